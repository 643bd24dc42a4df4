/- Texts of the proof, part 1: K1 K2 K3 K4 K5 K6 K7 K8 K9 K10 K11 D1 K12 K13 K14 D2 P1. -/
import Derived.Tactics
import Derived.Scope
import Derived.Orders
import Derived.TacticsIn
import Derived.OrdersIn
import Derived.RangeFuncRecord
import Derived.Laws.Cells
import Derived.Laws.OwnMore
import Derived.Laws.MakeOwn
import Derived.Laws.Rows
import Derived.Deep.OwnRows
import Derived.Laws.StructEq
import Derived.Laws.Cover3
import Derived.Laws.Tables
import Derived.Laws.Slices
import Derived.Laws.IdiomCopy
import Derived.Laws.CopyOwn
import Derived.KernelRfl
set_option linter.unusedSimpArgs false
set_option linter.unusedVariables false
namespace Go.Proofs.YtnmdhmfofbfkjaaGreat
abbrev iE:=Nat→Option Obj
def l5(M M':iE):Prop:=∀b o,M b=some o→M' b=some o
theorem l5.refl(M:iE):l5 M M:=fun _ _ h=>h
theorem l5.trans{A B C:iE}(h:l5 A B)(k:l5 B C):l5 A C:=fun b o x=>k b o (h b o x)
def sY(M:iE)(b i:Nat):Option Value:=
 match M b with
 |some (.cells c _ _)=>c[i]?
 |_=>none
theorem aFp{M M':iE}(h:l5 M M'){b i:Nat}{v:Value}(hc:sY M b i=some v):sY M' b i=some v:=by
 unfold sY at *;cases hb:M b with
 |none=>rw[hb]at hc;cases hc
 |some o=>rw[hb]at hc;rw[h b o hb];exact hc
def mlc(M M':iE):Prop:=∀b i v,sY M b i=some v→sY M' b i=some v
theorem l5.c{M M':iE}(h:l5 M M'):mlc M M':=fun _ _ _=>aFp h
theorem mlc.trans{A B C:iE}(h:mlc A B)(k:mlc B C):mlc A C:=fun b i v x=>k b i v (h b i v x)
structure CP where
 h:iE→Value→Prop
 monoc:∀{M M' v},mlc M M'→h M v→h M' v
 one:∀{M v},h M v→v.oneCell'=true
def bC(M:iE):List CP→List Value→Prop
 |[],[]=>True
 |p::ps,v::vs=>p.h M v∧bC M ps vs
 |_,_=>False
theorem bC.len{M:iE}:∀{ps:List CP} {vs:List Value},bC M ps vs→vs.length=ps.length
 |[],[],_=>rfl
 |_::_,_::_,h=>by simp[bC.len h.2]
 |[],_::_,h=>h.elim
 |_::_,[],h=>h.elim
theorem bC.monoc{M M':iE}(hm:mlc M M'):∀{ps:List CP} {vs:List Value},bC M ps vs→bC M' ps vs
 |[],[],_=>trivial
 |p::_,_::_,h=>⟨p.monoc hm h.1,bC.monoc hm h.2⟩
 |[],_::_,h=>h.elim
 |_::_,[],h=>h.elim
theorem bC.mono{M M':iE}(hm:l5 M M'){ps:List CP}{vs:List Value}(h:bC M ps vs):bC M' ps vs:=h.monoc hm.c
theorem bC.one{M:iE}:∀{ps:List CP} {vs:List Value},bC M ps vs→∀v∈vs,v.oneCell'=true
 |[],[],_=>by simp
 |p::_,v::_,h=>by
  intro u hu;rcases List.mem_cons.1 hu with rfl|hu
  ·exact p.one h.1
  ·exact bC.one h.2 u hu
 |[],_::_,h=>h.elim
 |_::_,[],h=>h.elim
theorem bC.app{M:iE}:∀{ps qs:List CP} {vs us:List Value},bC M ps vs→bC M qs us→bC M (ps++qs) (vs++us)
 |[],_,[],_,_,h=>h
 |_::_,_,_::_,_,h,k=>⟨h.1,bC.app h.2 k⟩
 |[],_,_::_,_,h,_=>h.elim
 |_::_,_,[],_,h,_=>h.elim
theorem bC.take{M:iE}:∀(n:Nat) {ps:List CP} {vs:List Value},bC M ps vs→bC M (ps.take n) (vs.take n)
 |0,_,_,_=>by simp[bC]
 |_+1,[],[],_=>trivial
 |n+1,_::_,_::_,h=>⟨h.1,bC.take n h.2⟩
 |_+1,[],_::_,h=>h.elim
 |_+1,_::_,[],h=>h.elim
theorem bC.drop{M:iE}:∀(n:Nat) {ps:List CP} {vs:List Value},bC M ps vs→bC M (ps.drop n) (vs.drop n)
 |0,_,_,h=>by simpa using h
 |_+1,[],[],_=>trivial
 |n+1,_::_,_::_,h=>bC.drop n h.2
 |_+1,[],_::_,h=>h.elim
 |_+1,_::_,[],h=>h.elim
theorem bC.at{M:iE}:∀{ps:List CP} {vs:List Value} (i:Nat) {p:CP},bC M ps vs→ps[i]?=some p→∃v,vs[i]?=some v∧p.h M v
 |[],_,i,_,_,h=>by simp at h
 |q::ps,v::vs,0,p,h,e=>by
  simp at e;subst e;exact⟨v,rfl,h.1⟩
 |q::ps,v::vs,i+1,p,h,e=>by
  have:=bC.at (ps:=ps) (vs:=vs) i (p:=p) h.2 (by simpa using e);simpa using this
 |_::_,[],_,_,h,_=>h.elim
inductive VP
 |vc (p:CP)
 |va (ps:List CP)
 |t2 (x y:VP)
 |t3 (x y z:VP)
 |t4 (x y z u:VP)
 |any
 |un
def VP.h:VP→iE→Value→Prop
 | .vc p,M,v=>p.h M v
 | .va ps,M,v=>∃vs:List Value,v=.agg vs.toArray∧bC M ps vs
 | .t2 x y,M,v=>∃a b,v=.tuple #[a,b]∧x.h M a∧y.h M b
 | .t3 x y z,M,v=>∃a b c,v=.tuple #[a,b,c]∧x.h M a∧y.h M b∧z.h M c
 | .t4 x y z u,M,v=>∃a b c d,v=.tuple #[a,b,c,d]∧x.h M a∧y.h M b∧z.h M c∧u.h M d
 | .any,_,_=>True
 | .un,_,v=>v=undef
theorem VP.monoc{M M':iE}(hm:mlc M M'):∀{p:VP} {v:Value},p.h M v→p.h M' v
 | .vc p,_,h=>p.monoc hm h
 | .va _,_,⟨vs,e,h⟩=>⟨vs,e,bC.monoc hm h⟩
 | .t2 x y,_,⟨a,b,e,h,k⟩=>⟨a,b,e,VP.monoc hm h,VP.monoc hm k⟩
 | .t3 x y z,_,⟨a,b,c,e,h,k,l⟩=>⟨a,b,c,e,VP.monoc hm h,VP.monoc hm k,VP.monoc hm l⟩
 | .t4 x y z u,_,⟨a,b,c,d,e,h,k,l,m⟩=>⟨a,b,c,d,e,VP.monoc hm h,VP.monoc hm k,VP.monoc hm l,VP.monoc hm m⟩
 | .any,_,_=>trivial
 | .un,_,h=>h
theorem VP.mono{M M':iE}(hm:l5 M M'){p:VP}{v:Value}(h:p.h M v):p.h M' v:=VP.monoc hm.c h
def VP.cells:VP→List CP
 | .vc p=>[p]
 | .va ps=>ps
 |_=>[]
def VP.flat:VP→Prop
 | .vc _=>True
 | .va _=>True
 |_=>False
theorem VP.cells_of{M:iE}{p:VP}{v:Value}(hf:p.flat)(h:p.h M v):bC M p.cells v.cells.toList:=by
 cases p with
 |vc p=>
  have h1:v.oneCell'=true:=p.one h;have:v.cells=#[v]:=by cases v<;>first|rfl|simp[Value.oneCell']at h1
  rw[this];exact⟨h,trivial⟩
 |va ps=>obtain⟨vs,rfl,h⟩:=h;simpa [Value.cells,VP.cells] using h
 |_=>exact hf.elim
def sv(β:Option Nat)(n c:Nat):Value:=.slice (β.map fun b=>⟨b,0,none⟩) n c
structure HA where
 β:Option Nat
 c:Nat
 T:TypeId
 sz:Nat
 n:Nat
 ps:List CP
def HA.ok(e:HA)(M:iE)(w:World):Prop:=
 (∃vs,w.ownsRow 0 e.T e.sz (sv e.β e.n e.c) e.n vs∧bC M e.ps vs)∧∀b,e.β=some b→M b=none
def Mok(M:iE)(w:World):Prop:=∀b o,M b=some o→w.heap[b]?=some o
structure NX where
 n:Nat
 fr:Nat→Prop
 rd:Option Nat
 rc:Option (Nat×Obj)
instance:Coe NX Nat:=⟨NX.n⟩
instance:Coe Nat NX:=⟨fun n=>⟨n,fun _=>False,none,none⟩⟩
instance (k:Nat):OfNat NX k:=⟨⟨k,fun _=>False,none,none⟩⟩
structure Sx where
 P:Program
 w0:World
 M0:iE
 B:List Nat
 N:NX
abbrev Fw (rd:Option Nat):Fence:={Fence.wide with round:=rd}
abbrev Sx.F (S:Sx):Fence:=Fw S.N.rd
def MK(N:NX)(M:iE)(ds:List Deferred):Prop:=
 (∀d∈ds,∃D,d={target:=.collected D,args:=#[]}∧N.fr D∧M D=some (.deferred (some [])))∧ds.Nodup∧∀l o,N.rc=some (l,o)→M l=some o
theorem MK.mono{N:NX}{M M':iE}{ds:List Deferred}(h:MK N M ds)(hm:l5 M M'):MK N M' ds:=
 ⟨fun d f=>let ⟨D,j,k,q⟩:=h.1 d f;⟨D,j,k,hm _ _ q⟩,h.2.1,fun l o e=>hm _ _ (h.2.2 l o e)⟩
structure St (S:Sx) (M:iE) (w:World) (H:List HA):Prop where
 le0:l5 S.M0 M
 mem:Mok M w
 keep:∀b,b<S.w0.heap.size→b∉S.B→w.heap[b]?=S.w0.heap[b]?
 new:∀b,b<S.w0.heap.size→b∉S.B→M b=S.M0 b
 size:S.w0.heap.size≤w.heap.size
 os:w.os=S.w0.os
 tape:w.tape=S.w0.tape
 output:w.output=S.w0.output
 own:∀e∈H,e.ok M w
 fresh:∀e∈H,∀b,e.β=some b→S.w0.heap.size≤b∨b∈S.B
 nodup:(H.filterMap HA.β).Nodup
theorem St.cell{S:Sx}{M:iE}{w:World}{H:List HA}(h:St S M w H){b i:Nat}{v:Value}(hc:sY M b i=some v):w.cell? ⟨b,i,none⟩=some v:=by
 unfold sY at hc;cases hb:M b with
 |none=>rw[hb]at hc;cases hc
 |some o=>
  rw[hb]at hc;have:=h.mem b o hb;unfold World.cell?;rw[this];cases o<;>simp_all
theorem vW{a b:Nat}(h:¬a=b):Nat.beq a b=false:=by
 cases hb:Nat.beq a b
 ·rfl
 ·exact absurd (Nat.eq_of_beq_eq_true hb) h
abbrev nV:=List (Nat×VP)
def iQ:nV→Nat→Option VP
 |[],_=>none
 |(d,p)::l,x=>bif Nat.beq d x then some p else iQ l x
structure Sat (N:NX) (M:iE) (a:Act) (E:nV):Prop where
 size:a.tmps.size=N.n
 defers:MK N M a.defers
 get:∀d p,iQ E d=some p→∃v,a.tmps[d]?=some v∧p.h M v
theorem Sat.mono{N:NX}{M M':iE}{a:Act}{E:nV}(h:Sat N M a E)(hm:l5 M M'):Sat N M' a E:=
 ⟨h.size,h.defers.mono hm,fun d p f=>let ⟨v,e,k⟩:=h.get d p f;⟨v,e,VP.mono hm k⟩⟩
theorem Sat.put{N:NX}{M:iE}{a:Act}{E:nV}(h:Sat N M a E){d:Nat}{v:Value}{p:VP}(k:Nat.blt d N=true)(hp:p.h M v):Sat N M (a.put (some d) v) ((d,p)::E):=by
 have j:d<N.n:=by simpa using k
 refine⟨by simp[Act.put,h.size],h.defers,fun x q f=>?_⟩;by_cases e:d=x
 ·subst e;simp only[iQ,Nat.beq_refl,cond_true,Option.some.injEq]at f;subst f;exact⟨v,by simp[Act.put,h.size,j],hp⟩
 ·have hb:Nat.beq d x=false:=vW e;simp only[iQ,hb,cond_false]at f;obtain⟨u,hu,s⟩:=h.get x q f;exact⟨u,by simp[Act.put,Array.getElem?_setIfInBounds_ne e,hu],s⟩
theorem r7{P:Program}{b:Frame}{a:Act}{k:List Item}{cs:List Frame}{w:World}{c:Code}:step P (lone (b.atR a (.code (.scope c)::k)) cs w)=.next (lone (b.atR a (.code c::.inScope c::k)) cs w):=
 step_lone_go (by simp[stepG,stepG.exec,Frame.atR])
theorem aCO{P:Program}{b:Frame}{a:Act}{k:List Item}{cs:List Frame}{w:World}{c:Code}:step P (lone (b.atR a (.inScope c::k)) cs w)=.next (lone (b.atR a k) cs w):=
 step_lone_go (by simp[stepG,stepG.exec,Frame.atR])
theorem zG{F:Fence}{n:Nat}{P:Program}{Q:Exit→Act→World→Prop}{a:Act}{w:World}{c:Code}(h:c.wpIn F n P (Exit.noGoto Q) a w):(Code.scope c).wpIn F n P Q a w:=by
 intro b k cs hro hb hr;have f:(lone (b.atR a (.code (.scope c)::k)) cs w).fenced P F:=fenced_calm hb hr rfl;obtain⟨e,a₁,w₁,j,harr⟩:=h b (.inScope c::k) cs hro hb hr;cases e with
 |normal=>exact⟨.normal,a₁,w₁,j,.head f r7 (StepsIn.trans harr (.one (fenced_calm hb hr rfl) aCO))⟩
 |exit id=>
  have t:exitTo id (.inScope c::k)=exitTo id k:=by simp[exitTo]
  exact⟨.exit id,a₁,w₁,j,fun u q=>.head f r7 (harr.1 u (by rw[t];exact q)),fun s q=>let ⟨k₁,x,y⟩:=harr.2 s (by rw[t];exact q);⟨k₁,x,.head f r7 y⟩⟩
 |goto l=>exact j.elim
 |ret=>exact⟨_,a₁,w₁,j,.of_steps (.one f r7) harr⟩
 |panic ch=>exact⟨_,a₁,w₁,j,.of_steps (.one f r7) harr⟩
 |outgrown=>exact⟨_,a₁,w₁,j,.of_steps (.one f r7) harr⟩
inductive Kt
 |base (Q:Exit→Act→World→Prop)
 |seq (y:Code) (k:Kt)
 |blk (id:Nat) (k:Kt)
 |lp (I:Act→World→Prop) (k:Kt)
 |sc (k:Kt)
def Kt.den(F:Fence)(P:Program):Kt→Exit→Act→World→Prop
 | .base Q=>Q
 | .seq y k=>Exit.then (y.wpIn F 0 P (k.den F P)) (k.den F P)
 | .blk id k=>Exit.inBlock id (k.den F P)
 | .lp I k=>Exit.then I (k.den F P)
 | .sc k=>Exit.noGoto (k.den F P)
def Kt.to(e:Exit):Kt→Exit×Kt
 | .base Q=>(e,.base Q)
 | .seq _ k=>k.to e
 | .lp _ k=>k.to e
 | .sc k=>k.to e
 | .blk id k=>match e with
  | .exit x=>bif Nat.beq x id then(.normal,k) else k.to e
  |_=>k.to e
def hs(S:Sx)(H:List HA)(E:nV)(a:Act)(w:World):Prop:=∃M,St S M w H∧Sat S.N M a E
def WC(S:Sx)(c:Code)(κ:Kt)(H:List HA)(E:nV):Prop:=∀a w,hs S H E a w→c.wpIn S.F 0 S.P (κ.den S.F S.P) a w
def WX(S:Sx)(e:Exit)(κ:Kt)(H:List HA)(E:nV):Prop:=∀a w,hs S H E a w→κ.den S.F S.P e a w
def WL(S:Sx)(ops:Array Oper)(κ:Kt)(r:List Oper)(H:List HA)(E:nV):Prop:=∀a w,hs S H E a w→wpListIn S.F 0 S.P ops (κ.den S.F S.P) r a w
section
variable {S:Sx} {κ:Kt} {H:List HA} {E:nV}
theorem aG{x y:Code}(h:WC S x (.seq y κ) H E):WC S (.seq x y) κ H E:=fun a w hh=>wpIn_seq (h a w hh)
theorem aC{y:Code}(h:WC S y κ H E):WX S .normal (.seq y κ) H E:=fun a w hh=>h a w hh
theorem fG(h:WX S .normal κ H E):WC S .skip κ H E:=fun a w hh=>wpIn_skip (h a w hh)
theorem aKb{l:Nat}(h:WX S .normal κ H E):WC S (.label l) κ H E:=fun a w hh=>wpIn_label (h a w hh)
theorem aO{id:Nat}{c:Code}(h:WC S c (.blk id κ) H E):WC S (.block id c) κ H E:=fun a w hh=>wpIn_block (h a w hh)
theorem tR{id:Nat}(h:WX S .normal κ H E):WX S .normal (.blk id κ) H E:=fun a w hh=>h a w hh
theorem aGt{c:Code}(h:WC S c (.sc κ) H E):WC S (.scope c) κ H E:=fun a w hh=>zG (h a w hh)
theorem aNu(h:WX S .normal κ H E):WX S .normal (.sc κ) H E:=fun a w hh=>h a w hh
theorem aLV{id:Nat}(h:WX S (.exit id) κ H E):WC S (.exit id) κ H E:=fun a w hh=>wpIn_exit (h a w hh)
theorem bW(h:WX S .ret κ H E):WC S .ret κ H E:=fun a w hh=>wpIn_ret (h a w hh)
theorem Kt.to_den{F:Fence}{P:Program}{e:Exit}(he:e≠.normal)(f:∀l,e≠.goto l)(a:Act)(w:World):∀(κ:Kt),(κ.to e).2.den F P (κ.to e).1 a w→κ.den F P e a w
 | .base Q,h=>h
 | .seq y k,h=>by
  have:=Kt.to_den he f a w k h;cases e<;>first|exact this|exact absurd rfl he
 | .lp I k,h=>by
  have:=Kt.to_den he f a w k h;cases e<;>first|exact this|exact absurd rfl he
 | .sc k,h=>by
  have:=Kt.to_den he f a w k h;cases e with
  |goto l=>exact absurd rfl (f l)
  |_=>exact this
 | .blk id k,h=>by
  cases e with
  |exit x=>
   by_cases j:x=id
   ·subst j;simp only[Kt.to,Nat.beq_refl,cond_true]at h;simpa [Kt.den,Exit.inBlock] using h
   ·have hb:Nat.beq x id=false:=vW j;simp only[Kt.to,hb,cond_false]at h;simpa [Kt.den,Exit.inBlock,j] using Kt.to_den he f a w k h
  |normal=>exact absurd rfl he
  |ret=>exact Kt.to_den he f a w k h
  |goto l=>exact Kt.to_den he f a w k h
  |panic ch=>exact Kt.to_den he f a w k h
  |outgrown=>exact Kt.to_den he f a w k h
theorem aNm{id:Nat}(h:WX S (κ.to (.exit id)).1 (κ.to (.exit id)).2 H E):WX S (.exit id) κ H E:=fun a w hh=>Kt.to_den (by simp) (by simp) a w κ (h a w hh)
theorem bV(h:WX S (κ.to .ret).1 (κ.to .ret).2 H E):WX S .ret κ H E:=fun a w hh=>Kt.to_den (by simp) (by simp) a w κ (h a w hh)
theorem cO{id:Nat}(h:WX S (κ.to (.exit id)).1 (κ.to (.exit id)).2 H E):WC S (.exit id) κ H E:=aLV (aNm h)
theorem aH{id:Nat}{l:List Oper}(h:WL S l.toArray κ l H E):WC S (.region id l.toArray false) κ H E:=fun a w hh=>wpIn_region_lit (h a w hh)
theorem aJ{ops:Array Oper}(h:WX S .normal κ H E):WL S ops κ [] H E:=fun a w hh=>wpListIn_nil (h a w hh)
theorem aMg{body:Code}(I:Nat→Act→World→Prop)(q:∀a w,¬I 0 a w)
  (step:∀k a w,I (k+1) a w→body.wpIn S.F 0 S.P ((Kt.lp (I k) κ).den S.F S.P) a w):∀k a w,I k a w→(Code.loop body).wpIn S.F 0 S.P (κ.den S.F S.P) a w:=by
 intro k a w s b kk cs hro hb hr;have key:∀n a w,I n a w→
   ∃e j w',κ.den S.F S.P e j w'∧ArrivesIn (Machine.fenced S.P S.F) S.P (lone (b.atR a (.code body::.inLoop body::kk)) cs w) b kk cs e j w':=by
  intro n
  induction n with
  |zero=>intro a w h;exact absurd h (q a w)
  |succ n ih=>
   intro a w h;obtain⟨e,a₁,w₁,f,harr⟩:=step n a w h b (.inLoop body::kk) cs hro hb hr;cases e with
   |normal=>
    obtain⟨e₂,a₂,w₂,hq₂,harr₂⟩:=ih a₁ w₁ f;exact⟨e₂,a₂,w₂,hq₂,.of_steps (StepsIn.trans harr (.one (fenced_calm hb hr rfl) stepR_inLoop)) harr₂⟩
   |exit id=>exact⟨_,a₁,w₁,f,.pass (x:=.inLoop body) rfl (fun _ _=>.inl (by simp)) harr⟩
   |goto l=>exact⟨_,a₁,w₁,f,.pass (x:=.inLoop body) rfl (fun _ _=>.inl (by simp)) harr⟩
   |ret=>exact⟨_,a₁,w₁,f,.pass (x:=.inLoop body) rfl (fun _ _=>.inl (by simp)) harr⟩
   |panic ch=>exact⟨_,a₁,w₁,f,.pass (x:=.inLoop body) rfl (fun _ _=>.inl (by simp)) harr⟩
   |outgrown=>exact⟨_,a₁,w₁,f,.pass (x:=.inLoop body) rfl (fun _ _=>.inl (by simp)) harr⟩
 obtain⟨e,j,w',f,harr⟩:=key k a w s;exact⟨e,j,w',f,.of_steps (.one (fenced_calm hb hr rfl) stepR_loop) harr⟩
def aB6(E:nV):nV→Prop
 |[]=>True
 |(d,p)::l=>iQ E d=some p∧aB6 E l
theorem aB6.get{E:nV}:∀{E':nV},aB6 E E'→∀d p,iQ E' d=some p→iQ E d=some p
 |[],_,d,p,h=>by simp[iQ]at h
 |(x,q)::l,hs,d,p,h=>by
  by_cases e:x=d
  ·subst e;simp only[iQ,Nat.beq_refl,cond_true,Option.some.injEq]at h;subst h;exact hs.1
  ·have hb:Nat.beq x d=false:=vW e;simp only[iQ,hb,cond_false]at h;exact aB6.get hs.2 d p h
def dS(H:List HA):List Nat→Option (List HA)
 |[]=>some []
 |i::l=>match H[i]?,dS H l with
  |some e,some r=>some (e::r)
  |_,_=>none
theorem kI{H:List HA}:∀{l:List Nat} {H':List HA},dS H l=some H'→∀(j:Nat) (e:HA),H'[j]?=some e→∃i:Nat,l[j]?=some i∧H[i]?=some e
 |[],H',h,j,e,he=>by simp[dS]at h;subst h;simp at he
 |i::l,H',h,j,e,he=>by
  simp only[dS]at h;cases f:H[i]? with
  |none=>rw[f]at h;simp at h
  |some x=>
   cases k:dS H l with
   |none=>rw[f,k]at h;simp at h
   |some r=>
    rw[f,k]at h;simp only[Option.some.injEq]at h;subst h;cases j with
    |zero=>simp at he;subst he;exact⟨i,rfl,f⟩
    |succ j=>
     obtain⟨s,t,q⟩:=kI k j e (by simpa using he);exact⟨s,by simpa using t,q⟩
theorem aDi{α:Type}{l:List α}(h:l.Nodup){i j:Nat}{x:α}(k:l[i]?=some x)(q:l[j]?=some x):i=j:=by
 obtain⟨e,hix⟩:=List.getElem?_eq_some_iff.1 k;obtain⟨f,hjx⟩:=List.getElem?_eq_some_iff.1 q;have:=(List.pairwise_iff_getElem.1 h);rcases Nat.lt_trichotomy i j with hlt|rfl|hlt
 ·exact absurd (hix.trans hjx.symm) (this i j e f hlt)
 ·rfl
 ·exact absurd (hjx.trans hix.symm) (this j i f e hlt)
theorem uE{H:List HA}(f:(H.filterMap HA.β).Nodup):∀{i j:Nat} {x y:HA} {b:Nat},H[i]?=some x→H[j]?=some y→x.β=some b→y.β=some b→i=j:=by
 induction H with
 |nil=>intro i j x y b h;simp at h
 |cons e H ih=>
  intro i j x y b q s t u;have hmem:∀(k:Nat) (z:HA),H[k]?=some z→z.β=some b→b∈H.filterMap HA.β:=fun k z G I=>List.mem_filterMap.2 ⟨z,List.mem_of_getElem? G,I⟩
  cases i with
  |zero=>
   cases j with
   |zero=>rfl
   |succ j=>
    simp at q s;subst q;rw[List.filterMap_cons_some t]at f;exact absurd (hmem j y s u) (List.nodup_cons.1 f).1
  |succ i=>
   cases j with
   |zero=>
    simp at q s;subst s;rw[List.filterMap_cons_some u]at f;exact absurd (hmem i x q t) (List.nodup_cons.1 f).1
   |succ j=>
    simp at q s;have F:(H.filterMap HA.β).Nodup:=by
     cases he:e.β with
     |none=>rwa [List.filterMap_cons_none he]at f
     |some c=>rw[List.filterMap_cons_some he]at f;exact(List.nodup_cons.1 f).2
    exact congrArg (·+1) (ih F q s t u)
theorem tI{H:List HA}(h:∀{i j:Nat} {x y:HA} {b:Nat},H[i]?=some x→H[j]?=some y→x.β=some b→y.β=some b→i=j):(H.filterMap HA.β).Nodup:=by
 induction H with
 |nil=>simp
 |cons e H ih=>
  have ih':=ih (fun {i j x y b} f q s t=>by have:=h (i:=i+1) (j:=j+1) (by simpa using f) (by simpa using q) s t;omega);cases he:e.β with
  |none=>rwa [List.filterMap_cons_none he]
  |some b=>
   rw[List.filterMap_cons_some he];refine List.nodup_cons.2 ⟨fun hm=>?_,ih'⟩;obtain⟨z,u,hzb⟩:=List.mem_filterMap.1 hm;obtain⟨k,F,hkz⟩:=List.getElem_of_mem u;have:=h (i:=0) (j:=k+1) (x:=e) (y:=z) (b:=b) (by simp) (by simp[F,hkz]) he hzb;omega
theorem St.pick{M:iE}{w:World}{H H':List HA}{l:List Nat}(h:St S M w H)(hp:dS H l=some H')(t:l.Nodup):St S M w H' where
 le0:=h.le0
 mem:=h.mem
 keep:=h.keep
 new:=h.new
 size:=h.size
 os:=h.os
 tape:=h.tape
 output:=h.output
 own:=fun e he=>by
  obtain⟨j,f,hje⟩:=List.getElem_of_mem he;obtain⟨i,_,k⟩:=kI hp j e (by simp[f,hje]);exact h.own e (List.mem_of_getElem? k)
 fresh:=fun e he=>by
  obtain⟨j,f,hje⟩:=List.getElem_of_mem he;obtain⟨i,_,k⟩:=kI hp j e (by simp[f,hje]);exact h.fresh e (List.mem_of_getElem? k)
 nodup:=tI fun {i j x y b} k f u z=>by
  obtain⟨F,q,hxi⟩:=kI hp i x k;obtain⟨G,s,hyj⟩:=kI hp j y f;have:=uE h.nodup hxi hyj u z;subst this;exact aDi t q s
theorem qA{H H':List HA}{E E':nV}(l:List Nat)(hp:dS H l=some H')(f:l.Nodup)(j:aB6 E E'){a:Act}{w:World}(h:hs S H E a w):hs S H' E' a w:=by
 obtain⟨M,k,e⟩:=h;exact⟨M,k.pick hp f,e.size,e.defers,fun d p q=>e.get d p (j.get d p q)⟩
theorem aMb{e:Exit}{H H':List HA}{E E':nV}(l:List Nat)(hp:dS H l=some H')(f:l.Nodup)(j:aB6 E E')(h:WX S e κ H' E'):WX S e κ H E:=fun a w hh=>h a w (qA l hp f j hh)
theorem aN{I:Act→World→Prop}(h:∀a w,hs S H E a w→I a w):WX S .normal (.lp I κ) H E:=fun a w hh=>h a w hh
theorem aMq{t:Nat}{b:Bool}{p:CP}{x y:Code}(f:iQ E t=some (.vc p))(hp:∀M v,p.h M v→v=Value.bool b)(j:b=true→WC S x κ H E)(q:b=false→WC S y κ H E):WC S (.cond (.tmp t) x y) κ H E:=by
 intro a w hh;have hv:a.eval (.tmp t)=.bool b:=by
  obtain⟨M,_,s⟩:=hh;obtain⟨v,e,k⟩:=s.get t _ f;have:=hp M v k;subst this;simp[Act.eval,e]
 exact wpIn_cond_split hv (fun e=>j e a w hh) (fun e=>q e a w hh)
end
def pI(k:IntKind)(x:Int):CP:=⟨fun _ v=>v=.int k x,fun _ h=>h,fun h=>by subst h;rfl⟩
def pB(b:Bool):CP:=⟨fun _ v=>v=.bool b,fun _ h=>h,fun h=>by subst h;rfl⟩
def pP(β:Option Nat)(off:Nat):CP:=⟨fun _ v=>∃b,β=some b∧v=.pointer (some ⟨b,off,none⟩),fun _ h=>h,fun h=>by obtain⟨b,_,rfl⟩:=h;rfl⟩
def pO(β:Option Nat)(n c:Nat):CP:=⟨fun _ v=>v=sv β n c∨(β=none∧n=0∧c=0∧∃a,v=.slice (some a) 0 0),fun _ h=>h,fun h=>by rcases h with rfl|⟨_,_,_,a,rfl⟩<;>rfl⟩
def pF(f:Nat)(ps:List CP):CP:=⟨fun M v=>∃vs:List Value,v=.func (.func f) #[] vs.toArray∧bC M ps vs,fun hm ⟨vs,e,h⟩=>⟨vs,e,bC.monoc hm h⟩,fun h=>by obtain⟨vs,rfl,_⟩:=h;rfl⟩
def aM7:CP:=⟨fun _ v=>v.oneCell'=true,fun _ h=>h,fun h=>h⟩
def vU(M:iE)(b o:Nat)(ps:List CP):Prop:=∃vs,bC M ps vs∧∀(t:Nat) u,vs[t]?=some u→sY M b (o+t)=some u
theorem vU.monoc{M M':iE}(hm:mlc M M'){b o:Nat}{ps:List CP}(h:vU M b o ps):vU M' b o ps:=
 let ⟨vs,f,j⟩:=h;⟨vs,bC.monoc hm f,fun t u e=>hm _ _ _ (j t u e)⟩
theorem vU.drop{M:iE}{b o:Nat}{ps:List CP}(k:Nat)(h:vU M b o ps):vU M b (o+k) (ps.drop k):=by
 obtain⟨vs,f,j⟩:=h;refine⟨vs.drop k,f.drop k,fun t u e=>?_⟩;rw[List.getElem?_drop]at e;have:=j _ u e
 rwa [←Nat.add_assoc]at this
def pM(ps:List CP):CP:=⟨fun M v=>∃b o,v=.pointer (some ⟨b,o,none⟩)∧vU M b o ps,fun hm ⟨b,o,e,h⟩=>⟨b,o,e,h.monoc hm⟩,fun h=>by obtain⟨b,o,rfl,_⟩:=h;rfl⟩
structure Cd (α:Type) where
 n:Nat
 e:α→List CP
 len:∀x,(e x).length=n
def xM:Nat:=9223372036854775807
def pS{α:Type}(C:Cd α)(xs:List α):CP:=
 ⟨fun M v=>∃p c,v=.slice p xs.length c∧xs.length≤xM∧xs.length≤c∧∀(j:Nat) x,xs[j]?=some x→∃b o,p=some ⟨b,o,none⟩∧vU M b (o+j*C.n) (C.e x),
  fun hm ⟨p,c,e,f,k,q⟩=>⟨p,c,e,f,k,fun j x s=>let ⟨b,o,t,u⟩:=q j x s;⟨b,o,t,u.monoc hm⟩⟩,
  fun h=>by obtain⟨p,c,rfl,_⟩:=h;rfl⟩
def flat{α:Type}(C:Cd α)(xs:List α):List CP:=xs.flatMap C.e
theorem aBP{α:Type}(C:Cd α)(xs:List α):(flat C xs).length=xs.length*C.n:=by
 induction xs with
 |nil=>simp[flat]
 |cons x xs ih=>simp only[flat,List.flatMap_cons,List.length_append,List.length_cons]at *;rw[ih,C.len,Nat.add_mul];omega
theorem yZ{α:Type}(C:Cd α)(xs:List α):∀(j:Nat) (x:α),xs[j]?=some x→((flat C xs).drop (j*C.n)).take C.n=C.e x:=by
 induction xs with
 |nil=>intro j x h;simp at h
 |cons y ys ih=>
  intro j x h;simp only[flat,List.flatMap_cons];cases j with
  |zero=>
   simp only[List.getElem?_cons_zero,Option.some.injEq]at h;subst h;have e:C.n=(C.e y).length:=(C.len y).symm;rw[Nat.zero_mul,List.drop_zero,e,List.take_left]
  |succ j=>
   simp only[List.getElem?_cons_succ]at h;have:=ih j x h;rw[Nat.add_mul,Nat.one_mul,Nat.add_comm,←List.drop_drop];have e:C.n=(C.e y).length:=(C.len y).symm
   conv=>lhs;rw[show List.drop C.n (C.e y++List.flatMap C.e ys)=List.flatMap C.e ys by rw[e];exact List.drop_left]
   exact this
theorem aCw{α:Type}(C:Cd α)(xs ys:List α):flat C (xs++ys)=flat C xs++flat C ys:=by simp[flat]
theorem aI8(β:Option Nat)(n c:Nat):(sv β n c).ownBlock=β:=by cases β<;>rfl
theorem aL4{w:World}{e:TypeId}{sz n c b:Nat}{vs:List Value}(h:w.ownsRow 0 e sz (sv (some b) n c) n vs):b<w.heap.size:=(h.lt b rfl).2
theorem HA.ok.kept{e:HA}{M:iE}{w w':World}{row:Option Nat}(h:e.ok M w)(f:w.grownBy w' row)(hne:∀b,e.β=some b→row≠some b):e.ok M w':=by
 obtain⟨⟨vs,j,k⟩,q⟩:=h;refine⟨⟨vs,j.kept f ?_,k⟩,q⟩;rw[aI8];cases hb:e.β with
 |none=>exact .inl rfl
 |some b=>exact .inr fun x=>hne b hb x.symm
theorem HA.ok.lt{e:HA}{M:iE}{w:World}(h:e.ok M w){b:Nat}(hb:e.β=some b):b<w.heap.size:=by
 obtain⟨⟨vs,f,_⟩,_⟩:=h;rw[hb]at f;exact aL4 f
theorem HA.ok.mem{e:HA}{M M':iE}{w:World}(h:e.ok M w)(hm:l5 M M')(f:∀b,e.β=some b→M' b=none):e.ok M' w:=
 let ⟨⟨vs,j,k⟩,_⟩:=h;⟨⟨vs,j,bC.mono hm k⟩,f⟩
theorem Mok.lt{M:iE}{w:World}(h:Mok M w){b:Nat}{o:Obj}(hb:M b=some o):b<w.heap.size:=(Array.getElem?_eq_some_iff.1 (h b o hb)).1
theorem Mok.none{M:iE}{w:World}(h:Mok M w){b:Nat}(hb:w.heap.size≤b):M b=none:=by
 cases e:M b with
 |none=>rfl
 |some o=>have:=h.lt e;omega
section
variable {S:Sx} {M:iE} {w:World} {H:List HA}
theorem St.put{w':World}{i:Nat}{e u:HA}(h:St S M w H)(I:H[i]?=some e)(F:w.grownBy w' e.β)(hok:u.ok M w')
  (hβ:u.β=e.β∨∀b,u.β=some b→w.heap.size≤b):St S M w' (H.set i u):=by
 have hmem:e∈H:=List.mem_of_getElem? I;have hil:i<H.length:=(List.getElem?_eq_some_iff.1 I).1;have hold:∀b,b<w.heap.size→e.β≠some b→w'.heap[b]?=w.heap[b]?:=fun b hb hne=>F.block b hb fun x=>hne x.symm
 have hget:∀(j:Nat) x,(H.set i u)[j]?=some x→(j=i∧x=u)∨(j≠i∧H[j]?=some x):=by
  intro j x f;rw[List.getElem?_set]at f;by_cases s:i=j
  ·subst s;simp[hil]at f;exact .inl ⟨rfl,f.symm⟩
  ·rw[if_neg s]at f;exact .inr ⟨fun e=>s e.symm,f⟩
 have hoth:∀(j:Nat) x,j≠i→H[j]?=some x→∀b,x.β=some b→e.β≠some b:=fun j x s f b hb he=>s (uE h.nodup f I hb he)
 refine⟨h.le0,fun b o hb=>?_,fun b hb hB=>?_,h.new,Nat.le_trans h.size F.size,F.os.trans h.os,F.tape.trans h.tape,F.output.trans h.output,fun x f=>?_,fun x f b hb=>?_,?_⟩
 ·rw[hold b (h.mem.lt hb) (fun he=>by have:=(h.own e hmem).2 b he;rw[this]at hb;cases hb)];exact h.mem b o hb
 ·rw[hold b (Nat.lt_of_lt_of_le hb h.size) (fun he=>by rcases h.fresh e hmem b he with t|t;omega;exact hB t)];exact h.keep b hb hB
 ·obtain⟨j,s⟩:=List.getElem?_of_mem f;rcases hget j x s with⟨_,rfl⟩|⟨hne,q⟩
  ·exact hok
  ·exact(h.own x (List.mem_of_getElem? q)).kept F (hoth j x hne q)
 ·obtain⟨j,s⟩:=List.getElem?_of_mem f;rcases hget j x s with⟨_,rfl⟩|⟨hne,q⟩
  ·rcases hβ with t|t
   ·exact h.fresh e hmem b (t▸hb)
   ·exact .inl (Nat.le_trans h.size (t b hb))
  ·exact h.fresh x (List.mem_of_getElem? q) b hb
 ·refine tI fun {j k x y b} s K f J=>?_
  have hdis:∀(j:Nat) x b,j≠i→H[j]?=some x→x.β=some b→u.β=some b→False:=by
   intro j x b hne f hb G;rcases hβ with t|t
   ·exact hoth j x hne f b hb (t▸G)
   ·have:=t b G;have:=(h.own x (List.mem_of_getElem? f)).lt hb;omega
  rcases hget j x s with⟨rfl,rfl⟩|⟨hne,q⟩
  ·rcases hget k y K with⟨rfl,_⟩|⟨hne',z⟩
   ·rfl
   ·exact(hdis k y b hne' z J f).elim
  ·rcases hget k y K with⟨rfl,rfl⟩|⟨hne',z⟩
   ·exact(hdis j x b hne q f J).elim
   ·exact uE h.nodup q z f J
theorem St.new_row{w':World}{e:HA}(h:St S M w H)(j:w.grownBy w' none)(hok:e.ok M w')(hβ:∀b,e.β=some b→w.heap.size≤b):St S M w' (e::H):=by
 have hold:∀b,b<w.heap.size→w'.heap[b]?=w.heap[b]?:=fun b hb=>j.block b hb (by simp)
 refine⟨h.le0,fun b o hb=>?_,fun b hb hB=>?_,h.new,Nat.le_trans h.size j.size,j.os.trans h.os,j.tape.trans h.tape,j.output.trans h.output,fun x f=>?_,fun x f b hb=>?_,?_⟩
 ·rw[hold b (h.mem.lt hb)];exact h.mem b o hb
 ·rw[hold b (Nat.lt_of_lt_of_le hb h.size)];exact h.keep b hb hB
 ·rcases List.mem_cons.1 f with rfl|f
  ·exact hok
  ·exact(h.own x f).kept j (fun b _=>by simp)
 ·rcases List.mem_cons.1 f with rfl|f
  ·exact .inl (Nat.le_trans h.size (hβ b hb))
  ·exact h.fresh x f b hb
 ·cases he:e.β with
  |none=>rw[List.filterMap_cons_none he];exact h.nodup
  |some b=>
   rw[List.filterMap_cons_some he];refine List.nodup_cons.2 ⟨fun hm=>?_,h.nodup⟩;obtain⟨z,k,hzb⟩:=List.mem_filterMap.1 hm;have:=(h.own z k).lt hzb;have:=hβ b he;omega
theorem St.same{w':World}(h:St S M w H)(hh:w'.heap=w.heap)(e:w'.os=w.os)(f:w'.tape=w.tape)(j:w'.output=w.output):St S M w' H:=by
 have k:w.grownBy w' none:=⟨e,f,j,by rw[hh];exact Nat.le_refl _,fun _ _ _=>by rw[hh]⟩;exact⟨h.le0,fun b o hb=>by rw[hh];exact h.mem b o hb,fun b hb hB=>by rw[hh];exact h.keep b hb hB,h.new,by rw[hh];exact h.size,e.trans h.os,f.trans h.tape,j.trans h.output,
  fun x q=>(h.own x q).kept k (fun b _=>by simp),h.fresh,h.nodup⟩
def frz(M:iE)(w:World)(β:Option Nat):iE:=fun b=>if β=some b then w.heap[b]? else M b
theorem St.freeze{i:Nat}{e:HA}(h:St S M w H)(F:H[i]?=some e)(hB:∀b,e.β=some b→b∉S.B∨True):l5 M (frz M w e.β)∧St S (frz M w e.β) w (H.eraseIdx i):=by
 have hmem:e∈H:=List.mem_of_getElem? F;have hle:l5 M (frz M w e.β):=by
  intro b o hb;unfold frz;rw[if_neg (fun he=>by have:=(h.own e hmem).2 b he;rw[this]at hb;cases hb)];exact hb
 have hget:∀(j:Nat) x,(H.eraseIdx i)[j]?=some x→∃k,k≠i∧H[k]?=some x∧k=(if j<i then j else j+1):=by
  intro j x f;rw[List.getElem?_eraseIdx]at f;by_cases s:j<i
  ·rw[if_pos s]at f;exact⟨j,by omega,f,by simp[s]⟩
  ·rw[if_neg s]at f;exact⟨j+1,by omega,f,by simp[s]⟩
 refine⟨hle,fun b o hb=>hle b o (h.le0 b o hb),fun b o hb=>?_,h.keep,fun b hb hB=>?_,h.size,h.os,h.tape,h.output,fun x f=>?_,fun x f b hb=>?_,?_⟩
 ·unfold frz at hb;split at hb
  ·exact hb
  ·exact h.mem b o hb
 ·unfold frz;rw[if_neg (fun he=>by rcases h.fresh e hmem b he with G|G;omega;exact hB G)];exact h.new b hb hB
 ·obtain⟨j,s⟩:=List.getElem?_of_mem f;obtain⟨k,t,q,_⟩:=hget j x s;refine(h.own x (List.mem_of_getElem? q)).mem hle fun b hb=>?_
  unfold frz;rw[if_neg (fun he=>t (uE h.nodup q F hb he))];exact(h.own x (List.mem_of_getElem? q)).2 b hb
 ·obtain⟨j,s⟩:=List.getElem?_of_mem f;obtain⟨k,t,q,_⟩:=hget j x s;exact h.fresh x (List.mem_of_getElem? q) b hb
 ·refine tI fun {j k x y b} s t f I=>?_
  obtain⟨L,_,u,J⟩:=hget j x s;obtain⟨O,_,z,K⟩:=hget k y t;have:=uE h.nodup u z f I;by_cases a1:j<i<;>by_cases a2:k<i<;>simp[a1,a2]at J K<;>omega
end
def aMc(M:iE)(a:Act)(x:Operand×VP):Prop:=x.2.h M (a.eval x.1)
def Ins(M:iE)(a:Act):List (Operand×VP)→Prop
 |[]=>True
 |x::l=>aMc M a x∧Ins M a l
def aBO(E:nV):Operand→VP→Prop
 | .tmp d,p=>iQ E d=some p
 | .const v,p=>∀M,p.h M v
 | .func f,p=>∀M,p.h M (.func (.func f) #[] #[])
 | .global _,_=>False
def tH(E:nV):List (Operand×VP)→Prop
 |[]=>True
 |(x,p)::l=>aBO E x p∧tH E l
theorem tH.ins{E:nV}{N:NX}{M:iE}{a:Act}(h:Sat N M a E):∀{l:List (Operand×VP)},tH E l→Ins M a l
 |[],_=>trivial
 |(x,p)::l,hs=>by
  refine⟨?_,tH.ins h hs.2⟩;have j:=hs.1;unfold aMc;cases x with
  |tmp d=>
   obtain⟨v,e,k⟩:=h.get d p j;simpa [Act.eval,e] using k
  |const v=>exact j M
  |func f=>exact j M
  |global g=>exact j.elim
structure Tr (S:Sx) (o:Oper) (H H':List HA) (ins:List (Operand×VP)) (out:VP):Prop where
 run:∀M w a,St S M w H→Ins M a ins→∀(K:Act→World→Prop) (Q:Exit→Act→World→Prop),
  (∀v M' w',l5 M M'→St S M' w' H'→out.h M' v→K (a.put o.dst v) w')→o.wpIn S.F 0 S.P a w K Q
structure Hv (S:Sx) (o:Oper) (H:List HA) (Post:Option Nat→Nat→List HA) (ins:List (Operand×VP)) (out:Option Nat→Nat→VP):Prop where
 run:∀M w a,St S M w H→Ins M a ins→∀(K:Act→World→Prop) (Q:Exit→Act→World→Prop),
  (∀v M' w' b c,l5 M M'→St S M' w' (Post b c)→(out b c).h M' v→K (a.put o.dst v) w')→o.wpIn S.F 0 S.P a w K Q
section
variable {S:Sx} {κ:Kt} {H H':List HA} {E:nV} {ops:Array Oper} {rest:List Oper} {o:Oper}
theorem aE{ins:List (Operand×VP)}{out:VP}{d:Nat}(t:Tr S o H H' ins out)(f:tH E ins)(k:WL S ops κ rest H' ((d,out)::E))
  (h:o.dst=some d:=by rfl)(j:o.guard=none:=by rfl)(q:Nat.blt d S.N=true:=by rfl):WL S ops κ (o::rest) H E:=by
 rintro a w ⟨M,s,e⟩;refine wpListIn_plain j fun K u=>t.run M w a s (tH.ins e f) K _ fun v M' w' hm hs hv=>u _ _ (k _ _ ⟨M',hs,?_⟩)
 rw[h];exact(e.mono hm).put q hv
theorem aDM{Post:Option Nat→Nat→List HA}{ins:List (Operand×VP)}{out:Option Nat→Nat→VP}{d:Nat}(t:Hv S o H Post ins out)(f:tH E ins)(k:∀b c,WL S ops κ rest (Post b c) ((d,out b c)::E))
  (h:o.dst=some d:=by rfl)(j:o.guard=none:=by rfl)(q:Nat.blt d S.N=true:=by rfl):WL S ops κ (o::rest) H E:=by
 rintro a w ⟨M,s,e⟩;refine wpListIn_plain j fun K u=>t.run M w a s (tH.ins e f) K _ fun v M' w' b c hm hs hv=>u _ _ (k b c _ _ ⟨M',hs,?_⟩)
 rw[h];exact(e.mono hm).put q hv
theorem aAQ{ins:List (Operand×VP)}{out:VP}(t:Tr S o H H' ins out):Hv S o H (fun _ _=>H') ins (fun _ _=>out):=
 ⟨fun M w a hs hin K Q e=>t.run M w a hs hin K Q fun v M' w' hm hst hv=>e v M' w' none 0 hm hst hv⟩
theorem aI9{Post:Option Nat→Nat→List HA}{ins:List (Operand×VP)}{out:Option Nat→Nat→VP}(b:Option Nat)(c:Nat)(t:Tr S o H (Post b c) ins (out b c)):Hv S o H Post ins out:=
 ⟨fun M w a hs hin K Q e=>t.run M w a hs hin K Q fun v M' w' hm hst hv=>e v M' w' b c hm hst hv⟩
theorem mU{ins:List (Operand×VP)}{out:VP}(t:Tr S o H H' ins out)(f:tH E ins)(k:WL S ops κ rest H' E)
  (h:o.dst=none:=by rfl)(j:o.guard=none:=by rfl):WL S ops κ (o::rest) H E:=by
 rintro a w ⟨M,q,e⟩;refine wpListIn_plain j fun K s=>t.run M w a q (tH.ins e f) K _ fun v M' w' hm hs hv=>s _ _ (k _ _ ⟨M',hs,?_⟩)
 rw[h];exact e.mono hm
theorem aAg{E:nV}{N:NX}{M:iE}{a:Act}(h:Sat N M a E){j d:Nat}{og:Oper}{b:Bool}(f:ops[j]?=some og)(q:og.dst=some d)(s:iQ E d=some (.vc (pB b))):yielded ops a.tmps j=some b:=by
 obtain⟨v,e,k⟩:=h.get d _ s;have:v=.bool b:=k;subst this;simp[yielded,f,q,e]
theorem aZ{ins:List (Operand×VP)}{out:VP}{d j dj:Nat}{b:Bool}{og:Oper}(t:Tr S o H H' ins out)(f:tH E ins)(k:WL S ops κ rest H' ((d,out)::E))
  (h:o.guard=some (j,b):=by rfl)(q:ops[j]?=some og:=by rfl)(hdj:og.dst=some dj:=by rfl)(s:iQ E dj=some (.vc (pB b)):=by rfl)
  (u:o.dst=some d:=by rfl)(x:Nat.blt d S.N=true:=by rfl):WL S ops κ (o::rest) H E:=by
 rintro a w ⟨M,y,e⟩;refine wpListIn_step fun K z=>?_
 rw[if_pos (by simp[Region.wanted,h,aAg e q hdj s])];refine t.run M w a y (tH.ins e f) K _ fun v M' w' hm hs hv=>z _ _ (k _ _ ⟨M',hs,?_⟩)
 rw[u];exact(e.mono hm).put x hv
theorem aQ{d j dj:Nat}{b b':Bool}{og:Oper}(k:WL S ops κ rest H ((d,.un)::E))
  (f:o.guard=some (j,b):=by rfl)(h:ops[j]?=some og:=by rfl)(hdj:og.dst=some dj:=by rfl)(q:iQ E dj=some (.vc (pB b')):=by rfl)(hb:(b' != b)=true:=by rfl)
  (s:o.dst=some d:=by rfl)(t:Nat.blt d S.N=true:=by rfl):WL S ops κ (o::rest) H E:=by
 rintro a w ⟨M,u,e⟩;refine wpListIn_step fun K x=>?_
 rw[if_neg (by simp[Region.wanted,f,aAg e h hdj q];simpa using hb)];refine⟨fun _ _=>trivial,x _ _ (k _ _ ⟨M,u,?_⟩)⟩;rw[s];exact e.put t rfl
theorem aFO{E:nV}{N:NX}{M:iE}{a:Act}(h:Sat N M a E){j d:Nat}{og:Oper}(f:ops[j]?=some og)(q:og.dst=some d)(s:iQ E d=some .un):yielded ops a.tmps j=none:=by
 obtain⟨v,e,k⟩:=h.get d _ s;have:v=undef:=k;subst this;simp[yielded,f,q,e,undef]
theorem tY{d j dj:Nat}{b:Bool}{og:Oper}(k:WL S ops κ rest H ((d,.un)::E))
  (f:o.guard=some (j,b):=by rfl)(h:ops[j]?=some og:=by rfl)(hdj:og.dst=some dj:=by rfl)(q:iQ E dj=some .un:=by rfl)
  (s:o.dst=some d:=by rfl)(t:Nat.blt d S.N=true:=by rfl):WL S ops κ (o::rest) H E:=by
 rintro a w ⟨M,u,e⟩;refine wpListIn_step fun K x=>?_
 rw[if_neg (by simp[Region.wanted,f,aFO e h hdj q])];refine⟨fun _ _=>trivial,x _ _ (k _ _ ⟨M,u,?_⟩)⟩;rw[s];exact e.put t rfl
theorem kR{d:Nat}{c:Bool}(e:c=true→WL S ops κ rest H ((d,.vc (pB true))::E))(f:c=false→WL S ops κ rest H ((d,.vc (pB false))::E)):WL S ops κ rest H ((d,.vc (pB c))::E):=by
 cases c
 ·exact f rfl
 ·exact e rfl
theorem aG6{α:Type}{C:Cd α}{xs:List α}{E:nV}{i:Nat}{β:Option Nat}{c T:Nat}{ds:List Nat}(I:H[i]?=some ⟨β,c,T,C.n,xs.length,flat C xs⟩)(L:xs.length≤xM)
  (hds:∀d∈ds,iQ E d=some (.vc (pO β xs.length c))){a:Act}{w:World}(h:hs S H E a w):
  hs S (H.eraseIdx i) (ds.map (fun d=>(d,VP.vc (pS C xs)))++E) a w:=by
 obtain⟨M,J,s⟩:=h;obtain⟨hle,hst⟩:=J.freeze I (fun _ _=>.inr trivial);refine⟨_,hst,s.size,s.defers.mono hle,fun x p f=>?_⟩;have key:∀ds:List Nat,(∀d∈ds,iQ E d=some (.vc (pO β xs.length c)))→iQ (ds.map (fun d=>(d,VP.vc (pS C xs)))++E) x=some p→∃v,a.tmps[x]?=some v∧p.h (frz M w β) v:=by
  intro ds
  induction ds with
  |nil=>intro _ f;exact(s.mono hle).get x p f
  |cons d ds ih=>
   intro K f;simp only[List.map_cons,List.cons_append,iQ]at f;by_cases e:d=x
   ·subst e;simp only[Nat.beq_refl,cond_true,Option.some.injEq]at f;subst f;obtain⟨v,hv,hp⟩:=s.get d _ (K d (by simp));refine⟨v,hv,?_⟩;rcases hp with z|⟨rfl,O,rfl,a0,rfl⟩
    rotate_left
    ·have F:xs=[]:=List.eq_nil_of_length_eq_zero O;subst F;exact⟨_,_,rfl,by simp,by simp,fun j x q=>by simp at q⟩
    subst z;obtain⟨⟨vs,how,hall⟩,_⟩:=J.own _ (List.mem_of_getElem? I);rcases how.2 with⟨y,U⟩|⟨g,cap,cur,y,_,V,hnc,_,hsz,htake⟩
    ·have F:xs=[]:=List.eq_nil_of_length_eq_zero U;subst F;refine⟨_,_,rfl,by simp,by simp,fun j x q=>by simp at q⟩
    ·cases β with
     |none=>simp[sv]at y
     |some b=>
      simp only[sv,Option.map_some,Value.slice.injEq,Option.some.injEq,Addr.mk.injEq,and_true,true_and]at y;obtain⟨rfl,rfl⟩:=y;refine⟨_,_,rfl,L,hnc,fun j x q=>⟨b,0,rfl,?_⟩⟩;refine⟨(vs.drop (j*C.n)).take C.n,?_,fun t u k=>?_⟩
      ·have:=((bC.mono hle hall).drop (j*C.n)).take C.n
       rwa [yZ C xs j x q]at this
      ·have hM:frz M w (some b) b=some (.cells cur T (0,0)):=by simp[frz,V]
       rw[List.getElem?_take]at k;split at k
       ·rename_i htn;rw[List.getElem?_drop]at k;simp only[sY,hM,Nat.zero_add];rw[←htake,List.getElem?_take]at k;split at k
        ·simpa using k
        ·cases k
       ·cases k
   ·rw[vW e]at f;exact ih (fun d G=>K d (by simp[G])) (by simpa using f)
 exact key ds hds f
end
def aCq:TypeDesc→Bool
 | .struct _| .array _ _=>true
 |_=>false
class TyA (P:Program) (t:Nat) (k:outParam Nat):Prop where
 u:∃d,P.underlying t=some d∧aCq d=true
 s:(P.info? t).map (·.size)=some k
class Ty1 (P:Program) (t:Nat):Prop where
 u:∃d,P.underlying t=some d∧aCq d=false
 s:(P.info? t).map (·.size)=some 1
class TyZ (P:Program) (t:Nat) (zs:outParam (List CP)):Prop where
 z:∃i z,P.info? t=some i∧i.zero=some z∧i.size=zs.length∧(∀M,bC M zs z.cells.toList)
class TyF (P:Program) (s f:Nat) (off:outParam Nat):Prop where
 u:∃fs fd,P.underlying s=some (.struct fs)∧fs[f]?=some fd∧fd.offset=off∧∃i,P.info? fd.type=some i∧i.size≠0
class TyS (P:Program) (t:Nat) (e k bytes:outParam Nat):Prop where
 u:P.underlying t=some (.slice e)
 s:∃i,P.info? e=some i∧i.size=k∧i.bytes=bytes∧∃z,i.zero=some z∧z.cells.size=k
 pos:0<k
theorem mkA{P:Program}{t k:Nat}{d:TypeDesc}(hu:P.underlying t=some d)(e:aCq d=true)(hs:(P.info? t).map (·.size)=some k):TyA P t k:=⟨⟨d,hu,e⟩,hs⟩
theorem mk1{P:Program}{t:Nat}{d:TypeDesc}(hu:P.underlying t=some d)(e:aCq d=false)(hs:(P.info? t).map (·.size)=some 1):Ty1 P t:=⟨⟨d,hu,e⟩,hs⟩
theorem mkZ{P:Program}{t k:Nat}{z:Value}{zs:List CP}(h:(P.info? t).map (fun i=>(i.zero,i.size))=some (some z,k))(f:k=zs.length)(j:∀M,bC M zs z.cells.toList):TyZ P t zs:=by
 cases e:P.info? t with
 |none=>rw[e]at h;simp at h
 |some i=>
  rw[e]at h;simp only[Option.map_some,Option.some.injEq,Prod.mk.injEq]at h;exact⟨i,z,e,h.1,h.2.trans f,j⟩
theorem mkF{P:Program}{s f off ft k:Nat}{fs:Array Field}{fd:Field}(hu:P.underlying s=some (.struct fs))(h:fs[f]?=some fd)(j:fd.offset=off)(q:fd.type=ft)(hs:(P.info? ft).map (·.size)=some (k+1)):TyF P s f off:=by
 subst q;cases e:P.info? fd.type with
 |none=>rw[e]at hs;simp at hs
 |some i=>
  rw[e]at hs;simp only[Option.map_some,Option.some.injEq]at hs;exact⟨fs,fd,hu,h,j,i,e,by omega⟩
theorem mkS{P:Program}{t e k bytes:Nat}{z:Value}(hu:P.underlying t=some (.slice e))(h:(P.info? e).map (fun i=>(i.zero,i.size,i.bytes))=some (some z,k+1,bytes))(j:z.cells.size=k+1):TyS P t e (k+1) bytes:=by
 cases f:P.info? e with
 |none=>rw[f]at h;simp at h
 |some i=>
  rw[f]at h;simp only[Option.map_some,Option.some.injEq,Prod.mk.injEq]at h;exact⟨hu,⟨i,f,h.2.1,h.2.2,z,h.1,j⟩,by omega⟩
inductive Tk (P:Program) (t:Nat):List CP→VP→Prop
 |one {p:CP} (h:Ty1 P t):Tk P t [p] (.vc p)
 |agg {ps:List CP} {k:Nat} (h:TyA P t k) (hl:ps.length=k:=by rfl):Tk P t ps (.va ps)
section
variable {P:Program} {w:World}
theorem aAz{o:Oper}{ρ:Operand→Value}{r:Next}{w':World}(rd:Option Nat)(hr:(execOp ρ o).run P w=.ok r w')(h:∀d,r≠.defer d):(o.semAt rd ρ).run P w=.ok r w':=by
 rw[Oper.semAt_eq rd ρ o ?_]
 ·exact hr
 ·intro c hc;simp only[execOp,hc,Sem.run_bind]at hr;cases e:(resolve ρ c o.type).run P w with
  |ok d f=>
   rw[e]at hr;simp only[Result.andThen,Sem.run_pure,Result.ok.injEq]at hr;exact h d hr.1.symm
  |halt x f=>rw[e]at hr;simp[Result.andThen]at hr
theorem bR{rd:Option Nat}{o:Oper}{a:Act}{w':World}{v:Value}{K:Act→World→Prop}{Q:Exit→Act→World→Prop}
  (hr:(execOp a.eval o).run P w=.ok (.value v) w')(e:K (a.put o.dst v) w'):o.wpIn (Fw rd) 0 P a w K Q:=
 ⟨fun _ _=>trivial,by rw[aAz _ hr (fun d h=>by cases h)];exact e⟩
theorem aJ8{rd:Option Nat}{o:Oper}{a:Act}{w':World}{K:Act→World→Prop}{Q:Exit→Act→World→Prop}
  (hr:(execOp a.eval o).run P w=.ok .skip w')(e:K (a.put o.dst undef) w'):o.wpIn (Fw rd) 0 P a w K Q:=
 ⟨fun _ _=>trivial,by rw[aAz _ hr (fun d h=>by cases h)];exact e⟩
theorem w5(b o j:Nat):(⟨b,o,none⟩:Addr).add j=⟨b,o+j,none⟩:=by unfold Addr.add;split<;>simp_all
theorem aBq{t:Nat}{d:TypeDesc}(hu:P.underlying t=some d):(isAgg t).run P w=.ok (aCq d) w:=by
 unfold isAgg;rw[Sem.run_bind,run_underlying hu w];cases d<;>rfl
theorem aBR{t k:Nat}(h:(P.info? t).map (·.size)=some k):(sizeOf t).run P w=.ok k w:=by
 cases e:P.info? t with
 |none=>simp[e]at h
 |some i=>
  have:i.size=k:=by simpa [e] using h
  simp[sizeOf,typeInfo,e,this]
theorem vP{t b o:Nat}{ps:List CP}{out:VP}{M:iE}{vs:List Value}(k:Tk P t ps out)(hv:bC M ps vs)
  (hc:∀(j:Nat) v,vs[j]?=some v→w.cell? ⟨b,o+j,none⟩=some v):∃v,(loadVar t ⟨b,o,none⟩).run P w=.ok v w∧out.h M v:=by
 cases k with
 |@one p h=>
  obtain⟨d,hu,e⟩:=h.u
  match vs,hv with
  |[v],hv=>
   have:=hc 0 v rfl;refine⟨v,?_,hv.1⟩;simp only[Nat.add_zero]at this;simp[loadVar,aBq hu,e,this]
 |agg h f=>
  subst f;obtain⟨d,hu,e⟩:=h.u;have f:=hv.len;refine⟨.agg vs.toArray,?_,vs,rfl,hv⟩;have hr:=run_loadCells_list (P:=P) w ⟨b,o,none⟩ vs (fun j v q=>by rw[w5];exact hc j v q);rw[f]at hr;simp[loadVar,aBq hu,e,aBR h.s,hr]
theorem s9(w:World)(r:Option Nat):w.grownBy w r:=⟨rfl,rfl,rfl,Nat.le_refl _,fun _ _ _=>rfl⟩
theorem aFf{e f:World}{r:Option Nat}(h:w.grownBy e r)(k:e.grownBy f r):w.grownBy f r:=
 ⟨k.os.trans h.os,k.tape.trans h.tape,k.output.trans h.output,Nat.le_trans h.size k.size,fun b hb hne=>(k.block b (Nat.lt_of_lt_of_le hb h.size) hne).trans (h.block b hb hne)⟩
theorem o9{T sz n c b:Nat}(o:Nat):∀(us:List Value) (i:Nat) (w:World) (vs:List Value),w.ownsRow 0 T sz (sv (some b) n c) n vs→o+i+us.length≤vs.length→(∀u∈us,u.oneCell'=true)→
  ∃w',(storeCells ⟨b,o,none⟩ us i).run P w=.ok () w'∧w'.ownsRow 0 T sz (sv (some b) n c) n (vs.take (o+i)++us++vs.drop (o+i+us.length))∧w.grownBy w' (some b)
 |[],i,w,vs,h,_,_=>⟨w,by simp[storeCells],by simpa using h,s9 w _⟩
 |u::us,i,w,vs,h,k,f=>by
  simp only[List.length_cons]at k;have hlen:=h.1;have hc:w.cell? ⟨b,o+i,none⟩=some vs[o+i]:=by
   have:=World.ownsRow.cellAt (g:=b) (cap:=c) h (o+i) (by rw[←hlen];omega);rw[this,List.getElem?_eq_getElem (by omega)]
  have q:w.frozen? ⟨b,o+i,none⟩=false:=World.ownsRow.frozenAt (g:=b) (cap:=c) h (o+i);obtain⟨hs,s⟩:=World.ownsRow.stored (g:=b) (cap:=c) h (o+i) u;obtain⟨w',hr,j,e⟩:=o9 o us (i+1) (w.setCell ⟨b,o+i,none⟩ u) (vs.set (o+i) u) hs (by simp;omega) (fun x t=>f x (by simp[t]));refine⟨w',?_,?_,aFf s e⟩
  ·simp only[storeCells,Sem.run_bind,w5,run_store P w _ u _ (f u (by simp)),hc,q,Bool.false_eq_true,if_false,Result.andThen_ok];exact hr
  ·have y:(vs.set (o+i) u).take (o+(i+1))=vs.take (o+i)++[u]:=by
    rw[show o+(i+1)=(o+i)+1 by omega,List.take_succ_eq_append_getElem (by simp;omega),List.take_set_of_le (by omega)];simp
   have z:(vs.set (o+i) u).drop (o+(i+1)+us.length)=vs.drop (o+i+(us.length+1)):=by
    rw[List.drop_set_of_lt (by omega)];congr 1;omega
   rw[y,z]at j;simpa using j
end
section
variable {S:Sx} {κ:Kt} {H:List HA} {E:nV} {ops:Array Oper} {rest:List Oper} {o:Oper}
theorem aK{x:Operand}{p:VP}(e:o.op=.move x∨o.op=.assign x):Tr S o H H [(x,p)] p:=
 ⟨fun M w a h f K Q j=>bR (by rcases e with e|e<;>simp[execOp,e]<;>rfl) (j _ M w (l5.refl M) h f.1)⟩
theorem aH7{M:iE}{w:World}{β:Option Nat}{c T sz n:Nat}{ps:List CP}{b:Nat}(h:(HA.mk β c T sz n ps).ok M w)(hb:β=some b)(off:Nat)(k:Nat):
  ∃vs,bC M ((ps.drop off).take k) vs∧∀(j:Nat) v,vs[j]?=some v→w.cell? ⟨b,off+j,none⟩=some v:=by
 obtain⟨⟨vs,how,hall⟩,_⟩:=h;simp only[hb]at how;refine⟨(vs.drop off).take k,(hall.drop off).take k,fun j v e=>?_⟩;rw[List.getElem?_take]at e;split at e
 ·rw[List.getElem?_drop]at e;have hlt:off+j<vs.length:=(List.getElem?_eq_some_iff.1 e).1;rw[World.ownsRow.cellAt (g:=b) (cap:=c) how (off+j) (by rw[←how.1];exact hlt)];exact e
 ·cases e
theorem aNI{t:Nat}{x:Operand}(j:o.op=.load t x){i off:Nat}{β:Option Nat}{e:HA}{out:VP}{qs:List CP}(k:H[i]?=some e)(hβ:e.β=β)(q:(e.ps.drop off).take qs.length=qs)(s:Tk S.P t qs out):
  Tr S o H H [(x,.vc (pP β off))] out:=by
 refine⟨fun M w a h hin K Q hkk=>?_⟩;obtain⟨b,hb,u⟩:=hin.1;obtain⟨vs,f,y⟩:=aH7 (h.own e (List.mem_of_getElem? k)) (hβ.trans hb) off qs.length;rw[q]at f;obtain⟨v,hr,hv⟩:=vP (P:=S.P) (w:=w) s f y;exact bR (by simp[execOp,j,u,Instr.loadAt,Instr.sureAddr,hr]) (hkk _ M w (l5.refl M) h hv)
theorem aNp{t:Nat}{x:Operand}(k:o.op=.load t x){ps qs:List CP}{out:VP}(q:ps.take qs.length=qs)(s:Tk S.P t qs out):
  Tr S o H H [(x,.vc (pM ps))] out:=by
 refine⟨fun M w a h hin K Q hkk=>?_⟩;obtain⟨b,off,u,vs,y,z⟩:=hin.1;have e:=bC.take qs.length y;rw[q]at e;obtain⟨v,hr,hv⟩:=vP (P:=S.P) (w:=w) (b:=b) (o:=off) s e (fun j v f=>by
  rw[List.getElem?_take]at f;split at f
  ·exact h.cell (z j v f)
  ·cases f)
 exact bR (by simp[execOp,k,u,Instr.loadAt,Instr.sureAddr,hr]) (hkk _ M w (l5.refl M) h hv)
theorem eZ{s f off k:Nat}{x:Operand}{β:Option Nat}(e:o.op=.fieldAddr s x f)(j:TyF S.P s f k):Tr S o H H [(x,.vc (pP β off))] (.vc (pP β (off+k))):=by
 refine⟨fun M w a h hin K Q hkk=>?_⟩;obtain⟨b,hb,q⟩:=hin.1;obtain⟨fs,fd,hu,hfd,hoff,i,t,y⟩:=j.u;refine bR (v:=.pointer (some ⟨b,off+k,none⟩)) ?_ (hkk _ M w (l5.refl M) h ⟨b,hb,rfl⟩);subst hoff;simp[execOp,e,q,Instr.fieldAt,Instr.sureAddr,run_underlying hu,hfd,fieldPlace,sizeOf,typeInfo,t,y,w5]
theorem yJ{s f k:Nat}{x:Operand}{ps:List CP}(e:o.op=.fieldAddr s x f)(j:TyF S.P s f k):Tr S o H H [(x,.vc (pM ps))] (.vc (pM (ps.drop k))):=by
 refine⟨fun M w a h hin K Q hkk=>?_⟩;obtain⟨b,off,q,hc⟩:=hin.1;obtain⟨fs,fd,hu,hfd,hoff,i,t,y⟩:=j.u;refine bR (v:=.pointer (some ⟨b,off+k,none⟩)) ?_ (hkk _ M w (l5.refl M) h ⟨b,off+k,rfl,hc.drop k⟩);subst hoff;simp[execOp,e,q,Instr.fieldAt,Instr.sureAddr,run_underlying hu,hfd,fieldPlace,sizeOf,typeInfo,t,y,w5]
def cT{α:Type}(xs:List α)(j:Int):Option α:=if 0≤j then xs[j.toNat]? else none
theorem bD{α:Type}{xs:List α}{j:Int}{x:α}(h:cT xs j=some x):0≤j∧j.toNat<xs.length∧xs[j.toNat]?=some x:=by
 unfold cT at h;split at h
 ·exact⟨‹_›,(List.getElem?_eq_some_iff.1 h).1,h⟩
 ·cases h
theorem xT{α:Type}{C:Cd α}{t e bytes:Nat}{x y:Operand}{xs:List α}{j:Int}{z:α}{k:IntKind}(q:o.op=.indexAddr t x y)(f:TyS S.P t e C.n bytes)(F:cT xs j=some z):
  Tr S o H H [(x,.vc (pS C xs)),(y,.vc (pI k j))] (.vc (pM (C.e z))):=by
 refine⟨fun M w a h hin K Q hkk=>?_⟩;obtain⟨p,c,G,_,_,hall⟩:=hin.1;have I:a.eval y=.int k j:=hin.2.1;obtain⟨J,V,L⟩:=bD F;obtain⟨b,off,rfl,hc⟩:=hall _ z L;obtain⟨i,O,U,_⟩:=f.s;refine bR (v:=.pointer (some ⟨b,off+j.toNat*C.n,none⟩)) ?_ (hkk _ M w (l5.refl M) h ⟨b,_,rfl,hc⟩);have hlt:j<(xs.length:Int):=by omega
 simp[execOp,q,G,I,Instr.indexAt,asIntOf,run_underlying f.u,J,hlt,sizeOf,typeInfo,O,U,w5]
theorem aNZ{t e k0 bytes n c:Nat}{x y:Operand}{β:Option Nat}{j:Int}{k:IntKind}(F:o.op=.indexAddr t x y)(q:TyS S.P t e k0 bytes)(G:0≤j)(hlt:j<(n:Int)){i:Nat}{ea:HA}(I:H[i]?=some ea)(hβ:ea.β=β)(hc:ea.c=c)(J:ea.n=n):
  Tr S o H H [(x,.vc (pO β n c)),(y,.vc (pI k j))] (.vc (pP β (j.toNat*k0))):=by
 refine⟨fun M w a h hin K Q hkk=>?_⟩;have L:a.eval y=.int k j:=hin.2.1;rcases hin.1 with O|⟨_,V,_⟩
 rotate_left
 ·omega
 obtain⟨i',f,U,_⟩:=q.s;obtain⟨⟨vs,how,_⟩,_⟩:=h.own ea (List.mem_of_getElem? I);rw[hβ,hc,J]at how;rcases how.2 with⟨z,h4⟩|⟨g,cap,cur,z,_⟩
 ·omega
 ·cases β with
  |none=>simp[sv]at z
  |some b=>
   refine bR (v:=.pointer (some ⟨b,j.toNat*k0,none⟩)) ?_ (hkk _ M w (l5.refl M) h ⟨b,rfl,rfl⟩);simp[execOp,F,O,L,sv,Instr.indexAt,asIntOf,run_underlying q.u,G,hlt,sizeOf,typeInfo,f,U,w5]
theorem aNs{t:Nat}{x y:Operand}{off i:Nat}{β:Option Nat}{e:HA}{p:VP}(q:o.op=.store t x y)(k:H[i]?=some e)(hβ:e.β=β)(hp:p.flat)(hs:(S.P.info? t).map (·.size)=some p.cells.length)(s:off+p.cells.length≤e.ps.length):
  Tr S o H (H.set i {e with ps:=e.ps.take off++p.cells++e.ps.drop (off+p.cells.length)}) [(x,.vc (pP β off)),(y,p)] .any:=by
 refine⟨fun M w a h hin K Q hkk=>?_⟩;obtain⟨b,hb,u⟩:=hin.1;have z:p.h M (a.eval y):=hin.2.1;have hcs:=VP.cells_of hp z;obtain⟨⟨vs,how,hall⟩,hnone⟩:=h.own e (List.mem_of_getElem? k);have hbe:e.β=some b:=hβ.trans hb;rw[hbe]at how;have hlen:=hcs.len;have f:=hall.len;obtain⟨w',hr,j,F⟩:=o9 (P:=S.P) off _ 0 w vs how (by rw[hlen,f];simpa using s) (bC.one hcs);have hok:HA.ok {e with ps:=e.ps.take off++p.cells++e.ps.drop (off+p.cells.length)} M w':=by
  refine⟨⟨vs.take off++(a.eval y).cells.toList++vs.drop (off+(a.eval y).cells.toList.length),?_,?_⟩,hnone⟩
  ·simp only[hbe];exact j
  ·simp only[hlen];exact((hall.take off).app hcs).app (hall.drop _)
 refine aJ8 (w':=w') ?_ (hkk undef M w' (l5.refl M) (h.put k (hbe▸F) hok (.inl rfl)) trivial);have hsz:(a.eval y).cells.size=p.cells.length:=by rw[←hlen];simp
 simp[execOp,q,u,Instr.storeAt,Instr.sureAddr,storeVar,aBR hs,hsz,hr]
theorem xG{w:World}(t:Nat)(v:Value):(newVar t v).run S.P w=.ok ⟨w.heap.size,0,none⟩ (w.alloc (.cells v.cells t)):=by
 simp[newVar,newRow]
theorem aBG{M:iE}{w:World}{T:Nat}{v:Value}{ps:List CP}(h:St S M w H)(hall:bC M ps v.cells.toList):
  St S M (w.alloc (.cells v.cells T)) (⟨some w.heap.size,1,T,ps.length,1,ps⟩::H):=by
 have f:=hall.len;refine h.new_row (World.grownBy_alloc w _ none) ⟨⟨v.cells.toList,?_,hall⟩,fun b hb=>?_⟩ (fun b hb=>by simp at hb;omega)
 ·have:=World.ownsRow_lit (base:=0) (e:=T) (size:=ps.length) w v.cells 1 (Nat.zero_le _) (by simp[maxLen]) (by rw[←f];simp);exact this
 ·have e:w.heap.size=b:=by simpa using hb
  exact h.mem.none (by omega)
theorem aM{T d:Nat}{zs:List CP}(e:o.op=.alloc T)(f:TyZ S.P T zs)(k:∀b,WL S ops κ rest (⟨some b,1,T,zs.length,1,zs⟩::H) ((d,.vc (pP (some b) 0))::E))
  (h:o.dst=some d:=by rfl)(j:o.guard=none:=by rfl)(q:Nat.blt d S.N=true:=by rfl):WL S ops κ (o::rest) H E:=by
 rintro a w ⟨M,s,t⟩;obtain⟨i,z,u,hzz,hsz,hall⟩:=f.z;refine wpListIn_plain j fun K x=>bR (v:=.pointer (some ⟨w.heap.size,0,none⟩)) (w':=w.alloc (.cells z.cells T)) ?_ (x _ _ (k w.heap.size _ _ ⟨M,aBG s (hall M),?_⟩))
 ·simp[execOp,e,Instr.alloc,zeroValue,typeInfo,u,hzz,xG]
 ·rw[h];exact t.put q ⟨_,rfl,rfl⟩
theorem dC{T d:Nat}{x:Operand}{p:VP}(f:o.op=.box T x)(j:aBO E x p)(hp:p.flat)(k:∀b,WL S ops κ rest (⟨some b,1,T,p.cells.length,1,p.cells⟩::H) ((d,.vc (pP (some b) 0))::E))
  (q:o.dst=some d:=by rfl)(s:o.guard=none:=by rfl)(t:Nat.blt d S.N=true:=by rfl):WL S ops κ (o::rest) H E:=by
 rintro a w ⟨M,u,e⟩;have hv:p.h M (a.eval x):=(tH.ins (l:=[(x,p)]) e ⟨j,trivial⟩).1;refine wpListIn_plain s fun K y=>bR (v:=.pointer (some ⟨w.heap.size,0,none⟩)) (w':=w.alloc (.cells (a.eval x).cells T)) ?_ (y _ _ (k w.heap.size _ _ ⟨M,aBG u (VP.cells_of hp hv),?_⟩))
 ·simp[execOp,f,Instr.box,xG]
 ·rw[q];exact e.put t ⟨_,rfl,rfl⟩
theorem aCV{α:Type}{C:Cd α}{xs:List α}{t e k bytes:Nat}{x:Operand}(f:o.op=.call {callee:=.builtin .len,args:=#[x],argTypes:=#[t]})(j:TyS S.P t e k bytes):
  Tr S o H H [(x,.vc (pS C xs))] (.vc (pI .i64 xs.length)):=by
 refine⟨fun M w a h hin K Q hkk=>?_⟩;obtain⟨p,c,q,_⟩:=hin.1;refine bR (v:=.int .i64 xs.length) ?_ (hkk _ M w (l5.refl M) h rfl);simp[execOp,f,resolve,invoke,builtin,Builtin.len_,q,run_underlying j.u,goInt]
theorem aNj{t e k bytes n c:Nat}{β:Option Nat}{x:Operand}(j:o.op=.call {callee:=.builtin .len,args:=#[x],argTypes:=#[t]})(q:TyS S.P t e k bytes):
  Tr S o H H [(x,.vc (pO β n c))] (.vc (pI .i64 n)):=by
 refine⟨fun M w a h hin K Q hkk=>?_⟩;refine bR (v:=.int .i64 n) ?_ (hkk _ M w (l5.refl M) h rfl);rcases hin.1 with f|⟨_,rfl,_,s,f⟩
 rotate_left
 ·simp[execOp,j,resolve,invoke,builtin,Builtin.len_,f,run_underlying q.u,goInt]
 simp[execOp,j,resolve,invoke,builtin,Builtin.len_,f,sv,run_underlying q.u,goInt]
end
def jX(M:iE):List VP→List Value→Prop
 |[],[]=>True
 |p::ps,v::vs=>p.h M v∧jX M ps vs
 |_,_=>False
theorem jX.len{M:iE}:∀{ps:List VP} {vs:List Value},jX M ps vs→vs.length=ps.length
 |[],[],_=>rfl
 |_::_,_::_,h=>by simp[jX.len h.2]
 |[],_::_,h=>h.elim
 |_::_,[],h=>h.elim
theorem jX.app{M:iE}:∀{ps qs:List VP} {vs us:List Value},jX M ps vs→jX M qs us→jX M (ps++qs) (vs++us)
 |[],_,[],_,_,h=>h
 |_::_,_,_::_,_,h,k=>⟨h.1,jX.app h.2 k⟩
 |[],_,_::_,_,h,_=>h.elim
 |_::_,_,[],_,h,_=>h.elim
theorem jX.of_all2{M:iE}:∀{ps:List CP} {vs:List Value},bC M ps vs→jX M (ps.map .vc) vs
 |[],[],_=>trivial
 |_::_,_::_,h=>⟨h.1,jX.of_all2 h.2⟩
 |[],_::_,h=>h.elim
 |_::_,[],h=>h.elim
theorem jX.at{M:iE}:∀{ps:List VP} {vs:List Value} (i:Nat) {p:VP},jX M ps vs→ps[i]?=some p→∃v,vs[i]?=some v∧p.h M v
 |[],_,i,_,_,h=>by simp at h
 |q::ps,v::vs,0,p,h,e=>by
  simp at e;subst e;exact⟨v,rfl,h.1⟩
 |q::ps,v::vs,i+1,p,h,e=>by
  have:=jX.at (ps:=ps) (vs:=vs) i (p:=p) h.2 (by simpa using e);simpa using this
 |_::_,[],_,_,h,_=>h.elim
structure aLZ (P:Program) (f:Nat):Prop where
 h:∃fn,P.funcs[f]?=some fn∧(fn.name== "runtime.NumGoroutine")=false∧fn.body.isNone=false
structure xD (P:Program) (f:Nat) (Hin:List HA) (pre:List VP) (post:List HA→VP→Prop):Prop where
 ok:aLZ P f
 run:∀M w (args:Array Value),Mok M w→(∀e∈Hin,e.ok M w)→(Hin.filterMap HA.β).Nodup→jX M pre args.toList→
  Calls P f args w fun e w'=>∃v M' Ho q,post Ho q∧e=.returned v∧St ⟨P,w,M,Hin.filterMap HA.β,0⟩ M' w' Ho∧q.h M' v
abbrev Ct (P:Program) (f:Nat) (pre:List VP) (post:VP):Prop:=xD P f [] pre (fun Ho q=>Ho=[]∧q=post)
theorem yY{w w':World}{T sz n c:Nat}{β:Option Nat}{vs:List Value}(h:w.ownsRow 0 T sz (sv β n c) n vs)(hb:∀b,β=some b→w'.heap[b]?=w.heap[b]?):w'.ownsRow 0 T sz (sv β n c) n vs:=by
 refine⟨h.1,?_⟩;rcases h.2 with f|⟨g,cap,cur,e,j,k,r⟩
 ·exact .inl f
 ·refine .inr ⟨g,cap,cur,e,j,?_,r⟩;cases β with
  |none=>simp[sv]at e
  |some b=>
   simp only[sv,Option.map_some,Value.slice.injEq,Option.some.injEq,Addr.mk.injEq,and_true,true_and]at e;rw[←e.1,hb b rfl,e.1];exact k
theorem St.call{S:Sx}{M M':iE}{w w':World}{H Hin Hr Ho:List HA}{is js:List Nat}(h:St S M w H)(F:dS H is=some Hin)(t:dS H js=some Hr)(G:(is++js).Nodup)
  {P:Program}{N:NX}(k:St ⟨P,w,M,Hin.filterMap HA.β,N⟩ M' w' Ho):St S M' w' (Ho++Hr):=by
 have hin:∀e∈Hin,e∈H:=fun e he=>by
  obtain⟨j,hje⟩:=List.getElem?_of_mem he;obtain⟨i,_,q⟩:=kI F j e hje;exact List.mem_of_getElem? q
 have hrm:∀e∈Hr,e∈H:=fun e he=>by
  obtain⟨j,hje⟩:=List.getElem?_of_mem he;obtain⟨i,_,q⟩:=kI t j e hje;exact List.mem_of_getElem? q
 have hB:∀b,b∈Hin.filterMap HA.β→S.w0.heap.size≤b∨b∈S.B:=fun b hb=>by
  obtain⟨e,he,heb⟩:=List.mem_filterMap.1 hb;exact h.fresh e (hin e he) b heb
 have hdis:∀e∈Hr,∀b,e.β=some b→b∉Hin.filterMap HA.β:=fun e he b hb hm=>by
  obtain⟨x,u,hxb⟩:=List.mem_filterMap.1 hm;obtain⟨j1,f⟩:=List.getElem?_of_mem he;obtain⟨j2,z⟩:=List.getElem?_of_mem u;obtain⟨i1,J,g1⟩:=kI t j1 e f;obtain⟨i2,K,L⟩:=kI F j2 x z;have:=uE h.nodup g1 L hb hxb;subst this;exact(List.nodup_append.1 G).2.2 i1 (List.mem_of_getElem? K) i1 (List.mem_of_getElem? J) rfl
 have hlt:∀e∈Hr,∀b,e.β=some b→b<w.heap.size:=fun e he b hb=>(h.own e (hrm e he)).lt hb
 have hr:St S M w Hr:=h.pick t (List.nodup_append.1 G).2.1;refine⟨h.le0.trans k.le0,k.mem,fun b hb hnb=>?_,fun b hb hnb=>?_,Nat.le_trans h.size k.size,k.os.trans h.os,k.tape.trans h.tape,k.output.trans h.output,fun e he=>?_,fun e he b hb=>?_,?_⟩
 ·rw[k.keep b (Nat.lt_of_lt_of_le hb h.size) (fun hm=>by rcases hB b hm with f|f;omega;exact hnb f)];exact h.keep b hb hnb
 ·rw[k.new b (Nat.lt_of_lt_of_le hb h.size) (fun hm=>by rcases hB b hm with f|f;omega;exact hnb f)];exact h.new b hb hnb
 ·rcases List.mem_append.1 he with he|he
  ·exact k.own e he
  ·obtain⟨⟨vs,how,hall⟩,hnone⟩:=hr.own e he;refine⟨⟨vs,yY how (fun b hb=>k.keep b (hlt e he b hb) (hdis e he b hb)),bC.mono k.le0 hall⟩,fun b hb=>?_⟩;rw[k.new b (hlt e he b hb) (hdis e he b hb)];exact hnone b hb
 ·rcases List.mem_append.1 he with he|he
  ·rcases k.fresh e he b hb with f|f
   ·exact .inl (Nat.le_trans h.size f)
   ·exact hB b f
  ·exact hr.fresh e he b hb
 ·rw[List.filterMap_append];refine List.nodup_append.2 ⟨k.nodup,hr.nodup,fun x u y O hxy=>?_⟩;subst hxy;obtain⟨e,he,heb⟩:=List.mem_filterMap.1 u;obtain⟨I,s,heb'⟩:=List.mem_filterMap.1 O;rcases k.fresh e he x heb with f|f
  ·have z:=hlt I s x heb';exact absurd f (by simpa using z)
  ·exact hdis I s x heb' f
theorem jX.of_ins{M:iE}{a:Act}:∀{xs:List Operand} {pre:List VP},xs.length=pre.length→Ins M a (xs.zip pre)→jX M pre (xs.map a.eval)
 |[],[],_,_=>trivial
 |_::_,_::_,h,k=>⟨k.1,jX.of_ins (by simpa using h) k.2⟩
 |[],_::_,h,_=>by simp at h
 |_::_,[],h,_=>by simp at h
theorem lT{P:Program}{w:World}{f:Nat}(h:aLZ P f)(args:Array Value):(callFunc f args).run P w=.ok (.enter f args) w:=by
 obtain⟨fn,q,s,hb⟩:=h.h;have j:¬fn.name= "runtime.NumGoroutine":=by simpa using s
 have k:¬fn.body=none:=by intro e;rw[e]at hb;simp at hb
 simp[callFunc,q,j,k]
theorem w4:∀(f:List HA) (n:Nat) (H1:List HA),n=H1.length→dS (H1++f) (List.range' n f.length)=some f
 |[],_,_,_=>rfl
 |e::f,n,H1,h=>by
  have:=w4 f (n+1) (H1++[e]) (by simp[h]);simp only[List.append_assoc,List.singleton_append]at this;have he:(H1++e::f)[n]?=some e:=by rw[h];simp
  simp[List.range'_succ,dS,this,he]
theorem wM(H:List HA):dS H (List.range' 0 H.length)=some H:=w4 H 0 [] rfl
section
variable {S:Sx} {κ:Kt} {H:List HA} {E:nV} {ops:Array Oper} {rest:List Oper} {o:Oper}
theorem sD{P:Program}{rd:Option Nat}{w:World}{a:Act}{f:Nat}{args:Array Value}{K:Act→World→Prop}{Q:Exit→Act→World→Prop}{R:Ending→World→Prop}
  (hr:(execOp a.eval o).run P w=.ok (.enter f args) w)(hc:Calls P f args w R)(k:∀e w',R e w'→∃v,e=.returned v∧K (a.put o.dst v) w'):o.wpIn (Fw rd) 0 P a w K Q:=by
 refine⟨fun _ _=>trivial,?_⟩;rw[aAz _ hr (fun d h=>by cases h)];refine⟨fun _=>by simp_all [Fw,Fence.wide],(callsIn_wide (n:=0-1)).2 (hc.mono fun e w' h=>?_)⟩;obtain⟨v,rfl,j⟩:=k e w' h;exact j
theorem aT{f:Nat}{pre:List VP}{post:VP}{xs:List Operand}{ts:Array TypeId}(j:o.op=.call {callee:=.value (.func f),args:=xs.toArray,argTypes:=ts})(c:Ct S.P f pre post)(k:xs.length=pre.length):
  Tr S o H H (xs.zip pre) post:=by
 refine⟨fun M w a h hin K Q hkk=>?_⟩;have hall:=jX.of_ins k hin;refine sD (f:=f) (args:=(xs.map a.eval).toArray) ?_ (c.run M w _ h.mem (by simp) (by simp) hall) fun e w' hr=>?_
 ·simp[execOp,j,resolve,Deferred.ofValue,Act.eval,invoke,lT c.ok]
 ·obtain⟨v,M',Ho,q,⟨rfl,rfl⟩,rfl,hst,t⟩:=hr;refine⟨v,rfl,hkk v M' w' hst.le0 ?_ t⟩;have:=h.call (is:=[]) (Hin:=[]) rfl (wM H) (by simpa using List.nodup_range' (s:=0) (n:=H.length)) hst;simpa using this
theorem aAx{f:Nat}{cs:List CP}{pre:List VP}{post:VP}{xs:List Operand}{y:Operand}{ts:Array TypeId}(j:o.op=.call {callee:=.value y,args:=xs.toArray,argTypes:=ts})(c:Ct S.P f (pre++cs.map .vc) post)(k:xs.length=pre.length):
  Tr S o H H ((y,.vc (pF f cs))::xs.zip pre) post:=by
 refine⟨fun M w a h hin K Q hkk=>?_⟩;have hall:=jX.of_ins k hin.2;obtain⟨vs,t,hvs⟩:=hin.1;refine sD (f:=f) (args:=(xs.map a.eval++vs).toArray) ?_ (c.run M w _ h.mem (by simp) (by simp) (jX.app hall (jX.of_all2 hvs))) fun e w' hr=>?_
 ·simp[execOp,j,resolve,Deferred.ofValue,t,invoke,lT c.ok]
 ·obtain⟨v,M',Ho,q,⟨rfl,rfl⟩,rfl,hst,u⟩:=hr;refine⟨v,rfl,hkk v M' w' hst.le0 ?_ u⟩;have:=h.call (is:=[]) (Hin:=[]) rfl (wM H) (by simpa using List.nodup_range' (s:=0) (n:=H.length)) hst;simpa using this
theorem rV{f d:Nat}{Hin Hr:List HA}{pre:List VP}{post:List HA→VP→Prop}{xs:List Operand}{ts:Array TypeId}(is js:List Nat)(s:o.op=.call {callee:=.value (.func f),args:=xs.toArray,argTypes:=ts})(c:xD S.P f Hin pre post)(t:tH E (xs.zip pre))(h:dS H is=some Hin)(u:dS H js=some Hr)(j:(is++js).Nodup)
  (k:∀Ho q,post Ho q→WL S ops κ rest (Ho++Hr) ((d,q)::E))(x:xs.length=pre.length:=by rfl)
  (y:o.dst=some d:=by rfl)(z:o.guard=none:=by rfl)(F:Nat.blt d S.N=true:=by rfl):WL S ops κ (o::rest) H E:=by
 rintro a w ⟨M,hst,hsat⟩;have hall:=jX.of_ins x (tH.ins hsat t);have hin:St S M w Hin:=hst.pick h (List.nodup_append.1 j).1;refine wpListIn_plain z fun K G=>sD (f:=f) (args:=(xs.map a.eval).toArray) ?_ (c.run M w _ hst.mem hin.own hin.nodup hall) fun e w' hr=>?_
 ·simp[execOp,s,resolve,Deferred.ofValue,Act.eval,invoke,lT c.ok]
 ·obtain⟨v,M',Ho,q,hpost,rfl,hst',I⟩:=hr;refine⟨v,rfl,G _ _ (k Ho q hpost _ _ ⟨M',hst.call h u j hst',?_⟩)⟩;rw[y];exact(hsat.mono hst'.le0).put F I
theorem aJ5{α:Type}{C:Cd α}{T:Nat}{r:List α}{f:Nat}{pre:List VP}{xs:List Operand}{ts:Array TypeId}(j:o.op=.call {callee:=.value (.func f),args:=xs.toArray,argTypes:=ts})(c:xD S.P f [] pre (fun Ho q=>∃β c n,r.length=n∧Ho=[⟨β,c,T,C.n,n,flat C r⟩]∧q=.vc (pO β n c)))(k:xs.length=pre.length):
  Hv S o H (fun β c=>⟨β,c,T,C.n,r.length,flat C r⟩::H) (xs.zip pre) (fun β c=>.vc (pO β r.length c)):=by
 refine⟨fun M w a h hin K Q hkk=>?_⟩;have hall:=jX.of_ins k hin;refine sD (f:=f) (args:=(xs.map a.eval).toArray) ?_ (c.run M w _ h.mem (by simp) (by simp) hall) fun e w' hr=>?_
 ·simp[execOp,j,resolve,Deferred.ofValue,Act.eval,invoke,lT c.ok]
 ·obtain⟨v,M',Ho,q,⟨β,c',n,rfl,rfl,rfl⟩,rfl,hst,t⟩:=hr;refine⟨v,rfl,hkk v M' w' β c' hst.le0 ?_ t⟩;have:=h.call (is:=[]) (Hin:=[]) rfl (wM H) (by simpa using List.nodup_range' (s:=0) (n:=H.length)) hst;simpa using this
theorem aJf{f d:Nat}{cs:List CP}{Hin Hr:List HA}{pre:List VP}{post:List HA→VP→Prop}{xs:List Operand}{y:Operand}{ts:Array TypeId}(is js:List Nat)(s:o.op=.call {callee:=.value y,args:=xs.toArray,argTypes:=ts})(c:xD S.P f Hin (pre++cs.map .vc) post)(t:tH E ((y,.vc (pF f cs))::xs.zip pre))(h:dS H is=some Hin)(u:dS H js=some Hr)(j:(is++js).Nodup)
  (k:∀Ho q,post Ho q→WL S ops κ rest (Ho++Hr) ((d,q)::E))(x:xs.length=pre.length:=by rfl)
  (z:o.dst=some d:=by rfl)(F:o.guard=none:=by rfl)(G:Nat.blt d S.N=true:=by rfl):WL S ops κ (o::rest) H E:=by
 rintro a w ⟨M,hst,hsat⟩;have hins:=tH.ins hsat t;have hall:=jX.of_ins x hins.2;obtain⟨vs,I,hvs⟩:=hins.1;have hin:St S M w Hin:=hst.pick h (List.nodup_append.1 j).1;refine wpListIn_plain F fun K J=>sD (f:=f) (args:=(xs.map a.eval++vs).toArray) ?_ (c.run M w _ hst.mem hin.own hin.nodup (jX.app hall (jX.of_all2 hvs))) fun e w' hr=>?_
 ·simp[execOp,s,resolve,Deferred.ofValue,I,invoke,lT c.ok]
 ·obtain⟨v,M',Ho,q,hpost,rfl,hst',L⟩:=hr;refine⟨v,rfl,J _ _ (k Ho q hpost _ _ ⟨M',hst.call h u j hst',?_⟩)⟩;rw[z];exact(hsat.mono hst'.le0).put G L
def aBk:Nat→List VP→nV
 |_,[]=>[]
 |i,p::ps=>(i,p)::aBk (i+1) ps
theorem aAe:∀(ps:List VP) (i d:Nat) (p:VP),iQ (aBk i ps) d=some p→i≤d∧ps[d-i]?=some p
 |[],_,_,_,h=>by simp[aBk,iQ]at h
 |q::ps,i,d,p,h=>by
  simp only[aBk,iQ]at h;by_cases e:i=d
  ·subst e;simp at h;subst h;exact⟨Nat.le_refl _,by simp⟩
  ·rw[vW e]at h;obtain⟨j,f⟩:=aAe ps (i+1) d p h;refine⟨by omega,?_⟩;rw[show d-i=(d-(i+1))+1 by omega];simpa using f
def Rp(P:Program)(w0:World)(M0:iE)(B:List Nat)(post:List HA→VP→Prop):Ending→World→Prop:=fun e w'=>∃v M' Ho q,post Ho q∧e=.returned v∧St ⟨P,w0,M0,B,0⟩ M' w' Ho∧q.h M' v
theorem St.reN{S:Sx}{M:iE}{w:World}{H:List HA}(h:St S M w H)(P:Program)(N:NX):St ⟨P,S.w0,S.M0,S.B,N⟩ M w H:=
 ⟨h.le0,h.mem,h.keep,h.new,h.size,h.os,h.tape,h.output,h.own,h.fresh,h.nodup⟩
abbrev aCK (P:Program) (fn:Func) (R:Ending→World→Prop):=bodyPostM Fence.wide 0 P fn R
theorem aD{P:Program}{f:Nat}{fn:Func}{c:Code}{Hin:List HA}{pre:List VP}{post:List HA→VP→Prop}{N:Nat}(q:P.funcs[f]?=some fn)(hb:fn.body=some c)(hname:(fn.name== "runtime.NumGoroutine")=false)(s:fn.ntmps=N)(hpre:Nat.ble pre.length N=true)
  (h:∀w0 M0,WC ⟨P,w0,M0,Hin.filterMap HA.β,⟨N,fun D=>w0.heap.size≤D∧M0 D=none,none,none⟩⟩ c (.base (aCK P fn (Rp P w0 M0 (Hin.filterMap HA.β) post))) Hin (aBk 0 pre)):xD P f Hin pre post:=by
 refine⟨⟨fn,q,hname,by simp[hb]⟩,fun M w args hm hown hnd hall=>(callsIn_wide (n:=0)).1 (callsIn_of_wp_marks q hb trivial (h w M _ w ⟨M,?_,?_⟩))⟩
 ·exact⟨l5.refl M,hm,fun _ _ _=>rfl,fun _ _ _=>rfl,Nat.le_refl _,rfl,rfl,rfl,hown,fun e he b j=>.inr (List.mem_filterMap.2 ⟨e,he,j⟩),hnd⟩
 ·have t:=hall.len;have hle:pre.length≤N:=by simpa using hpre
  refine⟨?_,⟨fun d k=>(by cases k),List.nodup_nil,fun l o e=>(by cases e)⟩,fun d p k=>?_⟩
  ·subst s;simp only[Array.length_toList]at t;simp;omega
  ·obtain⟨_,hp⟩:=aAe pre 0 d p k;obtain⟨v,hv,hpv⟩:=hall.at d (by simpa using hp);refine⟨v,?_,hpv⟩;have hdl:d<args.size:=by
    have:=(List.getElem?_eq_some_iff.1 hv).1;simpa using this
   rw[Array.getElem?_append_left hdl];simpa using hv
def mld(M M':iE):Prop:=∀b o,M b=some o→(∀ds,o≠.deferred ds)→M' b=some o
theorem mld.c{M M':iE}(h:mld M M'):mlc M M':=fun b i v hv=>by
 unfold sY at hv ⊢;cases hb:M b with
 |none=>rw[hb]at hv;cases hv
 |some o=>
  rw[hb]at hv;cases o with
  |cells c t f=>rw[h b _ hb (fun ds=>by simp)];exact hv
  |_=>cases hv
theorem mld.trans{A B C:iE}(h:mld A B)(k:mld B C):mld A C:=fun b o x n=>k b o (h b o x n) n
theorem St.shut{S:Sx}{M:iE}{w:World}{H:List HA}{D:Nat}{o:Obj}(h:St S M w H)(f:M D=some (.deferred (some [])))(k:S.w0.heap.size≤D)(j:S.M0 D=none):mld M (fun b=>if b=D then none else M b)∧St S (fun b=>if b=D then none else M b) (w.putObj D o) H:=by
 have hc:mld M (fun b=>if b=D then none else M b):=fun b ob hb hne=>by
  by_cases e:b=D
  ·subst e;rw[f]at hb;cases hb;exact absurd rfl (hne _)
  ·simpa [e] using hb
 have hne:∀e∈H,∀b,e.β=some b→b≠D:=fun e he b hb x=>by
  have:=(h.own e he).2 b hb;rw[x,f]at this;cases this
 refine⟨hc,fun b ob hb=>?_,fun b ob hb=>?_,fun b hb hnb=>?_,fun b hb hnb=>?_,by simpa using h.size,h.os,h.tape,h.output,fun e he=>?_,h.fresh,h.nodup⟩
 ·by_cases e:b=D
  ·subst e;rw[j]at hb;cases hb
  ·simpa [e] using h.le0 b ob hb
 ·by_cases e:b=D
  ·simp[e]at hb
  ·rw[World.putObj_heap_other e];simp only[e,if_false]at hb;exact h.mem b ob hb
 ·rw[World.putObj_heap_other (by omega)];exact h.keep b hb hnb
 ·show(if b=D then none else M b)=_;rw[if_neg (by omega)];exact h.new b hb hnb
 ·obtain⟨⟨vs,how,hall⟩,hnone⟩:=h.own e he;exact⟨⟨vs,yY how fun b hb=>World.putObj_heap_other (hne e he b hb),hall.monoc hc.c⟩,fun b hb=>by show(if b=D then none else M b)=none;rw[if_neg (hne e he b hb)];exact hnone b hb⟩
theorem yA{S:Sx}{P:Program}{fn:Func}{tmps:Array Value}{R:Ending→World→Prop}{H:List HA}:∀(ds:List Deferred) (M:iE) (w:World),St S M w H→(∀d∈ds,∃D,d={target:=.collected D,args:=#[]}∧(S.w0.heap.size≤D∧S.M0 D=none)∧M D=some (.deferred (some [])))→ds.Nodup→
  (∀M' w',mld M M'→St S M' w' H→∃v,(results fn tmps).run P w'=.ok v w'∧R (.returned v) w')→LeavesInM Fence.wide 0 P fn tmps R ds .returning w
 |[],M,w,h,_,_,k=>k M w (fun _ _ h _=>h) h
 |d::ds,M,w,h,j,q,k=>by
  obtain⟨D,rfl,⟨t,u⟩,s⟩:=j d List.mem_cons_self;obtain⟨hc,hs⟩:=h.shut (o:=.deferred none) s t u;refine⟨by simp,.inl ⟨D,w.putObj D (.deferred none),rfl,run_takeDeferred (h.mem D _ s),?_⟩⟩;refine yA ds _ _ hs (fun x f=>?_) (List.nodup_cons.1 q).2 fun M' w' hm hst=>k M' w' (hc.trans hm) hst
  obtain⟨D',rfl,y,z⟩:=j x (List.mem_cons_of_mem _ f);have hne:D'≠D:=fun e=>(List.nodup_cons.1 q).1 (e▸f)
  exact⟨D',rfl,y,by show(if D'=D then none else M D')=_;rw[if_neg hne];exact z⟩
inductive RVs (S:Sx) (H:List HA) (E:nV):List ResultVar→List VP→Prop
 |nil:RVs S H E [] []
 |tmp {t:Nat} {p:VP} {rs:List ResultVar} {ps:List VP} (h:iQ E t=some p) (k:RVs S H E rs ps):RVs S H E (.tmp t::rs) (p::ps)
 |cell {t T i off:Nat} {β:Option Nat} {e:HA} {p:VP} {qs:List CP} {rs:List ResultVar} {ps:List VP} (h:iQ E t=some (.vc (pP β off))) (hi:H[i]?=some e) (hβ:e.β=β) (hq:(e.ps.drop off).take qs.length=qs) (hk:Tk S.P T qs p) (k:RVs S H E rs ps):RVs S H E (.cell t T::rs) (p::ps)
def aB9(tmps:Array Value):ResultVar→Sem Value
 | .tmp t=>pure (tmps.getD t undef)
 | .cell t T=>do loadVar T (←asAddr (tmps.getD t undef))
theorem aDW{S:Sx}{H:List HA}{E:nV}{M:iE}{w:World}{a:Act}(f:St S M w H)(q:∀d p,iQ E d=some p→∃v,a.tmps[d]?=some v∧p.h M v):∀{rs:List ResultVar} {ps:List VP},RVs S H E rs ps→
  ∃vs,jX M ps vs∧(rs.mapM (aB9 a.tmps)).run S.P w=.ok vs w
 |_,_,.nil=>⟨[],trivial,by simp⟩
 |_,_,.tmp (t:=t) h k=>by
  obtain⟨vs,hv,hr⟩:=aDW f q k;obtain⟨v,e,hp⟩:=q _ _ h;have f:(aB9 a.tmps (.tmp t)).run S.P w=.ok v w:=by simp[aB9,e]
  exact⟨v::vs,⟨hp,hv⟩,by simp[List.mapM_cons,Sem.run_bind,f,hr]⟩
 |_,_,.cell (t:=t) (T:=T) h x hβ y z k=>by
  obtain⟨vs,hv,hr⟩:=aDW f q k;obtain⟨v,e,b,hb,F⟩:=q _ _ h;obtain⟨us,j,s⟩:=aH7 (f.own _ (List.mem_of_getElem? x)) (hβ.trans hb) _ _;rw[y]at j;obtain⟨u,G,hu⟩:=vP (P:=S.P) (w:=w) z j s;subst F;have f:(aB9 a.tmps (.cell t T)).run S.P w=.ok u w:=by simp[aB9,e,asAddr,G]
  exact⟨u::vs,⟨hu,hv⟩,by simp[List.mapM_cons,Sem.run_bind,f,hr]⟩
def aFC:List VP→VP
 |[p]=>p
 |[p,q]=>.t2 p q
 |[p,q,r]=>.t3 p q r
 |[p,q,r,s]=>.t4 p q r s
 |_=>.any
theorem aNO{M:iE}:∀{ps:List VP} {vs:List Value},ps.length≤4→jX M ps vs→(aFC ps).h M (if h:vs.toArray.size=1 then vs.toArray[0] else .tuple vs.toArray)
 |[],[],_,_=>trivial
 |[p],[v],_,h=>h.1
 |[p,q],[v,u],_,h=>⟨v,u,rfl,h.1,h.2.1⟩
 |[p,q,r],[v,u,x],_,h=>⟨v,u,x,rfl,h.1,h.2.1,h.2.2.1⟩
 |[p,q,r,s],[v,u,x,y],_,h=>⟨v,u,x,y,rfl,h.1,h.2.1,h.2.2.1,h.2.2.2.1⟩
 |_::_::_::_::_::_,_,h,_=>by simp at h
 |[],_::_,_,h=>h.elim
 |[_],[],_,h=>h.elim
 |[_],_::_::_,_,h=>h.2.elim
 |[_,_],[],_,h=>h.elim
 |[_,_],[_],_,h=>h.2.elim
 |[_,_],_::_::_::_,_,h=>h.2.2.elim
 |[_,_,_],[],_,h=>h.elim
 |[_,_,_],[_],_,h=>h.2.elim
 |[_,_,_],[_,_],_,h=>h.2.2.elim
 |[_,_,_],_::_::_::_::_,_,h=>h.2.2.2.elim
 |[_,_,_,_],[],_,h=>h.elim
 |[_,_,_,_],[_],_,h=>h.2.elim
 |[_,_,_,_],[_,_],_,h=>h.2.2.elim
 |[_,_,_,_],[_,_,_],_,h=>h.2.2.2.elim
 |[_,_,_,_],_::_::_::_::_::_,_,h=>h.2.2.2.2.elim
theorem aBY{P:Program}{fn:Func}{w0:World}{M0:iE}{B:List Nat}{post:List HA→VP→Prop}{N:NX}{rs:List ResultVar}{ps:List VP}{a:Act}{w:World}(hrs:fn.results=rs.toArray)(hv:RVs ⟨P,w0,M0,B,N⟩ H E rs ps)(s:Nat.ble ps.length 4=true)(hfr:∀D,N.fr D→w0.heap.size≤D∧M0 D=none)
  (hh:hs ⟨P,w0,M0,B,N⟩ H E a w)(cX:∀M w,St ⟨P,w0,M0,B,N⟩ M w H→∃Ho,post Ho (aFC ps)∧St ⟨P,w0,M0,B,N⟩ M w Ho):LeavesInM Fence.wide 0 P fn a.tmps (Rp P w0 M0 B post) a.defers .returning w:=by
 obtain⟨M,t,j⟩:=hh;refine yA (S:=⟨P,w0,M0,B,N⟩) a.defers M w t (fun d q=>?_) j.defers.2.1 fun M' w' hmc f=>?_
 ·obtain⟨D,u,x,y⟩:=j.defers.1 d q;exact⟨D,u,hfr D x,y⟩
 obtain⟨vs,hall,hr⟩:=aDW f (fun d p q=>let ⟨v,e,k⟩:=j.get d p q;⟨v,e,VP.monoc hmc.c k⟩) hv;have hres:(results fn a.tmps).run P w'=.ok (if h:vs.toArray.size=1 then vs.toArray[0] else .tuple vs.toArray) w':=by
  have e:results fn a.tmps=(do let vs ←fn.results.mapM (aB9 a.tmps);pure (if h:vs.size=1 then vs[0] else .tuple vs)):=rfl;rw[e,hrs,List.mapM_toArray];simp[hr]
 obtain⟨Ho,hp,hst⟩:=cX M' w' f;exact⟨_,hres,_,M',Ho,aFC ps,hp,rfl,hst.reN P 0,aNO (by simpa using s) hall⟩
theorem oL{P:Program}{fn:Func}{w0:World}{M0:iE}{B:List Nat}{post:List HA→VP→Prop}{N:NX}{e:Exit}{rs:List ResultVar}{ps:List VP}(he:e=.ret∨e=.normal)(hrs:fn.results=rs.toArray)(hv:RVs ⟨P,w0,M0,B,N⟩ H E rs ps)(f:Nat.ble ps.length 4=true)
  (is:List Nat){Ho:List HA}(hp:dS H is=some Ho)(j:is.Nodup)(hpost:post Ho (aFC ps))(hfr:∀D,N.fr D→w0.heap.size≤D∧M0 D=none:=by exact fun _ h=>h):
  WX ⟨P,w0,M0,B,N⟩ e (.base (aCK P fn (Rp P w0 M0 B post))) H E:=by
 intro a w hh;have key:=aBY hrs hv f hfr hh fun M w k=>⟨Ho,hpost,k.pick hp j⟩
 rcases he with rfl|rfl<;>exact key
end
theorem yL{x:Int}(e:-9223372036854775808≤x)(f:x≤9223372036854775807):IntKind.i64.wrap x=x:=by
 unfold IntKind.wrap;simp only[IntKind.bits,IntKind.signed,Bool.true_and,ge_iff_le,decide_eq_true_eq];split<;>omega
def aV(x:Int):Option Int:=if -9223372036854775808≤x∧x≤9223372036854775807 then some x else none
theorem vB{x y:Int}(h:aV x=some y):y=x∧-9223372036854775808≤x∧x≤9223372036854775807:=by
 unfold aV at h;split at h
 ·simp only[Option.some.injEq]at h;exact⟨h.symm,‹_›⟩
 ·cases h
def vX(x y:Int):Option Int:=if y=0 then none else aV (x.tdiv y)
def wA(x y:Int):Option Int:=if y=0 then none else some (x.tmod y)
def wu(x:Int):Int:=IntKind.u64.wrap x
def uq(x y:Int):Option Int:=if y=0 then none else some (wu (x.tdiv y))
theorem aR{α β:Type}{o:Option α}{f:α→Option β}{r:β}(h:o.bind f=some r):∃v,o=some v∧f v=some r:=Option.bind_eq_some_iff.1 h
theorem eG{α:Type}{c:Bool}{A B:Option α}{r:α}(h:c=true)(k:(bif c then A else B)=some r):A=some r:=by subst h;exact k
theorem dY{α:Type}{c:Bool}{A B:Option α}{r:α}(h:c=false)(k:(bif c then A else B)=some r):B=some r:=by subst h;exact k
theorem hU(k:IntKind)(n:Int):∀M,(VP.vc (pI k n)).h M (.int k n):=fun _=>rfl
theorem lU(b:Bool):∀M,(VP.vc (pB b)).h M (.bool b):=fun _=>rfl
theorem jV{α:Type}(C:Cd α):∀M,(VP.vc (pS C ([]:List α))).h M (.slice none 0 0):=fun _=>⟨none,0,rfl,by simp,by simp,fun j x h=>by simp at h⟩
theorem k_F(f:Nat):∀M,(VP.vc (pF f [])).h M (.func (.func f) #[] #[]):=fun _=>⟨[],rfl,trivial⟩
section
variable {S:Sx} {κ:Kt} {H:List HA} {E:nV} {ops:Array Oper} {rest:List Oper} {o:Oper}
theorem rH{w:World}{a:Act}{op:BinOp}{T T':Nat}{x y:Operand}{k:IntKind}{u v:Int}{r:Value}(e:o.op=.binOp op T x y T')(f:a.eval x=.int k u)(h:a.eval y=.int k v)(hr:(binOp op T (.int k u) (.int k v)).run S.P w=.ok r w):
  (execOp a.eval o).run S.P w=.ok (.value r) w:=by
 have j:(eqGuard op T x y (.int k u) (.int k v)).run S.P w=.ok () w:=by
  unfold eqGuard;split<;>rfl
 simp[execOp,e,f,h,j,hr]
theorem sS{T T':Nat}{x y:Operand}{u v r:Int}(f:o.op=.binOp .add T x y T')(h:aV (u+v)=some r):Tr S o H H [(x,.vc (pI .i64 u)),(y,.vc (pI .i64 v))] (.vc (pI .i64 r)):=by
 refine⟨fun M w a hs e K Q j=>bR (v:=.int .i64 r) (rH f e.1 e.2.1 ?_) (j _ M w (l5.refl M) hs rfl)⟩;obtain⟨rfl,k,q⟩:=vB h;simp[binOp,Op.intArith,yL k q]
theorem aBX{T T':Nat}{x y:Operand}{u v r:Int}(f:o.op=.binOp .sub T x y T')(h:aV (u-v)=some r):Tr S o H H [(x,.vc (pI .i64 u)),(y,.vc (pI .i64 v))] (.vc (pI .i64 r)):=by
 refine⟨fun M w a hs e K Q j=>bR (v:=.int .i64 r) (rH f e.1 e.2.1 ?_) (j _ M w (l5.refl M) hs rfl)⟩;obtain⟨rfl,k,q⟩:=vB h;simp[binOp,Op.intArith,yL k q]
theorem aEL{T T':Nat}{x y:Operand}{u v r:Int}(f:o.op=.binOp .mul T x y T')(h:aV (u*v)=some r):Tr S o H H [(x,.vc (pI .i64 u)),(y,.vc (pI .i64 v))] (.vc (pI .i64 r)):=by
 refine⟨fun M w a hs e K Q j=>bR (v:=.int .i64 r) (rH f e.1 e.2.1 ?_) (j _ M w (l5.refl M) hs rfl)⟩;obtain⟨rfl,k,q⟩:=vB h;simp[binOp,Op.intArith,yL k q]
theorem aDj{T T':Nat}{x y:Operand}{u v r:Int}(f:o.op=.binOp .quo T x y T')(h:vX u v=some r):Tr S o H H [(x,.vc (pI .i64 u)),(y,.vc (pI .i64 v))] (.vc (pI .i64 r)):=by
 refine⟨fun M w a hs e K Q j=>bR (v:=.int .i64 r) (rH f e.1 e.2.1 ?_) (j _ M w (l5.refl M) hs rfl)⟩;unfold vX at h;split at h
 ·cases h
 ·rename_i hv;obtain⟨rfl,k,q⟩:=vB h;simp[binOp,Op.intDiv,hv,yL k q]
theorem zR{T T':Nat}{x y:Operand}{u v r:Int}{k:IntKind}(f:o.op=.binOp .rem T x y T')(h:wA u v=some r):Tr S o H H [(x,.vc (pI k u)),(y,.vc (pI k v))] (.vc (pI k r)):=by
 refine⟨fun M w a hs e K Q j=>bR (v:=.int k r) (rH f e.1 e.2.1 ?_) (j _ M w (l5.refl M) hs rfl)⟩;unfold wA at h;split at h
 ·cases h
 ·rename_i hv;simp only[Option.some.injEq]at h;subst h;simp[binOp,Op.intDiv,hv]
theorem aL8{T T':Nat}{x y:Operand}{u v:Int}(f:o.op=.binOp .mul T x y T'):Tr S o H H [(x,.vc (pI .u64 u)),(y,.vc (pI .u64 v))] (.vc (pI .u64 (wu (u*v)))):=
 ⟨fun M w a hs e K Q h=>bR (v:=.int .u64 (wu (u*v))) (rH f e.1 e.2.1 (by simp[binOp,Op.intArith,wu])) (h _ M w (l5.refl M) hs rfl)⟩
theorem aEh{T T':Nat}{x y:Operand}{u v r:Int}(f:o.op=.binOp .quo T x y T')(h:uq u v=some r):Tr S o H H [(x,.vc (pI .u64 u)),(y,.vc (pI .u64 v))] (.vc (pI .u64 r)):=by
 refine⟨fun M w a hs e K Q j=>bR (v:=.int .u64 r) (rH f e.1 e.2.1 ?_) (j _ M w (l5.refl M) hs rfl)⟩;unfold uq at h;split at h
 ·cases h
 ·rename_i hv;simp only[Option.some.injEq]at h;subst h;simp[binOp,Op.intDiv,hv,wu]
theorem vY{T T':Nat}{x y:Operand}{u v:Int}{k:IntKind}(f:o.op=.binOp .eql T x y T'):Tr S o H H [(x,.vc (pI k u)),(y,.vc (pI k v))] (.vc (pB (u==v))):=
 ⟨fun M w a hs e K Q h=>bR (v:=.bool (u==v)) (rH f e.1 e.2.1 (by simp[binOp,Op.intCmp])) (h _ M w (l5.refl M) hs rfl)⟩
theorem z6{T T':Nat}{x y:Operand}{u v:Int}{k:IntKind}(f:o.op=.binOp .neq T x y T'):Tr S o H H [(x,.vc (pI k u)),(y,.vc (pI k v))] (.vc (pB (u != v))):=
 ⟨fun M w a hs e K Q h=>bR (v:=.bool (u != v)) (rH f e.1 e.2.1 (by simp[binOp,Op.intCmp])) (h _ M w (l5.refl M) hs rfl)⟩
theorem aFI{T T':Nat}{x y:Operand}{u v:Int}{k:IntKind}(f:o.op=.binOp .lss T x y T'):Tr S o H H [(x,.vc (pI k u)),(y,.vc (pI k v))] (.vc (pB (decide (u<v)))):=
 ⟨fun M w a hs e K Q h=>bR (v:=.bool (decide (u<v))) (rH f e.1 e.2.1 (by simp[binOp,Op.intCmp])) (h _ M w (l5.refl M) hs rfl)⟩
theorem aBU{T T':Nat}{x y:Operand}{u v:Int}{k:IntKind}(f:o.op=.binOp .leq T x y T'):Tr S o H H [(x,.vc (pI k u)),(y,.vc (pI k v))] (.vc (pB (decide (u≤v)))):=
 ⟨fun M w a hs e K Q h=>bR (v:=.bool (decide (u≤v))) (rH f e.1 e.2.1 (by simp[binOp,Op.intCmp])) (h _ M w (l5.refl M) hs rfl)⟩
theorem aMt{T T':Nat}{x y:Operand}{u v:Int}{k:IntKind}(f:o.op=.binOp .gtr T x y T'):Tr S o H H [(x,.vc (pI k u)),(y,.vc (pI k v))] (.vc (pB (decide (v<u)))):=
 ⟨fun M w a hs e K Q h=>bR (v:=.bool (decide (v<u))) (rH f e.1 e.2.1 (by simp[binOp,Op.intCmp])) (h _ M w (l5.refl M) hs rfl)⟩
theorem aMo{T T':Nat}{x y:Operand}{u v:Int}{k:IntKind}(f:o.op=.binOp .geq T x y T'):Tr S o H H [(x,.vc (pI k u)),(y,.vc (pI k v))] (.vc (pB (decide (v≤u)))):=
 ⟨fun M w a hs e K Q h=>bR (v:=.bool (decide (v≤u))) (rH f e.1 e.2.1 (by simp[binOp,Op.intCmp])) (h _ M w (l5.refl M) hs rfl)⟩
theorem aE5{w:World}{a:Act}{op:BinOp}{T T':Nat}{x y:Operand}{u v:Bool}{r:Value}(e:o.op=.binOp op T x y T')(f:a.eval x=.bool u)(h:a.eval y=.bool v)(hr:(binOp op T (.bool u) (.bool v)).run S.P w=.ok r w):
  (execOp a.eval o).run S.P w=.ok (.value r) w:=by
 have j:(eqGuard op T x y (.bool u) (.bool v)).run S.P w=.ok () w:=by
  unfold eqGuard;split<;>rfl
 simp[execOp,e,f,h,j,hr]
theorem aJe{T T':Nat}{x y:Operand}{u v:Bool}(f:o.op=.binOp .eql T x y T')(h:S.P.underlying T=some .bool):Tr S o H H [(x,.vc (pB u)),(y,.vc (pB v))] (.vc (pB (u==v))):=
 ⟨fun M w a hs e K Q j=>bR (v:=.bool (u==v)) (aE5 f e.1 e.2.1 (by
  have:=run_equalIn_bool (P:=S.P) w 9999 T u v h;simp only[binOp,Sem.run_bind,Op.equal];rw[show Op.maxDepth=9999+1 from rfl,this];simp)) (j _ M w (l5.refl M) hs rfl)⟩
theorem zU{T T':Nat}{x y:Operand}{u v:Bool}(f:o.op=.binOp .neq T x y T')(h:S.P.underlying T=some .bool):Tr S o H H [(x,.vc (pB u)),(y,.vc (pB v))] (.vc (pB (u != v))):=
 ⟨fun M w a hs e K Q j=>bR (v:=.bool (u != v)) (aE5 f e.1 e.2.1 (by
  have:=run_equalIn_bool (P:=S.P) w 9999 T u v h;simp only[binOp,Sem.run_bind,Op.equal];rw[show Op.maxDepth=9999+1 from rfl,this];simp only[Result.andThen_ok,Sem.run_pure];rfl)) (j _ M w (l5.refl M) hs rfl)⟩
theorem aGh{T:Nat}{x:Operand}{u:Bool}(e:o.op=.unOp .not T x):Tr S o H H [(x,.vc (pB u))] (.vc (pB (!u))):=
 ⟨fun M w a hs f K Q h=>bR (v:=.bool (!u)) (by have j:a.eval x=.bool u:=f.1;simp[execOp,e,j,Op.unary]) (h _ M w (l5.refl M) hs rfl)⟩
theorem aKU{T:Nat}{x:Operand}{u r:Int}(e:o.op=.unOp .neg T x)(h:aV (-u)=some r):Tr S o H H [(x,.vc (pI .i64 u))] (.vc (pI .i64 r)):=
 ⟨fun M w a hs f K Q j=>bR (v:=.int .i64 r) (by
  have k:a.eval x=.int .i64 u:=f.1;obtain⟨rfl,q,s⟩:=vB h;simp[execOp,e,k,Op.unary,Op.intArith,yL q s]) (j _ M w (l5.refl M) hs rfl)⟩
theorem aMa{T:Nat}{x:Operand}{u:Int}(e:o.op=.unOp .neg T x):Tr S o H H [(x,.vc (pI .u64 u))] (.vc (pI .u64 (wu (-u)))):=
 ⟨fun M w a hs f K Q h=>bR (v:=.int .u64 (wu (-u))) (by
  have j:a.eval x=.int .u64 u:=f.1;simp[execOp,e,j,Op.unary,Op.intArith,wu]) (h _ M w (l5.refl M) hs rfl)⟩
theorem cE{c x y:Operand}{p:VP}(f:o.op=.pick c x y):Tr S o H H [(c,.vc (pB true)),(x,p)] p:=
 ⟨fun M w a hs e K Q h=>bR (v:=a.eval x) (by have hc:a.eval c=.bool true:=e.1;simp[execOp,f,hc,asBool]) (h _ M w (l5.refl M) hs e.2.1)⟩
theorem aP{c x y:Operand}{p:VP}(f:o.op=.pick c x y):Tr S o H H [(c,.vc (pB false)),(y,p)] p:=
 ⟨fun M w a hs e K Q h=>bR (v:=a.eval y) (by have hc:a.eval c=.bool false:=e.1;simp[execOp,f,hc,asBool]) (h _ M w (l5.refl M) hs e.2.1)⟩
theorem sG{x:Operand}{p q:VP}(f:o.op=.extract x 0):Tr S o H H [(x,.t2 p q)] p:=
 ⟨fun M w a hs h K Q j=>by
  obtain⟨u,v,e,k,s⟩:=h.1;exact bR (v:=u) (by have e:a.eval x=_:=e;simp[execOp,f,e,Instr.extract]) (j _ M w (l5.refl M) hs k)⟩
theorem rE{x:Operand}{p q:VP}(f:o.op=.extract x 1):Tr S o H H [(x,.t2 p q)] q:=
 ⟨fun M w a hs h K Q j=>by
  obtain⟨u,v,e,s,k⟩:=h.1;exact bR (v:=v) (by have e:a.eval x=_:=e;simp[execOp,f,e,Instr.extract]) (j _ M w (l5.refl M) hs k)⟩
theorem aGs{x:Operand}{p q r:VP}(f:o.op=.extract x 0):Tr S o H H [(x,.t3 p q r)] p:=
 ⟨fun M w a hs h K Q j=>by
  obtain⟨u,v,y,e,k,s,t⟩:=h.1;exact bR (v:=u) (by have e:a.eval x=_:=e;simp[execOp,f,e,Instr.extract]) (j _ M w (l5.refl M) hs k)⟩
theorem aGK{x:Operand}{p q r:VP}(f:o.op=.extract x 1):Tr S o H H [(x,.t3 p q r)] q:=
 ⟨fun M w a hs h K Q j=>by
  obtain⟨u,v,y,e,s,k,t⟩:=h.1;exact bR (v:=v) (by have e:a.eval x=_:=e;simp[execOp,f,e,Instr.extract]) (j _ M w (l5.refl M) hs k)⟩
theorem aGX{x:Operand}{p q r:VP}(f:o.op=.extract x 2):Tr S o H H [(x,.t3 p q r)] r:=
 ⟨fun M w a hs h K Q j=>by
  obtain⟨u,v,y,e,s,t,k⟩:=h.1;exact bR (v:=y) (by have e:a.eval x=_:=e;simp[execOp,f,e,Instr.extract]) (j _ M w (l5.refl M) hs k)⟩
theorem zP{s d:Nat}{x:Operand}{k e:IntKind}{u:Int}(h:o.op=.convert s d x)(f:∃t,S.P.underlying s=some t)(j:S.P.underlying d=some (.int e)):Tr S o H H [(x,.vc (pI k u))] (.vc (pI e (e.wrap u))):=
 ⟨fun M w a hs q K Q y=>by
  have z:a.eval x=.int k u:=q.1;obtain⟨t,F⟩:=f;exact bR (v:=.int e (e.wrap u)) (by simp[execOp,h,z,convert,run_underlying F,run_underlying j,Conv.intToInt]) (y _ M w (l5.refl M) hs rfl)⟩
theorem aKs{f:Nat}{xs:List Operand}{cs:List CP}(ho:o.op=.makeFunc (.func f) #[] xs.toArray)(hl:xs.length=cs.length):Tr S o H H (xs.zip (cs.map .vc)) (.vc (pF f cs)):=by
 refine⟨fun M w a hs hi K Q hk=>?_⟩;have key:∀(xs:List Operand) (cs:List CP),xs.length=cs.length→Ins M a (xs.zip (cs.map .vc))→bC M cs (xs.map a.eval):=by
  intro xs
  induction xs with
  |nil=>intro cs h _;cases cs<;>first|trivial|simp at h
  |cons x xs ih=>
   intro cs h hi;cases cs with
   |nil=>simp at h
   |cons c cs=>exact⟨hi.1,ih cs (by simpa using h) hi.2⟩
 exact bR (v:=.func (.func f) #[] (xs.map a.eval).toArray) (by simp[execOp,ho,Instr.makeFunc]) (hk _ M w (l5.refl M) hs ⟨_,rfl,key xs cs hl hi⟩)
end
/-- Cells put over others, written out. -/
def tM:List CP→Nat→List CP→Option (List CP)
 |ps,0,[]=>some ps
 |_::ps,0,q::qs=>match tM ps 0 qs with
  |some r=>some (q::r)
  |none=>none
 |p::ps,off+1,qs=>match tM ps off qs with
  |some r=>some (p::r)
  |none=>none
 |[],0,_::_=>none
 |[],_+1,_=>none
def pW:Nat→List CP→Option (List CP)
 |0,_=>some []
 |k+1,p::ps=>match pW k ps with
  |some r=>some (p::r)
  |none=>none
 |_+1,[]=>none
theorem wL:∀{k:Nat} {ps qs:List CP},pW k ps=some qs→ps.take k=qs∧qs.length=k
 |0,ps,qs,h=>by simp[pW]at h;subst h;simp
 |k+1,[],qs,h=>by simp[pW]at h
 |k+1,p::ps,qs,h=>by
  simp only[pW]at h;cases e:pW k ps with
  |none=>rw[e]at h;simp at h
  |some r=>
   rw[e]at h;simp only[Option.some.injEq]at h;subst h;obtain⟨f,j⟩:=wL e;simp[f,j]
theorem w8:∀{ps:List CP} {off:Nat} {qs r:List CP},tM ps off qs=some r→r=ps.take off++qs++ps.drop (off+qs.length)∧off+qs.length≤ps.length
 |ps,0,[],r,h=>by simp[tM]at h;subst h;simp
 |p::ps,0,q::qs,r,h=>by
  simp only[tM]at h;cases e:tM ps 0 qs with
  |none=>rw[e]at h;simp at h
  |some k=>
   rw[e]at h;simp only[Option.some.injEq]at h;subst h;obtain⟨f,j⟩:=w8 e;subst f;simp at j ⊢;omega
 |p::ps,off+1,qs,r,h=>by
  cases qs with
  |nil=>
   simp only[tM]at h;cases e:tM ps off [] with
   |none=>rw[e]at h;simp at h
   |some k=>
    rw[e]at h;simp only[Option.some.injEq]at h;subst h;obtain⟨f,j⟩:=w8 e;subst f;simp at j ⊢;omega
  |cons q qs=>
   simp only[tM]at h;cases e:tM ps off (q::qs) with
   |none=>rw[e]at h;simp at h
   |some k=>
    rw[e]at h;simp only[Option.some.injEq]at h;subst h;obtain⟨f,j⟩:=w8 e;subst f;simp at j ⊢;refine⟨?_,by omega⟩;rw[show off+1+(qs.length+1)=(off+(qs.length+1))+1 by omega];simp
 |[],0,_::_,_,h=>by simp[tM]at h
 |[],_+1,[],_,h=>by simp[tM]at h
 |[],_+1,_::_,_,h=>by simp[tM]at h
theorem aCv{M:iE}{ps qs r:List CP}{off:Nat}{vs us:List Value}(h:tM ps off qs=some r)(hv:bC M ps vs)(hu:bC M qs us):bC M r (vs.take off++us++vs.drop (off+us.length)):=by
 obtain⟨rfl,e⟩:=w8 h;have:=hu.len;rw[this];exact((hv.take off).app hu).app (hv.drop _)
def vC:List HA→Nat→HA→Option (List HA)
 |_::l,0,x=>some (x::l)
 |e::l,i+1,x=>match vC l i x with
  |some r=>some (e::r)
  |none=>none
 |[],_,_=>none
theorem zC:∀{l:List HA} {i:Nat} {x:HA} {r:List HA},vC l i x=some r→r=l.set i x
 |_::l,0,x,r,h=>by simp[vC]at h;simp[h]
 |e::l,i+1,x,r,h=>by
  simp only[vC]at h;cases f:vC l i x with
  |none=>rw[f]at h;simp at h
  |some j=>rw[f]at h;simp only[Option.some.injEq]at h;subst h;simp[zC f]
 |[],_,_,_,h=>by simp[vC]at h
def xO:List HA→Nat→Option (List HA)
 |_::l,0=>some l
 |e::l,i+1=>match xO l i with
  |some r=>some (e::r)
  |none=>none
 |[],_=>none
theorem vO:∀{l:List HA} {i:Nat} {r:List HA},xO l i=some r→r=l.eraseIdx i
 |_::l,0,r,h=>by simp[xO]at h;simp[h]
 |e::l,i+1,r,h=>by
  simp only[xO]at h;cases f:xO l i with
  |none=>rw[f]at h;simp at h
  |some j=>rw[f]at h;simp only[Option.some.injEq]at h;subst h;simp[vO f]
 |[],_,_,h=>by simp[xO]at h
def aDs:List Value→Nat→List Value→List Value
 |l,_,[]=>l
 |l,off,u::us=>aDs (l.set off u) (off+1) us
theorem aB1:∀(us l:List Value) (off:Nat),off+us.length≤l.length→aDs l off us=l.take off++us++l.drop (off+us.length)
 |[],l,off,_=>by simp[aDs]
 |u::us,l,off,h=>by
  simp only[List.length_cons]at h;have ih:=aB1 us (l.set off u) (off+1) (by simp;omega);simp only[aDs,ih];have e:(l.set off u).take (off+1)=l.take off++[u]:=by
   rw[List.take_succ_eq_append_getElem (by simp;omega),List.take_set_of_le (by omega)];simp
  have f:(l.set off u).drop (off+1+us.length)=l.drop (off+(us.length+1)):=by
   rw[List.drop_set_of_lt (by omega)];congr 1;omega
  rw[e,f];simp
theorem aAb(off:Nat):∀(us:List Value) (k:Nat) (arr:Array Value),((us.zipIdx k).foldl (fun(cs:Array Value) (x:Value×Nat)=>cs.setIfInBounds (off+x.2) x.1) arr).toList=aDs arr.toList (off+k) us
 |[],_,_=>rfl
 |u::us,k,arr=>by
  simp only[List.zipIdx_cons,List.foldl_cons,aDs];rw[aAb off us (k+1)];simp[Nat.add_assoc]
def aEM(pl:List (Nat×Nat)):List CP→List (Nat×VP)→Option (List CP)
 |ps,[]=>some ps
 |ps,(i,p)::r=>match pl[i]? with
  |none=>none
  |some (off,size)=>bif Nat.beq p.cells.length size then
    match tM ps off p.cells with
    |some ps'=>aEM pl ps' r
    |none=>none
   else none
def aDS:List VP→Prop
 |[]=>True
 |p::ps=>p.flat∧aDS ps
theorem aGb{M:iE}(place:Nat→Option (Nat×Nat))(pl:List (Nat×Nat))(hpl:∀i,pl[i]?≠none→place i=pl[i]?):∀(is:List Nat) (qs:List VP) (vs:List Value) (ps ps':List CP) (cs:Array Value),is.length=qs.length→bC M ps cs.toList→aDS qs→jX M qs vs→aEM pl ps (is.zip qs)=some ps'→
  ∃cs',Instr.fill place cs (is.zip vs)=some cs'∧bC M ps' cs'.toList
 |[],[],[],ps,ps',cs,_,h,_,_,e=>⟨cs,rfl,by simp[aEM]at e;subst e;exact h⟩
 |i::is,q::qs,v::vs,ps,ps',cs,f,h,hfl,hv,e=>by
  simp only[List.zip_cons_cons,aEM]at e;cases k:pl[i]? with
  |none=>rw[k]at e;simp at e
  |some os=>
   obtain⟨off,size⟩:=os;rw[k]at e;simp only at e;cases t:Nat.beq q.cells.length size with
   |false=>rw[t]at e;simp at e
   |true=>
    rw[t]at e;simp only[cond_true]at e;cases s:tM ps off q.cells with
    |none=>rw[s]at e;simp at e
    |some j=>
     rw[s]at e;simp only at e;have hsz:q.cells.length=size:=Nat.eq_of_beq_eq_true t;have hcs:=VP.cells_of hfl.1 hv.1;have hvl:v.cells.size=size:=by have:=hcs.len;simp at this;omega
     have hle:=(w8 s).2;have hlen:=h.len;simp only[Array.length_toList]at hlen;have hstep:bC M j (v.cells.zipIdx.foldl (fun(cs:Array Value) (x:Value×Nat)=>cs.setIfInBounds (off+x.2) x.1) cs).toList:=by
      rw[←Array.foldl_toList,Array.toList_zipIdx,aAb,Nat.add_zero,aB1 _ _ _ (by simp;omega)];exact aCv s h hcs
     obtain⟨cs',u,y⟩:=aGb place pl hpl is qs vs j ps' _ (by simpa using f) hstep hfl.2 hv.2 e;refine⟨cs',?_,y⟩;have hp:place i=some (off,size):=by rw[hpl i (by rw[k];simp),k]
     simp only[List.zip_cons_cons,Instr.fill,hp];rw[if_neg (by simp[hvl];omega)];exact u
 |[],_::_,_,_,_,_,f,_,_,_,_=>by simp at f
 |_::_,[],_,_,_,_,f,_,_,_,_=>by simp at f
 |[],[],_::_,_,_,_,_,_,_,h,_=>h.elim
 |_::_,_::_,[],_,_,_,_,_,_,h,_=>h.elim
structure TyB (P:Program) (t:Nat) (pl:List (Nat×Nat)) (zs:List CP):Prop where
 h:∃(z:Value) (f:Nat→Option (Nat×Nat)),(∀parts,P.built t parts=Instr.fill f z.cells parts)∧(∀i,i<pl.length→f i=pl[i]?)∧∀M,bC M zs z.cells.toList
section
variable {S:Sx} {κ:Kt} {H H':List HA} {E:nV} {ops:Array Oper} {rest:List Oper} {o:Oper}
theorem gP{t:Nat}{is:List Nat}{xs:List Operand}{ps:List VP}{pl:List (Nat×Nat)}{zs qs:List CP}(k:o.op=.build t (is.zip xs).toArray)(hb:TyB S.P t pl zs)(e:is.length=ps.length)(q:xs.length=ps.length)(s:aDS ps)(u:aEM pl zs (is.zip ps)=some qs):
  Tr S o H H (xs.zip ps) (.va qs):=by
 refine⟨fun M w a h hin K Q y=>?_⟩;obtain⟨z,f,F,hfl,hzs⟩:=hb.h;have hall:=jX.of_ins q hin;obtain⟨cs',j,G⟩:=aGb (M:=M) f pl (fun i I=>hfl i (by by_cases h:i<pl.length;exact h;exact absurd (List.getElem?_eq_none (Nat.not_lt.1 h)) I)) is ps _ zs qs z.cells e (hzs M) s hall u;rw[←F]at j;have hr:=run_build (P:=S.P) w t (is.zip (xs.map a.eval)).toArray cs' (by simpa using j);refine bR (v:=.agg cs') ?_ (y _ M w (l5.refl M) h ⟨cs'.toList,by simp,G⟩);have:((is.zip xs).map fun x=>(x.1,a.eval x.2))=is.zip (xs.map a.eval):=by
  rw[List.zip_map_right];rfl
 simp[execOp,k,this,hr]
theorem St.newM{M:iE}{w:World}{o:Obj}(h:St S M w H):l5 M (fun b=>if b=w.heap.size then some o else M b)∧St S (fun b=>if b=w.heap.size then some o else M b) (w.alloc o) H:=by
 have k:M w.heap.size=none:=h.mem.none (Nat.le_refl _);have hle:l5 M (fun b=>if b=w.heap.size then some o else M b):=fun b x hb=>by
  have:=h.mem.lt hb;show(if b=w.heap.size then some o else M b)=some x;rw[if_neg (by omega)];exact hb
 have f:=World.grownBy_alloc w o none;refine⟨hle,fun b x hb=>hle b x (h.le0 b x hb),fun b x hb=>?_,fun b hb hB=>?_,fun b hb hB=>?_,Nat.le_trans h.size f.size,f.os.trans h.os,f.tape.trans h.tape,f.output.trans h.output,fun e he=>?_,h.fresh,h.nodup⟩
 ·have j:(if b=w.heap.size then some o else M b)=some x:=hb;clear hb;by_cases e:b=w.heap.size
  ·rw[if_pos e]at j;rw[e,←j];exact heap_alloc_new w o
  ·rw[if_neg e]at j;rw[heap_alloc_old w o b (h.mem.lt j)];exact h.mem b x j
 ·rw[heap_alloc_old w o b (Nat.lt_of_lt_of_le hb h.size)];exact h.keep b hb hB
 ·have:=h.size;show(if b=w.heap.size then some o else M b)=_;rw[if_neg (by omega)];exact h.new b hb hB
 ·refine(HA.ok.kept (h.own e he) f (fun b _=>by simp)).mem hle fun b hb=>?_
  have:=(h.own e he).lt hb;show(if b=w.heap.size then some o else M b)=_;rw[if_neg (by omega)];exact(h.own e he).2 b hb
theorem aHi{α:Type}(C:Cd α)(xs:List α)(M:iE)(cs:Array Value)(h:bC M (flat C xs) cs.toList)(e:Nat)(M':iE)(b:Nat)(hm:l5 M M')(hb:M' b=some (.cells cs e (0,0)))(c:Nat)(hc:xs.length≤c)(k:xs.length≤xM):
  (pS C xs).h M' (.slice (some ⟨b,0,none⟩) xs.length c):=by
 refine⟨_,_,rfl,k,hc,fun j x q=>⟨b,0,rfl,?_⟩⟩;refine⟨(cs.toList.drop (j*C.n)).take C.n,?_,fun t u f=>?_⟩
 ·have:=((bC.mono hm h).drop (j*C.n)).take C.n
  rwa [yZ C xs j x q]at this
 ·rw[List.getElem?_take]at f;split at f
  ·rw[List.getElem?_drop]at f;simp only[sY,hb,Nat.zero_add];simpa using f
  ·cases f
def VE{α:Type}(C:Cd α)(q:VP)(x:α):Prop:=q.flat∧q.cells=C.e x
def VEs{α:Type}(C:Cd α):List VP→List α→Prop
 |[],[]=>True
 |q::qs,x::xs=>VE C q x∧VEs C qs xs
 |_,_=>False
theorem VEs.all{α:Type}{C:Cd α}{M:iE}:∀{qs:List VP} {xs:List α} {vs:List Value},VEs C qs xs→jX M qs vs→bC M (flat C xs) (vs.flatMap fun v=>v.cells.toList)
 |[],[],[],_,_=>trivial
 |q::qs,x::xs,v::vs,h,k=>by
  have e:=VP.cells_of h.1.1 k.1;rw[h.1.2]at e;exact e.app (VEs.all h.2 k.2)
 |[],[],_::_,_,h=>h.elim
 |_::_,_::_,[],_,h=>h.elim
 |[],_::_,_,h,_=>h.elim
 |_::_,[],_,h,_=>h.elim
theorem VEs.len{α:Type}{C:Cd α}:∀{qs:List VP} {xs:List α},VEs C qs xs→qs.length=xs.length
 |[],[],_=>rfl
 |_::_,_::_,h=>by simp[VEs.len h.2]
 |[],_::_,h=>h.elim
 |_::_,[],h=>h.elim
theorem VEs.size{α:Type}{C:Cd α}{M:iE}:∀{qs:List VP} {xs:List α} {vs:List Value},VEs C qs xs→jX M qs vs→∀v∈vs,v.cells.size=C.n
 |[],[],[],_,_,v,hv=>by simp at hv
 |q::qs,x::xs,u::vs,h,k,v,hv=>by
  rcases List.mem_cons.1 hv with rfl|hv
  ·have e:=(VP.cells_of h.1.1 k.1).len;rw[h.1.2,C.len]at e;simpa using e
  ·exact VEs.size h.2 k.2 v hv
 |[],[],_::_,_,h,_,_=>h.elim
 |_::_,_::_,[],_,h,_,_=>h.elim
 |[],_::_,_,h,_,_,_=>h.elim
 |_::_,[],_,h,_,_,_=>h.elim
theorem aCj(k:Nat):∀(vs:List Value) (j:Nat) (cs:Array Value),(∀v∈vs,v.cells.size=k)→(j+vs.length)*k≤cs.size→
  ∃cs',Instr.fill (fun i=>some (i*k,k)) cs ((List.range' j vs.length).zip vs)=some cs'∧cs'.toList=cs.toList.take (j*k)++(vs.flatMap fun v=>v.cells.toList)++cs.toList.drop ((j+vs.length)*k)
 |[],j,cs,_,_=>⟨cs,rfl,by simp⟩
 |v::vs,j,cs,hv,f=>by
  have hvs:v.cells.size=k:=hv v (by simp);simp only[List.length_cons]at f;have hjk:j*k+k≤cs.size:=by
   have:(j+1)*k≤(j+(vs.length+1))*k:=Nat.mul_le_mul_right _ (by omega);rw[Nat.add_mul,Nat.one_mul]at this;omega
  have key:(v.cells.zipIdx.foldl (fun(cs:Array Value) (x:Value×Nat)=>cs.setIfInBounds (j*k+x.2) x.1) cs).toList=cs.toList.take (j*k)++v.cells.toList++cs.toList.drop (j*k+k):=by
   rw[←Array.foldl_toList,Array.toList_zipIdx,aAb,Nat.add_zero,aB1 _ _ _ (by simp[hvs];omega)];simp[hvs]
  generalize s:v.cells.zipIdx.foldl (fun(cs:Array Value) (x:Value×Nat)=>cs.setIfInBounds (j*k+x.2) x.1) cs=A at key;have e:A.size=cs.size:=by
   have:=congrArg List.length key;simp[hvs]at this;omega
  obtain⟨cs',h,t⟩:=aCj k vs (j+1) A (fun u hu=>hv u (by simp[hu])) (by rw[e];rw[show j+1+vs.length=j+(vs.length+1) by omega];exact f);refine⟨cs',?_,?_⟩
  ·simp only[List.length_cons,List.range'_succ,List.zip_cons_cons,Instr.fill];rw[if_neg (by simp[hvs];omega)];rw[←s]at h;exact h
  ·rw[t,key];have y:(j+1)*k=j*k+k:=by rw[Nat.add_mul,Nat.one_mul]
   have z:(cs.toList.take (j*k)++v.cells.toList++cs.toList.drop (j*k+k)).take ((j+1)*k)=cs.toList.take (j*k)++v.cells.toList:=by
    rw[List.take_append_of_le_length (by simp[hvs];omega)];rw[List.take_of_length_le (by simp[hvs];omega)]
   have F:(cs.toList.take (j*k)++v.cells.toList++cs.toList.drop (j*k+k)).drop ((j+1+vs.length)*k)=cs.toList.drop ((j+(vs.length+1))*k):=by
    have q:(j+1+vs.length)*k=(j*k+k)+vs.length*k:=by rw[Nat.add_mul,y]
    have hlen:(cs.toList.take (j*k)++v.cells.toList).length=j*k+k:=by simp[hvs];omega
    rw[q,←List.drop_drop,←hlen,List.drop_left,List.drop_drop,hlen,←q];congr 2;omega
   rw[z,F];simp
theorem qP{α:Type}{C:Cd α}{t e bytes:Nat}{xs:List Operand}{ps:List VP}{zs:List α}(F:o.op=.buildSlice t zs.length ((List.range' 0 xs.length).zip xs).toArray)(j:TyS S.P t e C.n bytes)(q:xs.length=ps.length)(hv:VEs C ps zs)(hsm:Nat.ble (zs.length*C.n) 16777216=true):
  Tr S o H H (xs.zip ps) (.vc (pS C zs)):=by
 refine⟨fun M w a h hin K Q L=>?_⟩;have hall:=jX.of_ins q hin;obtain⟨i,G,hsz,hby,z,O,hzs⟩:=j.s;have hlz:=VEs.len hv;have hsm':zs.length*C.n≤16777216:=by simpa using hsm
 have U:zs.length≤xM:=by
  have:=Nat.le_mul_of_pos_right zs.length j.pos;simp only[xM];omega
 obtain⟨cs',I,V⟩:=aCj C.n (xs.map a.eval) 0 ((Array.range (zs.length*C.n)).map (z.cells[·%z.cells.size]!)) (VEs.size hv hall) (by simp[q,hlz]);have k:cs'.toList=(xs.map a.eval).flatMap fun v=>v.cells.toList:=by
  rw[V];simp[q,hlz]
 have f:=VEs.all hv hall;rw[←k]at f;obtain⟨hle,hst⟩:=h.newM (o:=.cells cs' e (0,0));refine bR (v:=.slice (some ⟨w.heap.size,0,none⟩) zs.length zs.length) (w':=w.alloc (.cells cs' e (0,0))) ?_ (L _ _ _ hle hst (aHi C zs M cs' f e _ _ hle (by simp) _ (Nat.le_refl _) U));have hzip:(((List.range' 0 xs.length).zip xs).map fun x=>(x.1,a.eval x.2))=(List.range' 0 (xs.map a.eval).length).zip (xs.map a.eval):=by
  rw[List.zip_map_right];simp
 by_cases J:zs.length*C.n=0
 ·have y:zs.length=0:=by rcases Nat.mul_eq_zero.1 J with h|h<;>have:=j.pos<;>omega
  have hzs':zs=[]:=List.eq_nil_of_length_eq_zero y;subst hzs';have hxs:xs=[]:=List.eq_nil_of_length_eq_zero (by simpa [hlz] using q);subst hxs;have hcs:cs'=#[]:=by apply Array.ext';simpa using k
  subst hcs;simp[execOp,F,Instr.buildSlice,run_underlying j.u,sizeOf,typeInfo,G,Instr.fill,newRow,Array.range_zero']
 ·have hgt:¬(zs.length*C.n>16777216):=by omega
  simp only[List.length_map]at I;simp[execOp,F,Instr.buildSlice,run_underlying j.u,sizeOf,typeInfo,G,hsz,hgt,J,zeroValue,O,hzip,I,newRow]
end
def xU{α:Type}(n:Int)(z:α):Option (List α):=if 0≤n∧n≤68719476736 then some (List.replicate n.toNat z) else none
def uK{α:Type}(xs ys:List α):Option (List α):=if xs.length+ys.length≤68719476736 then some (xs++ys) else none
def oZ{α:Type}(xs:List α)(j:Int)(x:α):Option (List α):=if 0≤j∧j.toNat<xs.length then some (xs.set j.toNat x) else none
def xN{α:Type}(xs:List α)(lo e:Int):Option (List α):=if 0≤lo∧lo≤e∧e≤xs.length then some ((xs.drop lo.toNat).take (e.toNat-lo.toNat)) else none
theorem aKt{α:Type}{n:Int}{z:α}{xs:List α}(h:xU n z=some xs):xs.length=n.toNat:=by
 unfold xU at h;split at h
 ·simp only[Option.some.injEq]at h;subst h;simp
 ·cases h
theorem jE{α:Type}{xs ys zs:List α}{n:Nat}(h:uK xs ys=some zs)(e:xs.length=n):zs.length=n+ys.length:=by
 unfold uK at h;split at h
 ·simp only[Option.some.injEq]at h;subst h;simp[e]
 ·cases h
theorem cC{α:Type}{xs zs:List α}{j:Int}{x:α}{n:Nat}(h:oZ xs j x=some zs)(e:xs.length=n):zs.length=n:=by
 unfold oZ at h;split at h
 ·simp only[Option.some.injEq]at h;subst h;simp[e]
 ·cases h
def pE(β:Option Nat)(j:Int)(n o:Nat):CP:=⟨fun _ v=>∃b,β=some b∧v=.pointer (some ⟨b,j.toNat*n+o,none⟩),fun _ h=>h,fun h=>by obtain⟨b,_,rfl⟩:=h;rfl⟩
abbrev hO {α:Type} (C:Cd α) (β:Option Nat) (c T n:Nat) (xs:List α):HA:=⟨β,c,T,C.n,n,flat C xs⟩
section
variable {S:Sx} {κ:Kt} {H H':List HA} {E:nV} {ops:Array Oper} {rest:List Oper} {o:Oper}
theorem aCd{α:Type}{C:Cd α}{xs:List α}{E:nV}{i:Nat}{β:Option Nat}{c T n:Nat}{ds:List Nat}{H':List HA}(e:H[i]?=some (hO C β c T n xs))(f:xs.length=n)(j:xs.length≤xM)
  (hds:∀d∈ds,iQ E d=some (.vc (pO β n c)))(k:xO H i=some H'){a:Act}{w:World}(h:hs S H E a w):
  hs S H' (ds.map (fun d=>(d,VP.vc (pS C xs)))++E) a w:=by
 subst f;rw[vO k];exact aG6 e j hds h
theorem aGJ{α:Type}{C:Cd α}{xs:List α}{i:Nat}{β:Option Nat}{c T n:Nat}{M:iE}{w:World}(h:St S M w H)(f:H[i]?=some (hO C β c T n xs)):n≤maxLen:=by
 obtain⟨⟨vs,how,_⟩,_⟩:=h.own _ (List.mem_of_getElem? f);rcases how.2 with⟨j,k⟩|⟨g,cap,cur,j,_,_,q,s,_⟩
 ·have e:n=0:=k;rw[e];exact Nat.zero_le _
 ·exact Nat.le_trans q s
theorem aH5{α:Type}{C:Cd α}{xs:List α}{β:Option Nat}{c T n:Nat}(i k off:Nat){eb:HA}{ps':List CP}{H1 H2:List HA}(hi:H[i]?=some (hO C β c T n xs))(hn:xs.length=n)(hL:xs.length≤xM)
  (L:H[k]?=some eb)(hne:Nat.beq i k=false)(hp:eb.ps[off]?=some (pO β n c))(hps:tM eb.ps off [pS C xs]=some ps')(h1:vC H k {eb with ps:=ps'}=some H1)(h2:xO H1 i=some H2){a:Act}{w:World}(h:hs S H E a w):hs S H2 E a w:=by
 obtain⟨M,hst,hsat⟩:=h;subst hn;have hik:i≠k:=fun e=>by subst e;simp at hne
 obtain⟨hle,f⟩:=hst.freeze hi (fun _ _=>.inr trivial);have hebm:=List.mem_of_getElem? L;have hbok:=hst.own _ hebm;obtain⟨⟨us,hou,hau⟩,hnu⟩:=hbok;obtain⟨v,hv,hpv⟩:=hau.at off hp;obtain⟨⟨vs,how,hall⟩,_⟩:=hst.own _ (List.mem_of_getElem? hi);have hS:(pS C xs).h (frz M w β) v:=by
  rcases hpv with O|⟨_,h0,_,a0,rfl⟩
  rotate_left
  ·have z:xs=[]:=List.eq_nil_of_length_eq_zero h0;subst z;exact⟨_,_,rfl,by simp,by simp,fun j x s=>by simp at s⟩
  subst O;rcases how.2 with⟨K,h4⟩|⟨g,cap,cur,K,_,hg,hnc,_,hsz,htake⟩
  ·have z:xs=[]:=List.eq_nil_of_length_eq_zero h4;subst z;exact⟨_,_,rfl,by simp,by simp,fun j x s=>by simp at s⟩
  ·cases β with
   |none=>simp[sv]at K
   |some b=>
    simp only[sv,Option.map_some,Value.slice.injEq,Option.some.injEq,Addr.mk.injEq,and_true,true_and]at K;obtain⟨rfl,rfl⟩:=K;refine⟨_,_,rfl,hL,hnc,fun j x s=>⟨b,0,rfl,?_⟩⟩;refine⟨(vs.drop (j*C.n)).take C.n,?_,fun t u F=>?_⟩
    ·have:=((bC.mono hle hall).drop (j*C.n)).take C.n
     rwa [yZ C xs j x s]at this
    ·have hM:frz M w (some b) b=some (.cells cur T (0,0)):=by simp[frz,hg]
     rw[List.getElem?_take]at F;split at F
     ·rename_i htn;rw[List.getElem?_drop]at F;simp only[sY,hM,Nat.zero_add];rw[←htake,List.getElem?_take]at F;split at F
      ·simpa using F
      ·cases F
     ·cases F
 have hvs:us.set off v=us:=by
  apply List.ext_getElem?;intro j;rw[List.getElem?_set];split
  ·rename_i e;subst e;split
   ·exact hv.symm
   ·rename_i hlt;simp[List.getElem?_eq_none (Nat.not_lt.1 hlt)]
  ·rfl
 have I:bC (frz M w β) ps' us:=by
  have:=aCv (us:=[v]) hps (bC.mono hle hau) ⟨hS,trivial⟩;have hoff:off<us.length:=(List.getElem?_eq_some_iff.1 hv).1;have e:us.take off++[v]++us.drop (off+[v].length)=us.set off v:=by
   rw[List.set_eq_take_append_cons_drop,if_pos hoff];simp
  rw[e,hvs]at this;exact this
 refine⟨_,?_,hsat.mono hle⟩;rw[vO h2,zC h1];have hget:∀(j:Nat),((H.set k {eb with ps:=ps'}).eraseIdx i)[j]?=if j<i then(H.set k {eb with ps:=ps'})[j]? else(H.set k {eb with ps:=ps'})[j+1]?:=fun j=>by rw[List.getElem?_eraseIdx]
 have hmap:∀(j:Nat) x,((H.set k {eb with ps:=ps'}).eraseIdx i)[j]?=some x→∃y,(H.eraseIdx i)[j]?=some y∧x.β=y.β∧(x.ok (frz M w β) w):=by
  intro j x z;have G:∃J,J≠i∧(H.set k {eb with ps:=ps'})[J]?=some x∧(H.eraseIdx i)[j]?=H[J]?:=by
   rw[hget]at z;by_cases s:j<i
   ·rw[if_pos s]at z;exact⟨j,by omega,z,by rw[List.getElem?_eraseIdx,if_pos s]⟩
   ·rw[if_neg s]at z;exact⟨j+1,by omega,z,by rw[List.getElem?_eraseIdx,if_neg s]⟩
  obtain⟨J,hne',q,he⟩:=G;rw[List.getElem?_set]at q;by_cases hkj:k=J
  ·subst hkj;rw[if_pos rfl]at q;split at q
   ·simp only[Option.some.injEq]at q;subst q;refine⟨eb,by rw[he,L],rfl,⟨us,hou,I⟩,fun b hb=>?_⟩;exact(f.own eb (List.mem_of_getElem? (by rw[he,L]))).2 b hb
   ·cases q
  ·rw[if_neg hkj]at q;exact⟨x,by rw[he,q],rfl,f.own x (List.mem_of_getElem? (by rw[he,q]))⟩
 refine⟨f.le0,f.mem,f.keep,f.new,f.size,f.os,f.tape,f.output,fun x z=>?_,fun x z b hb=>?_,tI fun {j l x y b} s hl z U=>?_⟩
 ·obtain⟨j,s⟩:=List.getElem?_of_mem z;obtain⟨y,_,_,hok⟩:=hmap j x s;exact hok
 ·obtain⟨j,s⟩:=List.getElem?_of_mem z;obtain⟨y,U,V,_⟩:=hmap j x s;exact f.fresh y (List.mem_of_getElem? U) b (V▸hb)
 ·obtain⟨x',G,e1,_⟩:=hmap j x s;obtain⟨y',hy',e2,_⟩:=hmap l y hl;exact uE f.nodup G hy' (e1▸z) (e2▸U)
theorem pV{α:Type}{C:Cd α}{xs:List α}{t e bytes n c T:Nat}{x y:Operand}{β:Option Nat}{j:Int}{k:IntKind}(i:Nat)(f:o.op=.indexAddr t x y)(q:TyS S.P t e C.n bytes)(s:H[i]?=some (hO C β c T n xs))(z:xs.length=n)(u:0≤j)(hlt:j.toNat<xs.length):
  Tr S o H H [(x,.vc (pO β n c)),(y,.vc (pI k j))] (.vc (pE β j C.n 0)):=by
 refine⟨fun M w a h hin K Q hkk=>?_⟩;have:=(aNZ (S:=S) (k0:=C.n) f q u (by omega:j<(n:Int)) s rfl rfl rfl).run M w a h hin K Q (fun v M' w' hm hs hv=>hkk v M' w' hm hs ?_)
 ·exact this
 ·obtain⟨b,hb,rfl⟩:=hv;exact⟨b,hb,rfl⟩
theorem aLh{s f n off k:Nat}{x:Operand}{β:Option Nat}{j:Int}(e:o.op=.fieldAddr s x f)(q:TyF S.P s f k):Tr S o H H [(x,.vc (pE β j n off))] (.vc (pE β j n (off+k))):=by
 refine⟨fun M w a h hin K Q hkk=>?_⟩;obtain⟨b,hb,t⟩:=hin.1;have:=(eZ (S:=S) (H:=H) (off:=j.toNat*n+off) e q).run M w a h ⟨⟨b,hb,t⟩,trivial⟩ K Q (fun v M' w' hm hs hv=>hkk v M' w' hm hs ?_)
 ·exact this
 ·obtain⟨b,hb,rfl⟩:=hv;exact⟨b,hb,by rw[Nat.add_assoc]⟩
theorem aIP{α:Type}(C:Cd α){xs:List α}{j:Nat}{x:α}(h:xs[j]?=some x)(off k:Nat)(q:off+k≤C.n):((flat C xs).drop (j*C.n+off)).take k=((C.e x).drop off).take k:=by
 have f:=yZ C xs j x h;rw[←List.drop_drop,←f,List.drop_take,List.take_take,Nat.min_eq_left (by omega)]
theorem sP{α:Type}{C:Cd α}{xs:List α}{t off k n c T:Nat}{x:Operand}{j:Int}{z:α}{β:Option Nat}{out:VP}{qs:List CP}(i:Nat)(f:o.op=.load t x)(q:H[i]?=some (hO C β c T n xs))(s:cT xs j=some z)(u:pW k ((C.e z).drop off)=some qs)(y:Tk S.P t qs out)(F:Nat.ble (off+k) C.n=true):
  Tr S o H H [(x,.vc (pE β j C.n off))] out:=by
 refine⟨fun M w a h hin K Q hkk=>?_⟩;obtain⟨b,hb,G⟩:=hin.1;obtain⟨O,U,I⟩:=bD s;obtain⟨J,L⟩:=wL u;have hseg:=aIP C I off k (by simpa using F);exact(aNI (S:=S) (H:=H) (off:=j.toNat*C.n+off) (qs:=qs) f q rfl (by rw[L];exact hseg.trans J) y).run M w a h ⟨⟨b,hb,G⟩,trivial⟩ K Q hkk
theorem aCa{α:Type}{C:Cd α}{xs zs:List α}{t off n c T:Nat}{x y:Operand}{j:Int}{z k:α}{β:Option Nat}{p:VP}(i:Nat)(I:o.op=.store t x y)(J:H[i]?=some (hO C β c T n xs))(L:cT xs j=some z)(hs:oZ xs j k=some zs){kk:Nat}(O:(S.P.info? t).map (·.size)=some kk)(hp:p.flat:=by exact trivial)(hkk:p.cells.length=kk:=by rfl)(U:tM (C.e z) off p.cells=some (C.e k):=by rfl)
  (hH:vC H i (hO C β c T n zs)=some H':=by rfl):Tr S o H H' [(x,.vc (pE β j C.n off)),(y,p)] .any:=by
 subst hkk;refine⟨fun M w a h hin K Q hkk=>?_⟩;obtain⟨b,hb,V⟩:=hin.1;obtain⟨h0,F,hz⟩:=bD L;obtain⟨q,s⟩:=w8 U;rw[C.len]at s;have hfl:=aBP C xs;have u:j.toNat*C.n+off+p.cells.length≤(flat C xs).length:=by
  rw[hfl];have:(j.toNat+1)*C.n≤xs.length*C.n:=Nat.mul_le_mul_right _ F;rw[Nat.add_mul,Nat.one_mul]at this;omega
 have hzs:zs=xs.set j.toNat k:=by
  unfold oZ at hs;rw[if_pos ⟨h0,F⟩]at hs;simpa using hs.symm
 have hset:∀(xs:List α) (j:Nat),xs[j]?=some z→(flat C xs).take (j*C.n+off)++p.cells++(flat C xs).drop (j*C.n+off+p.cells.length)=flat C (xs.set j k):=by
  intro xs
  induction xs with
  |nil=>intro j h;simp at h
  |cons y ys ih=>
   intro j h;have G:=C.len y;cases j with
   |zero=>
    simp only[List.getElem?_cons_zero,Option.some.injEq]at h;subst h;simp only[List.set_cons_zero,flat,List.flatMap_cons,Nat.zero_mul,Nat.zero_add];rw[q,List.take_append_of_le_length (by omega)];have:off+p.cells.length=(C.e y).length+0∨off+p.cells.length<(C.e y).length:=by omega
    rw[List.drop_append_of_le_length (by omega)];simp
   |succ j=>
    simp only[List.getElem?_cons_succ]at h;have:=ih j h;simp only[flat,List.flatMap_cons,List.set_cons_succ]at this ⊢;rw[←this];have e1:(j+1)*C.n+off=(C.e y).length+(j*C.n+off):=by rw[G,Nat.add_mul,Nat.one_mul];omega
    have e2:(j+1)*C.n+off+p.cells.length=(C.e y).length+(j*C.n+off+p.cells.length):=by rw[G,Nat.add_mul,Nat.one_mul];omega
    rw[e2,e1];simp[List.take_append,List.drop_append];rw[List.take_of_length_le (by omega),List.drop_of_length_le (by omega)];simp
 have:=(aNs (S:=S) (H:=H) (off:=j.toNat*C.n+off) (p:=p) (β:=β) I J rfl hp O u).run M w a h ⟨⟨b,hb,V⟩,hin.2⟩ K Q (fun v M' w' hm f hv=>hkk v M' w' hm ?_ hv)
 ·exact this
 ·rw[zC hH,hzs];rw[hset xs j.toNat hz]at f;exact f
theorem aDl{α:Type}{C:Cd α}{xs:List α}{t e k bytes n c T:Nat}{β:Option Nat}{x:Operand}(f:o.op=.call {callee:=.builtin .len,args:=#[x],argTypes:=#[t]})(h:TyS S.P t e k bytes)(j:xs.length=n):
  Tr S o H H [(x,.vc (pO β n c))] (.vc (pI .i64 xs.length)):=by subst j;exact aNj f h
theorem aH2{α:Type}{C:Cd α}{M:iE}{z:α}{zv:Value}(q:bC M (C.e z) zv.cells.toList)(n:Nat):bC M (flat C (List.replicate n z)) (madeCells zv.cells (n*C.n)).toList:=by
 have k:=q.len;rw[C.len]at k;simp only[Array.length_toList]at k;have key:∀n,(madeCells zv.cells (n*C.n)).toList=(List.replicate n zv.cells.toList).flatten:=by
  intro n;apply List.ext_getElem?;intro j;have hflat:∀(m j:Nat),(List.replicate m zv.cells.toList).flatten[j]?=if j<m*C.n then zv.cells.toList[j%C.n]? else none:=by
   intro m
   induction m with
   |zero=>intro j;simp
   |succ m ih=>
    intro j;rw[List.replicate_succ,List.flatten_cons,List.getElem?_append];simp only[Array.length_toList,k];by_cases f:j<C.n
    ·have:j<(m+1)*C.n:=by rw[Nat.add_mul,Nat.one_mul];omega
     simp[f,this,Nat.mod_eq_of_lt f]
    ·rw[if_neg f,ih];have e:(j-C.n)%C.n=j%C.n:=(Nat.mod_eq_sub_mod (by omega)).symm;rw[e];have:j-C.n<m*C.n↔j<(m+1)*C.n:=by rw[Nat.add_mul,Nat.one_mul];omega
     simp only[this]
  rw[hflat];by_cases f:j<n*C.n
  ·have hp:0<C.n:=by rcases Nat.eq_zero_or_pos C.n with h|h;rw[h]at f;omega;exact h
   have hlt:j%C.n<zv.cells.size:=by rw[k];exact Nat.mod_lt _ hp
   simp[madeCells,f,k];rw[Array.getElem?_eq_getElem hlt];simp[hlt]
  ·simp[madeCells,f]
 rw[key];have hrep:∀n,bC M (flat C (List.replicate n z)) (List.replicate n zv.cells.toList).flatten:=by
  intro n
  induction n with
  |zero=>exact trivial
  |succ n ih=>
   simp only[List.replicate_succ,flat,List.flatMap_cons,List.flatten_cons]at ih ⊢;exact q.app ih
 exact hrep n
theorem aBC{α:Type}{C:Cd α}{t e bytes:Nat}{x:Operand}{n:Int}{z:α}{xs:List α}(G:o.op=.makeSlice t x x)(q:TyS S.P t e C.n bytes)(hb:Nat.ble bytes 2048=true)(I:TyZ S.P e (C.e z))(hm:xU n z=some xs):
  Hv S o H (fun b _=>hO C b xs.length e xs.length xs::H) [(x,.vc (pI .i64 n))] (fun b _=>.vc (pO b xs.length xs.length)):=by
 refine⟨fun M w a y hins K Q J=>?_⟩;obtain⟨i,zv,F,hzz,hsz,hall⟩:=I.z;have hv:a.eval x=.int .i64 n:=hins.1;have hlen:=aKt hm;unfold xU at hm;split at hm
 ·rename_i hnn;simp only[Option.some.injEq]at hm;obtain⟨L,f,h,j,_⟩:=q.s;rw[F]at f;simp only[Option.some.injEq]at f;subst f;have k:bytes≤2048:=by simpa using hb
  have hnat:((n.toNat:Nat):Int)=n:=Int.toNat_of_nonneg hnn.1;have hbn:i.bytes*n.toNat≤281474976710656:=by
   rw[j]
   calc bytes*n.toNat≤2048*68719476736:=Nat.mul_le_mul k (by omega)
    _≤_:=by decide
  obtain⟨w',hr,how,hgr⟩:=run_make_full (P:=S.P) w 0 t e i zv C.n q.u F hzz h .i64 .i64 n.toNat hbn (by simp only[maxLen];omega) (Nat.zero_le _);refine bR (w':=w') (v:=.slice (some ⟨w.heap.size,0,none⟩) n.toNat n.toNat) ?_ (J _ M w' (some w.heap.size) 0 (l5.refl M) ?_ (by rw[hlen];exact .inl rfl))
  ·rw[hnat]at hr;simp[execOp,G,hv,hr]
  ·have hok:HA.ok (hO C (some w.heap.size) xs.length e xs.length xs) M w':=by
    refine⟨⟨(madeCells zv.cells (n.toNat*C.n)).toList,?_,?_⟩,fun b hb=>?_⟩
    ·simp only[hlen];exact how
    ·rw[←hm];exact aH2 (hall M) n.toNat
    ·have e:w.heap.size=b:=by simpa using hb
     exact y.mem.none (by omega)
   refine y.new_row hgr hok (fun b hb=>?_);have e:w.heap.size=b:=by simpa using hb
   omega
 ·cases hm
theorem rY{α:Type}{C:Cd α}{t e bytes d:Nat}{x:Operand}{n:Int}{z:α}{xs:List α}(f:o.op=.makeSlice t x x)(h:TyS S.P t e C.n bytes)(hb:Nat.ble bytes 2048=true)(j:TyZ S.P e (C.e z))(q:aBO E x (.vc (pI .i64 n)))(hm:xU n z=some xs)
  (k:∀b,WL S ops κ rest (hO C b xs.length e xs.length xs::H) ((d,.vc (pO b xs.length xs.length))::E))
  (s:o.dst=some d:=by rfl)(u:o.guard=none:=by rfl)(y:Nat.blt d S.N=true:=by rfl):WL S ops κ (o::rest) H E:=
 aDM (aBC f h hb j hm) ⟨q,trivial⟩ (fun b _=>k b) s u y
theorem aCy{α:Type}{C:Cd α}{t e bytes:Nat}{xs:List Operand}{ps:List VP}{zs:List α}(F:o.op=.buildSlice t zs.length ((List.range' 0 xs.length).zip xs).toArray)(j:TyS S.P t e C.n bytes)(q:xs.length=ps.length)(hv:VEs C ps zs)(hsm:Nat.ble (zs.length*C.n) 16777216=true):
  Hv S o H (fun b _=>hO C b zs.length e zs.length zs::H) (xs.zip ps) (fun b _=>.vc (pO b zs.length zs.length)):=by
 refine⟨fun M w a h hin K Q L=>?_⟩;have hall:=jX.of_ins q hin;obtain⟨i,G,hsz,hby,z,O,hzs⟩:=j.s;have hlz:=VEs.len hv;have hsm':zs.length*C.n≤16777216:=by simpa using hsm
 have U:zs.length≤xM:=by
  have:=Nat.le_mul_of_pos_right zs.length j.pos;simp only[xM];omega
 obtain⟨cs',I,V⟩:=aCj C.n (xs.map a.eval) 0 ((Array.range (zs.length*C.n)).map (z.cells[·%z.cells.size]!)) (VEs.size hv hall) (by simp[q,hlz]);have k:cs'.toList=(xs.map a.eval).flatMap fun v=>v.cells.toList:=by
  rw[V];simp[q,hlz]
 have f:=VEs.all hv hall;rw[←k]at f;have hcl:cs'.size=zs.length*C.n:=by
  have:=f.len;rw[aBP]at this;simpa using this
 have hst:St S M (w.alloc (.cells cs' e (0,0))) (hO C (some w.heap.size) zs.length e zs.length zs::H):=by
  refine h.new_row (World.grownBy_alloc w _ none) ⟨⟨cs'.toList,?_,f⟩,fun b hb=>?_⟩ (fun b hb=>by simp at hb;omega)
  ·exact World.ownsRow_lit (base:=0) (e:=e) (size:=C.n) w cs' zs.length (Nat.zero_le _) (by simpa [maxLen,xM] using U) hcl
  ·have e:w.heap.size=b:=by simpa using hb
   exact h.mem.none (by omega)
 refine bR (v:=.slice (some ⟨w.heap.size,0,none⟩) zs.length zs.length) (w':=w.alloc (.cells cs' e (0,0))) ?_ (L _ M _ (some w.heap.size) 0 (l5.refl M) hst (.inl rfl));have hzip:(((List.range' 0 xs.length).zip xs).map fun x=>(x.1,a.eval x.2))=(List.range' 0 (xs.map a.eval).length).zip (xs.map a.eval):=by
  rw[List.zip_map_right];simp
 by_cases J:zs.length*C.n=0
 ·have y:zs.length=0:=by rcases Nat.mul_eq_zero.1 J with h|h<;>have:=j.pos<;>omega
  have hzs':zs=[]:=List.eq_nil_of_length_eq_zero y;subst hzs';have hxs:xs=[]:=List.eq_nil_of_length_eq_zero (by simpa [hlz] using q);subst hxs;have hcs:cs'=#[]:=by apply Array.ext';simpa using k
  subst hcs;simp[execOp,F,Instr.buildSlice,run_underlying j.u,sizeOf,typeInfo,G,Instr.fill,newRow,Array.range_zero']
 ·have hgt:¬(zs.length*C.n>16777216):=by omega
  simp only[List.length_map]at I;simp[execOp,F,Instr.buildSlice,run_underlying j.u,sizeOf,typeInfo,G,hsz,hgt,J,zeroValue,O,hzip,I,newRow]
theorem aC9{α:Type}{C:Cd α}{ys:List α}{M:iE}{w:World}(h:St S M w H){v:Value}(hv:(pS C ys).h M v):(ys=[]∧∃p c,v=.slice p 0 c)∨∃ad c news,0<ys.length∧v=.slice (some ad) ys.length c∧news.length=ys.length*C.n∧(∀(j:Nat) u,news[j]?=some u→w.cell? (ad.add j)=some u)∧bC M (flat C ys) news:=by
 obtain⟨p,c,rfl,_,_,hall⟩:=hv;by_cases y:ys=[]
 ·subst y;exact .inl ⟨rfl,p,c,rfl⟩
 ·right;have F:0<ys.length:=List.length_pos_iff.2 y;obtain⟨b,off,rfl,_⟩:=hall 0 ys[0] (by simp[F]);have key:∀(zs:List α) (k:Nat),(∀(j:Nat) x,zs[j]?=some x→vU M b (off+(k+j)*C.n) (C.e x))→∃news:List Value,news.length=zs.length*C.n∧bC M (flat C zs) news∧∀(j:Nat) u,news[j]?=some u→sY M b (off+k*C.n+j)=some u:=by
   intro zs
   induction zs with
   |nil=>intro k _;exact⟨[],by simp,trivial,fun j u h=>by simp at h⟩
   |cons z zs ih=>
    intro k G;obtain⟨vs,q,s⟩:=G 0 z (by simp);obtain⟨news,t,I,J⟩:=ih (k+1) (fun j x f=>by
     have:=G (j+1) x (by simpa using f)
     rwa [show k+(j+1)=k+1+j by omega]at this)
    have hvl:vs.length=C.n:=by rw[q.len,C.len]
    refine⟨vs++news,?_,q.app I,fun j u f=>?_⟩
    ·simp only[List.length_append,hvl,t,List.length_cons,Nat.add_mul];omega
    ·rw[List.getElem?_append]at f;split at f
     ·have:=s j u f
      rwa [Nat.add_zero]at this
     ·rename_i hjl;have:=J _ u f;rw[hvl]at this hjl;rw[Nat.add_mul,Nat.one_mul]at this
      rwa [show off+k*C.n+j=off+(k*C.n+C.n)+(j-C.n) by omega]
  obtain⟨news,q,s,t⟩:=key ys 0 (fun j x f=>by
   obtain⟨b',K,e,hc⟩:=hall j x f;simp only[Option.some.injEq,Addr.mk.injEq,and_true]at e;obtain⟨rfl,rfl⟩:=e
   rwa [Nat.zero_add])
  refine⟨⟨b,off,none⟩,c,news,F,rfl,q,fun j u f=>?_,s⟩;rw[w5];have:=t j u f;rw[Nat.zero_mul,Nat.add_zero]at this;exact h.cell this
theorem aHk{P:Program}(w:World)(t ty e:TypeId)(i:TypeInfo)(z:Value)(size bytes:Nat)(f:P.underlying t=some (.slice e))(h:P.info? e=some i)(y:i.zero=some z)
  (hsize:i.size=size)(hby:i.bytes=bytes)(hsz:0<size)(β:Option Nat)(n cc:Nat)(xs:List Value)(hown:w.ownsRow 0 e size (sv β n cc) n xs)
  (a:Addr)(m c:Nat)(news:List Value)(k:news.length=m*size)(hnews:∀(j:Nat) u,news[j]?=some u→w.cell? (a.add j)=some u)(F:∀u∈news,u.oneCell'=true)
  (hpos:0<m)(q:n+m≤maxLen)(hbytes:(n+m)*bytes≤140737488355328){s:Value}{w':World}(hr:(Builtin.append_ #[t,t] ty #[sv β n cc,.slice (some a) m c]).run P w=.ok s w'):
  s.ownBlock=β∨s.ownBlock=some w.heap.size:=by
 subst hsize hby;have hsmall:n+m≤9223372036854775807:=by simp only[maxLen]at q;omega
 rcases hown.2 with⟨x,G⟩|⟨g,cap,cur,x,_,J,hnc,hcm,hcs,htake⟩
 ·rw[x]at hr;subst G;have hbm:m*i.bytes≤140737488355328:=by simpa using hbytes
  have:=run_append_nil (P:=P) w t ty e i z f h y a m c news k hnews hpos (by omega) (by omega);rw[this]at hr;cases hr;exact .inr rfl
 ·cases β with
  |none=>simp[sv]at x
  |some b=>
   simp only[sv,Option.map_some]at hr hown;by_cases hroom:n+m≤cc
   ·obtain⟨w'',I,_,_⟩:=run_append_fits (P:=P) w 0 t ty e i i.size f h rfl b n cc xs hown a m c news k hnews F hroom;rw[I]at hr;cases hr;exact .inl rfl
   ·have holds:∀(j:Nat) u,xs[j]?=some u→w.cell? ((⟨b,0,none⟩:Addr).add j)=some u:=hown.cells (g:=b) rfl;have:=run_append_grow (P:=P) w t ty e i z f h y ⟨b,0,none⟩ n cc xs hown.1 holds a m c news k hnews (by omega) (by omega) (growslice_fits (by omega) hbytes);rw[this]at hr;cases hr;exact .inr rfl
theorem aF1{α:Type}{C:Cd α}{t bytes n c T:Nat}{β:Option Nat}{x y:Operand}{xs ys zs:List α}(i:Nat)(ho:o.op=.call {callee:=.builtin .append,args:=#[x,y],argTypes:=#[t,t]})(z:TyS S.P t T C.n bytes)(hb:Nat.ble bytes 2048=true)(hi:H[i]?=some (hO C β c T n xs))(hn:xs.length=n)(L:uK xs ys=some zs):
  Hv S o H (fun β' c'=>H.set i (hO C β' c' T (n+ys.length) zs)) [(x,.vc (pO β n c)),(y,.vc (pS C ys))] (fun β' c'=>.vc (pO β' (n+ys.length) c')):=by
 refine⟨fun M w a O hins K Q hK=>?_⟩;have F:=hins.1;have hvy:(pS C ys).h M (a.eval y):=hins.2.1;obtain⟨it,hit,G,I,zv,hzv,hzs⟩:=z.s;obtain⟨⟨vs,how,hall⟩,hnone⟩:=O.own _ (List.mem_of_getElem? hi);have hzz:zs=xs++ys∧xs.length+ys.length≤68719476736:=by
  unfold uK at L;split at L
  ·simp only[Option.some.injEq]at L;exact⟨L.symm,‹_›⟩
  ·cases L
 obtain⟨rfl,hle⟩:=hzz;have hb':bytes≤2048:=by simpa using hb
 rcases aC9 O hvy with⟨rfl,p,cy,hys⟩|⟨ad,cy,news,hpos,hys,hnl,hnews,hnall⟩
 ·
  have hr:(Builtin.append_ #[t,t] o.type #[sv β n c,.slice p 0 cy]).run S.P w=.ok (sv β n c) w:=by
   cases p with
   |none=>
    have h0:sv β n c=sv β n c:=rfl;rcases how.2 with⟨f,h4⟩|⟨g,cap,cur,f,_,U,hnc,_⟩
    ·have k:sv β n c=.slice none 0 0:=f;rw[k];simp[Builtin.append_,run_underlying z.u,sizeOf,typeInfo,hit,Builtin.lenOf,Builtin.firstCells]
    ·have k:sv β n c=.slice (some ⟨g,0,none⟩) n cap:=f;have hnc':n≤cap:=hnc;rw[k];simp[Builtin.append_,run_underlying z.u,sizeOf,typeInfo,hit,Builtin.lenOf,Builtin.firstCells,hnc',storeCells]
   |some ad=>
    rcases how.2 with⟨f,h4⟩|⟨g,cap,cur,f,_,U,hnc,_⟩
    ·have k:sv β n c=.slice none 0 0:=f;rw[k];simp[Builtin.append_,run_underlying z.u,sizeOf,typeInfo,hit,Builtin.lenOf,Builtin.firstCells,loadCells,loadCellsFrom]
    ·have k:sv β n c=.slice (some ⟨g,0,none⟩) n cap:=f;have hnc':n≤cap:=hnc;rw[k];simp[Builtin.append_,run_underlying z.u,sizeOf,typeInfo,hit,Builtin.lenOf,Builtin.firstCells,hnc',storeCells,loadCells,loadCellsFrom]
  have J:(Builtin.append_ #[t,t] o.type #[a.eval x,.slice p 0 cy]).run S.P w=.ok (a.eval x) w:=by
   rcases F with hvx|⟨_,_,_,a0,hvx⟩
   ·rw[hvx];exact hr
   ·rw[hvx];have hl0:∀(q:Addr),(loadCells q 0).run S.P w=.ok #[] w:=fun q=>by simpa using run_loadCells_list (P:=S.P) w q [] (by simp)
    cases p<;>simp[Builtin.append_,run_underlying z.u,sizeOf,typeInfo,hit,Builtin.lenOf,Builtin.firstCells,storeCells,hl0]
  refine bR (w':=w) (v:=a.eval x) ?_ (hK _ M w β c (l5.refl M) ?_ (by rw[List.length_nil,Nat.add_zero];exact F))
  ·simp[execOp,ho,resolve,invoke,builtin,hys,J]
  ·have:H.set i (hO C β c T (n+([]:List α).length) (xs++[]))=H:=by
    simp only[List.append_nil,List.length_nil,Nat.add_zero];exact List.ext_getElem? fun j=>by
     rw[List.getElem?_set];split
     ·rename_i e;subst e;split
      ·exact hi.symm
      ·rename_i hl;exact(List.getElem?_eq_none (Nat.not_lt.1 hl)).symm
     ·rfl
   rw[this];exact O
 ·have hbytes:(n+ys.length)*bytes≤140737488355328:=by
   calc (n+ys.length)*bytes≤68719476736*2048:=Nat.mul_le_mul (by omega) hb'
    _=140737488355328:=by decide
  obtain⟨v',w',hr,V,hgr,_⟩:=run_append_own (P:=S.P) w 0 t o.type T it zv C.n bytes z.u hit hzv G I hzs z.pos (sv β n c) n vs how ad ys.length cy news hnl hnews (bC.one hnall) (by simp only[maxLen];omega) hbytes (Nat.zero_le _);have hblk:=aHk w t o.type T it zv C.n bytes z.u hit hzv G I z.pos β n c vs how ad ys.length cy news hnl hnews (bC.one hnall) hpos (by simp only[maxLen];omega) hbytes hr;have hform:∃β' c',v'=sv β' (n+ys.length) c'∧(β'=β∨∀b,β'=some b→w.heap.size≤b):=by
   rcases V.2 with⟨f,h4⟩|⟨g,cap,cur,f,_,U,_⟩
   ·refine⟨none,0,?_,.inr fun b hb=>by cases hb⟩;rw[f,h4];rfl
   ·refine⟨some g,cap,f,?_⟩;rw[f]at hblk;rcases hblk with h5|h5
    ·exact .inl h5
    ·refine .inr fun b hb=>?_
     have e1:some g=some w.heap.size:=h5;simp only[Option.some.injEq]at e1 hb;omega
  obtain⟨β',c',rfl,hβ⟩:=hform;have J:(Builtin.append_ #[t,t] o.type #[a.eval x,.slice (some ad) ys.length cy]).run S.P w=.ok (sv β' (n+ys.length) c') w':=by
   rcases F with hvx|⟨rfl,rfl,rfl,a0,hvx⟩
   ·rw[hvx];exact hr
   ·rw[hvx,←hr];have hsz:ys.length*it.bytes≤281474976710656:=by rw[I];rw[Nat.zero_add]at hbytes;omega
    have e1:=run_append_grow (P:=S.P) w t o.type T it zv z.u hit hzv a0 0 0 [] (by simp) (by simp) ad ys.length cy news (by rw[G];exact hnl) hnews (by omega) (by omega) (by rw[Nat.zero_add,nextslicecap_zero hpos];exact hsz);have e2:=run_append_nil (P:=S.P) w t o.type T it zv z.u hit hzv ad ys.length cy news (by rw[G];exact hnl) hnews hpos (by omega) hsz;rw[e1,show sv none 0 0=.slice none 0 0 from rfl,e2];simp
  refine bR (w':=w') (v:=sv β' (n+ys.length) c') ?_ (hK _ M w' β' c' (l5.refl M) ?_ (.inl rfl))
  ·simp[execOp,ho,resolve,invoke,builtin,hys,J]
  ·rw[aI8]at hgr;refine O.put hi hgr ⟨⟨vs++news,V,?_⟩,fun b hb=>?_⟩ hβ
   ·show bC M (flat C (xs++ys)) (vs++news);rw[aCw];exact hall.app hnall
   ·rcases hβ with f|f
    ·exact hnone b (f▸hb)
    ·exact O.mem.none (f b hb)
theorem rJ{α:Type}{C:Cd α}{t bytes d n c T:Nat}{β:Option Nat}{x y:Operand}{xs ys zs:List α}(i:Nat)(e:o.op=.call {callee:=.builtin .append,args:=#[x,y],argTypes:=#[t,t]})(f:TyS S.P t T C.n bytes)(hb:Nat.ble bytes 2048=true)(h:H[i]?=some (hO C β c T n xs))(j:xs.length=n)(q:aBO E x (.vc (pO β n c)))(s:aBO E y (.vc (pS C ys)))(u:uK xs ys=some zs)
  (k:∀β' c' H',H.set i (hO C β' c' T (n+ys.length) zs)=H'→WL S ops κ rest H' ((d,.vc (pO β' (n+ys.length) c'))::E))
  (z:o.dst=some d:=by rfl)(F:o.guard=none:=by rfl)(G:Nat.blt d S.N=true:=by rfl):WL S ops κ (o::rest) H E:=
 aDM (aF1 i e f hb h j u) ⟨q,s,trivial⟩ (fun b c=>k b c _ rfl) z F G
theorem St.frzv{α:Type}{C:Cd α}{xs:List α}{i:Nat}{β:Option Nat}{c T n:Nat}{M:iE}{w:World}(h:St S M w H)(k:H[i]?=some (hO C β c T n xs))(s:xs.length=n):∃M',l5 M M'∧St S M' w (H.eraseIdx i)∧(pS C xs).h M' (sv β n c):=by
 subst s;have y:xs.length≤xM:=by have:=aGJ h k;simpa [maxLen,xM] using this
 obtain⟨hle,hst⟩:=h.freeze k (fun _ _=>.inr trivial);refine⟨_,hle,hst,?_⟩;obtain⟨⟨vs,how,hall⟩,_⟩:=h.own _ (List.mem_of_getElem? k);rcases how.2 with⟨f,z⟩|⟨g,cap,cur,f,_,F,hnc,_,hsz,htake⟩
 ·have G:xs=[]:=List.eq_nil_of_length_eq_zero z;subst G;exact⟨_,_,rfl,by simp,by simp,fun j x q=>by simp at q⟩
 ·cases β with
  |none=>simp[sv]at f
  |some b=>
   simp only[sv,Option.map_some,Value.slice.injEq,Option.some.injEq,Addr.mk.injEq,and_true,true_and]at f;obtain⟨rfl,rfl⟩:=f;refine⟨_,_,rfl,y,hnc,fun j x q=>⟨b,0,rfl,?_⟩⟩;refine⟨(vs.drop (j*C.n)).take C.n,?_,fun t u e=>?_⟩
   ·have:=((bC.mono hle hall).drop (j*C.n)).take C.n
    rwa [yZ C xs j x q]at this
   ·have hM:frz M w (some b) b=some (.cells cur T (0,0)):=by simp[frz,F]
    rw[List.getElem?_take]at e;split at e
    ·rename_i htn;rw[List.getElem?_drop]at e;simp only[sY,hM,Nat.zero_add];rw[←htake,List.getElem?_take]at e;split at e
     ·simpa using e
     ·cases e
    ·cases e
theorem aFM{α:Type}{C:Cd α}{xs:List α}{n T:Nat}{Post:Option Nat→Nat→List HA}{ins:List (Operand×VP)}{cf:Nat→Nat}(i:Nat)(t:Hv S o H Post ins (fun b c=>.vc (pO b n (cf c))))(s:∀b c,(Post b c)[i]?=some (hO C b (cf c) T n xs))(h:xs.length=n)(u:∀b c,xO (Post b c) i=some H'):Tr S o H H' ins (.vc (pS C xs)):=
 ⟨fun M w a hs hin K Q k=>t.run M w a hs hin K Q fun v M' w' b c hm hst hv=>by
  obtain⟨M2,q,e,y⟩:=hst.frzv (s b c) h;rw[←vO (u b c)]at e;rcases hv with f|⟨_,z,_,I,rfl⟩
  ·subst f;exact k _ M2 w' (hm.trans q) e y
  ·have F:xs=[]:=List.eq_nil_of_length_eq_zero (h.trans z);subst F;exact k _ M2 w' (hm.trans q) e ⟨_,_,rfl,by simp,by simp,fun j x G=>by simp at G⟩⟩
end
section
variable {S:Sx} {κ:Kt} {H H':List HA} {E:nV} {ops:Array Oper} {rest:List Oper} {o:Oper}
theorem aCf{α:Type}{C:Cd α}{xs:List α}{M:iE}{p:Option Addr}{n c l h m:Nat}(hv:(pS C xs).h M (.slice p n c))(hlh:l≤h)(hhn:h≤xs.length)(hhm:h≤m)(hmc:m≤c):
  (pS C ((xs.drop l).take (h-l))).h M (.slice (if m=l then p else p.map (·.add (l*C.n))) (h-l) (m-l)):=by
 obtain⟨q,c',e,s,t,k⟩:=hv;simp only[Value.slice.injEq]at e;obtain⟨rfl,rfl,rfl⟩:=e;have hlen:((xs.drop l).take (h-l)).length=h-l:=by simp;omega
 refine⟨_,_,by rw[hlen],by omega,by omega,fun j x f=>?_⟩;rw[List.getElem?_take]at f;split at f
 ·rename_i hjl;rw[List.getElem?_drop]at f;obtain⟨b,off,rfl,hc⟩:=k _ x f;have hml:¬m=l:=by omega
  refine⟨b,off+l*C.n,by simp[hml,w5],?_⟩;rw[Nat.add_mul,←Nat.add_assoc]at hc;exact hc
 ·cases f
theorem qW{α:Type}{xs zs:List α}{lo e:Int}(h:xN xs lo e=some zs):zs=(xs.drop lo.toNat).take (e.toNat-lo.toNat)∧0≤lo∧lo≤e∧e≤xs.length:=by
 unfold xN at h;split at h
 ·simp only[Option.some.injEq]at h;exact⟨h.symm,‹_›⟩
 ·cases h
theorem wW{P:Program}{w:World}{k:IntKind}{i:Int}{y:Nat}{code:BoundsCode}(e:0≤i)(f:i≤y):(Instr.sliceBound (.int k i) y code).run P w=.ok i.toNat w:=run_sliceBound w k i y code e f
theorem aDG{α:Type}{C:Cd α}{xs zs:List α}{t e bytes:Nat}{x y:Operand}{f:Int}{k:IntKind}(z:o.op=.slice t x none (some y) none)(q:TyS S.P t e C.n bytes)(h:xN xs 0 f=some zs):
  Tr S o H H [(x,.vc (pS C xs)),(y,.vc (pI k f))] (.vc (pS C zs)):=by
 refine⟨fun M w a hs hin K Q F=>?_⟩;obtain⟨rfl,_,G,hl⟩:=qW h;obtain⟨p,c,I,J,L,O⟩:=hin.1;have U:a.eval y=.int k f:=hin.2.1;obtain⟨i,j,V,_⟩:=q.s;refine bR (v:=.slice (if c=0 then p else p.map (·.add (0*C.n))) (f.toNat-0) (c-0)) ?_ (F _ M w (l5.refl M) hs (aCf (l:=0) (h:=f.toNat) (m:=c) ⟨p,c,rfl,J,L,O⟩ (by omega) (by omega) (by omega) (Nat.le_refl _)));have hb:=wW (P:=S.P) (w:=w) (k:=k) (i:=f) (y:=c) (code:=.sliceAcap) G (by omega);simp[execOp,z,I,U,Instr.sliceAt,Instr.slice,Instr.sliceBounds,run_underlying q.u,sizeOf,typeInfo,j,hb]
theorem aIo{α:Type}{C:Cd α}{xs zs:List α}{t e bytes:Nat}{x y:Operand}{lo:Int}{k:IntKind}(z:o.op=.slice t x (some y) none none)(q:TyS S.P t e C.n bytes)(h:xN xs lo xs.length=some zs):
  Tr S o H H [(x,.vc (pS C xs)),(y,.vc (pI k lo))] (.vc (pS C zs)):=by
 refine⟨fun M w a hs hin K Q F=>?_⟩;obtain⟨rfl,G,I,_⟩:=qW h;obtain⟨p,c,J,L,O,U⟩:=hin.1;have V:a.eval y=.int k lo:=hin.2.1;obtain⟨i,f,j,_⟩:=q.s;refine bR (v:=.slice (if c=lo.toNat then p else p.map (·.add (lo.toNat*C.n))) (xs.length-lo.toNat) (c-lo.toNat)) ?_ (F _ M w (l5.refl M) hs (aCf (l:=lo.toNat) (h:=xs.length) (m:=c) ⟨p,c,rfl,L,O,U⟩ (by omega) (by omega) (by omega) (Nat.le_refl _)));have hb:=wW (P:=S.P) (w:=w) (k:=k) (i:=lo) (y:=xs.length) (code:=.sliceB) G I;simp[execOp,z,J,V,Instr.sliceAt,Instr.slice,Instr.sliceBounds,run_underlying q.u,sizeOf,typeInfo,f,j,hb]
theorem aGx{α:Type}{C:Cd α}{xs zs:List α}{t e bytes:Nat}{x y z:Operand}{lo f:Int}{k j:IntKind}(J:o.op=.slice t x (some y) (some z) none)(I:TyS S.P t e C.n bytes)(h:xN xs lo f=some zs):
  Tr S o H H [(x,.vc (pS C xs)),(y,.vc (pI k lo)),(z,.vc (pI j f))] (.vc (pS C zs)):=by
 refine⟨fun M w a hs hin K Q L=>?_⟩;obtain⟨rfl,O,hl,U⟩:=qW h;obtain⟨p,c,V,h1,h2,h3⟩:=hin.1;have hy:a.eval y=.int k lo:=hin.2.1;have hz:a.eval z=.int j f:=hin.2.2.1;obtain⟨i,q,F,_⟩:=I.s;refine bR (v:=.slice (if c=lo.toNat then p else p.map (·.add (lo.toNat*C.n))) (f.toNat-lo.toNat) (c-lo.toNat)) ?_ (L _ M w (l5.refl M) hs (aCf (l:=lo.toNat) (h:=f.toNat) (m:=c) ⟨p,c,rfl,h1,h2,h3⟩ (by omega) (by omega) (by omega) (Nat.le_refl _)));have hb:=wW (P:=S.P) (w:=w) (k:=j) (i:=f) (y:=c) (code:=.sliceAcap) (by omega) (by omega);have G:=wW (P:=S.P) (w:=w) (k:=k) (i:=lo) (y:=f.toNat) (code:=.sliceB) O (by omega);simp[execOp,J,V,hy,hz,Instr.sliceAt,Instr.slice,Instr.sliceBounds,run_underlying I.u,sizeOf,typeInfo,q,F,hb,G]
theorem aJV{α:Type}{C:Cd α}{xs zs:List α}{t e bytes:Nat}{x y z:Operand}{f:Int}{k j:IntKind}(J:o.op=.slice t x none (some y) (some z))(G:TyS S.P t e C.n bytes)(h:xN xs 0 f=some zs):
  Tr S o H H [(x,.vc (pS C xs)),(y,.vc (pI k f)),(z,.vc (pI j f))] (.vc (pS C zs)):=by
 refine⟨fun M w a hs hin K Q L=>?_⟩;obtain⟨rfl,_,I,hl⟩:=qW h;obtain⟨p,c,O,U,V,h3⟩:=hin.1;have hy:a.eval y=.int k f:=hin.2.1;have hz:a.eval z=.int j f:=hin.2.2.1;obtain⟨i,q,hk',_⟩:=G.s;refine bR (v:=.slice (if f.toNat=0 then p else p.map (·.add (0*C.n))) (f.toNat-0) (f.toNat-0)) ?_ (L _ M w (l5.refl M) hs (aCf (l:=0) (h:=f.toNat) (m:=f.toNat) ⟨p,c,rfl,U,V,h3⟩ (by omega) (by omega) (by omega) (by omega)));have hb:=wW (P:=S.P) (w:=w) (k:=j) (i:=f) (y:=c) (code:=.slice3Acap) I (by omega);have F:=wW (P:=S.P) (w:=w) (k:=k) (i:=f) (y:=f.toNat) (code:=.slice3B) I (by omega);simp[execOp,J,O,hy,hz,Instr.sliceAt,Instr.slice,Instr.sliceBounds,run_underlying G.u,sizeOf,typeInfo,q,hb,F]
theorem aAU{α:Type}(C:Cd α):∀(xs:List α) (m:Nat),(flat C xs).take (m*C.n)=flat C (xs.take m)∧(flat C xs).drop (m*C.n)=flat C (xs.drop m)
 |[],m=>by simp[flat]
 |x::xs,0=>by simp[flat]
 |x::xs,m+1=>by
  obtain⟨h,j⟩:=aAU C xs m;have k:=C.len x;have e:(m+1)*C.n=(C.e x).length+m*C.n:=by rw[k,Nat.add_mul,Nat.one_mul];omega
  have f:flat C (x::xs)=C.e x++flat C xs:=by simp[flat]
  refine⟨?_,?_⟩
  ·rw[f,e,List.take_length_add_append,h];simp[flat]
  ·rw[f,e,List.drop_length_add_append,j];simp[flat]
def cpL{α:Type}(xs ys:List α):List α:=ys.take (min ys.length xs.length)++xs.drop (min ys.length xs.length)
theorem aGH{α:Type}{xs ys:List α}{n:Nat}(h:xs.length=n):(cpL xs ys).length=n:=by
 unfold cpL;simp;omega
theorem aNn{α:Type}{C:Cd α}{py:VP}{xs ys:List α}{t bytes n c T:Nat}{β:Option Nat}{x y:Operand}(i:Nat)(hsrc:∀M w v,St S M w H→py.h M v→(ys=[]∧∃p c,v=.slice p 0 c)∨∃ad c news,0<ys.length∧v=.slice (some ad) ys.length c∧news.length=ys.length*C.n∧(∀(j:Nat) u,news[j]?=some u→w.cell? (ad.add j)=some u)∧bC M (flat C ys) news)(I:o.op=.call {callee:=.builtin .copy,args:=#[x,y],argTypes:=#[t,t]})(z:TyS S.P t T C.n bytes)(L:H[i]?=some (hO C β c T n xs))(F:xs.length=n)(hH:vC H i (hO C β c T n (cpL xs ys))=some H'):
  Tr S o H H' [(x,.vc (pO β n c)),(y,py)] (.vc (pI .i64 (min ys.length xs.length:Nat))):=by
 refine⟨fun M w a h hin K Q hkk=>?_⟩;rw[zC hH]at hkk;have k:=hin.1;have V:=hsrc M w _ h hin.2.1;obtain⟨it,hit,O,hs2,_⟩:=z.s;obtain⟨⟨vs,how,hall⟩,hnone⟩:=h.own _ (List.mem_of_getElem? L);have q:∀(x:Addr),(loadCells x 0).run S.P w=.ok #[] w:=fun x=>by simpa using run_loadCells_list (P:=S.P) w x [] (by simp)
 have hsame:H.set i (hO C β c T n xs)=H:=List.ext_getElem? fun j=>by
  rw[List.getElem?_set];split
  ·rename_i e;subst e;split
   ·exact L.symm
   ·rename_i hl;exact(List.getElem?_eq_none (Nat.not_lt.1 hl)).symm
  ·rfl
 have hzero:min ys.length xs.length=0→cpL xs ys=xs:=fun e=>by unfold cpL;rw[e];simp
 rcases k with G|⟨_,f,_,a0,G⟩
 rotate_left
 ·have hxs:xs=[]:=List.eq_nil_of_length_eq_zero (F.trans f);rw[hzero (by simp[hxs]),hsame]at hkk;refine bR (w':=w) (v:=.int .i64 0) ?_ (hkk _ M w (l5.refl M) h (by simp[hxs];rfl));obtain⟨p,m,cy,hys⟩:∃p m cy,a.eval y=.slice p m cy:=by rcases V with⟨_,p,c,e⟩|⟨ad,c,_,_,e,_⟩<;>exact⟨_,_,_,e⟩
  cases p<;>simp[execOp,I,resolve,invoke,builtin,G,hys,Builtin.copy_,run_underlying z.u,Builtin.lenOf,Builtin.firstCells,sizeOf,typeInfo,hit,q,storeCells,goInt]
 rcases V with⟨rfl,p,cy,hys⟩|⟨ad,cy,news,hpos,hys,hnl,hnews,hnall⟩
 ·rw[hzero (by simp),hsame]at hkk;refine bR (w':=w) (v:=.int .i64 0) ?_ (hkk _ M w (l5.refl M) h (by simp;rfl));cases p<;>cases β<;>simp[execOp,I,resolve,invoke,builtin,G,hys,sv,Builtin.copy_,run_underlying z.u,Builtin.lenOf,Builtin.firstCells,sizeOf,typeInfo,hit,q,storeCells,goInt]
 ·by_cases f:n=0
  ·have k:xs=[]:=List.eq_nil_of_length_eq_zero (F.trans f);rw[hzero (by simp[k]),hsame]at hkk;refine bR (w':=w) (v:=.int .i64 0) ?_ (hkk _ M w (l5.refl M) h (by simp[k];rfl));subst f;cases β<;>simp[execOp,I,resolve,invoke,builtin,G,hys,sv,Builtin.copy_,run_underlying z.u,Builtin.lenOf,Builtin.firstCells,sizeOf,typeInfo,hit,q,storeCells,goInt]
  ·rcases how.2 with⟨h3,h4⟩|⟨g,cap,cur,h3,_,hg',hnc,_⟩
   ·exact absurd h4 f
   ·cases β with
    |none=>simp[sv]at h3
    |some b=>
     have hm:min ys.length n≤ys.length:=Nat.min_le_left _ _;have hcl:(news.take (min ys.length n*C.n)).length=min ys.length n*C.n:=by
      rw[List.length_take,hnl];exact Nat.min_eq_left (Nat.mul_le_mul_right _ hm)
     have hload:=run_loadCells_list (P:=S.P) w ad (news.take (min ys.length n*C.n)) (fun j u J=>hnews j u (by
      rw[List.getElem?_take]at J;split at J
      ·exact J
      ·cases J))
     rw[hcl]at hload;have hcs:bC M (flat C (ys.take (min ys.length n))) (news.take (min ys.length n*C.n)):=by
      have:=hnall.take (min ys.length n*C.n)
      rwa [(aAU C ys _).1]at this
     have hlv:(flat C xs).length=vs.length:=hall.len.symm;have hfl:=aBP C xs;have hle:min ys.length n*C.n≤vs.length:=by
      rw[←hlv,hfl,F];exact Nat.mul_le_mul_right _ (Nat.min_le_right _ _)
     obtain⟨w',hr,U,hg⟩:=o9 (P:=S.P) 0 (news.take (min ys.length n*C.n)) 0 w vs how (by rw[hcl];omega) (bC.one hcs);refine bR (w':=w') (v:=.int .i64 (min ys.length n:Nat)) ?_ (hkk _ M w' (l5.refl M) (h.put L hg ⟨⟨_,U,?_⟩,hnone⟩ (.inl rfl)) (by rw[F];rfl))
     ·simp[execOp,I,resolve,invoke,builtin,G,hys,sv,Builtin.copy_,run_underlying z.u,Builtin.lenOf,Builtin.firstCells,sizeOf,typeInfo,hit,O,hload,hr,goInt]
     ·simp only[Nat.zero_add,List.take_zero,List.nil_append,hcl];unfold cpL;rw[F,aCw];refine hcs.app ?_;have:=hall.drop (min ys.length n*C.n)
      rwa [show(hO C (some b) c T n xs).ps=flat C xs from rfl,(aAU C xs _).2]at this
theorem t_cp{α:Type}{C:Cd α}{xs ys:List α}{t bytes n c T:Nat}{β:Option Nat}{x y:Operand}(i:Nat)(e:o.op=.call {callee:=.builtin .copy,args:=#[x,y],argTypes:=#[t,t]})(f:TyS S.P t T C.n bytes)(j:H[i]?=some (hO C β c T n xs))(k:xs.length=n)(hH:vC H i (hO C β c T n (cpL xs ys))=some H'):
  Tr S o H H' [(x,.vc (pO β n c)),(y,.vc (pS C ys))] (.vc (pI .i64 (min ys.length xs.length:Nat))):=
 aNn i (fun M w v h hv=>aC9 h hv) e f j k hH
theorem aKS{x y:Operand}{u v:Int}{ts:Array TypeId}(f:o.op=.call {callee:=.builtin .min,args:=#[x,y],argTypes:=ts}):Tr S o H H [(x,.vc (pI .i64 u)),(y,.vc (pI .i64 v))] (.vc (pI .i64 (min u v))):=by
 refine⟨fun M w a hs hin K Q h=>?_⟩;have j:a.eval x=.int .i64 u:=hin.1;have k:a.eval y=.int .i64 v:=hin.2.1;have e:(if v<u then v else u)=min u v:=by split<;>omega
 refine bR (v:=.int .i64 (min u v)) ?_ (h _ M w (l5.refl M) hs rfl);simp[execOp,f,resolve,invoke,builtin,j,k,Builtin.min_,Builtin.min2,e]
theorem aKC{x y:Operand}{u v:Int}{ts:Array TypeId}(f:o.op=.call {callee:=.builtin .max,args:=#[x,y],argTypes:=ts}):Tr S o H H [(x,.vc (pI .i64 u)),(y,.vc (pI .i64 v))] (.vc (pI .i64 (max u v))):=by
 refine⟨fun M w a hs hin K Q h=>?_⟩;have j:a.eval x=.int .i64 u:=hin.1;have k:a.eval y=.int .i64 v:=hin.2.1;have e:(if v>u then v else u)=max u v:=by split<;>omega
 refine bR (v:=.int .i64 (max u v)) ?_ (h _ M w (l5.refl M) hs rfl);simp[execOp,f,resolve,invoke,builtin,j,k,Builtin.max_,Builtin.max2,e]
def sV(e:Edge):Bool:=Region.binds .any e
def aHU(ms:List Nat)(o:Oper):Nat:=o.after.toList.foldl (fun s e=>bif sV e then s|||(2^e.on|||ms.getD e.on 0) else s) 0
def zL(ms:List Nat):List Oper→List Nat→Bool
 |o::l,m::r=>Nat.beq (aHU ms o) m&&zL ms l r
 |[],[]=>true
 |_,_=>false
theorem aEc{ms:List Nat}:∀{l:List Oper} {r:List Nat},zL ms l r=true→∀(i:Nat),(∀o,l[i]?=some o→r[i]?=some (aHU ms o))∧(l[i]?=none→r[i]?=none)
 |[],[],_,i=>⟨fun o h=>by simp at h,fun _=>by simp⟩
 |o::l,m::r,h,i=>by
  simp only[zL,Bool.and_eq_true]at h;cases i with
  |zero=>exact⟨fun j e=>by simp at e;subst e;simp[Nat.eq_of_beq_eq_true h.1],fun f=>by simp at f⟩
  |succ i=>simpa using aEc h.2 i
 |[],_::_,h,_=>by simp[zL]at h
 |_::_,[],h,_=>by simp[zL]at h
def tN:List Oper→Nat→Bool
 |[],_=>true
 |o::l,i=>o.after.toList.all (fun e=>!sV e||Nat.blt e.on i)&&tN l (i+1)
structure Clo (ops:List Oper) (L:Nat→Prop):Prop where
 h:∀(i:Nat) o,ops[i]?=some o→L i→∀e∈o.after.toList,sV e=true→L e.on
theorem aEK{ms:List Nat}{j:Nat}:∀(es:List Edge) (s:Nat),(es.foldl (fun s e=>bif sV e then s|||(2^e.on|||ms.getD e.on 0) else s) s).testBit j=true→
  s.testBit j=true∨∃e∈es,sV e=true∧(e.on=j∨(ms.getD e.on 0).testBit j=true)
 |[],s,h=>.inl h
 |e::es,s,h=>by
  simp only[List.foldl_cons]at h;rcases aEK es _ h with f|⟨k,he,hb,q⟩
  ·cases hb:sV e with
   |false=>rw[hb]at f;simp at f;exact .inl f
   |true=>
    rw[hb]at f;simp only[cond_true,Nat.testBit_or,Bool.or_eq_true]at f;rcases f with f|f|f
    ·exact .inl f
    ·refine .inr ⟨e,by simp,hb,.inl ?_⟩;simpa [Nat.testBit_two_pow] using f
    ·exact .inr ⟨e,by simp,hb,.inr f⟩
  ·exact .inr ⟨k,by simp[he],hb,q⟩
theorem aEz:∀{l:List Oper} {k:Nat},tN l k=true→∀(i:Nat) o,l[i]?=some o→∀e∈o.after.toList,sV e=true→e.on<k+i
 |[],_,_,i,o,f=>by simp at f
 |x::l,k,h,i,o,f=>by
  intro e he hbe;simp only[tN,Bool.and_eq_true]at h;cases i with
  |zero=>
   simp at f;subst f;have:=List.all_eq_true.1 h.1 e he;rw[hbe]at this;simpa using this
  |succ i=>
   have:=aEz h.2 i o (by simpa using f) e he hbe;omega
theorem wZ{L:Nat→Prop}{l:List Oper}{ms:List Nat}(hm:zL ms l ms=true)(hb:tN l 0=true)(i j:Nat)(hbit:(ms.getD i 0).testBit j=true)(u:∀o,l[i]?=some o→∀e∈o.after.toList,sV e=true→L e.on)(hc:Clo l L):L j:=by
 induction i using Nat.strongRecOn generalizing j with
 |_ i ih=>
  cases f:l[i]? with
  |none=>
   rw[List.getD_eq_getElem?_getD,(aEc hm i).2 f]at hbit;simp at hbit
  |some o=>
   rw[List.getD_eq_getElem?_getD,(aEc hm i).1 o f]at hbit;rcases aEK _ _ hbit with x|⟨e,he,hbe,k⟩
   ·simp at x
   ·have hon:=u o f e he hbe;have hlt:=aEz hb i o f e he hbe;rw[Nat.zero_add]at hlt;rcases k with rfl|k
    ·exact hon
    ·exact ih e.on hlt j k (fun y q z s t=>hc.h e.on y q hon z s t)
def vR(d:Nat):List Oper→Nat→Option Nat
 |[],_=>none
 |o::l,i=>match o.dst with
  |some x=>bif Nat.beq x d then some i else vR d l (i+1)
  |none=>vR d l (i+1)
theorem vK{d:Nat}:∀{l:List Oper} {i:Nat},vR d l i=none→∀(j:Nat) o,l[j]?=some o→o.dst≠some d
 |[],_,_,j,o,f=>by simp at f
 |x::l,i,h,j,o,f=>by
  simp only[vR]at h;cases k:x.dst with
  |none=>
   rw[k]at h;cases j with
   |zero=>simp at f;subst f;rw[k];simp
   |succ j=>exact vK h j o (by simpa using f)
  |some y=>
   rw[k]at h;cases hb:Nat.beq y d with
   |true=>simp[hb]at h
   |false=>
    simp only[hb,cond_false]at h;cases j with
    |zero=>
     simp at f;subst f;rw[k];intro e;simp only[Option.some.injEq]at e;subst e;simp at hb
    |succ j=>exact vK h j o (by simpa using f)
theorem yP{d:Nat}:∀{l:List Oper} {i k:Nat},vR d l i=some k→i≤k∧∃o,l[k-i]?=some o∧o.dst=some d
 |[],_,_,h=>by simp[vR]at h
 |x::l,i,k,h=>by
  simp only[vR]at h;cases e:x.dst with
  |none=>
   rw[e]at h;obtain⟨q,o,f,j⟩:=yP h;exact⟨by omega,o,by rw[show k-i=(k-(i+1))+1 by omega];simpa using f,j⟩
  |some y=>
   rw[e]at h;cases hb:Nat.beq y d with
   |true=>
    simp only[hb,cond_true,Option.some.injEq]at h;subst h;exact⟨Nat.le_refl _,x,by simp,by rw[e,Nat.eq_of_beq_eq_true hb]⟩
   |false=>
    simp only[hb,cond_false]at h;obtain⟨q,o,f,j⟩:=yP h;exact⟨by omega,o,by rw[show k-i=(k-(i+1))+1 by omega];simpa using f,j⟩
def xL:List Oper→Bool
 |[]=>true
 |o::l=>(match o.dst with
  |some d=>(vR d l 0).isNone
  |none=>true)&&xL l
theorem aEd:∀{l:List Oper},xL l=true→∀{i j:Nat} {x y:Oper} {d:Nat},l[i]?=some x→l[j]?=some y→x.dst=some d→y.dst=some d→i=j
 |[],_,i,j,x,y,d,e,_,_,_=>by simp at e
 |o::l,h,i,j,x,y,d,e,f,q,s=>by
  simp only[xL,Bool.and_eq_true]at h;have hno:∀(k:Nat) z,l[k]?=some z→o.dst=some d→z.dst=some d→False:=by
   intro k z u F G;have t:=h.1;rw[F]at t;simp only[Option.isNone_iff_eq_none]at t;exact vK t k z u G
  cases i with
  |zero=>
   cases j with
   |zero=>rfl
   |succ j=>
    simp at e f;subst e;exact(hno j y f q s).elim
  |succ i=>
   cases j with
   |zero=>
    simp at e f;subst f;exact(hno i x e s q).elim
   |succ j=>simp at e f;exact congrArg (·+1) (aEd h.2 e f q s)
inductive Ou
 |v (p:VP)
 |a (T:Nat) (zs:List CP)
 |g (f:Option Nat→Nat→VP)
abbrev Gh:Type:=Nat→Option Nat×Nat
def Gh.set(G:Gh)(i:Nat)(x:Option Nat×Nat):Gh:=fun j=>bif Nat.beq j i then x else G j
def Ou.val?(G:Gh)(j:Nat):Option Ou→Option VP
 |some (.v p)=>some p
 |some (.g f)=>some (f (G j).1 (G j).2)
 |_=>none
def uU(ops:List Oper)(ms:List Nat)(E:nV)(outs:List Ou)(G:Gh)(i d:Nat):Option VP:=
 match vR d ops 0 with
 |none=>iQ E d
 |some j=>bif(ms.getD i 0).testBit j then Ou.val? G j outs[j]? else bif(ms.getD j 0).testBit i then iQ E d else none
def aLA(ops:List Oper)(ms:List Nat)(E:nV)(outs:List Ou)(G:Gh)(i:Nat):Operand→VP→Prop
 | .tmp d,p=>uU ops ms E outs G i d=some p
 | .const v,p=>∀M,p.h M v
 | .func f,p=>∀M,p.h M (.func (.func f) #[] #[])
 | .global _,_=>False
def aCh(ops:List Oper)(ms:List Nat)(E:nV)(outs:List Ou)(G:Gh)(i:Nat):List (Operand×VP)→Prop
 |[]=>True
 |(x,p)::l=>aLA ops ms E outs G i x p∧aCh ops ms E outs G i l
def exM:List Nat→Nat→Nat→Bool
 |[],_,_=>false
 |j::hv,m,k=>bif Nat.beq j k then Nat.beq (m%2) 1 else exM hv (m/2) k
def aCp:List Nat→Nat→Nat
 |[],_=>0
 |j::hv,i=>bif Nat.beq j i then 1 else 2*aCp hv i
def aFt(f:Nat→Bool):List Nat→Bool
 |[]=>true
 |j::l=>f j&&aFt f l
theorem aEe{f:Nat→Bool}:∀{l:List Nat},(∀j∈l,f j=true)→aFt f l=true
 |[],_=>rfl
 |j::l,h=>by
  show(f j&&aFt f l)=true;rw[h j List.mem_cons_self,aEe fun k e=>h k (List.mem_cons_of_mem _ e)];rfl
def aMv(ms hv:List Nat)(i m:Nat):Bool:=aFt (fun j=>(!(ms.getD i 0).testBit j||exM hv m j)&&((!(Nat.beq j i||(ms.getD j 0).testBit i)||!exM hv m j)&&(!exM hv m j||aFt (fun k=>!(ms.getD j 0).testBit k||exM hv m k) hv))) hv
def aKe(m:Nat):List Nat→Bool
 |[]=>false
 |x::l=>Nat.beq x m||aKe m l
theorem aE3{m:Nat}:∀{l:List Nat},aKe m l=true→m∈l
 |[],h=>by cases h
 |x::l,h=>by
  have f:(Nat.beq x m||aKe m l)=true:=h;rcases Bool.or_eq_true _ _▸f with e|e
  ·rw[Nat.eq_of_beq_eq_true e];exact List.mem_cons_self
  ·exact List.mem_cons_of_mem _ (aE3 e)
def upB(f:Nat→Bool):Nat→Bool
 |0=>true
 |n+1=>upB f n&&f n
theorem aIW{f:Nat→Bool}:∀{n m:Nat},upB f n=true→m<n→f m=true
 |0,m,_,h=>by omega
 |n+1,m,h,hm=>by
  have j:(upB f n&&f n)=true:=h;rw[Bool.and_eq_true]at j;by_cases e:m=n
  ·rw[e];exact j.2
  ·exact aIW j.1 (by omega)
def kF(ms hv:List Nat)(i:Nat)(L:List Nat):Bool:=upB (fun m=>!aMv ms hv i m||aKe m L) (2^hv.length)
def aFQ(Φ:Nat→Prop):List Nat→Prop
 |[]=>True
 |m::L=>Φ m∧aFQ Φ L
theorem aFQ.at{Φ:Nat→Prop}:∀{L:List Nat},aFQ Φ L→∀m,m∈L→Φ m
 |[],_,m,h=>by cases h
 |x::L,h,m,hm=>by
  rcases List.mem_cons.1 hm with e|e
  ·rw[e];exact h.1
  ·exact aFQ.at h.2 m e
inductive DOp (S:Sx) (Hs:Gh→Nat→List HA) (hv:List Nat) (ops:List Oper) (ms:List Nat) (E:nV) (outs:List Ou) (i:Nat) (o:Oper):Ou→Prop
 |run {out:VP} {ins:Gh→List (Operand×VP)} {L:List Nat} (t:aFQ (fun s=>∀G A,Tr S o (Hs G s++A) (Hs G s++A) (ins G) out) L) (hs:∀G,aCh ops ms E outs G i (ins G)) (hg:o.guard=none:=by rfl) (h1:kF ms hv i L=true:=by rfl) (h3:hv.contains i=false:=by rfl):DOp S Hs hv ops ms E outs i o (.v out)
 |runG {out:VP} {ins:Gh→List (Operand×VP)} {L:List Nat} {j d:Nat} {b:Bool} (t:aFQ (fun s=>∀G A,Tr S o (Hs G s++A) (Hs G s++A) (ins G) out) L) (hs:∀G,aCh ops ms E outs G i (ins G)) (hg:o.guard=some (j,b):=by rfl) (hd:(ops[j]?).bind (·.dst)=some d:=by rfl) (hl:∀G,uU ops ms E outs G i d=some (.vc (pB b)):=by intro;rfl) (h1:kF ms hv i L=true:=by rfl) (h3:hv.contains i=false:=by rfl):DOp S Hs hv ops ms E outs i o (.v out)
 |skip {j d:Nat} {b b':Bool} (hg:o.guard=some (j,b):=by rfl) (hd:(ops[j]?).bind (·.dst)=some d:=by rfl) (hl:∀G,uU ops ms E outs G i d=some (.vc (pB b')):=by intro;rfl) (hb:(b' != b)=true:=by rfl) (h3:hv.contains i=false:=by rfl):DOp S Hs hv ops ms E outs i o (.v .any)
 |skipN {j d:Nat} {b b':Bool} (hg:o.guard=some (j,b):=by rfl) (hd:(ops[j]?).bind (·.dst)=some d:=by rfl) (hl:∀G,uU ops ms E outs G i d=some (.vc (pB b')):=by intro;rfl) (hb:(b' != b)=true:=by rfl) (h3:hv.contains i=false:=by rfl):DOp S Hs hv ops ms E outs i o (.v .un)
 |skipU {j d:Nat} {b:Bool} (hg:o.guard=some (j,b):=by rfl) (hd:(ops[j]?).bind (·.dst)=some d:=by rfl) (hl:∀G,uU ops ms E outs G i d=some .un:=by intro;rfl) (h3:hv.contains i=false:=by rfl):DOp S Hs hv ops ms E outs i o (.v .un)
 |alc {T:Nat} {zs:List CP} (hz:TyZ S.P T zs) (ho:o.op=.alloc T:=by rfl) (hg:o.guard=none:=by rfl) (h3:hv.contains i=false:=by rfl):DOp S Hs hv ops ms E outs i o (.a T zs)
 |hvy {out:Option Nat→Nat→VP} {ins:Gh→List (Operand×VP)} (L:List Nat) (t:aFQ (fun s=>∀G A,Hv S o (Hs G s++A) (fun b c=>Hs (G.set i (b,c)) (s+aCp hv i)++A) (ins G) out) L) (hs:∀G,aCh ops ms E outs G i (ins G)) (hg:o.guard=none:=by rfl) (h1:kF ms hv i L=true:=by kernel_rfl) (h3:hv.contains i=true:=by rfl):DOp S Hs hv ops ms E outs i o (.g out)
def aDT(S:Sx)(Hs:Gh→Nat→List HA)(hv:List Nat)(ops:List Oper)(ms:List Nat)(E:nV)(outs:List Ou):Nat→List Oper→List Ou→Prop
 |_,_,[]=>True
 |i,o::l,out::r=>(o.dst.all (Nat.blt · S.N)=true∧DOp S Hs hv ops ms E outs i o out)∧aDT S Hs hv ops ms E outs (i+1) l r
 |_,[],_::_=>False
theorem aDT.at{S:Sx}{Hs:Gh→Nat→List HA}{hv:List Nat}{ops:List Oper}{ms:List Nat}{E:nV}{outs:List Ou}:∀{k:Nat} {l:List Oper} {r:List Ou},aDT S Hs hv ops ms E outs k l r→∀(i:Nat) out,r[i]?=some out→∃o,l[i]?=some o∧o.dst.all (Nat.blt · S.N)=true∧DOp S Hs hv ops ms E outs (k+i) o out
 |_,_,[],_,i,out,h=>by simp at h
 |k,o::l,out::r,h,0,out',e=>by
  simp at e;subst e;exact⟨o,rfl,h.1.1,h.1.2⟩
 |k,o::l,out::r,h,i+1,out',e=>by
  obtain⟨f,j,q,s⟩:=aDT.at h.2 i out' (by simpa using e);exact⟨f,by simpa using j,q,by rwa [show k+(i+1)=k+1+i by omega]⟩
 |_,[],_::_,h,_,_,_=>h.elim
def Ou.vp(bs:Nat→Nat)(G:Gh)(i:Nat):Ou→VP
 | .v p=>p
 | .a _ _=>.vc (pP (some (bs i)) 0)
 | .g f=>f (G i).1 (G i).2
def aAD(outs:List Ou)(bs:Nat→Nat)(i:Nat):HA:=
 match outs[i]? with
 |some (.a T zs)=>⟨some (bs i),1,T,zs.length,1,zs⟩
 |_=>⟨some (bs i),1,0,0,1,[]⟩
def zV(ops:List Oper)(ms:List Nat)(m:Nat):Nat→Bool
 |0=>true
 |n+1=>zV ops ms m n&&Nat.beq ((ms.getD (m+n) 0)&&& (2^(m+n)-1)) (2^(m+n)-1)
theorem aCl{ops:List Oper}{ms:List Nat}{m:Nat}:∀{n:Nat},zV ops ms m n=true→∀t,t<n→∀j,j<m+t→(ms.getD (m+t) 0).testBit j=true
 |0,_,t,q,_,_=>by omega
 |n+1,h,t,q,j,f=>by
  simp only[zV,Bool.and_eq_true]at h;by_cases e:t=n
  ·subst e;have s:=Nat.eq_of_beq_eq_true h.2;have k:(2^(m+t)-1).testBit j=true:=by simp[Nat.testBit_two_pow_sub_one,f]
   rw[←s,Nat.testBit_and,Bool.and_eq_true]at k;exact k.1
  ·exact aCl h.1 t (by omega) j f
def wP:List Nat→Array Bool→Nat
 |[],_=>0
 |j::hv,l=>(bif l.getD j false then 1 else 0)+2*wP hv l
theorem aFR{l:Array Bool}:∀{hv:List Nat} {j:Nat},j∈hv→exM hv (wP hv l) j=l.getD j false
 |[],j,h=>by cases h
 |x::hv,j,h=>by
  show(bif Nat.beq x j then Nat.beq (((bif l.getD x false then 1 else 0)+2*wP hv l)%2) 1 else exM hv (((bif l.getD x false then 1 else 0)+2*wP hv l)/2) j)=l.getD j false;cases hb:Nat.beq x j with
  |true=>
   have:=Nat.eq_of_beq_eq_true hb;subst this;cases l.getD x false
   ·show Nat.beq ((0+2*wP hv l)%2) 1=false;rw[show(0+2*wP hv l)%2=0 by omega];rfl
   ·show Nat.beq ((1+2*wP hv l)%2) 1=true;rw[show(1+2*wP hv l)%2=1 by omega];rfl
  |false=>
   have f:j∈hv:=by
    rcases List.mem_cons.1 h with e|e
    ·subst e;rw[Nat.beq_refl]at hb;cases hb
    ·exact e
   have e:((bif l.getD x false then 1 else 0)+2*wP hv l)/2=wP hv l:=by cases l.getD x false<;>simp only[cond_true,cond_false]<;>omega
   show exM hv _ j=_;rw[e];exact aFR f
theorem aH3(l:Array Bool):∀hv:List Nat,wP hv l<2^hv.length
 |[]=>by simp[wP]
 |x::hv=>by
  have:=aH3 l hv;show(bif l.getD x false then 1 else 0)+2*wP hv l<2^(hv.length+1);rw[Nat.pow_succ];cases l.getD x false<;>simp only[cond_true,cond_false]<;>omega
theorem aEN{l:Array Bool}:∀{hv:List Nat},(∀j∈hv,l.getD j false=false)→wP hv l=0
 |[],_=>rfl
 |x::hv,h=>by
  show(bif l.getD x false then 1 else 0)+2*wP hv l=0;rw[h x List.mem_cons_self,aEN fun j e=>h j (List.mem_cons_of_mem _ e)];rfl
theorem aED{l:Array Bool}:∀{hv:List Nat},(∀j∈hv,l.getD j false=true)→wP hv l=2^hv.length-1
 |[],_=>rfl
 |x::hv,h=>by
  show(bif l.getD x false then 1 else 0)+2*wP hv l=2^(hv.length+1)-1;rw[h x List.mem_cons_self,aED fun j e=>h j (List.mem_cons_of_mem _ e),Nat.pow_succ];have:=Nat.two_pow_pos hv.length;simp only[cond_true];omega
theorem aEZ{l l':Array Bool}:∀{hv:List Nat},(∀j∈hv,l'.getD j false=l.getD j false)→wP hv l'=wP hv l
 |[],_=>rfl
 |x::hv,h=>by
  show(bif l'.getD x false then 1 else 0)+2*wP hv l'=(bif l.getD x false then 1 else 0)+2*wP hv l;rw[h x List.mem_cons_self,aEZ fun j e=>h j (List.mem_cons_of_mem _ e)]
theorem aGW{l l':Array Bool}{i:Nat}(hu:l.getD i false=false)(hs:∀j,l'.getD j false=if j=i then true else l.getD j false):∀{hv:List Nat},hv.Nodup→wP hv l'=wP hv l+aCp hv i
 |[],_=>rfl
 |x::hv,h=>by
  obtain⟨k,q⟩:=List.nodup_cons.1 h;show(bif l'.getD x false then 1 else 0)+2*wP hv l'=(bif l.getD x false then 1 else 0)+2*wP hv l+(bif Nat.beq x i then 1 else 2*aCp hv i);cases hb:Nat.beq x i with
  |true=>
   have:=Nat.eq_of_beq_eq_true hb;subst this;have hne:∀j∈hv,j≠x:=fun j f e=>k (by rw[←e];exact f)
   rw[hs x,if_pos rfl,hu,aEZ (l:=l) (l':=l') fun j f=>by rw[hs j,if_neg (hne j f)]];simp only[cond_true,cond_false];omega
  |false=>
   have hne:x≠i:=fun e=>by subst e;rw[Nat.beq_refl]at hb;cases hb
   rw[hs x,if_neg hne,aGW hu hs q];simp only[cond_false];omega
theorem aEP{i:Nat}:∀{hv:List Nat},hv.contains i=false→aCp hv i=0
 |[],_=>rfl
 |x::hv,h=>by
  have e:i∉x::hv:=fun hm=>by
   have:(x::hv).contains i=true:=by simpa using hm
   rw[h]at this;cases this
  show(bif Nat.beq x i then 1 else 2*aCp hv i)=0;have hb:Nat.beq x i=false:=by
   cases f:Nat.beq x i
   ·rfl
   ·exact absurd (Nat.eq_of_beq_eq_true f▸List.mem_cons_self) e
  rw[hb,aEP (by simpa using fun hm=>e (List.mem_cons_of_mem _ hm))];rfl
structure DI (S:Sx) (Hs:Gh→Nat→List HA) (hv:List Nat) (ops:List Oper) (E:nV) (outs:List Ou) (listed:Array Bool) (a:Act) (w:World):Prop where
 sz:listed.size=ops.length
 clo:Clo ops (fun i=>listed.getD i false=true)
 pre:∀i,listed.getD i false=true→i<outs.length
 st:∃(M:iE) (bs:Nat→Nat) (ord:List Nat) (G:Gh),St S M w (Hs G (wP hv listed)++ord.map (aAD outs bs))∧ord.Nodup∧(∀(i T:Nat) (zs:List CP),outs[i]?=some (.a T zs)→listed.getD i false=true→i∈ord)∧(∀i∈ord,listed.getD i false=true)∧
  a.tmps.size=S.N.n∧MK S.N M a.defers∧
  (∀(i:Nat) out o d,outs[i]?=some out→ops[i]?=some o→o.dst=some d→listed.getD i false=true→∃v,a.tmps[d]?=some v∧(out.vp bs G i).h M v)∧
  (∀d p,iQ E d=some p→(∀(i:Nat) o,ops[i]?=some o→o.dst=some d→listed.getD i false=false)→∃v,a.tmps[d]?=some v∧p.h M v)
theorem aBh{ops:Array Oper}{listed:Array Bool}{i:Nat}(h:i∈Region.ready .any ops listed)(hs:listed.size=ops.size):listed.getD i false=false∧i<ops.size∧∃o,ops[i]?=some o∧∀e∈o.after.toList,sV e=true→listed.getD e.on false=true:=by
 unfold Region.ready at h;obtain⟨q,f⟩:=List.mem_filter.1 h;have j:i<ops.size:=List.mem_range.1 q;simp only[Bool.and_eq_true]at f;refine⟨?_,j,ops[i],by simp[j],fun e he hb=>?_⟩
 ·have:=f.1;have s:i<listed.size:=by omega
  simp only[Array.getD_eq_getD_getElem?,Array.getElem?_eq_getElem s,Option.getD_some]at this ⊢;simpa using this
 ·have k:=f.2;simp only[Array.getElem?_eq_getElem j,Option.map_some,Option.getD_some]at k;have t:=Array.all_eq_true'.1 k e (by simpa using he);unfold sV at hb;simpa [hb] using t
end
def aAT(bs:Nat→Nat)(G:Gh):Nat→List Oper→List Ou→nV
 |i,o::l,q::r=>match o.dst with
  |some d=>(d,q.vp bs G i)::aAT bs G (i+1) l r
  |none=>aAT bs G (i+1) l r
 |_,_,_=>[]
def aAJ(bs:Nat→Nat):Nat→List Ou→List HA
 |i,.a T zs::r=>⟨some (bs i),1,T,zs.length,1,zs⟩::aAJ bs (i+1) r
 |i,.v _::r=>aAJ bs (i+1) r
 |i,.g _::r=>aAJ bs (i+1) r
 |_,[]=>[]
theorem aE2{E':nV}{d:Nat}{p:VP}:∀{E:nV},iQ (E++E') d=some p→iQ E d=some p∨(iQ E d=none∧iQ E' d=some p)
 |[],h=>.inr ⟨rfl,h⟩
 |(x,q)::E,h=>by
  simp only[List.cons_append,iQ]at h ⊢;cases hb:Nat.beq x d with
  |true=>rw[hb]at h;simp at h ⊢;exact h
  |false=>rw[hb]at h;simp at h ⊢;exact aE2 h
theorem aBj{bs:Nat→Nat}{G:Gh}{d:Nat}:∀{l:List Oper} {r:List Ou} {k:Nat} {p:VP},iQ (aAT bs G k l r) d=some p→∃(i:Nat) (o:Oper) (q:Ou),l[i]?=some o∧o.dst=some d∧r[i]?=some q∧q.vp bs G (k+i)=p
 |[],_,_,_,h=>by simp[aAT,iQ]at h
 |_::_,[],_,_,h=>by simp[aAT,iQ]at h
 |o::l,q::r,k,p,h=>by
  simp only[aAT]at h;cases e:o.dst with
  |none=>
   rw[e]at h;obtain⟨i,f,j,s,t,u,y⟩:=aBj h;exact⟨i+1,f,j,by simpa using s,t,by simpa using u,by rw[←y,show k+(i+1)=k+1+i by omega]⟩
  |some x=>
   rw[e]at h;simp only[iQ]at h;cases hb:Nat.beq x d with
   |true=>
    simp only[hb,cond_true,Option.some.injEq]at h;subst h;have:=Nat.eq_of_beq_eq_true hb;subst this;exact⟨0,o,q,rfl,e,rfl,rfl⟩
   |false=>
    simp only[hb,cond_false]at h;obtain⟨i,f,j,s,t,u,y⟩:=aBj h;exact⟨i+1,f,j,by simpa using s,t,by simpa using u,by rw[←y,show k+(i+1)=k+1+i by omega]⟩
theorem uO{bs:Nat→Nat}{G:Gh}{d:Nat}:∀{l:List Oper} {r:List Ou} {k:Nat},iQ (aAT bs G k l r) d=none→∀(i:Nat) o q,l[i]?=some o→r[i]?=some q→o.dst≠some d
 |[],_,_,_,i,o,q,h,_=>by simp at h
 |_::_,[],_,_,i,o,q,_,h=>by simp at h
 |x::l,y::r,k,h,i,o,q,f,s=>by
  simp only[aAT]at h;cases j:x.dst with
  |none=>
   rw[j]at h;cases i with
   |zero=>simp at f;subst f;rw[j];simp
   |succ i=>exact uO h i o q (by simpa using f) (by simpa using s)
  |some z=>
   rw[j]at h;simp only[iQ]at h;cases hb:Nat.beq z d with
   |true=>simp[hb]at h
   |false=>
    simp only[hb,cond_false]at h;cases i with
    |zero=>
     simp at f;subst f;rw[j];intro e;simp only[Option.some.injEq]at e;subst e;simp at hb
    |succ i=>exact uO h i o q (by simpa using f) (by simpa using s)
theorem wN{bs:Nat→Nat}:∀{r:List Ou} {k:Nat} {e:HA},e∈aAJ bs k r→∃(i T:Nat) (zs:List CP),r[i]?=some (.a T zs)∧e=⟨some (bs (k+i)),1,T,zs.length,1,zs⟩
 |[],_,_,h=>by simp[aAJ]at h
 | .v p::r,k,e,h=>by
  obtain⟨i,T,zs,f,j⟩:=wN (r:=r) h;exact⟨i+1,T,zs,by simpa using f,by rw[j,show k+(i+1)=k+1+i by omega]⟩
 | .g p::r,k,e,h=>by
  obtain⟨i,T,zs,f,j⟩:=wN (r:=r) h;exact⟨i+1,T,zs,by simpa using f,by rw[j,show k+(i+1)=k+1+i by omega]⟩
 | .a T zs::r,k,e,h=>by
  rcases List.mem_cons.1 h with rfl|h
  ·exact⟨0,T,zs,rfl,rfl⟩
  ·obtain⟨i,T',zs',f,j⟩:=wN (r:=r) h;exact⟨i+1,T',zs',by simpa using f,by rw[j,show k+(i+1)=k+1+i by omega]⟩
theorem xE{bs:Nat→Nat}:∀{r:List Ou} {k:Nat},(∀(i j T:Nat) (zs:List CP) (T':Nat) (zs':List CP),r[i]?=some (.a T zs)→r[j]?=some (.a T' zs')→bs (k+i)=bs (k+j)→i=j)→((aAJ bs k r).filterMap HA.β).Nodup
 |[],_,_=>by simp[aAJ]
 | .v p::r,k,h=>by
  refine xE (r:=r) (k:=k+1) fun i j T zs T' zs' f q s=>?_
  have:=h (i+1) (j+1) T zs T' zs' (by simpa using f) (by simpa using q) (by rw[show k+(i+1)=k+1+i by omega,show k+(j+1)=k+1+j by omega];exact s);omega
 | .g p::r,k,h=>by
  refine xE (r:=r) (k:=k+1) fun i j T zs T' zs' f q s=>?_
  have:=h (i+1) (j+1) T zs T' zs' (by simpa using f) (by simpa using q) (by rw[show k+(i+1)=k+1+i by omega,show k+(j+1)=k+1+j by omega];exact s);omega
 | .a T zs::r,k,h=>by
  have ih:=xE (bs:=bs) (r:=r) (k:=k+1) fun i j T zs T' zs' f q s=>by
   have:=h (i+1) (j+1) T zs T' zs' (by simpa using f) (by simpa using q) (by rw[show k+(i+1)=k+1+i by omega,show k+(j+1)=k+1+j by omega];exact s);omega
  simp only[aAJ,List.filterMap_cons];refine List.nodup_cons.2 ⟨fun hm=>?_,ih⟩;obtain⟨e,he,heb⟩:=List.mem_filterMap.1 hm;obtain⟨i,T',zs',f,rfl⟩:=wN he;have hb:bs (k+1+i)=bs k:=by simpa using heb
  have:=h 0 (i+1) T zs T' zs' rfl (by simpa using f) (by rw[show k+(i+1)=k+1+i by omega];exact hb.symm);omega
theorem St.sub{S:Sx}{M:iE}{w:World}{H H':List HA}(h:St S M w H)(hm:∀e∈H',e∈H)(f:(H'.filterMap HA.β).Nodup):St S M w H':=
 ⟨h.le0,h.mem,h.keep,h.new,h.size,h.os,h.tape,h.output,fun e he=>h.own e (hm e he),fun e he=>h.fresh e (hm e he),f⟩
def unl(l:Array Bool):Nat:=(l.toList.filter (!·)).length
theorem aGQ{l:Array Bool}{i:Nat}(h:l.getD i false=false)(e:i<l.size):unl (l.setIfInBounds i true)+1=unl l:=by
 have f:l[i]=false:=by
  simpa [Array.getD_eq_getD_getElem?,e] using h
 unfold unl;rw[Array.toList_setIfInBounds];have key:∀(L:List Bool) (i:Nat),L[i]?=some false→((L.set i true).filter (!·)).length+1=(L.filter (!·)).length:=by
  intro L
  induction L with
  |nil=>intro i h;simp at h
  |cons x L ih=>
   intro i h;cases i with
   |zero=>simp at h;subst h;simp
   |succ i=>
    have:=ih i (by simpa using h);cases x<;>simp<;>omega
 exact key _ _ (by simp[e,f])
section
variable {S:Sx} {κ:Kt} {Hs:Gh→Nat→List HA} {hv:List Nat} {E:nV}
theorem DI.full{l:List Oper}{outs:List Ou}{listed:Array Bool}{a:Act}{w:World}(h:DI S Hs hv l E outs listed a w)(hall:∀i,i<outs.length→listed.getD i false=true)(hle:outs.length≤l.length)(hhv:hv.all (Nat.blt · outs.length)=true)
  :∃bs G,hs S (aAJ bs 0 outs++Hs G (2^hv.length-1)) (aAT bs G 0 l outs++E) a w:=by
 obtain⟨M,bs,ord,G,I,hnd,k,K,h2,h3,h4,h5⟩:=h.st;have hst:wP hv listed=2^hv.length-1:=by
  refine aED fun j J=>?_
  have:=List.all_eq_true.1 hhv j J;exact hall j (by simpa using this)
 rw[hst]at I;refine⟨bs,G,M,?_,h2,h3,fun d p z=>?_⟩
 ·have hent:∀(i:Nat) T zs,outs[i]?=some (.a T zs)→aAD outs bs i=⟨some (bs i),1,T,zs.length,1,zs⟩:=fun i T zs f=>by simp[aAD,f]
  refine I.sub (fun e he=>?_) ?_
  ·rcases List.mem_append.1 he with he|he
   rotate_left
   ·exact List.mem_append.2 (.inl he)
   ·obtain⟨i,T,zs,f,rfl⟩:=wN he;refine List.mem_append.2 (.inr (List.mem_map.2 ⟨i,k i T zs f (hall i (List.getElem?_eq_some_iff.1 f).1),?_⟩));rw[hent i T zs f,Nat.zero_add]
  ·have F:=I.nodup;rw[List.filterMap_append]at F ⊢;obtain⟨L,s,t⟩:=List.nodup_append.1 F;have hbeta:(ord.map (aAD outs bs)).filterMap HA.β=ord.map bs:=by
    clear F s t k K hnd I
    induction ord with
    |nil=>rfl
    |cons i ord ih=>
     have:(aAD outs bs i).β=some (bs i):=by unfold aAD;split<;>rfl
     simp only[List.map_cons];rw[List.filterMap_cons_some this,ih]
   rw[hbeta]at s t;refine List.nodup_append.2 ⟨xE fun i j T zs T' zs' f J hb=>?_,L,fun y hy x hx hyx=>?_⟩
   rotate_left
   ·have hxy:x=y:=hyx.symm;obtain⟨e,he,heb⟩:=List.mem_filterMap.1 hy;obtain⟨i,T,zs,f,rfl⟩:=wN he;simp only[Nat.zero_add,Option.some.injEq]at heb;exact t x hx y (List.mem_map.2 ⟨i,k i T zs f (hall i (List.getElem?_eq_some_iff.1 f).1),heb⟩) hxy
   ·have O:=k i T zs f (hall i (List.getElem?_eq_some_iff.1 f).1);have U:=k j T' zs' J (hall j (List.getElem?_eq_some_iff.1 J).1);simp only[Nat.zero_add]at hb;obtain⟨p,hp⟩:=List.getElem?_of_mem O;obtain⟨q,u⟩:=List.getElem?_of_mem U;have e1:(ord.map bs)[p]?=some (bs i):=by simp[hp]
    have e2:(ord.map bs)[q]?=some (bs i):=by simp[u,hb]
    have:=aDi s e1 e2;subst this;rw[hp]at u;exact Option.some.inj u
 ·rcases aE2 z with z|⟨F,z⟩
  ·obtain⟨i,o,q,f,V,hp,u⟩:=aBj z;rw[Nat.zero_add]at u;rw[←u];exact h4 i q o d hp f V (hall i (List.getElem?_eq_some_iff.1 hp).1)
  ·refine h5 d p z fun i o f V=>?_
   cases hb:listed.getD i false with
   |false=>rfl
   |true=>
    exfalso;have hlt:=h.pre i hb;exact uO F i o _ f (List.getElem?_eq_getElem hlt) V
theorem aBu{l:List Oper}{listed:Array Bool}(hs:listed.size=l.length)(hb:tN l 0=true){i:Nat}(s:i<l.length)(hu:listed.getD i false=false):∃j,j≤i∧j∈Region.ready .any l.toArray listed:=by
 induction i using Nat.strongRecOn with
 |_ i ih=>
  by_cases h:∃j,j<i∧listed.getD j false=false
  ·obtain⟨j,u,hju⟩:=h;obtain⟨k,q,hr⟩:=ih j u (by omega) hju;exact⟨k,by omega,hr⟩
  ·refine⟨i,Nat.le_refl _,?_⟩;have hback:∀(l:List Oper) (k:Nat),tN l k=true→∀(i:Nat) o,l[i]?=some o→∀e∈o.after.toList,sV e=true→e.on<k+i:=by
    intro l
    induction l with
    |nil=>intro k _ i o f;simp at f
    |cons x l t=>
     intro k q i o f e he hbe;simp only[tN,Bool.and_eq_true]at q;cases i with
     |zero=>
      simp at f;subst f;have:=List.all_eq_true.1 q.1 e he;rw[hbe]at this;simpa using this
     |succ i=>
      have:=t (k+1) q.2 i o (by simpa using f) e he hbe;omega
   unfold Region.ready;refine List.mem_filter.2 ⟨by simp[s],?_⟩;have hil:i<listed.size:=by omega
   have y:listed.getD i true=false:=by
    simp only[Array.getD_eq_getD_getElem?,Array.getElem?_eq_getElem hil,Option.getD_some]at hu ⊢;exact hu
   simp only[y,Bool.not_false,Bool.true_and,List.getElem?_toArray,List.getElem?_eq_getElem s,Option.map_some,Option.getD_some];rw[Array.all_eq_true'];intro e he;by_cases hbe:sV e=true
   ·have hlt:=hback l 0 hb i l[i] (by simp[s]) e (by simpa using he) hbe;have:listed.getD e.on false=true:=by
     cases hc:listed.getD e.on false with
     |true=>rfl
     |false=>exact absurd ⟨e.on,by omega,hc⟩ h
    simp only[this,Bool.or_true]
   ·have:Region.binds .any e=false:=by simpa [sV] using hbe
    simp[this]
theorem aIS{rd:Option Nat}{P:Program}{l:List Oper}{ms:List Nat}{Q:Exit→Act→World→Prop}{m n:Nat}(hm:zL ms l ms=true)(hb:tN l 0=true)(J:zV l ms m n=true)(O:m+n=l.length):∀(cF t:Nat) (listed:Array Bool) (a:Act) (w:World),
  listed.size=l.length→(∀j,j<m+t→listed.getD j false=true)→(∀j,m+t≤j→listed.getD j false=false)→l.length-(m+t)≤cF→Clo l (fun i=>listed.getD i false=true)→wpListIn (Fw rd) 0 P l.toArray Q (l.drop (m+t)) a w→wpAnyIn (Fw rd) 0 P .any l.toArray Q cF listed a w:=by
 intro cF
 induction cF with
 |zero=>
  intro t listed a w hs s u K hc hw;have hge:l.length≤m+t:=by omega
  rw[List.drop_of_length_le hge]at hw;refine⟨?_,hw⟩;rw[List.eq_nil_iff_forall_not_mem];intro i f;obtain⟨hu,hil,_⟩:=aBh f (by simpa using hs);rw[s i (by simp at hil;omega)]at hu;cases hu
 |succ cF ih=>
  intro t listed a w hs s u K hc hw;refine⟨fun hnil=>?_,fun i f=>?_⟩
  ·by_cases hge:l.length≤m+t
   ·rw[List.drop_of_length_le hge]at hw;exact hw
   ·obtain⟨j,_,x⟩:=aBu hs hb (i:=m+t) (by omega) (u _ (Nat.le_refl _));rw[hnil]at x;cases x
  ·obtain⟨hu,hil,o,k,hdeps⟩:=aBh f (by simpa using hs);simp only[List.size_toArray]at hil;simp only[List.getElem?_toArray]at k;have hge:m+t≤i:=by
    rcases Nat.lt_or_ge i (m+t) with h|h
    ·rw[s i h]at hu;cases hu
    ·exact h
   have hle:i≤m+t:=by
    rcases Nat.lt_or_ge (m+t) i with h|h
    ·exfalso;have hbit:=aCl J (i-m) (by omega) (m+t) (by omega);rw[show m+(i-m)=i by omega]at hbit;have:=wZ (L:=fun i=>listed.getD i false=true) hm hb i (m+t) hbit (fun q y=>by
      have:q=o:=by
       have h:l[i]?=some q:=y;rw[k]at h;exact(Option.some.inj h).symm
      subst this;exact hdeps) hc
     rw[u (m+t) (Nat.le_refl _)]at this;cases this
    ·exact h
   have hit:i=m+t:=by omega
   subst hit;have hdrop:l.drop (m+t)=o::l.drop (m+(t+1)):=by
    have hlt:m+t<l.length:=hil;rw[List.drop_eq_getElem_cons hlt];have:l[m+t]=o:=by
     have:=k;rw[List.getElem?_eq_getElem hlt]at this;exact Option.some.inj this
    rw[this];rfl
   rw[hdrop]at hw;have hgetset:∀j,(listed.setIfInBounds (m+t) true).getD j false=if j=m+t then true else listed.getD j false:=by
    intro j;simp only[Array.getD_eq_getD_getElem?,Array.getElem?_setIfInBounds];by_cases e:m+t=j
    ·subst e;simp[hs,hil]
    ·rw[if_neg e,if_neg (fun h=>e h.symm)]
   have F:∀a w,wpListIn (Fw rd) 0 P l.toArray Q (l.drop (m+(t+1))) a w→wpAnyIn (Fw rd) 0 P .any l.toArray Q cF (listed.setIfInBounds (m+t) true) a w:=fun a w hw=>
    ih (t+1) _ a w (by simpa using hs) (fun j x=>by
     rw[hgetset];by_cases e:j=m+t
     ·simp[e]
     ·rw[if_neg e];exact s j (by omega)) (fun j x=>by
     rw[hgetset,if_neg (by omega)];exact u j (by omega)) (by omega) ⟨fun i q f z e he hbe=>by
     rw[hgetset]at z ⊢;by_cases G:e.on=m+t
     ·simp[G]
     ·rw[if_neg G];by_cases I:i=m+t
      ·subst I;have hoo:o=q:=by rw[k]at f;exact Option.some.inj f
       subst hoo;exact hdeps e he hbe
      ·rw[if_neg I]at z;exact hc.h i q f z e he hbe⟩ hw
   unfold wpOpIn;simp only[List.getElem?_toArray,k];simp only[wpListIn]at hw;split
   ·rename_i hwant;rw[if_pos hwant]at hw;exact Oper.wpIn_mono F hw
   ·rename_i hwant;rw[if_neg hwant]at hw;exact⟨hw.1,F _ _ hw.2⟩
theorem DI.read{l:List Oper}{ms:List Nat}{outs:List Ou}{listed:Array Bool}{a:Act}{w:World}{i d:Nat}{p:VP}(h:DI S Hs hv l E outs listed a w)(hm:zL ms l ms=true)(hb:tN l 0=true)(O:xL l=true)(hu:listed.getD i false=false)
  (hdeps:∀o,l[i]?=some o→∀e∈o.after.toList,sV e=true→listed.getD e.on false=true){M:iE}{bs:Nat→Nat}{G:Gh}(s:uU l ms E outs G i d=some p)(F:(∀(i:Nat) out o d,outs[i]?=some out→l[i]?=some o→o.dst=some d→listed.getD i false=true→∃v,a.tmps[d]?=some v∧(out.vp bs G i).h M v))
  (I:(∀d p,iQ E d=some p→(∀(i:Nat) o,l[i]?=some o→o.dst=some d→listed.getD i false=false)→∃v,a.tmps[d]?=some v∧p.h M v)):∃v,a.tmps[d]?=some v∧p.h M v:=by
 unfold uU at s;cases z:vR d l 0 with
 |none=>
  rw[z]at s;exact I d p s fun j o y hod=>absurd hod (vK z j o y)
 |some j=>
  rw[z]at s;simp only at s;obtain⟨_,o,y,hod⟩:=yP z;rw[Nat.sub_zero]at y;cases t:(ms.getD i 0).testBit j with
  |true=>
   rw[t]at s;simp only[cond_true]at s;have J:listed.getD j false=true:=wZ (L:=fun i=>listed.getD i false=true) hm hb i j t (fun K u=>hdeps K u) h.clo;cases hoj:outs[j]? with
   |none=>rw[hoj]at s;simp[Ou.val?]at s
   |some q=>
    rw[hoj]at s;cases q with
    |a T zs=>simp[Ou.val?]at s
    |v U=>
     simp only[Ou.val?,Option.some.injEq]at s;subst s;exact F j (.v U) o d hoj y hod J
    |g f=>
     simp only[Ou.val?,Option.some.injEq]at s;subst s;exact F j (.g f) o d hoj y hod J
  |false=>
   rw[t]at s;simp only[cond_false]at s;cases x:(ms.getD j 0).testBit i with
   |false=>rw[x]at s;simp at s
   |true=>
    rw[x]at s;simp only[cond_true]at s;refine I d p s fun k K u hod'=>?_
    have hkj:=aEd O u y hod' hod;subst hkj;cases V:listed.getD k false with
    |false=>rfl
    |true=>
     have:=wZ (L:=fun i=>listed.getD i false=true) hm hb k i x (fun o'' ho'' e he hbe=>h.clo.h k o'' ho'' V e he hbe) h.clo;rw[hu]at this;cases this
theorem DI.ins{l:List Oper}{ms:List Nat}{outs:List Ou}{listed:Array Bool}{a:Act}{w:World}{i:Nat}(h:DI S Hs hv l E outs listed a w)(hm:zL ms l ms=true)(hb:tN l 0=true)(q:xL l=true)(hu:listed.getD i false=false)
  (hdeps:∀o,l[i]?=some o→∀e∈o.after.toList,sV e=true→listed.getD e.on false=true){M:iE}{bs:Nat→Nat}{G:Gh}(s:(∀(i:Nat) out o d,outs[i]?=some out→l[i]?=some o→o.dst=some d→listed.getD i false=true→∃v,a.tmps[d]?=some v∧(out.vp bs G i).h M v))
  (t:(∀d p,iQ E d=some p→(∀(i:Nat) o,l[i]?=some o→o.dst=some d→listed.getD i false=false)→∃v,a.tmps[d]?=some v∧p.h M v)):∀{ins:List (Operand×VP)},aCh l ms E outs G i ins→Ins M a ins
 |[],_=>trivial
 |(x,p)::r,hs=>by
  refine⟨?_,DI.ins h hm hb q hu hdeps s t hs.2⟩;have j:=hs.1;unfold aMc;cases x with
  |tmp d=>
   obtain⟨v,e,k⟩:=h.read hm hb q hu hdeps j s t;simpa [Act.eval,e] using k
  |const v=>exact j M
  |func f=>exact j M
  |global g=>exact j.elim
theorem DI.yields{l:List Oper}{ms:List Nat}{outs:List Ou}{listed:Array Bool}{a:Act}{w:World}{i j d:Nat}{b:Bool}(h:DI S Hs hv l E outs listed a w)(hm:zL ms l ms=true)(hb:tN l 0=true)(f:xL l=true)(hu:listed.getD i false=false)
  (hdeps:∀o,l[i]?=some o→∀e∈o.after.toList,sV e=true→listed.getD e.on false=true){M:iE}{bs:Nat→Nat}{G:Gh}(q:(∀(i:Nat) out o d,outs[i]?=some out→l[i]?=some o→o.dst=some d→listed.getD i false=true→∃v,a.tmps[d]?=some v∧(out.vp bs G i).h M v))
  (s:(∀d p,iQ E d=some p→(∀(i:Nat) o,l[i]?=some o→o.dst=some d→listed.getD i false=false)→∃v,a.tmps[d]?=some v∧p.h M v))(t:(l[j]?).bind (·.dst)=some d)(u:uU l ms E outs G i d=some (.vc (pB b))):
  yielded l.toArray a.tmps j=some b:=by
 obtain⟨v,e,k⟩:=h.read hm hb f hu hdeps u q s;have:v=.bool b:=k;subst this;simp[yielded,t,e]
theorem DI.yieldsU{l:List Oper}{ms:List Nat}{outs:List Ou}{listed:Array Bool}{a:Act}{w:World}{i j d:Nat}(h:DI S Hs hv l E outs listed a w)(hm:zL ms l ms=true)(hb:tN l 0=true)(f:xL l=true)(hu:listed.getD i false=false)
  (hdeps:∀o,l[i]?=some o→∀e∈o.after.toList,sV e=true→listed.getD e.on false=true){M:iE}{bs:Nat→Nat}{G:Gh}(q:(∀(i:Nat) out o d,outs[i]?=some out→l[i]?=some o→o.dst=some d→listed.getD i false=true→∃v,a.tmps[d]?=some v∧(out.vp bs G i).h M v))
  (s:(∀d p,iQ E d=some p→(∀(i:Nat) o,l[i]?=some o→o.dst=some d→listed.getD i false=false)→∃v,a.tmps[d]?=some v∧p.h M v))(t:(l[j]?).bind (·.dst)=some d)(u:uU l ms E outs G i d=some .un):
  yielded l.toArray a.tmps j=none:=by
 obtain⟨v,e,k⟩:=h.read hm hb f hu hdeps u q s;have:v=undef:=k;subst this;simp[yielded,t,e,undef]
theorem aIe{l:List Oper}{ms:List Nat}{outs:List Ou}(hm:zL ms l ms=true)(hb:tN l 0=true)(hq:xL l=true)(hle:outs.length≤l.length)(hops:aDT S Hs hv l ms E outs 0 l outs)(ht:zV l ms outs.length (l.length-outs.length)=true)(hhv:hv.all (Nat.blt · outs.length)=true)(hvn:hv.Nodup)
  (k:∀bs G,WL S l.toArray κ (l.drop outs.length) (aAJ bs 0 outs++Hs G (2^hv.length-1)) (aAT bs G 0 l outs++E)):∀(cF:Nat) (listed:Array Bool) (a:Act) (w:World),DI S Hs hv l E outs listed a w→unl listed≤cF→wpAnyIn S.F 0 S.P .any l.toArray (κ.den S.F S.P) cF listed a w:=by
 have hfin:∀(cF:Nat) (listed:Array Bool) (a:Act) (w:World),DI S Hs hv l E outs listed a w→(∀i,i<outs.length→listed.getD i false=true)→l.length-outs.length≤cF→wpAnyIn S.F 0 S.P .any l.toArray (κ.den S.F S.P) cF listed a w:=by
  intro cF listed a w s hall hf;obtain⟨bs,G,hfull⟩:=s.full hall hle hhv;refine aIS hm hb ht (by omega) cF 0 listed a w s.sz (fun j I=>hall j (by omega)) (fun j I=>?_) (by omega) s.clo (k bs G a w hfull);cases hc:listed.getD j false with
  |false=>rfl
  |true=>have:=s.pre j hc;omega
 have hun:∀(listed:Array Bool),listed.size=l.length→(∀i,listed.getD i false=true→i<outs.length)→l.length-outs.length≤unl listed:=by
  intro listed hs hp;unfold unl;have key:∀(L:List Bool) (m:Nat),(∀i,L[i]?=some true→i<m)→L.length-m≤(L.filter (!·)).length:=by
   intro L
   induction L with
   |nil=>intro m _;simp
   |cons x L ih=>
    intro m h;cases m with
    |zero=>
     have hx:x=false:=by cases x;rfl;exact absurd (h 0 rfl) (by omega)
     subst hx;have:=ih 0 (fun i hi=>absurd (h (i+1) (by simpa using hi)) (by omega));simp at this ⊢;omega
    |succ m=>
     have:=ih m (fun i hi=>by have:=h (i+1) (by simpa using hi);omega);cases x<;>simp<;>omega
  have:=key listed.toList outs.length (fun i hi=>hp i (by
   rw[Array.getElem?_toList]at hi;simp[Array.getD_eq_getD_getElem?,hi]))
  simpa [hs] using this
 intro cF
 induction cF with
 |zero=>
  intro listed a w s hf;by_cases hall:∀i,i<outs.length→listed.getD i false=true
  ·exact hfin 0 listed a w s hall (Nat.le_trans (hun listed s.sz s.pre) hf)
  ·exfalso;simp only[Classical.not_forall]at hall;obtain⟨i,hi,hni⟩:=hall;have hi':i<listed.size:=by rw[s.sz];omega
   have:=aGQ (l:=listed) (i:=i) (by simpa using hni) hi';omega
 |succ cF ih=>
  intro listed a w s hf;by_cases hall:∀i,i<outs.length→listed.getD i false=true
  ·exact hfin _ listed a w s hall (Nat.le_trans (hun listed s.sz s.pre) hf)
  ·simp only[Classical.not_forall]at hall;obtain⟨i0,hi0,hni0⟩:=hall;have hni0':listed.getD i0 false=false:=by simpa using hni0
   obtain⟨j0,hj0,hr0⟩:=aBu s.sz hb (i:=i0) (by omega) hni0';refine⟨fun hnil=>(by rw[hnil]at hr0;cases hr0),fun i hi=>?_⟩;obtain⟨hu,hil,o,ho,hdeps⟩:=aBh hi (by simpa using s.sz);simp only[List.size_toArray]at hil;simp only[List.getElem?_toArray]at ho;have hdeps':∀U,l[i]?=some U→∀e∈U.after.toList,sV e=true→listed.getD e.on false=true:=by
    intro U V;rw[ho]at V;rw[←Option.some.inj V];exact hdeps
   have him:i<outs.length:=by
    rcases Nat.lt_or_ge i outs.length with h|h
    ·exact h
    ·exfalso;have hbit:=aCl ht (i-outs.length) (by omega) i0 (by omega);rw[show outs.length+(i-outs.length)=i by omega]at hbit;have:=wZ (L:=fun i=>listed.getD i false=true) hm hb i i0 hbit (fun U V=>hdeps' U V) s.clo;rw[hni0']at this;cases this
   obtain⟨o2,K,hdN,hop⟩:=aDT.at hops i outs[i] (List.getElem?_eq_getElem him);rw[ho]at K;have hoo:o=o2:=Option.some.inj K;subst hoo;rw[Nat.zero_add]at hop;obtain⟨M,bs,ord,G,h1,hnd,ho1,K,h2,h3,h4,h5⟩:=s.st;have hdN':∀d,o.dst=some d→d<S.N:=fun d hod=>by rw[hod]at hdN;simpa using hdN
   have hin:∀{L:List Nat},kF ms hv i L=true→wP hv listed∈L:=by
    intro L J;have h1:=aIW J (aH3 listed hv);have h2:aMv ms hv i (wP hv listed)=true:=by
     unfold aMv;refine aEe fun j I=>?_
     rw[aFR I];have c1:(!(ms.getD i 0).testBit j||listed.getD j false)=true:=by
      cases hbq:(ms.getD i 0).testBit j with
      |false=>rfl
      |true=>rw[wZ (L:=fun i=>listed.getD i false=true) hm hb i j hbq (fun U V=>hdeps' U V) s.clo];rfl
     have c2:(!(Nat.beq j i||(ms.getD j 0).testBit i)||!listed.getD j false)=true:=by
      cases hj':listed.getD j false with
      |false=>simp
      |true=>
       have hji:Nat.beq j i=false:=by
        cases hbq:Nat.beq j i with
        |false=>rfl
        |true=>have:=Nat.eq_of_beq_eq_true hbq;subst this;rw[hu]at hj';cases hj'
       have hbt:(ms.getD j 0).testBit i=false:=by
        cases hbq:(ms.getD j 0).testBit i with
        |false=>rfl
        |true=>
         have:=wZ (L:=fun i=>listed.getD i false=true) hm hb j i hbq (fun o'' ho'' e he hbe=>s.clo.h j o'' ho'' hj' e he hbe) s.clo;rw[hu]at this;cases this
       rw[hji,hbt];rfl
     have c3:(!listed.getD j false||aFt (fun k=>!(ms.getD j 0).testBit k||exM hv (wP hv listed) k) hv)=true:=by
      cases hj':listed.getD j false with
      |false=>rfl
      |true=>
       show aFt _ hv=true;refine aEe fun k O=>?_
       rw[aFR O];cases hbq:(ms.getD j 0).testBit k with
       |false=>rfl
       |true=>rw[wZ (L:=fun i=>listed.getD i false=true) hm hb j k hbq (fun o'' ho'' e he hbe=>s.clo.h j o'' ho'' hj' e he hbe) s.clo];rfl
     rw[c1,c2,c3];rfl
    rw[h2]at h1;exact aE3 h1
   have hgetset:∀j,(listed.setIfInBounds i true).getD j false=if j=i then true else listed.getD j false:=by
    intro j;simp only[Array.getD_eq_getD_getElem?,Array.getElem?_setIfInBounds];by_cases e:i=j
    ·subst e;simp[s.sz,hil]
    ·rw[if_neg e,if_neg (fun h=>e h.symm)]
   have hK:∀(v:Value) (M':iE) (w':World) (bs':Nat→Nat) (ord':List Nat) (G':Gh),l5 M M'→(∀j,j≠i→bs' j=bs j)→(∀j,j≠i→G' j=G j)→St S M' w' (Hs G' (wP hv (listed.setIfInBounds i true))++ord'.map (aAD outs bs'))→ord'.Nodup→(∀(j T:Nat) (zs:List CP),outs[j]?=some (.a T zs)→(listed.setIfInBounds i true).getD j false=true→j∈ord')→(∀j∈ord',(listed.setIfInBounds i true).getD j false=true)→
     ((outs[i]).vp bs' G' i).h M' v→wpAnyIn S.F 0 S.P .any l.toArray (κ.den S.F S.P) cF (listed.setIfInBounds i true) (a.put o.dst v) w':=by
    intro v M' w' bs' ord' G' hm hbs hGs hst hnd' ho1' ho2' hval;have hvp:∀(j:Nat) (q:Ou),j≠i→q.vp bs' G' j=q.vp bs G j:=by
     intro j q I;cases q with
     |v p=>rfl
     |a T zs=>simp only[Ou.vp,hbs j I]
     |g f=>simp only[Ou.vp,hGs j I]
    refine ih _ _ _ ⟨by simpa using s.sz,⟨fun k U O J e he hbe=>?_⟩,fun k O=>?_,M',bs',ord',G',hst,hnd',ho1',ho2',by cases hod:o.dst<;>simp[Act.put,h2],by cases hod:o.dst<;>exact h3.mono hm,fun k out U d' hout O hd' J=>?_,fun d' p hl hno=>?_⟩ ?_
    ·rw[hgetset]at J ⊢;by_cases e1:e.on=i
     ·simp[e1]
     ·rw[if_neg e1];by_cases e2:k=i
      ·subst e2;exact hdeps' U O e he hbe
      ·rw[if_neg e2]at J;exact s.clo.h k U O J e he hbe
    ·rw[hgetset]at O;by_cases e2:k=i
     ·subst e2;exact him
     ·rw[if_neg e2]at O;exact s.pre k O
    ·by_cases e2:k=i
     ·subst e2;rw[ho]at O;cases Option.some.inj O;rw[List.getElem?_eq_getElem him]at hout;cases Option.some.inj hout;rw[hd'];exact⟨v,by simp[Act.put,h2,hdN' d' hd'],hval⟩
     ·rw[hgetset,if_neg e2]at J;obtain⟨u,hu',hp⟩:=h4 k out U d' hout O hd' J;refine⟨u,?_,by rw[hvp k out e2];exact VP.mono hm hp⟩;cases hod:o.dst with
      |none=>exact hu'
      |some d=>
       have hne:d≠d':=fun e=>e2 (aEd hq O ho (e▸hd') hod)
       simp[Act.put,Array.getElem?_setIfInBounds_ne hne,hu']
    ·obtain⟨u,hu',hp⟩:=h5 d' p hl fun k U O hd'=>by
      have:=hno k U O hd';rw[hgetset]at this;by_cases e2:k=i
      ·rw[if_pos e2]at this;cases this
      ·rwa [if_neg e2]at this
     refine⟨u,?_,VP.mono hm hp⟩;cases hod:o.dst with
     |none=>exact hu'
     |some d=>
      have hne:d≠d':=fun e=>by
       have:=hno i o ho (e▸hod);rw[hgetset,if_pos rfl]at this;cases this
      simp[Act.put,Array.getElem?_setIfInBounds_ne hne,hu']
    ·have:=aGQ (l:=listed) (i:=i) hu (by rw[s.sz];exact hil);omega
   have hoi:outs[i]?=some outs[i]:=List.getElem?_eq_getElem him;have hse:wP hv (listed.setIfInBounds i true)=wP hv listed+aCp hv i:=aGW hu hgetset hvn;have hsl:hv.contains i=false→wP hv (listed.setIfInBounds i true)=wP hv listed:=fun hc=>by rw[hse,aEP hc];rfl
   have hKv:∀p,outs[i]=.v p→hv.contains i=false→∀v M' w',l5 M M'→St S M' w' (Hs G (wP hv listed)++ord.map (aAD outs bs))→p.h M' v→wpAnyIn S.F 0 S.P .any l.toArray (κ.den S.F S.P) cF (listed.setIfInBounds i true) (a.put o.dst v) w':=by
    intro p hp hc v M' w' hm hst hval;refine hK v M' w' bs ord G hm (fun _ _=>rfl) (fun _ _=>rfl) (by rw[hsl hc];exact hst) hnd (fun j T zs I J=>?_) (fun j I=>?_) (by rw[hp];exact hval)
    ·rw[hgetset]at J;by_cases e:j=i
     ·subst e;rw[hoi,hp]at I;cases I
     ·rw[if_neg e]at J;exact ho1 j T zs I J
    ·rw[hgetset];by_cases e:j=i
     ·simp[e]
     ·rw[if_neg e];exact K j I
   unfold wpOpIn;simp only[List.getElem?_toArray,ho];generalize hout:outs[i]=out at hop hKv hK;cases hop with
   |run t hs hg e1 e3=>
    rw[if_pos (by simp[Region.wanted,hg])];exact((t.at (wP hv listed) (hin e1) G _).run M w a h1 (s.ins hm hb hq hu hdeps' h4 h5 (hs G)) _ _ (hKv _ rfl e3))
   |runG t hs hg hdd hl e1 e3=>
    rw[if_pos (by simp[Region.wanted,hg,s.yields hm hb hq hu hdeps' h4 h5 hdd (hl G)])];exact((t.at (wP hv listed) (hin e1) G _).run M w a h1 (s.ins hm hb hq hu hdeps' h4 h5 (hs G)) _ _ (hKv _ rfl e3))
   |skip hg hdd hl hbb e3=>
    rw[if_neg (by simp[Region.wanted,hg,s.yields hm hb hq hu hdeps' h4 h5 hdd (hl G)];simpa using hbb)];exact⟨fun _ _=>trivial,hKv _ rfl e3 undef M w (l5.refl M) h1 trivial⟩
   |skipN hg hdd hl hbb e3=>
    rw[if_neg (by simp[Region.wanted,hg,s.yields hm hb hq hu hdeps' h4 h5 hdd (hl G)];simpa using hbb)];exact⟨fun _ _=>trivial,hKv _ rfl e3 undef M w (l5.refl M) h1 rfl⟩
   |skipU hg hdd hl e3=>
    rw[if_neg (by simp[Region.wanted,hg,s.yieldsU hm hb hq hu hdeps' h4 h5 hdd (hl G)])];exact⟨fun _ _=>trivial,hKv _ rfl e3 undef M w (l5.refl M) h1 rfl⟩
   |@hvy out ins L t hs hg e1 e3=>
    rw[if_pos (by simp[Region.wanted,hg])];refine((t.at (wP hv listed) (hin e1) G _).run M w a h1 (s.ins hm hb hq hu hdeps' h4 h5 (hs G)) _ _ fun v M' w' b c hm hst hval=>?_);refine hK v M' w' bs ord (G.set i (b,c)) hm (fun _ _=>rfl) (fun j I=>?_) (by rw[hse];exact hst) hnd (fun j T zs I J=>?_) (fun j I=>?_) ?_
    ·unfold Gh.set;cases hbq:Nat.beq j i with
     |false=>rfl
     |true=>exact absurd (Nat.eq_of_beq_eq_true hbq) I
    ·rw[hgetset]at J;by_cases e:j=i
     ·subst e;rw[hoi,hout]at I;cases I
     ·rw[if_neg e]at J;exact ho1 j T zs I J
    ·rw[hgetset];by_cases e:j=i
     ·simp[e]
     ·rw[if_neg e];exact K j I
    ·simp only[Ou.vp,Gh.set,Nat.beq_refl,cond_true];exact hval
   |@alc T zs hz hop hg e3=>
    rw[if_pos (by simp[Region.wanted,hg])];obtain⟨ii,z,hi',hzz,hsz,hall'⟩:=hz.z;have hnot:i∉ord:=fun hm=>by have:=K i hm;rw[hu]at this;cases this
    refine(bR (v:=.pointer (some ⟨w.heap.size,0,none⟩)) (w':=w.alloc (.cells z.cells T)) (by simp[execOp,hop,Instr.alloc,zeroValue,typeInfo,hi',hzz,xG]) ?_);have hsame:∀bs',(∀j,j≠i→bs' j=bs j)→ord.map (aAD outs bs')=ord.map (aAD outs bs):=by
     intro bs' hbs;apply List.map_congr_left;intro j I;have hji:j≠i:=fun e=>hnot (e▸I)
     unfold aAD;rw[hbs j hji]
    have hbs':∀j,j≠i→(fun j=>if j=i then w.heap.size else bs j) j=bs j:=fun j I=>by simp[I]
    have hst:=aBG (T:=T) h1 (hall' M);refine hK _ M _ (fun j=>if j=i then w.heap.size else bs j) (ord++[i]) G (l5.refl M) hbs' (fun _ _=>rfl) ?_ ?_ (fun j T' zs' I J=>?_) (fun j I=>?_) ⟨_,by simp,rfl⟩
    ·rw[hsl e3,List.map_append,hsame _ hbs'];have he:aAD outs (fun j=>if j=i then w.heap.size else bs j) i=⟨some w.heap.size,1,T,zs.length,1,zs⟩:=by
      simp[aAD,hoi,hout]
     simp only[List.map_cons,List.map_nil,he];refine hst.sub (fun e he=>?_) ?_
     ·simp only[List.mem_append,List.mem_cons,List.not_mem_nil,or_false]at he ⊢;rcases he with h|h|h
      ·exact .inr (.inl h)
      ·exact .inr (.inr h)
      ·exact .inl h
     ·have hn:=hst.nodup;rw[List.filterMap_cons_some (f:=HA.β) (b:=w.heap.size) rfl]at hn;have hn2:=List.nodup_cons.1 hn;rw[←List.append_assoc,List.filterMap_append];refine List.nodup_append.2 ⟨hn2.2,by simp,fun x hx y hy hxy=>?_⟩;simp at hy;subst hy;exact hn2.1 (hxy▸hx)
    ·refine List.nodup_append.2 ⟨hnd,by simp,fun x hx y hy hxy=>?_⟩;simp at hy;subst hy;exact hnot (hxy▸hx)
    ·rw[hgetset]at J;by_cases e:j=i
     ·simp[e]
     ·rw[if_neg e]at J;simp[ho1 j T' zs' I J]
    ·rw[hgetset];by_cases e:j=i
     ·simp[e]
     ·rw[if_neg e];rcases List.mem_append.1 I with I|I
      ·exact K j I
      ·simp at I;exact absurd I e
theorem aHm(n i:Nat):(Array.replicate n false).getD i false=false:=by
 simp only[Array.getD_eq_getD_getElem?,Array.getElem?_replicate];split<;>rfl
theorem aKr(n:Nat):unl (Array.replicate n false)≤n:=by
 have e:unl (Array.replicate n false)≤(Array.replicate n false).toList.length:=List.length_filter_le _ _;simpa using e
theorem p9{id:Nat}{l:List Oper}{H:List HA}(Hs:Gh→Nat→List HA)(hv:List Nat)(ms:List Nat)(m n:Nat)(outs:List Ou)(hmix:S.P.follows .mixedOrders=true)(hops:aDT S Hs hv l ms E outs 0 l outs)(k:∀bs G,WL S l.toArray κ (l.drop outs.length) (aAJ bs 0 outs++Hs G (2^hv.length-1)) (aAT bs G 0 l outs++E))
  (x:Hs (fun _=>(none,0)) 0=H:=by rfl)(hhv:hv.all (Nat.blt · outs.length)=true:=by rfl)(hvn:hv.Nodup:=by decide)(hm:zL ms l ms=true:=by kernel_rfl)(hb:tN l 0=true:=by kernel_rfl)(h:xL l=true:=by kernel_rfl)(q:Nat.beq outs.length m=true:=by kernel_rfl)(s:Nat.beq l.length (m+n)=true:=by kernel_rfl)(t:zV l ms m n=true:=by kernel_rfl):WC S (.region id l.toArray true) κ H E:=by
 have y:=Nat.eq_of_beq_eq_true q;have I:=Nat.eq_of_beq_eq_true s;have hle:outs.length≤l.length:=by omega
 have t:zV l ms outs.length (l.length-outs.length)=true:=by
  rw[y,show l.length-m=n by omega];exact t
 rintro a w ⟨M,z,u⟩;have f:∀i,(Array.replicate l.toArray.size false).getD i false=true→False:=fun i e=>by rw[aHm]at e;cases e
 have hst:wP hv (Array.replicate l.toArray.size false)=0:=by
  refine aEN fun j _=>?_
  cases h:(Array.replicate l.toArray.size false).getD j false
  ·rfl
  ·exact(f j h).elim
 refine wpIn_region_any hmix (aIe hm hb h hle hops t hhv hvn k _ _ a _ ⟨by simp,⟨fun i o _ e=>(f i e).elim⟩,fun i e=>(f i e).elim,M,fun _=>0,[],fun _=>(none,0),?_,by simp,fun i T zs _ e=>(f i e).elim,by simp,u.size,u.defers,fun i out o d _ _ _ e=>(f i e).elim,fun d p F _=>u.get d p F⟩ (aKr _));rw[hst,x,show([]:List Nat).map (aAD outs fun _=>0)=[] from rfl,List.append_nil];exact z.same rfl rfl rfl rfl
theorem gJ{id:Nat}{l:List Oper}{H:List HA}(ms:List Nat)(m n:Nat)(outs:List Ou)(hmix:S.P.follows .mixedOrders=true)(hops:aDT S (fun _ _=>H) [] l ms E outs 0 l outs)(k:∀bs G,WL S l.toArray κ (l.drop outs.length) (aAJ bs 0 outs++H) (aAT bs G 0 l outs++E))
  (hm:zL ms l ms=true:=by kernel_rfl)(hb:tN l 0=true:=by kernel_rfl)(h:xL l=true:=by kernel_rfl)(e:Nat.beq outs.length m=true:=by kernel_rfl)(f:Nat.beq l.length (m+n)=true:=by kernel_rfl)(j:zV l ms m n=true:=by kernel_rfl):WC S (.region id l.toArray true) κ H E:=
 p9 (fun _ _=>H) [] ms m n outs hmix hops k rfl rfl List.nodup_nil hm hb h e f j
end
theorem f8{α:Type}{a b:α}(h:some a=some b):a=b:=Option.some.inj h
theorem sm2{α β:Type}{a e:α}{b b':β}(h:some (a,b)=some (e,b')):a=e∧b=b':=by cases h;exact⟨rfl,rfl⟩
theorem sm3{α β γ:Type}{a e:α}{b b':β}{c c':γ}(h:some (a,b,c)=some (e,b',c')):a=e∧b=b'∧c=c':=by cases h;exact⟨rfl,rfl,rfl⟩
theorem sm4{α β γ δ:Type}{a e:α}{b b':β}{c c':γ}{d f:δ}(h:some (a,b,c,d)=some (e,b',c',f)):a=e∧b=b'∧c=c'∧d=f:=by cases h;exact⟨rfl,rfl,rfl,rfl⟩
inductive LR (R S:Type)
 |ret (r:R)
 |go (s:S)
section
variable {S:Sx} {κ:Kt} {H H':List HA} {E:nV} {ops:Array Oper} {rest:List Oper} {o:Oper}
theorem aFu{P:Program}{f:Nat}{pre:List VP}{α:Type}{C:Cd α}{T:Nat}{r:List α}(h:xD P f [] pre (fun Ho q=>∃β c n,r.length=n∧Ho=[hO C β c T n r]∧q=.vc (pO β n c))):Ct P f pre (.vc (pS C r)):=by
 refine⟨h.ok,fun M w args t u y z=>(h.run M w args t u y z).mono fun e w' hr=>?_⟩;obtain⟨v,M',Ho,q,⟨β,c,n,k,rfl,rfl⟩,rfl,hst,F⟩:=hr;obtain⟨M2,g1,s,G⟩:=hst.frzv (i:=0) rfl k;rcases F with hv|⟨_,I,_,L,rfl⟩
 ·subst hv;exact⟨_,M2,[],_,⟨rfl,rfl⟩,rfl,s,G⟩
 ·have J:r=[]:=List.eq_nil_of_length_eq_zero (k.trans I);subst J;exact⟨_,M2,[],_,⟨rfl,rfl⟩,rfl,s,_,_,rfl,by simp,by simp,fun j x K=>by simp at K⟩
theorem iR{c:Code}{a:Act}{w:World}(h:WC S c κ H E)(hh:hs S H E a w):c.wpIn S.F 0 S.P (κ.den S.F S.P) a w:=h a w hh
theorem xZ{t:Nat}{b:Bool}{x y:Code}(e:iQ E t=some (.vc (pB b)))(f:b=true→WC S x κ H E)(j:b=false→WC S y κ H E):WC S (.cond (.tmp t) x y) κ H E:=
 aMq e (fun _ _ h=>h) f j
theorem rK{t:Nat}{x y:Code}(e:iQ E t=some (.vc (pB true)))(f:WC S x κ H E):WC S (.cond (.tmp t) x y) κ H E:=
 xZ e (fun _=>f) (fun h=>by cases h)
theorem r9{t:Nat}{x y:Code}(e:iQ E t=some (.vc (pB false)))(f:WC S y κ H E):WC S (.cond (.tmp t) x y) κ H E:=
 xZ e (fun h=>by cases h) (fun _=>f)
theorem iN{t:Nat}{x:Operand}{off:Nat}{β:Option Nat}{e:HA}{out:VP}{qs:List CP}(i k:Nat)(f:o.op=.load t x)(h:H[i]?=some e)(hβ:e.β=β)(j:pW k (e.ps.drop off)=some qs)(q:Tk S.P t qs out):
  Tr S o H H [(x,.vc (pP β off))] out:=by
 obtain⟨s,u⟩:=wL j;exact aNI f h hβ (by rw[u];exact s) q
theorem vF{t:Nat}{x:Operand}{ps qs:List CP}{out:VP}(k:Nat)(e:o.op=.load t x)(f:pW k ps=some qs)(h:Tk S.P t qs out):
  Tr S o H H [(x,.vc (pM ps))] out:=by
 obtain⟨j,q⟩:=wL f;exact aNp e (by rw[q];exact j) h
theorem xY{t:Nat}{x y:Operand}{off:Nat}{β:Option Nat}{e:HA}{p:VP}{ps:List CP}{k:Nat}(i:Nat)(f:o.op=.store t x y)(h:H[i]?=some e)(hβ:e.β=β)(hs:(S.P.info? t).map (·.size)=some k)(hp:p.flat:=by exact trivial)(j:p.cells.length=k:=by rfl)(q:tM e.ps off p.cells=some ps:=by rfl)(hH:vC H i ⟨e.β,e.c,e.T,e.sz,e.n,ps⟩=some H':=by rfl):
  Tr S o H H' [(x,.vc (pP β off)),(y,p)] .any:=by
 obtain⟨s,u⟩:=w8 q;rw[zC hH,s];exact aNs f h hβ hp (by rw[j];exact hs) u
theorem gN{ins:List (Operand×VP)}{b v:Bool}(t:Tr S o H H' ins (.vc (pB b)))(h:b=v):Tr S o H H' ins (.vc (pB v)):=h▸t
theorem tS{α:Type}(C:Cd α)(T:Nat){d:Nat}(e:o.op=.assign (.const (.slice none 0 0)))(k:WL S ops κ rest (hO C none 0 T 0 ([]:List α)::H) ((d,.vc (pO none 0 0))::E))
  (f:o.dst=some d:=by rfl)(h:o.guard=none:=by rfl)(j:Nat.blt d S.N=true:=by rfl):WL S ops κ (o::rest) H E:=by
 rintro a w ⟨M,q,s⟩;refine wpListIn_plain h fun K t=>bR (v:=.slice none 0 0) (w':=w) (by simp[execOp,e,Act.eval]) (t _ _ (k _ _ ⟨M,?_,?_⟩))
 ·exact q.new_row (s9 w none) ⟨⟨[],World.ownsRow_nil w 0 T C.n,trivial⟩,fun b hb=>by cases hb⟩ (fun b hb=>by cases hb)
 ·rw[f];exact s.put j (.inl rfl)
theorem bS{P:Program}{fn:Func}{w0:World}{M0:iE}{B:List Nat}{post:VP}{N:NX}{e:Exit}{rs:List ResultVar}{ps:List VP}(he:e=.ret∨e=.normal)(hrs:fn.results=rs.toArray)(hv:RVs ⟨P,w0,M0,B,N⟩ H E rs ps)(f:Nat.ble ps.length 4=true)
  (hpost:aFC ps=post)(hfr:∀D,N.fr D→w0.heap.size≤D∧M0 D=none:=by exact fun _ h=>h):WX ⟨P,w0,M0,B,N⟩ e (.base (aCK P fn (Rp P w0 M0 B (fun Ho q=>Ho=[]∧q=post)))) H E:=
 oL he hrs hv f [] rfl (by simp) ⟨rfl,hpost⟩ hfr
theorem tE{t T off:Nat}{β:Option Nat}{e:HA}{p:VP}{qs:List CP}{rs:List ResultVar}{ps:List VP}(i k:Nat)(h:iQ E t=some (.vc (pP β off)))(f:H[i]?=some e)(hβ:e.β=β)(j:pW k (e.ps.drop off)=some qs)(q:Tk S.P T qs p)(kk:RVs S H E rs ps):RVs S H E (.cell t T::rs) (p::ps):=by
 obtain⟨s,u⟩:=wL j;exact .cell h f hβ (by rw[u];exact s) q kk
theorem aCi{α:Type}{C:Cd α}{xs:List α}{β:Option Nat}{c T n i:Nat}{a:Act}{w:World}(e:H[i]?=some (hO C β c T n xs))(hh:hs S H E a w):n≤xM:=by
 obtain⟨M,f,_⟩:=hh;have:=aGJ f e;simpa [maxLen,xM] using this
def aEk(E:nV)(p:VP):List Nat→Prop
 |[]=>True
 |d::ds=>iQ E d=some p∧aEk E p ds
theorem aEk.mem{E:nV}{p:VP}:∀{ds:List Nat},aEk E p ds→∀d∈ds,iQ E d=some p
 |[],_,d,h=>by simp at h
 |x::ds,e,d,h=>by
  rcases List.mem_cons.1 h with rfl|h
  ·exact e.1
  ·exact aEk.mem e.2 d h
theorem cK{x d:Nat}{p:VP}(k:WL S ops κ rest H ((d,p)::E))(e:o.op=.move (.tmp x):=by rfl)(f:iQ E x=some p:=by rfl)(h:o.dst=some d:=by rfl)(j:o.guard=none:=by rfl)(q:Nat.blt d S.N=true:=by rfl):WL S ops κ (o::rest) H E:=
 aE (aK (.inl e)) ⟨f,trivial⟩ k h j q
theorem kL{x d:Nat}{p:VP}(k:WL S ops κ rest H ((d,p)::E))(e:o.op=.assign (.tmp x):=by rfl)(f:iQ E x=some p:=by rfl)(h:o.dst=some d:=by rfl)(j:o.guard=none:=by rfl)(q:Nat.blt d S.N=true:=by rfl):WL S ops κ (o::rest) H E:=
 aE (aK (.inr e)) ⟨f,trivial⟩ k h j q
theorem xI{α:Type}{C:Cd α}{xs:List α}{β:Option Nat}{c T n:Nat}(i:Nat)(ds:List Nat)(e:H[i]?=some (hO C β c T n xs))(f:xs.length=n)(hds:aEk E (.vc (pO β n c)) ds)(h:xO H i=some H')(k:WL S ops κ rest H' (ds.map (fun d=>(d,VP.vc (pS C xs)))++E)):WL S ops κ rest H E:=
 fun a w hh=>k a w (aCd e f (f▸aCi e hh) hds.mem h hh)
theorem z4{α:Type}{C:Cd α}{xs:List α}{β:Option Nat}{c T n:Nat}{e:Exit}(i:Nat)(ds:List Nat)(f:H[i]?=some (hO C β c T n xs))(h:xs.length=n)(hds:aEk E (.vc (pO β n c)) ds)(j:xO H i=some H')(k:WX S e κ H' (ds.map (fun d=>(d,VP.vc (pS C xs)))++E)):WX S e κ H E:=
 fun a w hh=>k a w (aCd f h (h▸aCi f hh) hds.mem j hh)
theorem aGN{α:Type}{C:Cd α}{xs:List α}{β:Option Nat}{c T n:Nat}(i k off:Nat){eb:HA}{ps':List CP}{H1 e:List HA}(f:H[i]?=some (hO C β c T n xs))(h:xs.length=n)(j:H[k]?=some eb)(hp:eb.ps[off]?=some (pO β n c))(hps:tM eb.ps off [pS C xs]=some ps')(q:vC H k ⟨eb.β,eb.c,eb.T,eb.sz,eb.n,ps'⟩=some H1)(s:xO H1 i=some e)(kk:WL S ops κ rest e E)(hne:Nat.beq i k=false:=by rfl):WL S ops κ rest H E:=
 fun a w hh=>kk a w (aH5 i k off f h (h▸aCi f hh) j hne hp hps q s hh)
theorem bM{c:Code}{id:Nat}(PJ:List HA→nV→Prop)(e:∀H E,PJ H E→WX S .normal κ H E)(k:(∀H E,PJ H E→WX S .normal κ H E)→WC S c (.blk id κ) H E):WC S c (.blk id κ) H E:=k e
theorem vQ{c y:Code}(PJ:List HA→nV→Prop)(e:∀H E,PJ H E→WC S y κ H E)(k:(∀H E,PJ H E→WX S .normal (.seq y κ) H E)→WC S c (.seq y κ) H E):WC S c (.seq y κ) H E:=k fun H E h=>aC (e H E h)
theorem aA7{PJ:List HA→nV→Prop}{H':List HA}{E':nV}(J:∀H E,PJ H E→WX S .normal κ H E)(h:PJ H' E')(l:List Nat)(hp:dS H l=some H')(e:aB6 E E')(f:l.Nodup:=by decide):WX S .normal κ H E:=
 aMb l hp f e (J H' E' h)
theorem iO{body:Code}(I:Nat→Act→World→Prop)(k:Nat)(e:∀a w,¬I 0 a w)(step:∀k a w,I (k+1) a w→body.wpIn S.F 0 S.P ((Kt.lp (I k) κ).den S.F S.P) a w)(f:∀a w,hs S H E a w→I k a w):WC S (.loop body) κ H E:=
 fun a w hh=>aMg I e step k a w (f a w hh)
end
section
variable {S:Sx} {κ:Kt} {H H':List HA} {E:nV} {ops:Array Oper} {rest:List Oper} {o:Oper}
def aI2(E:nV)(b:Nat):List (Nat×Nat)→Prop
 |[]=>True
 |x::ds=>iQ E x.1=some (.vc (pP (some b) x.2))∧aI2 E b ds
def aHx(ps:List CP):List (Nat×Nat)→nV
 |[]=>[]
 |x::ds=>(x.1,.vc (pM (ps.drop x.2)))::aHx ps ds
theorem aGE{i b T sz:Nat}{ps:List CP}{ds:List (Nat×Nat)}(y:H[i]?=some ⟨some b,1,T,sz,1,ps⟩)(hds:aI2 E b ds){a:Act}{w:World}(h:hs S H E a w):
  hs S (H.eraseIdx i) (aHx ps ds++E) a w:=by
 obtain⟨M,z,q⟩:=h;obtain⟨hle,hst⟩:=z.freeze y (fun _ _=>.inr trivial);obtain⟨⟨vs,how,hall⟩,_⟩:=z.own _ (List.mem_of_getElem? y);have hcell:vU (frz M w (some b)) b 0 ps:=by
  rcases how.2 with⟨s,G⟩|⟨g,cap,cur,s,_,I,hnc,_,hsz,htake⟩
  ·simp at G
  ·simp only[sv,Option.map_some,Value.slice.injEq,Option.some.injEq,Addr.mk.injEq,and_true,true_and]at s;obtain⟨rfl,rfl⟩:=s;refine⟨vs,bC.mono hle hall,fun t u J=>?_⟩;have hM:frz M w (some b) b=some (.cells cur T (0,0)):=by simp[frz,I]
   simp only[sY,hM,Nat.zero_add];have f:(cur.toList.take (1*sz))[t]?=some u:=by rw[htake];exact J
   rw[List.getElem?_take]at f;split at f
   ·simpa using f
   ·cases f
 refine⟨_,hst,q.size,q.defers.mono hle,fun x p j=>?_⟩;have key:∀ds:List (Nat×Nat),aI2 E b ds→iQ (aHx ps ds++E) x=some p→∃v,a.tmps[x]?=some v∧p.h (frz M w (some b)) v:=by
  intro ds
  induction ds with
  |nil=>intro _ j;exact(q.mono hle).get x p j
  |cons d ds ih=>
   intro F j;simp only[aHx,List.cons_append,iQ]at j;by_cases e:d.1=x
   ·subst e;simp only[Nat.beq_refl,cond_true,Option.some.injEq]at j;subst j;obtain⟨v,hv,b',k,hp⟩:=q.get d.1 _ F.1;simp only[Option.some.injEq]at k;subst k;refine⟨v,hv,b,d.2,hp,?_⟩;have:=hcell.drop d.2
    rwa [Nat.zero_add]at this
   ·rw[vW e]at j;exact ih F.2 j
 exact key ds hds j
theorem aAG{b T sz:Nat}{ps:List CP}(i:Nat)(ds:List (Nat×Nat))(e:H[i]?=some ⟨some b,1,T,sz,1,ps⟩)(hds:aI2 E b ds)(f:xO H i=some H')(k:WL S ops κ rest H' (aHx ps ds++E)):WL S ops κ rest H E:=
 fun a w hh=>k a w (vO f▸aGE e hds hh)
def zW(P:Program){α ρ:Type}(pre:α→List VP)(post:ρ→VP)(φ:α→Option ρ):CP:=
 ⟨fun M v=>v.oneCell'=true∧∀x r,φ x=some r→∃f cs,(pF f cs).h M v∧Ct P f (pre x++cs.map .vc) (post r),
  fun hm h=>⟨h.1,fun x r hr=>let ⟨f,cs,e,j⟩:=h.2 x r hr;⟨f,cs,(pF f cs).monoc hm e,j⟩⟩,fun h=>h.1⟩
theorem aBT{α ρ:Type}{pre:α→List VP}{post:ρ→VP}{φ:α→Option ρ}{f:Nat}{xs:List Operand}{cs:List CP}(e:o.op=.makeFunc (.func f) #[] xs.toArray)(j:xs.length=cs.length)(h:∀x r,φ x=some r→Ct S.P f (pre x++cs.map .vc) (post r)):
  Tr S o H H (xs.zip (cs.map .vc)) (.vc (zW S.P pre post φ)):=
 ⟨fun M w a hs hin K Q k=>(aKs e j).run M w a hs hin K Q fun v M' w' hm hst hv=>k v M' w' hm hst ⟨(pF f cs).one hv,fun x r hr=>⟨f,cs,hv,h x r hr⟩⟩⟩
theorem uJ{α ρ:Type}{pre:α→List VP}{post:ρ→VP}{φ:α→Option ρ}{xs:List Operand}{y:Operand}{ts:Array TypeId}{x:α}{r:ρ}(e:o.op=.call {callee:=.value y,args:=xs.toArray,argTypes:=ts})(h:φ x=some r)(j:xs.length=(pre x).length):
  Tr S o H H ((y,.vc (zW S.P pre post φ))::xs.zip (pre x)) (post r):=
 ⟨fun M w a hs hin K Q k=>by
  obtain⟨f,cs,q,s⟩:=hin.1.2 x r h;exact(aAx (cs:=cs) e s j).run M w a hs ⟨q,hin.2⟩ K Q k⟩
theorem aBd{α:Type}(C:Cd α)(T:Nat)(k:WL S ops κ rest (hO C none 0 T 0 ([]:List α)::H) E):WL S ops κ rest H E:=by
 rintro a w ⟨M,e,f⟩;exact k a w ⟨M,e.new_row (s9 w none) ⟨⟨[],World.ownsRow_nil w 0 T C.n,trivial⟩,fun b hb=>by cases hb⟩ (fun b hb=>by cases hb),f⟩
theorem aGd{α:Type}{C:Cd α}{xs:List α}{T T' e d:Nat}{x:Operand}(t:o.op=.binOp .eql T x (.const (.slice none 0 0)) T')(u:S.P.underlying T=some (.slice e))(y:aBO E x (.vc (pS C xs)))
  (kt:xs=[]→WL S ops κ rest H ((d,.vc (pB true))::E))(kf:WL S ops κ rest H ((d,.vc (pB false))::E))
  (F:o.dst=some d:=by rfl)(G:o.guard=none:=by rfl)(q:Nat.blt d S.N=true:=by rfl):WL S ops κ (o::rest) H E:=by
 rintro a w ⟨M,s,f⟩;obtain⟨p,c,hv,_,_,hall⟩:=(tH.ins (l:=[(x,.vc (pS C xs))]) f ⟨y,trivial⟩).1;have hrun:(execOp a.eval o).run S.P w=.ok (.value (.bool p.isNone)) w:=by
  have I:=run_equalIn_slice_nil (P:=S.P) (w:=w) 9999 T e p xs.length c u;have h:(eqGuard .eql T x (.const (.slice none 0 0)) (.slice p xs.length c) (.slice none 0 0)).run S.P w=.ok () w:=by
   unfold eqGuard;split<;>rfl
  have hb:(binOp .eql T (.slice p xs.length c) (.slice none 0 0)).run S.P w=.ok (.bool p.isNone) w:=by
   simp only[binOp,Sem.run_bind,Op.equal];rw[show Op.maxDepth=9999+1 from rfl,I];simp
  have j:a.eval x=.slice p xs.length c:=hv;have k:a.eval (.const (.slice none 0 0))=.slice none 0 0:=rfl;simp[execOp,t,j,k,h,hb]
 refine wpListIn_plain G fun K J=>bR hrun (J _ _ ?_)
 rw[F];cases p with
 |none=>
  refine kt ?_ _ _ ⟨M,s,f.put q rfl⟩;cases xs with
  |nil=>rfl
  |cons z zs=>obtain⟨b,off,hb,_⟩:=hall 0 z rfl;cases hb
 |some ad=>exact kf _ _ ⟨M,s,f.put q rfl⟩
theorem St.perm{M:iE}{w:World}(h:St S M w H)(hp:H'.Perm H):St S M w H':=
 h.sub (fun e he=>hp.subset he) ((hp.filterMap _).nodup_iff.2 h.nodup)
theorem nE(hp:H'.Perm H)(k:WL S ops κ rest H' E):WL S ops κ rest H E:=
 fun a w ⟨M,e,f⟩=>k a w ⟨M,e.perm hp,f⟩
theorem aDI{f:Nat}{pre pre':List VP}{post:VP}{xs:List Operand}{ts:Array TypeId}(k:o.op=.call {callee:=.value (.func f),args:=xs.toArray,argTypes:=ts})(c:Ct S.P f pre post)(t:xs.length=pre'.length)
  (hlend:∀M w,St S M w H→∃Mb,l5 M Mb∧Mok Mb w∧∀vs,jX M pre' vs→jX Mb pre vs)(hpost:∀M M' v,post.h M v→post.h M' v):Tr S o H H (xs.zip pre') post:=by
 refine⟨fun M w a h hin K Q hkk=>?_⟩;have hall:=jX.of_ins t hin;obtain⟨Mb,hle,hok,hconv⟩:=hlend M w h;refine sD (f:=f) (args:=(xs.map a.eval).toArray) ?_ (c.run Mb w _ hok (by simp) (by simp) (hconv _ hall)) fun e w' hr=>?_
 ·simp[execOp,k,resolve,Deferred.ofValue,Act.eval,invoke,lT c.ok]
 ·obtain⟨v,M',Ho,q,⟨rfl,rfl⟩,rfl,hst,u⟩:=hr;have j:St ⟨S.P,w,M,[],0⟩ M w' []:=
   ⟨l5.refl M,fun b o hb=>hst.mem b o (hst.le0 b o (hle b o hb)),hst.keep,fun _ _ _=>rfl,hst.size,hst.os,hst.tape,hst.output,by simp,by simp,by simp⟩
  refine⟨v,rfl,hkk v M w' (l5.refl M) ?_ (hpost _ _ _ u)⟩;have:=h.call (is:=[]) (Hin:=[]) rfl (wM H) (by simpa using List.nodup_range' (s:=0) (n:=H.length)) j;simpa using this
end
def cI:Cd Int:=⟨1,fun x=>[pI .i64 x],fun _=>rfl⟩
def cB:Cd Bool:=⟨1,fun x=>[pB x],fun _=>rfl⟩
def cSl{α:Type}(C:Cd α):Cd (List α):=⟨1,fun x=>[pS C x],fun _=>rfl⟩
structure aF where
 neg:Bool
 d:List Int
 deriving DecidableEq,Inhabited
def aF.e(x:aF):List CP:=[pB x.neg,pS cI x.d]
structure d8 where
 p:aF
 q:aF
 deriving DecidableEq,Inhabited
def d8.e(x:d8):List CP:=[pB x.p.neg,pS cI x.p.d,pB x.q.neg,pS cI x.q.d]
theorem mkB{P:Program}{t:Nat}{z:Value}{fs:Array Field}{pl:List (Nat×Nat)}{zs:List CP}(e:(P.info? t).map (·.zero)=some (some z))(hu:P.underlying t=some (.struct fs))
  (hp:fs.toList.mapM (fun f=>(P.info? f.type).map fun i=>(f.offset,i.size))=some pl)(hzs:∀M,bC M zs z.cells.toList):TyB P t pl zs:=by
 refine⟨z,(pl.toArray[·]?),fun parts=>?_,fun i _=>by simp,hzs⟩;cases h:P.info? t with
 |none=>rw[h]at e;simp at e
 |some it=>
  rw[h]at e;simp only[Option.map_some,Option.some.injEq]at e;simp only[Program.built,h,hu,e,hp]
/-- A slice's block, length and room. -/
abbrev sF:Type:=Option Nat×Nat×Nat
def pJ(gs:List sF)(k:Nat):sF:=gs.getD k (none,0,0)
def cH(gs:List sF):Cd Nat:=⟨1,fun k=>[pO (pJ gs k).1 (pJ gs k).2.1 (pJ gs k).2.2],fun _=>rfl⟩
def lD{α:Type}(C:Cd α)(T:Nat):List sF→List (List α)→List HA
 |g::gs,r::rs=>hO C g.1 g.2.2 T g.2.1 r::lD C T gs rs
 |_,_=>[]
theorem aFH{α:Type}{C:Cd α}{T:Nat}:∀{gs:List sF} {rs:List (List α)} {k:Nat} {r:List α},gs.length=rs.length→rs[k]?=some r→(lD C T gs rs)[k]?=some (hO C (pJ gs k).1 (pJ gs k).2.2 T (pJ gs k).2.1 r)
 |[],[],k,r,_,h=>by simp at h
 |g::gs,x::rs,0,r,_,h=>by simp at h;subst h;rfl
 |g::gs,x::rs,k+1,r,e,h=>by
  have:=aFH (C:=C) (T:=T) (gs:=gs) (rs:=rs) (k:=k) (r:=r) (by simpa using e) (by simpa using h);simpa [lD,pJ] using this
 |[],_::_,_,_,e,_=>by simp at e
 |_::_,[],_,_,e,_=>by simp at e
theorem aGl{α:Type}{C:Cd α}{T:Nat}:∀{gs:List sF} {rs:List (List α)} {k:Nat} {r:List α},gs.length=rs.length→(lD C T gs rs).set k (hO C (pJ gs k).1 (pJ gs k).2.2 T (pJ gs k).2.1 r)=lD C T gs (rs.set k r)
 |[],[],k,r,_=>by simp[lD]
 |g::gs,x::rs,0,r,_=>rfl
 |g::gs,x::rs,k+1,r,e=>by
  have:=aGl (C:=C) (T:=T) (gs:=gs) (rs:=rs) (k:=k) (r:=r) (by simpa using e);simp only[lD,List.set_cons_succ];rw[←this];rfl
 |[],_::_,_,_,e=>by simp at e
 |_::_,[],_,_,e=>by simp at e
theorem aD8{α:Type}{C:Cd α}{T:Nat}:∀{gs:List sF} {rs:List (List α)},gs.length=rs.length→(lD C T gs rs).length=rs.length
 |[],[],_=>rfl
 |g::gs,x::rs,e=>by simp[lD,aD8 (C:=C) (T:=T) (gs:=gs) (rs:=rs) (by simpa using e)]
 |[],_::_,e=>by simp at e
 |_::_,[],e=>by simp at e
theorem aEF{α:Type}{C:Cd α}{T:Nat}(g:sF)(r:List α):∀{gs:List sF} {rs:List (List α)},gs.length=rs.length→lD C T (gs++[g]) (rs++[r])=lD C T gs rs++[hO C g.1 g.2.2 T g.2.1 r]
 |[],[],_=>rfl
 |y::gs,x::rs,e=>by simp[lD,aEF g r (C:=C) (T:=T) (gs:=gs) (rs:=rs) (by simpa using e)]
 |[],_::_,e=>by simp at e
 |_::_,[],e=>by simp at e
theorem aKf{gs:List sF}(g:sF){xs:List Nat}(h:∀k∈xs,k<gs.length):flat (cH (gs++[g])) xs=flat (cH gs) xs:=by
 induction xs with
 |nil=>rfl
 |cons k xs ih=>
  have f:pJ (gs++[g]) k=pJ gs k:=by
   unfold pJ;simp only[List.getD_eq_getElem?_getD];rw[List.getElem?_append_left (h k (by simp))]
  have q:(cH (gs++[g])).e k=(cH gs).e k:=by simp only[cH,f]
  have:=ih fun j s=>h j (by simp[s])
  simp only[flat,List.flatMap_cons]at this ⊢;rw[q,this]
theorem aNF{H:List HA}{e:HA}{k:Nat}(m:Nat){R:List HA}(f:H.drop m=R)(h:R[k]?=some e):H[m+k]?=some e:=by
 subst f;rw[←h,List.getElem?_drop]
theorem aIL:∀(m:Nat) {H R:List HA} {k:Nat} {x:HA},H.drop m=R→k<R.length→vC H (m+k) x=some (H.take m++R.set k x)
 |0,H,R,k,x,f,j=>by
  simp only[List.drop_zero]at f;subst f;simp only[Nat.zero_add,List.take_zero,List.nil_append];have key:∀(H:List HA) (i:Nat) (x:HA),i<H.length→vC H i x=some (H.set i x):=by
   intro H
   induction H with
   |nil=>intro i x h;simp at h
   |cons e H ih=>
    intro i x h;cases i with
    |zero=>rfl
    |succ i=>simp[vC,ih i x (by simpa using h)]
  exact key H k x j
 |m+1,[],R,k,x,f,j=>by simp at f;subst f;simp at j
 |m+1,e::H,R,k,x,f,j=>by
  have:=aIL m (H:=H) (R:=R) (k:=k) (x:=x) (by simpa using f) j;rw[show m+1+k=(m+k)+1 by omega];simp[vC,this]
theorem aJG{α:Type}{C:Cd α}{T:Nat}{gs:List sF}{rs:List (List α)}{k:Nat}{r:List α}(A:List HA)(e:gs.length=rs.length)(h:rs[k]?=some r):(lD C T gs rs++A)[k]?=some (hO C (pJ gs k).1 (pJ gs k).2.2 T (pJ gs k).2.1 r):=by
 have f:=(List.getElem?_eq_some_iff.1 h).1;rw[List.getElem?_append_left (by rw[aD8 e];exact f)];exact aFH e h
def iA{α:Type}(gs:List sF)(rs:List (List α)):Prop:=gs.length=rs.length∧∀k r,rs[k]?=some r→r.length=(pJ gs k).2.1
theorem aBL{α:Type}{rs:List (List α)}{N k:Nat}(h:rs.length=N)(e:k<N):rs[k]?=some (rs.getD k []):=by
 have:k<rs.length:=by omega
 simp[List.getD_eq_getElem?_getD,List.getElem?_eq_getElem this]
theorem fE{α:Type}{xs:List α}{j:Int}{z:α}(h:cT xs j=some z):z∈xs:=by
 obtain⟨_,_,e⟩:=bD h;exact List.mem_of_getElem? e
theorem aMe{α:Type}{rs:List (List α)}{N:Nat}{xs:List Nat}(h:rs.length=N)(e:∀k∈xs,k<N):∀k∈xs,k<rs.length:=fun k f=>h▸e k f
theorem aGy{α:Type}{rs:List (List α)}{N k:Nat}{r:List α}(h:rs.length=N):(rs.set k r).length=N:=by simpa using h
theorem aJs{α:Type}{gs:List sF}{rs:List (List α)}{N k:Nat}{r:List α}(q:iA gs rs)(h:rs.length=N)(s:k<N)(hr:r.length=(rs.getD k []).length):iA gs (rs.set k r):=by
 refine⟨by simpa using q.1,fun j x f=>?_⟩;rw[List.getElem?_set]at f;split at f
 ·rename_i e;subst e;split at f
  ·simp only[Option.some.injEq]at f;subst f;rw[hr];exact q.2 _ _ (aBL h s)
  ·cases f
 ·exact q.2 j x f
theorem aMf{α:Type}{rs:List (List α)}{xs ys:List Nat}{N:Nat}(f:∀k∈xs,k<N)(q:rs.length=N)(h:uK xs [rs.length]=some ys):∀k∈ys,k<N+1:=by
 unfold uK at h;split at h
 ·simp only[Option.some.injEq]at h;subst h;intro k j;rcases List.mem_append.1 j with e|e
  ·have:=f k e;omega
  ·simp at e;omega
 ·cases h
theorem aHr{α:Type}:iA [] ([]:List (List α)):=⟨rfl,fun k r h=>by simp at h⟩
theorem aFT{α:Type}{gs:List sF}{rs:List (List α)}{g:sF}{r:List α}(h:iA gs rs)(hr:r.length=g.2.1):iA (gs++[g]) (rs++[r]):=by
 refine⟨by simp[h.1],fun k x f=>?_⟩;rw[List.getElem?_append]at f;unfold pJ;rw[List.getD_eq_getElem?_getD,List.getElem?_append];split at f
 ·rename_i hlt;rw[if_pos (by rw[h.1];exact hlt)];have:=h.2 k x f;unfold pJ at this
  rwa [List.getD_eq_getElem?_getD]at this
 ·rename_i hge;rw[if_neg (by rw[h.1];exact hge),h.1];by_cases e:k-rs.length=0
  ·rw[e]at f ⊢;simp at f ⊢;rw[←f];exact hr
  ·obtain⟨q,j⟩:=Nat.exists_eq_succ_of_ne_zero e;rw[j]at f;simp at f
theorem aIX{α:Type}{rs:List (List α)}{N:Nat}{r:List α}(h:rs.length=N):(rs++[r]).length=N+1:=by simp[h]
theorem stN{α:Type}{C:Cd α}{T N k:Nat}{H:List HA}{gs:List sF}{rs:List (List α)}{r:List α}(m:Nat)(f:H.drop m=lD C T gs rs)(e:iA gs rs)(h:rs.length=N)(j:k<N):vC H (m+k) (hO C (pJ gs k).1 (pJ gs k).2.2 T (pJ gs k).2.1 r)=some (H.take m++lD C T gs (rs.set k r)):=by
 rw[aIL m f (by rw[aD8 e.1];omega),aGl e.1]
section
variable {S:Sx} {κ:Kt} {H H':List HA} {E:nV} {ops:Array Oper} {rest:List Oper} {o:Oper}
theorem aLO{α:Type}{C:Cd α}{xs:List α}{n c:Nat}{β:Option Nat}{M M':iE}{v:Value}(e:xs.length=n)(h:(pO β n c).h M v)(f:(pS C xs).h M' (sv β n c)):(pS C xs).h M' v:=by
 rcases h with rfl|⟨_,k,_,t,rfl⟩
 ·exact f
 ·have q:xs=[]:=List.eq_nil_of_length_eq_zero (e.trans k);subst q;exact⟨_,_,rfl,by simp,by simp,fun j x s=>by simp at s⟩
theorem aB2{α:Type}:∀(l:List α) (i:Nat) (h:i<l.length),([l[i]]++l.eraseIdx i).Perm l
 |[],i,h=>by simp at h
 |x::l,0,h=>by simp
 |x::l,i+1,h=>by
  have:=aB2 l i (by simpa using h);simp only[List.getElem_cons_succ,List.eraseIdx_cons_succ,List.singleton_append]at this ⊢;exact(List.Perm.swap _ _ _).trans (this.cons x)
theorem aJ0{ins:List (Operand×VP)}{out:VP}(t:Tr S o H H ins out)(h:H'=H):Tr S o H H' ins out:=h▸t
def pC(e:CP)(l sz:Nat):CP:=⟨fun M v=>∃p n c,e.h M (.slice p n c)∧l≤n∧n≤c∧v=.slice (if c=l then p else p.map (·.add (l*sz))) (n-l) (c-l),
 fun hm ⟨p,n,c,f,j⟩=>⟨p,n,c,e.monoc hm f,j⟩,fun h=>by obtain⟨p,n,c,_,_,_,rfl⟩:=h;rfl⟩
theorem aIJ{t e k0 bytes n c i:Nat}{β:Option Nat}{x y:Operand}{lo:Int}{k:IntKind}{ea:HA}(J:o.op=.slice t x (some y) none none)(F:TyS S.P t e k0 bytes)(L:H[i]?=some ea)(hβ:ea.β=β)(hc:ea.c=c)(O:ea.n=n)(U:0≤lo)(V:lo≤(n:Int)):
  Tr S o H H [(x,.vc (pO β n c)),(y,.vc (pI k lo))] (.vc (pC (pO β n c) lo.toNat k0)):=by
 refine⟨fun M w a hs hin K Q hk=>?_⟩;have hy:a.eval y=.int k lo:=hin.2.1;obtain⟨it,hit,q,_⟩:=F.s;obtain⟨⟨vs,how,_⟩,_⟩:=hs.own ea (List.mem_of_getElem? L);rw[hβ,hc,O]at how;have hform:∃p cc,a.eval x=.slice p n cc∧n≤cc∧(pO β n c).h M (.slice p n cc):=by
  rcases hin.1 with j|⟨h1,z,f,G,j⟩
  ·rcases how.2 with⟨f,I⟩|⟨g,cap,cur,f,_,_,hnc,_⟩
   ·refine⟨none,0,by rw[j,f,I],by omega,.inl (by rw[f,I])⟩
   ·exact⟨some ⟨g,0,none⟩,cap,by rw[j,f],hnc,.inl f.symm⟩
  ·exact⟨some G,0,by rw[j,z],by omega,.inr ⟨h1,z,f,G,by rw[z]⟩⟩
 obtain⟨p,cc,j,hnc,hp⟩:=hform;refine bR (v:=.slice (if cc=lo.toNat then p else p.map (·.add (lo.toNat*k0))) (n-lo.toNat) (cc-lo.toNat)) ?_ (hk _ M w (l5.refl M) hs ⟨p,n,cc,hp,by omega,hnc,rfl⟩);have hb:=wW (P:=S.P) (w:=w) (k:=k) (i:=lo) (y:=n) (code:=.sliceB) U V;simp[execOp,J,j,hy,Instr.sliceAt,Instr.slice,Instr.sliceBounds,run_underlying F.u,sizeOf,typeInfo,hit,q,hb]
theorem St.split{M:iE}{w:World}{X X' R:List HA}{l:List Nat}(h:St S M w (X++R))(hp:dS X l=some X')(q:l.Nodup):St S M w (X'++R):=by
 have k:=h.nodup;rw[List.filterMap_append]at k;obtain⟨s,t,u⟩:=List.nodup_append.1 k;have z:St S M w X:=h.sub (fun e he=>List.mem_append.2 (.inl he)) s;have f:=z.pick hp q;have hm:∀e∈X',e∈X:=fun e he=>by
  obtain⟨j,F⟩:=List.getElem?_of_mem he;obtain⟨i,_,G⟩:=kI hp j e F;exact List.mem_of_getElem? G
 refine h.sub (fun e he=>?_) ?_
 ·rcases List.mem_append.1 he with he|he
  ·exact List.mem_append.2 (.inl (hm e he))
  ·exact List.mem_append.2 (.inr he)
 ·rw[List.filterMap_append];refine List.nodup_append.2 ⟨f.nodup,t,fun x I y J=>u x ?_ y J⟩;obtain⟨e,he,heb⟩:=List.mem_filterMap.1 I;exact List.mem_filterMap.2 ⟨e,hm e he,heb⟩
theorem cL{X' R:List HA}{E':nV}(m:Nat)(l:List Nat)(e:H.drop m=R)(hp:dS (H.take m) l=some X')(k:l.Nodup)(q:aB6 E E'){a:Act}{w:World}(h:hs S H E a w):hs S (X'++R) E' a w:=by
 obtain⟨M,j,f⟩:=h;rw[←List.take_append_drop m H,e]at j;exact⟨M,j.split hp k,f.size,f.defers,fun d p e=>f.get d p (q.get d p e)⟩
theorem nH{PJ:List HA→nV→Prop}{X' R:List HA}{E':nV}(J:∀H E,PJ H E→WX S .normal κ H E)(h:PJ (X'++R) E')(m:Nat)(l:List Nat)(e:H.drop m=R)(hp:dS (H.take m) l=some X')(f:aB6 E E')(j:l.Nodup:=by decide):WX S .normal κ H E:=
 fun a w hh=>J _ _ h a w (cL m l e hp j f hh)
theorem uL{X A B:List HA}:∀{is js:List Nat},dS X is=some A→dS X js=some B→dS X (is++js)=some (A++B)
 |[],js,f,j=>by simp[dS]at f;subst f;simpa using j
 |i::is,js,f,j=>by
  simp only[dS]at f;cases h:X[i]? with
  |none=>rw[h]at f;simp at f
  |some e=>
   cases hr:dS X is with
   |none=>rw[h,hr]at f;simp at f
   |some A'=>
    rw[h,hr]at f;simp only[Option.some.injEq]at f;subst f;have:=uL hr j;simp[dS,h,this]
end
/-- A row's place, and its length. -/
theorem sT{α:Type}{C:Cd α}{T N k:Nat}{H:List HA}{gs:List sF}{rs:List (List α)}(m:Nat)(e:H.drop m=lD C T gs rs)(f:iA gs rs)(h:rs.length=N)(j:k<N):H[m+k]?=some (hO C (pJ gs k).1 (pJ gs k).2.2 T (pJ gs k).2.1 (rs.getD k [])):=
 aNF m e (aFH f.1 (aBL h j))
theorem wD{α:Type}{C:Cd α}{T N k:Nat}{H A:List HA}{gs:List sF}{rs:List (List α)}(m:Nat)(e:H.drop m=lD C T gs rs++A)(f:iA gs rs)(h:rs.length=N)(j:k<N):H[m+k]?=some (hO C (pJ gs k).1 (pJ gs k).2.2 T (pJ gs k).2.1 (rs.getD k [])):=
 aNF m e (aJG A f.1 (aBL h j))
theorem nD{α:Type}{N k:Nat}{gs:List sF}{rs:List (List α)}(e:iA gs rs)(h:rs.length=N)(f:k<N):(rs.getD k []).length=(pJ gs k).2.1:=e.2 _ _ (aBL h f)
theorem aHW{gs:List sF}{N:Nat}(g:sF)(h:gs.length=N):pJ (gs++[g]) N=g:=by
 subst h;simp[pJ]
section
variable {S:Sx} {κ:Kt} {H H':List HA} {E:nV} {ops:Array Oper} {rest:List Oper} {o:Oper}
theorem aKg{α:Type}(C:Cd α)(T:Nat)(k:WL S ops κ rest (H++lD C T [] []) E):WL S ops κ rest H E:=by simpa [lD] using k
theorem lE(X R B:List HA):((X++B)++R).Perm ((X++R)++B):=by
 rw[List.append_assoc,List.append_assoc];exact List.perm_append_comm.append_left X
theorem aL5{T c n:Nat}{β:Option Nat}{gs:List sF}{xs:List Nat}{N:Nat}(g:sF)(e:gs.length=N)(f:∀k∈xs,k<N):hO (cH (gs++[g])) β c T n xs=hO (cH gs) β c T n xs:=by
 show HA.mk β c T _ n _=HA.mk β c T _ n _;rw[aKf g (fun k h=>e▸f k h)];rfl
theorem aJH{gs:List sF}{N:Nat}(b:Option Nat)(n c:Nat)(h:gs.length=N):VE (cH (gs++[(b,n,c)])) (.vc (pO b n c)) N:=⟨trivial,by show [_]=[_];rw[aHW _ h]⟩
theorem aMI{t e bytes:Nat}{x:Operand}{gs:List sF}{α:Type}{rs:List (List α)}{b:Option Nat}{n c:Nat}(f:o.op=.buildSlice t 1 ((List.range' 0 1).zip [x]).toArray)(j:TyS S.P t e 1 bytes)(k:gs.length=rs.length)(h:H'=H):
  Tr S o H H' [(x,.vc (pO b n c))] (.vc (pS (cH (gs++[(b,n,c)])) [rs.length])):=
 aJ0 (qP (C:=cH (gs++[(b,n,c)])) (xs:=[x]) (ps:=[.vc (pO b n c)]) (zs:=[rs.length]) f j rfl ⟨aJH b n c k,trivial⟩ rfl) h
structure TyG (P:Program) (s f off ft:Nat):Prop where
 u:∃fs fd,P.underlying s=some (.struct fs)∧fs[f]?=some fd∧fd.offset=off∧fd.type=ft
 o:Ty1 P ft
theorem aNP{s f off ft:Nat}{x:Operand}{ps:List CP}{p:CP}(j:o.op=.field s x f)(e:TyG S.P s f off ft)(hp:ps[off]?=some p):Tr S o H H [(x,.va ps)] (.vc p):=by
 refine⟨fun M w a h hin K Q hkk=>?_⟩;obtain⟨vs,k,hall⟩:=hin.1;obtain⟨fs,fd,hu,hfd,hoff,hft⟩:=e.u;obtain⟨v,hv,hpv⟩:=bC.at off hall hp;obtain⟨d,q,t⟩:=e.o.u;refine bR (v:=v) ?_ (hkk _ M w (l5.refl M) h hpv);subst hoff hft;simp[execOp,j,k,Instr.field,run_underlying hu,hfd,part,aBq q,t,asAgg,hv]
theorem lC{P:Program}{fn:Func}{w0:World}{M0:iE}{B:List Nat}{post:List HA→VP→Prop}{N:NX}{e:Exit}{rs:List ResultVar}{ps:List VP}{R Ho:List HA}(he:e=.ret∨e=.normal)(hrs:fn.results=rs.toArray)(hv:RVs ⟨P,w0,M0,B,N⟩ H E rs ps)(j:Nat.ble ps.length 4=true)
  (m:Nat)(is:List Nat)(k:H.drop m=R)(hp:dS (H.take m) is=some Ho)(q:is.Nodup)(hpost:post (Ho++R) (aFC ps))(hfr:∀D,N.fr D→w0.heap.size≤D∧M0 D=none:=by exact fun _ h=>h):
  WX ⟨P,w0,M0,B,N⟩ e (.base (aCK P fn (Rp P w0 M0 B post))) H E:=by
 intro a w hh;have key:=aBY hrs hv j hfr hh fun M w f=>by
  rw[←List.take_append_drop m H,k]at f;exact⟨Ho++R,hpost,f.split hp q⟩
 rcases he with rfl|rfl<;>exact key
theorem aMD{α:Type}(C:Cd α)(T:Nat){cd:Code}(k:WC S cd κ (hO C none 0 T 0 ([]:List α)::H) E):WC S cd κ H E:=by
 rintro a w ⟨M,e,f⟩;exact k a w ⟨M,e.new_row (s9 w none) ⟨⟨[],World.ownsRow_nil w 0 T C.n,trivial⟩,fun b hb=>by cases hb⟩ (fun b hb=>by cases hb),f⟩
end
/-- A function of the program, known by what it computes. -/
theorem aKa{P:Program}{α ρ:Type}{pre:α→List VP}{post:ρ→VP}{φ:α→Option ρ}{f:Nat}(h:∀x r,φ x=some r→Ct P f (pre x) (post r)):∀M,(VP.vc (zW P pre post φ)).h M (.func (.func f) #[] #[]):=
 fun M=>⟨rfl,fun x r hr=>⟨f,[],k_F f M,by simpa using h x r hr⟩⟩
section
variable {S:Sx} {κ:Kt} {H H':List HA} {E:nV} {ops:Array Oper} {rest:List Oper} {o:Oper}
theorem aCu{X Y:List HA}:∀(l:List Nat) (Z:List HA),dS X l=some Z→dS (X++Y) l=some Z
 |[],Z,h=>by simpa [dS] using h
 |i::l,Z,h=>by
  simp only[dS]at h;cases hxi:X[i]? with
  |none=>rw[hxi]at h;simp at h
  |some e=>
   cases hr:dS X l with
   |none=>rw[hxi,hr]at h;simp at h
   |some Z'=>
    rw[hxi,hr]at h;have hlt:=(List.getElem?_eq_some_iff.1 hxi).1;simp only[dS,List.getElem?_append_left hlt,hxi,aCu l _ hr];exact h
theorem yC(X Y:List HA):dS (X++Y) (List.range' 0 X.length)=some X∧dS (X++Y) (List.range' X.length Y.length)=some Y∧(List.range' 0 X.length++List.range' X.length Y.length).Nodup:=by
 refine⟨?_,w4 Y _ _ rfl,?_⟩
 ·have:=w4 X 0 [] rfl;exact aCu _ _ (by simpa using this)
 ·rw[List.nodup_append];refine⟨List.nodup_range',List.nodup_range',fun x e y f=>?_⟩;simp only[List.mem_range'_1]at e f;omega
theorem aFr{c:CP}{x:Operand}(hc:∀M v,c.h M v→∃a,v=.pointer (some a))(f:o.op=.nilCheck x):Tr S o H H [(x,.vc c)] (.vc c):=
 ⟨fun M w a h e K Q j=>by
  obtain⟨p,hp⟩:=hc M _ e.1;exact bR (v:=a.eval x) (w':=w) (by simp[execOp,f,hp]) (j _ M w (l5.refl M) h e.1)⟩
theorem tX{β:Option Nat}{off:Nat}{x:Operand}(f:o.op=.nilCheck x):Tr S o H H [(x,.vc (pP β off))] (.vc (pP β off)):=aFr (fun _ _ ⟨_,_,e⟩=>⟨_,e⟩) f
theorem aHP{β:Option Nat}{j:Int}{n f:Nat}{x:Operand}(h:o.op=.nilCheck x):Tr S o H H [(x,.vc (pE β j n f))] (.vc (pE β j n f)):=aFr (fun _ _ ⟨_,_,e⟩=>⟨_,e⟩) h
theorem aHR{ps:List CP}{x:Operand}(f:o.op=.nilCheck x):Tr S o H H [(x,.vc (pM ps))] (.vc (pM ps)):=aFr (fun _ _ ⟨_,_,e,_⟩=>⟨_,e⟩) f
theorem aMT{c:Code}{b T sz:Nat}{ps:List CP}(i:Nat)(ds:List (Nat×Nat))(e:H[i]?=some ⟨some b,1,T,sz,1,ps⟩)(hds:aI2 E b ds)(f:xO H i=some H')(k:WC S c κ H' (aHx ps ds++E)):WC S c κ H E:=
 fun a w hh=>k a w (vO f▸aGE e hds hh)
theorem oA{f d:Nat}{A B R:List HA}{pre:List VP}{post:List HA→VP→Prop}{xs:List Operand}{ts:Array TypeId}(m:Nat)(is js:List Nat)(h:o.op=.call {callee:=.value (.func f),args:=xs.toArray,argTypes:=ts})(c:xD S.P f (A++R) pre post)(j:tH E (xs.zip pre))(s:H.drop m=R)(t:dS (H.take m) is=some A)(u:dS (H.take m) js=some B)(x:(is++js).Nodup)
  (k:∀Ho q,post Ho q→WL S ops κ rest (Ho++B) ((d,q)::E))(y:xs.length=pre.length:=by rfl)
  (z:o.dst=some d:=by rfl)(F:o.guard=none:=by rfl)(G:Nat.blt d S.N=true:=by rfl):WL S ops κ (o::rest) H E:=by
 obtain⟨I,J,K⟩:=yC (A++R) B;have key:WL S ops κ (o::rest) ((A++R)++B) E:=rV _ _ h c j I J K k y z F G;rintro a w ⟨M,e,L⟩;rw[←List.take_append_drop m H,s]at e;have O:=e.split (uL t u) x;refine key a w ⟨M,O.perm ?_,L⟩;rw[List.append_assoc,List.append_assoc];exact(List.perm_append_comm).append_left A
theorem aJo{f:Nat}{L A j B R:List HA}{pre:List VP}{q:VP}{xs:List Operand}{ts:Array TypeId}(m:Nat)(is js ks:List Nat)(u:o.op=.call {callee:=.value (.func f),args:=xs.toArray,argTypes:=ts})(c:xD S.P f (j++R) pre (fun Ho p=>Ho=j++R∧p=q))(x:L.drop m=R)(y:dS (L.take m) is=some j)(z:dS (L.take m) js=some B)(F:dS (j++B) ks=some (L.take m))(G:(is++js).Nodup)(I:ks.Nodup)(J:xs.length=pre.length):
  Tr S o (L++A) (L++A) (xs.zip pre) q:=by
 refine⟨fun M w a h hin K Q hkk=>?_⟩;have hall:=jX.of_ins J hin;have O:L++A=L.take m++(R++A):=by rw[←x,←List.append_assoc,List.take_append_drop]
 rw[O]at h hkk;have g1:St S M w ((j++B)++(R++A)):=h.split (uL y z) G;have pp:List.Perm ((j++R)++(B++A)) ((j++B)++(R++A)):=by
  rw[List.append_assoc,List.append_assoc,←List.append_assoc R,←List.append_assoc B];exact((List.perm_append_comm).append_right A).append_left j
 have k:=g1.perm pp;obtain⟨s,U,t⟩:=yC (j++R) (B++A);have gin:St S M w (j++R):=k.pick s (List.nodup_append.1 t).1;refine sD (f:=f) (args:=(xs.map a.eval).toArray) ?_ (c.run M w _ k.mem gin.own gin.nodup hall) fun e w' hr=>?_
 ·simp[execOp,u,resolve,Deferred.ofValue,Act.eval,invoke,lT c.ok]
 ·obtain⟨v,M',Ho,q',⟨rfl,rfl⟩,rfl,hst',V⟩:=hr;have g3:St S M' w' ((j++R)++(B++A)):=k.call s U t hst';exact⟨v,rfl,hkk v M' w' hst'.le0 ((g3.perm pp.symm).split F I) V⟩
theorem aAB{f d:Nat}{cs:List CP}{A B R:List HA}{pre:List VP}{post:List HA→VP→Prop}{xs:List Operand}{y:Operand}{ts:Array TypeId}(m:Nat)(is js:List Nat)(j:o.op=.call {callee:=.value y,args:=xs.toArray,argTypes:=ts})(c:xD S.P f A (pre++cs.map .vc) post)(s:tH E ((y,.vc (pF f cs))::xs.zip pre))(t:H.drop m=R)(u:dS (H.take m) is=some A)(x:dS (H.take m) js=some B)(z:(is++js).Nodup)
  (k:∀Ho q,post Ho q→WL S ops κ rest (Ho++(B++R)) ((d,q)::E))(F:xs.length=pre.length:=by rfl)
  (G:o.dst=some d:=by rfl)(I:o.guard=none:=by rfl)(J:Nat.blt d S.N=true:=by rfl):WL S ops κ (o::rest) H E:=by
 obtain⟨K,L,O⟩:=yC A (B++R);have key:WL S ops κ (o::rest) (A++(B++R)) E:=aJf _ _ j c s K L O k F G I J;rintro a w ⟨M,e,U⟩;rw[←List.take_append_drop m H,t]at e;have h:=e.split (uL u x) z;rw[List.append_assoc]at h;exact key a w ⟨M,h,U⟩
theorem d0{S:Sx}{Hs:Gh→Nat→List HA}{hv:List Nat}{ops:List Oper}{ms:List Nat}{E:nV}{outs:List Ou}{i:Nat}{o:Oper}{out:VP}{ins:Gh→List (Operand×VP)}(t:∀{G:Gh} {A:List HA},Tr S o (Hs G 0++A) (Hs G 0++A) (ins G) out)(hs:∀{G:Gh},aCh ops ms E outs G i (ins G))(e:o.dst.all (Nat.blt · S.N)=true:=by rfl)(f:o.guard=none:=by rfl)(h:kF ms hv i [0]=true:=by rfl)(j:hv.contains i=false:=by rfl):o.dst.all (Nat.blt · S.N)=true∧DOp S Hs hv ops ms E outs i o (.v out):=
 ⟨e,.run (L:=[0]) ⟨fun G A=>t,trivial⟩ (fun G=>hs) f h j⟩
theorem d1{S:Sx}{Hs:Gh→Nat→List HA}{hv:List Nat}{ops:List Oper}{ms:List Nat}{E:nV}{outs:List Ou}{i:Nat}{o:Oper}{out:VP}{ins:Gh→List (Operand×VP)}(lo:Nat)(t:∀{G:Gh} {A:List HA},Tr S o (Hs G lo++A) (Hs G lo++A) (ins G) out)(hs:∀{G:Gh},aCh ops ms E outs G i (ins G))(e:o.dst.all (Nat.blt · S.N)=true:=by rfl)(f:o.guard=none:=by rfl)(h:kF ms hv i [lo]=true:=by rfl)(j:hv.contains i=false:=by rfl):o.dst.all (Nat.blt · S.N)=true∧DOp S Hs hv ops ms E outs i o (.v out):=
 ⟨e,.run (L:=[lo]) ⟨fun G A=>t,trivial⟩ (fun G=>hs) f h j⟩
theorem g0{S:Sx}{Hs:Gh→Nat→List HA}{hv:List Nat}{ops:List Oper}{ms:List Nat}{E:nV}{outs:List Ou}{i:Nat}{o:Oper}{out:VP}{ins:Gh→List (Operand×VP)}{j d:Nat}{b:Bool}(t:∀{G:Gh} {A:List HA},Tr S o (Hs G 0++A) (Hs G 0++A) (ins G) out)(hs:∀{G:Gh},aCh ops ms E outs G i (ins G))(e:o.dst.all (Nat.blt · S.N)=true:=by rfl)(f:o.guard=some (j,b):=by rfl)(hdd:(ops[j]?).bind (·.dst)=some d:=by rfl)(h:∀G,uU ops ms E outs G i d=some (.vc (pB b)):=by intro;rfl)(k:kF ms hv i [0]=true:=by rfl)(q:hv.contains i=false:=by rfl):o.dst.all (Nat.blt · S.N)=true∧DOp S Hs hv ops ms E outs i o (.v out):=
 ⟨e,.runG (L:=[0]) ⟨fun G A=>t,trivial⟩ (fun G=>hs) f hdd h k q⟩
theorem g1{S:Sx}{Hs:Gh→Nat→List HA}{hv:List Nat}{ops:List Oper}{ms:List Nat}{E:nV}{outs:List Ou}{i:Nat}{o:Oper}{out:VP}{ins:Gh→List (Operand×VP)}{j d:Nat}{b:Bool}(lo:Nat)(t:∀{G:Gh} {A:List HA},Tr S o (Hs G lo++A) (Hs G lo++A) (ins G) out)(hs:∀{G:Gh},aCh ops ms E outs G i (ins G))(e:o.dst.all (Nat.blt · S.N)=true:=by rfl)(f:o.guard=some (j,b):=by rfl)(hdd:(ops[j]?).bind (·.dst)=some d:=by rfl)(h:∀G,uU ops ms E outs G i d=some (.vc (pB b)):=by intro;rfl)(k:kF ms hv i [lo]=true:=by rfl)(q:hv.contains i=false:=by rfl):o.dst.all (Nat.blt · S.N)=true∧DOp S Hs hv ops ms E outs i o (.v out):=
 ⟨e,.runG (L:=[lo]) ⟨fun G A=>t,trivial⟩ (fun G=>hs) f hdd h k q⟩
def HsM:List (Nat×(Gh→List HA))→Gh→Nat→List HA
 |[],_,_=>[]
 |(a,f)::l,G,m=>bif Nat.beq a m then f G else HsM l G m
theorem aML{Post:Option Nat→Nat→List HA}{ins:List (Operand×VP)}{out:VP}(t:Tr S o H H' ins out)(h:∀b c,H'=Post b c:=by intros;rfl):Hv S o H Post ins (fun _ _=>out):=
 ⟨fun M w a hs hin K Q e=>t.run M w a hs hin K Q fun v M' w' hm hst hv=>e v M' w' none 0 hm (h none 0▸hst) hv⟩
theorem aEU{T:Nat}{zs:List CP}(e:o.op=.alloc T)(f:TyZ S.P T zs):Hv S o H (fun b _=>⟨some (b.getD 0),1,T,zs.length,1,zs⟩::H) [] (fun b _=>.vc (pP (some (b.getD 0)) 0)):=by
 refine⟨fun M w a h hin K Q j=>?_⟩;obtain⟨i,z,k,hzz,hsz,hall⟩:=f.z;refine bR (v:=.pointer (some ⟨w.heap.size,0,none⟩)) (w':=w.alloc (.cells z.cells T)) ?_ (j _ M _ (some w.heap.size) 0 (l5.refl M) (aBG h (hall M)) ⟨_,rfl,rfl⟩);simp[execOp,e,Instr.alloc,zeroValue,typeInfo,k,hzz,xG]
end
theorem zU1 {α : Type} {x : α} : x = x ∧ True := ⟨rfl, trivial⟩
theorem zU2 {α β : Type} {x : α} {y : β} : x = x ∧ y = y ∧ True := ⟨rfl, rfl, trivial⟩
abbrev vI (x:Int):VP:=.vc (pI .i64 x)
abbrev vJ (x:Int):CP:=pI .i64 x
theorem zT:True:=trivial
/-- The digits of a number, the aNE one first. -/
def bP(n:Nat):List Int:=if h:n=0 then [] else((n%1000000000:Nat):Int)::bP (n/1000000000)
termination_by n
decreasing_by omega
def Z(n:Int):aF:=⟨decide (n<0),bP n.natAbs⟩
theorem aLH:∃f:Rat→d8,∀q,f q=⟨Z q.num,if q.den=1 then⟨false,[]⟩ else Z q.den⟩:=⟨_,fun _=>rfl⟩
noncomputable def Qr:Rat→d8:=Classical.choose aLH
theorem aCB(q:Rat):Qr q=⟨Z q.num,if q.den=1 then⟨false,[]⟩ else Z q.den⟩:=Classical.choose_spec aLH q
noncomputable def eQ(q:Rat):List CP:=(Qr q).e
noncomputable def cQ:Cd Rat:=⟨4,eQ,fun _=>rfl⟩
theorem vG:bP 0=[]:=by unfold bP;simp
theorem Qr0:Qr 0=⟨⟨false,[]⟩,⟨false,[]⟩⟩:=by rw[aCB];simp[Z,vG]
theorem eQ0(M:iE):bC M (eQ 0) [.bool false,.slice none 0 0,.bool false,.slice none 0 0]:=by
 unfold eQ;rw[Qr0];exact⟨rfl,jV cI M,rfl,jV cI M,trivial⟩
def qs(q:Rat):Bool:=Nat.ble q.num.natAbs.log2 1073741824&&Nat.ble q.den.log2 1073741824
def aKw(a b:Rat):Option Rat:=bif qs a&&qs b then some (a+b) else none
def aFs(a b:Rat):Option Rat:=bif qs a&&qs b then some (a-b) else none
def aHf(a b:Rat):Option Rat:=bif qs a&&qs b then some (a*b) else none
def aJn(a b:Rat):Option Rat:=bif qs a&&qs b then some (a/b) else none
def aF2(a:Rat):Option Rat:=bif qs a then some (-a) else none
def yN(a:Rat):Option Int:=bif qs a then some a.num.sign else none
def xR(a b:Rat):Option Bool:=bif qs a&&qs b then some (decide (a=b)) else none
def qof(p q:Int):Option Rat:=(aV p).bind fun p=>(aV q).bind fun q=>some ((p:Rat)/q)
theorem qB{x:Int}(h:-9223372036854775808≤x∧x≤9223372036854775807):aV x=some x:=by unfold aV;rw[if_pos h]
theorem qL{x y:Int}(e:0≤x)(f:0<y)(h:x≤9223372036854775807):vX x y=some (x/y):=by
 unfold vX;rw[if_neg (by omega),Int.tdiv_eq_ediv_of_nonneg e];have a:=Int.ediv_nonneg e (Int.le_of_lt f);have b:=Int.ediv_le_self y e;exact qB ⟨by omega,by omega⟩
theorem oV{x y:Int}(e:0≤x)(f:0<y):wA x y=some (x%y):=by
 unfold wA;rw[if_neg (by omega),Int.tmod_eq_emod_of_nonneg e]
theorem cV{xs:List Int}{i:Nat}(h:i<xs.length):cT xs (i:Int)=some (xs.getD i 0):=by
 unfold cT;rw[if_pos (by omega)];simp[List.getD_eq_getElem?_getD,h]
theorem p7{xs:List Int}{i:Nat}{v:Int}(h:i<xs.length):oZ xs (i:Int) v=some (xs.set i v):=by
 unfold oZ;rw[if_pos (by constructor;omega;simpa using h)];simp
theorem aDY{α:Type}{xs:List α}{n:Nat}(h:n≤xs.length):xN xs 0 (n:Int)=some (xs.take n):=by
 unfold xN;rw[if_pos (by omega)];simp
theorem xC{α:Type}{n:Nat}{z:α}(h:n≤68719476736):xU (n:Int) z=some (List.replicate n z):=by
 unfold xU;rw[if_pos (by omega)];simp
theorem aAp{α:Type}{xs ys:List α}(h:xs.length+ys.length≤68719476736):uK xs ys=some (xs++ys):=by
 unfold uK;rw[if_pos h]
theorem d9{α:Type}{x y:α}:(bif true then x else y)=x:=id rfl
theorem eD{α:Type}{x y:α}:(bif false then x else y)=y:=id rfl
theorem oB{α β:Type}{x:α}{f:α→Option β}:(some x).bind f=f x:=id rfl
def Ev{α:Type}(f:Nat→Option α)(r:α):Prop:=∃N,∀K,N≤K→f K=some r
theorem Ev.pure{α:Type}(r:α):Ev (fun _=>some r) r:=⟨0,fun _ _=>rfl⟩
theorem Ev.bind{α β:Type}{f:Nat→Option α}{g:Nat→α→Option β}{x:α}{r:β}(h:Ev f x)(k:Ev (fun K=>g K x) r):Ev (fun K=>(f K).bind (g K)) r:=by
 obtain⟨N,h⟩:=h;obtain⟨M,k⟩:=k;exact⟨max N M,fun K e=>by show(f K).bind (g K)=_;rw[h K (by omega)];exact k K (by omega)⟩
theorem Ev.of{α:Type}{f:Nat→Option α}{r:α}(h:∀K,f K=some r):Ev f r:=⟨0,fun K _=>h K⟩
def sB{α:Type}(f:Nat→Nat→Option α)(r:α):Prop:=∃N,∀K k,N≤K→N≤k→f K k=some r
theorem sB.ev{α:Type}{f:Nat→Nat→Option α}{r:α}(h:sB f r):Ev (fun K=>f K K) r:=by
 obtain⟨N,h⟩:=h;exact⟨N,fun K e=>h K K e e⟩
theorem sB.of{α:Type}{f:Nat→Nat→Option α}{r:α}(n:Nat)(h:∀K k,n≤k→f K k=some r):sB f r:=⟨n,fun K k _ e=>h K k e⟩
theorem sB.step{α:Type}{f:Nat→Nat→Option α}{r:α}(h:sB (fun K k=>f K (k+1)) r):sB f r:=by
 obtain⟨N,h⟩:=h;refine⟨N+1,fun K k j q=>?_⟩;obtain⟨e,rfl⟩:∃e,k=e+1:=⟨k-1,by omega⟩;exact h K e (by omega) (by omega)
theorem sB.bind{α β:Type}{f:Nat→Option α}{g:Nat→Nat→α→Option β}{x:α}{r:β}(h:Ev f x)(k:sB (fun K k=>g K k x) r):sB (fun K k=>(f K).bind (g K k)) r:=by
 obtain⟨N,h⟩:=h;obtain⟨M,k⟩:=k;exact⟨max N M,fun K j e q=>by show(f K).bind (g K j)=_;rw[h K (by omega)];exact k K j (by omega) (by omega)⟩
theorem Ev.congr{α:Type}{f g:Nat→Option α}{r:α}(h:Ev g r)(e:∀K,f K=g K):Ev f r:=by
 obtain⟨N,h⟩:=h;exact⟨N,fun K a=>by rw[e];exact h K a⟩
def PB:Nat→Int
 |0=>1
 |n+1=>PB n*1000000000
theorem oU:∀n,0<PB n
 |0=>by decide
 |n+1=>by have:=oU n;simp only[PB];omega
theorem yK(a:Nat):∀b,PB (a+b)=PB a*PB b
 |0=>by simp[PB]
 |b+1=>by rw[←Nat.add_assoc];simp only[PB];rw[yK a b];grind
theorem aA4{a b:Nat}(h:a≤b):PB a≤PB b:=by
 obtain⟨c,rfl⟩:=Nat.exists_eq_add_of_le h;rw[yK];have e:=oU a;have f:=oU c;have:PB a*1≤PB a*PB c:=Int.mul_le_mul_of_nonneg_left (by omega) (by omega);omega
theorem aNb{a b:Nat}(h:PB a<PB b):a<b:=by
 rcases Nat.lt_or_ge a b with e|e
 ·exact e
 ·have:=aA4 e;omega
theorem aHM:∀n,(2:Int)^(29*n)≤PB n
 |0=>by simp[PB]
 |n+1=>by
  have ih:=aHM n;rw[Nat.mul_add,Nat.mul_one,Int.pow_add];simp only[PB];have e:=oU n;have f:(0:Int)<2^(29*n):=Int.pow_pos (by decide);have:(2:Int)^29=536870912:=by decide
  rw[this];omega
def W(u:List Int)(j:Nat):Nat→Int
 |0=>0
 |n+1=>W u j n+u.getD (j+n) 0*PB n
theorem dG(u:List Int)(j n:Nat):W u j (n+1)=W u j n+u.getD (j+n) 0*PB n:=rfl
theorem aLT(u:List Int)(j:Nat):W u j 0=0:=rfl
theorem aAH{u v:List Int}{j k:Nat}:∀{n:Nat},(∀i,i<n→u.getD (j+i) 0=v.getD (k+i) 0)→W u j n=W v k n
 |0,_=>rfl
 |n+1,h=>by rw[dG,dG,aAH (n:=n) (fun i e=>h i (by omega)),h n (by omega)]
theorem s0(u:List Int)(j a:Nat):∀b,W u j (a+b)=W u j a+PB a*W u (j+a) b
 |0=>by simp[W]
 |b+1=>by
  rw[←Nat.add_assoc,dG,dG,s0 u j a b,yK,Nat.add_assoc];grind
theorem aBI{u:List Int}{j:Nat}:∀{n:Nat},(∀i,i<n→u.getD (j+i) 0=0)→W u j n=0
 |0,_=>rfl
 |n+1,h=>by rw[dG,aBI (n:=n) (fun i e=>h i (by omega)),h n (by omega)];simp
theorem wF(u:List Int)(k:Nat)(v:Int)(i:Nat):(u.set k v).getD i 0=if i=k∧k<u.length then v else u.getD i 0:=by
 simp only[List.getD_eq_getElem?_getD,List.getElem?_set];by_cases h:k=i
 ·subst h;by_cases f:k<u.length
  ·simp[f]
  ·simp[f]
 ·rw[if_neg h,if_neg (fun e=>h e.1.symm)]
theorem rQ{u:List Int}{i:Nat}(h:u.length≤i):u.getD i 0=0:=by
 simp[List.getD_eq_getElem?_getD,List.getElem?_eq_none h]
theorem eO{u:List Int}{k i:Nat}{v:Int}(h:i≠k):(u.set k v).getD i 0=u.getD i 0:=by
 rw[wF,if_neg (fun e=>h e.1)]
theorem dU{u:List Int}{k:Nat}{v:Int}(h:k<u.length):(u.set k v).getD k 0=v:=by
 rw[wF,if_pos ⟨rfl,h⟩]
theorem t5{u:List Int}{k j n:Nat}{v:Int}(h:k<j∨j+n≤k):W (u.set k v) j n=W u j n:=
 aAH fun i e=>eO (by omega)
theorem aFd{u v:List Int}{i:Nat}(h:i<u.length):(u++v).getD i 0=u.getD i 0:=by
 simp[List.getD_eq_getElem?_getD,List.getElem?_append_left h]
theorem aC5{u:List Int}{x:Int}:(u++[x]).getD u.length 0=x:=by
 simp[List.getD_eq_getElem?_getD]
theorem aIx{u:List Int}{x:Int}:W (u++[x]) 0 (u.length+1)=W u 0 u.length+x*PB u.length:=by
 rw[dG,Nat.zero_add,aC5,aAH (v:=u) (k:=0)];intro i e;rw[Nat.zero_add];exact aFd e
theorem w7{u:List Int}{n:Nat}(h:u.length≤n):W u 0 n=W u 0 u.length:=by
 obtain⟨c,rfl⟩:=Nat.exists_eq_add_of_le h;rw[s0,aBI (j:=0+u.length) (fun i _=>rQ (by omega))];simp
def kM(u:List Int):Prop:=∀i,0≤u.getD i 0∧u.getD i 0<1000000000
def Dr(u:List Int)(j n:Nat):Prop:=∀i,i<n→0≤u.getD (j+i) 0∧u.getD (j+i) 0<1000000000
theorem kM.dr{u:List Int}(h:kM u)(j n:Nat):Dr u j n:=fun i _=>h _
theorem Dr.ok{u:List Int}(h:Dr u 0 u.length):kM u:=fun i=>by
 rcases Nat.lt_or_ge i u.length with e|e
 ·have:=h i e;rwa [Nat.zero_add]at this
 ·rw[rQ e];omega
theorem wV{u:List Int}{j:Nat}:∀{n:Nat},Dr u j n→0≤W u j n∧W u j n<PB n
 |0,_=>⟨Int.le_refl _,oU 0⟩
 |n+1,h=>by
  obtain⟨f,k⟩:=wV (n:=n) (fun i q=>h i (by omega));obtain⟨e,s⟩:=h n (by omega);have hp:=oU n;rw[dG];have t:0≤u.getD (j+n) 0*PB n:=Int.mul_nonneg e (by omega);have x:u.getD (j+n) 0*PB n≤999999999*PB n:=Int.mul_le_mul_of_nonneg_right (by omega) (by omega);simp only[PB];omega
theorem aFP(d:Int)(t:List Int):W (d::t) 0 (t.length+1)=d+1000000000*W t 0 t.length:=by
 rw[Nat.add_comm,s0];have e:W (d::t) 0 1=d:=by simp[W,PB]
 have f:W (d::t) (0+1) t.length=W t 0 t.length:=aAH fun i _=>by
  rw[show 0+1+i=i+1 by omega];simp
 have h:PB 1=1000000000:=by decide
 rw[e,f,h]
abbrev vD (u:List Int):Int:=W u 0 u.length
theorem kM.nonneg{u:List Int}(h:kM u):0≤vD u:=(wV (h.dr 0 _)).1
theorem kM.lt{u:List Int}(h:kM u):vD u<PB u.length:=(wV (h.dr 0 _)).2
theorem kM.tail{d:Int}{t:List Int}(h:kM (d::t)):kM t:=fun i=>by simpa using h (i+1)
theorem kM.head{d:Int}{t:List Int}(h:kM (d::t)):0≤d∧d<1000000000:=by simpa using h 0
theorem kM.nil:kM []:=fun i=>by simp
theorem kM.cons{d:Int}{t:List Int}(h:kM t)(e:0≤d)(f:d<1000000000):kM (d::t):=fun i=>by
 cases i with
 |zero=>simpa using⟨e,f⟩
 |succ i=>simpa using h i
theorem sE{n:Nat}(h:n≠0):bP n=((n%1000000000:Nat):Int)::bP (n/1000000000):=by
 rw[bP];simp[h]
theorem aGa(n:Nat):kM (bP n)∧vD (bP n)=n:=by
 induction n using Nat.strongRecOn with
 |_ n ih=>
  by_cases h:n=0
  ·subst h;rw[vG];exact⟨kM.nil,rfl⟩
  ·rw[sE h];obtain⟨f,e⟩:=ih (n/1000000000) (by omega);refine⟨f.cons (by omega) (by omega),?_⟩;show W _ 0 (_+1)=_;rw[aFP];unfold vD at e;rw[e];omega
theorem bT(n:Nat):kM (bP n):=(aGa n).1
theorem dX(n:Nat):vD (bP n)=n:=(aGa n).2
def Top(u:List Int):Prop:=u=[]∨u.getD (u.length-1) 0≠0
theorem Top.tail{d:Int}{t:List Int}(h:Top (d::t)):Top t:=by
 rcases h with h|h
 ·cases h
 ·cases t with
  |nil=>exact .inl rfl
  |cons e t=>exact .inr (by simpa using h)
theorem Top.pos{u:List Int}(h:Top u)(e:kM u)(f:u≠[]):PB (u.length-1)≤vD u:=by
 rcases h with h|h
 ·exact absurd h f
 ·have j:0<u.length:=List.length_pos_iff.2 f;obtain⟨m,hm⟩:∃m,u.length=m+1:=⟨u.length-1,by omega⟩;unfold vD;rw[hm]at h ⊢;simp only[Nat.add_sub_cancel]at h ⊢;rw[dG,Nat.zero_add];have k:=(wV (e.dr 0 m)).1;have q:=(e m).1;have s:=oU m;have:1*PB m≤u.getD m 0*PB m:=Int.mul_le_mul_of_nonneg_right (by omega) (by omega);omega
theorem aJ6{u:List Int}(h:kM u)(e:Top u):bP (vD u).toNat=u:=by
 induction u with
 |nil=>exact vG
 |cons d t ih=>
  have k:=e.pos h (by simp);have hp:=oU ((d::t).length-1);have hv:vD (d::t)=d+1000000000*vD t:=aFP d t;have hh:=h.head;have q:=h.tail.nonneg;have ih':=ih h.tail e.tail;rw[sE (by omega)];have f:(vD (d::t)).toNat%1000000000=d.toNat:=by omega
  have j:(vD (d::t)).toNat/1000000000=(vD t).toNat:=by omega
  rw[f,j,ih'];congr 1;omega
theorem oJ(n:Nat):Top (bP n):=by
 induction n using Nat.strongRecOn with
 |_ n ih=>
  by_cases h:n=0
  ·subst h;rw[vG];exact .inl rfl
  ·rw[sE h];by_cases f:n/1000000000=0
   ·rw[f,vG];exact .inr (by simp;omega)
   ·rcases ih (n/1000000000) (by omega) with e|e
    ·rw[sE f]at e;cases e
    ·refine .inr ?_;rw[sE f]at e ⊢;simpa using e
theorem aCb{n:Nat}:bP n=[]↔n=0:=by
 constructor
 ·intro h;have:=dX n;rw[h]at this;have e:vD ([]:List Int)=0:=rfl;omega
 ·rintro rfl;exact vG
def dl(n:Nat):Nat:=(bP n).length
theorem uH:dl 0=0:=by unfold dl;rw[vG];rfl
theorem s5{n:Nat}:dl n=0↔n=0:=by unfold dl;rw[List.length_eq_zero_iff];exact aCb
theorem aCC(n:Nat):(n:Int)<PB (dl n):=by
 have:=(bT n).lt
 rwa [dX]at this
theorem z3{n k:Nat}(h:(n:Int)<PB k):dl n≤k:=by
 by_cases e:n=0
 ·subst e;rw[uH];omega
 ·have:=(oJ n).pos (bT n) (by rw[Ne,aCb];exact e);rw[dX]at this;have f:dl n≠0:=by rw[Ne,s5];exact e
  have:dl n-1<k:=aNb (by unfold dl;omega);omega
theorem n9{m n:Nat}(h:m≤n):dl m≤dl n:=z3 (by have:=aCC n;omega)
theorem aCn(m n:Nat):dl (m*n)≤dl m+dl n:=by
 refine z3 ?_;rw[yK];have e:=aCC m;have f:=aCC n;have:(m:Int)*n≤m*PB (dl n):=Int.mul_le_mul_of_nonneg_left (by omega) (by omega);have h:(m:Int)*PB (dl n)<PB (dl m)*PB (dl n):=Int.mul_lt_mul_of_pos_right e (oU _);simp only[Int.natCast_mul];omega
theorem aLP{m n k:Nat}(e:dl m≤k)(f:dl n≤k):dl (m+n)≤k+1:=by
 refine z3 ?_;have a:=aCC m;have b:=aCC n;have c:=aA4 e;have d:=aA4 f;have:=oU k;simp only[PB,Int.natCast_add];omega
theorem aH6(n:Nat):29*dl n≤n.log2+29:=by
 by_cases e:n=0
 ·subst e;rw[uH];omega
 ·have h:=(oJ n).pos (bT n) (by rw[Ne,aCb];exact e);rw[dX]at h;have j:=aHM ((bP n).length-1);have k:n<2^(n.log2+1):=(Nat.log2_lt e).1 (by omega);have q:(2:Int)^(29*(dl n-1))<2^(n.log2+1):=by
   have:((2^(n.log2+1):Nat):Int)=2^(n.log2+1):=by simp
   unfold dl;omega
  have s:29*(dl n-1)<n.log2+1:=by
   rcases Nat.lt_or_ge (29*(dl n-1)) (n.log2+1) with h|h
   ·exact h
   ·have:(2:Int)^(n.log2+1)≤2^(29*(dl n-1)):=by
     have:=Nat.pow_le_pow_right (n:=2) (by decide) h;have f:((2^(n.log2+1):Nat):Int)≤((2^(29*(dl n-1)):Nat):Int):=by omega
     simpa using f
    omega
  omega
end Go.Proofs.YtnmdhmfofbfkjaaGreat
