/- Texts of the proof, part 1: K1 K2 K3 K4 K5 K6 K7 K8 K9 K10 K11 D1 K12 K13 K14 D2 P1. -/
import Derived.Tactics
import Derived.Scope
import Derived.Orders
import Derived.TacticsIn
import Derived.OrdersIn
import Derived.RangeFuncRecord
import Derived.Laws.Cells
import Derived.Laws.OwnMore
import Derived.Laws.MakeOwn
import Derived.Laws.Rows
import Derived.Deep.OwnRows
import Derived.Laws.StructEq
import Derived.Laws.Cover3
import Derived.Laws.Tables
import Derived.Laws.Slices
import Derived.Laws.IdiomCopy
import Derived.Laws.CopyOwn
import Derived.KernelRfl
set_option linter.unusedSimpArgs false
set_option linter.unusedVariables false
namespace Go.Proofs.YtolfcbpgmfbgmaaGreat
abbrev jI:=Nat→Option Obj
def oX (M M':jI):Prop:=∀b o,M b=some o→M' b=some o
theorem oX.refl (M:jI):oX M M:=fun _ _ h=>h
theorem oX.trans {A B C:jI} (h:oX A B) (k:oX B C):oX A C:=fun b o x=>k b o (h b o x)
def y0 (M:jI) (b i:Nat):Option Value:=
 match M b with
 |some (.cells c _ _)=>c[i]?
 |_=>none
theorem aJ7 {M M':jI} (h:oX M M') {b i:Nat} {v:Value} (hc:y0 M b i=some v):y0 M' b i=some v:=by
 unfold y0 at *
 cases hb:M b with
 |none=>rw [hb] at hc;cases hc
 |some o=>rw [hb] at hc;rw [h b o hb];exact hc
def mlc (M M':jI):Prop:=∀b i v,y0 M b i=some v→y0 M' b i=some v
theorem oX.c {M M':jI} (h:oX M M'):mlc M M':=fun _ _ _=>aJ7 h
theorem mlc.trans {A B C:jI} (h:mlc A B) (k:mlc B C):mlc A C:=fun b i v x=>k b i v (h b i v x)
structure CP where
 h:jI→Value→Prop
 monoc:∀{M M' v},mlc M M'→h M v→h M' v
 one:∀{M v},h M v→v.oneCell'=true
theorem CP.mono (p:CP) {M M':jI} {v:Value} (hm:oX M M') (h:p.h M v):p.h M' v:=p.monoc hm.c h
def bB (M:jI):List CP→List Value→Prop
 |[],[]=>True
 |p::ps,v::vs=>p.h M v∧bB M ps vs
 |_,_=>False
theorem bB.len {M:jI}:∀{ps:List CP} {vs:List Value},bB M ps vs→vs.length=ps.length
 |[],[],_=>rfl
 |_::_,_::_,h=>by simp [bB.len h.2]
 |[],_::_,h=>h.elim
 |_::_,[],h=>h.elim
theorem bB.monoc {M M':jI} (hm:mlc M M'):∀{ps:List CP} {vs:List Value},bB M ps vs→bB M' ps vs
 |[],[],_=>trivial
 |p::_,_::_,h=>⟨p.monoc hm h.1,bB.monoc hm h.2⟩
 |[],_::_,h=>h.elim
 |_::_,[],h=>h.elim
theorem bB.mono {M M':jI} (hm:oX M M') {ps:List CP} {vs:List Value} (h:bB M ps vs):bB M' ps vs:=h.monoc hm.c
theorem bB.one {M:jI}:∀{ps:List CP} {vs:List Value},bB M ps vs→∀v∈vs,v.oneCell'=true
 |[],[],_=>by simp
 |p::_,v::_,h=>by
  intro u hu
  rcases List.mem_cons.1 hu with rfl|hu
  ·exact p.one h.1
  ·exact bB.one h.2 u hu
 |[],_::_,h=>h.elim
 |_::_,[],h=>h.elim
theorem bB.app {M:jI}:∀{ps qs:List CP} {vs us:List Value},bB M ps vs→bB M qs us→bB M (ps++qs) (vs++us)
 |[],_,[],_,_,h=>h
 |_::_,_,_::_,_,h,k=>⟨h.1,bB.app h.2 k⟩
 |[],_,_::_,_,h,_=>h.elim
 |_::_,_,[],_,h,_=>h.elim
theorem bB.take {M:jI}:∀(n:Nat) {ps:List CP} {vs:List Value},bB M ps vs→bB M (ps.take n) (vs.take n)
 |0,_,_,_=>by simp [bB]
 |_+1,[],[],_=>trivial
 |n+1,_::_,_::_,h=>⟨h.1,bB.take n h.2⟩
 |_+1,[],_::_,h=>h.elim
 |_+1,_::_,[],h=>h.elim
theorem bB.drop {M:jI}:∀(n:Nat) {ps:List CP} {vs:List Value},bB M ps vs→bB M (ps.drop n) (vs.drop n)
 |0,_,_,h=>by simpa using h
 |_+1,[],[],_=>trivial
 |n+1,_::_,_::_,h=>bB.drop n h.2
 |_+1,[],_::_,h=>h.elim
 |_+1,_::_,[],h=>h.elim
theorem bB.at {M:jI}:∀{ps:List CP} {vs:List Value} (i:Nat) {p:CP},bB M ps vs→ps[i]?=some p→∃v,vs[i]?=some v∧p.h M v
 |[],_,i,_,_,h=>by simp at h
 |q::ps,v::vs,0,p,h,e=>by
  simp at e;subst e;exact⟨v,rfl,h.1⟩
 |q::ps,v::vs,i+1,p,h,e=>by
  have:=bB.at (ps:=ps) (vs:=vs) i (p:=p) h.2 (by simpa using e)
  simpa using this
 |_::_,[],_,_,h,_=>h.elim
inductive VP
 |vc (p:CP)
 |va (ps:List CP)
 |t2 (x y:VP)
 |t3 (x y z:VP)
 |t4 (x y z u:VP)
 |any
 |un
def VP.h:VP→jI→Value→Prop
 | .vc p,M,v=>p.h M v
 | .va ps,M,v=>∃vs:List Value,v=.agg vs.toArray∧bB M ps vs
 | .t2 x y,M,v=>∃a b,v=.tuple #[a,b]∧x.h M a∧y.h M b
 | .t3 x y z,M,v=>∃a b c,v=.tuple #[a,b,c]∧x.h M a∧y.h M b∧z.h M c
 | .t4 x y z u,M,v=>∃a b c d,v=.tuple #[a,b,c,d]∧x.h M a∧y.h M b∧z.h M c∧u.h M d
 | .any,_,_=>True
 | .un,_,v=>v=undef
theorem VP.monoc {M M':jI} (hm:mlc M M'):∀{p:VP} {v:Value},p.h M v→p.h M' v
 | .vc p,_,h=>p.monoc hm h
 | .va _,_,⟨vs,e,h⟩=>⟨vs,e,bB.monoc hm h⟩
 | .t2 x y,_,⟨a,b,e,h,k⟩=>⟨a,b,e,VP.monoc hm h,VP.monoc hm k⟩
 | .t3 x y z,_,⟨a,b,c,e,h,k,l⟩=>⟨a,b,c,e,VP.monoc hm h,VP.monoc hm k,VP.monoc hm l⟩
 | .t4 x y z u,_,⟨a,b,c,d,e,h,k,l,m⟩=>⟨a,b,c,d,e,VP.monoc hm h,VP.monoc hm k,VP.monoc hm l,VP.monoc hm m⟩
 | .any,_,_=>trivial
 | .un,_,h=>h
theorem VP.mono {M M':jI} (hm:oX M M') {p:VP} {v:Value} (h:p.h M v):p.h M' v:=VP.monoc hm.c h
def VP.cells:VP→List CP
 | .vc p=>[p]
 | .va ps=>ps
 |_=>[]
def VP.flat:VP→Prop
 | .vc _=>True
 | .va _=>True
 |_=>False
theorem VP.cells_of {M:jI} {p:VP} {v:Value} (hf:p.flat) (h:p.h M v):bB M p.cells v.cells.toList:=by
 cases p with
 |vc p=>
  have h1:v.oneCell'=true:=p.one h
  have:v.cells=#[v]:=by cases v<;>first|rfl|simp [Value.oneCell'] at h1
  rw [this];exact⟨h,trivial⟩
 |va ps=>obtain⟨vs,rfl,h⟩:=h;simpa [Value.cells,VP.cells] using h
 |_=>exact hf.elim
def sv (β:Option Nat) (n c:Nat):Value:=.slice (β.map fun b=>⟨b,0,none⟩) n c
structure HA where
 β:Option Nat
 c:Nat
 T:TypeId
 sz:Nat
 n:Nat
 ps:List CP
def HA.ok (e:HA) (M:jI) (w:World):Prop:=
 (∃vs,w.ownsRow 0 e.T e.sz (sv e.β e.n e.c) e.n vs∧bB M e.ps vs)∧∀b,e.β=some b→M b=none
def Mok (M:jI) (w:World):Prop:=∀b o,M b=some o→w.heap[b]?=some o
structure NX where
 n:Nat
 fr:Nat→Prop
 rd:Option Nat
 rc:Option (Nat×Obj)
instance:Coe NX Nat:=⟨NX.n⟩
instance:Coe Nat NX:=⟨fun n=>⟨n,fun _=>False,none,none⟩⟩
instance (k:Nat):OfNat NX k:=⟨⟨k,fun _=>False,none,none⟩⟩
structure Sx where
 P:Program
 w0:World
 M0:jI
 B:List Nat
 N:NX
abbrev Fw (rd:Option Nat):Fence:={Fence.wide with round:=rd}
abbrev Sx.F (S:Sx):Fence:=Fw S.N.rd
def MK (N:NX) (M:jI) (ds:List Deferred):Prop:=
 (∀d∈ds,∃D,d={target:=.collected D,args:=#[]}∧N.fr D∧M D=some (.deferred (some [])))∧ds.Nodup∧∀l o,N.rc=some (l,o)→M l=some o
theorem MK.mono {N:NX} {M M':jI} {ds:List Deferred} (h:MK N M ds) (hm:oX M M'):MK N M' ds:=
 ⟨fun d hd=>let ⟨D,h1,h2,h3⟩:=h.1 d hd;⟨D,h1,h2,hm _ _ h3⟩,h.2.1,fun l o e=>hm _ _ (h.2.2 l o e)⟩
structure St (S:Sx) (M:jI) (w:World) (H:List HA):Prop where
 le0:oX S.M0 M
 mem:Mok M w
 keep:∀b,b<S.w0.heap.size→b∉S.B→w.heap[b]?=S.w0.heap[b]?
 new:∀b,b<S.w0.heap.size→b∉S.B→M b=S.M0 b
 size:S.w0.heap.size≤w.heap.size
 os:w.os=S.w0.os
 tape:w.tape=S.w0.tape
 output:w.output=S.w0.output
 own:∀e∈H,e.ok M w
 fresh:∀e∈H,∀b,e.β=some b→S.w0.heap.size≤b∨b∈S.B
 nodup:(H.filterMap HA.β).Nodup
theorem St.cell {S:Sx} {M:jI} {w:World} {H:List HA} (h:St S M w H) {b i:Nat} {v:Value} (hc:y0 M b i=some v):w.cell? ⟨b,i,none⟩=some v:=by
 unfold y0 at hc
 cases hb:M b with
 |none=>rw [hb] at hc;cases hc
 |some o=>
  rw [hb] at hc
  have:=h.mem b o hb
  unfold World.cell?
  rw [this]
  cases o<;>simp_all
theorem aA2 {a b:Nat} (h:¬a=b):Nat.beq a b=false:=by
 cases hb:Nat.beq a b
 ·rfl
 ·exact absurd (Nat.eq_of_beq_eq_true hb) h
abbrev sN:=List (Nat×VP)
def jG:sN→Nat→Option VP
 |[],_=>none
 |(d,p)::l,x=>bif Nat.beq d x then some p else jG l x
structure Sat (N:NX) (M:jI) (a:Act) (E:sN):Prop where
 size:a.tmps.size=N.n
 defers:MK N M a.defers
 get:∀d p,jG E d=some p→∃v,a.tmps[d]?=some v∧p.h M v
theorem Sat.mono {N:NX} {M M':jI} {a:Act} {E:sN} (h:Sat N M a E) (hm:oX M M'):Sat N M' a E:=
 ⟨h.size,h.defers.mono hm,fun d p hl=>let ⟨v,e,k⟩:=h.get d p hl;⟨v,e,VP.mono hm k⟩⟩
theorem Sat.put {N:NX} {M:jI} {a:Act} {E:sN} (h:Sat N M a E) {d:Nat} {v:Value} {p:VP} (hd:Nat.blt d N=true) (hp:p.h M v):Sat N M (a.put (some d) v) ((d,p)::E):=by
 have hd':d<N.n:=by simpa using hd
 refine⟨by simp [Act.put,h.size],h.defers,fun x q hl=>?_⟩
 by_cases e:d=x
 ·subst e
  simp only [jG,Nat.beq_refl,cond_true,Option.some.injEq] at hl
  subst hl
  exact⟨v,by simp [Act.put,h.size,hd'],hp⟩
 ·have hb:Nat.beq d x=false:=aA2 e
  simp only [jG,hb,cond_false] at hl
  obtain⟨u,hu,hq⟩:=h.get x q hl
  exact⟨u,by simp [Act.put,Array.getElem?_setIfInBounds_ne e,hu],hq⟩
theorem xY {P:Program} {b:Frame} {a:Act} {k:List Item} {cs:List Frame} {w:World} {c:Code}:step P (lone (b.atR a (.code (.scope c)::k)) cs w)=.next (lone (b.atR a (.code c::.inScope c::k)) cs w):=
 step_lone_go (by simp [stepG,stepG.exec,Frame.atR])
theorem aGZ {P:Program} {b:Frame} {a:Act} {k:List Item} {cs:List Frame} {w:World} {c:Code}:step P (lone (b.atR a (.inScope c::k)) cs w)=.next (lone (b.atR a k) cs w):=
 step_lone_go (by simp [stepG,stepG.exec,Frame.atR])
theorem aDi {F:Fence} {n:Nat} {P:Program} {Q:Exit→Act→World→Prop} {a:Act} {w:World} {c:Code} (h:c.wpIn F n P (Exit.noGoto Q) a w):(Code.scope c).wpIn F n P Q a w:=by
 intro b k cs hro hb hr
 have h0:(lone (b.atR a (.code (.scope c)::k)) cs w).fenced P F:=fenced_calm hb hr rfl
 obtain⟨e,a₁,w₁,hq,harr⟩:=h b (.inScope c::k) cs hro hb hr
 cases e with
 |normal=>exact⟨.normal,a₁,w₁,hq,.head h0 xY (StepsIn.trans harr (.one (fenced_calm hb hr rfl) aGZ))⟩
 |exit id=>
  have hx:exitTo id (.inScope c::k)=exitTo id k:=by simp [exitTo]
  exact⟨.exit id,a₁,w₁,hq,fun k' hk=>.head h0 xY (harr.1 k' (by rw [hx];exact hk)),fun hr' hk=>let ⟨k₁,h1,h2⟩:=harr.2 hr' (by rw [hx];exact hk);⟨k₁,h1,.head h0 xY h2⟩⟩
 |goto l=>exact hq.elim
 |ret=>exact⟨_,a₁,w₁,hq,.of_steps (.one h0 xY) harr⟩
 |panic ch=>exact⟨_,a₁,w₁,hq,.of_steps (.one h0 xY) harr⟩
 |outgrown=>exact⟨_,a₁,w₁,hq,.of_steps (.one h0 xY) harr⟩
inductive Kt
 |base (Q:Exit→Act→World→Prop)
 |seq (y:Code) (k:Kt)
 |blk (id:Nat) (k:Kt)
 |lp (I:Act→World→Prop) (k:Kt)
 |sc (k:Kt)
def Kt.den (F:Fence) (P:Program):Kt→Exit→Act→World→Prop
 | .base Q=>Q
 | .seq y k=>Exit.then (y.wpIn F 0 P (k.den F P)) (k.den F P)
 | .blk id k=>Exit.inBlock id (k.den F P)
 | .lp I k=>Exit.then I (k.den F P)
 | .sc k=>Exit.noGoto (k.den F P)
def Kt.to (e:Exit):Kt→Exit×Kt
 | .base Q=>(e,.base Q)
 | .seq _ k=>k.to e
 | .lp _ k=>k.to e
 | .sc k=>k.to e
 | .blk id k=>match e with
  | .exit x=>bif Nat.beq x id then(.normal,k) else k.to e
  |_=>k.to e
def hs (S:Sx) (H:List HA) (E:sN) (a:Act) (w:World):Prop:=∃M,St S M w H∧Sat S.N M a E
def WC (S:Sx) (c:Code) (κ:Kt) (H:List HA) (E:sN):Prop:=∀a w,hs S H E a w→c.wpIn S.F 0 S.P (κ.den S.F S.P) a w
def WX (S:Sx) (e:Exit) (κ:Kt) (H:List HA) (E:sN):Prop:=∀a w,hs S H E a w→κ.den S.F S.P e a w
def WL (S:Sx) (ops:Array Oper) (κ:Kt) (r:List Oper) (H:List HA) (E:sN):Prop:=∀a w,hs S H E a w→wpListIn S.F 0 S.P ops (κ.den S.F S.P) r a w
section
variable {S:Sx} {κ:Kt} {H:List HA} {E:sN}
theorem aC {x y:Code} (h:WC S x (.seq y κ) H E):WC S (.seq x y) κ H E:=fun a w hh=>wpIn_seq (h a w hh)
theorem aJ {y:Code} (h:WC S y κ H E):WX S .normal (.seq y κ) H E:=fun a w hh=>h a w hh
theorem eU (h:WX S .normal κ H E):WC S .skip κ H E:=fun a w hh=>wpIn_skip (h a w hh)
theorem aO3 {l:Nat} (h:WX S .normal κ H E):WC S (.label l) κ H E:=fun a w hh=>wpIn_label (h a w hh)
theorem aG {id:Nat} {c:Code} (h:WC S c (.blk id κ) H E):WC S (.block id c) κ H E:=fun a w hh=>wpIn_block (h a w hh)
theorem aCz {id:Nat} (h:WX S .normal κ H E):WX S .normal (.blk id κ) H E:=fun a w hh=>h a w hh
theorem aKL {c:Code} (h:WC S c (.sc κ) H E):WC S (.scope c) κ H E:=fun a w hh=>aDi (h a w hh)
theorem aS4 (h:WX S .normal κ H E):WX S .normal (.sc κ) H E:=fun a w hh=>h a w hh
theorem aRp {id:Nat} (h:WX S (.exit id) κ H E):WC S (.exit id) κ H E:=fun a w hh=>wpIn_exit (h a w hh)
theorem dQ (h:WX S .ret κ H E):WC S .ret κ H E:=fun a w hh=>wpIn_ret (h a w hh)
theorem Kt.to_den {F:Fence} {P:Program} {e:Exit} (he:e≠.normal) (hg:∀l,e≠.goto l) (a:Act) (w:World):∀(κ:Kt),(κ.to e).2.den F P (κ.to e).1 a w→κ.den F P e a w
 | .base Q,h=>h
 | .seq y k,h=>by
  have:=Kt.to_den he hg a w k h
  cases e<;>first|exact this|exact absurd rfl he
 | .lp I k,h=>by
  have:=Kt.to_den he hg a w k h
  cases e<;>first|exact this|exact absurd rfl he
 | .sc k,h=>by
  have:=Kt.to_den he hg a w k h
  cases e with
  |goto l=>exact absurd rfl (hg l)
  |_=>exact this
 | .blk id k,h=>by
  cases e with
  |exit x=>
   by_cases hx:x=id
   ·subst hx
    simp only [Kt.to,Nat.beq_refl,cond_true] at h
    simpa [Kt.den,Exit.inBlock] using h
   ·have hb:Nat.beq x id=false:=aA2 hx
    simp only [Kt.to,hb,cond_false] at h
    simpa [Kt.den,Exit.inBlock,hx] using Kt.to_den he hg a w k h
  |normal=>exact absurd rfl he
  |ret=>exact Kt.to_den he hg a w k h
  |goto l=>exact Kt.to_den he hg a w k h
  |panic ch=>exact Kt.to_den he hg a w k h
  |outgrown=>exact Kt.to_den he hg a w k h
theorem aR5 {id:Nat} (h:WX S (κ.to (.exit id)).1 (κ.to (.exit id)).2 H E):WX S (.exit id) κ H E:=fun a w hh=>Kt.to_den (by simp) (by simp) a w κ (h a w hh)
theorem dL (h:WX S (κ.to .ret).1 (κ.to .ret).2 H E):WX S .ret κ H E:=fun a w hh=>Kt.to_den (by simp) (by simp) a w κ (h a w hh)
theorem aV {id:Nat} (h:WX S (κ.to (.exit id)).1 (κ.to (.exit id)).2 H E):WC S (.exit id) κ H E:=aRp (aR5 h)
theorem aH {id:Nat} {l:List Oper} (h:WL S l.toArray κ l H E):WC S (.region id l.toArray false) κ H E:=fun a w hh=>wpIn_region_lit (h a w hh)
theorem aT {ops:Array Oper} (h:WX S .normal κ H E):WL S ops κ [] H E:=fun a w hh=>wpListIn_nil (h a w hh)
theorem aRk {body:Code} (I:Nat→Act→World→Prop) (h0:∀a w,¬I 0 a w)
  (step:∀k a w,I (k+1) a w→body.wpIn S.F 0 S.P ((Kt.lp (I k) κ).den S.F S.P) a w):∀k a w,I k a w→(Code.loop body).wpIn S.F 0 S.P (κ.den S.F S.P) a w:=by
 intro k a w hI b kk cs hro hb hr
 have key:∀n a w,I n a w→
   ∃e a' w',κ.den S.F S.P e a' w'∧ArrivesIn (Machine.fenced S.P S.F) S.P (lone (b.atR a (.code body::.inLoop body::kk)) cs w) b kk cs e a' w':=by
  intro n
  induction n with
  |zero=>intro a w h;exact absurd h (h0 a w)
  |succ n ih=>
   intro a w h
   obtain⟨e,a₁,w₁,hq,harr⟩:=step n a w h b (.inLoop body::kk) cs hro hb hr
   cases e with
   |normal=>
    obtain⟨e₂,a₂,w₂,hq₂,harr₂⟩:=ih a₁ w₁ hq
    exact⟨e₂,a₂,w₂,hq₂,.of_steps (StepsIn.trans harr (.one (fenced_calm hb hr rfl) stepR_inLoop)) harr₂⟩
   |exit id=>exact⟨_,a₁,w₁,hq,.pass (x:=.inLoop body) rfl (fun _ _=>.inl (by simp)) harr⟩
   |goto l=>exact⟨_,a₁,w₁,hq,.pass (x:=.inLoop body) rfl (fun _ _=>.inl (by simp)) harr⟩
   |ret=>exact⟨_,a₁,w₁,hq,.pass (x:=.inLoop body) rfl (fun _ _=>.inl (by simp)) harr⟩
   |panic ch=>exact⟨_,a₁,w₁,hq,.pass (x:=.inLoop body) rfl (fun _ _=>.inl (by simp)) harr⟩
   |outgrown=>exact⟨_,a₁,w₁,hq,.pass (x:=.inLoop body) rfl (fun _ _=>.inl (by simp)) harr⟩
 obtain⟨e,a',w',hq,harr⟩:=key k a w hI
 exact⟨e,a',w',hq,.of_steps (.one (fenced_calm hb hr rfl) stepR_loop) harr⟩
def aGO (E:sN):sN→Prop
 |[]=>True
 |(d,p)::l=>jG E d=some p∧aGO E l
theorem aGO.get {E:sN}:∀{E':sN},aGO E E'→∀d p,jG E' d=some p→jG E d=some p
 |[],_,d,p,h=>by simp [jG] at h
 |(x,q)::l,hs,d,p,h=>by
  by_cases e:x=d
  ·subst e
   simp only [jG,Nat.beq_refl,cond_true,Option.some.injEq] at h
   subst h
   exact hs.1
  ·have hb:Nat.beq x d=false:=aA2 e
   simp only [jG,hb,cond_false] at h
   exact aGO.get hs.2 d p h
def cE (H:List HA):List Nat→Option (List HA)
 |[]=>some []
 |i::l=>match H[i]?,cE H l with
  |some e,some r=>some (e::r)
  |_,_=>none
theorem mI {H:List HA}:∀{l:List Nat} {H':List HA},cE H l=some H'→∀(j:Nat) (e:HA),H'[j]?=some e→∃i:Nat,l[j]?=some i∧H[i]?=some e
 |[],H',h,j,e,he=>by simp [cE] at h;subst h;simp at he
 |i::l,H',h,j,e,he=>by
  simp only [cE] at h
  cases h1:H[i]? with
  |none=>rw [h1] at h;simp at h
  |some x=>
   cases h2:cE H l with
   |none=>rw [h1,h2] at h;simp at h
   |some r=>
    rw [h1,h2] at h
    simp only [Option.some.injEq] at h
    subst h
    cases j with
    |zero=>simp at he;subst he;exact⟨i,rfl,h1⟩
    |succ j=>
     obtain⟨i',hi,hi'⟩:=mI h2 j e (by simpa using he)
     exact⟨i',by simpa using hi,hi'⟩
theorem aHA {α:Type} {l:List α} (h:l.Nodup) {i j:Nat} {x:α} (hi:l[i]?=some x) (hj:l[j]?=some x):i=j:=by
 obtain⟨hi',hix⟩:=List.getElem?_eq_some_iff.1 hi
 obtain⟨hj',hjx⟩:=List.getElem?_eq_some_iff.1 hj
 have:=(List.pairwise_iff_getElem.1 h)
 rcases Nat.lt_trichotomy i j with hlt|rfl|hlt
 ·exact absurd (hix.trans hjx.symm) (this i j hi' hj' hlt)
 ·rfl
 ·exact absurd (hjx.trans hix.symm) (this j i hj' hi' hlt)
theorem aAm {H:List HA} (hn:(H.filterMap HA.β).Nodup):∀{i j:Nat} {x y:HA} {b:Nat},H[i]?=some x→H[j]?=some y→x.β=some b→y.β=some b→i=j:=by
 induction H with
 |nil=>intro i j x y b h;simp at h
 |cons e H ih=>
  intro i j x y b hi hj hx hy
  have hmem:∀(k:Nat) (z:HA),H[k]?=some z→z.β=some b→b∈H.filterMap HA.β:=fun k z hk hz=>List.mem_filterMap.2 ⟨z,List.mem_of_getElem? hk,hz⟩
  cases i with
  |zero=>
   cases j with
   |zero=>rfl
   |succ j=>
    simp at hi hj
    subst hi
    rw [List.filterMap_cons_some hx] at hn
    exact absurd (hmem j y hj hy) (List.nodup_cons.1 hn).1
  |succ i=>
   cases j with
   |zero=>
    simp at hi hj
    subst hj
    rw [List.filterMap_cons_some hy] at hn
    exact absurd (hmem i x hi hx) (List.nodup_cons.1 hn).1
   |succ j=>
    simp at hi hj
    have hn':(H.filterMap HA.β).Nodup:=by
     cases he:e.β with
     |none=>rwa [List.filterMap_cons_none he] at hn
     |some c=>rw [List.filterMap_cons_some he] at hn;exact(List.nodup_cons.1 hn).2
    exact congrArg (·+1) (ih hn' hi hj hx hy)
theorem zV {H:List HA} (h:∀{i j:Nat} {x y:HA} {b:Nat},H[i]?=some x→H[j]?=some y→x.β=some b→y.β=some b→i=j):(H.filterMap HA.β).Nodup:=by
 induction H with
 |nil=>simp
 |cons e H ih=>
  have ih':=ih (fun {i j x y b} hi hj hx hy=>by have:=h (i:=i+1) (j:=j+1) (by simpa using hi) (by simpa using hj) hx hy;omega)
  cases he:e.β with
  |none=>rwa [List.filterMap_cons_none he]
  |some b=>
   rw [List.filterMap_cons_some he]
   refine List.nodup_cons.2 ⟨fun hm=>?_,ih'⟩
   obtain⟨z,hz,hzb⟩:=List.mem_filterMap.1 hm
   obtain⟨k,hk,hkz⟩:=List.getElem_of_mem hz
   have:=h (i:=0) (j:=k+1) (x:=e) (y:=z) (b:=b) (by simp) (by simp [hk,hkz]) he hzb
   omega
theorem St.pick {M:jI} {w:World} {H H':List HA} {l:List Nat} (h:St S M w H) (hp:cE H l=some H') (hl:l.Nodup):St S M w H' where
 le0:=h.le0
 mem:=h.mem
 keep:=h.keep
 new:=h.new
 size:=h.size
 os:=h.os
 tape:=h.tape
 output:=h.output
 own:=fun e he=>by
  obtain⟨j,hj,hje⟩:=List.getElem_of_mem he
  obtain⟨i,_,hi⟩:=mI hp j e (by simp [hj,hje])
  exact h.own e (List.mem_of_getElem? hi)
 fresh:=fun e he=>by
  obtain⟨j,hj,hje⟩:=List.getElem_of_mem he
  obtain⟨i,_,hi⟩:=mI hp j e (by simp [hj,hje])
  exact h.fresh e (List.mem_of_getElem? hi)
 nodup:=zV fun {i j x y b} hi hj hx hy=>by
  obtain⟨i',hi',hxi⟩:=mI hp i x hi
  obtain⟨j',hj',hyj⟩:=mI hp j y hj
  have:=aAm h.nodup hxi hyj hx hy
  subst this
  exact aHA hl hi' hj'
theorem zL {H H':List HA} {E E':sN} (l:List Nat) (hp:cE H l=some H') (hl:l.Nodup) (hE:aGO E E') {a:Act} {w:World} (h:hs S H E a w):hs S H' E' a w:=by
 obtain⟨M,h1,h2⟩:=h
 exact⟨M,h1.pick hp hl,h2.size,h2.defers,fun d p hd=>h2.get d p (hE.get d p hd)⟩
theorem aRD {e:Exit} {H H':List HA} {E E':sN} (l:List Nat) (hp:cE H l=some H') (hl:l.Nodup) (hE:aGO E E') (h:WX S e κ H' E'):WX S e κ H E:=fun a w hh=>h a w (zL l hp hl hE hh)
theorem aF {I:Act→World→Prop} (h:∀a w,hs S H E a w→I a w):WX S .normal (.lp I κ) H E:=fun a w hh=>h a w hh
theorem aQ7 {t:Nat} {b:Bool} {p:CP} {x y:Code} (ht:jG E t=some (.vc p)) (hp:∀M v,p.h M v→v=Value.bool b) (hx:b=true→WC S x κ H E) (hy:b=false→WC S y κ H E):WC S (.cond (.tmp t) x y) κ H E:=by
 intro a w hh
 have hv:a.eval (.tmp t)=.bool b:=by
  obtain⟨M,_,h2⟩:=hh
  obtain⟨v,e,k⟩:=h2.get t _ ht
  have:=hp M v k
  subst this
  simp [Act.eval,e]
 exact wpIn_cond_split hv (fun e=>hx e a w hh) (fun e=>hy e a w hh)
end
end Go.Proofs.YtolfcbpgmfbgmaaGreat
set_option linter.unusedVariables false
namespace Go.Proofs.YtolfcbpgmfbgmaaGreat
def pI (k:IntKind) (x:Int):CP:=⟨fun _ v=>v=.int k x,fun _ h=>h,fun h=>by subst h;rfl⟩
def pB (b:Bool):CP:=⟨fun _ v=>v=.bool b,fun _ h=>h,fun h=>by subst h;rfl⟩
def pP (β:Option Nat) (off:Nat):CP:=⟨fun _ v=>∃b,β=some b∧v=.pointer (some ⟨b,off,none⟩),fun _ h=>h,fun h=>by obtain⟨b,_,rfl⟩:=h;rfl⟩
def pO (β:Option Nat) (n c:Nat):CP:=⟨fun _ v=>v=sv β n c∨(β=none∧n=0∧c=0∧∃a,v=.slice (some a) 0 0),fun _ h=>h,fun h=>by rcases h with rfl|⟨_,_,_,a,rfl⟩<;>rfl⟩
def pF (f:Nat) (ps:List CP):CP:=⟨fun M v=>∃vs:List Value,v=.func (.func f) #[] vs.toArray∧bB M ps vs,fun hm ⟨vs,e,h⟩=>⟨vs,e,bB.monoc hm h⟩,fun h=>by obtain⟨vs,rfl,_⟩:=h;rfl⟩
def aSb:CP:=⟨fun _ v=>v.oneCell'=true,fun _ h=>h,fun h=>h⟩
def z9 (M:jI) (b o:Nat) (ps:List CP):Prop:=∃vs,bB M ps vs∧∀(t:Nat) u,vs[t]?=some u→y0 M b (o+t)=some u
theorem z9.monoc {M M':jI} (hm:mlc M M') {b o:Nat} {ps:List CP} (h:z9 M b o ps):z9 M' b o ps:=
 let ⟨vs,h1,h2⟩:=h;⟨vs,bB.monoc hm h1,fun t u e=>hm _ _ _ (h2 t u e)⟩
theorem z9.drop {M:jI} {b o:Nat} {ps:List CP} (k:Nat) (h:z9 M b o ps):z9 M b (o+k) (ps.drop k):=by
 obtain⟨vs,h1,h2⟩:=h
 refine⟨vs.drop k,h1.drop k,fun t u e=>?_⟩
 rw [List.getElem?_drop] at e
 have:=h2 _ u e
 rwa [←Nat.add_assoc] at this
def pM (ps:List CP):CP:=⟨fun M v=>∃b o,v=.pointer (some ⟨b,o,none⟩)∧z9 M b o ps,fun hm ⟨b,o,e,h⟩=>⟨b,o,e,h.monoc hm⟩,fun h=>by obtain⟨b,o,rfl,_⟩:=h;rfl⟩
structure Cd (α:Type) where
 n:Nat
 e:α→List CP
 len:∀x,(e x).length=n
def aBq:Nat:=9223372036854775807
def pS {α:Type} (C:Cd α) (xs:List α):CP:=
 ⟨fun M v=>∃p c,v=.slice p xs.length c∧xs.length≤aBq∧xs.length≤c∧∀(j:Nat) x,xs[j]?=some x→∃b o,p=some ⟨b,o,none⟩∧z9 M b (o+j*C.n) (C.e x),
  fun hm ⟨p,c,e,h1,h2,h3⟩=>⟨p,c,e,h1,h2,fun j x hx=>let ⟨b,o,e1,e2⟩:=h3 j x hx;⟨b,o,e1,e2.monoc hm⟩⟩,
  fun h=>by obtain⟨p,c,rfl,_⟩:=h;rfl⟩
def flat {α:Type} (C:Cd α) (xs:List α):List CP:=xs.flatMap C.e
theorem aED {α:Type} (C:Cd α) (xs:List α):(flat C xs).length=xs.length*C.n:=by
 induction xs with
 |nil=>simp [flat]
 |cons x xs ih=>simp only [flat,List.flatMap_cons,List.length_append,List.length_cons] at *;rw [ih,C.len,Nat.add_mul];omega
theorem aC3 {α:Type} (C:Cd α) (xs:List α):∀(j:Nat) (x:α),xs[j]?=some x→((flat C xs).drop (j*C.n)).take C.n=C.e x:=by
 induction xs with
 |nil=>intro j x h;simp at h
 |cons y ys ih=>
  intro j x h
  simp only [flat,List.flatMap_cons]
  cases j with
  |zero=>
   simp only [List.getElem?_cons_zero,Option.some.injEq] at h
   subst h
   have e:C.n=(C.e y).length:=(C.len y).symm
   rw [Nat.zero_mul,List.drop_zero,e,List.take_left]
  |succ j=>
   simp only [List.getElem?_cons_succ] at h
   have:=ih j x h
   rw [Nat.add_mul,Nat.one_mul,Nat.add_comm,←List.drop_drop]
   have e:C.n=(C.e y).length:=(C.len y).symm
   conv=>lhs;rw [show List.drop C.n (C.e y++List.flatMap C.e ys)=List.flatMap C.e ys by rw [e];exact List.drop_left]
   exact this
theorem aJj {α:Type} (C:Cd α) (xs ys:List α):flat C (xs++ys)=flat C xs++flat C ys:=by simp [flat]
theorem aOD (β:Option Nat) (n c:Nat):(sv β n c).ownBlock=β:=by cases β<;>rfl
theorem aRb {w:World} {e:TypeId} {sz n c b:Nat} {vs:List Value} (h:w.ownsRow 0 e sz (sv (some b) n c) n vs):b<w.heap.size:=(h.lt b rfl).2
theorem HA.ok.kept {e:HA} {M:jI} {w w':World} {row:Option Nat} (h:e.ok M w) (hg:w.grownBy w' row) (hne:∀b,e.β=some b→row≠some b):e.ok M w':=by
 obtain⟨⟨vs,h1,h2⟩,h3⟩:=h
 refine⟨⟨vs,h1.kept hg ?_,h2⟩,h3⟩
 rw [aOD]
 cases hb:e.β with
 |none=>exact .inl rfl
 |some b=>exact .inr fun x=>hne b hb x.symm
theorem HA.ok.lt {e:HA} {M:jI} {w:World} (h:e.ok M w) {b:Nat} (hb:e.β=some b):b<w.heap.size:=by
 obtain⟨⟨vs,h1,_⟩,_⟩:=h
 rw [hb] at h1
 exact aRb h1
theorem HA.ok.mem {e:HA} {M M':jI} {w:World} (h:e.ok M w) (hm:oX M M') (hn:∀b,e.β=some b→M' b=none):e.ok M' w:=
 let ⟨⟨vs,h1,h2⟩,_⟩:=h;⟨⟨vs,h1,bB.mono hm h2⟩,hn⟩
theorem Mok.lt {M:jI} {w:World} (h:Mok M w) {b:Nat} {o:Obj} (hb:M b=some o):b<w.heap.size:=(Array.getElem?_eq_some_iff.1 (h b o hb)).1
theorem Mok.none {M:jI} {w:World} (h:Mok M w) {b:Nat} (hb:w.heap.size≤b):M b=none:=by
 cases e:M b with
 |none=>rfl
 |some o=>have:=h.lt e;omega
section
variable {S:Sx} {M:jI} {w:World} {H:List HA}
theorem St.put {w':World} {i:Nat} {e e':HA} (h:St S M w H) (hi:H[i]?=some e) (hg:w.grownBy w' e.β) (hok:e'.ok M w')
  (hβ:e'.β=e.β∨∀b,e'.β=some b→w.heap.size≤b):St S M w' (H.set i e'):=by
 have hmem:e∈H:=List.mem_of_getElem? hi
 have hil:i<H.length:=(List.getElem?_eq_some_iff.1 hi).1
 have hold:∀b,b<w.heap.size→e.β≠some b→w'.heap[b]?=w.heap[b]?:=fun b hb hne=>hg.block b hb fun x=>hne x.symm
 have hget:∀(j:Nat) x,(H.set i e')[j]?=some x→(j=i∧x=e')∨(j≠i∧H[j]?=some x):=by
  intro j x hx
  rw [List.getElem?_set] at hx
  by_cases hj:i=j
  ·subst hj
   simp [hil] at hx
   exact .inl ⟨rfl,hx.symm⟩
  ·rw [if_neg hj] at hx
   exact .inr ⟨fun e=>hj e.symm,hx⟩
 have hoth:∀(j:Nat) x,j≠i→H[j]?=some x→∀b,x.β=some b→e.β≠some b:=fun j x hj hx b hb he=>hj (aAm h.nodup hx hi hb he)
 refine⟨h.le0,fun b o hb=>?_,fun b hb hB=>?_,h.new,Nat.le_trans h.size hg.size,hg.os.trans h.os,hg.tape.trans h.tape,hg.output.trans h.output,fun x hx=>?_,fun x hx b hb=>?_,?_⟩
 ·rw [hold b (h.mem.lt hb) (fun he=>by have:=(h.own e hmem).2 b he;rw [this] at hb;cases hb)]
  exact h.mem b o hb
 ·rw [hold b (Nat.lt_of_lt_of_le hb h.size) (fun he=>by rcases h.fresh e hmem b he with h1|h1;omega;exact hB h1)]
  exact h.keep b hb hB
 ·obtain⟨j,hj⟩:=List.getElem?_of_mem hx
  rcases hget j x hj with⟨_,rfl⟩|⟨hne,hx'⟩
  ·exact hok
  ·exact(h.own x (List.mem_of_getElem? hx')).kept hg (hoth j x hne hx')
 ·obtain⟨j,hj⟩:=List.getElem?_of_mem hx
  rcases hget j x hj with⟨_,rfl⟩|⟨hne,hx'⟩
  ·rcases hβ with h1|h1
   ·exact h.fresh e hmem b (h1▸hb)
   ·exact .inl (Nat.le_trans h.size (h1 b hb))
  ·exact h.fresh x (List.mem_of_getElem? hx') b hb
 ·refine zV fun {j k x y b} hj hk hx hy=>?_
  have hdis:∀(j:Nat) x b,j≠i→H[j]?=some x→x.β=some b→e'.β=some b→False:=by
   intro j x b hne hx hb hb'
   rcases hβ with h1|h1
   ·exact hoth j x hne hx b hb (h1▸hb')
   ·have:=h1 b hb'
    have:=(h.own x (List.mem_of_getElem? hx)).lt hb
    omega
  rcases hget j x hj with⟨rfl,rfl⟩|⟨hne,hx'⟩
  ·rcases hget k y hk with⟨rfl,_⟩|⟨hne',hy'⟩
   ·rfl
   ·exact(hdis k y b hne' hy' hy hx).elim
  ·rcases hget k y hk with⟨rfl,rfl⟩|⟨hne',hy'⟩
   ·exact(hdis j x b hne hx' hx hy).elim
   ·exact aAm h.nodup hx' hy' hx hy
theorem St.new_row {w':World} {e:HA} (h:St S M w H) (hg:w.grownBy w' none) (hok:e.ok M w') (hβ:∀b,e.β=some b→w.heap.size≤b):St S M w' (e::H):=by
 have hold:∀b,b<w.heap.size→w'.heap[b]?=w.heap[b]?:=fun b hb=>hg.block b hb (by simp)
 refine⟨h.le0,fun b o hb=>?_,fun b hb hB=>?_,h.new,Nat.le_trans h.size hg.size,hg.os.trans h.os,hg.tape.trans h.tape,hg.output.trans h.output,fun x hx=>?_,fun x hx b hb=>?_,?_⟩
 ·rw [hold b (h.mem.lt hb)];exact h.mem b o hb
 ·rw [hold b (Nat.lt_of_lt_of_le hb h.size)];exact h.keep b hb hB
 ·rcases List.mem_cons.1 hx with rfl|hx
  ·exact hok
  ·exact(h.own x hx).kept hg (fun b _=>by simp)
 ·rcases List.mem_cons.1 hx with rfl|hx
  ·exact .inl (Nat.le_trans h.size (hβ b hb))
  ·exact h.fresh x hx b hb
 ·cases he:e.β with
  |none=>rw [List.filterMap_cons_none he];exact h.nodup
  |some b=>
   rw [List.filterMap_cons_some he]
   refine List.nodup_cons.2 ⟨fun hm=>?_,h.nodup⟩
   obtain⟨z,hz,hzb⟩:=List.mem_filterMap.1 hm
   have:=(h.own z hz).lt hzb
   have:=hβ b he
   omega
theorem St.same {w':World} (h:St S M w H) (hh:w'.heap=w.heap) (h1:w'.os=w.os) (h2:w'.tape=w.tape) (h3:w'.output=w.output):St S M w' H:=by
 have hg:w.grownBy w' none:=⟨h1,h2,h3,by rw [hh];exact Nat.le_refl _,fun _ _ _=>by rw [hh]⟩
 exact⟨h.le0,fun b o hb=>by rw [hh];exact h.mem b o hb,fun b hb hB=>by rw [hh];exact h.keep b hb hB,h.new,by rw [hh];exact h.size,h1.trans h.os,h2.trans h.tape,h3.trans h.output,
  fun x hx=>(h.own x hx).kept hg (fun b _=>by simp),h.fresh,h.nodup⟩
def frz (M:jI) (w:World) (β:Option Nat):jI:=fun b=>if β=some b then w.heap[b]? else M b
theorem St.freeze {i:Nat} {e:HA} (h:St S M w H) (hi:H[i]?=some e) (hB:∀b,e.β=some b→b∉S.B∨True):oX M (frz M w e.β)∧St S (frz M w e.β) w (H.eraseIdx i):=by
 have hmem:e∈H:=List.mem_of_getElem? hi
 have hle:oX M (frz M w e.β):=by
  intro b o hb
  unfold frz
  rw [if_neg (fun he=>by have:=(h.own e hmem).2 b he;rw [this] at hb;cases hb)]
  exact hb
 have hget:∀(j:Nat) x,(H.eraseIdx i)[j]?=some x→∃k,k≠i∧H[k]?=some x∧k=(if j<i then j else j+1):=by
  intro j x hx
  rw [List.getElem?_eraseIdx] at hx
  by_cases hj:j<i
  ·rw [if_pos hj] at hx;exact⟨j,by omega,hx,by simp [hj]⟩
  ·rw [if_neg hj] at hx;exact⟨j+1,by omega,hx,by simp [hj]⟩
 refine⟨hle,fun b o hb=>hle b o (h.le0 b o hb),fun b o hb=>?_,h.keep,fun b hb hB=>?_,h.size,h.os,h.tape,h.output,fun x hx=>?_,fun x hx b hb=>?_,?_⟩
 ·unfold frz at hb
  split at hb
  ·exact hb
  ·exact h.mem b o hb
 ·unfold frz
  rw [if_neg (fun he=>by rcases h.fresh e hmem b he with h1|h1;omega;exact hB h1)]
  exact h.new b hb hB
 ·obtain⟨j,hj⟩:=List.getElem?_of_mem hx
  obtain⟨k,hk,hx',_⟩:=hget j x hj
  refine(h.own x (List.mem_of_getElem? hx')).mem hle fun b hb=>?_
  unfold frz
  rw [if_neg (fun he=>hk (aAm h.nodup hx' hi hb he))]
  exact(h.own x (List.mem_of_getElem? hx')).2 b hb
 ·obtain⟨j,hj⟩:=List.getElem?_of_mem hx
  obtain⟨k,hk,hx',_⟩:=hget j x hj
  exact h.fresh x (List.mem_of_getElem? hx') b hb
 ·refine zV fun {j k x y b} hj hk hx hy=>?_
  obtain⟨j',_,hj',e1⟩:=hget j x hj
  obtain⟨k',_,hk',e2⟩:=hget k y hk
  have:=aAm h.nodup hj' hk' hx hy
  by_cases a1:j<i<;>by_cases a2:k<i<;>simp [a1,a2] at e1 e2<;>omega
end
def aQ3 (M:jI) (a:Act) (x:Operand×VP):Prop:=x.2.h M (a.eval x.1)
def Ins (M:jI) (a:Act):List (Operand×VP)→Prop
 |[]=>True
 |x::l=>aQ3 M a x∧Ins M a l
def aF0 (E:sN):Operand→VP→Prop
 | .tmp d,p=>jG E d=some p
 | .const v,p=>∀M,p.h M v
 | .func f,p=>∀M,p.h M (.func (.func f) #[] #[])
 | .global _,_=>False
def yD (E:sN):List (Operand×VP)→Prop
 |[]=>True
 |(x,p)::l=>aF0 E x p∧yD E l
theorem yD.ins {E:sN} {N:NX} {M:jI} {a:Act} (h:Sat N M a E):∀{l:List (Operand×VP)},yD E l→Ins M a l
 |[],_=>trivial
 |(x,p)::l,hs=>by
  refine⟨?_,yD.ins h hs.2⟩
  have h1:=hs.1
  unfold aQ3
  cases x with
  |tmp d=>
   obtain⟨v,e,k⟩:=h.get d p h1
   simpa [Act.eval,e] using k
  |const v=>exact h1 M
  |func f=>exact h1 M
  |global g=>exact h1.elim
structure Tr (S:Sx) (o:Oper) (H H':List HA) (ins:List (Operand×VP)) (out:VP):Prop where
 run:∀M w a,St S M w H→Ins M a ins→∀(K:Act→World→Prop) (Q:Exit→Act→World→Prop),
  (∀v M' w',oX M M'→St S M' w' H'→out.h M' v→K (a.put o.dst v) w')→o.wpIn S.F 0 S.P a w K Q
structure Hv (S:Sx) (o:Oper) (H:List HA) (Post:Option Nat→Nat→List HA) (ins:List (Operand×VP)) (out:Option Nat→Nat→VP):Prop where
 run:∀M w a,St S M w H→Ins M a ins→∀(K:Act→World→Prop) (Q:Exit→Act→World→Prop),
  (∀v M' w' b c,oX M M'→St S M' w' (Post b c)→(out b c).h M' v→K (a.put o.dst v) w')→o.wpIn S.F 0 S.P a w K Q
section
variable {S:Sx} {κ:Kt} {H H':List HA} {E:sN} {ops:Array Oper} {rest:List Oper} {o:Oper}
theorem aI {ins:List (Operand×VP)} {out:VP} {d:Nat} (t:Tr S o H H' ins out) (hi:yD E ins) (k:WL S ops κ rest H' ((d,out)::E))
  (hd:o.dst=some d:=by rfl) (hg:o.guard=none:=by rfl) (hN:Nat.blt d S.N=true:=by rfl):WL S ops κ (o::rest) H E:=by
 rintro a w ⟨M,h1,h2⟩
 refine wpListIn_plain hg fun K hK=>t.run M w a h1 (yD.ins h2 hi) K _ fun v M' w' hm hs hv=>hK _ _ (k _ _ ⟨M',hs,?_⟩)
 rw [hd]
 exact(h2.mono hm).put hN hv
theorem aIQ {Post:Option Nat→Nat→List HA} {ins:List (Operand×VP)} {out:Option Nat→Nat→VP} {d:Nat} (t:Hv S o H Post ins out) (hi:yD E ins) (k:∀b c,WL S ops κ rest (Post b c) ((d,out b c)::E))
  (hd:o.dst=some d:=by rfl) (hg:o.guard=none:=by rfl) (hN:Nat.blt d S.N=true:=by rfl):WL S ops κ (o::rest) H E:=by
 rintro a w ⟨M,h1,h2⟩
 refine wpListIn_plain hg fun K hK=>t.run M w a h1 (yD.ins h2 hi) K _ fun v M' w' b c hm hs hv=>hK _ _ (k b c _ _ ⟨M',hs,?_⟩)
 rw [hd]
 exact(h2.mono hm).put hN hv
theorem aB8 {ins:List (Operand×VP)} {out:VP} (t:Tr S o H H' ins out):Hv S o H (fun _ _=>H') ins (fun _ _=>out):=
 ⟨fun M w a hs hin K Q hk=>t.run M w a hs hin K Q fun v M' w' hm hst hv=>hk v M' w' none 0 hm hst hv⟩
theorem aIU {Post:Option Nat→Nat→List HA} {ins:List (Operand×VP)} {out:Option Nat→Nat→VP} (b:Option Nat) (c:Nat) (t:Tr S o H (Post b c) ins (out b c)):Hv S o H Post ins out:=
 ⟨fun M w a hs hin K Q hk=>t.run M w a hs hin K Q fun v M' w' hm hst hv=>hk v M' w' b c hm hst hv⟩
theorem mD {ins:List (Operand×VP)} {out:VP} (t:Tr S o H H' ins out) (hi:yD E ins) (k:WL S ops κ rest H' E)
  (hd:o.dst=none:=by rfl) (hg:o.guard=none:=by rfl):WL S ops κ (o::rest) H E:=by
 rintro a w ⟨M,h1,h2⟩
 refine wpListIn_plain hg fun K hK=>t.run M w a h1 (yD.ins h2 hi) K _ fun v M' w' hm hs hv=>hK _ _ (k _ _ ⟨M',hs,?_⟩)
 rw [hd]
 exact h2.mono hm
theorem aD0 {E:sN} {N:NX} {M:jI} {a:Act} (h:Sat N M a E) {j d:Nat} {og:Oper} {b:Bool} (hj:ops[j]?=some og) (hd:og.dst=some d) (hl:jG E d=some (.vc (pB b))):yielded ops a.tmps j=some b:=by
 obtain⟨v,e,k⟩:=h.get d _ hl
 have:v=.bool b:=k
 subst this
 simp [yielded,hj,hd,e]
theorem w8 {ins:List (Operand×VP)} {out:VP} {d j dj:Nat} {b:Bool} {og:Oper} (t:Tr S o H H' ins out) (hi:yD E ins) (k:WL S ops κ rest H' ((d,out)::E))
  (hg:o.guard=some (j,b):=by rfl) (hj:ops[j]?=some og:=by rfl) (hdj:og.dst=some dj:=by rfl) (hl:jG E dj=some (.vc (pB b)):=by rfl)
  (hd:o.dst=some d:=by rfl) (hN:Nat.blt d S.N=true:=by rfl):WL S ops κ (o::rest) H E:=by
 rintro a w ⟨M,h1,h2⟩
 refine wpListIn_step fun K hK=>?_
 rw [if_pos (by simp [Region.wanted,hg,aD0 h2 hj hdj hl])]
 refine t.run M w a h1 (yD.ins h2 hi) K _ fun v M' w' hm hs hv=>hK _ _ (k _ _ ⟨M',hs,?_⟩)
 rw [hd]
 exact(h2.mono hm).put hN hv
theorem aB5 {d j dj:Nat} {b b':Bool} {og:Oper} (k:WL S ops κ rest H ((d,.un)::E))
  (hg:o.guard=some (j,b):=by rfl) (hj:ops[j]?=some og:=by rfl) (hdj:og.dst=some dj:=by rfl) (hl:jG E dj=some (.vc (pB b')):=by rfl) (hb:(b' != b)=true:=by rfl)
  (hd:o.dst=some d:=by rfl) (hN:Nat.blt d S.N=true:=by rfl):WL S ops κ (o::rest) H E:=by
 rintro a w ⟨M,h1,h2⟩
 refine wpListIn_step fun K hK=>?_
 rw [if_neg (by simp [Region.wanted,hg,aD0 h2 hj hdj hl];simpa using hb)]
 refine⟨fun _ _=>trivial,hK _ _ (k _ _ ⟨M,h1,?_⟩)⟩
 rw [hd]
 exact h2.put hN rfl
theorem aKt {E:sN} {N:NX} {M:jI} {a:Act} (h:Sat N M a E) {j d:Nat} {og:Oper} (hj:ops[j]?=some og) (hd:og.dst=some d) (hl:jG E d=some .un):yielded ops a.tmps j=none:=by
 obtain⟨v,e,k⟩:=h.get d _ hl
 have:v=undef:=k
 subst this
 simp [yielded,hj,hd,e,undef]
theorem aS5 {d j dj:Nat} {b:Bool} {og:Oper} (k:WL S ops κ rest H ((d,.un)::E))
  (hg:o.guard=some (j,b):=by rfl) (hj:ops[j]?=some og:=by rfl) (hdj:og.dst=some dj:=by rfl) (hl:jG E dj=some .un:=by rfl)
  (hd:o.dst=some d:=by rfl) (hN:Nat.blt d S.N=true:=by rfl):WL S ops κ (o::rest) H E:=by
 rintro a w ⟨M,h1,h2⟩
 refine wpListIn_step fun K hK=>?_
 rw [if_neg (by simp [Region.wanted,hg,aKt h2 hj hdj hl])]
 refine⟨fun _ _=>trivial,hK _ _ (k _ _ ⟨M,h1,?_⟩)⟩
 rw [hd]
 exact h2.put hN rfl
theorem aKi {d:Nat} {c:Bool} (ht:c=true→WL S ops κ rest H ((d,.vc (pB true))::E)) (hf:c=false→WL S ops κ rest H ((d,.vc (pB false))::E)):WL S ops κ rest H ((d,.vc (pB c))::E):=by
 cases c
 ·exact hf rfl
 ·exact ht rfl
theorem aMp {α:Type} {C:Cd α} {xs:List α} {E:sN} {i:Nat} {β:Option Nat} {c T:Nat} {ds:List Nat} (hi:H[i]?=some ⟨β,c,T,C.n,xs.length,flat C xs⟩) (hL:xs.length≤aBq)
  (hds:∀d∈ds,jG E d=some (.vc (pO β xs.length c))) {a:Act} {w:World} (h:hs S H E a w):
  hs S (H.eraseIdx i) (ds.map (fun d=>(d,VP.vc (pS C xs)))++E) a w:=by
 obtain⟨M,h1,h2⟩:=h
 obtain⟨hle,hst⟩:=h1.freeze hi (fun _ _=>.inr trivial)
 refine⟨_,hst,h2.size,h2.defers.mono hle,fun x p hl=>?_⟩
 have key:∀ds:List Nat,(∀d∈ds,jG E d=some (.vc (pO β xs.length c)))→jG (ds.map (fun d=>(d,VP.vc (pS C xs)))++E) x=some p→∃v,a.tmps[x]?=some v∧p.h (frz M w β) v:=by
  intro ds
  induction ds with
  |nil=>intro _ hl;exact(h2.mono hle).get x p hl
  |cons d ds ih=>
   intro hd hl
   simp only [List.map_cons,List.cons_append,jG] at hl
   by_cases e:d=x
   ·subst e
    simp only [Nat.beq_refl,cond_true,Option.some.injEq] at hl
    subst hl
    obtain⟨v,hv,hp⟩:=h2.get d _ (hd d (by simp))
    refine⟨v,hv,?_⟩
    rcases hp with hv'|⟨rfl,h0,rfl,a0,rfl⟩
    rotate_left
    ·have hx:xs=[]:=List.eq_nil_of_length_eq_zero h0
     subst hx
     exact⟨_,_,rfl,by simp,by simp,fun j x hj=>by simp at hj⟩
    subst hv'
    obtain⟨⟨vs,how,hall⟩,_⟩:=h1.own _ (List.mem_of_getElem? hi)
    rcases how.2 with⟨h3,h4⟩|⟨g,cap,cur,h3,_,hg,hnc,_,hsz,htake⟩
    ·have hx:xs=[]:=List.eq_nil_of_length_eq_zero h4
     subst hx
     refine⟨_,_,rfl,by simp,by simp,fun j x hj=>by simp at hj⟩
    ·cases β with
     |none=>simp [sv] at h3
     |some b=>
      simp only [sv,Option.map_some,Value.slice.injEq,Option.some.injEq,Addr.mk.injEq,and_true,true_and] at h3
      obtain⟨rfl,rfl⟩:=h3
      refine⟨_,_,rfl,hL,hnc,fun j x hj=>⟨b,0,rfl,?_⟩⟩
      refine⟨(vs.drop (j*C.n)).take C.n,?_,fun t u ht=>?_⟩
      ·have:=((bB.mono hle hall).drop (j*C.n)).take C.n
       rwa [aC3 C xs j x hj] at this
      ·have hM:frz M w (some b) b=some (.cells cur T (0,0)):=by simp [frz,hg]
       rw [List.getElem?_take] at ht
       split at ht
       ·rename_i htn
        rw [List.getElem?_drop] at ht
        simp only [y0,hM,Nat.zero_add]
        rw [←htake,List.getElem?_take] at ht
        split at ht
        ·simpa using ht
        ·cases ht
       ·cases ht
   ·rw [aA2 e] at hl
    exact ih (fun d hd'=>hd d (by simp [hd'])) (by simpa using hl)
 exact key ds hds hl
end
end Go.Proofs.YtolfcbpgmfbgmaaGreat
set_option linter.unusedVariables false
namespace Go.Proofs.YtolfcbpgmfbgmaaGreat
def aGh:TypeDesc→Bool
 | .struct _| .array _ _=>true
 |_=>false
class TyA (P:Program) (t:Nat) (k:outParam Nat):Prop where
 u:∃d,P.underlying t=some d∧aGh d=true
 s:(P.info? t).map (·.size)=some k
class Ty1 (P:Program) (t:Nat):Prop where
 u:∃d,P.underlying t=some d∧aGh d=false
 s:(P.info? t).map (·.size)=some 1
class TyZ (P:Program) (t:Nat) (zs:outParam (List CP)):Prop where
 z:∃i z,P.info? t=some i∧i.zero=some z∧i.size=zs.length∧(∀M,bB M zs z.cells.toList)
class TyF (P:Program) (s f:Nat) (off:outParam Nat):Prop where
 u:∃fs fd,P.underlying s=some (.struct fs)∧fs[f]?=some fd∧fd.offset=off∧∃i,P.info? fd.type=some i∧i.size≠0
class TyS (P:Program) (t:Nat) (e k bytes:outParam Nat):Prop where
 u:P.underlying t=some (.slice e)
 s:∃i,P.info? e=some i∧i.size=k∧i.bytes=bytes∧∃z,i.zero=some z∧z.cells.size=k
 pos:0<k
theorem mkA {P:Program} {t k:Nat} {d:TypeDesc} (hu:P.underlying t=some d) (hd:aGh d=true) (hs:(P.info? t).map (·.size)=some k):TyA P t k:=⟨⟨d,hu,hd⟩,hs⟩
theorem mk1 {P:Program} {t:Nat} {d:TypeDesc} (hu:P.underlying t=some d) (hd:aGh d=false) (hs:(P.info? t).map (·.size)=some 1):Ty1 P t:=⟨⟨d,hu,hd⟩,hs⟩
theorem mkZ {P:Program} {t k:Nat} {z:Value} {zs:List CP} (h:(P.info? t).map (fun i=>(i.zero,i.size))=some (some z,k)) (hk:k=zs.length) (hz:∀M,bB M zs z.cells.toList):TyZ P t zs:=by
 cases hi:P.info? t with
 |none=>rw [hi] at h;simp at h
 |some i=>
  rw [hi] at h
  simp only [Option.map_some,Option.some.injEq,Prod.mk.injEq] at h
  exact⟨i,z,hi,h.1,h.2.trans hk,hz⟩
theorem mkF {P:Program} {s f off ft k:Nat} {fs:Array Field} {fd:Field} (hu:P.underlying s=some (.struct fs)) (hf:fs[f]?=some fd) (ho:fd.offset=off) (ht:fd.type=ft) (hs:(P.info? ft).map (·.size)=some (k+1)):TyF P s f off:=by
 subst ht
 cases hi:P.info? fd.type with
 |none=>rw [hi] at hs;simp at hs
 |some i=>
  rw [hi] at hs
  simp only [Option.map_some,Option.some.injEq] at hs
  exact⟨fs,fd,hu,hf,ho,i,hi,by omega⟩
theorem mkS {P:Program} {t e k bytes:Nat} {z:Value} (hu:P.underlying t=some (.slice e)) (h:(P.info? e).map (fun i=>(i.zero,i.size,i.bytes))=some (some z,k+1,bytes)) (hz:z.cells.size=k+1):TyS P t e (k+1) bytes:=by
 cases hi:P.info? e with
 |none=>rw [hi] at h;simp at h
 |some i=>
  rw [hi] at h
  simp only [Option.map_some,Option.some.injEq,Prod.mk.injEq] at h
  exact⟨hu,⟨i,hi,h.2.1,h.2.2,z,h.1,hz⟩,by omega⟩
inductive Tk (P:Program) (t:Nat):List CP→VP→Prop
 |one {p:CP} (h:Ty1 P t):Tk P t [p] (.vc p)
 |agg {ps:List CP} {k:Nat} (h:TyA P t k) (hl:ps.length=k:=by rfl):Tk P t ps (.va ps)
section
variable {P:Program} {w:World}
theorem aEB {o:Oper} {ρ:Operand→Value} {r:Next} {w':World} (rd:Option Nat) (hr:(execOp ρ o).run P w=.ok r w') (h:∀d,r≠.defer d):(o.semAt rd ρ).run P w=.ok r w':=by
 rw [Oper.semAt_eq rd ρ o ?_]
 ·exact hr
 ·intro c hc
  simp only [execOp,hc,Sem.run_bind] at hr
  cases hd:(resolve ρ c o.type).run P w with
  |ok d w1=>
   rw [hd] at hr
   simp only [Result.andThen,Sem.run_pure,Result.ok.injEq] at hr
   exact h d hr.1.symm
  |halt x w1=>rw [hd] at hr;simp [Result.andThen] at hr
theorem bX {rd:Option Nat} {o:Oper} {a:Act} {w':World} {v:Value} {K:Act→World→Prop} {Q:Exit→Act→World→Prop}
  (hr:(execOp a.eval o).run P w=.ok (.value v) w') (hk:K (a.put o.dst v) w'):o.wpIn (Fw rd) 0 P a w K Q:=
 ⟨fun _ _=>trivial,by rw [aEB _ hr (fun d h=>by cases h)];exact hk⟩
theorem aOS {rd:Option Nat} {o:Oper} {a:Act} {w':World} {K:Act→World→Prop} {Q:Exit→Act→World→Prop}
  (hr:(execOp a.eval o).run P w=.ok .skip w') (hk:K (a.put o.dst undef) w'):o.wpIn (Fw rd) 0 P a w K Q:=
 ⟨fun _ _=>trivial,by rw [aEB _ hr (fun d h=>by cases h)];exact hk⟩
theorem aA9 (b o j:Nat):(⟨b,o,none⟩:Addr).add j=⟨b,o+j,none⟩:=by unfold Addr.add;split<;>simp_all
theorem aES {t:Nat} {d:TypeDesc} (hu:P.underlying t=some d):(isAgg t).run P w=.ok (aGh d) w:=by
 unfold isAgg
 rw [Sem.run_bind,run_underlying hu w]
 cases d<;>rfl
theorem aGD {t k:Nat} (h:(P.info? t).map (·.size)=some k):(sizeOf t).run P w=.ok k w:=by
 cases hq:P.info? t with
 |none=>simp [hq] at h
 |some i=>
  have:i.size=k:=by simpa [hq] using h
  simp [sizeOf,typeInfo,hq,this]
theorem aA4 {t b o:Nat} {ps:List CP} {out:VP} {M:jI} {vs:List Value} (hk:Tk P t ps out) (hv:bB M ps vs)
  (hc:∀(j:Nat) v,vs[j]?=some v→w.cell? ⟨b,o+j,none⟩=some v):∃v,(loadVar t ⟨b,o,none⟩).run P w=.ok v w∧out.h M v:=by
 cases hk with
 |@one p h=>
  obtain⟨d,hu,hd⟩:=h.u
  match vs,hv with
  |[v],hv=>
   have:=hc 0 v rfl
   refine⟨v,?_,hv.1⟩
   simp only [Nat.add_zero] at this
   simp [loadVar,aES hu,hd,this]
 |agg h hl=>
  subst hl
  obtain⟨d,hu,hd⟩:=h.u
  have hl:=hv.len
  refine⟨.agg vs.toArray,?_,vs,rfl,hv⟩
  have hr:=run_loadCells_list (P:=P) w ⟨b,o,none⟩ vs (fun j v hj=>by rw [aA9];exact hc j v hj)
  rw [hl] at hr
  simp [loadVar,aES hu,hd,aGD h.s,hr]
theorem aAL (w:World) (r:Option Nat):w.grownBy w r:=⟨rfl,rfl,rfl,Nat.le_refl _,fun _ _ _=>rfl⟩
theorem aJH {w1 w2:World} {r:Option Nat} (h:w.grownBy w1 r) (k:w1.grownBy w2 r):w.grownBy w2 r:=
 ⟨k.os.trans h.os,k.tape.trans h.tape,k.output.trans h.output,Nat.le_trans h.size k.size,fun b hb hne=>(k.block b (Nat.lt_of_lt_of_le hb h.size) hne).trans (h.block b hb hne)⟩
theorem xL {T sz n c b:Nat} (o:Nat):∀(us:List Value) (i:Nat) (w:World) (vs:List Value),w.ownsRow 0 T sz (sv (some b) n c) n vs→o+i+us.length≤vs.length→(∀u∈us,u.oneCell'=true)→
  ∃w',(storeCells ⟨b,o,none⟩ us i).run P w=.ok () w'∧w'.ownsRow 0 T sz (sv (some b) n c) n (vs.take (o+i)++us++vs.drop (o+i+us.length))∧w.grownBy w' (some b)
 |[],i,w,vs,h,_,_=>⟨w,by simp [storeCells],by simpa using h,aAL w _⟩
 |u::us,i,w,vs,h,hl,h1=>by
  simp only [List.length_cons] at hl
  have hlen:=h.1
  have hc:w.cell? ⟨b,o+i,none⟩=some vs[o+i]:=by
   have:=World.ownsRow.cellAt (g:=b) (cap:=c) h (o+i) (by rw [←hlen];omega)
   rw [this,List.getElem?_eq_getElem (by omega)]
  have hf:w.frozen? ⟨b,o+i,none⟩=false:=World.ownsRow.frozenAt (g:=b) (cap:=c) h (o+i)
  obtain⟨hs,hg⟩:=World.ownsRow.stored (g:=b) (cap:=c) h (o+i) u
  obtain⟨w',hr,ho,hg'⟩:=xL o us (i+1) (w.setCell ⟨b,o+i,none⟩ u) (vs.set (o+i) u) hs (by simp;omega) (fun x hx=>h1 x (by simp [hx]))
  refine⟨w',?_,?_,aJH hg hg'⟩
  ·simp only [storeCells,Sem.run_bind,aA9,run_store P w _ u _ (h1 u (by simp)),hc,hf,Bool.false_eq_true,if_false,Result.andThen_ok]
   exact hr
  ·have e1:(vs.set (o+i) u).take (o+(i+1))=vs.take (o+i)++[u]:=by
    rw [show o+(i+1)=(o+i)+1 by omega,List.take_succ_eq_append_getElem (by simp;omega),List.take_set_of_le (by omega)]
    simp
   have e2:(vs.set (o+i) u).drop (o+(i+1)+us.length)=vs.drop (o+i+(us.length+1)):=by
    rw [List.drop_set_of_lt (by omega)]
    congr 1;omega
   rw [e1,e2] at ho
   simpa using ho
end
section
variable {S:Sx} {κ:Kt} {H:List HA} {E:sN} {ops:Array Oper} {rest:List Oper} {o:Oper}
theorem aL {x:Operand} {p:VP} (ho:o.op=.move x∨o.op=.assign x):Tr S o H H [(x,p)] p:=
 ⟨fun M w a h hi K Q hk=>bX (by rcases ho with ho|ho<;>simp [execOp,ho]<;>rfl) (hk _ M w (oX.refl M) h hi.1)⟩
theorem aNP {M:jI} {w:World} {β:Option Nat} {c T sz n:Nat} {ps:List CP} {b:Nat} (h:(HA.mk β c T sz n ps).ok M w) (hb:β=some b) (off:Nat) (k:Nat):
  ∃vs,bB M ((ps.drop off).take k) vs∧∀(j:Nat) v,vs[j]?=some v→w.cell? ⟨b,off+j,none⟩=some v:=by
 obtain⟨⟨vs,how,hall⟩,_⟩:=h
 simp only [hb] at how
 refine⟨(vs.drop off).take k,(hall.drop off).take k,fun j v hj=>?_⟩
 rw [List.getElem?_take] at hj
 split at hj
 ·rw [List.getElem?_drop] at hj
  have hlt:off+j<vs.length:=(List.getElem?_eq_some_iff.1 hj).1
  rw [World.ownsRow.cellAt (g:=b) (cap:=c) how (off+j) (by rw [←how.1];exact hlt)]
  exact hj
 ·cases hj
theorem aRM {t:Nat} {x:Operand} (ho:o.op=.load t x) {i off:Nat} {β:Option Nat} {e:HA} {out:VP} {qs:List CP} (hi:H[i]?=some e) (hβ:e.β=β) (hq:(e.ps.drop off).take qs.length=qs) (hk:Tk S.P t qs out):
  Tr S o H H [(x,.vc (pP β off))] out:=by
 refine⟨fun M w a h hin K Q hkk=>?_⟩
 obtain⟨b,hb,hx⟩:=hin.1
 obtain⟨vs,h1,h2⟩:=aNP (h.own e (List.mem_of_getElem? hi)) (hβ.trans hb) off qs.length
 rw [hq] at h1
 obtain⟨v,hr,hv⟩:=aA4 (P:=S.P) (w:=w) hk h1 h2
 exact bX (by simp [execOp,ho,hx,Instr.loadAt,Instr.sureAddr,hr]) (hkk _ M w (oX.refl M) h hv)
theorem aS6 {t:Nat} {x:Operand} (ho:o.op=.load t x) {ps qs:List CP} {out:VP} (hq:ps.take qs.length=qs) (hk:Tk S.P t qs out):
  Tr S o H H [(x,.vc (pM ps))] out:=by
 refine⟨fun M w a h hin K Q hkk=>?_⟩
 obtain⟨b,off,hx,vs,h1,h2⟩:=hin.1
 have h1':=bB.take qs.length h1
 rw [hq] at h1'
 obtain⟨v,hr,hv⟩:=aA4 (P:=S.P) (w:=w) (b:=b) (o:=off) hk h1' (fun j v hj=>by
  rw [List.getElem?_take] at hj
  split at hj
  ·exact h.cell (h2 j v hj)
  ·cases hj)
 exact bX (by simp [execOp,ho,hx,Instr.loadAt,Instr.sureAddr,hr]) (hkk _ M w (oX.refl M) h hv)
theorem gV {s f off k:Nat} {x:Operand} {β:Option Nat} (ho:o.op=.fieldAddr s x f) (hf:TyF S.P s f k):Tr S o H H [(x,.vc (pP β off))] (.vc (pP β (off+k))):=by
 refine⟨fun M w a h hin K Q hkk=>?_⟩
 obtain⟨b,hb,hx⟩:=hin.1
 obtain⟨fs,fd,hu,hfd,hoff,i,hi,hz⟩:=hf.u
 refine bX (v:=.pointer (some ⟨b,off+k,none⟩)) ?_ (hkk _ M w (oX.refl M) h ⟨b,hb,rfl⟩)
 subst hoff
 simp [execOp,ho,hx,Instr.fieldAt,Instr.sureAddr,run_underlying hu,hfd,fieldPlace,sizeOf,typeInfo,hi,hz,aA9]
theorem aNL {s f k:Nat} {x:Operand} {ps:List CP} (ho:o.op=.fieldAddr s x f) (hf:TyF S.P s f k):Tr S o H H [(x,.vc (pM ps))] (.vc (pM (ps.drop k))):=by
 refine⟨fun M w a h hin K Q hkk=>?_⟩
 obtain⟨b,off,hx,hc⟩:=hin.1
 obtain⟨fs,fd,hu,hfd,hoff,i,hi,hz⟩:=hf.u
 refine bX (v:=.pointer (some ⟨b,off+k,none⟩)) ?_ (hkk _ M w (oX.refl M) h ⟨b,off+k,rfl,hc.drop k⟩)
 subst hoff
 simp [execOp,ho,hx,Instr.fieldAt,Instr.sureAddr,run_underlying hu,hfd,fieldPlace,sizeOf,typeInfo,hi,hz,aA9]
def bF {α:Type} (xs:List α) (j:Int):Option α:=if 0≤j then xs[j.toNat]? else none
theorem aD {α:Type} {xs:List α} {j:Int} {x:α} (h:bF xs j=some x):0≤j∧j.toNat<xs.length∧xs[j.toNat]?=some x:=by
 unfold bF at h
 split at h
 ·exact⟨‹_›,(List.getElem?_eq_some_iff.1 h).1,h⟩
 ·cases h
theorem zS {α:Type} {C:Cd α} {t e bytes:Nat} {x y:Operand} {xs:List α} {j:Int} {z:α} {k:IntKind} (ho:o.op=.indexAddr t x y) (ht:TyS S.P t e C.n bytes) (hj:bF xs j=some z):
  Tr S o H H [(x,.vc (pS C xs)),(y,.vc (pI k j))] (.vc (pM (C.e z))):=by
 refine⟨fun M w a h hin K Q hkk=>?_⟩
 obtain⟨p,c,hx,_,_,hall⟩:=hin.1
 have hy:a.eval y=.int k j:=hin.2.1
 obtain⟨h0,hl,hz⟩:=aD hj
 obtain⟨b,off,rfl,hc⟩:=hall _ z hz
 obtain⟨i,hi,hk,_⟩:=ht.s
 refine bX (v:=.pointer (some ⟨b,off+j.toNat*C.n,none⟩)) ?_ (hkk _ M w (oX.refl M) h ⟨b,_,rfl,hc⟩)
 have hlt:j<(xs.length:Int):=by omega
 simp [execOp,ho,hx,hy,Instr.indexAt,asIntOf,run_underlying ht.u,h0,hlt,sizeOf,typeInfo,hi,hk,aA9]
theorem aSz {t e k0 bytes n c:Nat} {x y:Operand} {β:Option Nat} {j:Int} {k:IntKind} (ho:o.op=.indexAddr t x y) (ht:TyS S.P t e k0 bytes) (h0:0≤j) (hlt:j<(n:Int)) {i:Nat} {ea:HA} (hi:H[i]?=some ea) (hβ:ea.β=β) (hc:ea.c=c) (hn:ea.n=n):
  Tr S o H H [(x,.vc (pO β n c)),(y,.vc (pI k j))] (.vc (pP β (j.toNat*k0))):=by
 refine⟨fun M w a h hin K Q hkk=>?_⟩
 have hy:a.eval y=.int k j:=hin.2.1
 rcases hin.1 with hx|⟨_,hz,_⟩
 rotate_left
 ·omega
 obtain⟨i',hi',hk,_⟩:=ht.s
 obtain⟨⟨vs,how,_⟩,_⟩:=h.own ea (List.mem_of_getElem? hi)
 rw [hβ,hc,hn] at how
 rcases how.2 with⟨h3,h4⟩|⟨g,cap,cur,h3,_⟩
 ·omega
 ·cases β with
  |none=>simp [sv] at h3
  |some b=>
   refine bX (v:=.pointer (some ⟨b,j.toNat*k0,none⟩)) ?_ (hkk _ M w (oX.refl M) h ⟨b,rfl,rfl⟩)
   simp [execOp,ho,hx,hy,sv,Instr.indexAt,asIntOf,run_underlying ht.u,h0,hlt,sizeOf,typeInfo,hi',hk,aA9]
theorem aSt {t:Nat} {x y:Operand} {off i:Nat} {β:Option Nat} {e:HA} {p:VP} (ho:o.op=.store t x y) (hi:H[i]?=some e) (hβ:e.β=β) (hp:p.flat) (hs:(S.P.info? t).map (·.size)=some p.cells.length) (hl:off+p.cells.length≤e.ps.length):
  Tr S o H (H.set i {e with ps:=e.ps.take off++p.cells++e.ps.drop (off+p.cells.length)}) [(x,.vc (pP β off)),(y,p)] .any:=by
 refine⟨fun M w a h hin K Q hkk=>?_⟩
 obtain⟨b,hb,hx⟩:=hin.1
 have hy:p.h M (a.eval y):=hin.2.1
 have hcs:=VP.cells_of hp hy
 obtain⟨⟨vs,how,hall⟩,hnone⟩:=h.own e (List.mem_of_getElem? hi)
 have hbe:e.β=some b:=hβ.trans hb
 rw [hbe] at how
 have hlen:=hcs.len
 have hlen2:=hall.len
 obtain⟨w',hr,ho',hg⟩:=xL (P:=S.P) off _ 0 w vs how (by rw [hlen,hlen2];simpa using hl) (bB.one hcs)
 have hok:HA.ok {e with ps:=e.ps.take off++p.cells++e.ps.drop (off+p.cells.length)} M w':=by
  refine⟨⟨vs.take off++(a.eval y).cells.toList++vs.drop (off+(a.eval y).cells.toList.length),?_,?_⟩,hnone⟩
  ·simp only [hbe];exact ho'
  ·simp only [hlen]
   exact((hall.take off).app hcs).app (hall.drop _)
 refine aOS (w':=w') ?_ (hkk undef M w' (oX.refl M) (h.put hi (hbe▸hg) hok (.inl rfl)) trivial)
 have hsz:(a.eval y).cells.size=p.cells.length:=by rw [←hlen];simp
 simp [execOp,ho,hx,Instr.storeAt,Instr.sureAddr,storeVar,aGD hs,hsz,hr]
theorem aDH {w:World} (t:Nat) (v:Value):(newVar t v).run S.P w=.ok ⟨w.heap.size,0,none⟩ (w.alloc (.cells v.cells t)):=by
 simp [newVar,newRow]
theorem aH6 {M:jI} {w:World} {T:Nat} {v:Value} {ps:List CP} (h:St S M w H) (hall:bB M ps v.cells.toList):
  St S M (w.alloc (.cells v.cells T)) (⟨some w.heap.size,1,T,ps.length,1,ps⟩::H):=by
 have hl:=hall.len
 refine h.new_row (World.grownBy_alloc w _ none) ⟨⟨v.cells.toList,?_,hall⟩,fun b hb=>?_⟩ (fun b hb=>by simp at hb;omega)
 ·have:=World.ownsRow_lit (base:=0) (e:=T) (size:=ps.length) w v.cells 1 (Nat.zero_le _) (by simp [maxLen]) (by rw [←hl];simp)
  exact this
 ·have e:w.heap.size=b:=by simpa using hb
  exact h.mem.none (by omega)
theorem aN {T d:Nat} {zs:List CP} (ho:o.op=.alloc T) (hz:TyZ S.P T zs) (k:∀b,WL S ops κ rest (⟨some b,1,T,zs.length,1,zs⟩::H) ((d,.vc (pP (some b) 0))::E))
  (hd:o.dst=some d:=by rfl) (hg:o.guard=none:=by rfl) (hN:Nat.blt d S.N=true:=by rfl):WL S ops κ (o::rest) H E:=by
 rintro a w ⟨M,h1,h2⟩
 obtain⟨i,z,hi,hzz,hsz,hall⟩:=hz.z
 refine wpListIn_plain hg fun K hK=>bX (v:=.pointer (some ⟨w.heap.size,0,none⟩)) (w':=w.alloc (.cells z.cells T)) ?_ (hK _ _ (k w.heap.size _ _ ⟨M,aH6 h1 (hall M),?_⟩))
 ·simp [execOp,ho,Instr.alloc,zeroValue,typeInfo,hi,hzz,aDH]
 ·rw [hd];exact h2.put hN ⟨_,rfl,rfl⟩
theorem bV {T d:Nat} {x:Operand} {p:VP} (ho:o.op=.box T x) (hx:aF0 E x p) (hp:p.flat) (k:∀b,WL S ops κ rest (⟨some b,1,T,p.cells.length,1,p.cells⟩::H) ((d,.vc (pP (some b) 0))::E))
  (hd:o.dst=some d:=by rfl) (hg:o.guard=none:=by rfl) (hN:Nat.blt d S.N=true:=by rfl):WL S ops κ (o::rest) H E:=by
 rintro a w ⟨M,h1,h2⟩
 have hv:p.h M (a.eval x):=(yD.ins (l:=[(x,p)]) h2 ⟨hx,trivial⟩).1
 refine wpListIn_plain hg fun K hK=>bX (v:=.pointer (some ⟨w.heap.size,0,none⟩)) (w':=w.alloc (.cells (a.eval x).cells T)) ?_ (hK _ _ (k w.heap.size _ _ ⟨M,aH6 h1 (VP.cells_of hp hv),?_⟩))
 ·simp [execOp,ho,Instr.box,aDH]
 ·rw [hd];exact h2.put hN ⟨_,rfl,rfl⟩
theorem aJs {α:Type} {C:Cd α} {xs:List α} {t e k bytes:Nat} {x:Operand} (ho:o.op=.call {callee:=.builtin .len,args:=#[x],argTypes:=#[t]}) (ht:TyS S.P t e k bytes):
  Tr S o H H [(x,.vc (pS C xs))] (.vc (pI .i64 xs.length)):=by
 refine⟨fun M w a h hin K Q hkk=>?_⟩
 obtain⟨p,c,hx,_⟩:=hin.1
 refine bX (v:=.int .i64 xs.length) ?_ (hkk _ M w (oX.refl M) h rfl)
 simp [execOp,ho,resolve,invoke,builtin,Builtin.len_,hx,run_underlying ht.u,goInt]
theorem aR2 {t e k bytes n c:Nat} {β:Option Nat} {x:Operand} (ho:o.op=.call {callee:=.builtin .len,args:=#[x],argTypes:=#[t]}) (ht:TyS S.P t e k bytes):
  Tr S o H H [(x,.vc (pO β n c))] (.vc (pI .i64 n)):=by
 refine⟨fun M w a h hin K Q hkk=>?_⟩
 refine bX (v:=.int .i64 n) ?_ (hkk _ M w (oX.refl M) h rfl)
 rcases hin.1 with hx|⟨_,rfl,_,a0,hx⟩
 rotate_left
 ·simp [execOp,ho,resolve,invoke,builtin,Builtin.len_,hx,run_underlying ht.u,goInt]
 simp [execOp,ho,resolve,invoke,builtin,Builtin.len_,hx,sv,run_underlying ht.u,goInt]
end
end Go.Proofs.YtolfcbpgmfbgmaaGreat
set_option linter.unusedVariables false
namespace Go.Proofs.YtolfcbpgmfbgmaaGreat
def lG (M:jI):List VP→List Value→Prop
 |[],[]=>True
 |p::ps,v::vs=>p.h M v∧lG M ps vs
 |_,_=>False
theorem lG.len {M:jI}:∀{ps:List VP} {vs:List Value},lG M ps vs→vs.length=ps.length
 |[],[],_=>rfl
 |_::_,_::_,h=>by simp [lG.len h.2]
 |[],_::_,h=>h.elim
 |_::_,[],h=>h.elim
theorem lG.app {M:jI}:∀{ps qs:List VP} {vs us:List Value},lG M ps vs→lG M qs us→lG M (ps++qs) (vs++us)
 |[],_,[],_,_,h=>h
 |_::_,_,_::_,_,h,k=>⟨h.1,lG.app h.2 k⟩
 |[],_,_::_,_,h,_=>h.elim
 |_::_,_,[],_,h,_=>h.elim
theorem lG.of_all2 {M:jI}:∀{ps:List CP} {vs:List Value},bB M ps vs→lG M (ps.map .vc) vs
 |[],[],_=>trivial
 |_::_,_::_,h=>⟨h.1,lG.of_all2 h.2⟩
 |[],_::_,h=>h.elim
 |_::_,[],h=>h.elim
theorem lG.at {M:jI}:∀{ps:List VP} {vs:List Value} (i:Nat) {p:VP},lG M ps vs→ps[i]?=some p→∃v,vs[i]?=some v∧p.h M v
 |[],_,i,_,_,h=>by simp at h
 |q::ps,v::vs,0,p,h,e=>by
  simp at e;subst e;exact⟨v,rfl,h.1⟩
 |q::ps,v::vs,i+1,p,h,e=>by
  have:=lG.at (ps:=ps) (vs:=vs) i (p:=p) h.2 (by simpa using e)
  simpa using this
 |_::_,[],_,_,h,_=>h.elim
structure aRa (P:Program) (f:Nat):Prop where
 h:∃fn,P.funcs[f]?=some fn∧(fn.name== "runtime.NumGoroutine")=false∧fn.body.isNone=false
structure CtO (P:Program) (f:Nat) (Hin:List HA) (pre:List VP) (post:List HA→VP→Prop):Prop where
 ok:aRa P f
 run:∀M w (args:Array Value),Mok M w→(∀e∈Hin,e.ok M w)→(Hin.filterMap HA.β).Nodup→lG M pre args.toList→
  Calls P f args w fun e w'=>∃v M' Ho q,post Ho q∧e=.returned v∧St ⟨P,w,M,Hin.filterMap HA.β,0⟩ M' w' Ho∧q.h M' v
abbrev Ct (P:Program) (f:Nat) (pre:List VP) (post:VP):Prop:=CtO P f [] pre (fun Ho q=>Ho=[]∧q=post)
theorem aC6 {w w':World} {T sz n c:Nat} {β:Option Nat} {vs:List Value} (h:w.ownsRow 0 T sz (sv β n c) n vs) (hb:∀b,β=some b→w'.heap[b]?=w.heap[b]?):w'.ownsRow 0 T sz (sv β n c) n vs:=by
 refine⟨h.1,?_⟩
 rcases h.2 with h1|⟨g,cap,cur,h3,h4,hg,r⟩
 ·exact .inl h1
 ·refine .inr ⟨g,cap,cur,h3,h4,?_,r⟩
  cases β with
  |none=>simp [sv] at h3
  |some b=>
   simp only [sv,Option.map_some,Value.slice.injEq,Option.some.injEq,Addr.mk.injEq,and_true,true_and] at h3
   rw [←h3.1,hb b rfl,h3.1];exact hg
theorem St.call {S:Sx} {M M':jI} {w w':World} {H Hin Hr Ho:List HA} {is js:List Nat} (h:St S M w H) (hi:cE H is=some Hin) (hj:cE H js=some Hr) (hn:(is++js).Nodup)
  {P:Program} {N:NX} (k:St ⟨P,w,M,Hin.filterMap HA.β,N⟩ M' w' Ho):St S M' w' (Ho++Hr):=by
 have hin:∀e∈Hin,e∈H:=fun e he=>by
  obtain⟨j,hje⟩:=List.getElem?_of_mem he
  obtain⟨i,_,hi'⟩:=mI hi j e hje
  exact List.mem_of_getElem? hi'
 have hrm:∀e∈Hr,e∈H:=fun e he=>by
  obtain⟨j,hje⟩:=List.getElem?_of_mem he
  obtain⟨i,_,hi'⟩:=mI hj j e hje
  exact List.mem_of_getElem? hi'
 have hB:∀b,b∈Hin.filterMap HA.β→S.w0.heap.size≤b∨b∈S.B:=fun b hb=>by
  obtain⟨e,he,heb⟩:=List.mem_filterMap.1 hb
  exact h.fresh e (hin e he) b heb
 have hdis:∀e∈Hr,∀b,e.β=some b→b∉Hin.filterMap HA.β:=fun e he b hb hm=>by
  obtain⟨x,hx,hxb⟩:=List.mem_filterMap.1 hm
  obtain⟨j1,h1⟩:=List.getElem?_of_mem he
  obtain⟨j2,h2⟩:=List.getElem?_of_mem hx
  obtain⟨i1,e1,g1⟩:=mI hj j1 e h1
  obtain⟨i2,e2,g2⟩:=mI hi j2 x h2
  have:=aAm h.nodup g1 g2 hb hxb
  subst this
  exact(List.nodup_append.1 hn).2.2 i1 (List.mem_of_getElem? e2) i1 (List.mem_of_getElem? e1) rfl
 have hlt:∀e∈Hr,∀b,e.β=some b→b<w.heap.size:=fun e he b hb=>(h.own e (hrm e he)).lt hb
 have hr:St S M w Hr:=h.pick hj (List.nodup_append.1 hn).2.1
 refine⟨h.le0.trans k.le0,k.mem,fun b hb hnb=>?_,fun b hb hnb=>?_,Nat.le_trans h.size k.size,k.os.trans h.os,k.tape.trans h.tape,k.output.trans h.output,fun e he=>?_,fun e he b hb=>?_,?_⟩
 ·rw [k.keep b (Nat.lt_of_lt_of_le hb h.size) (fun hm=>by rcases hB b hm with h1|h1;omega;exact hnb h1)]
  exact h.keep b hb hnb
 ·rw [k.new b (Nat.lt_of_lt_of_le hb h.size) (fun hm=>by rcases hB b hm with h1|h1;omega;exact hnb h1)]
  exact h.new b hb hnb
 ·rcases List.mem_append.1 he with he|he
  ·exact k.own e he
  ·obtain⟨⟨vs,how,hall⟩,hnone⟩:=hr.own e he
   refine⟨⟨vs,aC6 how (fun b hb=>k.keep b (hlt e he b hb) (hdis e he b hb)),bB.mono k.le0 hall⟩,fun b hb=>?_⟩
   rw [k.new b (hlt e he b hb) (hdis e he b hb)];exact hnone b hb
 ·rcases List.mem_append.1 he with he|he
  ·rcases k.fresh e he b hb with h1|h1
   ·exact .inl (Nat.le_trans h.size h1)
   ·exact hB b h1
  ·exact hr.fresh e he b hb
 ·rw [List.filterMap_append]
  refine List.nodup_append.2 ⟨k.nodup,hr.nodup,fun x hx y hy hxy=>?_⟩
  subst hxy
  obtain⟨e,he,heb⟩:=List.mem_filterMap.1 hx
  obtain⟨e',he',heb'⟩:=List.mem_filterMap.1 hy
  rcases k.fresh e he x heb with h1|h1
  ·have h2:=hlt e' he' x heb'
   exact absurd h1 (by simpa using h2)
  ·exact hdis e' he' x heb' h1
theorem lG.of_ins {M:jI} {a:Act}:∀{xs:List Operand} {pre:List VP},xs.length=pre.length→Ins M a (xs.zip pre)→lG M pre (xs.map a.eval)
 |[],[],_,_=>trivial
 |_::_,_::_,h,k=>⟨k.1,lG.of_ins (by simpa using h) k.2⟩
 |[],_::_,h,_=>by simp at h
 |_::_,[],h,_=>by simp at h
theorem oY {P:Program} {w:World} {f:Nat} (h:aRa P f) (args:Array Value):(callFunc f args).run P w=.ok (.enter f args) w:=by
 obtain⟨fn,hf,hn,hb⟩:=h.h
 have hn':¬fn.name= "runtime.NumGoroutine":=by simpa using hn
 have hb':¬fn.body=none:=by intro e;rw [e] at hb;simp at hb
 simp [callFunc,hf,hn',hb']
theorem zH:∀(H2:List HA) (n:Nat) (H1:List HA),n=H1.length→cE (H1++H2) (List.range' n H2.length)=some H2
 |[],_,_,_=>rfl
 |e::H2,n,H1,hn=>by
  have:=zH H2 (n+1) (H1++[e]) (by simp [hn])
  simp only [List.append_assoc,List.singleton_append] at this
  have he:(H1++e::H2)[n]?=some e:=by rw [hn];simp
  simp [List.range'_succ,cE,this,he]
theorem aAI (H:List HA):cE H (List.range' 0 H.length)=some H:=zH H 0 [] rfl
section
variable {S:Sx} {κ:Kt} {H:List HA} {E:sN} {ops:Array Oper} {rest:List Oper} {o:Oper}
theorem yO {P:Program} {rd:Option Nat} {w:World} {a:Act} {f:Nat} {args:Array Value} {K:Act→World→Prop} {Q:Exit→Act→World→Prop} {R:Ending→World→Prop}
  (hr:(execOp a.eval o).run P w=.ok (.enter f args) w) (hc:Calls P f args w R) (hk:∀e w',R e w'→∃v,e=.returned v∧K (a.put o.dst v) w'):o.wpIn (Fw rd) 0 P a w K Q:=by
 refine⟨fun _ _=>trivial,?_⟩
 rw [aEB _ hr (fun d h=>by cases h)]
 refine⟨fun _=>by simp_all [Fw,Fence.wide],(callsIn_wide (n:=0-1)).2 (hc.mono fun e w' h=>?_)⟩
 obtain⟨v,rfl,hk'⟩:=hk e w' h;exact hk'
theorem bE {f:Nat} {pre:List VP} {post:VP} {xs:List Operand} {ts:Array TypeId} (ho:o.op=.call {callee:=.value (.func f),args:=xs.toArray,argTypes:=ts}) (c:Ct S.P f pre post) (hl:xs.length=pre.length):
  Tr S o H H (xs.zip pre) post:=by
 refine⟨fun M w a h hin K Q hkk=>?_⟩
 have hall:=lG.of_ins hl hin
 refine yO (f:=f) (args:=(xs.map a.eval).toArray) ?_ (c.run M w _ h.mem (by simp) (by simp) hall) fun e w' hr=>?_
 ·simp [execOp,ho,resolve,Deferred.ofValue,Act.eval,invoke,oY c.ok]
 ·obtain⟨v,M',Ho,q,⟨rfl,rfl⟩,rfl,hst,hq⟩:=hr
  refine⟨v,rfl,hkk v M' w' hst.le0 ?_ hq⟩
  have:=h.call (is:=[]) (Hin:=[]) rfl (aAI H) (by simpa using List.nodup_range' (s:=0) (n:=H.length)) hst
  simpa using this
theorem aIA {f:Nat} {cs:List CP} {pre:List VP} {post:VP} {xs:List Operand} {y:Operand} {ts:Array TypeId} (ho:o.op=.call {callee:=.value y,args:=xs.toArray,argTypes:=ts}) (c:Ct S.P f (pre++cs.map .vc) post) (hl:xs.length=pre.length):
  Tr S o H H ((y,.vc (pF f cs))::xs.zip pre) post:=by
 refine⟨fun M w a h hin K Q hkk=>?_⟩
 have hall:=lG.of_ins hl hin.2
 obtain⟨vs,hy,hvs⟩:=hin.1
 refine yO (f:=f) (args:=(xs.map a.eval++vs).toArray) ?_ (c.run M w _ h.mem (by simp) (by simp) (lG.app hall (lG.of_all2 hvs))) fun e w' hr=>?_
 ·simp [execOp,ho,resolve,Deferred.ofValue,hy,invoke,oY c.ok]
 ·obtain⟨v,M',Ho,q,⟨rfl,rfl⟩,rfl,hst,hq⟩:=hr
  refine⟨v,rfl,hkk v M' w' hst.le0 ?_ hq⟩
  have:=h.call (is:=[]) (Hin:=[]) rfl (aAI H) (by simpa using List.nodup_range' (s:=0) (n:=H.length)) hst
  simpa using this
theorem aFC {f d:Nat} {Hin Hr:List HA} {pre:List VP} {post:List HA→VP→Prop} {xs:List Operand} {ts:Array TypeId} (is js:List Nat) (ho:o.op=.call {callee:=.value (.func f),args:=xs.toArray,argTypes:=ts}) (c:CtO S.P f Hin pre post) (hi:yD E (xs.zip pre)) (h1:cE H is=some Hin) (h2:cE H js=some Hr) (hn:(is++js).Nodup)
  (k:∀Ho q,post Ho q→WL S ops κ rest (Ho++Hr) ((d,q)::E)) (hl:xs.length=pre.length:=by rfl)
  (hd:o.dst=some d:=by rfl) (hg:o.guard=none:=by rfl) (hN:Nat.blt d S.N=true:=by rfl):WL S ops κ (o::rest) H E:=by
 rintro a w ⟨M,hst,hsat⟩
 have hall:=lG.of_ins hl (yD.ins hsat hi)
 have hin:St S M w Hin:=hst.pick h1 (List.nodup_append.1 hn).1
 refine wpListIn_plain hg fun K hK=>yO (f:=f) (args:=(xs.map a.eval).toArray) ?_ (c.run M w _ hst.mem hin.own hin.nodup hall) fun e w' hr=>?_
 ·simp [execOp,ho,resolve,Deferred.ofValue,Act.eval,invoke,oY c.ok]
 ·obtain⟨v,M',Ho,q,hpost,rfl,hst',hq⟩:=hr
  refine⟨v,rfl,hK _ _ (k Ho q hpost _ _ ⟨M',hst.call h1 h2 hn hst',?_⟩)⟩
  rw [hd]
  exact(hsat.mono hst'.le0).put hN hq
theorem aIu {α:Type} {C:Cd α} {T:Nat} {r:List α} {f:Nat} {pre:List VP} {xs:List Operand} {ts:Array TypeId} (ho:o.op=.call {callee:=.value (.func f),args:=xs.toArray,argTypes:=ts}) (c:CtO S.P f [] pre (fun Ho q=>∃β c n,r.length=n∧Ho=[⟨β,c,T,C.n,n,flat C r⟩]∧q=.vc (pO β n c))) (hl:xs.length=pre.length):
  Hv S o H (fun β c=>⟨β,c,T,C.n,r.length,flat C r⟩::H) (xs.zip pre) (fun β c=>.vc (pO β r.length c)):=by
 refine⟨fun M w a h hin K Q hkk=>?_⟩
 have hall:=lG.of_ins hl hin
 refine yO (f:=f) (args:=(xs.map a.eval).toArray) ?_ (c.run M w _ h.mem (by simp) (by simp) hall) fun e w' hr=>?_
 ·simp [execOp,ho,resolve,Deferred.ofValue,Act.eval,invoke,oY c.ok]
 ·obtain⟨v,M',Ho,q,⟨β,c',n,rfl,rfl,rfl⟩,rfl,hst,hq⟩:=hr
  refine⟨v,rfl,hkk v M' w' β c' hst.le0 ?_ hq⟩
  have:=h.call (is:=[]) (Hin:=[]) rfl (aAI H) (by simpa using List.nodup_range' (s:=0) (n:=H.length)) hst
  simpa using this
theorem aJd {f d:Nat} {cs:List CP} {Hin Hr:List HA} {pre:List VP} {post:List HA→VP→Prop} {xs:List Operand} {y:Operand} {ts:Array TypeId} (is js:List Nat) (ho:o.op=.call {callee:=.value y,args:=xs.toArray,argTypes:=ts}) (c:CtO S.P f Hin (pre++cs.map .vc) post) (hi:yD E ((y,.vc (pF f cs))::xs.zip pre)) (h1:cE H is=some Hin) (h2:cE H js=some Hr) (hn:(is++js).Nodup)
  (k:∀Ho q,post Ho q→WL S ops κ rest (Ho++Hr) ((d,q)::E)) (hl:xs.length=pre.length:=by rfl)
  (hd:o.dst=some d:=by rfl) (hg:o.guard=none:=by rfl) (hN:Nat.blt d S.N=true:=by rfl):WL S ops κ (o::rest) H E:=by
 rintro a w ⟨M,hst,hsat⟩
 have hins:=yD.ins hsat hi
 have hall:=lG.of_ins hl hins.2
 obtain⟨vs,hy,hvs⟩:=hins.1
 have hin:St S M w Hin:=hst.pick h1 (List.nodup_append.1 hn).1
 refine wpListIn_plain hg fun K hK=>yO (f:=f) (args:=(xs.map a.eval++vs).toArray) ?_ (c.run M w _ hst.mem hin.own hin.nodup (lG.app hall (lG.of_all2 hvs))) fun e w' hr=>?_
 ·simp [execOp,ho,resolve,Deferred.ofValue,hy,invoke,oY c.ok]
 ·obtain⟨v,M',Ho,q,hpost,rfl,hst',hq⟩:=hr
  refine⟨v,rfl,hK _ _ (k Ho q hpost _ _ ⟨M',hst.call h1 h2 hn hst',?_⟩)⟩
  rw [hd]
  exact(hsat.mono hst'.le0).put hN hq
def aE0:Nat→List VP→sN
 |_,[]=>[]
 |i,p::ps=>(i,p)::aE0 (i+1) ps
theorem aDx:∀(ps:List VP) (i d:Nat) (p:VP),jG (aE0 i ps) d=some p→i≤d∧ps[d-i]?=some p
 |[],_,_,_,h=>by simp [aE0,jG] at h
 |q::ps,i,d,p,h=>by
  simp only [aE0,jG] at h
  by_cases e:i=d
  ·subst e;simp at h;subst h;exact⟨Nat.le_refl _,by simp⟩
  ·rw [aA2 e] at h
   obtain⟨h1,h2⟩:=aDx ps (i+1) d p h
   refine⟨by omega,?_⟩
   rw [show d-i=(d-(i+1))+1 by omega];simpa using h2
def Rp (P:Program) (w0:World) (M0:jI) (B:List Nat) (post:List HA→VP→Prop):Ending→World→Prop:=fun e w'=>∃v M' Ho q,post Ho q∧e=.returned v∧St ⟨P,w0,M0,B,0⟩ M' w' Ho∧q.h M' v
theorem St.reN {S:Sx} {M:jI} {w:World} {H:List HA} (h:St S M w H) (P:Program) (N:NX):St ⟨P,S.w0,S.M0,S.B,N⟩ M w H:=
 ⟨h.le0,h.mem,h.keep,h.new,h.size,h.os,h.tape,h.output,h.own,h.fresh,h.nodup⟩
abbrev aGf (P:Program) (fn:Func) (R:Ending→World→Prop):=bodyPostM Fence.wide 0 P fn R
theorem aA {P:Program} {f:Nat} {fn:Func} {c:Code} {Hin:List HA} {pre:List VP} {post:List HA→VP→Prop} {N:Nat} (hf:P.funcs[f]?=some fn) (hb:fn.body=some c) (hname:(fn.name== "runtime.NumGoroutine")=false) (hN:fn.ntmps=N) (hpre:Nat.ble pre.length N=true)
  (h:∀w0 M0,WC ⟨P,w0,M0,Hin.filterMap HA.β,⟨N,fun D=>w0.heap.size≤D∧M0 D=none,none,none⟩⟩ c (.base (aGf P fn (Rp P w0 M0 (Hin.filterMap HA.β) post))) Hin (aE0 0 pre)):CtO P f Hin pre post:=by
 refine⟨⟨fn,hf,hname,by simp [hb]⟩,fun M w args hm hown hnd hall=>(callsIn_wide (n:=0)).1 (callsIn_of_wp_marks hf hb trivial (h w M _ w ⟨M,?_,?_⟩))⟩
 ·exact⟨oX.refl M,hm,fun _ _ _=>rfl,fun _ _ _=>rfl,Nat.le_refl _,rfl,rfl,rfl,hown,fun e he b hb'=>.inr (List.mem_filterMap.2 ⟨e,he,hb'⟩),hnd⟩
 ·have hl:=hall.len
  have hle:pre.length≤N:=by simpa using hpre
  refine⟨?_,⟨fun d hd=>(by cases hd),List.nodup_nil,fun l o e=>(by cases e)⟩,fun d p hd=>?_⟩
  ·subst hN
   simp only [Array.length_toList] at hl
   simp;omega
  ·obtain⟨_,hp⟩:=aDx pre 0 d p hd
   obtain⟨v,hv,hpv⟩:=hall.at d (by simpa using hp)
   refine⟨v,?_,hpv⟩
   have hdl:d<args.size:=by
    have:=(List.getElem?_eq_some_iff.1 hv).1
    simpa using this
   rw [Array.getElem?_append_left hdl]
   simpa using hv
def mld (M M':jI):Prop:=∀b o,M b=some o→(∀ds,o≠.deferred ds)→M' b=some o
theorem mld.c {M M':jI} (h:mld M M'):mlc M M':=fun b i v hv=>by
 unfold y0 at hv ⊢
 cases hb:M b with
 |none=>rw [hb] at hv;cases hv
 |some o=>
  rw [hb] at hv
  cases o with
  |cells c t f=>rw [h b _ hb (fun ds=>by simp)];exact hv
  |_=>cases hv
theorem mld.trans {A B C:jI} (h:mld A B) (k:mld B C):mld A C:=fun b o x n=>k b o (h b o x n) n
theorem St.shut {S:Sx} {M:jI} {w:World} {H:List HA} {D:Nat} {o:Obj} (h:St S M w H) (hD:M D=some (.deferred (some []))) (h1:S.w0.heap.size≤D) (h2:S.M0 D=none):mld M (fun b=>if b=D then none else M b)∧St S (fun b=>if b=D then none else M b) (w.putObj D o) H:=by
 have hc:mld M (fun b=>if b=D then none else M b):=fun b ob hb hne=>by
  by_cases e:b=D
  ·subst e;rw [hD] at hb;cases hb;exact absurd rfl (hne _)
  ·simpa [e] using hb
 have hne:∀e∈H,∀b,e.β=some b→b≠D:=fun e he b hb x=>by
  have:=(h.own e he).2 b hb
  rw [x,hD] at this;cases this
 refine⟨hc,fun b ob hb=>?_,fun b ob hb=>?_,fun b hb hnb=>?_,fun b hb hnb=>?_,by simpa using h.size,h.os,h.tape,h.output,fun e he=>?_,h.fresh,h.nodup⟩
 ·by_cases e:b=D
  ·subst e;rw [h2] at hb;cases hb
  ·simpa [e] using h.le0 b ob hb
 ·by_cases e:b=D
  ·simp [e] at hb
  ·rw [World.putObj_heap_other e]
   simp only [e,if_false] at hb
   exact h.mem b ob hb
 ·rw [World.putObj_heap_other (by omega)];exact h.keep b hb hnb
 ·show(if b=D then none else M b)=_;rw [if_neg (by omega)];exact h.new b hb hnb
 ·obtain⟨⟨vs,how,hall⟩,hnone⟩:=h.own e he
  exact⟨⟨vs,aC6 how fun b hb=>World.putObj_heap_other (hne e he b hb),hall.monoc hc.c⟩,fun b hb=>by show(if b=D then none else M b)=none;rw [if_neg (hne e he b hb)];exact hnone b hb⟩
theorem aCl {S:Sx} {P:Program} {fn:Func} {tmps:Array Value} {R:Ending→World→Prop} {H:List HA}:∀(ds:List Deferred) (M:jI) (w:World),St S M w H→(∀d∈ds,∃D,d={target:=.collected D,args:=#[]}∧(S.w0.heap.size≤D∧S.M0 D=none)∧M D=some (.deferred (some [])))→ds.Nodup→
  (∀M' w',mld M M'→St S M' w' H→∃v,(results fn tmps).run P w'=.ok v w'∧R (.returned v) w')→LeavesInM Fence.wide 0 P fn tmps R ds .returning w
 |[],M,w,h,_,_,k=>k M w (fun _ _ h _=>h) h
 |d::ds,M,w,h,hd,hn,k=>by
  obtain⟨D,rfl,⟨h1,h2⟩,h3⟩:=hd d List.mem_cons_self
  obtain⟨hc,hs⟩:=h.shut (o:=.deferred none) h3 h1 h2
  refine⟨by simp,.inl ⟨D,w.putObj D (.deferred none),rfl,run_takeDeferred (h.mem D _ h3),?_⟩⟩
  refine aCl ds _ _ hs (fun d' hd'=>?_) (List.nodup_cons.1 hn).2 fun M' w' hm hst=>k M' w' (hc.trans hm) hst
  obtain⟨D',rfl,h4,h5⟩:=hd d' (List.mem_cons_of_mem _ hd')
  have hne:D'≠D:=fun e=>(List.nodup_cons.1 hn).1 (e▸hd')
  exact⟨D',rfl,h4,by show(if D'=D then none else M D')=_;rw [if_neg hne];exact h5⟩
inductive RVs (S:Sx) (H:List HA) (E:sN):List ResultVar→List VP→Prop
 |nil:RVs S H E [] []
 |tmp {t:Nat} {p:VP} {rs:List ResultVar} {ps:List VP} (h:jG E t=some p) (k:RVs S H E rs ps):RVs S H E (.tmp t::rs) (p::ps)
 |cell {t T i off:Nat} {β:Option Nat} {e:HA} {p:VP} {qs:List CP} {rs:List ResultVar} {ps:List VP} (h:jG E t=some (.vc (pP β off))) (hi:H[i]?=some e) (hβ:e.β=β) (hq:(e.ps.drop off).take qs.length=qs) (hk:Tk S.P T qs p) (k:RVs S H E rs ps):RVs S H E (.cell t T::rs) (p::ps)
def aFN (tmps:Array Value):ResultVar→Sem Value
 | .tmp t=>pure (tmps.getD t undef)
 | .cell t T=>do loadVar T (←asAddr (tmps.getD t undef))
theorem aHU {S:Sx} {H:List HA} {E:sN} {M:jI} {w:World} {a:Act} (h1:St S M w H) (h2:∀d p,jG E d=some p→∃v,a.tmps[d]?=some v∧p.h M v):∀{rs:List ResultVar} {ps:List VP},RVs S H E rs ps→
  ∃vs,lG M ps vs∧(rs.mapM (aFN a.tmps)).run S.P w=.ok vs w
 |_,_,.nil=>⟨[],trivial,by simp⟩
 |_,_,.tmp (t:=t) h k=>by
  obtain⟨vs,hv,hr⟩:=aHU h1 h2 k
  obtain⟨v,e,hp⟩:=h2 _ _ h
  have h1:(aFN a.tmps (.tmp t)).run S.P w=.ok v w:=by simp [aFN,e]
  exact⟨v::vs,⟨hp,hv⟩,by simp [List.mapM_cons,Sem.run_bind,h1,hr]⟩
 |_,_,.cell (t:=t) (T:=T) h hi hβ hq hk k=>by
  obtain⟨vs,hv,hr⟩:=aHU h1 h2 k
  obtain⟨v,e,b,hb,hx⟩:=h2 _ _ h
  obtain⟨us,hu1,hu2⟩:=aNP (h1.own _ (List.mem_of_getElem? hi)) (hβ.trans hb) _ _
  rw [hq] at hu1
  obtain⟨u,hl,hu⟩:=aA4 (P:=S.P) (w:=w) hk hu1 hu2
  subst hx
  have h1:(aFN a.tmps (.cell t T)).run S.P w=.ok u w:=by simp [aFN,e,asAddr,hl]
  exact⟨u::vs,⟨hu,hv⟩,by simp [List.mapM_cons,Sem.run_bind,h1,hr]⟩
def aKc:List VP→VP
 |[p]=>p
 |[p,q]=>.t2 p q
 |[p,q,r]=>.t3 p q r
 |[p,q,r,s]=>.t4 p q r s
 |_=>.any
theorem aRX {M:jI}:∀{ps:List VP} {vs:List Value},ps.length≤4→lG M ps vs→(aKc ps).h M (if h:vs.toArray.size=1 then vs.toArray[0] else .tuple vs.toArray)
 |[],[],_,_=>trivial
 |[p],[v],_,h=>h.1
 |[p,q],[v,u],_,h=>⟨v,u,rfl,h.1,h.2.1⟩
 |[p,q,r],[v,u,x],_,h=>⟨v,u,x,rfl,h.1,h.2.1,h.2.2.1⟩
 |[p,q,r,s],[v,u,x,y],_,h=>⟨v,u,x,y,rfl,h.1,h.2.1,h.2.2.1,h.2.2.2.1⟩
 |_::_::_::_::_::_,_,h,_=>by simp at h
 |[],_::_,_,h=>h.elim
 |[_],[],_,h=>h.elim
 |[_],_::_::_,_,h=>h.2.elim
 |[_,_],[],_,h=>h.elim
 |[_,_],[_],_,h=>h.2.elim
 |[_,_],_::_::_::_,_,h=>h.2.2.elim
 |[_,_,_],[],_,h=>h.elim
 |[_,_,_],[_],_,h=>h.2.elim
 |[_,_,_],[_,_],_,h=>h.2.2.elim
 |[_,_,_],_::_::_::_::_,_,h=>h.2.2.2.elim
 |[_,_,_,_],[],_,h=>h.elim
 |[_,_,_,_],[_],_,h=>h.2.elim
 |[_,_,_,_],[_,_],_,h=>h.2.2.elim
 |[_,_,_,_],[_,_,_],_,h=>h.2.2.2.elim
 |[_,_,_,_],_::_::_::_::_::_,_,h=>h.2.2.2.2.elim
theorem aGl {P:Program} {fn:Func} {w0:World} {M0:jI} {B:List Nat} {post:List HA→VP→Prop} {N:NX} {rs:List ResultVar} {ps:List VP} {a:Act} {w:World} (hrs:fn.results=rs.toArray) (hv:RVs ⟨P,w0,M0,B,N⟩ H E rs ps) (hl:Nat.ble ps.length 4=true) (hfr:∀D,N.fr D→w0.heap.size≤D∧M0 D=none)
  (hh:hs ⟨P,w0,M0,B,N⟩ H E a w) (bI:∀M w,St ⟨P,w0,M0,B,N⟩ M w H→∃Ho,post Ho (aKc ps)∧St ⟨P,w0,M0,B,N⟩ M w Ho):LeavesInM Fence.wide 0 P fn a.tmps (Rp P w0 M0 B post) a.defers .returning w:=by
 obtain⟨M,h1,h2⟩:=hh
 refine aCl (S:=⟨P,w0,M0,B,N⟩) a.defers M w h1 (fun d hd=>?_) h2.defers.2.1 fun M' w' hmc h1'=>?_
 ·obtain⟨D,e1,e2,e3⟩:=h2.defers.1 d hd
  exact⟨D,e1,hfr D e2,e3⟩
 obtain⟨vs,hall,hr⟩:=aHU h1' (fun d p hd=>let ⟨v,e,k⟩:=h2.get d p hd;⟨v,e,VP.monoc hmc.c k⟩) hv
 have hres:(results fn a.tmps).run P w'=.ok (if h:vs.toArray.size=1 then vs.toArray[0] else .tuple vs.toArray) w':=by
  have e:results fn a.tmps=(do let vs ←fn.results.mapM (aFN a.tmps);pure (if h:vs.size=1 then vs[0] else .tuple vs)):=rfl
  rw [e,hrs,List.mapM_toArray]
  simp [hr]
 obtain⟨Ho,hp,hst⟩:=bI M' w' h1'
 exact⟨_,hres,_,M',Ho,aKc ps,hp,rfl,hst.reN P 0,aRX (by simpa using hl) hall⟩
theorem aCq {P:Program} {fn:Func} {w0:World} {M0:jI} {B:List Nat} {post:List HA→VP→Prop} {N:NX} {e:Exit} {rs:List ResultVar} {ps:List VP} (he:e=.ret∨e=.normal) (hrs:fn.results=rs.toArray) (hv:RVs ⟨P,w0,M0,B,N⟩ H E rs ps) (hl:Nat.ble ps.length 4=true)
  (is:List Nat) {Ho:List HA} (hp:cE H is=some Ho) (hn:is.Nodup) (hpost:post Ho (aKc ps)) (hfr:∀D,N.fr D→w0.heap.size≤D∧M0 D=none:=by exact fun _ h=>h):
  WX ⟨P,w0,M0,B,N⟩ e (.base (aGf P fn (Rp P w0 M0 B post))) H E:=by
 intro a w hh
 have key:=aGl hrs hv hl hfr hh fun M w h1=>⟨Ho,hpost,h1.pick hp hn⟩
 rcases he with rfl|rfl<;>exact key
end
end Go.Proofs.YtolfcbpgmfbgmaaGreat
set_option linter.unusedVariables false
namespace Go.Proofs.YtolfcbpgmfbgmaaGreat
theorem aBh {x:Int} (h0:-9223372036854775808≤x) (h1:x≤9223372036854775807):IntKind.i64.wrap x=x:=by
 unfold IntKind.wrap
 simp only [IntKind.bits,IntKind.signed,Bool.true_and,ge_iff_le,decide_eq_true_eq]
 split<;>omega
def aS (x:Int):Option Int:=if -9223372036854775808≤x∧x≤9223372036854775807 then some x else none
theorem zO {x y:Int} (h:aS x=some y):y=x∧-9223372036854775808≤x∧x≤9223372036854775807:=by
 unfold aS at h
 split at h
 ·simp only [Option.some.injEq] at h;exact⟨h.symm,‹_›⟩
 ·cases h
theorem aDM {x:Int} (h0:-9223372036854775808≤x) (h1:x≤9223372036854775807):aS x=some x:=by unfold aS;rw [if_pos ⟨h0,h1⟩]
def chq (x y:Int):Option Int:=if y=0 then none else aS (x.tdiv y)
def chr (x y:Int):Option Int:=if y=0 then none else some (x.tmod y)
def wu (x:Int):Int:=IntKind.u64.wrap x
def uq (x y:Int):Option Int:=if y=0 then none else some (wu (x.tdiv y))
theorem aM {α β:Type} {o:Option α} {f:α→Option β} {r:β} (h:o.bind f=some r):∃v,o=some v∧f v=some r:=Option.bind_eq_some_iff.1 h
theorem vK {α:Type} {c:Bool} {A B:Option α} {r:α} (h:c=true) (k:(bif c then A else B)=some r):A=some r:=by subst h;exact k
theorem tU {α:Type} {c:Bool} {A B:Option α} {r:α} (h:c=false) (k:(bif c then A else B)=some r):B=some r:=by subst h;exact k
theorem qM (k:IntKind) (n:Int):∀M,(VP.vc (pI k n)).h M (.int k n):=fun _=>rfl
theorem k_B (b:Bool):∀M,(VP.vc (pB b)).h M (.bool b):=fun _=>rfl
theorem cD {α:Type} (C:Cd α):∀M,(VP.vc (pS C ([]:List α))).h M (.slice none 0 0):=fun _=>⟨none,0,rfl,by simp,by simp,fun j x h=>by simp at h⟩
theorem k_F (f:Nat):∀M,(VP.vc (pF f [])).h M (.func (.func f) #[] #[]):=fun _=>⟨[],rfl,trivial⟩
section
variable {S:Sx} {κ:Kt} {H:List HA} {E:sN} {ops:Array Oper} {rest:List Oper} {o:Oper}
theorem t8 {w:World} {a:Act} {op:BinOp} {T T':Nat} {x y:Operand} {k:IntKind} {u v:Int} {r:Value} (ho:o.op=.binOp op T x y T') (hx:a.eval x=.int k u) (hy:a.eval y=.int k v) (hr:(binOp op T (.int k u) (.int k v)).run S.P w=.ok r w):
  (execOp a.eval o).run S.P w=.ok (.value r) w:=by
 have hg:(eqGuard op T x y (.int k u) (.int k v)).run S.P w=.ok () w:=by
  unfold eqGuard
  split<;>rfl
 simp [execOp,ho,hx,hy,hg,hr]
theorem yK {T T':Nat} {x y:Operand} {u v r:Int} (ho:o.op=.binOp .add T x y T') (h:aS (u+v)=some r):Tr S o H H [(x,.vc (pI .i64 u)),(y,.vc (pI .i64 v))] (.vc (pI .i64 r)):=by
 refine⟨fun M w a hs hi K Q hk=>bX (v:=.int .i64 r) (t8 ho hi.1 hi.2.1 ?_) (hk _ M w (oX.refl M) hs rfl)⟩
 obtain⟨rfl,h0,h1⟩:=zO h
 simp [binOp,Op.intArith,aBh h0 h1]
theorem aLC {T T':Nat} {x y:Operand} {u v r:Int} (ho:o.op=.binOp .sub T x y T') (h:aS (u-v)=some r):Tr S o H H [(x,.vc (pI .i64 u)),(y,.vc (pI .i64 v))] (.vc (pI .i64 r)):=by
 refine⟨fun M w a hs hi K Q hk=>bX (v:=.int .i64 r) (t8 ho hi.1 hi.2.1 ?_) (hk _ M w (oX.refl M) hs rfl)⟩
 obtain⟨rfl,h0,h1⟩:=zO h
 simp [binOp,Op.intArith,aBh h0 h1]
theorem aFP {T T':Nat} {x y:Operand} {u v r:Int} (ho:o.op=.binOp .mul T x y T') (h:aS (u*v)=some r):Tr S o H H [(x,.vc (pI .i64 u)),(y,.vc (pI .i64 v))] (.vc (pI .i64 r)):=by
 refine⟨fun M w a hs hi K Q hk=>bX (v:=.int .i64 r) (t8 ho hi.1 hi.2.1 ?_) (hk _ M w (oX.refl M) hs rfl)⟩
 obtain⟨rfl,h0,h1⟩:=zO h
 simp [binOp,Op.intArith,aBh h0 h1]
theorem aKT {T T':Nat} {x y:Operand} {u v r:Int} (ho:o.op=.binOp .quo T x y T') (h:chq u v=some r):Tr S o H H [(x,.vc (pI .i64 u)),(y,.vc (pI .i64 v))] (.vc (pI .i64 r)):=by
 refine⟨fun M w a hs hi K Q hk=>bX (v:=.int .i64 r) (t8 ho hi.1 hi.2.1 ?_) (hk _ M w (oX.refl M) hs rfl)⟩
 unfold chq at h
 split at h
 ·cases h
 ·rename_i hv
  obtain⟨rfl,h0,h1⟩:=zO h
  simp [binOp,Op.intDiv,hv,aBh h0 h1]
theorem aHq {T T':Nat} {x y:Operand} {u v r:Int} {k:IntKind} (ho:o.op=.binOp .rem T x y T') (h:chr u v=some r):Tr S o H H [(x,.vc (pI k u)),(y,.vc (pI k v))] (.vc (pI k r)):=by
 refine⟨fun M w a hs hi K Q hk=>bX (v:=.int k r) (t8 ho hi.1 hi.2.1 ?_) (hk _ M w (oX.refl M) hs rfl)⟩
 unfold chr at h
 split at h
 ·cases h
 ·rename_i hv
  simp only [Option.some.injEq] at h
  subst h
  simp [binOp,Op.intDiv,hv]
theorem aRv {T T':Nat} {x y:Operand} {u v:Int} (ho:o.op=.binOp .mul T x y T'):Tr S o H H [(x,.vc (pI .u64 u)),(y,.vc (pI .u64 v))] (.vc (pI .u64 (wu (u*v)))):=
 ⟨fun M w a hs hi K Q hk=>bX (v:=.int .u64 (wu (u*v))) (t8 ho hi.1 hi.2.1 (by simp [binOp,Op.intArith,wu])) (hk _ M w (oX.refl M) hs rfl)⟩
theorem aHZ {T T':Nat} {x y:Operand} {u v r:Int} (ho:o.op=.binOp .quo T x y T') (h:uq u v=some r):Tr S o H H [(x,.vc (pI .u64 u)),(y,.vc (pI .u64 v))] (.vc (pI .u64 r)):=by
 refine⟨fun M w a hs hi K Q hk=>bX (v:=.int .u64 r) (t8 ho hi.1 hi.2.1 ?_) (hk _ M w (oX.refl M) hs rfl)⟩
 unfold uq at h
 split at h
 ·cases h
 ·rename_i hv
  simp only [Option.some.injEq] at h
  subst h
  simp [binOp,Op.intDiv,hv,wu]
theorem aOR {T T':Nat} {x y:Operand} {u v:Int} {k:IntKind} (ho:o.op=.binOp .eql T x y T'):Tr S o H H [(x,.vc (pI k u)),(y,.vc (pI k v))] (.vc (pB (u==v))):=
 ⟨fun M w a hs hi K Q hk=>bX (v:=.bool (u==v)) (t8 ho hi.1 hi.2.1 (by simp [binOp,Op.intCmp])) (hk _ M w (oX.refl M) hs rfl)⟩
theorem aNp {T T':Nat} {x y:Operand} {u v:Int} {k:IntKind} (ho:o.op=.binOp .neq T x y T'):Tr S o H H [(x,.vc (pI k u)),(y,.vc (pI k v))] (.vc (pB (u != v))):=
 ⟨fun M w a hs hi K Q hk=>bX (v:=.bool (u != v)) (t8 ho hi.1 hi.2.1 (by simp [binOp,Op.intCmp])) (hk _ M w (oX.refl M) hs rfl)⟩
theorem aHL {T T':Nat} {x y:Operand} {u v:Int} {k:IntKind} (ho:o.op=.binOp .lss T x y T'):Tr S o H H [(x,.vc (pI k u)),(y,.vc (pI k v))] (.vc (pB (decide (u<v)))):=
 ⟨fun M w a hs hi K Q hk=>bX (v:=.bool (decide (u<v))) (t8 ho hi.1 hi.2.1 (by simp [binOp,Op.intCmp])) (hk _ M w (oX.refl M) hs rfl)⟩
theorem aON {T T':Nat} {x y:Operand} {u v:Int} {k:IntKind} (ho:o.op=.binOp .leq T x y T'):Tr S o H H [(x,.vc (pI k u)),(y,.vc (pI k v))] (.vc (pB (decide (u≤v)))):=
 ⟨fun M w a hs hi K Q hk=>bX (v:=.bool (decide (u≤v))) (t8 ho hi.1 hi.2.1 (by simp [binOp,Op.intCmp])) (hk _ M w (oX.refl M) hs rfl)⟩
theorem aMd {T T':Nat} {x y:Operand} {u v:Int} {k:IntKind} (ho:o.op=.binOp .gtr T x y T'):Tr S o H H [(x,.vc (pI k u)),(y,.vc (pI k v))] (.vc (pB (decide (v<u)))):=
 ⟨fun M w a hs hi K Q hk=>bX (v:=.bool (decide (v<u))) (t8 ho hi.1 hi.2.1 (by simp [binOp,Op.intCmp])) (hk _ M w (oX.refl M) hs rfl)⟩
theorem aRl {T T':Nat} {x y:Operand} {u v:Int} {k:IntKind} (ho:o.op=.binOp .geq T x y T'):Tr S o H H [(x,.vc (pI k u)),(y,.vc (pI k v))] (.vc (pB (decide (v≤u)))):=
 ⟨fun M w a hs hi K Q hk=>bX (v:=.bool (decide (v≤u))) (t8 ho hi.1 hi.2.1 (by simp [binOp,Op.intCmp])) (hk _ M w (oX.refl M) hs rfl)⟩
theorem aIZ {w:World} {a:Act} {op:BinOp} {T T':Nat} {x y:Operand} {u v:Bool} {r:Value} (ho:o.op=.binOp op T x y T') (hx:a.eval x=.bool u) (hy:a.eval y=.bool v) (hr:(binOp op T (.bool u) (.bool v)).run S.P w=.ok r w):
  (execOp a.eval o).run S.P w=.ok (.value r) w:=by
 have hg:(eqGuard op T x y (.bool u) (.bool v)).run S.P w=.ok () w:=by
  unfold eqGuard
  split<;>rfl
 simp [execOp,ho,hx,hy,hg,hr]
theorem aNg {T T':Nat} {x y:Operand} {u v:Bool} (ho:o.op=.binOp .eql T x y T') (hT:S.P.underlying T=some .bool):Tr S o H H [(x,.vc (pB u)),(y,.vc (pB v))] (.vc (pB (u==v))):=
 ⟨fun M w a hs hi K Q hk=>bX (v:=.bool (u==v)) (aIZ ho hi.1 hi.2.1 (by
  have:=run_equalIn_bool (P:=S.P) w 9999 T u v hT
  simp only [binOp,Sem.run_bind,Op.equal]
  rw [show Op.maxDepth=9999+1 from rfl,this];simp)) (hk _ M w (oX.refl M) hs rfl)⟩
theorem aB7 {T T':Nat} {x y:Operand} {u v:Bool} (ho:o.op=.binOp .neq T x y T') (hT:S.P.underlying T=some .bool):Tr S o H H [(x,.vc (pB u)),(y,.vc (pB v))] (.vc (pB (u != v))):=
 ⟨fun M w a hs hi K Q hk=>bX (v:=.bool (u != v)) (aIZ ho hi.1 hi.2.1 (by
  have:=run_equalIn_bool (P:=S.P) w 9999 T u v hT
  simp only [binOp,Sem.run_bind,Op.equal]
  rw [show Op.maxDepth=9999+1 from rfl,this];simp only [Result.andThen_ok,Sem.run_pure];rfl)) (hk _ M w (oX.refl M) hs rfl)⟩
theorem aKV {T:Nat} {x:Operand} {u:Bool} (ho:o.op=.unOp .not T x):Tr S o H H [(x,.vc (pB u))] (.vc (pB (!u))):=
 ⟨fun M w a hs hi K Q hk=>bX (v:=.bool (!u)) (by have hx:a.eval x=.bool u:=hi.1;simp [execOp,ho,hx,Op.unary]) (hk _ M w (oX.refl M) hs rfl)⟩
theorem aQL {T:Nat} {x:Operand} {u r:Int} (ho:o.op=.unOp .neg T x) (h:aS (-u)=some r):Tr S o H H [(x,.vc (pI .i64 u))] (.vc (pI .i64 r)):=
 ⟨fun M w a hs hi K Q hk=>bX (v:=.int .i64 r) (by
  have hx:a.eval x=.int .i64 u:=hi.1
  obtain⟨rfl,h0,h1⟩:=zO h
  simp [execOp,ho,hx,Op.unary,Op.intArith,aBh h0 h1]) (hk _ M w (oX.refl M) hs rfl)⟩
theorem aQ6 {T:Nat} {x:Operand} {u:Int} (ho:o.op=.unOp .neg T x):Tr S o H H [(x,.vc (pI .u64 u))] (.vc (pI .u64 (wu (-u)))):=
 ⟨fun M w a hs hi K Q hk=>bX (v:=.int .u64 (wu (-u))) (by
  have hx:a.eval x=.int .u64 u:=hi.1
  simp [execOp,ho,hx,Op.unary,Op.intArith,wu]) (hk _ M w (oX.refl M) hs rfl)⟩
theorem yA {c x y:Operand} {p:VP} (ho:o.op=.pick c x y):Tr S o H H [(c,.vc (pB true)),(x,p)] p:=
 ⟨fun M w a hs hi K Q hk=>bX (v:=a.eval x) (by have hc:a.eval c=.bool true:=hi.1;simp [execOp,ho,hc,asBool]) (hk _ M w (oX.refl M) hs hi.2.1)⟩
theorem aBP {c x y:Operand} {p:VP} (ho:o.op=.pick c x y):Tr S o H H [(c,.vc (pB false)),(y,p)] p:=
 ⟨fun M w a hs hi K Q hk=>bX (v:=a.eval y) (by have hc:a.eval c=.bool false:=hi.1;simp [execOp,ho,hc,asBool]) (hk _ M w (oX.refl M) hs hi.2.1)⟩
theorem aHY {x:Operand} {p q:VP} (ho:o.op=.extract x 0):Tr S o H H [(x,.t2 p q)] p:=
 ⟨fun M w a hs hi K Q hk=>by
  obtain⟨u,v,e,h1,h2⟩:=hi.1
  exact bX (v:=u) (by have e:a.eval x=_:=e;simp [execOp,ho,e,Instr.extract]) (hk _ M w (oX.refl M) hs h1)⟩
theorem aIo {x:Operand} {p q:VP} (ho:o.op=.extract x 1):Tr S o H H [(x,.t2 p q)] q:=
 ⟨fun M w a hs hi K Q hk=>by
  obtain⟨u,v,e,h1,h2⟩:=hi.1
  exact bX (v:=v) (by have e:a.eval x=_:=e;simp [execOp,ho,e,Instr.extract]) (hk _ M w (oX.refl M) hs h2)⟩
theorem aKZ {x:Operand} {p q r:VP} (ho:o.op=.extract x 0):Tr S o H H [(x,.t3 p q r)] p:=
 ⟨fun M w a hs hi K Q hk=>by
  obtain⟨u,v,y,e,h1,h2,h3⟩:=hi.1
  exact bX (v:=u) (by have e:a.eval x=_:=e;simp [execOp,ho,e,Instr.extract]) (hk _ M w (oX.refl M) hs h1)⟩
theorem aL9 {x:Operand} {p q r:VP} (ho:o.op=.extract x 1):Tr S o H H [(x,.t3 p q r)] q:=
 ⟨fun M w a hs hi K Q hk=>by
  obtain⟨u,v,y,e,h1,h2,h3⟩:=hi.1
  exact bX (v:=v) (by have e:a.eval x=_:=e;simp [execOp,ho,e,Instr.extract]) (hk _ M w (oX.refl M) hs h2)⟩
theorem aLX {x:Operand} {p q r:VP} (ho:o.op=.extract x 2):Tr S o H H [(x,.t3 p q r)] r:=
 ⟨fun M w a hs hi K Q hk=>by
  obtain⟨u,v,y,e,h1,h2,h3⟩:=hi.1
  exact bX (v:=y) (by have e:a.eval x=_:=e;simp [execOp,ho,e,Instr.extract]) (hk _ M w (oX.refl M) hs h3)⟩
theorem aE6 {s d:Nat} {x:Operand} {k k':IntKind} {u:Int} (ho:o.op=.convert s d x) (hs':∃t,S.P.underlying s=some t) (hd:S.P.underlying d=some (.int k')):Tr S o H H [(x,.vc (pI k u))] (.vc (pI k' (k'.wrap u))):=
 ⟨fun M w a hs hi K Q hk=>by
  have hx:a.eval x=.int k u:=hi.1
  obtain⟨t,ht⟩:=hs'
  exact bX (v:=.int k' (k'.wrap u)) (by simp [execOp,ho,hx,convert,run_underlying ht,run_underlying hd,Conv.intToInt]) (hk _ M w (oX.refl M) hs rfl)⟩
theorem aMH {f:Nat} {xs:List Operand} {cs:List CP} (ho:o.op=.makeFunc (.func f) #[] xs.toArray) (hl:xs.length=cs.length):Tr S o H H (xs.zip (cs.map .vc)) (.vc (pF f cs)):=by
 refine⟨fun M w a hs hi K Q hk=>?_⟩
 have key:∀(xs:List Operand) (cs:List CP),xs.length=cs.length→Ins M a (xs.zip (cs.map .vc))→bB M cs (xs.map a.eval):=by
  intro xs
  induction xs with
  |nil=>intro cs h _;cases cs<;>first|trivial|simp at h
  |cons x xs ih=>
   intro cs h hi
   cases cs with
   |nil=>simp at h
   |cons c cs=>exact⟨hi.1,ih cs (by simpa using h) hi.2⟩
 exact bX (v:=.func (.func f) #[] (xs.map a.eval).toArray) (by simp [execOp,ho,Instr.makeFunc]) (hk _ M w (oX.refl M) hs ⟨_,rfl,key xs cs hl hi⟩)
end
end Go.Proofs.YtolfcbpgmfbgmaaGreat
set_option linter.unusedVariables false
namespace Go.Proofs.YtolfcbpgmfbgmaaGreat
/-- Cells put over others, written out. -/
def yX:List CP→Nat→List CP→Option (List CP)
 |ps,0,[]=>some ps
 |_::ps,0,q::qs=>match yX ps 0 qs with
  |some r=>some (q::r)
  |none=>none
 |p::ps,off+1,qs=>match yX ps off qs with
  |some r=>some (p::r)
  |none=>none
 |[],0,_::_=>none
 |[],_+1,_=>none
def vI:Nat→List CP→Option (List CP)
 |0,_=>some []
 |k+1,p::ps=>match vI k ps with
  |some r=>some (p::r)
  |none=>none
 |_+1,[]=>none
theorem aBA:∀{k:Nat} {ps qs:List CP},vI k ps=some qs→ps.take k=qs∧qs.length=k
 |0,ps,qs,h=>by simp [vI] at h;subst h;simp
 |k+1,[],qs,h=>by simp [vI] at h
 |k+1,p::ps,qs,h=>by
  simp only [vI] at h
  cases h1:vI k ps with
  |none=>rw [h1] at h;simp at h
  |some r=>
   rw [h1] at h
   simp only [Option.some.injEq] at h
   subst h
   obtain⟨h2,h3⟩:=aBA h1
   simp [h2,h3]
theorem aBN:∀{ps:List CP} {off:Nat} {qs r:List CP},yX ps off qs=some r→r=ps.take off++qs++ps.drop (off+qs.length)∧off+qs.length≤ps.length
 |ps,0,[],r,h=>by simp [yX] at h;subst h;simp
 |p::ps,0,q::qs,r,h=>by
  simp only [yX] at h
  cases h1:yX ps 0 qs with
  |none=>rw [h1] at h;simp at h
  |some r'=>
   rw [h1] at h
   simp only [Option.some.injEq] at h
   subst h
   obtain⟨h2,h3⟩:=aBN h1
   subst h2
   simp at h3 ⊢
   omega
 |p::ps,off+1,qs,r,h=>by
  cases qs with
  |nil=>
   simp only [yX] at h
   cases h1:yX ps off [] with
   |none=>rw [h1] at h;simp at h
   |some r'=>
    rw [h1] at h
    simp only [Option.some.injEq] at h
    subst h
    obtain⟨h2,h3⟩:=aBN h1
    subst h2
    simp at h3 ⊢
    omega
  |cons q qs=>
   simp only [yX] at h
   cases h1:yX ps off (q::qs) with
   |none=>rw [h1] at h;simp at h
   |some r'=>
    rw [h1] at h
    simp only [Option.some.injEq] at h
    subst h
    obtain⟨h2,h3⟩:=aBN h1
    subst h2
    simp at h3 ⊢
    refine⟨?_,by omega⟩
    rw [show off+1+(qs.length+1)=(off+(qs.length+1))+1 by omega];simp
 |[],0,_::_,_,h=>by simp [yX] at h
 |[],_+1,[],_,h=>by simp [yX] at h
 |[],_+1,_::_,_,h=>by simp [yX] at h
theorem aF9 {M:jI} {ps qs r:List CP} {off:Nat} {vs us:List Value} (h:yX ps off qs=some r) (hv:bB M ps vs) (hu:bB M qs us):bB M r (vs.take off++us++vs.drop (off+us.length)):=by
 obtain⟨rfl,hl⟩:=aBN h
 have:=hu.len
 rw [this]
 exact((hv.take off).app hu).app (hv.drop _)
def aAi:List HA→Nat→HA→Option (List HA)
 |_::l,0,x=>some (x::l)
 |e::l,i+1,x=>match aAi l i x with
  |some r=>some (e::r)
  |none=>none
 |[],_,_=>none
theorem aC4:∀{l:List HA} {i:Nat} {x:HA} {r:List HA},aAi l i x=some r→r=l.set i x
 |_::l,0,x,r,h=>by simp [aAi] at h;simp [h]
 |e::l,i+1,x,r,h=>by
  simp only [aAi] at h
  cases h1:aAi l i x with
  |none=>rw [h1] at h;simp at h
  |some r'=>rw [h1] at h;simp only [Option.some.injEq] at h;subst h;simp [aC4 h1]
 |[],_,_,_,h=>by simp [aAi] at h
def aBu:List HA→Nat→Option (List HA)
 |_::l,0=>some l
 |e::l,i+1=>match aBu l i with
  |some r=>some (e::r)
  |none=>none
 |[],_=>none
theorem aAW:∀{l:List HA} {i:Nat} {r:List HA},aBu l i=some r→r=l.eraseIdx i
 |_::l,0,r,h=>by simp [aBu] at h;simp [h]
 |e::l,i+1,r,h=>by
  simp only [aBu] at h
  cases h1:aBu l i with
  |none=>rw [h1] at h;simp at h
  |some r'=>rw [h1] at h;simp only [Option.some.injEq] at h;subst h;simp [aAW h1]
 |[],_,_,h=>by simp [aBu] at h
def aHs:List Value→Nat→List Value→List Value
 |l,_,[]=>l
 |l,off,u::us=>aHs (l.set off u) (off+1) us
theorem aGc:∀(us l:List Value) (off:Nat),off+us.length≤l.length→aHs l off us=l.take off++us++l.drop (off+us.length)
 |[],l,off,_=>by simp [aHs]
 |u::us,l,off,h=>by
  simp only [List.length_cons] at h
  have ih:=aGc us (l.set off u) (off+1) (by simp;omega)
  simp only [aHs,ih]
  have e1:(l.set off u).take (off+1)=l.take off++[u]:=by
   rw [List.take_succ_eq_append_getElem (by simp;omega),List.take_set_of_le (by omega)];simp
  have e2:(l.set off u).drop (off+1+us.length)=l.drop (off+(us.length+1)):=by
   rw [List.drop_set_of_lt (by omega)];congr 1;omega
  rw [e1,e2];simp
theorem aDU (off:Nat):∀(us:List Value) (k:Nat) (arr:Array Value),((us.zipIdx k).foldl (fun(cs:Array Value) (x:Value×Nat)=>cs.setIfInBounds (off+x.2) x.1) arr).toList=aHs arr.toList (off+k) us
 |[],_,_=>rfl
 |u::us,k,arr=>by
  simp only [List.zipIdx_cons,List.foldl_cons,aHs]
  rw [aDU off us (k+1)]
  simp [Nat.add_assoc]
def aJa (pl:List (Nat×Nat)):List CP→List (Nat×VP)→Option (List CP)
 |ps,[]=>some ps
 |ps,(i,p)::r=>match pl[i]? with
  |none=>none
  |some (off,size)=>bif Nat.beq p.cells.length size then
    match yX ps off p.cells with
    |some ps'=>aJa pl ps' r
    |none=>none
   else none
def aIy:List VP→Prop
 |[]=>True
 |p::ps=>p.flat∧aIy ps
theorem aLa {M:jI} (place:Nat→Option (Nat×Nat)) (pl:List (Nat×Nat)) (hpl:∀i,pl[i]?≠none→place i=pl[i]?):∀(is:List Nat) (qs:List VP) (vs:List Value) (ps ps':List CP) (cs:Array Value),is.length=qs.length→bB M ps cs.toList→aIy qs→lG M qs vs→aJa pl ps (is.zip qs)=some ps'→
  ∃cs',Instr.fill place cs (is.zip vs)=some cs'∧bB M ps' cs'.toList
 |[],[],[],ps,ps',cs,_,h,_,_,hf=>⟨cs,rfl,by simp [aJa] at hf;subst hf;exact h⟩
 |i::is,q::qs,v::vs,ps,ps',cs,hl,h,hfl,hv,hf=>by
  simp only [List.zip_cons_cons,aJa] at hf
  cases h1:pl[i]? with
  |none=>rw [h1] at hf;simp at hf
  |some os=>
   obtain⟨off,size⟩:=os
   rw [h1] at hf
   simp only at hf
   cases h2:Nat.beq q.cells.length size with
   |false=>rw [h2] at hf;simp at hf
   |true=>
    rw [h2] at hf
    simp only [cond_true] at hf
    cases h3:yX ps off q.cells with
    |none=>rw [h3] at hf;simp at hf
    |some ps1=>
     rw [h3] at hf
     simp only at hf
     have hsz:q.cells.length=size:=Nat.eq_of_beq_eq_true h2
     have hcs:=VP.cells_of hfl.1 hv.1
     have hvl:v.cells.size=size:=by have:=hcs.len;simp at this;omega
     have hle:=(aBN h3).2
     have hlen:=h.len
     simp only [Array.length_toList] at hlen
     have hstep:bB M ps1 (v.cells.zipIdx.foldl (fun(cs:Array Value) (x:Value×Nat)=>cs.setIfInBounds (off+x.2) x.1) cs).toList:=by
      rw [←Array.foldl_toList,Array.toList_zipIdx,aDU,Nat.add_zero,aGc _ _ _ (by simp;omega)]
      exact aF9 h3 h hcs
     obtain⟨cs',h4,h5⟩:=aLa place pl hpl is qs vs ps1 ps' _ (by simpa using hl) hstep hfl.2 hv.2 hf
     refine⟨cs',?_,h5⟩
     have hp:place i=some (off,size):=by rw [hpl i (by rw [h1];simp),h1]
     simp only [List.zip_cons_cons,Instr.fill,hp]
     rw [if_neg (by simp [hvl];omega)]
     exact h4
 |[],_::_,_,_,_,_,hl,_,_,_,_=>by simp at hl
 |_::_,[],_,_,_,_,hl,_,_,_,_=>by simp at hl
 |[],[],_::_,_,_,_,_,_,_,h,_=>h.elim
 |_::_,_::_,[],_,_,_,_,_,_,h,_=>h.elim
structure TyB (P:Program) (t:Nat) (pl:List (Nat×Nat)) (zs:List CP):Prop where
 h:∃(z:Value) (f:Nat→Option (Nat×Nat)),(∀parts,P.built t parts=Instr.fill f z.cells parts)∧(∀i,i<pl.length→f i=pl[i]?)∧∀M,bB M zs z.cells.toList
section
variable {S:Sx} {κ:Kt} {H H':List HA} {E:sN} {ops:Array Oper} {rest:List Oper} {o:Oper}
theorem gU {t:Nat} {is:List Nat} {xs:List Operand} {ps:List VP} {pl:List (Nat×Nat)} {zs qs:List CP} (ho:o.op=.build t (is.zip xs).toArray) (hb:TyB S.P t pl zs) (hl1:is.length=ps.length) (hl:xs.length=ps.length) (hf:aIy ps) (hq:aJa pl zs (is.zip ps)=some qs):
  Tr S o H H (xs.zip ps) (.va qs):=by
 refine⟨fun M w a h hin K Q hk=>?_⟩
 obtain⟨z,f,hz,hfl,hzs⟩:=hb.h
 have hall:=lG.of_ins hl hin
 obtain⟨cs',h1,h2⟩:=aLa (M:=M) f pl (fun i hi=>hfl i (by by_cases h:i<pl.length;exact h;exact absurd (List.getElem?_eq_none (Nat.not_lt.1 h)) hi)) is ps _ zs qs z.cells hl1 (hzs M) hf hall hq
 rw [←hz] at h1
 have hr:=run_build (P:=S.P) w t (is.zip (xs.map a.eval)).toArray cs' (by simpa using h1)
 refine bX (v:=.agg cs') ?_ (hk _ M w (oX.refl M) h ⟨cs'.toList,by simp,h2⟩)
 have:((is.zip xs).map fun x=>(x.1,a.eval x.2))=is.zip (xs.map a.eval):=by
  rw [List.zip_map_right];rfl
 simp [execOp,ho,this,hr]
theorem St.newM {M:jI} {w:World} {o:Obj} (h:St S M w H):oX M (fun b=>if b=w.heap.size then some o else M b)∧St S (fun b=>if b=w.heap.size then some o else M b) (w.alloc o) H:=by
 have hn:M w.heap.size=none:=h.mem.none (Nat.le_refl _)
 have hle:oX M (fun b=>if b=w.heap.size then some o else M b):=fun b x hb=>by
  have:=h.mem.lt hb
  show(if b=w.heap.size then some o else M b)=some x
  rw [if_neg (by omega)];exact hb
 have hg:=World.grownBy_alloc w o none
 refine⟨hle,fun b x hb=>hle b x (h.le0 b x hb),fun b x hb=>?_,fun b hb hB=>?_,fun b hb hB=>?_,Nat.le_trans h.size hg.size,hg.os.trans h.os,hg.tape.trans h.tape,hg.output.trans h.output,fun e he=>?_,h.fresh,h.nodup⟩
 ·have hq:(if b=w.heap.size then some o else M b)=some x:=hb
  clear hb
  by_cases e:b=w.heap.size
  ·rw [if_pos e] at hq
   rw [e,←hq]
   exact heap_alloc_new w o
  ·rw [if_neg e] at hq
   rw [heap_alloc_old w o b (h.mem.lt hq)];exact h.mem b x hq
 ·rw [heap_alloc_old w o b (Nat.lt_of_lt_of_le hb h.size)];exact h.keep b hb hB
 ·have:=h.size
  show(if b=w.heap.size then some o else M b)=_
  rw [if_neg (by omega)];exact h.new b hb hB
 ·refine(HA.ok.kept (h.own e he) hg (fun b _=>by simp)).mem hle fun b hb=>?_
  have:=(h.own e he).lt hb
  show(if b=w.heap.size then some o else M b)=_
  rw [if_neg (by omega)];exact(h.own e he).2 b hb
theorem aMI {α:Type} (C:Cd α) (xs:List α) (M:jI) (cs:Array Value) (h:bB M (flat C xs) cs.toList) (e:Nat) (M':jI) (b:Nat) (hm:oX M M') (hb:M' b=some (.cells cs e (0,0))) (c:Nat) (hc:xs.length≤c) (hL:xs.length≤aBq):
  (pS C xs).h M' (.slice (some ⟨b,0,none⟩) xs.length c):=by
 refine⟨_,_,rfl,hL,hc,fun j x hj=>⟨b,0,rfl,?_⟩⟩
 refine⟨(cs.toList.drop (j*C.n)).take C.n,?_,fun t u ht=>?_⟩
 ·have:=((bB.mono hm h).drop (j*C.n)).take C.n
  rwa [aC3 C xs j x hj] at this
 ·rw [List.getElem?_take] at ht
  split at ht
  ·rw [List.getElem?_drop] at ht
   simp only [y0,hb,Nat.zero_add]
   simpa using ht
  ·cases ht
def VE {α:Type} (C:Cd α) (q:VP) (x:α):Prop:=q.flat∧q.cells=C.e x
def VEs {α:Type} (C:Cd α):List VP→List α→Prop
 |[],[]=>True
 |q::qs,x::xs=>VE C q x∧VEs C qs xs
 |_,_=>False
theorem VEs.all {α:Type} {C:Cd α} {M:jI}:∀{qs:List VP} {xs:List α} {vs:List Value},VEs C qs xs→lG M qs vs→bB M (flat C xs) (vs.flatMap fun v=>v.cells.toList)
 |[],[],[],_,_=>trivial
 |q::qs,x::xs,v::vs,h,k=>by
  have h1:=VP.cells_of h.1.1 k.1
  rw [h.1.2] at h1
  exact h1.app (VEs.all h.2 k.2)
 |[],[],_::_,_,h=>h.elim
 |_::_,_::_,[],_,h=>h.elim
 |[],_::_,_,h,_=>h.elim
 |_::_,[],_,h,_=>h.elim
theorem VEs.len {α:Type} {C:Cd α}:∀{qs:List VP} {xs:List α},VEs C qs xs→qs.length=xs.length
 |[],[],_=>rfl
 |_::_,_::_,h=>by simp [VEs.len h.2]
 |[],_::_,h=>h.elim
 |_::_,[],h=>h.elim
theorem VEs.size {α:Type} {C:Cd α} {M:jI}:∀{qs:List VP} {xs:List α} {vs:List Value},VEs C qs xs→lG M qs vs→∀v∈vs,v.cells.size=C.n
 |[],[],[],_,_,v,hv=>by simp at hv
 |q::qs,x::xs,u::vs,h,k,v,hv=>by
  rcases List.mem_cons.1 hv with rfl|hv
  ·have h1:=(VP.cells_of h.1.1 k.1).len
   rw [h.1.2,C.len] at h1
   simpa using h1
  ·exact VEs.size h.2 k.2 v hv
 |[],[],_::_,_,h,_,_=>h.elim
 |_::_,_::_,[],_,h,_,_=>h.elim
 |[],_::_,_,h,_,_,_=>h.elim
 |_::_,[],_,h,_,_,_=>h.elim
theorem aF5 (k:Nat):∀(vs:List Value) (j:Nat) (cs:Array Value),(∀v∈vs,v.cells.size=k)→(j+vs.length)*k≤cs.size→
  ∃cs',Instr.fill (fun i=>some (i*k,k)) cs ((List.range' j vs.length).zip vs)=some cs'∧cs'.toList=cs.toList.take (j*k)++(vs.flatMap fun v=>v.cells.toList)++cs.toList.drop ((j+vs.length)*k)
 |[],j,cs,_,_=>⟨cs,rfl,by simp⟩
 |v::vs,j,cs,hv,hl=>by
  have hvs:v.cells.size=k:=hv v (by simp)
  simp only [List.length_cons] at hl
  have hjk:j*k+k≤cs.size:=by
   have:(j+1)*k≤(j+(vs.length+1))*k:=Nat.mul_le_mul_right _ (by omega)
   rw [Nat.add_mul,Nat.one_mul] at this
   omega
  have key:(v.cells.zipIdx.foldl (fun(cs:Array Value) (x:Value×Nat)=>cs.setIfInBounds (j*k+x.2) x.1) cs).toList=cs.toList.take (j*k)++v.cells.toList++cs.toList.drop (j*k+k):=by
   rw [←Array.foldl_toList,Array.toList_zipIdx,aDU,Nat.add_zero,aGc _ _ _ (by simp [hvs];omega)]
   simp [hvs]
  generalize hA:v.cells.zipIdx.foldl (fun(cs:Array Value) (x:Value×Nat)=>cs.setIfInBounds (j*k+x.2) x.1) cs=A at key
  have hAs:A.size=cs.size:=by
   have:=congrArg List.length key
   simp [hvs] at this
   omega
  obtain⟨cs',h1,h2⟩:=aF5 k vs (j+1) A (fun u hu=>hv u (by simp [hu])) (by rw [hAs];rw [show j+1+vs.length=j+(vs.length+1) by omega];exact hl)
  refine⟨cs',?_,?_⟩
  ·simp only [List.length_cons,List.range'_succ,List.zip_cons_cons,Instr.fill]
   rw [if_neg (by simp [hvs];omega)]
   rw [←hA] at h1
   exact h1
  ·rw [h2,key]
   have e1:(j+1)*k=j*k+k:=by rw [Nat.add_mul,Nat.one_mul]
   have e2:(cs.toList.take (j*k)++v.cells.toList++cs.toList.drop (j*k+k)).take ((j+1)*k)=cs.toList.take (j*k)++v.cells.toList:=by
    rw [List.take_append_of_le_length (by simp [hvs];omega)]
    rw [List.take_of_length_le (by simp [hvs];omega)]
   have e3:(cs.toList.take (j*k)++v.cells.toList++cs.toList.drop (j*k+k)).drop ((j+1+vs.length)*k)=cs.toList.drop ((j+(vs.length+1))*k):=by
    have hq:(j+1+vs.length)*k=(j*k+k)+vs.length*k:=by rw [Nat.add_mul,e1]
    have hlen:(cs.toList.take (j*k)++v.cells.toList).length=j*k+k:=by simp [hvs];omega
    rw [hq,←List.drop_drop,←hlen,List.drop_left,List.drop_drop,hlen,←hq]
    congr 2;omega
   rw [e2,e3]
   simp
theorem eR {α:Type} {C:Cd α} {t e bytes:Nat} {xs:List Operand} {ps:List VP} {zs:List α} (ho:o.op=.buildSlice t zs.length ((List.range' 0 xs.length).zip xs).toArray) (ht:TyS S.P t e C.n bytes) (hl:xs.length=ps.length) (hv:VEs C ps zs) (hsm:Nat.ble (zs.length*C.n) 16777216=true):
  Tr S o H H (xs.zip ps) (.vc (pS C zs)):=by
 refine⟨fun M w a h hin K Q hk=>?_⟩
 have hall:=lG.of_ins hl hin
 obtain⟨i,hi,hsz,hby,z,hz,hzs⟩:=ht.s
 have hlz:=VEs.len hv
 have hsm':zs.length*C.n≤16777216:=by simpa using hsm
 have hL:zs.length≤aBq:=by
  have:=Nat.le_mul_of_pos_right zs.length ht.pos
  simp only [aBq];omega
 obtain⟨cs',h1,h2⟩:=aF5 C.n (xs.map a.eval) 0 ((Array.range (zs.length*C.n)).map (z.cells[·%z.cells.size]!)) (VEs.size hv hall) (by simp [hl,hlz])
 have h2':cs'.toList=(xs.map a.eval).flatMap fun v=>v.cells.toList:=by
  rw [h2]
  simp [hl,hlz]
 have hall2:=VEs.all hv hall
 rw [←h2'] at hall2
 obtain⟨hle,hst⟩:=h.newM (o:=.cells cs' e (0,0))
 refine bX (v:=.slice (some ⟨w.heap.size,0,none⟩) zs.length zs.length) (w':=w.alloc (.cells cs' e (0,0))) ?_ (hk _ _ _ hle hst (aMI C zs M cs' hall2 e _ _ hle (by simp) _ (Nat.le_refl _) hL))
 have hzip:(((List.range' 0 xs.length).zip xs).map fun x=>(x.1,a.eval x.2))=(List.range' 0 (xs.map a.eval).length).zip (xs.map a.eval):=by
  rw [List.zip_map_right];simp
 by_cases h0:zs.length*C.n=0
 ·have hz0:zs.length=0:=by rcases Nat.mul_eq_zero.1 h0 with h|h<;>have:=ht.pos<;>omega
  have hzs':zs=[]:=List.eq_nil_of_length_eq_zero hz0
  subst hzs'
  have hxs:xs=[]:=List.eq_nil_of_length_eq_zero (by simpa [hlz] using hl)
  subst hxs
  have hcs:cs'=#[]:=by apply Array.ext';simpa using h2'
  subst hcs
  simp [execOp,ho,Instr.buildSlice,run_underlying ht.u,sizeOf,typeInfo,hi,Instr.fill,newRow,Array.range_zero']
 ·have hgt:¬(zs.length*C.n>16777216):=by omega
  simp only [List.length_map] at h1
  simp [execOp,ho,Instr.buildSlice,run_underlying ht.u,sizeOf,typeInfo,hi,hsz,hgt,h0,zeroValue,hz,hzip,h1,newRow]
end
end Go.Proofs.YtolfcbpgmfbgmaaGreat
set_option linter.unusedVariables false
namespace Go.Proofs.YtolfcbpgmfbgmaaGreat
def mkL {α:Type} (n:Int) (z:α):Option (List α):=if 0≤n∧n≤68719476736 then some (List.replicate n.toNat z) else none
def oG {α:Type} (xs ys:List α):Option (List α):=if xs.length+ys.length≤68719476736 then some (xs++ys) else none
def qL {α:Type} (xs:List α) (j:Int) (x:α):Option (List α):=if 0≤j∧j.toNat<xs.length then some (xs.set j.toNat x) else none
def slL {α:Type} (xs:List α) (lo hi:Int):Option (List α):=if 0≤lo∧lo≤hi∧hi≤xs.length then some ((xs.drop lo.toNat).take (hi.toNat-lo.toNat)) else none
theorem aOQ {α:Type} {n:Int} {z:α} {xs:List α} (h:mkL n z=some xs):xs.length=n.toNat:=by
 unfold mkL at h
 split at h
 ·simp only [Option.some.injEq] at h;subst h;simp
 ·cases h
theorem bD {α:Type} {xs ys zs:List α} {n:Nat} (h:oG xs ys=some zs) (hn:xs.length=n):zs.length=n+ys.length:=by
 unfold oG at h
 split at h
 ·simp only [Option.some.injEq] at h;subst h;simp [hn]
 ·cases h
theorem bC {α:Type} {xs zs:List α} {j:Int} {x:α} {n:Nat} (h:qL xs j x=some zs) (hn:xs.length=n):zs.length=n:=by
 unfold qL at h
 split at h
 ·simp only [Option.some.injEq] at h;subst h;simp [hn]
 ·cases h
def pE (β:Option Nat) (j:Int) (n o:Nat):CP:=⟨fun _ v=>∃b,β=some b∧v=.pointer (some ⟨b,j.toNat*n+o,none⟩),fun _ h=>h,fun h=>by obtain⟨b,_,rfl⟩:=h;rfl⟩
abbrev hO {α:Type} (C:Cd α) (β:Option Nat) (c T n:Nat) (xs:List α):HA:=⟨β,c,T,C.n,n,flat C xs⟩
section
variable {S:Sx} {κ:Kt} {H H':List HA} {E:sN} {ops:Array Oper} {rest:List Oper} {o:Oper}
theorem aD3 {α:Type} {C:Cd α} {xs:List α} {E:sN} {i:Nat} {β:Option Nat} {c T n:Nat} {ds:List Nat} {H':List HA} (hi:H[i]?=some (hO C β c T n xs)) (hn:xs.length=n) (hL:xs.length≤aBq)
  (hds:∀d∈ds,jG E d=some (.vc (pO β n c))) (hd:aBu H i=some H') {a:Act} {w:World} (h:hs S H E a w):
  hs S H' (ds.map (fun d=>(d,VP.vc (pS C xs)))++E) a w:=by
 subst hn
 rw [aAW hd]
 exact aMp hi hL hds h
theorem aLF {α:Type} {C:Cd α} {xs:List α} {i:Nat} {β:Option Nat} {c T n:Nat} {M:jI} {w:World} (h:St S M w H) (hi:H[i]?=some (hO C β c T n xs)):n≤maxLen:=by
 obtain⟨⟨vs,how,_⟩,_⟩:=h.own _ (List.mem_of_getElem? hi)
 rcases how.2 with⟨h3,h4⟩|⟨g,cap,cur,h3,_,_,h5,h6,_⟩
 ·have h4':n=0:=h4
  rw [h4'];exact Nat.zero_le _
 ·exact Nat.le_trans h5 h6
theorem aNf {α:Type} {C:Cd α} {xs:List α} {β:Option Nat} {c T n:Nat} (i k off:Nat) {eb:HA} {ps':List CP} {H1 H2:List HA} (hi:H[i]?=some (hO C β c T n xs)) (hn:xs.length=n) (hL:xs.length≤aBq)
  (hk:H[k]?=some eb) (hne:Nat.beq i k=false) (hp:eb.ps[off]?=some (pO β n c)) (hps:yX eb.ps off [pS C xs]=some ps') (h1:aAi H k {eb with ps:=ps'}=some H1) (h2:aBu H1 i=some H2) {a:Act} {w:World} (h:hs S H E a w):hs S H2 E a w:=by
 obtain⟨M,hst,hsat⟩:=h
 subst hn
 have hik:i≠k:=fun e=>by subst e;simp at hne
 obtain⟨hle,hst2⟩:=hst.freeze hi (fun _ _=>.inr trivial)
 have hebm:=List.mem_of_getElem? hk
 have hbok:=hst.own _ hebm
 obtain⟨⟨us,hou,hau⟩,hnu⟩:=hbok
 obtain⟨v,hv,hpv⟩:=hau.at off hp
 obtain⟨⟨vs,how,hall⟩,_⟩:=hst.own _ (List.mem_of_getElem? hi)
 have hS:(pS C xs).h (frz M w β) v:=by
  rcases hpv with hv'|⟨_,h0,_,a0,rfl⟩
  rotate_left
  ·have hx:xs=[]:=List.eq_nil_of_length_eq_zero h0
   subst hx
   exact⟨_,_,rfl,by simp,by simp,fun j x hj=>by simp at hj⟩
  subst hv'
  rcases how.2 with⟨h3,h4⟩|⟨g,cap,cur,h3,_,hg,hnc,_,hsz,htake⟩
  ·have hx:xs=[]:=List.eq_nil_of_length_eq_zero h4
   subst hx
   exact⟨_,_,rfl,by simp,by simp,fun j x hj=>by simp at hj⟩
  ·cases β with
   |none=>simp [sv] at h3
   |some b=>
    simp only [sv,Option.map_some,Value.slice.injEq,Option.some.injEq,Addr.mk.injEq,and_true,true_and] at h3
    obtain⟨rfl,rfl⟩:=h3
    refine⟨_,_,rfl,hL,hnc,fun j x hj=>⟨b,0,rfl,?_⟩⟩
    refine⟨(vs.drop (j*C.n)).take C.n,?_,fun t u ht=>?_⟩
    ·have:=((bB.mono hle hall).drop (j*C.n)).take C.n
     rwa [aC3 C xs j x hj] at this
    ·have hM:frz M w (some b) b=some (.cells cur T (0,0)):=by simp [frz,hg]
     rw [List.getElem?_take] at ht
     split at ht
     ·rename_i htn
      rw [List.getElem?_drop] at ht
      simp only [y0,hM,Nat.zero_add]
      rw [←htake,List.getElem?_take] at ht
      split at ht
      ·simpa using ht
      ·cases ht
     ·cases ht
 have hvs:us.set off v=us:=by
  apply List.ext_getElem?
  intro j
  rw [List.getElem?_set]
  split
  ·rename_i e;subst e
   split
   ·exact hv.symm
   ·rename_i hlt;simp [List.getElem?_eq_none (Nat.not_lt.1 hlt)]
  ·rfl
 have hau2:bB (frz M w β) ps' us:=by
  have:=aF9 (us:=[v]) hps (bB.mono hle hau) ⟨hS,trivial⟩
  have hoff:off<us.length:=(List.getElem?_eq_some_iff.1 hv).1
  have e:us.take off++[v]++us.drop (off+[v].length)=us.set off v:=by
   rw [List.set_eq_take_append_cons_drop,if_pos hoff];simp
  rw [e,hvs] at this
  exact this
 refine⟨_,?_,hsat.mono hle⟩
 rw [aAW h2,aC4 h1]
 have hget:∀(j:Nat),((H.set k {eb with ps:=ps'}).eraseIdx i)[j]?=if j<i then(H.set k {eb with ps:=ps'})[j]? else(H.set k {eb with ps:=ps'})[j+1]?:=fun j=>by rw [List.getElem?_eraseIdx]
 have hmap:∀(j:Nat) x,((H.set k {eb with ps:=ps'}).eraseIdx i)[j]?=some x→∃y,(H.eraseIdx i)[j]?=some y∧x.β=y.β∧(x.ok (frz M w β) w):=by
  intro j x hx
  have hx':∃j',j'≠i∧(H.set k {eb with ps:=ps'})[j']?=some x∧(H.eraseIdx i)[j]?=H[j']?:=by
   rw [hget] at hx
   by_cases hj:j<i
   ·rw [if_pos hj] at hx
    exact⟨j,by omega,hx,by rw [List.getElem?_eraseIdx,if_pos hj]⟩
   ·rw [if_neg hj] at hx
    exact⟨j+1,by omega,hx,by rw [List.getElem?_eraseIdx,if_neg hj]⟩
  obtain⟨j',hne',hx2,he⟩:=hx'
  rw [List.getElem?_set] at hx2
  by_cases hkj:k=j'
  ·subst hkj
   rw [if_pos rfl] at hx2
   split at hx2
   ·simp only [Option.some.injEq] at hx2
    subst hx2
    refine⟨eb,by rw [he,hk],rfl,⟨us,hou,hau2⟩,fun b hb=>?_⟩
    exact(hst2.own eb (List.mem_of_getElem? (by rw [he,hk]))).2 b hb
   ·cases hx2
  ·rw [if_neg hkj] at hx2
   exact⟨x,by rw [he,hx2],rfl,hst2.own x (List.mem_of_getElem? (by rw [he,hx2]))⟩
 refine⟨hst2.le0,hst2.mem,hst2.keep,hst2.new,hst2.size,hst2.os,hst2.tape,hst2.output,fun x hx=>?_,fun x hx b hb=>?_,zV fun {j l x y b} hj hl hx hy=>?_⟩
 ·obtain⟨j,hj⟩:=List.getElem?_of_mem hx
  obtain⟨y,_,_,hok⟩:=hmap j x hj
  exact hok
 ·obtain⟨j,hj⟩:=List.getElem?_of_mem hx
  obtain⟨y,hy,hb',_⟩:=hmap j x hj
  exact hst2.fresh y (List.mem_of_getElem? hy) b (hb'▸hb)
 ·obtain⟨x',hx',e1,_⟩:=hmap j x hj
  obtain⟨y',hy',e2,_⟩:=hmap l y hl
  exact aAm hst2.nodup hx' hy' (e1▸hx) (e2▸hy)
theorem cY {α:Type} {C:Cd α} {xs:List α} {t e bytes n c T:Nat} {x y:Operand} {β:Option Nat} {j:Int} {k:IntKind} (i:Nat) (ho:o.op=.indexAddr t x y) (ht:TyS S.P t e C.n bytes) (hi:H[i]?=some (hO C β c T n xs)) (hn:xs.length=n) (h0:0≤j) (hlt:j.toNat<xs.length):
  Tr S o H H [(x,.vc (pO β n c)),(y,.vc (pI k j))] (.vc (pE β j C.n 0)):=by
 refine⟨fun M w a h hin K Q hkk=>?_⟩
 have:=(aSz (S:=S) (k0:=C.n) ho ht h0 (by omega:j<(n:Int)) hi rfl rfl rfl).run M w a h hin K Q (fun v M' w' hm hs hv=>hkk v M' w' hm hs ?_)
 ·exact this
 ·obtain⟨b,hb,rfl⟩:=hv
  exact⟨b,hb,rfl⟩
theorem aHK {s f n off k:Nat} {x:Operand} {β:Option Nat} {j:Int} (ho:o.op=.fieldAddr s x f) (hf:TyF S.P s f k):Tr S o H H [(x,.vc (pE β j n off))] (.vc (pE β j n (off+k))):=by
 refine⟨fun M w a h hin K Q hkk=>?_⟩
 obtain⟨b,hb,hx⟩:=hin.1
 have:=(gV (S:=S) (H:=H) (off:=j.toNat*n+off) ho hf).run M w a h ⟨⟨b,hb,hx⟩,trivial⟩ K Q (fun v M' w' hm hs hv=>hkk v M' w' hm hs ?_)
 ·exact this
 ·obtain⟨b,hb,rfl⟩:=hv
  exact⟨b,hb,by rw [Nat.add_assoc]⟩
theorem aMY {α:Type} (C:Cd α) {xs:List α} {j:Nat} {x:α} (h:xs[j]?=some x) (off k:Nat) (hk:off+k≤C.n):((flat C xs).drop (j*C.n+off)).take k=((C.e x).drop off).take k:=by
 have h1:=aC3 C xs j x h
 rw [←List.drop_drop,←h1,List.drop_take,List.take_take,Nat.min_eq_left (by omega)]
theorem iD {α:Type} {C:Cd α} {xs:List α} {t off k n c T:Nat} {x:Operand} {j:Int} {z:α} {β:Option Nat} {out:VP} {qs:List CP} (i:Nat) (ho:o.op=.load t x) (hi:H[i]?=some (hO C β c T n xs)) (hj:bF xs j=some z) (hq:vI k ((C.e z).drop off)=some qs) (hk:Tk S.P t qs out) (hC:Nat.ble (off+k) C.n=true):
  Tr S o H H [(x,.vc (pE β j C.n off))] out:=by
 refine⟨fun M w a h hin K Q hkk=>?_⟩
 obtain⟨b,hb,hx⟩:=hin.1
 obtain⟨h0,hl,hz⟩:=aD hj
 obtain⟨h1,h2⟩:=aBA hq
 have hseg:=aMY C hz off k (by simpa using hC)
 exact(aRM (S:=S) (H:=H) (off:=j.toNat*C.n+off) (qs:=qs) ho hi rfl (by rw [h2];exact hseg.trans h1) hk).run M w a h ⟨⟨b,hb,hx⟩,trivial⟩ K Q hkk
theorem yM {α:Type} {C:Cd α} {xs zs:List α} {t off n c T:Nat} {x y:Operand} {j:Int} {z z':α} {β:Option Nat} {p:VP} (i:Nat) (ho:o.op=.store t x y) (hi:H[i]?=some (hO C β c T n xs)) (hj:bF xs j=some z) (hs:qL xs j z'=some zs) {kk:Nat} (hT:(S.P.info? t).map (·.size)=some kk) (hp:p.flat:=by exact trivial) (hkk:p.cells.length=kk:=by rfl) (hq:yX (C.e z) off p.cells=some (C.e z'):=by rfl)
  (hH:aAi H i (hO C β c T n zs)=some H':=by rfl):Tr S o H H' [(x,.vc (pE β j C.n off)),(y,p)] .any:=by
 subst hkk
 refine⟨fun M w a h hin K Q hkk=>?_⟩
 obtain⟨b,hb,hx⟩:=hin.1
 obtain⟨h0,hl,hz⟩:=aD hj
 obtain⟨hq1,hq2⟩:=aBN hq
 rw [C.len] at hq2
 have hfl:=aED C xs
 have hb2:j.toNat*C.n+off+p.cells.length≤(flat C xs).length:=by
  rw [hfl]
  have:(j.toNat+1)*C.n≤xs.length*C.n:=Nat.mul_le_mul_right _ hl
  rw [Nat.add_mul,Nat.one_mul] at this
  omega
 have hzs:zs=xs.set j.toNat z':=by
  unfold qL at hs
  rw [if_pos ⟨h0,hl⟩] at hs
  simpa using hs.symm
 have hset:∀(xs:List α) (j:Nat),xs[j]?=some z→(flat C xs).take (j*C.n+off)++p.cells++(flat C xs).drop (j*C.n+off+p.cells.length)=flat C (xs.set j z'):=by
  intro xs
  induction xs with
  |nil=>intro j h;simp at h
  |cons y ys ih=>
   intro j h
   have hy:=C.len y
   cases j with
   |zero=>
    simp only [List.getElem?_cons_zero,Option.some.injEq] at h
    subst h
    simp only [List.set_cons_zero,flat,List.flatMap_cons,Nat.zero_mul,Nat.zero_add]
    rw [hq1,List.take_append_of_le_length (by omega)]
    have:off+p.cells.length=(C.e y).length+0∨off+p.cells.length<(C.e y).length:=by omega
    rw [List.drop_append_of_le_length (by omega)]
    simp
   |succ j=>
    simp only [List.getElem?_cons_succ] at h
    have:=ih j h
    simp only [flat,List.flatMap_cons,List.set_cons_succ] at this ⊢
    rw [←this]
    have e1:(j+1)*C.n+off=(C.e y).length+(j*C.n+off):=by rw [hy,Nat.add_mul,Nat.one_mul];omega
    have e2:(j+1)*C.n+off+p.cells.length=(C.e y).length+(j*C.n+off+p.cells.length):=by rw [hy,Nat.add_mul,Nat.one_mul];omega
    rw [e2,e1]
    simp [List.take_append,List.drop_append]
    rw [List.take_of_length_le (by omega),List.drop_of_length_le (by omega)]
    simp
 have:=(aSt (S:=S) (H:=H) (off:=j.toNat*C.n+off) (p:=p) (β:=β) ho hi rfl hp hT hb2).run M w a h ⟨⟨b,hb,hx⟩,hin.2⟩ K Q (fun v M' w' hm hs' hv=>hkk v M' w' hm ?_ hv)
 ·exact this
 ·rw [aC4 hH,hzs]
  rw [hset xs j.toNat hz] at hs'
  exact hs'
theorem aB3 {α:Type} {C:Cd α} {xs:List α} {t e k bytes n c T:Nat} {β:Option Nat} {x:Operand} (ho:o.op=.call {callee:=.builtin .len,args:=#[x],argTypes:=#[t]}) (ht:TyS S.P t e k bytes) (hn:xs.length=n):
  Tr S o H H [(x,.vc (pO β n c))] (.vc (pI .i64 xs.length)):=by subst hn;exact aR2 ho ht
theorem aMZ {α:Type} {C:Cd α} {M:jI} {z:α} {zv:Value} (hz:bB M (C.e z) zv.cells.toList) (n:Nat):bB M (flat C (List.replicate n z)) (madeCells zv.cells (n*C.n)).toList:=by
 have hl:=hz.len
 rw [C.len] at hl
 simp only [Array.length_toList] at hl
 have key:∀n,(madeCells zv.cells (n*C.n)).toList=(List.replicate n zv.cells.toList).flatten:=by
  intro n
  apply List.ext_getElem?
  intro j
  have hflat:∀(m j:Nat),(List.replicate m zv.cells.toList).flatten[j]?=if j<m*C.n then zv.cells.toList[j%C.n]? else none:=by
   intro m
   induction m with
   |zero=>intro j;simp
   |succ m ih=>
    intro j
    rw [List.replicate_succ,List.flatten_cons,List.getElem?_append]
    simp only [Array.length_toList,hl]
    by_cases hj:j<C.n
    ·have:j<(m+1)*C.n:=by rw [Nat.add_mul,Nat.one_mul];omega
     simp [hj,this,Nat.mod_eq_of_lt hj]
    ·rw [if_neg hj,ih]
     have e:(j-C.n)%C.n=j%C.n:=(Nat.mod_eq_sub_mod (by omega)).symm
     rw [e]
     have:j-C.n<m*C.n↔j<(m+1)*C.n:=by rw [Nat.add_mul,Nat.one_mul];omega
     simp only [this]
  rw [hflat]
  by_cases hj:j<n*C.n
  ·have hp:0<C.n:=by rcases Nat.eq_zero_or_pos C.n with h|h;rw [h] at hj;omega;exact h
   have hlt:j%C.n<zv.cells.size:=by rw [hl];exact Nat.mod_lt _ hp
   simp [madeCells,hj,hl]
   rw [Array.getElem?_eq_getElem hlt]
   simp [hlt]
  ·simp [madeCells,hj]
 rw [key]
 have hrep:∀n,bB M (flat C (List.replicate n z)) (List.replicate n zv.cells.toList).flatten:=by
  intro n
  induction n with
  |zero=>exact trivial
  |succ n ih=>
   simp only [List.replicate_succ,flat,List.flatMap_cons,List.flatten_cons] at ih ⊢
   exact hz.app ih
 exact hrep n
theorem aEe {α:Type} {C:Cd α} {t e bytes:Nat} {x:Operand} {n:Int} {z:α} {xs:List α} (ho:o.op=.makeSlice t x x) (ht:TyS S.P t e C.n bytes) (hb:Nat.ble bytes 2048=true) (hz:TyZ S.P e (C.e z)) (hm:mkL n z=some xs):
  Hv S o H (fun b _=>hO C b xs.length e xs.length xs::H) [(x,.vc (pI .i64 n))] (fun b _=>.vc (pO b xs.length xs.length)):=by
 refine⟨fun M w a h1 hins K Q hK=>?_⟩
 obtain⟨i,zv,hi,hzz,hsz,hall⟩:=hz.z
 have hv:a.eval x=.int .i64 n:=hins.1
 have hlen:=aOQ hm
 unfold mkL at hm
 split at hm
 ·rename_i hnn
  simp only [Option.some.injEq] at hm
  obtain⟨i',hi',hs1,hs2,_⟩:=ht.s
  rw [hi] at hi'
  simp only [Option.some.injEq] at hi'
  subst hi'
  have hb':bytes≤2048:=by simpa using hb
  have hnat:((n.toNat:Nat):Int)=n:=Int.toNat_of_nonneg hnn.1
  have hbn:i.bytes*n.toNat≤281474976710656:=by
   rw [hs2]
   calc bytes*n.toNat≤2048*68719476736:=Nat.mul_le_mul hb' (by omega)
    _≤_:=by decide
  obtain⟨w',hr,how,hgr⟩:=run_make_full (P:=S.P) w 0 t e i zv C.n ht.u hi hzz hs1 .i64 .i64 n.toNat hbn (by simp only [maxLen];omega) (Nat.zero_le _)
  refine bX (w':=w') (v:=.slice (some ⟨w.heap.size,0,none⟩) n.toNat n.toNat) ?_ (hK _ M w' (some w.heap.size) 0 (oX.refl M) ?_ (by rw [hlen];exact .inl rfl))
  ·rw [hnat] at hr
   simp [execOp,ho,hv,hr]
  ·have hok:HA.ok (hO C (some w.heap.size) xs.length e xs.length xs) M w':=by
    refine⟨⟨(madeCells zv.cells (n.toNat*C.n)).toList,?_,?_⟩,fun b hb=>?_⟩
    ·simp only [hlen];exact how
    ·rw [←hm];exact aMZ (hall M) n.toNat
    ·have e:w.heap.size=b:=by simpa using hb
     exact h1.mem.none (by omega)
   refine h1.new_row hgr hok (fun b hb=>?_)
   have e:w.heap.size=b:=by simpa using hb
   omega
 ·cases hm
theorem nN {α:Type} {C:Cd α} {t e bytes d:Nat} {x:Operand} {n:Int} {z:α} {xs:List α} (ho:o.op=.makeSlice t x x) (ht:TyS S.P t e C.n bytes) (hb:Nat.ble bytes 2048=true) (hz:TyZ S.P e (C.e z)) (hx:aF0 E x (.vc (pI .i64 n))) (hm:mkL n z=some xs)
  (k:∀b,WL S ops κ rest (hO C b xs.length e xs.length xs::H) ((d,.vc (pO b xs.length xs.length))::E))
  (hd:o.dst=some d:=by rfl) (hg:o.guard=none:=by rfl) (hN:Nat.blt d S.N=true:=by rfl):WL S ops κ (o::rest) H E:=
 aIQ (aEe ho ht hb hz hm) ⟨hx,trivial⟩ (fun b _=>k b) hd hg hN
theorem aF4 {α:Type} {C:Cd α} {t e bytes:Nat} {xs:List Operand} {ps:List VP} {zs:List α} (ho:o.op=.buildSlice t zs.length ((List.range' 0 xs.length).zip xs).toArray) (ht:TyS S.P t e C.n bytes) (hl:xs.length=ps.length) (hv:VEs C ps zs) (hsm:Nat.ble (zs.length*C.n) 16777216=true):
  Hv S o H (fun b _=>hO C b zs.length e zs.length zs::H) (xs.zip ps) (fun b _=>.vc (pO b zs.length zs.length)):=by
 refine⟨fun M w a h hin K Q hk=>?_⟩
 have hall:=lG.of_ins hl hin
 obtain⟨i,hi,hsz,hby,z,hz,hzs⟩:=ht.s
 have hlz:=VEs.len hv
 have hsm':zs.length*C.n≤16777216:=by simpa using hsm
 have hL:zs.length≤aBq:=by
  have:=Nat.le_mul_of_pos_right zs.length ht.pos
  simp only [aBq];omega
 obtain⟨cs',h1,h2⟩:=aF5 C.n (xs.map a.eval) 0 ((Array.range (zs.length*C.n)).map (z.cells[·%z.cells.size]!)) (VEs.size hv hall) (by simp [hl,hlz])
 have h2':cs'.toList=(xs.map a.eval).flatMap fun v=>v.cells.toList:=by
  rw [h2]
  simp [hl,hlz]
 have hall2:=VEs.all hv hall
 rw [←h2'] at hall2
 have hcl:cs'.size=zs.length*C.n:=by
  have:=hall2.len
  rw [aED] at this
  simpa using this
 have hst:St S M (w.alloc (.cells cs' e (0,0))) (hO C (some w.heap.size) zs.length e zs.length zs::H):=by
  refine h.new_row (World.grownBy_alloc w _ none) ⟨⟨cs'.toList,?_,hall2⟩,fun b hb=>?_⟩ (fun b hb=>by simp at hb;omega)
  ·exact World.ownsRow_lit (base:=0) (e:=e) (size:=C.n) w cs' zs.length (Nat.zero_le _) (by simpa [maxLen,aBq] using hL) hcl
  ·have e:w.heap.size=b:=by simpa using hb
   exact h.mem.none (by omega)
 refine bX (v:=.slice (some ⟨w.heap.size,0,none⟩) zs.length zs.length) (w':=w.alloc (.cells cs' e (0,0))) ?_ (hk _ M _ (some w.heap.size) 0 (oX.refl M) hst (.inl rfl))
 have hzip:(((List.range' 0 xs.length).zip xs).map fun x=>(x.1,a.eval x.2))=(List.range' 0 (xs.map a.eval).length).zip (xs.map a.eval):=by
  rw [List.zip_map_right];simp
 by_cases h0:zs.length*C.n=0
 ·have hz0:zs.length=0:=by rcases Nat.mul_eq_zero.1 h0 with h|h<;>have:=ht.pos<;>omega
  have hzs':zs=[]:=List.eq_nil_of_length_eq_zero hz0
  subst hzs'
  have hxs:xs=[]:=List.eq_nil_of_length_eq_zero (by simpa [hlz] using hl)
  subst hxs
  have hcs:cs'=#[]:=by apply Array.ext';simpa using h2'
  subst hcs
  simp [execOp,ho,Instr.buildSlice,run_underlying ht.u,sizeOf,typeInfo,hi,Instr.fill,newRow,Array.range_zero']
 ·have hgt:¬(zs.length*C.n>16777216):=by omega
  simp only [List.length_map] at h1
  simp [execOp,ho,Instr.buildSlice,run_underlying ht.u,sizeOf,typeInfo,hi,hsz,hgt,h0,zeroValue,hz,hzip,h1,newRow]
theorem aHd {α:Type} {C:Cd α} {ys:List α} {M:jI} {w:World} (h:St S M w H) {v:Value} (hv:(pS C ys).h M v):(ys=[]∧∃p c,v=.slice p 0 c)∨∃ad c news,0<ys.length∧v=.slice (some ad) ys.length c∧news.length=ys.length*C.n∧(∀(j:Nat) u,news[j]?=some u→w.cell? (ad.add j)=some u)∧bB M (flat C ys) news:=by
 obtain⟨p,c,rfl,_,_,hall⟩:=hv
 by_cases hy:ys=[]
 ·subst hy;exact .inl ⟨rfl,p,c,rfl⟩
 ·right
  have h0:0<ys.length:=List.length_pos_iff.2 hy
  obtain⟨b,off,rfl,_⟩:=hall 0 ys[0] (by simp [h0])
  have key:∀(zs:List α) (k:Nat),(∀(j:Nat) x,zs[j]?=some x→z9 M b (off+(k+j)*C.n) (C.e x))→∃news:List Value,news.length=zs.length*C.n∧bB M (flat C zs) news∧∀(j:Nat) u,news[j]?=some u→y0 M b (off+k*C.n+j)=some u:=by
   intro zs
   induction zs with
   |nil=>intro k _;exact⟨[],by simp,trivial,fun j u h=>by simp at h⟩
   |cons z zs ih=>
    intro k hz
    obtain⟨vs,h1,h2⟩:=hz 0 z (by simp)
    obtain⟨news,h3,h4,h5⟩:=ih (k+1) (fun j x hj=>by
     have:=hz (j+1) x (by simpa using hj)
     rwa [show k+(j+1)=k+1+j by omega] at this)
    have hvl:vs.length=C.n:=by rw [h1.len,C.len]
    refine⟨vs++news,?_,h1.app h4,fun j u hj=>?_⟩
    ·simp only [List.length_append,hvl,h3,List.length_cons,Nat.add_mul];omega
    ·rw [List.getElem?_append] at hj
     split at hj
     ·have:=h2 j u hj
      rwa [Nat.add_zero] at this
     ·rename_i hjl
      have:=h5 _ u hj
      rw [hvl] at this hjl
      rw [Nat.add_mul,Nat.one_mul] at this
      rwa [show off+k*C.n+j=off+(k*C.n+C.n)+(j-C.n) by omega]
  obtain⟨news,h1,h2,h3⟩:=key ys 0 (fun j x hj=>by
   obtain⟨b',o',e,hc⟩:=hall j x hj
   simp only [Option.some.injEq,Addr.mk.injEq,and_true] at e
   obtain⟨rfl,rfl⟩:=e
   rwa [Nat.zero_add])
  refine⟨⟨b,off,none⟩,c,news,h0,rfl,h1,fun j u hj=>?_,h2⟩
  rw [aA9]
  have:=h3 j u hj
  rw [Nat.zero_mul,Nat.add_zero] at this
  exact h.cell this
theorem aMb {P:Program} (w:World) (t ty e:TypeId) (i:TypeInfo) (z:Value) (size bytes:Nat) (ht:P.underlying t=some (.slice e)) (hi:P.info? e=some i) (hz:i.zero=some z)
  (hsize:i.size=size) (hby:i.bytes=bytes) (hsz:0<size) (β:Option Nat) (n cc:Nat) (xs:List Value) (hown:w.ownsRow 0 e size (sv β n cc) n xs)
  (a:Addr) (m c:Nat) (news:List Value) (hl:news.length=m*size) (hnews:∀(j:Nat) u,news[j]?=some u→w.cell? (a.add j)=some u) (h1:∀u∈news,u.oneCell'=true)
  (hpos:0<m) (h63:n+m≤maxLen) (hbytes:(n+m)*bytes≤140737488355328) {v':Value} {w':World} (hr:(Builtin.append_ #[t,t] ty #[sv β n cc,.slice (some a) m c]).run P w=.ok v' w'):
  v'.ownBlock=β∨v'.ownBlock=some w.heap.size:=by
 subst hsize hby
 have hsmall:n+m≤9223372036854775807:=by simp only [maxLen] at h63;omega
 rcases hown.2 with⟨h3,h4⟩|⟨g,cap,cur,h3,_,hg,hnc,hcm,hcs,htake⟩
 ·rw [h3] at hr
  subst h4
  have hbm:m*i.bytes≤140737488355328:=by simpa using hbytes
  have:=run_append_nil (P:=P) w t ty e i z ht hi hz a m c news hl hnews hpos (by omega) (by omega)
  rw [this] at hr
  cases hr
  exact .inr rfl
 ·cases β with
  |none=>simp [sv] at h3
  |some b=>
   simp only [sv,Option.map_some] at hr hown
   by_cases hroom:n+m≤cc
   ·obtain⟨w'',h5,_,_⟩:=run_append_fits (P:=P) w 0 t ty e i i.size ht hi rfl b n cc xs hown a m c news hl hnews h1 hroom
    rw [h5] at hr
    cases hr
    exact .inl rfl
   ·have holds:∀(j:Nat) u,xs[j]?=some u→w.cell? ((⟨b,0,none⟩:Addr).add j)=some u:=hown.cells (g:=b) rfl
    have:=run_append_grow (P:=P) w t ty e i z ht hi hz ⟨b,0,none⟩ n cc xs hown.1 holds a m c news hl hnews (by omega) (by omega) (growslice_fits (by omega) hbytes)
    rw [this] at hr
    cases hr
    exact .inr rfl
theorem aBc {α:Type} {C:Cd α} {t bytes n c T:Nat} {β:Option Nat} {x y:Operand} {xs ys zs:List α} (i:Nat) (ho:o.op=.call {callee:=.builtin .append,args:=#[x,y],argTypes:=#[t,t]}) (ht:TyS S.P t T C.n bytes) (hb:Nat.ble bytes 2048=true) (hi:H[i]?=some (hO C β c T n xs)) (hn:xs.length=n) (hz:oG xs ys=some zs):
  Hv S o H (fun β' c'=>H.set i (hO C β' c' T (n+ys.length) zs)) [(x,.vc (pO β n c)),(y,.vc (pS C ys))] (fun β' c'=>.vc (pO β' (n+ys.length) c')):=by
 refine⟨fun M w a h1 hins K Q hK=>?_⟩
 have hvx0:=hins.1
 have hvy:(pS C ys).h M (a.eval y):=hins.2.1
 obtain⟨it,hit,hs1,hs2,zv,hzv,hzs⟩:=ht.s
 obtain⟨⟨vs,how,hall⟩,hnone⟩:=h1.own _ (List.mem_of_getElem? hi)
 have hzz:zs=xs++ys∧xs.length+ys.length≤68719476736:=by
  unfold oG at hz
  split at hz
  ·simp only [Option.some.injEq] at hz;exact⟨hz.symm,‹_›⟩
  ·cases hz
 obtain⟨rfl,hle⟩:=hzz
 have hb':bytes≤2048:=by simpa using hb
 rcases aHd h1 hvy with⟨rfl,p,cy,hys⟩|⟨ad,cy,news,hpos,hys,hnl,hnews,hnall⟩
 ·
  have hr:(Builtin.append_ #[t,t] o.type #[sv β n c,.slice p 0 cy]).run S.P w=.ok (sv β n c) w:=by
   cases p with
   |none=>
    have h0:sv β n c=sv β n c:=rfl
    rcases how.2 with⟨h3,h4⟩|⟨g,cap,cur,h3,_,hg',hnc,_⟩
    ·have h3':sv β n c=.slice none 0 0:=h3
     rw [h3']
     simp [Builtin.append_,run_underlying ht.u,sizeOf,typeInfo,hit,Builtin.lenOf,Builtin.firstCells]
    ·have h3':sv β n c=.slice (some ⟨g,0,none⟩) n cap:=h3
     have hnc':n≤cap:=hnc
     rw [h3']
     simp [Builtin.append_,run_underlying ht.u,sizeOf,typeInfo,hit,Builtin.lenOf,Builtin.firstCells,hnc',storeCells]
   |some ad=>
    rcases how.2 with⟨h3,h4⟩|⟨g,cap,cur,h3,_,hg',hnc,_⟩
    ·have h3':sv β n c=.slice none 0 0:=h3
     rw [h3']
     simp [Builtin.append_,run_underlying ht.u,sizeOf,typeInfo,hit,Builtin.lenOf,Builtin.firstCells,loadCells,loadCellsFrom]
    ·have h3':sv β n c=.slice (some ⟨g,0,none⟩) n cap:=h3
     have hnc':n≤cap:=hnc
     rw [h3']
     simp [Builtin.append_,run_underlying ht.u,sizeOf,typeInfo,hit,Builtin.lenOf,Builtin.firstCells,hnc',storeCells,loadCells,loadCellsFrom]
  have hr2:(Builtin.append_ #[t,t] o.type #[a.eval x,.slice p 0 cy]).run S.P w=.ok (a.eval x) w:=by
   rcases hvx0 with hvx|⟨_,_,_,a0,hvx⟩
   ·rw [hvx];exact hr
   ·rw [hvx]
    have hl0:∀(q:Addr),(loadCells q 0).run S.P w=.ok #[] w:=fun q=>by simpa using run_loadCells_list (P:=S.P) w q [] (by simp)
    cases p<;>simp [Builtin.append_,run_underlying ht.u,sizeOf,typeInfo,hit,Builtin.lenOf,Builtin.firstCells,storeCells,hl0]
  refine bX (w':=w) (v:=a.eval x) ?_ (hK _ M w β c (oX.refl M) ?_ (by rw [List.length_nil,Nat.add_zero];exact hvx0))
  ·simp [execOp,ho,resolve,invoke,builtin,hys,hr2]
  ·have:H.set i (hO C β c T (n+([]:List α).length) (xs++[]))=H:=by
    simp only [List.append_nil,List.length_nil,Nat.add_zero]
    exact List.ext_getElem? fun j=>by
     rw [List.getElem?_set]
     split
     ·rename_i e;subst e
      split
      ·exact hi.symm
      ·rename_i hl;exact(List.getElem?_eq_none (Nat.not_lt.1 hl)).symm
     ·rfl
   rw [this];exact h1
 ·have hbytes:(n+ys.length)*bytes≤140737488355328:=by
   calc (n+ys.length)*bytes≤68719476736*2048:=Nat.mul_le_mul (by omega) hb'
    _=140737488355328:=by decide
  obtain⟨v',w',hr,ho',hgr,_⟩:=run_append_own (P:=S.P) w 0 t o.type T it zv C.n bytes ht.u hit hzv hs1 hs2 hzs ht.pos (sv β n c) n vs how ad ys.length cy news hnl hnews (bB.one hnall) (by simp only [maxLen];omega) hbytes (Nat.zero_le _)
  have hblk:=aMb w t o.type T it zv C.n bytes ht.u hit hzv hs1 hs2 ht.pos β n c vs how ad ys.length cy news hnl hnews (bB.one hnall) hpos (by simp only [maxLen];omega) hbytes hr
  have hform:∃β' c',v'=sv β' (n+ys.length) c'∧(β'=β∨∀b,β'=some b→w.heap.size≤b):=by
   rcases ho'.2 with⟨h3,h4⟩|⟨g,cap,cur,h3,_,hg',_⟩
   ·refine⟨none,0,?_,.inr fun b hb=>by cases hb⟩
    rw [h3,h4];rfl
   ·refine⟨some g,cap,h3,?_⟩
    rw [h3] at hblk
    rcases hblk with h5|h5
    ·exact .inl h5
    ·refine .inr fun b hb=>?_
     have e1:some g=some w.heap.size:=h5
     simp only [Option.some.injEq] at e1 hb
     omega
  obtain⟨β',c',rfl,hβ⟩:=hform
  have hr2:(Builtin.append_ #[t,t] o.type #[a.eval x,.slice (some ad) ys.length cy]).run S.P w=.ok (sv β' (n+ys.length) c') w':=by
   rcases hvx0 with hvx|⟨rfl,rfl,rfl,a0,hvx⟩
   ·rw [hvx];exact hr
   ·rw [hvx,←hr]
    have hsz:ys.length*it.bytes≤281474976710656:=by rw [hs2];rw [Nat.zero_add] at hbytes;omega
    have e1:=run_append_grow (P:=S.P) w t o.type T it zv ht.u hit hzv a0 0 0 [] (by simp) (by simp) ad ys.length cy news (by rw [hs1];exact hnl) hnews (by omega) (by omega) (by rw [Nat.zero_add,nextslicecap_zero hpos];exact hsz)
    have e2:=run_append_nil (P:=S.P) w t o.type T it zv ht.u hit hzv ad ys.length cy news (by rw [hs1];exact hnl) hnews hpos (by omega) hsz
    rw [e1,show sv none 0 0=.slice none 0 0 from rfl,e2]
    simp
  refine bX (w':=w') (v:=sv β' (n+ys.length) c') ?_ (hK _ M w' β' c' (oX.refl M) ?_ (.inl rfl))
  ·simp [execOp,ho,resolve,invoke,builtin,hys,hr2]
  ·rw [aOD] at hgr
   refine h1.put hi hgr ⟨⟨vs++news,ho',?_⟩,fun b hb=>?_⟩ hβ
   ·show bB M (flat C (xs++ys)) (vs++news)
    rw [aJj];exact hall.app hnall
   ·rcases hβ with h3|h3
    ·exact hnone b (h3▸hb)
    ·exact h1.mem.none (h3 b hb)
theorem iK {α:Type} {C:Cd α} {t bytes d n c T:Nat} {β:Option Nat} {x y:Operand} {xs ys zs:List α} (i:Nat) (ho:o.op=.call {callee:=.builtin .append,args:=#[x,y],argTypes:=#[t,t]}) (ht:TyS S.P t T C.n bytes) (hb:Nat.ble bytes 2048=true) (hi:H[i]?=some (hO C β c T n xs)) (hn:xs.length=n) (hx:aF0 E x (.vc (pO β n c))) (hy:aF0 E y (.vc (pS C ys))) (hz:oG xs ys=some zs)
  (k:∀β' c' H',H.set i (hO C β' c' T (n+ys.length) zs)=H'→WL S ops κ rest H' ((d,.vc (pO β' (n+ys.length) c'))::E))
  (hd:o.dst=some d:=by rfl) (hg:o.guard=none:=by rfl) (hN:Nat.blt d S.N=true:=by rfl):WL S ops κ (o::rest) H E:=
 aIQ (aBc i ho ht hb hi hn hz) ⟨hx,hy,trivial⟩ (fun b c=>k b c _ rfl) hd hg hN
theorem St.frzv {α:Type} {C:Cd α} {xs:List α} {i:Nat} {β:Option Nat} {c T n:Nat} {M:jI} {w:World} (h:St S M w H) (hi:H[i]?=some (hO C β c T n xs)) (hn:xs.length=n):∃M',oX M M'∧St S M' w (H.eraseIdx i)∧(pS C xs).h M' (sv β n c):=by
 subst hn
 have hL:xs.length≤aBq:=by have:=aLF h hi;simpa [maxLen,aBq] using this
 obtain⟨hle,hst⟩:=h.freeze hi (fun _ _=>.inr trivial)
 refine⟨_,hle,hst,?_⟩
 obtain⟨⟨vs,how,hall⟩,_⟩:=h.own _ (List.mem_of_getElem? hi)
 rcases how.2 with⟨h3,h4⟩|⟨g,cap,cur,h3,_,hg,hnc,_,hsz,htake⟩
 ·have hx:xs=[]:=List.eq_nil_of_length_eq_zero h4
  subst hx
  exact⟨_,_,rfl,by simp,by simp,fun j x hj=>by simp at hj⟩
 ·cases β with
  |none=>simp [sv] at h3
  |some b=>
   simp only [sv,Option.map_some,Value.slice.injEq,Option.some.injEq,Addr.mk.injEq,and_true,true_and] at h3
   obtain⟨rfl,rfl⟩:=h3
   refine⟨_,_,rfl,hL,hnc,fun j x hj=>⟨b,0,rfl,?_⟩⟩
   refine⟨(vs.drop (j*C.n)).take C.n,?_,fun t u ht=>?_⟩
   ·have:=((bB.mono hle hall).drop (j*C.n)).take C.n
    rwa [aC3 C xs j x hj] at this
   ·have hM:frz M w (some b) b=some (.cells cur T (0,0)):=by simp [frz,hg]
    rw [List.getElem?_take] at ht
    split at ht
    ·rename_i htn
     rw [List.getElem?_drop] at ht
     simp only [y0,hM,Nat.zero_add]
     rw [←htake,List.getElem?_take] at ht
     split at ht
     ·simpa using ht
     ·cases ht
    ·cases ht
theorem aJ5 {α:Type} {C:Cd α} {xs:List α} {n T:Nat} {Post:Option Nat→Nat→List HA} {ins:List (Operand×VP)} {cf:Nat→Nat} (i:Nat) (t:Hv S o H Post ins (fun b c=>.vc (pO b n (cf c)))) (hi:∀b c,(Post b c)[i]?=some (hO C b (cf c) T n xs)) (hn:xs.length=n) (hd:∀b c,aBu (Post b c) i=some H'):Tr S o H H' ins (.vc (pS C xs)):=
 ⟨fun M w a hs hin K Q hk=>t.run M w a hs hin K Q fun v M' w' b c hm hst hv=>by
  obtain⟨M2,h1,h2,h3⟩:=hst.frzv (hi b c) hn
  rw [←aAW (hd b c)] at h2
  rcases hv with hv'|⟨_,h0,_,a0,rfl⟩
  ·subst hv'
   exact hk _ M2 w' (hm.trans h1) h2 h3
  ·have hx:xs=[]:=List.eq_nil_of_length_eq_zero (hn.trans h0)
   subst hx
   exact hk _ M2 w' (hm.trans h1) h2 ⟨_,_,rfl,by simp,by simp,fun j x hj=>by simp at hj⟩⟩
end
end Go.Proofs.YtolfcbpgmfbgmaaGreat
set_option linter.unusedVariables false
namespace Go.Proofs.YtolfcbpgmfbgmaaGreat
section
variable {S:Sx} {κ:Kt} {H H':List HA} {E:sN} {ops:Array Oper} {rest:List Oper} {o:Oper}
theorem aEU {α:Type} {C:Cd α} {xs:List α} {M:jI} {p:Option Addr} {n c l h m:Nat} (hv:(pS C xs).h M (.slice p n c)) (hlh:l≤h) (hhn:h≤xs.length) (hhm:h≤m) (hmc:m≤c):
  (pS C ((xs.drop l).take (h-l))).h M (.slice (if m=l then p else p.map (·.add (l*C.n))) (h-l) (m-l)):=by
 obtain⟨p',c',e,h1,h2,h3⟩:=hv
 simp only [Value.slice.injEq] at e
 obtain⟨rfl,rfl,rfl⟩:=e
 have hlen:((xs.drop l).take (h-l)).length=h-l:=by simp;omega
 refine⟨_,_,by rw [hlen],by omega,by omega,fun j x hj=>?_⟩
 rw [List.getElem?_take] at hj
 split at hj
 ·rename_i hjl
  rw [List.getElem?_drop] at hj
  obtain⟨b,off,rfl,hc⟩:=h3 _ x hj
  have hml:¬m=l:=by omega
  refine⟨b,off+l*C.n,by simp [hml,aA9],?_⟩
  rw [Nat.add_mul,←Nat.add_assoc] at hc
  exact hc
 ·cases hj
theorem aAx {α:Type} {xs zs:List α} {lo hi:Int} (h:slL xs lo hi=some zs):zs=(xs.drop lo.toNat).take (hi.toNat-lo.toNat)∧0≤lo∧lo≤hi∧hi≤xs.length:=by
 unfold slL at h
 split at h
 ·simp only [Option.some.injEq] at h;exact⟨h.symm,‹_›⟩
 ·cases h
theorem aCo {P:Program} {w:World} {k:IntKind} {i:Int} {y:Nat} {code:BoundsCode} (h0:0≤i) (h1:i≤y):(Instr.sliceBound (.int k i) y code).run P w=.ok i.toNat w:=run_sliceBound w k i y code h0 h1
theorem aDK {α:Type} {C:Cd α} {xs zs:List α} {t e bytes:Nat} {x y:Operand} {hi:Int} {k:IntKind} (ho:o.op=.slice t x none (some y) none) (ht:TyS S.P t e C.n bytes) (h:slL xs 0 hi=some zs):
  Tr S o H H [(x,.vc (pS C xs)),(y,.vc (pI k hi))] (.vc (pS C zs)):=by
 refine⟨fun M w a hs hin K Q hk=>?_⟩
 obtain⟨rfl,_,h0,hl⟩:=aAx h
 obtain⟨p,c,hx,h1,h2,h3⟩:=hin.1
 have hy:a.eval y=.int k hi:=hin.2.1
 obtain⟨i,hi',hk',_⟩:=ht.s
 refine bX (v:=.slice (if c=0 then p else p.map (·.add (0*C.n))) (hi.toNat-0) (c-0)) ?_ (hk _ M w (oX.refl M) hs (aEU (l:=0) (h:=hi.toNat) (m:=c) ⟨p,c,rfl,h1,h2,h3⟩ (by omega) (by omega) (by omega) (Nat.le_refl _)))
 have hb:=aCo (P:=S.P) (w:=w) (k:=k) (i:=hi) (y:=c) (code:=.sliceAcap) h0 (by omega)
 simp [execOp,ho,hx,hy,Instr.sliceAt,Instr.slice,Instr.sliceBounds,run_underlying ht.u,sizeOf,typeInfo,hi',hb]
theorem aH3 {α:Type} {C:Cd α} {xs zs:List α} {t e bytes:Nat} {x y:Operand} {lo:Int} {k:IntKind} (ho:o.op=.slice t x (some y) none none) (ht:TyS S.P t e C.n bytes) (h:slL xs lo xs.length=some zs):
  Tr S o H H [(x,.vc (pS C xs)),(y,.vc (pI k lo))] (.vc (pS C zs)):=by
 refine⟨fun M w a hs hin K Q hk=>?_⟩
 obtain⟨rfl,h0,hl,_⟩:=aAx h
 obtain⟨p,c,hx,h1,h2,h3⟩:=hin.1
 have hy:a.eval y=.int k lo:=hin.2.1
 obtain⟨i,hi',hk',_⟩:=ht.s
 refine bX (v:=.slice (if c=lo.toNat then p else p.map (·.add (lo.toNat*C.n))) (xs.length-lo.toNat) (c-lo.toNat)) ?_ (hk _ M w (oX.refl M) hs (aEU (l:=lo.toNat) (h:=xs.length) (m:=c) ⟨p,c,rfl,h1,h2,h3⟩ (by omega) (by omega) (by omega) (Nat.le_refl _)))
 have hb:=aCo (P:=S.P) (w:=w) (k:=k) (i:=lo) (y:=xs.length) (code:=.sliceB) h0 hl
 simp [execOp,ho,hx,hy,Instr.sliceAt,Instr.slice,Instr.sliceBounds,run_underlying ht.u,sizeOf,typeInfo,hi',hk',hb]
theorem aLc {α:Type} {C:Cd α} {xs zs:List α} {t e bytes:Nat} {x y z:Operand} {lo hi:Int} {k k':IntKind} (ho:o.op=.slice t x (some y) (some z) none) (ht:TyS S.P t e C.n bytes) (h:slL xs lo hi=some zs):
  Tr S o H H [(x,.vc (pS C xs)),(y,.vc (pI k lo)),(z,.vc (pI k' hi))] (.vc (pS C zs)):=by
 refine⟨fun M w a hs hin K Q hk=>?_⟩
 obtain⟨rfl,h0,hl,hl2⟩:=aAx h
 obtain⟨p,c,hx,h1,h2,h3⟩:=hin.1
 have hy:a.eval y=.int k lo:=hin.2.1
 have hz:a.eval z=.int k' hi:=hin.2.2.1
 obtain⟨i,hi',hk',_⟩:=ht.s
 refine bX (v:=.slice (if c=lo.toNat then p else p.map (·.add (lo.toNat*C.n))) (hi.toNat-lo.toNat) (c-lo.toNat)) ?_ (hk _ M w (oX.refl M) hs (aEU (l:=lo.toNat) (h:=hi.toNat) (m:=c) ⟨p,c,rfl,h1,h2,h3⟩ (by omega) (by omega) (by omega) (Nat.le_refl _)))
 have hb:=aCo (P:=S.P) (w:=w) (k:=k') (i:=hi) (y:=c) (code:=.sliceAcap) (by omega) (by omega)
 have hb2:=aCo (P:=S.P) (w:=w) (k:=k) (i:=lo) (y:=hi.toNat) (code:=.sliceB) h0 (by omega)
 simp [execOp,ho,hx,hy,hz,Instr.sliceAt,Instr.slice,Instr.sliceBounds,run_underlying ht.u,sizeOf,typeInfo,hi',hk',hb,hb2]
theorem aPm {α:Type} {C:Cd α} {xs zs:List α} {t e bytes:Nat} {x y z:Operand} {hi:Int} {k k':IntKind} (ho:o.op=.slice t x none (some y) (some z)) (ht:TyS S.P t e C.n bytes) (h:slL xs 0 hi=some zs):
  Tr S o H H [(x,.vc (pS C xs)),(y,.vc (pI k hi)),(z,.vc (pI k' hi))] (.vc (pS C zs)):=by
 refine⟨fun M w a hs hin K Q hk=>?_⟩
 obtain⟨rfl,_,h0,hl⟩:=aAx h
 obtain⟨p,c,hx,h1,h2,h3⟩:=hin.1
 have hy:a.eval y=.int k hi:=hin.2.1
 have hz:a.eval z=.int k' hi:=hin.2.2.1
 obtain⟨i,hi',hk',_⟩:=ht.s
 refine bX (v:=.slice (if hi.toNat=0 then p else p.map (·.add (0*C.n))) (hi.toNat-0) (hi.toNat-0)) ?_ (hk _ M w (oX.refl M) hs (aEU (l:=0) (h:=hi.toNat) (m:=hi.toNat) ⟨p,c,rfl,h1,h2,h3⟩ (by omega) (by omega) (by omega) (by omega)))
 have hb:=aCo (P:=S.P) (w:=w) (k:=k') (i:=hi) (y:=c) (code:=.slice3Acap) h0 (by omega)
 have hb2:=aCo (P:=S.P) (w:=w) (k:=k) (i:=hi) (y:=hi.toNat) (code:=.slice3B) h0 (by omega)
 simp [execOp,ho,hx,hy,hz,Instr.sliceAt,Instr.slice,Instr.sliceBounds,run_underlying ht.u,sizeOf,typeInfo,hi',hb,hb2]
theorem aIx {α:Type} (C:Cd α):∀(xs:List α) (m:Nat),(flat C xs).take (m*C.n)=flat C (xs.take m)∧(flat C xs).drop (m*C.n)=flat C (xs.drop m)
 |[],m=>by simp [flat]
 |x::xs,0=>by simp [flat]
 |x::xs,m+1=>by
  obtain⟨h1,h2⟩:=aIx C xs m
  have hl:=C.len x
  have e:(m+1)*C.n=(C.e x).length+m*C.n:=by rw [hl,Nat.add_mul,Nat.one_mul];omega
  have hf:flat C (x::xs)=C.e x++flat C xs:=by simp [flat]
  refine⟨?_,?_⟩
  ·rw [hf,e,List.take_length_add_append,h1];simp [flat]
  ·rw [hf,e,List.drop_length_add_append,h2];simp [flat]
def cpL {α:Type} (xs ys:List α):List α:=ys.take (min ys.length xs.length)++xs.drop (min ys.length xs.length)
theorem aEo {α:Type} {xs ys:List α} {n:Nat} (h:xs.length=n):(cpL xs ys).length=n:=by
 unfold cpL;simp;omega
theorem aQn {α:Type} {C:Cd α} {py:VP} {xs ys:List α} {t bytes n c T:Nat} {β:Option Nat} {x y:Operand} (i:Nat) (hsrc:∀M w v,St S M w H→py.h M v→(ys=[]∧∃p c,v=.slice p 0 c)∨∃ad c news,0<ys.length∧v=.slice (some ad) ys.length c∧news.length=ys.length*C.n∧(∀(j:Nat) u,news[j]?=some u→w.cell? (ad.add j)=some u)∧bB M (flat C ys) news) (ho:o.op=.call {callee:=.builtin .copy,args:=#[x,y],argTypes:=#[t,t]}) (ht:TyS S.P t T C.n bytes) (hi:H[i]?=some (hO C β c T n xs)) (hn:xs.length=n) (hH:aAi H i (hO C β c T n (cpL xs ys))=some H'):
  Tr S o H H' [(x,.vc (pO β n c)),(y,py)] (.vc (pI .i64 (min ys.length xs.length:Nat))):=by
 refine⟨fun M w a h hin K Q hkk=>?_⟩
 rw [aC4 hH] at hkk
 have hx0:=hin.1
 have hy:=hsrc M w _ h hin.2.1
 obtain⟨it,hit,hs1,hs2,_⟩:=ht.s
 obtain⟨⟨vs,how,hall⟩,hnone⟩:=h.own _ (List.mem_of_getElem? hi)
 have hl0:∀(x:Addr),(loadCells x 0).run S.P w=.ok #[] w:=fun x=>by simpa using run_loadCells_list (P:=S.P) w x [] (by simp)
 have hsame:H.set i (hO C β c T n xs)=H:=List.ext_getElem? fun j=>by
  rw [List.getElem?_set]
  split
  ·rename_i e;subst e
   split
   ·exact hi.symm
   ·rename_i hl;exact(List.getElem?_eq_none (Nat.not_lt.1 hl)).symm
  ·rfl
 have hzero:min ys.length xs.length=0→cpL xs ys=xs:=fun e=>by unfold cpL;rw [e];simp
 rcases hx0 with hx|⟨_,hn0,_,a0,hx⟩
 rotate_left
 ·have hxs:xs=[]:=List.eq_nil_of_length_eq_zero (hn.trans hn0)
  rw [hzero (by simp [hxs]),hsame] at hkk
  refine bX (w':=w) (v:=.int .i64 0) ?_ (hkk _ M w (oX.refl M) h (by simp [hxs];rfl))
  obtain⟨p,m,cy,hys⟩:∃p m cy,a.eval y=.slice p m cy:=by rcases hy with⟨_,p,c,e⟩|⟨ad,c,_,_,e,_⟩<;>exact⟨_,_,_,e⟩
  cases p<;>simp [execOp,ho,resolve,invoke,builtin,hx,hys,Builtin.copy_,run_underlying ht.u,Builtin.lenOf,Builtin.firstCells,sizeOf,typeInfo,hit,hl0,storeCells,goInt]
 rcases hy with⟨rfl,p,cy,hys⟩|⟨ad,cy,news,hpos,hys,hnl,hnews,hnall⟩
 ·rw [hzero (by simp),hsame] at hkk
  refine bX (w':=w) (v:=.int .i64 0) ?_ (hkk _ M w (oX.refl M) h (by simp;rfl))
  cases p<;>cases β<;>simp [execOp,ho,resolve,invoke,builtin,hx,hys,sv,Builtin.copy_,run_underlying ht.u,Builtin.lenOf,Builtin.firstCells,sizeOf,typeInfo,hit,hl0,storeCells,goInt]
 ·by_cases hn0:n=0
  ·have hx0:xs=[]:=List.eq_nil_of_length_eq_zero (hn.trans hn0)
   rw [hzero (by simp [hx0]),hsame] at hkk
   refine bX (w':=w) (v:=.int .i64 0) ?_ (hkk _ M w (oX.refl M) h (by simp [hx0];rfl))
   subst hn0
   cases β<;>simp [execOp,ho,resolve,invoke,builtin,hx,hys,sv,Builtin.copy_,run_underlying ht.u,Builtin.lenOf,Builtin.firstCells,sizeOf,typeInfo,hit,hl0,storeCells,goInt]
  ·rcases how.2 with⟨h3,h4⟩|⟨g,cap,cur,h3,_,hg',hnc,_⟩
   ·exact absurd h4 hn0
   ·cases β with
    |none=>simp [sv] at h3
    |some b=>
     have hm:min ys.length n≤ys.length:=Nat.min_le_left _ _
     have hcl:(news.take (min ys.length n*C.n)).length=min ys.length n*C.n:=by
      rw [List.length_take,hnl]
      exact Nat.min_eq_left (Nat.mul_le_mul_right _ hm)
     have hload:=run_loadCells_list (P:=S.P) w ad (news.take (min ys.length n*C.n)) (fun j u hj=>hnews j u (by
      rw [List.getElem?_take] at hj
      split at hj
      ·exact hj
      ·cases hj))
     rw [hcl] at hload
     have hcs:bB M (flat C (ys.take (min ys.length n))) (news.take (min ys.length n*C.n)):=by
      have:=hnall.take (min ys.length n*C.n)
      rwa [(aIx C ys _).1] at this
     have hlv:(flat C xs).length=vs.length:=hall.len.symm
     have hfl:=aED C xs
     have hle:min ys.length n*C.n≤vs.length:=by
      rw [←hlv,hfl,hn]
      exact Nat.mul_le_mul_right _ (Nat.min_le_right _ _)
     obtain⟨w',hr,ho',hg⟩:=xL (P:=S.P) 0 (news.take (min ys.length n*C.n)) 0 w vs how (by rw [hcl];omega) (bB.one hcs)
     refine bX (w':=w') (v:=.int .i64 (min ys.length n:Nat)) ?_ (hkk _ M w' (oX.refl M) (h.put hi hg ⟨⟨_,ho',?_⟩,hnone⟩ (.inl rfl)) (by rw [hn];rfl))
     ·simp [execOp,ho,resolve,invoke,builtin,hx,hys,sv,Builtin.copy_,run_underlying ht.u,Builtin.lenOf,Builtin.firstCells,sizeOf,typeInfo,hit,hs1,hload,hr,goInt]
     ·simp only [Nat.zero_add,List.take_zero,List.nil_append,hcl]
      unfold cpL
      rw [hn,aJj]
      refine hcs.app ?_
      have:=hall.drop (min ys.length n*C.n)
      rwa [show(hO C (some b) c T n xs).ps=flat C xs from rfl,(aIx C xs _).2] at this
theorem t_cp {α:Type} {C:Cd α} {xs ys:List α} {t bytes n c T:Nat} {β:Option Nat} {x y:Operand} (i:Nat) (ho:o.op=.call {callee:=.builtin .copy,args:=#[x,y],argTypes:=#[t,t]}) (ht:TyS S.P t T C.n bytes) (hi:H[i]?=some (hO C β c T n xs)) (hn:xs.length=n) (hH:aAi H i (hO C β c T n (cpL xs ys))=some H'):
  Tr S o H H' [(x,.vc (pO β n c)),(y,.vc (pS C ys))] (.vc (pI .i64 (min ys.length xs.length:Nat))):=
 aQn i (fun M w v h hv=>aHd h hv) ho ht hi hn hH
theorem aQZ {α:Type} {C:Cd α} {ys:List α} {M:jI} {w:World} {T n c j:Nat} {β:Option Nat} (h:St S M w H) (hj:H[j]?=some (hO C β c T n ys)) (hn:ys.length=n) {v:Value} (hv:(pO β n c).h M v):(ys=[]∧∃p c,v=.slice p 0 c)∨∃ad c news,0<ys.length∧v=.slice (some ad) ys.length c∧news.length=ys.length*C.n∧(∀(j:Nat) u,news[j]?=some u→w.cell? (ad.add j)=some u)∧bB M (flat C ys) news:=by
 rcases hv with rfl|⟨_,h0,_,a,rfl⟩
 rotate_left
 ·exact .inl ⟨List.eq_nil_of_length_eq_zero (by omega),_,_,rfl⟩
 by_cases h0:n=0
 ·subst h0
  exact .inl ⟨List.eq_nil_of_length_eq_zero hn,_,_,rfl⟩
 obtain⟨⟨vs,how,hall⟩,hnone⟩:=h.own _ (List.mem_of_getElem? hj)
 rcases how.2 with⟨h3,h4⟩|⟨g,cap,cur,h3,_⟩
 ·exact absurd h4 h0
 cases hb:β with
 |none=>rw [hb] at h3;simp [sv] at h3
 |some b=>
  subst hb
  have hl:vs.length=ys.length*C.n:=by rw [hall.len];exact aED C ys
  refine .inr ⟨⟨b,0,none⟩,c,vs,by omega,by rw [hn];rfl,hl,fun k u hk=>?_,hall⟩
  have hlt:=(List.getElem?_eq_some_iff.1 hk).1
  rw [aA9,Nat.zero_add,World.ownsRow.cellAt (g:=b) (cap:=c) how k (by rw [←how.1];exact hlt)]
  exact hk
theorem aRO {α:Type} {C:Cd α} {xs ys:List α} {t bytes n c T n' c' T':Nat} {β β':Option Nat} {x y:Operand} (i j:Nat) (ho:o.op=.call {callee:=.builtin .copy,args:=#[x,y],argTypes:=#[t,t]}) (ht:TyS S.P t T C.n bytes) (hi:H[i]?=some (hO C β c T n xs)) (hn:xs.length=n) (hj:H[j]?=some (hO C β' c' T' n' ys)) (hn':ys.length=n') (hH:aAi H i (hO C β c T n (cpL xs ys))=some H'):
  Tr S o H H' [(x,.vc (pO β n c)),(y,.vc (pO β' n' c'))] (.vc (pI .i64 (min ys.length xs.length:Nat))):=
 aQn i (fun M w v h hv=>aQZ h hj hn' hv) ho ht hi hn hH
theorem aPW {x y:Operand} {u v:Int} {ts:Array TypeId} (ho:o.op=.call {callee:=.builtin .min,args:=#[x,y],argTypes:=ts}):Tr S o H H [(x,.vc (pI .i64 u)),(y,.vc (pI .i64 v))] (.vc (pI .i64 (min u v))):=by
 refine⟨fun M w a hs hin K Q hk=>?_⟩
 have hx:a.eval x=.int .i64 u:=hin.1
 have hy:a.eval y=.int .i64 v:=hin.2.1
 have e:(if v<u then v else u)=min u v:=by split<;>omega
 refine bX (v:=.int .i64 (min u v)) ?_ (hk _ M w (oX.refl M) hs rfl)
 simp [execOp,ho,resolve,invoke,builtin,hx,hy,Builtin.min_,Builtin.min2,e]
theorem aQk {x y:Operand} {u v:Int} {ts:Array TypeId} (ho:o.op=.call {callee:=.builtin .max,args:=#[x,y],argTypes:=ts}):Tr S o H H [(x,.vc (pI .i64 u)),(y,.vc (pI .i64 v))] (.vc (pI .i64 (max u v))):=by
 refine⟨fun M w a hs hin K Q hk=>?_⟩
 have hx:a.eval x=.int .i64 u:=hin.1
 have hy:a.eval y=.int .i64 v:=hin.2.1
 have e:(if v>u then v else u)=max u v:=by split<;>omega
 refine bX (v:=.int .i64 (max u v)) ?_ (hk _ M w (oX.refl M) hs rfl)
 simp [execOp,ho,resolve,invoke,builtin,hx,hy,Builtin.max_,Builtin.max2,e]
def y5 (e:Edge):Bool:=Region.binds .any e
def aNE (ms:List Nat) (o:Oper):Nat:=o.after.toList.foldl (fun s e=>bif y5 e then s|||(2^e.on|||ms.getD e.on 0) else s) 0
def aDb (ms:List Nat):List Oper→List Nat→Bool
 |o::l,m::r=>Nat.beq (aNE ms o) m&&aDb ms l r
 |[],[]=>true
 |_,_=>false
theorem aIB {ms:List Nat}:∀{l:List Oper} {r:List Nat},aDb ms l r=true→∀(i:Nat),(∀o,l[i]?=some o→r[i]?=some (aNE ms o))∧(l[i]?=none→r[i]?=none)
 |[],[],_,i=>⟨fun o h=>by simp at h,fun _=>by simp⟩
 |o::l,m::r,h,i=>by
  simp only [aDb,Bool.and_eq_true] at h
  cases i with
  |zero=>exact⟨fun o' ho=>by simp at ho;subst ho;simp [Nat.eq_of_beq_eq_true h.1],fun hn=>by simp at hn⟩
  |succ i=>simpa using aIB h.2 i
 |[],_::_,h,_=>by simp [aDb] at h
 |_::_,[],h,_=>by simp [aDb] at h
def zT:List Oper→Nat→Bool
 |[],_=>true
 |o::l,i=>o.after.toList.all (fun e=>!y5 e||Nat.blt e.on i)&&zT l (i+1)
structure Clo (ops:List Oper) (L:Nat→Prop):Prop where
 h:∀(i:Nat) o,ops[i]?=some o→L i→∀e∈o.after.toList,y5 e=true→L e.on
theorem aJP {ms:List Nat} {j:Nat}:∀(es:List Edge) (s:Nat),(es.foldl (fun s e=>bif y5 e then s|||(2^e.on|||ms.getD e.on 0) else s) s).testBit j=true→
  s.testBit j=true∨∃e∈es,y5 e=true∧(e.on=j∨(ms.getD e.on 0).testBit j=true)
 |[],s,h=>.inl h
 |e::es,s,h=>by
  simp only [List.foldl_cons] at h
  rcases aJP es _ h with h1|⟨e',he,hb,hj⟩
  ·cases hb:y5 e with
   |false=>rw [hb] at h1;simp at h1;exact .inl h1
   |true=>
    rw [hb] at h1
    simp only [cond_true,Nat.testBit_or,Bool.or_eq_true] at h1
    rcases h1 with h1|h1|h1
    ·exact .inl h1
    ·refine .inr ⟨e,by simp,hb,.inl ?_⟩
     simpa [Nat.testBit_two_pow] using h1
    ·exact .inr ⟨e,by simp,hb,.inr h1⟩
  ·exact .inr ⟨e',by simp [he],hb,hj⟩
theorem aI2:∀{l:List Oper} {k:Nat},zT l k=true→∀(i:Nat) o,l[i]?=some o→∀e∈o.after.toList,y5 e=true→e.on<k+i
 |[],_,_,i,o,ho=>by simp at ho
 |x::l,k,hk,i,o,ho=>by
  intro e he hbe
  simp only [zT,Bool.and_eq_true] at hk
  cases i with
  |zero=>
   simp at ho;subst ho
   have:=List.all_eq_true.1 hk.1 e he
   rw [hbe] at this
   simpa using this
  |succ i=>
   have:=aI2 hk.2 i o (by simpa using ho) e he hbe
   omega
theorem aBF {L:Nat→Prop} {l:List Oper} {ms:List Nat} (hm:aDb ms l ms=true) (hb:zT l 0=true) (i j:Nat) (hbit:(ms.getD i 0).testBit j=true) (hd:∀o,l[i]?=some o→∀e∈o.after.toList,y5 e=true→L e.on) (hc:Clo l L):L j:=by
 induction i using Nat.strongRecOn generalizing j with
 |_ i ih=>
  cases ho:l[i]? with
  |none=>
   rw [List.getD_eq_getElem?_getD,(aIB hm i).2 ho] at hbit
   simp at hbit
  |some o=>
   rw [List.getD_eq_getElem?_getD,(aIB hm i).1 o ho] at hbit
   rcases aJP _ _ hbit with h1|⟨e,he,hbe,hj⟩
   ·simp at h1
   ·have hon:=hd o ho e he hbe
    have hlt:=aI2 hb i o ho e he hbe
    rw [Nat.zero_add] at hlt
    rcases hj with rfl|hj
    ·exact hon
    ·exact ih e.on hlt j hj (fun o' ho' e' he' hb'=>hc.h e.on o' ho' hon e' he' hb')
def aA7 (d:Nat):List Oper→Nat→Option Nat
 |[],_=>none
 |o::l,i=>match o.dst with
  |some x=>bif Nat.beq x d then some i else aA7 d l (i+1)
  |none=>aA7 d l (i+1)
theorem aAY {d:Nat}:∀{l:List Oper} {i:Nat},aA7 d l i=none→∀(j:Nat) o,l[j]?=some o→o.dst≠some d
 |[],_,_,j,o,ho=>by simp at ho
 |x::l,i,h,j,o,ho=>by
  simp only [aA7] at h
  cases hx:x.dst with
  |none=>
   rw [hx] at h
   cases j with
   |zero=>simp at ho;subst ho;rw [hx];simp
   |succ j=>exact aAY h j o (by simpa using ho)
  |some y=>
   rw [hx] at h
   cases hb:Nat.beq y d with
   |true=>simp [hb] at h
   |false=>
    simp only [hb,cond_false] at h
    cases j with
    |zero=>
     simp at ho;subst ho;rw [hx]
     intro e
     simp only [Option.some.injEq] at e
     subst e;simp at hb
    |succ j=>exact aAY h j o (by simpa using ho)
theorem aCu {d:Nat}:∀{l:List Oper} {i k:Nat},aA7 d l i=some k→i≤k∧∃o,l[k-i]?=some o∧o.dst=some d
 |[],_,_,h=>by simp [aA7] at h
 |x::l,i,k,h=>by
  simp only [aA7] at h
  cases hx:x.dst with
  |none=>
   rw [hx] at h
   obtain⟨h1,o,h2,h3⟩:=aCu h
   exact⟨by omega,o,by rw [show k-i=(k-(i+1))+1 by omega];simpa using h2,h3⟩
  |some y=>
   rw [hx] at h
   cases hb:Nat.beq y d with
   |true=>
    simp only [hb,cond_true,Option.some.injEq] at h
    subst h
    exact⟨Nat.le_refl _,x,by simp,by rw [hx,Nat.eq_of_beq_eq_true hb]⟩
   |false=>
    simp only [hb,cond_false] at h
    obtain⟨h1,o,h2,h3⟩:=aCu h
    exact⟨by omega,o,by rw [show k-i=(k-(i+1))+1 by omega];simpa using h2,h3⟩
def aB4:List Oper→Bool
 |[]=>true
 |o::l=>(match o.dst with
  |some d=>(aA7 d l 0).isNone
  |none=>true)&&aB4 l
theorem aIH:∀{l:List Oper},aB4 l=true→∀{i j:Nat} {x y:Oper} {d:Nat},l[i]?=some x→l[j]?=some y→x.dst=some d→y.dst=some d→i=j
 |[],_,i,j,x,y,d,hi,_,_,_=>by simp at hi
 |o::l,h,i,j,x,y,d,hi,hj,hx,hy=>by
  simp only [aB4,Bool.and_eq_true] at h
  have hno:∀(k:Nat) z,l[k]?=some z→o.dst=some d→z.dst=some d→False:=by
   intro k z hk ho hz
   have h1:=h.1
   rw [ho] at h1
   simp only [Option.isNone_iff_eq_none] at h1
   exact aAY h1 k z hk hz
  cases i with
  |zero=>
   cases j with
   |zero=>rfl
   |succ j=>
    simp at hi hj
    subst hi
    exact(hno j y hj hx hy).elim
  |succ i=>
   cases j with
   |zero=>
    simp at hi hj
    subst hj
    exact(hno i x hi hy hx).elim
   |succ j=>simp at hi hj;exact congrArg (·+1) (aIH h.2 hi hj hx hy)
inductive Ou
 |v (p:VP)
 |a (T:Nat) (zs:List CP)
 |g (f:Option Nat→Nat→VP)
abbrev Gh:Type:=Nat→Option Nat×Nat
def Gh.set (G:Gh) (i:Nat) (x:Option Nat×Nat):Gh:=fun j=>bif Nat.beq j i then x else G j
def Ou.val? (G:Gh) (j:Nat):Option Ou→Option VP
 |some (.v p)=>some p
 |some (.g f)=>some (f (G j).1 (G j).2)
 |_=>none
def aAH (ops:List Oper) (ms:List Nat) (E:sN) (outs:List Ou) (G:Gh) (i d:Nat):Option VP:=
 match aA7 d ops 0 with
 |none=>jG E d
 |some j=>bif(ms.getD i 0).testBit j then Ou.val? G j outs[j]? else bif(ms.getD j 0).testBit i then jG E d else none
def aQx (ops:List Oper) (ms:List Nat) (E:sN) (outs:List Ou) (G:Gh) (i:Nat):Operand→VP→Prop
 | .tmp d,p=>aAH ops ms E outs G i d=some p
 | .const v,p=>∀M,p.h M v
 | .func f,p=>∀M,p.h M (.func (.func f) #[] #[])
 | .global _,_=>False
def aGQ (ops:List Oper) (ms:List Nat) (E:sN) (outs:List Ou) (G:Gh) (i:Nat):List (Operand×VP)→Prop
 |[]=>True
 |(x,p)::l=>aQx ops ms E outs G i x p∧aGQ ops ms E outs G i l
def exM:List Nat→Nat→Nat→Bool
 |[],_,_=>false
 |j::hv,m,k=>bif Nat.beq j k then Nat.beq (m%2) 1 else exM hv (m/2) k
def aFK:List Nat→Nat→Nat
 |[],_=>0
 |j::hv,i=>bif Nat.beq j i then 1 else 2*aFK hv i
def aJ8 (f:Nat→Bool):List Nat→Bool
 |[]=>true
 |j::l=>f j&&aJ8 f l
theorem aHQ {f:Nat→Bool}:∀{l:List Nat},(∀j∈l,f j=true)→aJ8 f l=true
 |[],_=>rfl
 |j::l,h=>by
  show(f j&&aJ8 f l)=true
  rw [h j List.mem_cons_self,aHQ fun k hk=>h k (List.mem_cons_of_mem _ hk)];rfl
def aRq (ms hv:List Nat) (i m:Nat):Bool:=aJ8 (fun j=>(!(ms.getD i 0).testBit j||exM hv m j)&&((!(Nat.beq j i||(ms.getD j 0).testBit i)||!exM hv m j)&&(!exM hv m j||aJ8 (fun k=>!(ms.getD j 0).testBit k||exM hv m k) hv))) hv
def aO6 (m:Nat):List Nat→Bool
 |[]=>false
 |x::l=>Nat.beq x m||aO6 m l
theorem aIY {m:Nat}:∀{l:List Nat},aO6 m l=true→m∈l
 |[],h=>by cases h
 |x::l,h=>by
  have h':(Nat.beq x m||aO6 m l)=true:=h
  rcases Bool.or_eq_true _ _▸h' with h1|h1
  ·rw [Nat.eq_of_beq_eq_true h1];exact List.mem_cons_self
  ·exact List.mem_cons_of_mem _ (aIY h1)
def upB (f:Nat→Bool):Nat→Bool
 |0=>true
 |n+1=>upB f n&&f n
theorem aNj {f:Nat→Bool}:∀{n m:Nat},upB f n=true→m<n→f m=true
 |0,m,_,h=>by omega
 |n+1,m,h,hm=>by
  have h':(upB f n&&f n)=true:=h
  rw [Bool.and_eq_true] at h'
  by_cases e:m=n
  ·rw [e];exact h'.2
  ·exact aNj h'.1 (by omega)
def mC (ms hv:List Nat) (i:Nat) (L:List Nat):Bool:=upB (fun m=>!aRq ms hv i m||aO6 m L) (2^hv.length)
def aJ6 (Φ:Nat→Prop):List Nat→Prop
 |[]=>True
 |m::L=>Φ m∧aJ6 Φ L
theorem aJ6.at {Φ:Nat→Prop}:∀{L:List Nat},aJ6 Φ L→∀m,m∈L→Φ m
 |[],_,m,h=>by cases h
 |x::L,h,m,hm=>by
  rcases List.mem_cons.1 hm with e|e
  ·rw [e];exact h.1
  ·exact aJ6.at h.2 m e
inductive DOp (S:Sx) (Hs:Gh→Nat→List HA) (hv:List Nat) (ops:List Oper) (ms:List Nat) (E:sN) (outs:List Ou) (i:Nat) (o:Oper):Ou→Prop
 |run {out:VP} {ins:Gh→List (Operand×VP)} {L:List Nat} (t:aJ6 (fun s=>∀G A,Tr S o (Hs G s++A) (Hs G s++A) (ins G) out) L) (hs:∀G,aGQ ops ms E outs G i (ins G)) (hg:o.guard=none:=by rfl) (h1:mC ms hv i L=true:=by rfl) (h3:hv.contains i=false:=by rfl):DOp S Hs hv ops ms E outs i o (.v out)
 |runG {out:VP} {ins:Gh→List (Operand×VP)} {L:List Nat} {j d:Nat} {b:Bool} (t:aJ6 (fun s=>∀G A,Tr S o (Hs G s++A) (Hs G s++A) (ins G) out) L) (hs:∀G,aGQ ops ms E outs G i (ins G)) (hg:o.guard=some (j,b):=by rfl) (hd:(ops[j]?).bind (·.dst)=some d:=by rfl) (hl:∀G,aAH ops ms E outs G i d=some (.vc (pB b)):=by intro;rfl) (h1:mC ms hv i L=true:=by rfl) (h3:hv.contains i=false:=by rfl):DOp S Hs hv ops ms E outs i o (.v out)
 |skip {j d:Nat} {b b':Bool} (hg:o.guard=some (j,b):=by rfl) (hd:(ops[j]?).bind (·.dst)=some d:=by rfl) (hl:∀G,aAH ops ms E outs G i d=some (.vc (pB b')):=by intro;rfl) (hb:(b' != b)=true:=by rfl) (h3:hv.contains i=false:=by rfl):DOp S Hs hv ops ms E outs i o (.v .any)
 |skipN {j d:Nat} {b b':Bool} (hg:o.guard=some (j,b):=by rfl) (hd:(ops[j]?).bind (·.dst)=some d:=by rfl) (hl:∀G,aAH ops ms E outs G i d=some (.vc (pB b')):=by intro;rfl) (hb:(b' != b)=true:=by rfl) (h3:hv.contains i=false:=by rfl):DOp S Hs hv ops ms E outs i o (.v .un)
 |skipU {j d:Nat} {b:Bool} (hg:o.guard=some (j,b):=by rfl) (hd:(ops[j]?).bind (·.dst)=some d:=by rfl) (hl:∀G,aAH ops ms E outs G i d=some .un:=by intro;rfl) (h3:hv.contains i=false:=by rfl):DOp S Hs hv ops ms E outs i o (.v .un)
 |alc {T:Nat} {zs:List CP} (hz:TyZ S.P T zs) (ho:o.op=.alloc T:=by rfl) (hg:o.guard=none:=by rfl) (h3:hv.contains i=false:=by rfl):DOp S Hs hv ops ms E outs i o (.a T zs)
 |hvy {out:Option Nat→Nat→VP} {ins:Gh→List (Operand×VP)} (L:List Nat) (t:aJ6 (fun s=>∀G A,Hv S o (Hs G s++A) (fun b c=>Hs (G.set i (b,c)) (s+aFK hv i)++A) (ins G) out) L) (hs:∀G,aGQ ops ms E outs G i (ins G)) (hg:o.guard=none:=by rfl) (h1:mC ms hv i L=true:=by kernel_rfl) (h3:hv.contains i=true:=by rfl):DOp S Hs hv ops ms E outs i o (.g out)
def aIl (S:Sx) (Hs:Gh→Nat→List HA) (hv:List Nat) (ops:List Oper) (ms:List Nat) (E:sN) (outs:List Ou):Nat→List Oper→List Ou→Prop
 |_,_,[]=>True
 |i,o::l,out::r=>(o.dst.all (Nat.blt · S.N)=true∧DOp S Hs hv ops ms E outs i o out)∧aIl S Hs hv ops ms E outs (i+1) l r
 |_,[],_::_=>False
theorem aIl.at {S:Sx} {Hs:Gh→Nat→List HA} {hv:List Nat} {ops:List Oper} {ms:List Nat} {E:sN} {outs:List Ou}:∀{k:Nat} {l:List Oper} {r:List Ou},aIl S Hs hv ops ms E outs k l r→∀(i:Nat) out,r[i]?=some out→∃o,l[i]?=some o∧o.dst.all (Nat.blt · S.N)=true∧DOp S Hs hv ops ms E outs (k+i) o out
 |_,_,[],_,i,out,h=>by simp at h
 |k,o::l,out::r,h,0,out',h'=>by
  simp at h';subst h';exact⟨o,rfl,h.1.1,h.1.2⟩
 |k,o::l,out::r,h,i+1,out',h'=>by
  obtain⟨o',h1,h2,h3⟩:=aIl.at h.2 i out' (by simpa using h')
  exact⟨o',by simpa using h1,h2,by rwa [show k+(i+1)=k+1+i by omega]⟩
 |_,[],_::_,h,_,_,_=>h.elim
def Ou.vp (bs:Nat→Nat) (G:Gh) (i:Nat):Ou→VP
 | .v p=>p
 | .a _ _=>.vc (pP (some (bs i)) 0)
 | .g f=>f (G i).1 (G i).2
def aEJ (outs:List Ou) (bs:Nat→Nat) (i:Nat):HA:=
 match outs[i]? with
 |some (.a T zs)=>⟨some (bs i),1,T,zs.length,1,zs⟩
 |_=>⟨some (bs i),1,0,0,1,[]⟩
def aDu (ops:List Oper) (ms:List Nat) (m:Nat):Nat→Bool
 |0=>true
 |n+1=>aDu ops ms m n&&Nat.beq ((ms.getD (m+n) 0)&&& (2^(m+n)-1)) (2^(m+n)-1)
theorem aGi {ops:List Oper} {ms:List Nat} {m:Nat}:∀{n:Nat},aDu ops ms m n=true→∀t,t<n→∀j,j<m+t→(ms.getD (m+t) 0).testBit j=true
 |0,_,t,ht,_,_=>by omega
 |n+1,h,t,ht,j,hj=>by
  simp only [aDu,Bool.and_eq_true] at h
  by_cases e:t=n
  ·subst e
   have h2:=Nat.eq_of_beq_eq_true h.2
   have h3:(2^(m+t)-1).testBit j=true:=by simp [Nat.testBit_two_pow_sub_one,hj]
   rw [←h2,Nat.testBit_and,Bool.and_eq_true] at h3
   exact h3.1
  ·exact aGi h.1 t (by omega) j hj
def stg:List Nat→Array Bool→Nat
 |[],_=>0
 |j::hv,l=>(bif l.getD j false then 1 else 0)+2*stg hv l
theorem aKm {l:Array Bool}:∀{hv:List Nat} {j:Nat},j∈hv→exM hv (stg hv l) j=l.getD j false
 |[],j,h=>by cases h
 |x::hv,j,h=>by
  show(bif Nat.beq x j then Nat.beq (((bif l.getD x false then 1 else 0)+2*stg hv l)%2) 1 else exM hv (((bif l.getD x false then 1 else 0)+2*stg hv l)/2) j)=l.getD j false
  cases hb:Nat.beq x j with
  |true=>
   have:=Nat.eq_of_beq_eq_true hb
   subst this
   cases l.getD x false
   ·show Nat.beq ((0+2*stg hv l)%2) 1=false
    rw [show(0+2*stg hv l)%2=0 by omega];rfl
   ·show Nat.beq ((1+2*stg hv l)%2) 1=true
    rw [show(1+2*stg hv l)%2=1 by omega];rfl
  |false=>
   have hx:j∈hv:=by
    rcases List.mem_cons.1 h with e|e
    ·subst e;rw [Nat.beq_refl] at hb;cases hb
    ·exact e
   have e:((bif l.getD x false then 1 else 0)+2*stg hv l)/2=stg hv l:=by cases l.getD x false<;>simp only [cond_true,cond_false]<;>omega
   show exM hv _ j=_
   rw [e];exact aKm hx
theorem aOB (l:Array Bool):∀hv:List Nat,stg hv l<2^hv.length
 |[]=>by simp [stg]
 |x::hv=>by
  have:=aOB l hv
  show(bif l.getD x false then 1 else 0)+2*stg hv l<2^(hv.length+1)
  rw [Nat.pow_succ]
  cases l.getD x false<;>simp only [cond_true,cond_false]<;>omega
theorem aJV {l:Array Bool}:∀{hv:List Nat},(∀j∈hv,l.getD j false=false)→stg hv l=0
 |[],_=>rfl
 |x::hv,h=>by
  show(bif l.getD x false then 1 else 0)+2*stg hv l=0
  rw [h x List.mem_cons_self,aJV fun j hj=>h j (List.mem_cons_of_mem _ hj)];rfl
theorem aIV {l:Array Bool}:∀{hv:List Nat},(∀j∈hv,l.getD j false=true)→stg hv l=2^hv.length-1
 |[],_=>rfl
 |x::hv,h=>by
  show(bif l.getD x false then 1 else 0)+2*stg hv l=2^(hv.length+1)-1
  rw [h x List.mem_cons_self,aIV fun j hj=>h j (List.mem_cons_of_mem _ hj),Nat.pow_succ]
  have:=Nat.two_pow_pos hv.length
  simp only [cond_true];omega
theorem aJv {l l':Array Bool}:∀{hv:List Nat},(∀j∈hv,l'.getD j false=l.getD j false)→stg hv l'=stg hv l
 |[],_=>rfl
 |x::hv,h=>by
  show(bif l'.getD x false then 1 else 0)+2*stg hv l'=(bif l.getD x false then 1 else 0)+2*stg hv l
  rw [h x List.mem_cons_self,aJv fun j hj=>h j (List.mem_cons_of_mem _ hj)]
theorem aLq {l l':Array Bool} {i:Nat} (hu:l.getD i false=false) (hs:∀j,l'.getD j false=if j=i then true else l.getD j false):∀{hv:List Nat},hv.Nodup→stg hv l'=stg hv l+aFK hv i
 |[],_=>rfl
 |x::hv,h=>by
  obtain⟨hx,hn⟩:=List.nodup_cons.1 h
  show(bif l'.getD x false then 1 else 0)+2*stg hv l'=(bif l.getD x false then 1 else 0)+2*stg hv l+(bif Nat.beq x i then 1 else 2*aFK hv i)
  cases hb:Nat.beq x i with
  |true=>
   have:=Nat.eq_of_beq_eq_true hb
   subst this
   have hne:∀j∈hv,j≠x:=fun j hj e=>hx (by rw [←e];exact hj)
   rw [hs x,if_pos rfl,hu,aJv (l:=l) (l':=l') fun j hj=>by rw [hs j,if_neg (hne j hj)]]
   simp only [cond_true,cond_false];omega
  |false=>
   have hne:x≠i:=fun e=>by subst e;rw [Nat.beq_refl] at hb;cases hb
   rw [hs x,if_neg hne,aLq hu hs hn]
   simp only [cond_false];omega
theorem aJn {i:Nat}:∀{hv:List Nat},hv.contains i=false→aFK hv i=0
 |[],_=>rfl
 |x::hv,h=>by
  have h1:i∉x::hv:=fun hm=>by
   have:(x::hv).contains i=true:=by simpa using hm
   rw [h] at this;cases this
  show(bif Nat.beq x i then 1 else 2*aFK hv i)=0
  have hb:Nat.beq x i=false:=by
   cases hq:Nat.beq x i
   ·rfl
   ·exact absurd (Nat.eq_of_beq_eq_true hq▸List.mem_cons_self) h1
  rw [hb,aJn (by simpa using fun hm=>h1 (List.mem_cons_of_mem _ hm))];rfl
structure DI (S:Sx) (Hs:Gh→Nat→List HA) (hv:List Nat) (ops:List Oper) (E:sN) (outs:List Ou) (listed:Array Bool) (a:Act) (w:World):Prop where
 sz:listed.size=ops.length
 clo:Clo ops (fun i=>listed.getD i false=true)
 pre:∀i,listed.getD i false=true→i<outs.length
 st:∃(M:jI) (bs:Nat→Nat) (ord:List Nat) (G:Gh),St S M w (Hs G (stg hv listed)++ord.map (aEJ outs bs))∧ord.Nodup∧(∀(i T:Nat) (zs:List CP),outs[i]?=some (.a T zs)→listed.getD i false=true→i∈ord)∧(∀i∈ord,listed.getD i false=true)∧
  a.tmps.size=S.N.n∧MK S.N M a.defers∧
  (∀(i:Nat) out o d,outs[i]?=some out→ops[i]?=some o→o.dst=some d→listed.getD i false=true→∃v,a.tmps[d]?=some v∧(out.vp bs G i).h M v)∧
  (∀d p,jG E d=some p→(∀(i:Nat) o,ops[i]?=some o→o.dst=some d→listed.getD i false=false)→∃v,a.tmps[d]?=some v∧p.h M v)
theorem aE5 {ops:Array Oper} {listed:Array Bool} {i:Nat} (h:i∈Region.ready .any ops listed) (hs:listed.size=ops.size):listed.getD i false=false∧i<ops.size∧∃o,ops[i]?=some o∧∀e∈o.after.toList,y5 e=true→listed.getD e.on false=true:=by
 unfold Region.ready at h
 obtain⟨h1,h2⟩:=List.mem_filter.1 h
 have hi:i<ops.size:=List.mem_range.1 h1
 simp only [Bool.and_eq_true] at h2
 refine⟨?_,hi,ops[i],by simp [hi],fun e he hb=>?_⟩
 ·have:=h2.1
  have hl:i<listed.size:=by omega
  simp only [Array.getD_eq_getD_getElem?,Array.getElem?_eq_getElem hl,Option.getD_some] at this ⊢
  simpa using this
 ·have h3:=h2.2
  simp only [Array.getElem?_eq_getElem hi,Option.map_some,Option.getD_some] at h3
  have h4:=Array.all_eq_true'.1 h3 e (by simpa using he)
  unfold y5 at hb
  simpa [hb] using h4
end
end Go.Proofs.YtolfcbpgmfbgmaaGreat
set_option linter.unusedVariables false
namespace Go.Proofs.YtolfcbpgmfbgmaaGreat
def aEb (bs:Nat→Nat) (G:Gh):Nat→List Oper→List Ou→sN
 |i,o::l,q::r=>match o.dst with
  |some d=>(d,q.vp bs G i)::aEb bs G (i+1) l r
  |none=>aEb bs G (i+1) l r
 |_,_,_=>[]
def aEa (bs:Nat→Nat):Nat→List Ou→List HA
 |i,.a T zs::r=>⟨some (bs i),1,T,zs.length,1,zs⟩::aEa bs (i+1) r
 |i,.v _::r=>aEa bs (i+1) r
 |i,.g _::r=>aEa bs (i+1) r
 |_,[]=>[]
theorem aJR {E':sN} {d:Nat} {p:VP}:∀{E:sN},jG (E++E') d=some p→jG E d=some p∨(jG E d=none∧jG E' d=some p)
 |[],h=>.inr ⟨rfl,h⟩
 |(x,q)::E,h=>by
  simp only [List.cons_append,jG] at h ⊢
  cases hb:Nat.beq x d with
  |true=>rw [hb] at h;simp at h ⊢;exact h
  |false=>rw [hb] at h;simp at h ⊢;exact aJR h
theorem aFd {bs:Nat→Nat} {G:Gh} {d:Nat}:∀{l:List Oper} {r:List Ou} {k:Nat} {p:VP},jG (aEb bs G k l r) d=some p→∃(i:Nat) (o:Oper) (q:Ou),l[i]?=some o∧o.dst=some d∧r[i]?=some q∧q.vp bs G (k+i)=p
 |[],_,_,_,h=>by simp [aEb,jG] at h
 |_::_,[],_,_,h=>by simp [aEb,jG] at h
 |o::l,q::r,k,p,h=>by
  simp only [aEb] at h
  cases hx:o.dst with
  |none=>
   rw [hx] at h
   obtain⟨i,o',q',h1,h2,h3,h4⟩:=aFd h
   exact⟨i+1,o',q',by simpa using h1,h2,by simpa using h3,by rw [←h4,show k+(i+1)=k+1+i by omega]⟩
  |some x=>
   rw [hx] at h
   simp only [jG] at h
   cases hb:Nat.beq x d with
   |true=>
    simp only [hb,cond_true,Option.some.injEq] at h
    subst h
    have:=Nat.eq_of_beq_eq_true hb
    subst this
    exact⟨0,o,q,rfl,hx,rfl,rfl⟩
   |false=>
    simp only [hb,cond_false] at h
    obtain⟨i,o',q',h1,h2,h3,h4⟩:=aFd h
    exact⟨i+1,o',q',by simpa using h1,h2,by simpa using h3,by rw [←h4,show k+(i+1)=k+1+i by omega]⟩
theorem aAG {bs:Nat→Nat} {G:Gh} {d:Nat}:∀{l:List Oper} {r:List Ou} {k:Nat},jG (aEb bs G k l r) d=none→∀(i:Nat) o q,l[i]?=some o→r[i]?=some q→o.dst≠some d
 |[],_,_,_,i,o,q,h,_=>by simp at h
 |_::_,[],_,_,i,o,q,_,h=>by simp at h
 |x::l,y::r,k,h,i,o,q,ho,hq=>by
  simp only [aEb] at h
  cases hx:x.dst with
  |none=>
   rw [hx] at h
   cases i with
   |zero=>simp at ho;subst ho;rw [hx];simp
   |succ i=>exact aAG h i o q (by simpa using ho) (by simpa using hq)
  |some z=>
   rw [hx] at h
   simp only [jG] at h
   cases hb:Nat.beq z d with
   |true=>simp [hb] at h
   |false=>
    simp only [hb,cond_false] at h
    cases i with
    |zero=>
     simp at ho;subst ho;rw [hx]
     intro e
     simp only [Option.some.injEq] at e
     subst e;simp at hb
    |succ i=>exact aAG h i o q (by simpa using ho) (by simpa using hq)
theorem aBy {bs:Nat→Nat}:∀{r:List Ou} {k:Nat} {e:HA},e∈aEa bs k r→∃(i T:Nat) (zs:List CP),r[i]?=some (.a T zs)∧e=⟨some (bs (k+i)),1,T,zs.length,1,zs⟩
 |[],_,_,h=>by simp [aEa] at h
 | .v p::r,k,e,h=>by
  obtain⟨i,T,zs,h1,h2⟩:=aBy (r:=r) h
  exact⟨i+1,T,zs,by simpa using h1,by rw [h2,show k+(i+1)=k+1+i by omega]⟩
 | .g p::r,k,e,h=>by
  obtain⟨i,T,zs,h1,h2⟩:=aBy (r:=r) h
  exact⟨i+1,T,zs,by simpa using h1,by rw [h2,show k+(i+1)=k+1+i by omega]⟩
 | .a T zs::r,k,e,h=>by
  rcases List.mem_cons.1 h with rfl|h
  ·exact⟨0,T,zs,rfl,rfl⟩
  ·obtain⟨i,T',zs',h1,h2⟩:=aBy (r:=r) h
   exact⟨i+1,T',zs',by simpa using h1,by rw [h2,show k+(i+1)=k+1+i by omega]⟩
theorem aBX {bs:Nat→Nat}:∀{r:List Ou} {k:Nat},(∀(i j T:Nat) (zs:List CP) (T':Nat) (zs':List CP),r[i]?=some (.a T zs)→r[j]?=some (.a T' zs')→bs (k+i)=bs (k+j)→i=j)→((aEa bs k r).filterMap HA.β).Nodup
 |[],_,_=>by simp [aEa]
 | .v p::r,k,h=>by
  refine aBX (r:=r) (k:=k+1) fun i j T zs T' zs' h1 h2 h3=>?_
  have:=h (i+1) (j+1) T zs T' zs' (by simpa using h1) (by simpa using h2) (by rw [show k+(i+1)=k+1+i by omega,show k+(j+1)=k+1+j by omega];exact h3)
  omega
 | .g p::r,k,h=>by
  refine aBX (r:=r) (k:=k+1) fun i j T zs T' zs' h1 h2 h3=>?_
  have:=h (i+1) (j+1) T zs T' zs' (by simpa using h1) (by simpa using h2) (by rw [show k+(i+1)=k+1+i by omega,show k+(j+1)=k+1+j by omega];exact h3)
  omega
 | .a T zs::r,k,h=>by
  have ih:=aBX (bs:=bs) (r:=r) (k:=k+1) fun i j T zs T' zs' h1 h2 h3=>by
   have:=h (i+1) (j+1) T zs T' zs' (by simpa using h1) (by simpa using h2) (by rw [show k+(i+1)=k+1+i by omega,show k+(j+1)=k+1+j by omega];exact h3)
   omega
  simp only [aEa,List.filterMap_cons]
  refine List.nodup_cons.2 ⟨fun hm=>?_,ih⟩
  obtain⟨e,he,heb⟩:=List.mem_filterMap.1 hm
  obtain⟨i,T',zs',h1,rfl⟩:=aBy he
  have hb:bs (k+1+i)=bs k:=by simpa using heb
  have:=h 0 (i+1) T zs T' zs' rfl (by simpa using h1) (by rw [show k+(i+1)=k+1+i by omega];exact hb.symm)
  omega
theorem St.sub {S:Sx} {M:jI} {w:World} {H H':List HA} (h:St S M w H) (hm:∀e∈H',e∈H) (hn:(H'.filterMap HA.β).Nodup):St S M w H':=
 ⟨h.le0,h.mem,h.keep,h.new,h.size,h.os,h.tape,h.output,fun e he=>h.own e (hm e he),fun e he=>h.fresh e (hm e he),hn⟩
def unl (l:Array Bool):Nat:=(l.toList.filter (!·)).length
theorem aK0 {l:Array Bool} {i:Nat} (h:l.getD i false=false) (hi:i<l.size):unl (l.setIfInBounds i true)+1=unl l:=by
 have h':l[i]=false:=by
  simpa [Array.getD_eq_getD_getElem?,hi] using h
 unfold unl
 rw [Array.toList_setIfInBounds]
 have key:∀(L:List Bool) (i:Nat),L[i]?=some false→((L.set i true).filter (!·)).length+1=(L.filter (!·)).length:=by
  intro L
  induction L with
  |nil=>intro i h;simp at h
  |cons x L ih=>
   intro i h
   cases i with
   |zero=>simp at h;subst h;simp
   |succ i=>
    have:=ih i (by simpa using h)
    cases x<;>simp<;>omega
 exact key _ _ (by simp [hi,h'])
section
variable {S:Sx} {κ:Kt} {Hs:Gh→Nat→List HA} {hv:List Nat} {E:sN}
theorem DI.full {l:List Oper} {outs:List Ou} {listed:Array Bool} {a:Act} {w:World} (h:DI S Hs hv l E outs listed a w) (hall:∀i,i<outs.length→listed.getD i false=true) (hle:outs.length≤l.length) (hhv:hv.all (Nat.blt · outs.length)=true)
  :∃bs G,hs S (aEa bs 0 outs++Hs G (2^hv.length-1)) (aEb bs G 0 l outs++E) a w:=by
 obtain⟨M,bs,ord,G,h1,hnd,ho1,ho2,h2,h3,h4,h5⟩:=h.st
 have hst:stg hv listed=2^hv.length-1:=by
  refine aIV fun j hj=>?_
  have:=List.all_eq_true.1 hhv j hj
  exact hall j (by simpa using this)
 rw [hst] at h1
 refine⟨bs,G,M,?_,h2,h3,fun d p hl=>?_⟩
 ·have hent:∀(i:Nat) T zs,outs[i]?=some (.a T zs)→aEJ outs bs i=⟨some (bs i),1,T,zs.length,1,zs⟩:=fun i T zs hi=>by simp [aEJ,hi]
  refine h1.sub (fun e he=>?_) ?_
  ·rcases List.mem_append.1 he with he|he
   rotate_left
   ·exact List.mem_append.2 (.inl he)
   ·obtain⟨i,T,zs,hi,rfl⟩:=aBy he
    refine List.mem_append.2 (.inr (List.mem_map.2 ⟨i,ho1 i T zs hi (hall i (List.getElem?_eq_some_iff.1 hi).1),?_⟩))
    rw [hent i T zs hi,Nat.zero_add]
  ·have hn:=h1.nodup
   rw [List.filterMap_append] at hn ⊢
   obtain⟨hn1,hn2,hn3⟩:=List.nodup_append.1 hn
   have hbeta:(ord.map (aEJ outs bs)).filterMap HA.β=ord.map bs:=by
    clear hn hn2 hn3 ho1 ho2 hnd h1
    induction ord with
    |nil=>rfl
    |cons i ord ih=>
     have:(aEJ outs bs i).β=some (bs i):=by unfold aEJ;split<;>rfl
     simp only [List.map_cons]
     rw [List.filterMap_cons_some this,ih]
   rw [hbeta] at hn2 hn3
   refine List.nodup_append.2 ⟨aBX fun i j T zs T' zs' hi hj hb=>?_,hn1,fun y hy x hx hyx=>?_⟩
   rotate_left
   ·have hxy:x=y:=hyx.symm
    obtain⟨e,he,heb⟩:=List.mem_filterMap.1 hy
    obtain⟨i,T,zs,hi,rfl⟩:=aBy he
    simp only [Nat.zero_add,Option.some.injEq] at heb
    exact hn3 x hx y (List.mem_map.2 ⟨i,ho1 i T zs hi (hall i (List.getElem?_eq_some_iff.1 hi).1),heb⟩) hxy
   ·have hi':=ho1 i T zs hi (hall i (List.getElem?_eq_some_iff.1 hi).1)
    have hj':=ho1 j T' zs' hj (hall j (List.getElem?_eq_some_iff.1 hj).1)
    simp only [Nat.zero_add] at hb
    obtain⟨p,hp⟩:=List.getElem?_of_mem hi'
    obtain⟨q,hq⟩:=List.getElem?_of_mem hj'
    have e1:(ord.map bs)[p]?=some (bs i):=by simp [hp]
    have e2:(ord.map bs)[q]?=some (bs i):=by simp [hq,hb]
    have:=aHA hn2 e1 e2
    subst this
    rw [hp] at hq
    exact Option.some.inj hq
 ·rcases aJR hl with hl|⟨hn,hl⟩
  ·obtain⟨i,o,q,hi,hd,hp,hq⟩:=aFd hl
   rw [Nat.zero_add] at hq
   rw [←hq]
   exact h4 i q o d hp hi hd (hall i (List.getElem?_eq_some_iff.1 hp).1)
  ·refine h5 d p hl fun i o hi hd=>?_
   cases hb:listed.getD i false with
   |false=>rfl
   |true=>
    exfalso
    have hlt:=h.pre i hb
    exact aAG hn i o _ hi (List.getElem?_eq_getElem hlt) hd
theorem aFl {l:List Oper} {listed:Array Bool} (hs:listed.size=l.length) (hb:zT l 0=true) {i:Nat} (hi:i<l.length) (hu:listed.getD i false=false):∃j,j≤i∧j∈Region.ready .any l.toArray listed:=by
 induction i using Nat.strongRecOn with
 |_ i ih=>
  by_cases h:∃j,j<i∧listed.getD j false=false
  ·obtain⟨j,hj,hju⟩:=h
   obtain⟨k,hk,hr⟩:=ih j hj (by omega) hju
   exact⟨k,by omega,hr⟩
  ·refine⟨i,Nat.le_refl _,?_⟩
   have hback:∀(l:List Oper) (k:Nat),zT l k=true→∀(i:Nat) o,l[i]?=some o→∀e∈o.after.toList,y5 e=true→e.on<k+i:=by
    intro l
    induction l with
    |nil=>intro k _ i o ho;simp at ho
    |cons x l ih2=>
     intro k hk i o ho e he hbe
     simp only [zT,Bool.and_eq_true] at hk
     cases i with
     |zero=>
      simp at ho;subst ho
      have:=List.all_eq_true.1 hk.1 e he
      rw [hbe] at this
      simpa using this
     |succ i=>
      have:=ih2 (k+1) hk.2 i o (by simpa using ho) e he hbe
      omega
   unfold Region.ready
   refine List.mem_filter.2 ⟨by simp [hi],?_⟩
   have hil:i<listed.size:=by omega
   have h1:listed.getD i true=false:=by
    simp only [Array.getD_eq_getD_getElem?,Array.getElem?_eq_getElem hil,Option.getD_some] at hu ⊢
    exact hu
   simp only [h1,Bool.not_false,Bool.true_and,List.getElem?_toArray,List.getElem?_eq_getElem hi,Option.map_some,Option.getD_some]
   rw [Array.all_eq_true']
   intro e he
   by_cases hbe:y5 e=true
   ·have hlt:=hback l 0 hb i l[i] (by simp [hi]) e (by simpa using he) hbe
    have:listed.getD e.on false=true:=by
     cases hc:listed.getD e.on false with
     |true=>rfl
     |false=>exact absurd ⟨e.on,by omega,hc⟩ h
    simp only [this,Bool.or_true]
   ·have:Region.binds .any e=false:=by simpa [y5] using hbe
    simp [this]
theorem aNY {rd:Option Nat} {P:Program} {l:List Oper} {ms:List Nat} {Q:Exit→Act→World→Prop} {m n:Nat} (hm:aDb ms l ms=true) (hb:zT l 0=true) (ht:aDu l ms m n=true) (hn:m+n=l.length):∀(aY t:Nat) (listed:Array Bool) (a:Act) (w:World),
  listed.size=l.length→(∀j,j<m+t→listed.getD j false=true)→(∀j,m+t≤j→listed.getD j false=false)→l.length-(m+t)≤aY→Clo l (fun i=>listed.getD i false=true)→wpListIn (Fw rd) 0 P l.toArray Q (l.drop (m+t)) a w→wpAnyIn (Fw rd) 0 P .any l.toArray Q aY listed a w:=by
 intro aY
 induction aY with
 |zero=>
  intro t listed a w hs h1 h2 hf hc hw
  have hge:l.length≤m+t:=by omega
  rw [List.drop_of_length_le hge] at hw
  refine⟨?_,hw⟩
  rw [List.eq_nil_iff_forall_not_mem]
  intro i hi
  obtain⟨hu,hil,_⟩:=aE5 hi (by simpa using hs)
  rw [h1 i (by simp at hil;omega)] at hu
  cases hu
 |succ aY ih=>
  intro t listed a w hs h1 h2 hf hc hw
  refine⟨fun hnil=>?_,fun i hi=>?_⟩
  ·by_cases hge:l.length≤m+t
   ·rw [List.drop_of_length_le hge] at hw;exact hw
   ·obtain⟨j,_,hj⟩:=aFl hs hb (i:=m+t) (by omega) (h2 _ (Nat.le_refl _))
    rw [hnil] at hj;cases hj
  ·obtain⟨hu,hil,o,ho,hdeps⟩:=aE5 hi (by simpa using hs)
   simp only [List.size_toArray] at hil
   simp only [List.getElem?_toArray] at ho
   have hge:m+t≤i:=by
    rcases Nat.lt_or_ge i (m+t) with h|h
    ·rw [h1 i h] at hu;cases hu
    ·exact h
   have hle:i≤m+t:=by
    rcases Nat.lt_or_ge (m+t) i with h|h
    ·exfalso
     have hbit:=aGi ht (i-m) (by omega) (m+t) (by omega)
     rw [show m+(i-m)=i by omega] at hbit
     have:=aBF (L:=fun i=>listed.getD i false=true) hm hb i (m+t) hbit (fun o' ho'=>by
      have:o'=o:=by
       have h:l[i]?=some o':=ho'
       rw [ho] at h;exact(Option.some.inj h).symm
      subst this
      exact hdeps) hc
     rw [h2 (m+t) (Nat.le_refl _)] at this
     cases this
    ·exact h
   have hit:i=m+t:=by omega
   subst hit
   have hdrop:l.drop (m+t)=o::l.drop (m+(t+1)):=by
    have hlt:m+t<l.length:=hil
    rw [List.drop_eq_getElem_cons hlt]
    have:l[m+t]=o:=by
     have:=ho
     rw [List.getElem?_eq_getElem hlt] at this
     exact Option.some.inj this
    rw [this];rfl
   rw [hdrop] at hw
   have hgetset:∀j,(listed.setIfInBounds (m+t) true).getD j false=if j=m+t then true else listed.getD j false:=by
    intro j
    simp only [Array.getD_eq_getD_getElem?,Array.getElem?_setIfInBounds]
    by_cases e:m+t=j
    ·subst e;simp [hs,hil]
    ·rw [if_neg e,if_neg (fun h=>e h.symm)]
   have hK:∀a w,wpListIn (Fw rd) 0 P l.toArray Q (l.drop (m+(t+1))) a w→wpAnyIn (Fw rd) 0 P .any l.toArray Q aY (listed.setIfInBounds (m+t) true) a w:=fun a w hw=>
    ih (t+1) _ a w (by simpa using hs) (fun j hj=>by
     rw [hgetset]
     by_cases e:j=m+t
     ·simp [e]
     ·rw [if_neg e];exact h1 j (by omega)) (fun j hj=>by
     rw [hgetset,if_neg (by omega)];exact h2 j (by omega)) (by omega) ⟨fun i o' hi hL e he hbe=>by
     rw [hgetset] at hL ⊢
     by_cases e1:e.on=m+t
     ·simp [e1]
     ·rw [if_neg e1]
      by_cases e2:i=m+t
      ·subst e2
       have hoo:o=o':=by rw [ho] at hi;exact Option.some.inj hi
       subst hoo
       exact hdeps e he hbe
      ·rw [if_neg e2] at hL;exact hc.h i o' hi hL e he hbe⟩ hw
   unfold wpOpIn
   simp only [List.getElem?_toArray,ho]
   simp only [wpListIn] at hw
   split
   ·rename_i hwant
    rw [if_pos hwant] at hw
    exact Oper.wpIn_mono hK hw
   ·rename_i hwant
    rw [if_neg hwant] at hw
    exact⟨hw.1,hK _ _ hw.2⟩
theorem DI.read {l:List Oper} {ms:List Nat} {outs:List Ou} {listed:Array Bool} {a:Act} {w:World} {i d:Nat} {p:VP} (h:DI S Hs hv l E outs listed a w) (hm:aDb ms l ms=true) (hb:zT l 0=true) (hq:aB4 l=true) (hu:listed.getD i false=false)
  (hdeps:∀o,l[i]?=some o→∀e∈o.after.toList,y5 e=true→listed.getD e.on false=true) {M:jI} {bs:Nat→Nat} {G:Gh} (hl:aAH l ms E outs G i d=some p) (h4:(∀(i:Nat) out o d,outs[i]?=some out→l[i]?=some o→o.dst=some d→listed.getD i false=true→∃v,a.tmps[d]?=some v∧(out.vp bs G i).h M v))
  (h5:(∀d p,jG E d=some p→(∀(i:Nat) o,l[i]?=some o→o.dst=some d→listed.getD i false=false)→∃v,a.tmps[d]?=some v∧p.h M v)):∃v,a.tmps[d]?=some v∧p.h M v:=by
 unfold aAH at hl
 cases hd:aA7 d l 0 with
 |none=>
  rw [hd] at hl
  exact h5 d p hl fun j o ho hod=>absurd hod (aAY hd j o ho)
 |some j=>
  rw [hd] at hl
  simp only at hl
  obtain⟨_,o,ho,hod⟩:=aCu hd
  rw [Nat.sub_zero] at ho
  cases hb1:(ms.getD i 0).testBit j with
  |true=>
   rw [hb1] at hl
   simp only [cond_true] at hl
   have hj:listed.getD j false=true:=aBF (L:=fun i=>listed.getD i false=true) hm hb i j hb1 (fun o' ho'=>hdeps o' ho') h.clo
   cases hoj:outs[j]? with
   |none=>rw [hoj] at hl;simp [Ou.val?] at hl
   |some q=>
    rw [hoj] at hl
    cases q with
    |a T zs=>simp [Ou.val?] at hl
    |v p'=>
     simp only [Ou.val?,Option.some.injEq] at hl
     subst hl
     exact h4 j (.v p') o d hoj ho hod hj
    |g f=>
     simp only [Ou.val?,Option.some.injEq] at hl
     subst hl
     exact h4 j (.g f) o d hoj ho hod hj
  |false=>
   rw [hb1] at hl
   simp only [cond_false] at hl
   cases hb2:(ms.getD j 0).testBit i with
   |false=>rw [hb2] at hl;simp at hl
   |true=>
    rw [hb2] at hl
    simp only [cond_true] at hl
    refine h5 d p hl fun k o' ho' hod'=>?_
    have hkj:=aIH hq ho' ho hod' hod
    subst hkj
    cases hk:listed.getD k false with
    |false=>rfl
    |true=>
     have:=aBF (L:=fun i=>listed.getD i false=true) hm hb k i hb2 (fun o'' ho'' e he hbe=>h.clo.h k o'' ho'' hk e he hbe) h.clo
     rw [hu] at this
     cases this
theorem DI.ins {l:List Oper} {ms:List Nat} {outs:List Ou} {listed:Array Bool} {a:Act} {w:World} {i:Nat} (h:DI S Hs hv l E outs listed a w) (hm:aDb ms l ms=true) (hb:zT l 0=true) (hq:aB4 l=true) (hu:listed.getD i false=false)
  (hdeps:∀o,l[i]?=some o→∀e∈o.after.toList,y5 e=true→listed.getD e.on false=true) {M:jI} {bs:Nat→Nat} {G:Gh} (h4:(∀(i:Nat) out o d,outs[i]?=some out→l[i]?=some o→o.dst=some d→listed.getD i false=true→∃v,a.tmps[d]?=some v∧(out.vp bs G i).h M v))
  (h5:(∀d p,jG E d=some p→(∀(i:Nat) o,l[i]?=some o→o.dst=some d→listed.getD i false=false)→∃v,a.tmps[d]?=some v∧p.h M v)):∀{ins:List (Operand×VP)},aGQ l ms E outs G i ins→Ins M a ins
 |[],_=>trivial
 |(x,p)::r,hs=>by
  refine⟨?_,DI.ins h hm hb hq hu hdeps h4 h5 hs.2⟩
  have h1:=hs.1
  unfold aQ3
  cases x with
  |tmp d=>
   obtain⟨v,e,k⟩:=h.read hm hb hq hu hdeps h1 h4 h5
   simpa [Act.eval,e] using k
  |const v=>exact h1 M
  |func f=>exact h1 M
  |global g=>exact h1.elim
theorem DI.yields {l:List Oper} {ms:List Nat} {outs:List Ou} {listed:Array Bool} {a:Act} {w:World} {i j d:Nat} {b:Bool} (h:DI S Hs hv l E outs listed a w) (hm:aDb ms l ms=true) (hb:zT l 0=true) (hq:aB4 l=true) (hu:listed.getD i false=false)
  (hdeps:∀o,l[i]?=some o→∀e∈o.after.toList,y5 e=true→listed.getD e.on false=true) {M:jI} {bs:Nat→Nat} {G:Gh} (h4:(∀(i:Nat) out o d,outs[i]?=some out→l[i]?=some o→o.dst=some d→listed.getD i false=true→∃v,a.tmps[d]?=some v∧(out.vp bs G i).h M v))
  (h5:(∀d p,jG E d=some p→(∀(i:Nat) o,l[i]?=some o→o.dst=some d→listed.getD i false=false)→∃v,a.tmps[d]?=some v∧p.h M v)) (hd:(l[j]?).bind (·.dst)=some d) (hl:aAH l ms E outs G i d=some (.vc (pB b))):
  yielded l.toArray a.tmps j=some b:=by
 obtain⟨v,e,k⟩:=h.read hm hb hq hu hdeps hl h4 h5
 have:v=.bool b:=k
 subst this
 simp [yielded,hd,e]
theorem DI.yieldsU {l:List Oper} {ms:List Nat} {outs:List Ou} {listed:Array Bool} {a:Act} {w:World} {i j d:Nat} (h:DI S Hs hv l E outs listed a w) (hm:aDb ms l ms=true) (hb:zT l 0=true) (hq:aB4 l=true) (hu:listed.getD i false=false)
  (hdeps:∀o,l[i]?=some o→∀e∈o.after.toList,y5 e=true→listed.getD e.on false=true) {M:jI} {bs:Nat→Nat} {G:Gh} (h4:(∀(i:Nat) out o d,outs[i]?=some out→l[i]?=some o→o.dst=some d→listed.getD i false=true→∃v,a.tmps[d]?=some v∧(out.vp bs G i).h M v))
  (h5:(∀d p,jG E d=some p→(∀(i:Nat) o,l[i]?=some o→o.dst=some d→listed.getD i false=false)→∃v,a.tmps[d]?=some v∧p.h M v)) (hd:(l[j]?).bind (·.dst)=some d) (hl:aAH l ms E outs G i d=some .un):
  yielded l.toArray a.tmps j=none:=by
 obtain⟨v,e,k⟩:=h.read hm hb hq hu hdeps hl h4 h5
 have:v=undef:=k
 subst this
 simp [yielded,hd,e,undef]
theorem aNd {l:List Oper} {ms:List Nat} {outs:List Ou} (hm:aDb ms l ms=true) (hb:zT l 0=true) (hq:aB4 l=true) (hle:outs.length≤l.length) (hops:aIl S Hs hv l ms E outs 0 l outs) (ht:aDu l ms outs.length (l.length-outs.length)=true) (hhv:hv.all (Nat.blt · outs.length)=true) (hvn:hv.Nodup)
  (k:∀bs G,WL S l.toArray κ (l.drop outs.length) (aEa bs 0 outs++Hs G (2^hv.length-1)) (aEb bs G 0 l outs++E)):∀(aY:Nat) (listed:Array Bool) (a:Act) (w:World),DI S Hs hv l E outs listed a w→unl listed≤aY→wpAnyIn S.F 0 S.P .any l.toArray (κ.den S.F S.P) aY listed a w:=by
 have hfin:∀(aY:Nat) (listed:Array Bool) (a:Act) (w:World),DI S Hs hv l E outs listed a w→(∀i,i<outs.length→listed.getD i false=true)→l.length-outs.length≤aY→wpAnyIn S.F 0 S.P .any l.toArray (κ.den S.F S.P) aY listed a w:=by
  intro aY listed a w hd hall hf
  obtain⟨bs,G,hfull⟩:=hd.full hall hle hhv
  refine aNY hm hb ht (by omega) aY 0 listed a w hd.sz (fun j hj=>hall j (by omega)) (fun j hj=>?_) (by omega) hd.clo (k bs G a w hfull)
  cases hc:listed.getD j false with
  |false=>rfl
  |true=>have:=hd.pre j hc;omega
 have hun:∀(listed:Array Bool),listed.size=l.length→(∀i,listed.getD i false=true→i<outs.length)→l.length-outs.length≤unl listed:=by
  intro listed hs hp
  unfold unl
  have key:∀(L:List Bool) (m:Nat),(∀i,L[i]?=some true→i<m)→L.length-m≤(L.filter (!·)).length:=by
   intro L
   induction L with
   |nil=>intro m _;simp
   |cons x L ih=>
    intro m h
    cases m with
    |zero=>
     have hx:x=false:=by cases x;rfl;exact absurd (h 0 rfl) (by omega)
     subst hx
     have:=ih 0 (fun i hi=>absurd (h (i+1) (by simpa using hi)) (by omega))
     simp at this ⊢;omega
    |succ m=>
     have:=ih m (fun i hi=>by have:=h (i+1) (by simpa using hi);omega)
     cases x<;>simp<;>omega
  have:=key listed.toList outs.length (fun i hi=>hp i (by
   rw [Array.getElem?_toList] at hi
   simp [Array.getD_eq_getD_getElem?,hi]))
  simpa [hs] using this
 intro aY
 induction aY with
 |zero=>
  intro listed a w hd hf
  by_cases hall:∀i,i<outs.length→listed.getD i false=true
  ·exact hfin 0 listed a w hd hall (Nat.le_trans (hun listed hd.sz hd.pre) hf)
  ·exfalso
   simp only [Classical.not_forall] at hall
   obtain⟨i,hi,hni⟩:=hall
   have hi':i<listed.size:=by rw [hd.sz];omega
   have:=aK0 (l:=listed) (i:=i) (by simpa using hni) hi'
   omega
 |succ aY ih=>
  intro listed a w hd hf
  by_cases hall:∀i,i<outs.length→listed.getD i false=true
  ·exact hfin _ listed a w hd hall (Nat.le_trans (hun listed hd.sz hd.pre) hf)
  ·simp only [Classical.not_forall] at hall
   obtain⟨i0,hi0,hni0⟩:=hall
   have hni0':listed.getD i0 false=false:=by simpa using hni0
   obtain⟨j0,hj0,hr0⟩:=aFl hd.sz hb (i:=i0) (by omega) hni0'
   refine⟨fun hnil=>(by rw [hnil] at hr0;cases hr0),fun i hi=>?_⟩
   obtain⟨hu,hil,o,ho,hdeps⟩:=aE5 hi (by simpa using hd.sz)
   simp only [List.size_toArray] at hil
   simp only [List.getElem?_toArray] at ho
   have hdeps':∀o',l[i]?=some o'→∀e∈o'.after.toList,y5 e=true→listed.getD e.on false=true:=by
    intro o' ho'
    rw [ho] at ho'
    rw [←Option.some.inj ho'];exact hdeps
   have him:i<outs.length:=by
    rcases Nat.lt_or_ge i outs.length with h|h
    ·exact h
    ·exfalso
     have hbit:=aGi ht (i-outs.length) (by omega) i0 (by omega)
     rw [show outs.length+(i-outs.length)=i by omega] at hbit
     have:=aBF (L:=fun i=>listed.getD i false=true) hm hb i i0 hbit (fun o' ho'=>hdeps' o' ho') hd.clo
     rw [hni0'] at this;cases this
   obtain⟨o2,ho2,hdN,hop⟩:=aIl.at hops i outs[i] (List.getElem?_eq_getElem him)
   rw [ho] at ho2
   have hoo:o=o2:=Option.some.inj ho2
   subst hoo
   rw [Nat.zero_add] at hop
   obtain⟨M,bs,ord,G,h1,hnd,ho1,ho2,h2,h3,h4,h5⟩:=hd.st
   have hdN':∀d,o.dst=some d→d<S.N:=fun d hod=>by rw [hod] at hdN;simpa using hdN
   have hin:∀{L:List Nat},mC ms hv i L=true→stg hv listed∈L:=by
    intro L hL
    have h1:=aNj hL (aOB listed hv)
    have h2:aRq ms hv i (stg hv listed)=true:=by
     unfold aRq
     refine aHQ fun j hj=>?_
     rw [aKm hj]
     have c1:(!(ms.getD i 0).testBit j||listed.getD j false)=true:=by
      cases hbq:(ms.getD i 0).testBit j with
      |false=>rfl
      |true=>rw [aBF (L:=fun i=>listed.getD i false=true) hm hb i j hbq (fun o' ho'=>hdeps' o' ho') hd.clo];rfl
     have c2:(!(Nat.beq j i||(ms.getD j 0).testBit i)||!listed.getD j false)=true:=by
      cases hj':listed.getD j false with
      |false=>simp
      |true=>
       have hji:Nat.beq j i=false:=by
        cases hbq:Nat.beq j i with
        |false=>rfl
        |true=>have:=Nat.eq_of_beq_eq_true hbq;subst this;rw [hu] at hj';cases hj'
       have hbt:(ms.getD j 0).testBit i=false:=by
        cases hbq:(ms.getD j 0).testBit i with
        |false=>rfl
        |true=>
         have:=aBF (L:=fun i=>listed.getD i false=true) hm hb j i hbq (fun o'' ho'' e he hbe=>hd.clo.h j o'' ho'' hj' e he hbe) hd.clo
         rw [hu] at this;cases this
       rw [hji,hbt];rfl
     have c3:(!listed.getD j false||aJ8 (fun k=>!(ms.getD j 0).testBit k||exM hv (stg hv listed) k) hv)=true:=by
      cases hj':listed.getD j false with
      |false=>rfl
      |true=>
       show aJ8 _ hv=true
       refine aHQ fun k hk=>?_
       rw [aKm hk]
       cases hbq:(ms.getD j 0).testBit k with
       |false=>rfl
       |true=>rw [aBF (L:=fun i=>listed.getD i false=true) hm hb j k hbq (fun o'' ho'' e he hbe=>hd.clo.h j o'' ho'' hj' e he hbe) hd.clo];rfl
     rw [c1,c2,c3];rfl
    rw [h2] at h1
    exact aIY h1
   have hgetset:∀j,(listed.setIfInBounds i true).getD j false=if j=i then true else listed.getD j false:=by
    intro j
    simp only [Array.getD_eq_getD_getElem?,Array.getElem?_setIfInBounds]
    by_cases e:i=j
    ·subst e;simp [hd.sz,hil]
    ·rw [if_neg e,if_neg (fun h=>e h.symm)]
   have hK:∀(v:Value) (M':jI) (w':World) (bs':Nat→Nat) (ord':List Nat) (G':Gh),oX M M'→(∀j,j≠i→bs' j=bs j)→(∀j,j≠i→G' j=G j)→St S M' w' (Hs G' (stg hv (listed.setIfInBounds i true))++ord'.map (aEJ outs bs'))→ord'.Nodup→(∀(j T:Nat) (zs:List CP),outs[j]?=some (.a T zs)→(listed.setIfInBounds i true).getD j false=true→j∈ord')→(∀j∈ord',(listed.setIfInBounds i true).getD j false=true)→
     ((outs[i]).vp bs' G' i).h M' v→wpAnyIn S.F 0 S.P .any l.toArray (κ.den S.F S.P) aY (listed.setIfInBounds i true) (a.put o.dst v) w':=by
    intro v M' w' bs' ord' G' hm hbs hGs hst hnd' ho1' ho2' hval
    have hvp:∀(j:Nat) (q:Ou),j≠i→q.vp bs' G' j=q.vp bs G j:=by
     intro j q hj
     cases q with
     |v p=>rfl
     |a T zs=>simp only [Ou.vp,hbs j hj]
     |g f=>simp only [Ou.vp,hGs j hj]
    refine ih _ _ _ ⟨by simpa using hd.sz,⟨fun k o' hk hL e he hbe=>?_⟩,fun k hk=>?_,M',bs',ord',G',hst,hnd',ho1',ho2',by cases hod:o.dst<;>simp [Act.put,h2],by cases hod:o.dst<;>exact h3.mono hm,fun k out o' d' hout hk hd' hL=>?_,fun d' p hl hno=>?_⟩ ?_
    ·rw [hgetset] at hL ⊢
     by_cases e1:e.on=i
     ·simp [e1]
     ·rw [if_neg e1]
      by_cases e2:k=i
      ·subst e2;exact hdeps' o' hk e he hbe
      ·rw [if_neg e2] at hL;exact hd.clo.h k o' hk hL e he hbe
    ·rw [hgetset] at hk
     by_cases e2:k=i
     ·subst e2;exact him
     ·rw [if_neg e2] at hk;exact hd.pre k hk
    ·by_cases e2:k=i
     ·subst e2
      rw [ho] at hk
      cases Option.some.inj hk
      rw [List.getElem?_eq_getElem him] at hout
      cases Option.some.inj hout
      rw [hd']
      exact⟨v,by simp [Act.put,h2,hdN' d' hd'],hval⟩
     ·rw [hgetset,if_neg e2] at hL
      obtain⟨u,hu',hp⟩:=h4 k out o' d' hout hk hd' hL
      refine⟨u,?_,by rw [hvp k out e2];exact VP.mono hm hp⟩
      cases hod:o.dst with
      |none=>exact hu'
      |some d=>
       have hne:d≠d':=fun e=>e2 (aIH hq hk ho (e▸hd') hod)
       simp [Act.put,Array.getElem?_setIfInBounds_ne hne,hu']
    ·obtain⟨u,hu',hp⟩:=h5 d' p hl fun k o' hk hd'=>by
      have:=hno k o' hk hd'
      rw [hgetset] at this
      by_cases e2:k=i
      ·rw [if_pos e2] at this;cases this
      ·rwa [if_neg e2] at this
     refine⟨u,?_,VP.mono hm hp⟩
     cases hod:o.dst with
     |none=>exact hu'
     |some d=>
      have hne:d≠d':=fun e=>by
       have:=hno i o ho (e▸hod)
       rw [hgetset,if_pos rfl] at this;cases this
      simp [Act.put,Array.getElem?_setIfInBounds_ne hne,hu']
    ·have:=aK0 (l:=listed) (i:=i) hu (by rw [hd.sz];exact hil)
     omega
   have hoi:outs[i]?=some outs[i]:=List.getElem?_eq_getElem him
   have hse:stg hv (listed.setIfInBounds i true)=stg hv listed+aFK hv i:=aLq hu hgetset hvn
   have hsl:hv.contains i=false→stg hv (listed.setIfInBounds i true)=stg hv listed:=fun hc=>by rw [hse,aJn hc];rfl
   have hKv:∀p,outs[i]=.v p→hv.contains i=false→∀v M' w',oX M M'→St S M' w' (Hs G (stg hv listed)++ord.map (aEJ outs bs))→p.h M' v→wpAnyIn S.F 0 S.P .any l.toArray (κ.den S.F S.P) aY (listed.setIfInBounds i true) (a.put o.dst v) w':=by
    intro p hp hc v M' w' hm hst hval
    refine hK v M' w' bs ord G hm (fun _ _=>rfl) (fun _ _=>rfl) (by rw [hsl hc];exact hst) hnd (fun j T zs hj hL=>?_) (fun j hj=>?_) (by rw [hp];exact hval)
    ·rw [hgetset] at hL
     by_cases e:j=i
     ·subst e
      rw [hoi,hp] at hj;cases hj
     ·rw [if_neg e] at hL;exact ho1 j T zs hj hL
    ·rw [hgetset]
     by_cases e:j=i
     ·simp [e]
     ·rw [if_neg e];exact ho2 j hj
   unfold wpOpIn
   simp only [List.getElem?_toArray,ho]
   generalize hout:outs[i]=out at hop hKv hK
   cases hop with
   |run t hs hg e1 e3=>
    rw [if_pos (by simp [Region.wanted,hg])]
    exact((t.at (stg hv listed) (hin e1) G _).run M w a h1 (hd.ins hm hb hq hu hdeps' h4 h5 (hs G)) _ _ (hKv _ rfl e3))
   |runG t hs hg hdd hl e1 e3=>
    rw [if_pos (by simp [Region.wanted,hg,hd.yields hm hb hq hu hdeps' h4 h5 hdd (hl G)])]
    exact((t.at (stg hv listed) (hin e1) G _).run M w a h1 (hd.ins hm hb hq hu hdeps' h4 h5 (hs G)) _ _ (hKv _ rfl e3))
   |skip hg hdd hl hbb e3=>
    rw [if_neg (by simp [Region.wanted,hg,hd.yields hm hb hq hu hdeps' h4 h5 hdd (hl G)];simpa using hbb)]
    exact⟨fun _ _=>trivial,hKv _ rfl e3 undef M w (oX.refl M) h1 trivial⟩
   |skipN hg hdd hl hbb e3=>
    rw [if_neg (by simp [Region.wanted,hg,hd.yields hm hb hq hu hdeps' h4 h5 hdd (hl G)];simpa using hbb)]
    exact⟨fun _ _=>trivial,hKv _ rfl e3 undef M w (oX.refl M) h1 rfl⟩
   |skipU hg hdd hl e3=>
    rw [if_neg (by simp [Region.wanted,hg,hd.yieldsU hm hb hq hu hdeps' h4 h5 hdd (hl G)])]
    exact⟨fun _ _=>trivial,hKv _ rfl e3 undef M w (oX.refl M) h1 rfl⟩
   |@hvy out ins L t hs hg e1 e3=>
    rw [if_pos (by simp [Region.wanted,hg])]
    refine((t.at (stg hv listed) (hin e1) G _).run M w a h1 (hd.ins hm hb hq hu hdeps' h4 h5 (hs G)) _ _ fun v M' w' b c hm hst hval=>?_)
    refine hK v M' w' bs ord (G.set i (b,c)) hm (fun _ _=>rfl) (fun j hj=>?_) (by rw [hse];exact hst) hnd (fun j T zs hj hL=>?_) (fun j hj=>?_) ?_
    ·unfold Gh.set
     cases hbq:Nat.beq j i with
     |false=>rfl
     |true=>exact absurd (Nat.eq_of_beq_eq_true hbq) hj
    ·rw [hgetset] at hL
     by_cases e:j=i
     ·subst e
      rw [hoi,hout] at hj;cases hj
     ·rw [if_neg e] at hL;exact ho1 j T zs hj hL
    ·rw [hgetset]
     by_cases e:j=i
     ·simp [e]
     ·rw [if_neg e];exact ho2 j hj
    ·simp only [Ou.vp,Gh.set,Nat.beq_refl,cond_true]
     exact hval
   |@alc T zs hz hop hg e3=>
    rw [if_pos (by simp [Region.wanted,hg])]
    obtain⟨ii,z,hi',hzz,hsz,hall'⟩:=hz.z
    have hnot:i∉ord:=fun hm=>by have:=ho2 i hm;rw [hu] at this;cases this
    refine(bX (v:=.pointer (some ⟨w.heap.size,0,none⟩)) (w':=w.alloc (.cells z.cells T)) (by simp [execOp,hop,Instr.alloc,zeroValue,typeInfo,hi',hzz,aDH]) ?_)
    have hsame:∀bs',(∀j,j≠i→bs' j=bs j)→ord.map (aEJ outs bs')=ord.map (aEJ outs bs):=by
     intro bs' hbs
     apply List.map_congr_left
     intro j hj
     have hji:j≠i:=fun e=>hnot (e▸hj)
     unfold aEJ
     rw [hbs j hji]
    have hbs':∀j,j≠i→(fun j=>if j=i then w.heap.size else bs j) j=bs j:=fun j hj=>by simp [hj]
    have hst:=aH6 (T:=T) h1 (hall' M)
    refine hK _ M _ (fun j=>if j=i then w.heap.size else bs j) (ord++[i]) G (oX.refl M) hbs' (fun _ _=>rfl) ?_ ?_ (fun j T' zs' hj hL=>?_) (fun j hj=>?_) ⟨_,by simp,rfl⟩
    ·rw [hsl e3,List.map_append,hsame _ hbs']
     have he:aEJ outs (fun j=>if j=i then w.heap.size else bs j) i=⟨some w.heap.size,1,T,zs.length,1,zs⟩:=by
      simp [aEJ,hoi,hout]
     simp only [List.map_cons,List.map_nil,he]
     refine hst.sub (fun e he=>?_) ?_
     ·simp only [List.mem_append,List.mem_cons,List.not_mem_nil,or_false] at he ⊢
      rcases he with h|h|h
      ·exact .inr (.inl h)
      ·exact .inr (.inr h)
      ·exact .inl h
     ·have hn:=hst.nodup
      rw [List.filterMap_cons_some (f:=HA.β) (b:=w.heap.size) rfl] at hn
      have hn2:=List.nodup_cons.1 hn
      rw [←List.append_assoc,List.filterMap_append]
      refine List.nodup_append.2 ⟨hn2.2,by simp,fun x hx y hy hxy=>?_⟩
      simp at hy
      subst hy
      exact hn2.1 (hxy▸hx)
    ·refine List.nodup_append.2 ⟨hnd,by simp,fun x hx y hy hxy=>?_⟩
     simp at hy
     subst hy
     exact hnot (hxy▸hx)
    ·rw [hgetset] at hL
     by_cases e:j=i
     ·simp [e]
     ·rw [if_neg e] at hL;simp [ho1 j T' zs' hj hL]
    ·rw [hgetset]
     by_cases e:j=i
     ·simp [e]
     ·rw [if_neg e]
      rcases List.mem_append.1 hj with hj|hj
      ·exact ho2 j hj
      ·simp at hj;exact absurd hj e
theorem aMQ (n i:Nat):(Array.replicate n false).getD i false=false:=by
 simp only [Array.getD_eq_getD_getElem?,Array.getElem?_replicate]
 split<;>rfl
theorem aOZ (n:Nat):unl (Array.replicate n false)≤n:=by
 have h1:unl (Array.replicate n false)≤(Array.replicate n false).toList.length:=List.length_filter_le _ _
 simpa using h1
theorem r6 {id:Nat} {l:List Oper} {H:List HA} (Hs:Gh→Nat→List HA) (hv:List Nat) (ms:List Nat) (m n:Nat) (outs:List Ou) (hmix:S.P.follows .mixedOrders=true) (hops:aIl S Hs hv l ms E outs 0 l outs) (k:∀bs G,WL S l.toArray κ (l.drop outs.length) (aEa bs 0 outs++Hs G (2^hv.length-1)) (aEb bs G 0 l outs++E))
  (h0:Hs (fun _=>(none,0)) 0=H:=by rfl) (hhv:hv.all (Nat.blt · outs.length)=true:=by rfl) (hvn:hv.Nodup:=by decide) (hm:aDb ms l ms=true:=by kernel_rfl) (hb:zT l 0=true:=by kernel_rfl) (hq:aB4 l=true:=by kernel_rfl) (hm1:Nat.beq outs.length m=true:=by kernel_rfl) (hm2:Nat.beq l.length (m+n)=true:=by kernel_rfl) (ht:aDu l ms m n=true:=by kernel_rfl):WC S (.region id l.toArray true) κ H E:=by
 have e1:=Nat.eq_of_beq_eq_true hm1
 have e2:=Nat.eq_of_beq_eq_true hm2
 have hle:outs.length≤l.length:=by omega
 have ht:aDu l ms outs.length (l.length-outs.length)=true:=by
  rw [e1,show l.length-m=n by omega];exact ht
 rintro a w ⟨M,h1,h2⟩
 have hF:∀i,(Array.replicate l.toArray.size false).getD i false=true→False:=fun i hL=>by rw [aMQ] at hL;cases hL
 have hst:stg hv (Array.replicate l.toArray.size false)=0:=by
  refine aJV fun j _=>?_
  cases hq:(Array.replicate l.toArray.size false).getD j false
  ·rfl
  ·exact(hF j hq).elim
 refine wpIn_region_any hmix (aNd hm hb hq hle hops ht hhv hvn k _ _ a _ ⟨by simp,⟨fun i o _ hL=>(hF i hL).elim⟩,fun i hL=>(hF i hL).elim,M,fun _=>0,[],fun _=>(none,0),?_,by simp,fun i T zs _ hL=>(hF i hL).elim,by simp,h2.size,h2.defers,fun i out o d _ _ _ hL=>(hF i hL).elim,fun d p hl _=>h2.get d p hl⟩ (aOZ _))
 rw [hst,h0,show([]:List Nat).map (aEJ outs fun _=>0)=[] from rfl,List.append_nil]
 exact h1.same rfl rfl rfl rfl
theorem iQ {id:Nat} {l:List Oper} {H:List HA} (ms:List Nat) (m n:Nat) (outs:List Ou) (hmix:S.P.follows .mixedOrders=true) (hops:aIl S (fun _ _=>H) [] l ms E outs 0 l outs) (k:∀bs G,WL S l.toArray κ (l.drop outs.length) (aEa bs 0 outs++H) (aEb bs G 0 l outs++E))
  (hm:aDb ms l ms=true:=by kernel_rfl) (hb:zT l 0=true:=by kernel_rfl) (hq:aB4 l=true:=by kernel_rfl) (hm1:Nat.beq outs.length m=true:=by kernel_rfl) (hm2:Nat.beq l.length (m+n)=true:=by kernel_rfl) (ht:aDu l ms m n=true:=by kernel_rfl):WC S (.region id l.toArray true) κ H E:=
 r6 (fun _ _=>H) [] ms m n outs hmix hops k rfl rfl List.nodup_nil hm hb hq hm1 hm2 ht
end
end Go.Proofs.YtolfcbpgmfbgmaaGreat
set_option linter.unusedVariables false
namespace Go.Proofs.YtolfcbpgmfbgmaaGreat
theorem eP {α:Type} {a b:α} (h:some a=some b):a=b:=Option.some.inj h
theorem sm2 {α β:Type} {a a':α} {b b':β} (h:some (a,b)=some (a',b')):a=a'∧b=b':=by cases h;exact⟨rfl,rfl⟩
theorem sm3 {α β γ:Type} {a a':α} {b b':β} {c c':γ} (h:some (a,b,c)=some (a',b',c')):a=a'∧b=b'∧c=c':=by cases h;exact⟨rfl,rfl,rfl⟩
theorem sm4 {α β γ δ:Type} {a a':α} {b b':β} {c c':γ} {d d':δ} (h:some (a,b,c,d)=some (a',b',c',d')):a=a'∧b=b'∧c=c'∧d=d':=by cases h;exact⟨rfl,rfl,rfl,rfl⟩
inductive LR (R S:Type)
 |ret (r:R)
 |go (s:S)
section
variable {S:Sx} {κ:Kt} {H H':List HA} {E:sN} {ops:Array Oper} {rest:List Oper} {o:Oper}
theorem aKK {P:Program} {f:Nat} {pre:List VP} {α:Type} {C:Cd α} {T:Nat} {r:List α} (h:CtO P f [] pre (fun Ho q=>∃β c n,r.length=n∧Ho=[hO C β c T n r]∧q=.vc (pO β n c))):Ct P f pre (.vc (pS C r)):=by
 refine⟨h.ok,fun M w args h1 h2 h3 h4=>(h.run M w args h1 h2 h3 h4).mono fun e w' hr=>?_⟩
 obtain⟨v,M',Ho,q,⟨β,c,n,hn,rfl,rfl⟩,rfl,hst,hq⟩:=hr
 obtain⟨M2,g1,g2,g3⟩:=hst.frzv (i:=0) rfl hn
 rcases hq with hv|⟨_,h0,_,a0,rfl⟩
 ·subst hv
  exact⟨_,M2,[],_,⟨rfl,rfl⟩,rfl,g2,g3⟩
 ·have hx:r=[]:=List.eq_nil_of_length_eq_zero (hn.trans h0)
  subst hx
  exact⟨_,M2,[],_,⟨rfl,rfl⟩,rfl,g2,_,_,rfl,by simp,by simp,fun j x hj=>by simp at hj⟩
theorem b0 {c:Code} {a:Act} {w:World} (h:WC S c κ H E) (hh:hs S H E a w):c.wpIn S.F 0 S.P (κ.den S.F S.P) a w:=h a w hh
theorem aGW {t:Nat} {b:Bool} {x y:Code} (ht:jG E t=some (.vc (pB b))) (hx:b=true→WC S x κ H E) (hy:b=false→WC S y κ H E):WC S (.cond (.tmp t) x y) κ H E:=
 aQ7 ht (fun _ _ h=>h) hx hy
theorem fV {t:Nat} {x y:Code} (ht:jG E t=some (.vc (pB true))) (hx:WC S x κ H E):WC S (.cond (.tmp t) x y) κ H E:=
 aGW ht (fun _=>hx) (fun h=>by cases h)
theorem wX {t:Nat} {x y:Code} (ht:jG E t=some (.vc (pB false))) (hy:WC S y κ H E):WC S (.cond (.tmp t) x y) κ H E:=
 aGW ht (fun h=>by cases h) (fun _=>hy)
theorem gC {t:Nat} {x:Operand} {off:Nat} {β:Option Nat} {e:HA} {out:VP} {qs:List CP} (i k:Nat) (ho:o.op=.load t x) (hi:H[i]?=some e) (hβ:e.β=β) (hq:vI k (e.ps.drop off)=some qs) (hk:Tk S.P t qs out):
  Tr S o H H [(x,.vc (pP β off))] out:=by
 obtain⟨h1,h2⟩:=aBA hq
 exact aRM ho hi hβ (by rw [h2];exact h1) hk
theorem x0 {t:Nat} {x:Operand} {ps qs:List CP} {out:VP} (k:Nat) (ho:o.op=.load t x) (hq:vI k ps=some qs) (hk:Tk S.P t qs out):
  Tr S o H H [(x,.vc (pM ps))] out:=by
 obtain⟨h1,h2⟩:=aBA hq
 exact aS6 ho (by rw [h2];exact h1) hk
theorem t_s {t:Nat} {x y:Operand} {off:Nat} {β:Option Nat} {e:HA} {p:VP} {ps:List CP} {k:Nat} (i:Nat) (ho:o.op=.store t x y) (hi:H[i]?=some e) (hβ:e.β=β) (hs:(S.P.info? t).map (·.size)=some k) (hp:p.flat:=by exact trivial) (hk:p.cells.length=k:=by rfl) (hq:yX e.ps off p.cells=some ps:=by rfl) (hH:aAi H i ⟨e.β,e.c,e.T,e.sz,e.n,ps⟩=some H':=by rfl):
  Tr S o H H' [(x,.vc (pP β off)),(y,p)] .any:=by
 obtain⟨h1,h2⟩:=aBN hq
 rw [aC4 hH,h1]
 exact aSt ho hi hβ hp (by rw [hk];exact hs) h2
theorem nW {ins:List (Operand×VP)} {b v:Bool} (t:Tr S o H H' ins (.vc (pB b))) (h:b=v):Tr S o H H' ins (.vc (pB v)):=h▸t
theorem jP {α:Type} (C:Cd α) (T:Nat) {d:Nat} (ho:o.op=.assign (.const (.slice none 0 0))) (k:WL S ops κ rest (hO C none 0 T 0 ([]:List α)::H) ((d,.vc (pO none 0 0))::E))
  (hd:o.dst=some d:=by rfl) (hg:o.guard=none:=by rfl) (hN:Nat.blt d S.N=true:=by rfl):WL S ops κ (o::rest) H E:=by
 rintro a w ⟨M,h1,h2⟩
 refine wpListIn_plain hg fun K hK=>bX (v:=.slice none 0 0) (w':=w) (by simp [execOp,ho,Act.eval]) (hK _ _ (k _ _ ⟨M,?_,?_⟩))
 ·exact h1.new_row (aAL w none) ⟨⟨[],World.ownsRow_nil w 0 T C.n,trivial⟩,fun b hb=>by cases hb⟩ (fun b hb=>by cases hb)
 ·rw [hd];exact h2.put hN (.inl rfl)
theorem eE {P:Program} {fn:Func} {w0:World} {M0:jI} {B:List Nat} {post:VP} {N:NX} {e:Exit} {rs:List ResultVar} {ps:List VP} (he:e=.ret∨e=.normal) (hrs:fn.results=rs.toArray) (hv:RVs ⟨P,w0,M0,B,N⟩ H E rs ps) (hl:Nat.ble ps.length 4=true)
  (hpost:aKc ps=post) (hfr:∀D,N.fr D→w0.heap.size≤D∧M0 D=none:=by exact fun _ h=>h):WX ⟨P,w0,M0,B,N⟩ e (.base (aGf P fn (Rp P w0 M0 B (fun Ho q=>Ho=[]∧q=post)))) H E:=
 aCq he hrs hv hl [] rfl (by simp) ⟨rfl,hpost⟩ hfr
theorem yL {t T off:Nat} {β:Option Nat} {e:HA} {p:VP} {qs:List CP} {rs:List ResultVar} {ps:List VP} (i k:Nat) (h:jG E t=some (.vc (pP β off))) (hi:H[i]?=some e) (hβ:e.β=β) (hq:vI k (e.ps.drop off)=some qs) (hk:Tk S.P T qs p) (kk:RVs S H E rs ps):RVs S H E (.cell t T::rs) (p::ps):=by
 obtain⟨h1,h2⟩:=aBA hq
 exact .cell h hi hβ (by rw [h2];exact h1) hk kk
theorem aDG {α:Type} {C:Cd α} {xs:List α} {β:Option Nat} {c T n i:Nat} {a:Act} {w:World} (hi:H[i]?=some (hO C β c T n xs)) (hh:hs S H E a w):n≤aBq:=by
 obtain⟨M,h1,_⟩:=hh
 have:=aLF h1 hi
 simpa [maxLen,aBq] using this
def aF2 (E:sN) (p:VP):List Nat→Prop
 |[]=>True
 |d::ds=>jG E d=some p∧aF2 E p ds
theorem aF2.mem {E:sN} {p:VP}:∀{ds:List Nat},aF2 E p ds→∀d∈ds,jG E d=some p
 |[],_,d,h=>by simp at h
 |x::ds,ha,d,h=>by
  rcases List.mem_cons.1 h with rfl|h
  ·exact ha.1
  ·exact aF2.mem ha.2 d h
theorem dS {x d:Nat} {p:VP} (k:WL S ops κ rest H ((d,p)::E)) (ho:o.op=.move (.tmp x):=by rfl) (hl:jG E x=some p:=by rfl) (hd:o.dst=some d:=by rfl) (hg:o.guard=none:=by rfl) (hN:Nat.blt d S.N=true:=by rfl):WL S ops κ (o::rest) H E:=
 aI (aL (.inl ho)) ⟨hl,trivial⟩ k hd hg hN
theorem zP {x d:Nat} {p:VP} (k:WL S ops κ rest H ((d,p)::E)) (ho:o.op=.assign (.tmp x):=by rfl) (hl:jG E x=some p:=by rfl) (hd:o.dst=some d:=by rfl) (hg:o.guard=none:=by rfl) (hN:Nat.blt d S.N=true:=by rfl):WL S ops κ (o::rest) H E:=
 aI (aL (.inr ho)) ⟨hl,trivial⟩ k hd hg hN
theorem tV {α:Type} {C:Cd α} {xs:List α} {β:Option Nat} {c T n:Nat} (i:Nat) (ds:List Nat) (hi:H[i]?=some (hO C β c T n xs)) (hn:xs.length=n) (hds:aF2 E (.vc (pO β n c)) ds) (hd:aBu H i=some H') (k:WL S ops κ rest H' (ds.map (fun d=>(d,VP.vc (pS C xs)))++E)):WL S ops κ rest H E:=
 fun a w hh=>k a w (aD3 hi hn (hn▸aDG hi hh) hds.mem hd hh)
theorem aQA {α:Type} {C:Cd α} {xs:List α} {β:Option Nat} {c T n:Nat} {cd:Code} (i:Nat) (ds:List Nat) (hi:H[i]?=some (hO C β c T n xs)) (hn:xs.length=n) (hds:aF2 E (.vc (pO β n c)) ds) (hd:aBu H i=some H') (k:WC S cd κ H' (ds.map (fun d=>(d,VP.vc (pS C xs)))++E)):WC S cd κ H E:=
 fun a w hh=>k a w (aD3 hi hn (hn▸aDG hi hh) hds.mem hd hh)
theorem lF {α:Type} {C:Cd α} {xs:List α} {β:Option Nat} {c T n:Nat} {e:Exit} (i:Nat) (ds:List Nat) (hi:H[i]?=some (hO C β c T n xs)) (hn:xs.length=n) (hds:aF2 E (.vc (pO β n c)) ds) (hd:aBu H i=some H') (k:WX S e κ H' (ds.map (fun d=>(d,VP.vc (pS C xs)))++E)):WX S e κ H E:=
 fun a w hh=>k a w (aD3 hi hn (hn▸aDG hi hh) hds.mem hd hh)
theorem aFj {α:Type} {C:Cd α} {xs:List α} {β:Option Nat} {c T n:Nat} (i k off:Nat) {eb:HA} {ps':List CP} {H1 H2:List HA} (hi:H[i]?=some (hO C β c T n xs)) (hn:xs.length=n) (hk:H[k]?=some eb) (hp:eb.ps[off]?=some (pO β n c)) (hps:yX eb.ps off [pS C xs]=some ps') (h1:aAi H k ⟨eb.β,eb.c,eb.T,eb.sz,eb.n,ps'⟩=some H1) (h2:aBu H1 i=some H2) (kk:WL S ops κ rest H2 E) (hne:Nat.beq i k=false:=by rfl):WL S ops κ rest H E:=
 fun a w hh=>kk a w (aNf i k off hi hn (hn▸aDG hi hh) hk hne hp hps h1 h2 hh)
theorem aP {c:Code} {id:Nat} (PJ:List HA→sN→Prop) (hJ:∀H E,PJ H E→WX S .normal κ H E) (k:(∀H E,PJ H E→WX S .normal κ H E)→WC S c (.blk id κ) H E):WC S c (.blk id κ) H E:=k hJ
theorem aAa {c y:Code} (PJ:List HA→sN→Prop) (hJ:∀H E,PJ H E→WC S y κ H E) (k:(∀H E,PJ H E→WX S .normal (.seq y κ) H E)→WC S c (.seq y κ) H E):WC S c (.seq y κ) H E:=k fun H E h=>aJ (hJ H E h)
theorem aEd {PJ:List HA→sN→Prop} {H':List HA} {E':sN} (J:∀H E,PJ H E→WX S .normal κ H E) (h:PJ H' E') (l:List Nat) (hp:cE H l=some H') (hE:aGO E E') (hl:l.Nodup:=by decide):WX S .normal κ H E:=
 aRD l hp hl hE (J H' E' h)
theorem cA {body:Code} (I:Nat→Act→World→Prop) (k:Nat) (h0:∀a w,¬I 0 a w) (step:∀k a w,I (k+1) a w→body.wpIn S.F 0 S.P ((Kt.lp (I k) κ).den S.F S.P) a w) (hI:∀a w,hs S H E a w→I k a w):WC S (.loop body) κ H E:=
 fun a w hh=>aRk I h0 step k a w (hI a w hh)
end
end Go.Proofs.YtolfcbpgmfbgmaaGreat
set_option linter.unusedVariables false
namespace Go.Proofs.YtolfcbpgmfbgmaaGreat
section
variable {S:Sx} {κ:Kt} {H H':List HA} {E:sN} {ops:Array Oper} {rest:List Oper} {o:Oper}
def aOJ (E:sN) (b:Nat):List (Nat×Nat)→Prop
 |[]=>True
 |x::ds=>jG E x.1=some (.vc (pP (some b) x.2))∧aOJ E b ds
def aOd (ps:List CP):List (Nat×Nat)→sN
 |[]=>[]
 |x::ds=>(x.1,.vc (pM (ps.drop x.2)))::aOd ps ds
theorem aPn {i b T sz:Nat} {ps:List CP} {ds:List (Nat×Nat)} (hi:H[i]?=some ⟨some b,1,T,sz,1,ps⟩) (hds:aOJ E b ds) {a:Act} {w:World} (h:hs S H E a w):
  hs S (H.eraseIdx i) (aOd ps ds++E) a w:=by
 obtain⟨M,h1,h2⟩:=h
 obtain⟨hle,hst⟩:=h1.freeze hi (fun _ _=>.inr trivial)
 obtain⟨⟨vs,how,hall⟩,_⟩:=h1.own _ (List.mem_of_getElem? hi)
 have hcell:z9 (frz M w (some b)) b 0 ps:=by
  rcases how.2 with⟨h3,h4⟩|⟨g,cap,cur,h3,_,hg,hnc,_,hsz,htake⟩
  ·simp at h4
  ·simp only [sv,Option.map_some,Value.slice.injEq,Option.some.injEq,Addr.mk.injEq,and_true,true_and] at h3
   obtain⟨rfl,rfl⟩:=h3
   refine⟨vs,bB.mono hle hall,fun t u ht=>?_⟩
   have hM:frz M w (some b) b=some (.cells cur T (0,0)):=by simp [frz,hg]
   simp only [y0,hM,Nat.zero_add]
   have ht2:(cur.toList.take (1*sz))[t]?=some u:=by rw [htake];exact ht
   rw [List.getElem?_take] at ht2
   split at ht2
   ·simpa using ht2
   ·cases ht2
 refine⟨_,hst,h2.size,h2.defers.mono hle,fun x p hl=>?_⟩
 have key:∀ds:List (Nat×Nat),aOJ E b ds→jG (aOd ps ds++E) x=some p→∃v,a.tmps[x]?=some v∧p.h (frz M w (some b)) v:=by
  intro ds
  induction ds with
  |nil=>intro _ hl;exact(h2.mono hle).get x p hl
  |cons d ds ih=>
   intro hd hl
   simp only [aOd,List.cons_append,jG] at hl
   by_cases e:d.1=x
   ·subst e
    simp only [Nat.beq_refl,cond_true,Option.some.injEq] at hl
    subst hl
    obtain⟨v,hv,b',hb',hp⟩:=h2.get d.1 _ hd.1
    simp only [Option.some.injEq] at hb'
    subst hb'
    refine⟨v,hv,b,d.2,hp,?_⟩
    have:=hcell.drop d.2
    rwa [Nat.zero_add] at this
   ·rw [aA2 e] at hl
    exact ih hd.2 hl
 exact key ds hds hl
theorem aFV {b T sz:Nat} {ps:List CP} (i:Nat) (ds:List (Nat×Nat)) (hi:H[i]?=some ⟨some b,1,T,sz,1,ps⟩) (hds:aOJ E b ds) (hd:aBu H i=some H') (k:WL S ops κ rest H' (aOd ps ds++E)):WL S ops κ rest H E:=
 fun a w hh=>k a w (aAW hd▸aPn hi hds hh)
def pFn (P:Program) {α ρ:Type} (pre:α→List VP) (post:ρ→VP) (φ:α→Option ρ):CP:=
 ⟨fun M v=>v.oneCell'=true∧∀x r,φ x=some r→∃f cs,(pF f cs).h M v∧Ct P f (pre x++cs.map .vc) (post r),
  fun hm h=>⟨h.1,fun x r hr=>let ⟨f,cs,h1,h2⟩:=h.2 x r hr;⟨f,cs,(pF f cs).monoc hm h1,h2⟩⟩,fun h=>h.1⟩
theorem aJf {α ρ:Type} {pre:α→List VP} {post:ρ→VP} {φ:α→Option ρ} {f:Nat} {xs:List Operand} {cs:List CP} (ho:o.op=.makeFunc (.func f) #[] xs.toArray) (hl:xs.length=cs.length) (h:∀x r,φ x=some r→Ct S.P f (pre x++cs.map .vc) (post r)):
  Tr S o H H (xs.zip (cs.map .vc)) (.vc (pFn S.P pre post φ)):=
 ⟨fun M w a hs hin K Q hk=>(aMH ho hl).run M w a hs hin K Q fun v M' w' hm hst hv=>hk v M' w' hm hst ⟨(pF f cs).one hv,fun x r hr=>⟨f,cs,hv,h x r hr⟩⟩⟩
theorem aEC {α ρ:Type} {pre:α→List VP} {post:ρ→VP} {φ:α→Option ρ} {xs:List Operand} {y:Operand} {ts:Array TypeId} {x:α} {r:ρ} (ho:o.op=.call {callee:=.value y,args:=xs.toArray,argTypes:=ts}) (hx:φ x=some r) (hl:xs.length=(pre x).length):
  Tr S o H H ((y,.vc (pFn S.P pre post φ))::xs.zip (pre x)) (post r):=
 ⟨fun M w a hs hin K Q hk=>by
  obtain⟨f,cs,h1,h2⟩:=hin.1.2 x r hx
  exact(aIA (cs:=cs) ho h2 hl).run M w a hs ⟨h1,hin.2⟩ K Q hk⟩
theorem aBa {α:Type} (C:Cd α) (T:Nat) (k:WL S ops κ rest (hO C none 0 T 0 ([]:List α)::H) E):WL S ops κ rest H E:=by
 rintro a w ⟨M,h1,h2⟩
 exact k a w ⟨M,h1.new_row (aAL w none) ⟨⟨[],World.ownsRow_nil w 0 T C.n,trivial⟩,fun b hb=>by cases hb⟩ (fun b hb=>by cases hb),h2⟩
theorem aO8 {α:Type} {C:Cd α} {xs:List α} {T T' e d:Nat} {x:Operand} (ho:o.op=.binOp .eql T x (.const (.slice none 0 0)) T') (hT:S.P.underlying T=some (.slice e)) (hx:aF0 E x (.vc (pS C xs)))
  (kt:xs=[]→WL S ops κ rest H ((d,.vc (pB true))::E)) (kf:WL S ops κ rest H ((d,.vc (pB false))::E))
  (hd:o.dst=some d:=by rfl) (hg:o.guard=none:=by rfl) (hN:Nat.blt d S.N=true:=by rfl):WL S ops κ (o::rest) H E:=by
 rintro a w ⟨M,h1,h2⟩
 obtain⟨p,c,hv,_,_,hall⟩:=(yD.ins (l:=[(x,.vc (pS C xs))]) h2 ⟨hx,trivial⟩).1
 have hrun:(execOp a.eval o).run S.P w=.ok (.value (.bool p.isNone)) w:=by
  have hq:=run_equalIn_slice_nil (P:=S.P) (w:=w) 9999 T e p xs.length c hT
  have hg2:(eqGuard .eql T x (.const (.slice none 0 0)) (.slice p xs.length c) (.slice none 0 0)).run S.P w=.ok () w:=by
   unfold eqGuard
   split<;>rfl
  have hb:(binOp .eql T (.slice p xs.length c) (.slice none 0 0)).run S.P w=.ok (.bool p.isNone) w:=by
   simp only [binOp,Sem.run_bind,Op.equal]
   rw [show Op.maxDepth=9999+1 from rfl,hq];simp
  have hv2:a.eval x=.slice p xs.length c:=hv
  have hc2:a.eval (.const (.slice none 0 0))=.slice none 0 0:=rfl
  simp [execOp,ho,hv2,hc2,hg2,hb]
 refine wpListIn_plain hg fun K hK=>bX hrun (hK _ _ ?_)
 rw [hd]
 cases p with
 |none=>
  refine kt ?_ _ _ ⟨M,h1,h2.put hN rfl⟩
  cases xs with
  |nil=>rfl
  |cons z zs=>obtain⟨b,off,hb,_⟩:=hall 0 z rfl;cases hb
 |some ad=>exact kf _ _ ⟨M,h1,h2.put hN rfl⟩
theorem St.perm {M:jI} {w:World} (h:St S M w H) (hp:H'.Perm H):St S M w H':=
 h.sub (fun e he=>hp.subset he) ((hp.filterMap _).nodup_iff.2 h.nodup)
theorem mM (hp:H'.Perm H) (k:WL S ops κ rest H' E):WL S ops κ rest H E:=
 fun a w ⟨M,h1,h2⟩=>k a w ⟨M,h1.perm hp,h2⟩
theorem aFy {f:Nat} {pre pre':List VP} {post:VP} {xs:List Operand} {ts:Array TypeId} (ho:o.op=.call {callee:=.value (.func f),args:=xs.toArray,argTypes:=ts}) (c:Ct S.P f pre post) (hl:xs.length=pre'.length)
  (hlend:∀M w,St S M w H→∃Mb,oX M Mb∧Mok Mb w∧∀vs,lG M pre' vs→lG Mb pre vs) (hpost:∀M M' v,post.h M v→post.h M' v):Tr S o H H (xs.zip pre') post:=by
 refine⟨fun M w a h hin K Q hkk=>?_⟩
 have hall:=lG.of_ins hl hin
 obtain⟨Mb,hle,hok,hconv⟩:=hlend M w h
 refine yO (f:=f) (args:=(xs.map a.eval).toArray) ?_ (c.run Mb w _ hok (by simp) (by simp) (hconv _ hall)) fun e w' hr=>?_
 ·simp [execOp,ho,resolve,Deferred.ofValue,Act.eval,invoke,oY c.ok]
 ·obtain⟨v,M',Ho,q,⟨rfl,rfl⟩,rfl,hst,hq⟩:=hr
  have hst2:St ⟨S.P,w,M,[],0⟩ M w' []:=
   ⟨oX.refl M,fun b o hb=>hst.mem b o (hst.le0 b o (hle b o hb)),hst.keep,fun _ _ _=>rfl,hst.size,hst.os,hst.tape,hst.output,by simp,by simp,by simp⟩
  refine⟨v,rfl,hkk v M w' (oX.refl M) ?_ (hpost _ _ _ hq)⟩
  have:=h.call (is:=[]) (Hin:=[]) rfl (aAI H) (by simpa using List.nodup_range' (s:=0) (n:=H.length)) hst2
  simpa using this
end
end Go.Proofs.YtolfcbpgmfbgmaaGreat
set_option linter.unusedVariables false
namespace Go.Proofs.YtolfcbpgmfbgmaaGreat
def cI:Cd Int:=⟨1,fun x=>[pI .i64 x],fun _=>rfl⟩
def cB:Cd Bool:=⟨1,fun x=>[pB x],fun _=>rfl⟩
def bJ {α:Type} (C:Cd α):Cd (List α):=⟨1,fun x=>[pS C x],fun _=>rfl⟩
structure aE where
 neg:Bool
 d:List Int
 deriving DecidableEq,Inhabited
def aE.e (x:aE):List CP:=[pB x.neg,pS cI x.d]
structure aK where
 p:aE
 q:aE
 deriving DecidableEq,Inhabited
def aK.e (x:aK):List CP:=[pB x.p.neg,pS cI x.p.d,pB x.q.neg,pS cI x.q.d]
def aK.c:Cd aK:=⟨4,aK.e,fun _=>rfl⟩
theorem mkB {P:Program} {t:Nat} {z:Value} {fs:Array Field} {pl:List (Nat×Nat)} {zs:List CP} (hz:(P.info? t).map (·.zero)=some (some z)) (hu:P.underlying t=some (.struct fs))
  (hp:fs.toList.mapM (fun f=>(P.info? f.type).map fun i=>(f.offset,i.size))=some pl) (hzs:∀M,bB M zs z.cells.toList):TyB P t pl zs:=by
 refine⟨z,(pl.toArray[·]?),fun parts=>?_,fun i _=>by simp,hzs⟩
 cases hi:P.info? t with
 |none=>rw [hi] at hz;simp at hz
 |some it=>
  rw [hi] at hz
  simp only [Option.map_some,Option.some.injEq] at hz
  simp only [Program.built,hi,hu,hz,hp]
end Go.Proofs.YtolfcbpgmfbgmaaGreat
set_option linter.unusedVariables false
namespace Go.Proofs.YtolfcbpgmfbgmaaGreat
/-- A slice's block, length and room. -/
abbrev rK:Type:=Option Nat×Nat×Nat
def gA (gs:List rK) (k:Nat):rK:=gs.getD k (none,0,0)
def cH (gs:List rK):Cd Nat:=⟨1,fun k=>[pO (gA gs k).1 (gA gs k).2.1 (gA gs k).2.2],fun _=>rfl⟩
def eD {α:Type} (C:Cd α) (T:Nat):List rK→List (List α)→List HA
 |g::gs,r::rs=>hO C g.1 g.2.2 T g.2.1 r::eD C T gs rs
 |_,_=>[]
theorem aKG {α:Type} {C:Cd α} {T:Nat}:∀{gs:List rK} {rs:List (List α)} {k:Nat} {r:List α},gs.length=rs.length→rs[k]?=some r→(eD C T gs rs)[k]?=some (hO C (gA gs k).1 (gA gs k).2.2 T (gA gs k).2.1 r)
 |[],[],k,r,_,h=>by simp at h
 |g::gs,x::rs,0,r,_,h=>by simp at h;subst h;rfl
 |g::gs,x::rs,k+1,r,hl,h=>by
  have:=aKG (C:=C) (T:=T) (gs:=gs) (rs:=rs) (k:=k) (r:=r) (by simpa using hl) (by simpa using h)
  simpa [eD,gA] using this
 |[],_::_,_,_,hl,_=>by simp at hl
 |_::_,[],_,_,hl,_=>by simp at hl
theorem aLW {α:Type} {C:Cd α} {T:Nat}:∀{gs:List rK} {rs:List (List α)} {k:Nat} {r:List α},gs.length=rs.length→(eD C T gs rs).set k (hO C (gA gs k).1 (gA gs k).2.2 T (gA gs k).2.1 r)=eD C T gs (rs.set k r)
 |[],[],k,r,_=>by simp [eD]
 |g::gs,x::rs,0,r,_=>rfl
 |g::gs,x::rs,k+1,r,hl=>by
  have:=aLW (C:=C) (T:=T) (gs:=gs) (rs:=rs) (k:=k) (r:=r) (by simpa using hl)
  simp only [eD,List.set_cons_succ]
  rw [←this];rfl
 |[],_::_,_,_,hl=>by simp at hl
 |_::_,[],_,_,hl=>by simp at hl
theorem aH0 {α:Type} {C:Cd α} {T:Nat}:∀{gs:List rK} {rs:List (List α)},gs.length=rs.length→(eD C T gs rs).length=rs.length
 |[],[],_=>rfl
 |g::gs,x::rs,hl=>by simp [eD,aH0 (C:=C) (T:=T) (gs:=gs) (rs:=rs) (by simpa using hl)]
 |[],_::_,hl=>by simp at hl
 |_::_,[],hl=>by simp at hl
theorem aGC {α:Type} {C:Cd α} {T:Nat} (g:rK) (r:List α):∀{gs:List rK} {rs:List (List α)},gs.length=rs.length→eD C T (gs++[g]) (rs++[r])=eD C T gs rs++[hO C g.1 g.2.2 T g.2.1 r]
 |[],[],_=>rfl
 |y::gs,x::rs,hl=>by simp [eD,aGC g r (C:=C) (T:=T) (gs:=gs) (rs:=rs) (by simpa using hl)]
 |[],_::_,hl=>by simp at hl
 |_::_,[],hl=>by simp at hl
theorem aPy {gs:List rK} (g:rK) {xs:List Nat} (h:∀k∈xs,k<gs.length):flat (cH (gs++[g])) xs=flat (cH gs) xs:=by
 induction xs with
 |nil=>rfl
 |cons k xs ih=>
  have hk:gA (gs++[g]) k=gA gs k:=by
   unfold gA
   simp only [List.getD_eq_getElem?_getD]
   rw [List.getElem?_append_left (h k (by simp))]
  have e1:(cH (gs++[g])).e k=(cH gs).e k:=by simp only [cH,hk]
  have:=ih fun j hj=>h j (by simp [hj])
  simp only [flat,List.flatMap_cons] at this ⊢
  rw [e1,this]
theorem aSG {H:List HA} {e:HA} {k:Nat} (m:Nat) {R:List HA} (hd:H.drop m=R) (h:R[k]?=some e):H[m+k]?=some e:=by
 subst hd
 rw [←h,List.getElem?_drop]
theorem aNn:∀(m:Nat) {H R:List HA} {k:Nat} {x:HA},H.drop m=R→k<R.length→aAi H (m+k) x=some (H.take m++R.set k x)
 |0,H,R,k,x,hd,hk=>by
  simp only [List.drop_zero] at hd
  subst hd
  simp only [Nat.zero_add,List.take_zero,List.nil_append]
  have key:∀(H:List HA) (i:Nat) (x:HA),i<H.length→aAi H i x=some (H.set i x):=by
   intro H
   induction H with
   |nil=>intro i x h;simp at h
   |cons e H ih=>
    intro i x h
    cases i with
    |zero=>rfl
    |succ i=>simp [aAi,ih i x (by simpa using h)]
  exact key H k x hk
 |m+1,[],R,k,x,hd,hk=>by simp at hd;subst hd;simp at hk
 |m+1,e::H,R,k,x,hd,hk=>by
  have:=aNn m (H:=H) (R:=R) (k:=k) (x:=x) (by simpa using hd) hk
  rw [show m+1+k=(m+k)+1 by omega]
  simp [aAi,this]
theorem aPz {α:Type} {C:Cd α} {T:Nat} {gs:List rK} {rs:List (List α)} {k:Nat} {r:List α} (A:List HA) (hl:gs.length=rs.length) (h:rs[k]?=some r):(eD C T gs rs++A)[k]?=some (hO C (gA gs k).1 (gA gs k).2.2 T (gA gs k).2.1 r):=by
 have hk:=(List.getElem?_eq_some_iff.1 h).1
 rw [List.getElem?_append_left (by rw [aH0 hl];exact hk)]
 exact aKG hl h
def w7 {α:Type} (rs:List (List α)) (xs:List Nat):List (List α):=xs.map fun k=>rs.getD k []
theorem sP {α:Type} (rs:List (List α)) (xs:List Nat):(w7 rs xs).length=xs.length:=by simp [w7]
def cJ {α:Type} (gs:List rK) (rs:List (List α)):Prop:=gs.length=rs.length∧∀k r,rs[k]?=some r→r.length=(gA gs k).2.1
theorem aFD {α:Type} {rs:List (List α)} {N k:Nat} (h:rs.length=N) (hk:k<N):rs[k]?=some (rs.getD k []):=by
 have:k<rs.length:=by omega
 simp [List.getD_eq_getElem?_getD,List.getElem?_eq_getElem this]
theorem aO {α:Type} {xs:List α} {j:Int} {z:α} (h:bF xs j=some z):z∈xs:=by
 obtain⟨_,_,hz⟩:=aD h
 exact List.mem_of_getElem? hz
theorem yI {α:Type} {rs:List (List α)} {N:Nat} {xs:List Nat} (h:rs.length=N) (hx:∀k∈xs,k<N):∀k∈xs,k<rs.length:=fun k hk=>h▸hx k hk
theorem aBR {α:Type} {rs:List (List α)} {N k:Nat} {r:List α} (h:rs.length=N):(rs.set k r).length=N:=by simpa using h
theorem aDI {α:Type} {gs:List rK} {rs:List (List α)} {N k:Nat} {r:List α} (hl:cJ gs rs) (h:rs.length=N) (hk:k<N) (hr:r.length=(rs.getD k []).length):cJ gs (rs.set k r):=by
 refine⟨by simpa using hl.1,fun j x hj=>?_⟩
 rw [List.getElem?_set] at hj
 split at hj
 ·rename_i e;subst e
  split at hj
  ·simp only [Option.some.injEq] at hj
   subst hj
   rw [hr];exact hl.2 _ _ (aFD h hk)
  ·cases hj
 ·exact hl.2 j x hj
theorem aKw {xs ys:List Nat} {N k:Nat} {j:Int} (hx:∀k∈xs,k<N) (h:qL xs j k=some ys) (hk:k<N):∀i∈ys,i<N:=by
 unfold qL at h
 split at h
 ·simp only [Option.some.injEq] at h
  subst h
  intro i hi
  rcases List.mem_or_eq_of_mem_set hi with h1|h1
  ·exact hx i h1
  ·rw [h1];exact hk
 ·cases h
theorem aIw {α:Type} {rs:List (List α)} {xs ys:List Nat} {N:Nat} (hx:∀k∈xs,k<N) (hl:rs.length=N) (h:oG xs [rs.length]=some ys):∀k∈ys,k<N+1:=by
 unfold oG at h
 split at h
 ·simp only [Option.some.injEq] at h
  subst h
  intro k hk
  rcases List.mem_append.1 hk with h1|h1
  ·have:=hx k h1;omega
  ·simp at h1;omega
 ·cases h
theorem aDa {α:Type}:cJ [] ([]:List (List α)):=⟨rfl,fun k r h=>by simp at h⟩
theorem aAB {α:Type} {gs:List rK} {rs:List (List α)} {g:rK} {r:List α} (hl:cJ gs rs) (hr:r.length=g.2.1):cJ (gs++[g]) (rs++[r]):=by
 refine⟨by simp [hl.1],fun k x hk=>?_⟩
 rw [List.getElem?_append] at hk
 unfold gA
 rw [List.getD_eq_getElem?_getD,List.getElem?_append]
 split at hk
 ·rename_i hlt
  rw [if_pos (by rw [hl.1];exact hlt)]
  have:=hl.2 k x hk
  unfold gA at this
  rwa [List.getD_eq_getElem?_getD] at this
 ·rename_i hge
  rw [if_neg (by rw [hl.1];exact hge),hl.1]
  by_cases e:k-rs.length=0
  ·rw [e] at hk ⊢;simp at hk ⊢;rw [←hk];exact hr
  ·obtain⟨q,hq⟩:=Nat.exists_eq_succ_of_ne_zero e
   rw [hq] at hk;simp at hk
theorem aCM {α:Type} {rs:List (List α)} {N:Nat} {r:List α} (h:rs.length=N):(rs++[r]).length=N+1:=by simp [h]
theorem stN {α:Type} {C:Cd α} {T N k:Nat} {H:List HA} {gs:List rK} {rs:List (List α)} {r:List α} (m:Nat) (hd:H.drop m=eD C T gs rs) (hl:cJ gs rs) (h:rs.length=N) (hk:k<N):aAi H (m+k) (hO C (gA gs k).1 (gA gs k).2.2 T (gA gs k).2.1 r)=some (H.take m++eD C T gs (rs.set k r)):=by
 rw [aNn m hd (by rw [aH0 hl.1];omega),aLW hl.1]
section
variable {S:Sx} {κ:Kt} {H H':List HA} {E:sN} {ops:Array Oper} {rest:List Oper} {o:Oper}
theorem aKo {α:Type} {C:Cd α} {xs:List α} {n c:Nat} {β:Option Nat} {M M':jI} {v:Value} (hn:xs.length=n) (h:(pO β n c).h M v) (hS:(pS C xs).h M' (sv β n c)):(pS C xs).h M' v:=by
 rcases h with rfl|⟨_,h0,_,a0,rfl⟩
 ·exact hS
 ·have hx:xs=[]:=List.eq_nil_of_length_eq_zero (hn.trans h0)
  subst hx
  exact⟨_,_,rfl,by simp,by simp,fun j x hj=>by simp at hj⟩
theorem St.frz_inn {α:Type} {C:Cd α} {T:Nat} {w:World} {pre:List HA}:∀{gs:List rK} {rs:List (List α)} {M:jI},cJ gs rs→St S M w (pre++eD C T gs rs)→
  ∃M',oX M M'∧St S M' w pre∧∀k r,rs[k]?=some r→(pS C r).h M' (sv (gA gs k).1 (gA gs k).2.1 (gA gs k).2.2)
 |[],[],M,_,h=>⟨M,oX.refl M,by simpa [eD] using h,fun k r hk=>by simp at hk⟩
 |g::gs,x::rs,M,hl,h=>by
  have h0:=hl.2 0 x rfl
  obtain⟨M1,g1,g2,g3⟩:=h.frzv (i:=pre.length) (C:=C) (xs:=x) (β:=g.1) (c:=g.2.2) (T:=T) (n:=g.2.1) (by simp [eD]) h0
  have he:(pre++eD C T (g::gs) (x::rs)).eraseIdx pre.length=pre++eD C T gs rs:=by
   rw [List.eraseIdx_append_of_length_le (Nat.le_refl _)];simp [eD]
  rw [he] at g2
  obtain⟨M2,k1,k2,k3⟩:=St.frz_inn (gs:=gs) (rs:=rs) ⟨by simpa using hl.1,fun k r hk=>by
   have:=hl.2 (k+1) r (by simpa using hk)
   simpa [gA] using this⟩ g2
  refine⟨M2,g1.trans k1,k2,fun k r hk=>?_⟩
  cases k with
  |zero=>simp at hk;subst hk;exact(pS C x).mono k1 g3
  |succ k=>have:=k3 k r (by simpa using hk);simpa [gA] using this
 |[],_::_,_,hl,_=>by have:=hl.1;simp at this
 |_::_,[],_,hl,_=>by have:=hl.1;simp at this
theorem aH1 {α:Type} {C:Cd α} {gs:List rK} {rs:List (List α)} {M M':jI} (hl:cJ gs rs) (hf:∀k r,rs[k]?=some r→(pS C r).h M' (sv (gA gs k).1 (gA gs k).2.1 (gA gs k).2.2)):∀{xs:List Nat} {vs:List Value},(∀k∈xs,k<rs.length)→bB M (flat (cH gs) xs) vs→bB M' (flat (bJ C) (w7 rs xs)) vs
 |[],[],_,_=>trivial
 |[],_::_,_,h=>h.elim
 |k::xs,[],_,h=>h.elim
 |k::xs,v::vs,hx,h=>by
  have hk:=hx k (by simp)
  have hr:rs[k]?=some rs[k]:=List.getElem?_eq_getElem hk
  refine⟨?_,aH1 hl hf (fun j hj=>hx j (by simp [hj])) h.2⟩
  have h1:(pO (gA gs k).1 (gA gs k).2.1 (gA gs k).2.2).h M v:=h.1
  have e1:rs.getD k []=rs[k]:=by simp [List.getD_eq_getElem?_getD,hr]
  show(pS C (rs.getD k [])).h M' v
  rw [e1]
  exact aKo (hl.2 k _ hr) h1 (hf k _ hr)
theorem aER {α:Type} {C:Cd α} {T T' n c:Nat} {β:Option Nat} {gs:List rK} {rs:List (List α)} {xs:List Nat} (i m:Nat) (hd:H.drop m=eD C T gs rs) (hi:(H.take m)[i]?=some (hO (cH gs) β c T' n xs)) (hl:cJ gs rs) (hx:∀k∈xs,k<rs.length) {a:Act} {w:World} (h:hs S H E a w):
  hs S ((H.take m).set i (hO (bJ C) β c T' n (w7 rs xs))) E a w:=by
 obtain⟨M,h1,h2⟩:=h
 rw [←List.take_append_drop m H,hd] at h1
 obtain⟨M',g1,g2,g3⟩:=h1.frz_inn hl
 obtain⟨⟨vs,how,hall⟩,hnone⟩:=g2.own _ (List.mem_of_getElem? hi)
 exact⟨M',g2.put hi (aAL w _) ⟨⟨vs,how,aH1 hl g3 hx hall⟩,hnone⟩ (.inl rfl),h2.mono g1⟩
theorem aRN {α:Type} {C:Cd α} {T T' n c:Nat} {β:Option Nat} {gs:List rK} {rs:List (List α)} {xs:List Nat} (i m:Nat) (hd:H.drop m=eD C T gs rs) (hi:(H.take m)[i]?=some (hO (cH gs) β c T' n xs)) (hl:cJ gs rs) (hx:∀k∈xs,k<rs.length)
  (k:WL S ops κ rest ((H.take m).set i (hO (bJ C) β c T' n (w7 rs xs))) E):WL S ops κ rest H E:=fun a w hh=>k a w (aER i m hd hi hl hx hh)
theorem aLw {α:Type} {C:Cd α} {T T' n c:Nat} {β:Option Nat} {gs:List rK} {rs:List (List α)} {xs:List Nat} {e:Exit} (i m:Nat) (hd:H.drop m=eD C T gs rs) (hi:(H.take m)[i]?=some (hO (cH gs) β c T' n xs)) (hl:cJ gs rs) (hx:∀k∈xs,k<rs.length)
  (k:WX S e κ ((H.take m).set i (hO (bJ C) β c T' n (w7 rs xs))) E):WX S e κ H E:=fun a w hh=>k a w (aER i m hd hi hl hx hh)
theorem aDR {α:Type}:∀(l:List α) (i:Nat) (h:i<l.length),([l[i]]++l.eraseIdx i).Perm l
 |[],i,h=>by simp at h
 |x::l,0,h=>by simp
 |x::l,i+1,h=>by
  have:=aDR l i (by simpa using h)
  simp only [List.getElem_cons_succ,List.eraseIdx_cons_succ,List.singleton_append] at this ⊢
  exact(List.Perm.swap _ _ _).trans (this.cons x)
theorem aEq {α:Type} {C:Cd α} {T:Nat} {X':List HA} {gs:List rK} {rs:List (List α)} {r:List α} {g:rK} (i m:Nat) (hd:H.drop m=eD C T gs rs) (hi:(H.take m)[i]?=some (hO C g.1 g.2.2 T g.2.1 r)) (hX:aBu (H.take m) i=some X') (hl:cJ gs rs)
  (k:WL S ops κ rest (X'++eD C T (gs++[g]) (rs++[r])) E):WL S ops κ rest H E:=by
 rintro a w ⟨M,h1,h2⟩
 refine k a w ⟨M,?_,h2⟩
 rw [←List.take_append_drop m H,hd] at h1
 refine h1.perm ?_
 rw [aGC g r hl.1,aAW hX,←List.append_assoc]
 have hlt:=(List.getElem?_eq_some_iff.1 hi).1
 have e:=(List.getElem?_eq_some_iff.1 hi).2
 have p1:((H.take m).eraseIdx i++[hO C g.1 g.2.2 T g.2.1 r]).Perm (H.take m):=by
  refine List.perm_append_comm.trans ?_
  rw [←e]
  exact aDR _ _ hlt
 refine(List.Perm.trans ?_ (p1.append_right (eD C T gs rs)))
 rw [List.append_assoc,List.append_assoc]
 exact List.perm_append_comm.append_left _
theorem aPr {ins:List (Operand×VP)} {out:VP} (t:Tr S o H H ins out) (h:H'=H):Tr S o H H' ins out:=h▸t
def pC (P0:CP) (l sz:Nat):CP:=⟨fun M v=>∃p n c,P0.h M (.slice p n c)∧l≤n∧n≤c∧v=.slice (if c=l then p else p.map (·.add (l*sz))) (n-l) (c-l),
 fun hm ⟨p,n,c,h1,h2⟩=>⟨p,n,c,P0.monoc hm h1,h2⟩,fun h=>by obtain⟨p,n,c,_,_,_,rfl⟩:=h;rfl⟩
theorem aQX {t e k0 bytes n c i:Nat} {β:Option Nat} {x y:Operand} {lo:Int} {k:IntKind} {ea:HA} (ho:o.op=.slice t x (some y) none none) (ht:TyS S.P t e k0 bytes) (hi:H[i]?=some ea) (hβ:ea.β=β) (hc:ea.c=c) (hn:ea.n=n) (h0:0≤lo) (hl:lo≤(n:Int)):
  Tr S o H H [(x,.vc (pO β n c)),(y,.vc (pI k lo))] (.vc (pC (pO β n c) lo.toNat k0)):=by
 refine⟨fun M w a hs hin K Q hk=>?_⟩
 have hy:a.eval y=.int k lo:=hin.2.1
 obtain⟨it,hit,hk',_⟩:=ht.s
 obtain⟨⟨vs,how,_⟩,_⟩:=hs.own ea (List.mem_of_getElem? hi)
 rw [hβ,hc,hn] at how
 have hform:∃p cc,a.eval x=.slice p n cc∧n≤cc∧(pO β n c).h M (.slice p n cc):=by
  rcases hin.1 with hx|⟨h1,h2,h3,a0,hx⟩
  ·rcases how.2 with⟨h3,h4⟩|⟨g,cap,cur,h3,_,_,hnc,_⟩
   ·refine⟨none,0,by rw [hx,h3,h4],by omega,.inl (by rw [h3,h4])⟩
   ·exact⟨some ⟨g,0,none⟩,cap,by rw [hx,h3],hnc,.inl h3.symm⟩
  ·exact⟨some a0,0,by rw [hx,h2],by omega,.inr ⟨h1,h2,h3,a0,by rw [h2]⟩⟩
 obtain⟨p,cc,hx,hnc,hp⟩:=hform
 refine bX (v:=.slice (if cc=lo.toNat then p else p.map (·.add (lo.toNat*k0))) (n-lo.toNat) (cc-lo.toNat)) ?_ (hk _ M w (oX.refl M) hs ⟨p,n,cc,hp,by omega,hnc,rfl⟩)
 have hb:=aCo (P:=S.P) (w:=w) (k:=k) (i:=lo) (y:=n) (code:=.sliceB) h0 hl
 simp [execOp,ho,hx,hy,Instr.sliceAt,Instr.slice,Instr.sliceBounds,run_underlying ht.u,sizeOf,typeInfo,hit,hk',hb]
theorem aNO {α:Type} {C:Cd α} {T T' n c l:Nat} {β:Option Nat} {gs:List rK} {rs:List (List α)} {xs:List Nat} (i m:Nat) (A:List HA) (hd:H.drop m=eD C T gs rs++A) (hi:(H.take m)[i]?=some (hO (cH gs) β c T' n xs)) (hl:cJ gs rs) (hx:∀k∈xs,k<rs.length) (hn:xs.length=n):
  ∀M w,St S M w H→∃Mb,oX M Mb∧Mok Mb w∧∀v,(pC (pO β n c) l 1).h M v→(pS (bJ C) ((w7 rs xs).drop l)).h Mb v:=by
 intro M w h
 have hp:(H.take m++eD C T gs rs).Sublist H:=by
  have:H=H.take m++(eD C T gs rs++A):=by rw [←hd,List.take_append_drop]
  conv=>rhs;rw [this]
  exact List.Sublist.append (List.Sublist.refl _) (List.sublist_append_left _ _)
 have h1:=h.sub (fun e he=>hp.subset he) ((hp.filterMap _).nodup h.nodup)
 obtain⟨M',g1,g2,g3⟩:=h1.frz_inn hl
 obtain⟨⟨vs,how,hall⟩,hnone⟩:=g2.own _ (List.mem_of_getElem? hi)
 have g4:St S M' w ((H.take m).set i (hO (bJ C) β c T' n (w7 rs xs))):=g2.put hi (aAL w _) ⟨⟨vs,how,aH1 hl g3 hx hall⟩,hnone⟩ (.inl rfl)
 have hil:=(List.getElem?_eq_some_iff.1 hi).1
 obtain⟨Mb,k1,k2,k3⟩:=g4.frzv (i:=i) (C:=bJ C) (xs:=w7 rs xs) (by rw [List.getElem?_set_self hil]) ((sP rs xs).trans hn)
 refine⟨Mb,g1.trans k1,k2.mem,fun v hv=>?_⟩
 obtain⟨p,n',c',hv1,hv2,hv3,rfl⟩:=hv
 have hS:=aKo (C:=bJ C) (M':=Mb) ((sP rs xs).trans hn) hv1 k3
 have hn':n'=(w7 rs xs).length:=by
  obtain⟨_,_,e,_⟩:=hS
  simp only [Value.slice.injEq] at e
  exact e.2.1
 subst hn'
 have:=aEU (l:=l) (h:=(w7 rs xs).length) (m:=c') hS hv2 (Nat.le_refl _) hv3 (Nat.le_refl _)
 rwa [List.take_of_length_le (by simp)] at this
theorem St.split {M:jI} {w:World} {X X' R:List HA} {l:List Nat} (h:St S M w (X++R)) (hp:cE X l=some X') (hl:l.Nodup):St S M w (X'++R):=by
 have hn:=h.nodup
 rw [List.filterMap_append] at hn
 obtain⟨n1,n2,n3⟩:=List.nodup_append.1 hn
 have hX:St S M w X:=h.sub (fun e he=>List.mem_append.2 (.inl he)) n1
 have hX':=hX.pick hp hl
 have hm:∀e∈X',e∈X:=fun e he=>by
  obtain⟨j,hj⟩:=List.getElem?_of_mem he
  obtain⟨i,_,hi⟩:=mI hp j e hj
  exact List.mem_of_getElem? hi
 refine h.sub (fun e he=>?_) ?_
 ·rcases List.mem_append.1 he with he|he
  ·exact List.mem_append.2 (.inl (hm e he))
  ·exact List.mem_append.2 (.inr he)
 ·rw [List.filterMap_append]
  refine List.nodup_append.2 ⟨hX'.nodup,n2,fun x hx y hy=>n3 x ?_ y hy⟩
  obtain⟨e,he,heb⟩:=List.mem_filterMap.1 hx
  exact List.mem_filterMap.2 ⟨e,hm e he,heb⟩
theorem aR {X' R:List HA} {E':sN} (m:Nat) (l:List Nat) (hd:H.drop m=R) (hp:cE (H.take m) l=some X') (hl:l.Nodup) (hE:aGO E E') {a:Act} {w:World} (h:hs S H E a w):hs S (X'++R) E' a w:=by
 obtain⟨M,h1,h2⟩:=h
 rw [←List.take_append_drop m H,hd] at h1
 exact⟨M,h1.split hp hl,h2.size,h2.defers,fun d p hd=>h2.get d p (hE.get d p hd)⟩
theorem eJ {PJ:List HA→sN→Prop} {X' R:List HA} {E':sN} (J:∀H E,PJ H E→WX S .normal κ H E) (h:PJ (X'++R) E') (m:Nat) (l:List Nat) (hd:H.drop m=R) (hp:cE (H.take m) l=some X') (hE:aGO E E') (hl:l.Nodup:=by decide):WX S .normal κ H E:=
 fun a w hh=>J _ _ h a w (aR m l hd hp hl hE hh)
theorem zE {X A B:List HA}:∀{is js:List Nat},cE X is=some A→cE X js=some B→cE X (is++js)=some (A++B)
 |[],js,h1,h2=>by simp [cE] at h1;subst h1;simpa using h2
 |i::is,js,h1,h2=>by
  simp only [cE] at h1
  cases hi:X[i]? with
  |none=>rw [hi] at h1;simp at h1
  |some e=>
   cases hr:cE X is with
   |none=>rw [hi,hr] at h1;simp at h1
   |some A'=>
    rw [hi,hr] at h1
    simp only [Option.some.injEq] at h1
    subst h1
    have:=zE hr h2
    simp [cE,hi,this]
theorem aNX {f d:Nat} {cs:List CP} {A B R:List HA} {pre:List VP} {post:List HA→VP→Prop} {xs:List Operand} {y:Operand} {ts:Array TypeId} (m:Nat) (is js:List Nat) (ho:o.op=.call {callee:=.value y,args:=xs.toArray,argTypes:=ts}) (c:CtO S.P f (A++R) (pre++cs.map .vc) post) (hi:yD E ((y,.vc (pF f cs))::xs.zip pre)) (hR:H.drop m=R) (h1:cE (H.take m) is=some A) (h2:cE (H.take m) js=some B) (hn:(is++js).Nodup)
  (k:∀Ho q,post Ho q→WL S ops κ rest (Ho++B) ((d,q)::E)) (hl:xs.length=pre.length:=by rfl)
  (hd:o.dst=some d:=by rfl) (hg:o.guard=none:=by rfl) (hN:Nat.blt d S.N=true:=by rfl):WL S ops κ (o::rest) H E:=by
 have key:WL S ops κ (o::rest) ((A++R)++B) E:=by
  refine aJd (List.range' 0 (A++R).length) (List.range' (A++R).length B.length) ho c hi ?_ (zH B _ _ rfl) ?_ k hl hd hg hN
  ·have:=zH (A++R) 0 [] rfl
   have e:∀(X Y:List HA) (l:List Nat) (Z:List HA),cE X l=some Z→cE (X++Y) l=some Z:=by
    intro X Y l
    induction l with
    |nil=>intro Z hz;simpa [cE] using hz
    |cons i l ih=>
     intro Z hz
     simp only [cE] at hz
     cases hxi:X[i]? with
     |none=>rw [hxi] at hz;simp at hz
     |some e=>
      cases hr:cE X l with
      |none=>rw [hxi,hr] at hz;simp at hz
      |some Z'=>
       rw [hxi,hr] at hz
       have hlt:=(List.getElem?_eq_some_iff.1 hxi).1
       simp only [cE,List.getElem?_append_left hlt,hxi,ih _ hr]
       exact hz
   exact e _ _ _ _ (by simpa using this)
  ·rw [List.nodup_append]
   refine⟨List.nodup_range',List.nodup_range',fun x hx y hy=>?_⟩
   simp only [List.mem_range'_1] at hx hy
   omega
 rintro a w ⟨M,h3,h4⟩
 rw [←List.take_append_drop m H,hR] at h3
 have h5:=h3.split (zE h1 h2) hn
 refine key a w ⟨M,h5.perm ?_,h4⟩
 rw [List.append_assoc,List.append_assoc]
 exact(List.perm_append_comm).append_left A
end
end Go.Proofs.YtolfcbpgmfbgmaaGreat
set_option linter.unusedVariables false
namespace Go.Proofs.YtolfcbpgmfbgmaaGreat
/-- A row's place, and its length. -/
theorem rV {α:Type} {C:Cd α} {T N k:Nat} {H:List HA} {gs:List rK} {rs:List (List α)} (m:Nat) (hd:H.drop m=eD C T gs rs) (hl:cJ gs rs) (h:rs.length=N) (hk:k<N):H[m+k]?=some (hO C (gA gs k).1 (gA gs k).2.2 T (gA gs k).2.1 (rs.getD k [])):=
 aSG m hd (aKG hl.1 (aFD h hk))
theorem gW {α:Type} {C:Cd α} {T N k:Nat} {H A:List HA} {gs:List rK} {rs:List (List α)} (m:Nat) (hd:H.drop m=eD C T gs rs++A) (hl:cJ gs rs) (h:rs.length=N) (hk:k<N):H[m+k]?=some (hO C (gA gs k).1 (gA gs k).2.2 T (gA gs k).2.1 (rs.getD k [])):=
 aSG m hd (aPz A hl.1 (aFD h hk))
theorem cR {α:Type} {N k:Nat} {gs:List rK} {rs:List (List α)} (hl:cJ gs rs) (h:rs.length=N) (hk:k<N):(rs.getD k []).length=(gA gs k).2.1:=hl.2 _ _ (aFD h hk)
theorem aKg {α:Type} {ys zs:List α} {lo:Int} (h:slL ys lo (ys.length:Int)=some zs):0≤lo∧lo≤(ys.length:Int)∧zs=ys.drop lo.toNat:=by
 unfold slL at h
 split at h
 ·rename_i hc
  refine⟨hc.1,hc.2.1,?_⟩
  have:=Option.some.inj h
  rw [←this,List.take_of_length_le (by simp)]
 ·cases h
theorem aRe {α:Type} {rs:List (List α)} {xs:List Nat} {zs:List (List α)} {n:Nat} {lo:Int} (h:slL (w7 rs xs) lo ((w7 rs xs).length:Int)=some zs) (hn:xs.length=n):lo≤(n:Int):=by
 have:=(aKg h).2.1
 rw [sP,hn] at this;exact this
theorem aF1 {gs:List rK} {N:Nat} (g:rK) (h:gs.length=N):gA (gs++[g]) N=g:=by
 subst h;simp [gA]
section
variable {S:Sx} {κ:Kt} {H H':List HA} {E:sN} {ops:Array Oper} {rest:List Oper} {o:Oper}
theorem aNx {α:Type} {C:Cd α} {T T' n c:Nat} {β:Option Nat} {gs:List rK} {rs:List (List α)} {xs:List Nat} {cd:Code} (i m:Nat) (hd:H.drop m=eD C T gs rs) (hi:(H.take m)[i]?=some (hO (cH gs) β c T' n xs)) (hl:cJ gs rs) (hx:∀k∈xs,k<rs.length)
  (k:WC S cd κ ((H.take m).set i (hO (bJ C) β c T' n (w7 rs xs))) E):WC S cd κ H E:=fun a w hh=>k a w (aER i m hd hi hl hx hh)
theorem aFF {α:Type} (C:Cd α) (T:Nat) (k:WL S ops κ rest (H++eD C T [] []) E):WL S ops κ rest H E:=by simpa [eD] using k
theorem aSR {α:Type} {C:Cd α} {P1:CP} {zs ys:List (List α)} {q:List VP} (hz:zs=ys) (hlend:∀M w,St S M w H→∃Mb,oX M Mb∧Mok Mb w∧∀v,P1.h M v→(pS (bJ C) ys).h Mb v):
  ∀M w,St S M w H→∃Mb,oX M Mb∧Mok Mb w∧∀vs,lG M (.vc P1::q) vs→lG Mb (.vc (pS (bJ C) zs)::q) vs:=by
 subst hz
 intro M w h
 obtain⟨Mb,h1,h2,h3⟩:=hlend M w h
 refine⟨Mb,h1,h2,fun vs hvs=>?_⟩
 have mono:∀{ps:List VP} {us:List Value},lG M ps us→lG Mb ps us:=by
  intro ps
  induction ps with
  |nil=>intro us hu;cases us with
   |nil=>trivial
   |cons=>exact hu.elim
  |cons p ps ih=>intro us hu;cases us with
   |nil=>exact hu.elim
   |cons u us=>exact⟨VP.mono h1 hu.1,ih hu.2⟩
 cases vs with
 |nil=>exact hvs.elim
 |cons v vs=>exact⟨h3 v hvs.1,mono hvs.2⟩
theorem jS (X R B:List HA):((X++B)++R).Perm ((X++R)++B):=by
 rw [List.append_assoc,List.append_assoc]
 exact List.perm_append_comm.append_left X
theorem aGo {T c n:Nat} {β:Option Nat} {gs:List rK} {xs:List Nat} {N:Nat} (g:rK) (hN:gs.length=N) (hx:∀k∈xs,k<N):hO (cH (gs++[g])) β c T n xs=hO (cH gs) β c T n xs:=by
 show HA.mk β c T _ n _=HA.mk β c T _ n _
 rw [aPy g (fun k hk=>hN▸hx k hk)];rfl
theorem aOK {gs:List rK} {N:Nat} (b:Option Nat) (n c:Nat) (h:gs.length=N):VE (cH (gs++[(b,n,c)])) (.vc (pO b n c)) N:=⟨trivial,by show [_]=[_];rw [aF1 _ h]⟩
theorem aLG {t e bytes:Nat} {x:Operand} {gs:List rK} {α:Type} {rs:List (List α)} {b:Option Nat} {n c:Nat} (ho:o.op=.buildSlice t 1 ((List.range' 0 1).zip [x]).toArray) (ht:TyS S.P t e 1 bytes) (hl:gs.length=rs.length) (h:H'=H):
  Tr S o H H' [(x,.vc (pO b n c))] (.vc (pS (cH (gs++[(b,n,c)])) [rs.length])):=
 aPr (eR (C:=cH (gs++[(b,n,c)])) (xs:=[x]) (ps:=[.vc (pO b n c)]) (zs:=[rs.length]) ho ht rfl ⟨aOK b n c hl,trivial⟩ rfl) h
structure TyG (P:Program) (s f off ft:Nat):Prop where
 u:∃fs fd,P.underlying s=some (.struct fs)∧fs[f]?=some fd∧fd.offset=off∧fd.type=ft
 o:Ty1 P ft
theorem aRW {s f off ft:Nat} {x:Operand} {ps:List CP} {p:CP} (ho:o.op=.field s x f) (hf:TyG S.P s f off ft) (hp:ps[off]?=some p):Tr S o H H [(x,.va ps)] (.vc p):=by
 refine⟨fun M w a h hin K Q hkk=>?_⟩
 obtain⟨vs,hx,hall⟩:=hin.1
 obtain⟨fs,fd,hu,hfd,hoff,hft⟩:=hf.u
 obtain⟨v,hv,hpv⟩:=bB.at off hall hp
 obtain⟨d,hd,ha⟩:=hf.o.u
 refine bX (v:=v) ?_ (hkk _ M w (oX.refl M) h hpv)
 subst hoff hft
 simp [execOp,ho,hx,Instr.field,run_underlying hu,hfd,part,aES hd,ha,asAgg,hv]
theorem jT {P:Program} {fn:Func} {w0:World} {M0:jI} {B:List Nat} {post:List HA→VP→Prop} {N:NX} {e:Exit} {rs:List ResultVar} {ps:List VP} {R Ho:List HA} (he:e=.ret∨e=.normal) (hrs:fn.results=rs.toArray) (hv:RVs ⟨P,w0,M0,B,N⟩ H E rs ps) (hl:Nat.ble ps.length 4=true)
  (m:Nat) (is:List Nat) (hd:H.drop m=R) (hp:cE (H.take m) is=some Ho) (hn:is.Nodup) (hpost:post (Ho++R) (aKc ps)) (hfr:∀D,N.fr D→w0.heap.size≤D∧M0 D=none:=by exact fun _ h=>h):
  WX ⟨P,w0,M0,B,N⟩ e (.base (aGf P fn (Rp P w0 M0 B post))) H E:=by
 intro a w hh
 have key:=aGl hrs hv hl hfr hh fun M w h1=>by
  rw [←List.take_append_drop m H,hd] at h1
  exact⟨Ho++R,hpost,h1.split hp hn⟩
 rcases he with rfl|rfl<;>exact key
theorem aSc (h:H'=H) (k:WL S ops κ rest H' E):WL S ops κ rest H E:=h▸k
theorem aNI {gs:List rK} {N z:Nat} (g:rK) (h:gs.length=N):yX ((cH (gs++[g])).e z) 0 [pO g.1 g.2.1 g.2.2]=some ((cH (gs++[g])).e N):=by
 show some [_]=some [_]
 rw [aF1 g h]
theorem wU {xs ys:List Nat} {N k:Nat} {j:Int} (hx:∀k∈xs,k<N) (h:qL xs j k=some ys) (hk:k=N):∀i∈ys,i<N+1:=
 aKw (fun i hi=>Nat.lt_succ_of_lt (hx i hi)) h (by omega)
end
end Go.Proofs.YtolfcbpgmfbgmaaGreat
set_option linter.unusedVariables false
namespace Go.Proofs.YtolfcbpgmfbgmaaGreat
/-- A function of the program, known by what it computes. -/
theorem aRL {P:Program} {α ρ:Type} {pre:α→List VP} {post:ρ→VP} {φ:α→Option ρ} {f:Nat} (h:∀x r,φ x=some r→Ct P f (pre x) (post r)):∀M,(VP.vc (pFn P pre post φ)).h M (.func (.func f) #[] #[]):=
 fun M=>⟨rfl,fun x r hr=>⟨f,[],k_F f M,by simpa using h x r hr⟩⟩
section
variable {S:Sx} {κ:Kt} {H H':List HA} {E:sN} {ops:Array Oper} {rest:List Oper} {o:Oper}
theorem aFU {X Y:List HA}:∀(l:List Nat) (Z:List HA),cE X l=some Z→cE (X++Y) l=some Z
 |[],Z,h=>by simpa [cE] using h
 |i::l,Z,h=>by
  simp only [cE] at h
  cases hxi:X[i]? with
  |none=>rw [hxi] at h;simp at h
  |some e=>
   cases hr:cE X l with
   |none=>rw [hxi,hr] at h;simp at h
   |some Z'=>
    rw [hxi,hr] at h
    have hlt:=(List.getElem?_eq_some_iff.1 hxi).1
    simp only [cE,List.getElem?_append_left hlt,hxi,aFU l _ hr]
    exact h
theorem aCt (X Y:List HA):cE (X++Y) (List.range' 0 X.length)=some X∧cE (X++Y) (List.range' X.length Y.length)=some Y∧(List.range' 0 X.length++List.range' X.length Y.length).Nodup:=by
 refine⟨?_,zH Y _ _ rfl,?_⟩
 ·have:=zH X 0 [] rfl
  exact aFU _ _ (by simpa using this)
 ·rw [List.nodup_append]
  refine⟨List.nodup_range',List.nodup_range',fun x hx y hy=>?_⟩
  simp only [List.mem_range'_1] at hx hy
  omega
theorem aKb {c:CP} {x:Operand} (hc:∀M v,c.h M v→∃a,v=.pointer (some a)) (ho:o.op=.nilCheck x):Tr S o H H [(x,.vc c)] (.vc c):=
 ⟨fun M w a h hi K Q hk=>by
  obtain⟨p,hp⟩:=hc M _ hi.1
  exact bX (v:=a.eval x) (w':=w) (by simp [execOp,ho,hp]) (hk _ M w (oX.refl M) h hi.1)⟩
theorem s9 {β:Option Nat} {off:Nat} {x:Operand} (ho:o.op=.nilCheck x):Tr S o H H [(x,.vc (pP β off))] (.vc (pP β off)):=aKb (fun _ _ ⟨_,_,e⟩=>⟨_,e⟩) ho
theorem aOx {β:Option Nat} {j:Int} {n f:Nat} {x:Operand} (ho:o.op=.nilCheck x):Tr S o H H [(x,.vc (pE β j n f))] (.vc (pE β j n f)):=aKb (fun _ _ ⟨_,_,e⟩=>⟨_,e⟩) ho
theorem aM3 {ps:List CP} {x:Operand} (ho:o.op=.nilCheck x):Tr S o H H [(x,.vc (pM ps))] (.vc (pM ps)):=aKb (fun _ _ ⟨_,_,e,_⟩=>⟨_,e⟩) ho
theorem o7 {f d:Nat} {A B R:List HA} {pre:List VP} {post:List HA→VP→Prop} {xs:List Operand} {ts:Array TypeId} (m:Nat) (is js:List Nat) (ho:o.op=.call {callee:=.value (.func f),args:=xs.toArray,argTypes:=ts}) (c:CtO S.P f (A++R) pre post) (hi:yD E (xs.zip pre)) (hR:H.drop m=R) (h1:cE (H.take m) is=some A) (h2:cE (H.take m) js=some B) (hn:(is++js).Nodup)
  (k:∀Ho q,post Ho q→WL S ops κ rest (Ho++B) ((d,q)::E)) (hl:xs.length=pre.length:=by rfl)
  (hd:o.dst=some d:=by rfl) (hg:o.guard=none:=by rfl) (hN:Nat.blt d S.N=true:=by rfl):WL S ops κ (o::rest) H E:=by
 obtain⟨p1,p2,p3⟩:=aCt (A++R) B
 have key:WL S ops κ (o::rest) ((A++R)++B) E:=aFC _ _ ho c hi p1 p2 p3 k hl hd hg hN
 rintro a w ⟨M,h3,h4⟩
 rw [←List.take_append_drop m H,hR] at h3
 have h5:=h3.split (zE h1 h2) hn
 refine key a w ⟨M,h5.perm ?_,h4⟩
 rw [List.append_assoc,List.append_assoc]
 exact(List.perm_append_comm).append_left A
theorem aJr {f:Nat} {L A A1 B R:List HA} {pre:List VP} {q:VP} {xs:List Operand} {ts:Array TypeId} (m:Nat) (is js ks:List Nat) (ho:o.op=.call {callee:=.value (.func f),args:=xs.toArray,argTypes:=ts}) (c:CtO S.P f (A1++R) pre (fun Ho p=>Ho=A1++R∧p=q)) (hR:L.drop m=R) (h1:cE (L.take m) is=some A1) (h2:cE (L.take m) js=some B) (h3:cE (A1++B) ks=some (L.take m)) (hn:(is++js).Nodup) (hk:ks.Nodup) (hl:xs.length=pre.length):
  Tr S o (L++A) (L++A) (xs.zip pre) q:=by
 refine⟨fun M w a h hin K Q hkk=>?_⟩
 have hall:=lG.of_ins hl hin
 have e0:L++A=L.take m++(R++A):=by rw [←hR,←List.append_assoc,List.take_append_drop]
 rw [e0] at h hkk
 have g1:St S M w ((A1++B)++(R++A)):=h.split (zE h1 h2) hn
 have pp:List.Perm ((A1++R)++(B++A)) ((A1++B)++(R++A)):=by
  rw [List.append_assoc,List.append_assoc,←List.append_assoc R,←List.append_assoc B]
  exact((List.perm_append_comm).append_right A).append_left A1
 have g2:=g1.perm pp
 obtain⟨p1,p2,p3⟩:=aCt (A1++R) (B++A)
 have gin:St S M w (A1++R):=g2.pick p1 (List.nodup_append.1 p3).1
 refine yO (f:=f) (args:=(xs.map a.eval).toArray) ?_ (c.run M w _ g2.mem gin.own gin.nodup hall) fun e w' hr=>?_
 ·simp [execOp,ho,resolve,Deferred.ofValue,Act.eval,invoke,oY c.ok]
 ·obtain⟨v,M',Ho,q',⟨rfl,rfl⟩,rfl,hst',hq⟩:=hr
  have g3:St S M' w' ((A1++R)++(B++A)):=g2.call p1 p2 p3 hst'
  exact⟨v,rfl,hkk v M' w' hst'.le0 ((g3.perm pp.symm).split h3 hk) hq⟩
theorem aMs {f:Nat} {A1 B R:List HA} {pre:List VP} {q:VP} {xs:List Operand} {ts:Array TypeId} (m:Nat) (is js ks:List Nat) (ho:o.op=.call {callee:=.value (.func f),args:=xs.toArray,argTypes:=ts}) (c:CtO S.P f (A1++R) pre (fun Ho p=>Ho=A1++R∧p=q)) (hR:H.drop m=R) (h1:cE (H.take m) is=some A1) (h2:cE (H.take m) js=some B) (h3:cE (A1++B) ks=some (H.take m)) (hn:(is++js).Nodup) (hk:ks.Nodup) (hl:xs.length=pre.length):
  Tr S o H H (xs.zip pre) q:=by
 have:=aJr (A:=[]) m is js ks ho c hR h1 h2 h3 hn hk hl
 rwa [List.append_nil] at this
theorem aEI {f d:Nat} {cs:List CP} {A B R:List HA} {pre:List VP} {post:List HA→VP→Prop} {xs:List Operand} {y:Operand} {ts:Array TypeId} (m:Nat) (is js:List Nat) (ho:o.op=.call {callee:=.value y,args:=xs.toArray,argTypes:=ts}) (c:CtO S.P f A (pre++cs.map .vc) post) (hi:yD E ((y,.vc (pF f cs))::xs.zip pre)) (hR:H.drop m=R) (h1:cE (H.take m) is=some A) (h2:cE (H.take m) js=some B) (hn:(is++js).Nodup)
  (k:∀Ho q,post Ho q→WL S ops κ rest (Ho++(B++R)) ((d,q)::E)) (hl:xs.length=pre.length:=by rfl)
  (hd:o.dst=some d:=by rfl) (hg:o.guard=none:=by rfl) (hN:Nat.blt d S.N=true:=by rfl):WL S ops κ (o::rest) H E:=by
 obtain⟨p1,p2,p3⟩:=aCt A (B++R)
 have key:WL S ops κ (o::rest) (A++(B++R)) E:=aJd _ _ ho c hi p1 p2 p3 k hl hd hg hN
 rintro a w ⟨M,h3,h4⟩
 rw [←List.take_append_drop m H,hR] at h3
 have h5:=h3.split (zE h1 h2) hn
 rw [List.append_assoc] at h5
 exact key a w ⟨M,h5,h4⟩
theorem aPF {p p':VP} (d:Nat) (hl:jG E d=some p) (he:p=p') (k:WL S ops κ rest H ((d,p')::E)):WL S ops κ rest H E:=by
 subst he
 rintro a w ⟨M,h1,h2⟩
 refine k a w ⟨M,h1,h2.size,h2.defers,fun x q hx=>?_⟩
 by_cases hd:x=d
 ·subst hd
  have:jG ((x,p)::E) x=some p:=by simp [jG]
  rw [this] at hx
  cases hx
  exact h2.get x p hl
 ·refine h2.get x q ?_
  have:jG ((d,p)::E) x=jG E x:=by
   have e:Nat.beq d x=false:=by
    cases hb:Nat.beq d x
    ·rfl
    ·exact absurd (Nat.eq_of_beq_eq_true hb).symm hd
   show(bif Nat.beq d x then some p else jG E x)=jG E x
   rw [e];rfl
  rwa [←this]
theorem aIG {a N:Nat} (h:a=N):a<N+1:=by omega
theorem aOn {gs:List rK} {N:Nat} (g:rK) (h:gs.length=N):VP.vc (pO g.1 g.2.1 g.2.2)=.vc (pO (gA (gs++[g]) N).1 (gA (gs++[g]) N).2.1 (gA (gs++[g]) N).2.2):=by rw [aF1 g h]
theorem d0 {S:Sx} {Hs:Gh→Nat→List HA} {hv:List Nat} {ops:List Oper} {ms:List Nat} {E:sN} {outs:List Ou} {i:Nat} {o:Oper} {out:VP} {ins:Gh→List (Operand×VP)} (t:∀{G:Gh} {A:List HA},Tr S o (Hs G 0++A) (Hs G 0++A) (ins G) out) (hs:∀{G:Gh},aGQ ops ms E outs G i (ins G)) (hd:o.dst.all (Nat.blt · S.N)=true:=by rfl) (hg:o.guard=none:=by rfl) (h1:mC ms hv i [0]=true:=by rfl) (h3:hv.contains i=false:=by rfl):o.dst.all (Nat.blt · S.N)=true∧DOp S Hs hv ops ms E outs i o (.v out):=
 ⟨hd,.run (L:=[0]) ⟨fun G A=>t,trivial⟩ (fun G=>hs) hg h1 h3⟩
theorem d1 {S:Sx} {Hs:Gh→Nat→List HA} {hv:List Nat} {ops:List Oper} {ms:List Nat} {E:sN} {outs:List Ou} {i:Nat} {o:Oper} {out:VP} {ins:Gh→List (Operand×VP)} (lo:Nat) (t:∀{G:Gh} {A:List HA},Tr S o (Hs G lo++A) (Hs G lo++A) (ins G) out) (hs:∀{G:Gh},aGQ ops ms E outs G i (ins G)) (hd:o.dst.all (Nat.blt · S.N)=true:=by rfl) (hg:o.guard=none:=by rfl) (h1:mC ms hv i [lo]=true:=by rfl) (h3:hv.contains i=false:=by rfl):o.dst.all (Nat.blt · S.N)=true∧DOp S Hs hv ops ms E outs i o (.v out):=
 ⟨hd,.run (L:=[lo]) ⟨fun G A=>t,trivial⟩ (fun G=>hs) hg h1 h3⟩
theorem g0 {S:Sx} {Hs:Gh→Nat→List HA} {hv:List Nat} {ops:List Oper} {ms:List Nat} {E:sN} {outs:List Ou} {i:Nat} {o:Oper} {out:VP} {ins:Gh→List (Operand×VP)} {j d:Nat} {b:Bool} (t:∀{G:Gh} {A:List HA},Tr S o (Hs G 0++A) (Hs G 0++A) (ins G) out) (hs:∀{G:Gh},aGQ ops ms E outs G i (ins G)) (hd:o.dst.all (Nat.blt · S.N)=true:=by rfl) (hg:o.guard=some (j,b):=by rfl) (hdd:(ops[j]?).bind (·.dst)=some d:=by rfl) (hl:∀G,aAH ops ms E outs G i d=some (.vc (pB b)):=by intro;rfl) (h1:mC ms hv i [0]=true:=by rfl) (h3:hv.contains i=false:=by rfl):o.dst.all (Nat.blt · S.N)=true∧DOp S Hs hv ops ms E outs i o (.v out):=
 ⟨hd,.runG (L:=[0]) ⟨fun G A=>t,trivial⟩ (fun G=>hs) hg hdd hl h1 h3⟩
theorem g1 {S:Sx} {Hs:Gh→Nat→List HA} {hv:List Nat} {ops:List Oper} {ms:List Nat} {E:sN} {outs:List Ou} {i:Nat} {o:Oper} {out:VP} {ins:Gh→List (Operand×VP)} {j d:Nat} {b:Bool} (lo:Nat) (t:∀{G:Gh} {A:List HA},Tr S o (Hs G lo++A) (Hs G lo++A) (ins G) out) (hs:∀{G:Gh},aGQ ops ms E outs G i (ins G)) (hd:o.dst.all (Nat.blt · S.N)=true:=by rfl) (hg:o.guard=some (j,b):=by rfl) (hdd:(ops[j]?).bind (·.dst)=some d:=by rfl) (hl:∀G,aAH ops ms E outs G i d=some (.vc (pB b)):=by intro;rfl) (h1:mC ms hv i [lo]=true:=by rfl) (h3:hv.contains i=false:=by rfl):o.dst.all (Nat.blt · S.N)=true∧DOp S Hs hv ops ms E outs i o (.v out):=
 ⟨hd,.runG (L:=[lo]) ⟨fun G A=>t,trivial⟩ (fun G=>hs) hg hdd hl h1 h3⟩
def HsM:List (Nat×(Gh→List HA))→Gh→Nat→List HA
 |[],_,_=>[]
 |(a,f)::l,G,m=>bif Nat.beq a m then f G else HsM l G m
def dB:Nat→Option Nat
 |0=>none
 |k+1=>some k
def eB:Option Nat→Nat
 |none=>0
 |some k=>k+1
theorem aQo (x:Option Nat):dB (eB x)=x:=by cases x<;>rfl
theorem aRs {Post:Option Nat→Option Nat→List HA} {ins:List (Operand×VP)} {out:Option Nat→Option Nat→VP} (b x:Option Nat) (t:Tr S o H (Post b x) ins (out b x)):Hv S o H (fun b c=>Post b (dB c)) ins (fun b c=>out b (dB c)):=
 ⟨fun M w a hs hin K Q hk=>t.run M w a hs hin K Q fun v M' w' hm hst hv=>hk v M' w' b (eB x) hm (by simpa only [aQo] using hst) (by simpa only [aQo] using hv)⟩
theorem aQR {Post Y:Option Nat→Nat→List HA} {ins:List (Operand×VP)} {out:Option Nat→Nat→VP} {R A:List HA} (is:List Nat) (t:Hv S o H Post ins out) (h:∀b c,∃X Z,Post b c=X++(R++A)∧cE X is=some Z∧Y b c++A=Z++(R++A)) (hn:is.Nodup:=by decide):Hv S o H (fun b c=>Y b c++A) ins out:=
 ⟨fun M w a h1 hin K Q hk=>t.run M w a h1 hin K Q fun v M' w' b c hm hst hv=>by
  obtain⟨X,Z,e1,e2,e3⟩:=h b c
  rw [e1] at hst
  refine hk v M' w' b c hm ?_ hv
  rw [e3]
  exact hst.split e2 hn⟩
end
theorem zU1 {α : Type} {x : α} : x = x ∧ True := ⟨rfl, trivial⟩
theorem zU2 {α β : Type} {x : α} {y : β} : x = x ∧ y = y ∧ True := ⟨rfl, rfl, trivial⟩
end Go.Proofs.YtolfcbpgmfbgmaaGreat
set_option linter.unusedVariables false
namespace Go.Proofs.YtolfcbpgmfbgmaaGreat
/-- The digits of a number, the least one first. -/
def bO (n:Nat):List Int:=if h:n=0 then [] else((n%1000000000:Nat):Int)::bO (n/1000000000)
termination_by n
decreasing_by omega
def Z (n:Int):aE:=⟨decide (n<0),bO n.natAbs⟩
theorem aP8:∃f:Rat→aK,∀q,f q=⟨Z q.num,if q.den=1 then⟨false,[]⟩ else Z q.den⟩:=⟨_,fun _=>rfl⟩
noncomputable def Qr:Rat→aK:=Classical.choose aP8
theorem aDX (q:Rat):Qr q=⟨Z q.num,if q.den=1 then⟨false,[]⟩ else Z q.den⟩:=Classical.choose_spec aP8 q
noncomputable def eQ (q:Rat):List CP:=(Qr q).e
noncomputable def cQ:Cd Rat:=⟨4,eQ,fun _=>rfl⟩
theorem aAZ:bO 0=[]:=by unfold bO;simp
theorem Qr0:Qr 0=⟨⟨false,[]⟩,⟨false,[]⟩⟩:=by rw [aDX];simp [Z,aAZ]
theorem eQ0 (M:jI):bB M (eQ 0) [.bool false,.slice none 0 0,.bool false,.slice none 0 0]:=by
 unfold eQ;rw [Qr0];exact⟨rfl,cD cI M,rfl,cD cI M,trivial⟩
def qs (q:Rat):Bool:=Nat.ble q.num.natAbs.log2 1073741824&&Nat.ble q.den.log2 1073741824
def aFc (a b:Rat):Option Rat:=bif qs a&&qs b then some (a+b) else none
def aGr (a b:Rat):Option Rat:=bif qs a&&qs b then some (a-b) else none
def aEr (a b:Rat):Option Rat:=bif qs a&&qs b then some (a*b) else none
def aGv (a b:Rat):Option Rat:=bif qs a&&qs b then some (a/b) else none
def aCh (a:Rat):Option Rat:=bif qs a then some (-a) else none
def xD (a:Rat):Option Int:=bif qs a then some a.num.sign else none
def aHE (a b:Rat):Option Bool:=bif qs a&&qs b then some (decide (a=b)) else none
def qof (p q:Int):Option Rat:=(aS p).bind fun p=>(aS q).bind fun q=>some ((p:Rat)/q)
end Go.Proofs.YtolfcbpgmfbgmaaGreat
set_option linter.unusedVariables false
namespace Go.Proofs.YtolfcbpgmfbgmaaGreat
theorem vX {x:Int} (h:-9223372036854775808≤x∧x≤9223372036854775807):aS x=some x:=by unfold aS;rw [if_pos h]
theorem xV {x y:Int} (h0:0≤x) (h1:0<y) (h2:x≤9223372036854775807):chq x y=some (x/y):=by
 unfold chq
 rw [if_neg (by omega),Int.tdiv_eq_ediv_of_nonneg h0]
 have a:=Int.ediv_nonneg h0 (Int.le_of_lt h1)
 have b:=Int.ediv_le_self y h0
 exact vX ⟨by omega,by omega⟩
theorem u5 {x y:Int} (h0:0≤x) (h1:0<y):chr x y=some (x%y):=by
 unfold chr
 rw [if_neg (by omega),Int.tmod_eq_emod_of_nonneg h0]
theorem bZ {xs:List Int} {i:Nat} (h:i<xs.length):bF xs (i:Int)=some (xs.getD i 0):=by
 unfold bF
 rw [if_pos (by omega)]
 simp [List.getD_eq_getElem?_getD,h]
theorem vQ {xs:List Int} {i:Nat} {v:Int} (h:i<xs.length):qL xs (i:Int) v=some (xs.set i v):=by
 unfold qL
 rw [if_pos (by constructor;omega;simpa using h)]
 simp
theorem aId {α:Type} {xs:List α} {n:Nat} (h:n≤xs.length):slL xs 0 (n:Int)=some (xs.take n):=by
 unfold slL
 rw [if_pos (by omega)]
 simp
theorem aBM {α:Type} {n:Nat} {z:α} (h:n≤68719476736):mkL (n:Int) z=some (List.replicate n z):=by
 unfold mkL
 rw [if_pos (by omega)]
 simp
theorem xM {α:Type} {xs ys:List α} (h:xs.length+ys.length≤68719476736):oG xs ys=some (xs++ys):=by
 unfold oG
 rw [if_pos h]
theorem bS {α:Type} {x y:α}:(bif true then x else y)=x:=id rfl
theorem bM {α:Type} {x y:α}:(bif false then x else y)=y:=id rfl
theorem oB {α β:Type} {x:α} {f:α→Option β}:(some x).bind f=f x:=id rfl
def Ev {α:Type} (f:Nat→Option α) (r:α):Prop:=∃N,∀K,N≤K→f K=some r
theorem Ev.pure {α:Type} (r:α):Ev (fun _=>some r) r:=⟨0,fun _ _=>rfl⟩
theorem Ev.bind {α β:Type} {f:Nat→Option α} {g:Nat→α→Option β} {x:α} {r:β} (h:Ev f x) (k:Ev (fun K=>g K x) r):Ev (fun K=>(f K).bind (g K)) r:=by
 obtain⟨N,h⟩:=h
 obtain⟨M,k⟩:=k
 exact⟨max N M,fun K hK=>by show(f K).bind (g K)=_;rw [h K (by omega)];exact k K (by omega)⟩
theorem Ev.of {α:Type} {f:Nat→Option α} {r:α} (h:∀K,f K=some r):Ev f r:=⟨0,fun K _=>h K⟩
def xZ {α:Type} (f:Nat→Nat→Option α) (r:α):Prop:=∃N,∀K k,N≤K→N≤k→f K k=some r
theorem xZ.ev {α:Type} {f:Nat→Nat→Option α} {r:α} (h:xZ f r):Ev (fun K=>f K K) r:=by
 obtain⟨N,h⟩:=h;exact⟨N,fun K hK=>h K K hK hK⟩
theorem xZ.of {α:Type} {f:Nat→Nat→Option α} {r:α} (n:Nat) (h:∀K k,n≤k→f K k=some r):xZ f r:=⟨n,fun K k _ hk=>h K k hk⟩
theorem xZ.step {α:Type} {f:Nat→Nat→Option α} {r:α} (h:xZ (fun K k=>f K (k+1)) r):xZ f r:=by
 obtain⟨N,h⟩:=h
 refine⟨N+1,fun K k hK hk=>?_⟩
 obtain⟨k',rfl⟩:∃k',k=k'+1:=⟨k-1,by omega⟩
 exact h K k' (by omega) (by omega)
theorem xZ.bind {α β:Type} {f:Nat→Option α} {g:Nat→Nat→α→Option β} {x:α} {r:β} (h:Ev f x) (k:xZ (fun K k=>g K k x) r):xZ (fun K k=>(f K).bind (g K k)) r:=by
 obtain⟨N,h⟩:=h
 obtain⟨M,k⟩:=k
 exact⟨max N M,fun K j hK hj=>by show(f K).bind (g K j)=_;rw [h K (by omega)];exact k K j (by omega) (by omega)⟩
theorem Ev.congr {α:Type} {f g:Nat→Option α} {r:α} (h:Ev g r) (e:∀K,f K=g K):Ev f r:=by
 obtain⟨N,h⟩:=h;exact⟨N,fun K a=>by rw [e];exact h K a⟩
def PB:Nat→Int
 |0=>1
 |n+1=>PB n*1000000000
theorem uD:∀n,0<PB n
 |0=>by decide
 |n+1=>by have:=uD n;simp only [PB];omega
theorem aCj (a:Nat):∀b,PB (a+b)=PB a*PB b
 |0=>by simp [PB]
 |b+1=>by rw [←Nat.add_assoc];simp only [PB];rw [aCj a b];grind
theorem aEy {a b:Nat} (h:a≤b):PB a≤PB b:=by
 obtain⟨c,rfl⟩:=Nat.exists_eq_add_of_le h
 rw [aCj]
 have h1:=uD a
 have h2:=uD c
 have:PB a*1≤PB a*PB c:=Int.mul_le_mul_of_nonneg_left (by omega) (by omega)
 omega
theorem aRQ {a b:Nat} (h:PB a<PB b):a<b:=by
 rcases Nat.lt_or_ge a b with h1|h1
 ·exact h1
 ·have:=aEy h1;omega
theorem aOF:∀n,(2:Int)^(29*n)≤PB n
 |0=>by simp [PB]
 |n+1=>by
  have ih:=aOF n
  rw [Nat.mul_add,Nat.mul_one,Int.pow_add]
  simp only [PB]
  have h1:=uD n
  have h2:(0:Int)<2^(29*n):=Int.pow_pos (by decide)
  have:(2:Int)^29=536870912:=by decide
  rw [this]
  omega
def W (u:List Int) (j:Nat):Nat→Int
 |0=>0
 |n+1=>W u j n+u.getD (j+n) 0*PB n
theorem dU (u:List Int) (j n:Nat):W u j (n+1)=W u j n+u.getD (j+n) 0*PB n:=rfl
theorem aQP (u:List Int) (j:Nat):W u j 0=0:=rfl
theorem aEA {u v:List Int} {j k:Nat}:∀{n:Nat},(∀i,i<n→u.getD (j+i) 0=v.getD (k+i) 0)→W u j n=W v k n
 |0,_=>rfl
 |n+1,h=>by rw [dU,dU,aEA (n:=n) (fun i hi=>h i (by omega)),h n (by omega)]
theorem y6 (u:List Int) (j a:Nat):∀b,W u j (a+b)=W u j a+PB a*W u (j+a) b
 |0=>by simp [W]
 |b+1=>by
  rw [←Nat.add_assoc,dU,dU,y6 u j a b,aCj,Nat.add_assoc]
  grind
theorem aFx {u:List Int} {j:Nat}:∀{n:Nat},(∀i,i<n→u.getD (j+i) 0=0)→W u j n=0
 |0,_=>rfl
 |n+1,h=>by rw [dU,aFx (n:=n) (fun i hi=>h i (by omega)),h n (by omega)];simp
theorem aBm (u:List Int) (k:Nat) (v:Int) (i:Nat):(u.set k v).getD i 0=if i=k∧k<u.length then v else u.getD i 0:=by
 simp only [List.getD_eq_getElem?_getD,List.getElem?_set]
 by_cases h:k=i
 ·subst h
  by_cases h2:k<u.length
  ·simp [h2]
  ·simp [h2]
 ·rw [if_neg h,if_neg (fun e=>h e.1.symm)]
theorem xB {u:List Int} {i:Nat} (h:u.length≤i):u.getD i 0=0:=by
 simp [List.getD_eq_getElem?_getD,List.getElem?_eq_none h]
theorem fP {u:List Int} {k i:Nat} {v:Int} (h:i≠k):(u.set k v).getD i 0=u.getD i 0:=by
 rw [aBm,if_neg (fun e=>h e.1)]
theorem eA {u:List Int} {k:Nat} {v:Int} (h:k<u.length):(u.set k v).getD k 0=v:=by
 rw [aBm,if_pos ⟨rfl,h⟩]
theorem aAg {u:List Int} {k j n:Nat} {v:Int} (h:k<j∨j+n≤k):W (u.set k v) j n=W u j n:=
 aEA fun i hi=>fP (by omega)
theorem aJp {u v:List Int} {i:Nat} (h:i<u.length):(u++v).getD i 0=u.getD i 0:=by
 simp [List.getD_eq_getElem?_getD,List.getElem?_append_left h]
theorem aHx {u:List Int} {x:Int}:(u++[x]).getD u.length 0=x:=by
 simp [List.getD_eq_getElem?_getD]
theorem aOe {u:List Int} {x:Int}:W (u++[x]) 0 (u.length+1)=W u 0 u.length+x*PB u.length:=by
 rw [dU,Nat.zero_add,aHx,aEA (v:=u) (k:=0)]
 intro i hi
 rw [Nat.zero_add]
 exact aJp hi
theorem aBG {u:List Int} {n:Nat} (h:u.length≤n):W u 0 n=W u 0 u.length:=by
 obtain⟨c,rfl⟩:=Nat.exists_eq_add_of_le h
 rw [y6,aFx (j:=0+u.length) (fun i _=>xB (by omega))]
 simp
def lV (u:List Int):Prop:=∀i,0≤u.getD i 0∧u.getD i 0<1000000000
def Dr (u:List Int) (j n:Nat):Prop:=∀i,i<n→0≤u.getD (j+i) 0∧u.getD (j+i) 0<1000000000
theorem lV.dr {u:List Int} (h:lV u) (j n:Nat):Dr u j n:=fun i _=>h _
theorem Dr.ok {u:List Int} (h:Dr u 0 u.length):lV u:=fun i=>by
 rcases Nat.lt_or_ge i u.length with h1|h1
 ·have:=h i h1;rwa [Nat.zero_add] at this
 ·rw [xB h1];omega
theorem aBS {u:List Int} {j:Nat}:∀{n:Nat},Dr u j n→0≤W u j n∧W u j n<PB n
 |0,_=>⟨Int.le_refl _,uD 0⟩
 |n+1,h=>by
  obtain⟨h1,h2⟩:=aBS (n:=n) (fun i hi=>h i (by omega))
  obtain⟨h3,h4⟩:=h n (by omega)
  have hp:=uD n
  rw [dU]
  have e1:0≤u.getD (j+n) 0*PB n:=Int.mul_nonneg h3 (by omega)
  have e2:u.getD (j+n) 0*PB n≤999999999*PB n:=Int.mul_le_mul_of_nonneg_right (by omega) (by omega)
  simp only [PB]
  omega
theorem aKz (d:Int) (t:List Int):W (d::t) 0 (t.length+1)=d+1000000000*W t 0 t.length:=by
 rw [Nat.add_comm,y6]
 have e1:W (d::t) 0 1=d:=by simp [W,PB]
 have e2:W (d::t) (0+1) t.length=W t 0 t.length:=aEA fun i _=>by
  rw [show 0+1+i=i+1 by omega];simp
 have e3:PB 1=1000000000:=by decide
 rw [e1,e2,e3]
abbrev vD (u:List Int):Int:=W u 0 u.length
theorem lV.nonneg {u:List Int} (h:lV u):0≤vD u:=(aBS (h.dr 0 _)).1
theorem lV.lt {u:List Int} (h:lV u):vD u<PB u.length:=(aBS (h.dr 0 _)).2
theorem lV.tail {d:Int} {t:List Int} (h:lV (d::t)):lV t:=fun i=>by simpa using h (i+1)
theorem lV.head {d:Int} {t:List Int} (h:lV (d::t)):0≤d∧d<1000000000:=by simpa using h 0
theorem lV.nil:lV []:=fun i=>by simp
theorem lV.cons {d:Int} {t:List Int} (h:lV t) (h0:0≤d) (h1:d<1000000000):lV (d::t):=fun i=>by
 cases i with
 |zero=>simpa using⟨h0,h1⟩
 |succ i=>simpa using h i
theorem yN {n:Nat} (h:n≠0):bO n=((n%1000000000:Nat):Int)::bO (n/1000000000):=by
 rw [bO];simp [h]
theorem aLh (n:Nat):lV (bO n)∧vD (bO n)=n:=by
 induction n using Nat.strongRecOn with
 |_ n ih=>
  by_cases h:n=0
  ·subst h;rw [aAZ];exact⟨lV.nil,rfl⟩
  ·rw [yN h]
   obtain⟨h1,h2⟩:=ih (n/1000000000) (by omega)
   refine⟨h1.cons (by omega) (by omega),?_⟩
   show W _ 0 (_+1)=_
   rw [aKz]
   unfold vD at h2
   rw [h2]
   omega
theorem bN (n:Nat):lV (bO n):=(aLh n).1
theorem dJ (n:Nat):vD (bO n)=n:=(aLh n).2
def Top (u:List Int):Prop:=u=[]∨u.getD (u.length-1) 0≠0
theorem Top.tail {d:Int} {t:List Int} (h:Top (d::t)):Top t:=by
 rcases h with h|h
 ·cases h
 ·cases t with
  |nil=>exact .inl rfl
  |cons e t=>exact .inr (by simpa using h)
theorem Top.pos {u:List Int} (h:Top u) (hd:lV u) (hn:u≠[]):PB (u.length-1)≤vD u:=by
 rcases h with h|h
 ·exact absurd h hn
 ·have hl:0<u.length:=List.length_pos_iff.2 hn
  obtain⟨m,hm⟩:∃m,u.length=m+1:=⟨u.length-1,by omega⟩
  unfold vD
  rw [hm] at h ⊢
  simp only [Nat.add_sub_cancel] at h ⊢
  rw [dU,Nat.zero_add]
  have h1:=(aBS (hd.dr 0 m)).1
  have h2:=(hd m).1
  have h3:=uD m
  have:1*PB m≤u.getD m 0*PB m:=Int.mul_le_mul_of_nonneg_right (by omega) (by omega)
  omega
theorem aPb {u:List Int} (h:lV u) (ht:Top u):bO (vD u).toNat=u:=by
 induction u with
 |nil=>exact aAZ
 |cons d t ih=>
  have h1:=ht.pos h (by simp)
  have hp:=uD ((d::t).length-1)
  have hv:vD (d::t)=d+1000000000*vD t:=aKz d t
  have hh:=h.head
  have hn:=h.tail.nonneg
  have ih':=ih h.tail ht.tail
  rw [yN (by omega)]
  have e1:(vD (d::t)).toNat%1000000000=d.toNat:=by omega
  have e2:(vD (d::t)).toNat/1000000000=(vD t).toNat:=by omega
  rw [e1,e2,ih']
  congr 1
  omega
theorem pL (n:Nat):Top (bO n):=by
 induction n using Nat.strongRecOn with
 |_ n ih=>
  by_cases h:n=0
  ·subst h;rw [aAZ];exact .inl rfl
  ·rw [yN h]
   by_cases h2:n/1000000000=0
   ·rw [h2,aAZ];exact .inr (by simp;omega)
   ·rcases ih (n/1000000000) (by omega) with h3|h3
    ·rw [yN h2] at h3;cases h3
    ·refine .inr ?_
     rw [yN h2] at h3 ⊢
     simpa using h3
theorem aGp {n:Nat}:bO n=[]↔n=0:=by
 constructor
 ·intro h
  have:=dJ n
  rw [h] at this
  have e:vD ([]:List Int)=0:=rfl
  omega
 ·rintro rfl;exact aAZ
def dl (n:Nat):Nat:=(bO n).length
theorem yE:dl 0=0:=by unfold dl;rw [aAZ];rfl
theorem xP {n:Nat}:dl n=0↔n=0:=by unfold dl;rw [List.length_eq_zero_iff];exact aGp
theorem aFI (n:Nat):(n:Int)<PB (dl n):=by
 have:=(bN n).lt
 rwa [dJ] at this
theorem aDt {n k:Nat} (h:(n:Int)<PB k):dl n≤k:=by
 by_cases h0:n=0
 ·subst h0;rw [yE];omega
 ·have:=(pL n).pos (bN n) (by rw [Ne,aGp];exact h0)
  rw [dJ] at this
  have h2:dl n≠0:=by rw [Ne,xP];exact h0
  have:dl n-1<k:=aRQ (by unfold dl;omega)
  omega
theorem sW {m n:Nat} (h:m≤n):dl m≤dl n:=aDt (by have:=aFI n;omega)
theorem aEZ (m n:Nat):dl (m*n)≤dl m+dl n:=by
 refine aDt ?_
 rw [aCj]
 have h1:=aFI m
 have h2:=aFI n
 have:(m:Int)*n≤m*PB (dl n):=Int.mul_le_mul_of_nonneg_left (by omega) (by omega)
 have h3:(m:Int)*PB (dl n)<PB (dl m)*PB (dl n):=Int.mul_lt_mul_of_pos_right h1 (uD _)
 simp only [Int.natCast_mul]
 omega
theorem aRu {m n k:Nat} (h1:dl m≤k) (h2:dl n≤k):dl (m+n)≤k+1:=by
 refine aDt ?_
 have a:=aFI m
 have b:=aFI n
 have c:=aEy h1
 have d:=aEy h2
 have:=uD k
 simp only [PB,Int.natCast_add]
 omega
theorem aM7 (n:Nat):29*dl n≤n.log2+29:=by
 by_cases h0:n=0
 ·subst h0;rw [yE];omega
 ·have h:=(pL n).pos (bN n) (by rw [Ne,aGp];exact h0)
  rw [dJ] at h
  have h2:=aOF ((bO n).length-1)
  have h3:n<2^(n.log2+1):=(Nat.log2_lt h0).1 (by omega)
  have h4:(2:Int)^(29*(dl n-1))<2^(n.log2+1):=by
   have:((2^(n.log2+1):Nat):Int)=2^(n.log2+1):=by simp
   unfold dl
   omega
  have h5:29*(dl n-1)<n.log2+1:=by
   rcases Nat.lt_or_ge (29*(dl n-1)) (n.log2+1) with h|h
   ·exact h
   ·have:(2:Int)^(n.log2+1)≤2^(29*(dl n-1)):=by
     have:=Nat.pow_le_pow_right (n:=2) (by decide) h
     have h6:((2^(n.log2+1):Nat):Int)≤((2^(29*(dl n-1)):Nat):Int):=by omega
     simpa using h6
    omega
  omega
end Go.Proofs.YtolfcbpgmfbgmaaGreat
