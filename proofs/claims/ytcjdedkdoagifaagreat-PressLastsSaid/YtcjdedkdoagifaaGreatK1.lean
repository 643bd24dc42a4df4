/- The words of the walks: ghost memory, predicates on cells, the state of a walk, and the rules for control. -/
import Derived.Tactics
import Derived.Scope
import Derived.Orders
import Derived.Laws.Cells
import Derived.Laws.OwnMore
import Derived.Laws.MakeOwn
import Derived.Laws.Rows
import Derived.Deep.OwnRows
set_option linter.unusedVariables false
namespace Go.Proofs.YtcjdedkdoagifaaGreat
abbrev mX:=Nat→Option Obj
def nP (M M':mX):Prop:=∀b o,M b=some o→M' b=some o
theorem nP.refl (M:mX):nP M M:=fun _ _ h=>h
theorem nP.trans {A B C:mX} (h:nP A B) (k:nP B C):nP A C:=fun b o x=>k b o (h b o x)
def t8 (M:mX) (b i:Nat):Option Value:=
 match M b with
 |some (.cells c _ _)=>c[i]?
 |_=>none
theorem aCI {M M':mX} (h:nP M M') {b i:Nat} {v:Value} (hc:t8 M b i=some v):t8 M' b i=some v:=by
 unfold t8 at *
 cases hb:M b with
 |none=>rw [hb] at hc;cases hc
 |some o=>rw [hb] at hc;rw [h b o hb];exact hc
structure CP where
 h:mX→Value→Prop
 mono:∀{M M' v},nP M M'→h M v→h M' v
 one:∀{M v},h M v→v.oneCell'=true
def bR (M:mX):List CP→List Value→Prop
 |[],[]=>True
 |p::ps,v::vs=>p.h M v∧bR M ps vs
 |_,_=>False
theorem bR.len {M:mX}:∀{ps:List CP} {vs:List Value},bR M ps vs→vs.length=ps.length
 |[],[],_=>rfl
 |_::_,_::_,h=>by simp [bR.len h.2]
 |[],_::_,h=>h.elim
 |_::_,[],h=>h.elim
theorem bR.mono {M M':mX} (hm:nP M M'):∀{ps:List CP} {vs:List Value},bR M ps vs→bR M' ps vs
 |[],[],_=>trivial
 |p::_,_::_,h=>⟨p.mono hm h.1,bR.mono hm h.2⟩
 |[],_::_,h=>h.elim
 |_::_,[],h=>h.elim
theorem bR.one {M:mX}:∀{ps:List CP} {vs:List Value},bR M ps vs→∀v∈vs,v.oneCell'=true
 |[],[],_=>by simp
 |p::_,v::_,h=>by
  intro u hu
  rcases List.mem_cons.1 hu with rfl|hu
  ·exact p.one h.1
  ·exact bR.one h.2 u hu
 |[],_::_,h=>h.elim
 |_::_,[],h=>h.elim
theorem bR.app {M:mX}:∀{ps qs:List CP} {vs us:List Value},bR M ps vs→bR M qs us→bR M (ps++qs) (vs++us)
 |[],_,[],_,_,h=>h
 |_::_,_,_::_,_,h,k=>⟨h.1,bR.app h.2 k⟩
 |[],_,_::_,_,h,_=>h.elim
 |_::_,_,[],_,h,_=>h.elim
theorem bR.take {M:mX}:∀(n:Nat) {ps:List CP} {vs:List Value},bR M ps vs→bR M (ps.take n) (vs.take n)
 |0,_,_,_=>by simp [bR]
 |_+1,[],[],_=>trivial
 |n+1,_::_,_::_,h=>⟨h.1,bR.take n h.2⟩
 |_+1,[],_::_,h=>h.elim
 |_+1,_::_,[],h=>h.elim
theorem bR.drop {M:mX}:∀(n:Nat) {ps:List CP} {vs:List Value},bR M ps vs→bR M (ps.drop n) (vs.drop n)
 |0,_,_,h=>by simpa using h
 |_+1,[],[],_=>trivial
 |n+1,_::_,_::_,h=>bR.drop n h.2
 |_+1,[],_::_,h=>h.elim
 |_+1,_::_,[],h=>h.elim
theorem bR.at {M:mX}:∀{ps:List CP} {vs:List Value} (i:Nat) {p:CP},bR M ps vs→ps[i]?=some p→∃v,vs[i]?=some v∧p.h M v
 |[],_,i,_,_,h=>by simp at h
 |q::ps,v::vs,0,p,h,e=>by
  simp at e;subst e;exact⟨v,rfl,h.1⟩
 |q::ps,v::vs,i+1,p,h,e=>by
  have:=bR.at (ps:=ps) (vs:=vs) i (p:=p) h.2 (by simpa using e)
  simpa using this
 |_::_,[],_,_,h,_=>h.elim
theorem bR.set {M:mX}:∀{ps:List CP} {vs:List Value} (i:Nat) {p:CP} {v:Value},bR M ps vs→p.h M v→bR M (ps.set i p) (vs.set i v)
 |[],[],_,_,_,_,_=>trivial
 |_::_,_::_,0,_,_,h,k=>⟨k,h.2⟩
 |_::_,_::_,i+1,_,_,h,k=>⟨h.1,bR.set i h.2 k⟩
 |[],_::_,_,_,_,h,_=>h.elim
 |_::_,[],_,_,_,h,_=>h.elim
inductive VP
 |vc (p:CP)
 |va (ps:List CP)
 |t2 (x y:VP)
 |t3 (x y z:VP)
 |t4 (x y z u:VP)
 |any
 |un
def VP.h:VP→mX→Value→Prop
 | .vc p,M,v=>p.h M v
 | .va ps,M,v=>∃vs:List Value,v=.agg vs.toArray∧bR M ps vs
 | .t2 x y,M,v=>∃a b,v=.tuple #[a,b]∧x.h M a∧y.h M b
 | .t3 x y z,M,v=>∃a b c,v=.tuple #[a,b,c]∧x.h M a∧y.h M b∧z.h M c
 | .t4 x y z u,M,v=>∃a b c d,v=.tuple #[a,b,c,d]∧x.h M a∧y.h M b∧z.h M c∧u.h M d
 | .any,_,_=>True
 | .un,_,v=>v=undef
theorem VP.mono {M M':mX} (hm:nP M M'):∀{p:VP} {v:Value},p.h M v→p.h M' v
 | .vc p,_,h=>p.mono hm h
 | .va _,_,⟨vs,e,h⟩=>⟨vs,e,bR.mono hm h⟩
 | .t2 x y,_,⟨a,b,e,h,k⟩=>⟨a,b,e,VP.mono hm h,VP.mono hm k⟩
 | .t3 x y z,_,⟨a,b,c,e,h,k,l⟩=>⟨a,b,c,e,VP.mono hm h,VP.mono hm k,VP.mono hm l⟩
 | .t4 x y z u,_,⟨a,b,c,d,e,h,k,l,m⟩=>⟨a,b,c,d,e,VP.mono hm h,VP.mono hm k,VP.mono hm l,VP.mono hm m⟩
 | .any,_,_=>trivial
 | .un,_,h=>h
def VP.cells:VP→List CP
 | .vc p=>[p]
 | .va ps=>ps
 |_=>[]
def VP.flat:VP→Prop
 | .vc _=>True
 | .va _=>True
 |_=>False
theorem VP.cells_of {M:mX} {p:VP} {v:Value} (hf:p.flat) (h:p.h M v):bR M p.cells v.cells.toList:=by
 cases p with
 |vc p=>
  have h1:v.oneCell'=true:=p.one h
  have:v.cells=#[v]:=by cases v<;>first|rfl|simp [Value.oneCell'] at h1
  rw [this];exact⟨h,trivial⟩
 |va ps=>obtain⟨vs,rfl,h⟩:=h;simpa [Value.cells,VP.cells] using h
 |_=>exact hf.elim
def sv (β:Option Nat) (n c:Nat):Value:=.slice (β.map fun b=>⟨b,0,none⟩) n c
structure HA where
 β:Option Nat
 c:Nat
 T:TypeId
 sz:Nat
 n:Nat
 ps:List CP
def HA.ok (e:HA) (M:mX) (w:World):Prop:=
 (∃vs,w.ownsRow 0 e.T e.sz (sv e.β e.n e.c) e.n vs∧bR M e.ps vs)∧∀b,e.β=some b→M b=none
def Mok (M:mX) (w:World):Prop:=∀b o,M b=some o→w.heap[b]?=some o
structure Sx where
 P:Program
 w0:World
 M0:mX
 B:List Nat
 N:Nat
structure St (S:Sx) (M:mX) (w:World) (H:List HA):Prop where
 le0:nP S.M0 M
 mem:Mok M w
 keep:∀b,b<S.w0.heap.size→b∉S.B→w.heap[b]?=S.w0.heap[b]?
 new:∀b,b<S.w0.heap.size→b∉S.B→M b=S.M0 b
 size:S.w0.heap.size≤w.heap.size
 os:w.os=S.w0.os
 tape:w.tape=S.w0.tape
 output:w.output=S.w0.output
 own:∀e∈H,e.ok M w
 fresh:∀e∈H,∀b,e.β=some b→S.w0.heap.size≤b∨b∈S.B
 nodup:(H.filterMap HA.β).Nodup
theorem St.cell {S:Sx} {M:mX} {w:World} {H:List HA} (h:St S M w H) {b i:Nat} {v:Value} (hc:t8 M b i=some v):w.cell? ⟨b,i,none⟩=some v:=by
 unfold t8 at hc
 cases hb:M b with
 |none=>rw [hb] at hc;cases hc
 |some o=>
  rw [hb] at hc
  have:=h.mem b o hb
  unfold World.cell?
  rw [this]
  cases o<;>simp_all
theorem yV {a b:Nat} (h:¬a=b):Nat.beq a b=false:=by
 cases hb:Nat.beq a b
 ·rfl
 ·exact absurd (Nat.eq_of_beq_eq_true hb) h
abbrev qS:=List (Nat×VP)
def iU:qS→Nat→Option VP
 |[],_=>none
 |(d,p)::l,x=>bif Nat.beq d x then some p else iU l x
structure Sat (N:Nat) (M:mX) (a:Act) (E:qS):Prop where
 size:a.tmps.size=N
 defers:a.defers=[]
 get:∀d p,iU E d=some p→∃v,a.tmps[d]?=some v∧p.h M v
theorem Sat.mono {N:Nat} {M M':mX} {a:Act} {E:qS} (h:Sat N M a E) (hm:nP M M'):Sat N M' a E:=
 ⟨h.size,h.defers,fun d p hl=>let ⟨v,e,k⟩:=h.get d p hl;⟨v,e,VP.mono hm k⟩⟩
theorem Sat.put {N:Nat} {M:mX} {a:Act} {E:qS} (h:Sat N M a E) {d:Nat} {v:Value} {p:VP} (hd:Nat.blt d N=true) (hp:p.h M v):Sat N M (a.put (some d) v) ((d,p)::E):=by
 have hd':d<N:=by simpa using hd
 refine⟨by simp [Act.put,h.size],h.defers,fun x q hl=>?_⟩
 by_cases e:d=x
 ·subst e
  simp only [iU,Nat.beq_refl,cond_true,Option.some.injEq] at hl
  subst hl
  exact⟨v,by simp [Act.put,h.size,hd'],hp⟩
 ·have hb:Nat.beq d x=false:=yV e
  simp only [iU,hb,cond_false] at hl
  obtain⟨u,hu,hq⟩:=h.get x q hl
  exact⟨u,by simp [Act.put,Array.getElem?_setIfInBounds_ne e,hu],hq⟩
inductive Kt
 |base (Q:Exit→Act→World→Prop)
 |seq (y:Code) (k:Kt)
 |blk (id:Nat) (k:Kt)
 |lp (I:Act→World→Prop) (k:Kt)
 |sc (k:Kt)
def Kt.den (P:Program):Kt→Exit→Act→World→Prop
 | .base Q=>Q
 | .seq y k=>Exit.then (y.wp P (k.den P)) (k.den P)
 | .blk id k=>Exit.inBlock id (k.den P)
 | .lp I k=>Exit.then I (k.den P)
 | .sc k=>Exit.noGoto (k.den P)
def Kt.to (e:Exit):Kt→Exit×Kt
 | .base Q=>(e,.base Q)
 | .seq _ k=>k.to e
 | .lp _ k=>k.to e
 | .sc k=>k.to e
 | .blk id k=>match e with
  | .exit x=>bif Nat.beq x id then(.normal,k) else k.to e
  |_=>k.to e
def hs (S:Sx) (H:List HA) (E:qS) (a:Act) (w:World):Prop:=∃M,St S M w H∧Sat S.N M a E
def WC (S:Sx) (c:Code) (κ:Kt) (H:List HA) (E:qS):Prop:=∀a w,hs S H E a w→c.wp S.P (κ.den S.P) a w
def WX (S:Sx) (e:Exit) (κ:Kt) (H:List HA) (E:qS):Prop:=∀a w,hs S H E a w→κ.den S.P e a w
def WL (S:Sx) (ops:Array Oper) (κ:Kt) (r:List Oper) (H:List HA) (E:qS):Prop:=∀a w,hs S H E a w→wpList S.P ops (κ.den S.P) r a w
section
variable {S:Sx} {κ:Kt} {H:List HA} {E:qS}
theorem aD {x y:Code} (h:WC S x (.seq y κ) H E):WC S (.seq x y) κ H E:=fun a w hh=>wp_seq (h a w hh)
theorem aA {y:Code} (h:WC S y κ H E):WX S .normal (.seq y κ) H E:=fun a w hh=>h a w hh
theorem aV (h:WX S .normal κ H E):WC S .skip κ H E:=fun a w hh=>wp_skip (h a w hh)
theorem aDo {l:Nat} (h:WX S .normal κ H E):WC S (.label l) κ H E:=fun a w hh=>wp_label (h a w hh)
theorem bN {id:Nat} {c:Code} (h:WC S c (.blk id κ) H E):WC S (.block id c) κ H E:=fun a w hh=>wp_block (h a w hh)
theorem bF {id:Nat} (h:WX S .normal κ H E):WX S .normal (.blk id κ) H E:=fun a w hh=>h a w hh
theorem aCZ {c:Code} (h:WC S c (.sc κ) H E):WC S (.scope c) κ H E:=fun a w hh=>wp_scope_straight (h a w hh)
theorem aFS (h:WX S .normal κ H E):WX S .normal (.sc κ) H E:=fun a w hh=>h a w hh
theorem aGq {id:Nat} (h:WX S (.exit id) κ H E):WC S (.exit id) κ H E:=fun a w hh=>wp_exit (h a w hh)
theorem aX (h:WX S .ret κ H E):WC S .ret κ H E:=fun a w hh=>wp_ret (h a w hh)
theorem Kt.to_den {P:Program} {e:Exit} (he:e≠.normal) (hg:∀l,e≠.goto l) (a:Act) (w:World):∀(κ:Kt),(κ.to e).2.den P (κ.to e).1 a w→κ.den P e a w
 | .base Q,h=>h
 | .seq y k,h=>by
  have:=Kt.to_den he hg a w k h
  cases e<;>first|exact this|exact absurd rfl he
 | .lp I k,h=>by
  have:=Kt.to_den he hg a w k h
  cases e<;>first|exact this|exact absurd rfl he
 | .sc k,h=>by
  have:=Kt.to_den he hg a w k h
  cases e with
  |goto l=>exact absurd rfl (hg l)
  |_=>exact this
 | .blk id k,h=>by
  cases e with
  |exit x=>
   by_cases hx:x=id
   ·subst hx
    simp only [Kt.to,Nat.beq_refl,cond_true] at h
    simpa [Kt.den,Exit.inBlock] using h
   ·have hb:Nat.beq x id=false:=yV hx
    simp only [Kt.to,hb,cond_false] at h
    simpa [Kt.den,Exit.inBlock,hx] using Kt.to_den he hg a w k h
  |normal=>exact absurd rfl he
  |ret=>exact Kt.to_den he hg a w k h
  |goto l=>exact Kt.to_den he hg a w k h
  |panic ch=>exact Kt.to_den he hg a w k h
  |outgrown=>exact Kt.to_den he hg a w k h
theorem aGT {id:Nat} (h:WX S (κ.to (.exit id)).1 (κ.to (.exit id)).2 H E):WX S (.exit id) κ H E:=fun a w hh=>Kt.to_den (by simp) (by simp) a w κ (h a w hh)
theorem aW (h:WX S (κ.to .ret).1 (κ.to .ret).2 H E):WX S .ret κ H E:=fun a w hh=>Kt.to_den (by simp) (by simp) a w κ (h a w hh)
theorem dE {id:Nat} (h:WX S (κ.to (.exit id)).1 (κ.to (.exit id)).2 H E):WC S (.exit id) κ H E:=aGq (aGT h)
theorem aE {id:Nat} {l:List Oper} (h:WL S l.toArray κ l H E):WC S (.region id l.toArray false) κ H E:=fun a w hh=>wp_region_lit (h a w hh)
theorem aC {ops:Array Oper} (h:WX S .normal κ H E):WL S ops κ [] H E:=fun a w hh=>wpList_nil (h a w hh)
theorem aGr {body:Code} (I:Nat→Act→World→Prop) (h0:∀a w,¬I 0 a w)
  (step:∀k a w,I (k+1) a w→body.wp S.P ((Kt.lp (I k) κ).den S.P) a w):∀k a w,I k a w→(Code.loop body).wp S.P (κ.den S.P) a w:=by
 intro k a w hI b kk cs
 have key:∀n a w,I n a w→
   ∃e a' w',κ.den S.P e a' w'∧Arrives S.P (lone (b.at a (.code body::.inLoop body::kk)) cs w) b kk cs e a' w':=by
  intro n
  induction n with
  |zero=>intro a w h;exact absurd h (h0 a w)
  |succ n ih=>
   intro a w h
   obtain⟨e,a₁,w₁,hq,harr⟩:=step n a w h b (.inLoop body::kk) cs
   cases e with
   |normal=>
    obtain⟨e₂,a₂,w₂,hq₂,harr₂⟩:=ih a₁ w₁ hq
    exact⟨e₂,a₂,w₂,hq₂,.of_steps (Steps.trans harr (.one step_inLoop)) harr₂⟩
   |exit id=>exact⟨_,a₁,w₁,hq,.pass (x:=.inLoop body) rfl (fun _ _=>.inl (by simp)) harr⟩
   |goto l=>exact⟨_,a₁,w₁,hq,.pass (x:=.inLoop body) rfl (fun _ _=>.inl (by simp)) harr⟩
   |ret=>exact⟨_,a₁,w₁,hq,.pass (x:=.inLoop body) rfl (fun _ _=>.inl (by simp)) harr⟩
   |panic ch=>exact⟨_,a₁,w₁,hq,.pass (x:=.inLoop body) rfl (fun _ _=>.inl (by simp)) harr⟩
   |outgrown=>exact⟨_,a₁,w₁,hq,.pass (x:=.inLoop body) rfl (fun _ _=>.inl (by simp)) harr⟩
 obtain⟨e,a',w',hq,harr⟩:=key k a w hI
 exact⟨e,a',w',hq,.of_steps (.one step_loop) harr⟩
def aBr (E:qS):qS→Prop
 |[]=>True
 |(d,p)::l=>iU E d=some p∧aBr E l
theorem aBr.get {E:qS}:∀{E':qS},aBr E E'→∀d p,iU E' d=some p→iU E d=some p
 |[],_,d,p,h=>by simp [iU] at h
 |(x,q)::l,hs,d,p,h=>by
  by_cases e:x=d
  ·subst e
   simp only [iU,Nat.beq_refl,cond_true,Option.some.injEq] at h
   subst h
   exact hs.1
  ·have hb:Nat.beq x d=false:=yV e
   simp only [iU,hb,cond_false] at h
   exact aBr.get hs.2 d p h
def fE (H:List HA):List Nat→Option (List HA)
 |[]=>some []
 |i::l=>match H[i]?,fE H l with
  |some e,some r=>some (e::r)
  |_,_=>none
theorem oX {H:List HA}:∀{l:List Nat} {H':List HA},fE H l=some H'→∀(j:Nat) (e:HA),H'[j]?=some e→∃i:Nat,l[j]?=some i∧H[i]?=some e
 |[],H',h,j,e,he=>by simp [fE] at h;subst h;simp at he
 |i::l,H',h,j,e,he=>by
  simp only [fE] at h
  cases h1:H[i]? with
  |none=>rw [h1] at h;simp at h
  |some x=>
   cases h2:fE H l with
   |none=>rw [h1,h2] at h;simp at h
   |some r=>
    rw [h1,h2] at h
    simp only [Option.some.injEq] at h
    subst h
    cases j with
    |zero=>simp at he;subst he;exact⟨i,rfl,h1⟩
    |succ j=>
     obtain⟨i',hi,hi'⟩:=oX h2 j e (by simpa using he)
     exact⟨i',by simpa using hi,hi'⟩
theorem aA0 {α:Type} {l:List α} (h:l.Nodup) {i j:Nat} {x:α} (hi:l[i]?=some x) (hj:l[j]?=some x):i=j:=by
 obtain⟨hi',hix⟩:=List.getElem?_eq_some_iff.1 hi
 obtain⟨hj',hjx⟩:=List.getElem?_eq_some_iff.1 hj
 have:=(List.pairwise_iff_getElem.1 h)
 rcases Nat.lt_trichotomy i j with hlt|rfl|hlt
 ·exact absurd (hix.trans hjx.symm) (this i j hi' hj' hlt)
 ·rfl
 ·exact absurd (hjx.trans hix.symm) (this j i hj' hi' hlt)
theorem uQ {H:List HA} (hn:(H.filterMap HA.β).Nodup):∀{i j:Nat} {x y:HA} {b:Nat},H[i]?=some x→H[j]?=some y→x.β=some b→y.β=some b→i=j:=by
 induction H with
 |nil=>intro i j x y b h;simp at h
 |cons e H ih=>
  intro i j x y b hi hj hx hy
  have hmem:∀(k:Nat) (z:HA),H[k]?=some z→z.β=some b→b∈H.filterMap HA.β:=fun k z hk hz=>List.mem_filterMap.2 ⟨z,List.mem_of_getElem? hk,hz⟩
  cases i with
  |zero=>
   cases j with
   |zero=>rfl
   |succ j=>
    simp at hi hj
    subst hi
    rw [List.filterMap_cons_some hx] at hn
    exact absurd (hmem j y hj hy) (List.nodup_cons.1 hn).1
  |succ i=>
   cases j with
   |zero=>
    simp at hi hj
    subst hj
    rw [List.filterMap_cons_some hy] at hn
    exact absurd (hmem i x hi hx) (List.nodup_cons.1 hn).1
   |succ j=>
    simp at hi hj
    have hn':(H.filterMap HA.β).Nodup:=by
     cases he:e.β with
     |none=>rwa [List.filterMap_cons_none he] at hn
     |some c=>rw [List.filterMap_cons_some he] at hn;exact(List.nodup_cons.1 hn).2
    exact congrArg (·+1) (ih hn' hi hj hx hy)
theorem s8 {H:List HA} (h:∀{i j:Nat} {x y:HA} {b:Nat},H[i]?=some x→H[j]?=some y→x.β=some b→y.β=some b→i=j):(H.filterMap HA.β).Nodup:=by
 induction H with
 |nil=>simp
 |cons e H ih=>
  have ih':=ih (fun {i j x y b} hi hj hx hy=>by have:=h (i:=i+1) (j:=j+1) (by simpa using hi) (by simpa using hj) hx hy;omega)
  cases he:e.β with
  |none=>rwa [List.filterMap_cons_none he]
  |some b=>
   rw [List.filterMap_cons_some he]
   refine List.nodup_cons.2 ⟨fun hm=>?_,ih'⟩
   obtain⟨z,hz,hzb⟩:=List.mem_filterMap.1 hm
   obtain⟨k,hk,hkz⟩:=List.getElem_of_mem hz
   have:=h (i:=0) (j:=k+1) (x:=e) (y:=z) (b:=b) (by simp) (by simp [hk,hkz]) he hzb
   omega
theorem St.pick {M:mX} {w:World} {H H':List HA} {l:List Nat} (h:St S M w H) (hp:fE H l=some H') (hl:l.Nodup):St S M w H' where
 le0:=h.le0
 mem:=h.mem
 keep:=h.keep
 new:=h.new
 size:=h.size
 os:=h.os
 tape:=h.tape
 output:=h.output
 own:=fun e he=>by
  obtain⟨j,hj,hje⟩:=List.getElem_of_mem he
  obtain⟨i,_,hi⟩:=oX hp j e (by simp [hj,hje])
  exact h.own e (List.mem_of_getElem? hi)
 fresh:=fun e he=>by
  obtain⟨j,hj,hje⟩:=List.getElem_of_mem he
  obtain⟨i,_,hi⟩:=oX hp j e (by simp [hj,hje])
  exact h.fresh e (List.mem_of_getElem? hi)
 nodup:=s8 fun {i j x y b} hi hj hx hy=>by
  obtain⟨i',hi',hxi⟩:=oX hp i x hi
  obtain⟨j',hj',hyj⟩:=oX hp j y hj
  have:=uQ h.nodup hxi hyj hx hy
  subst this
  exact aA0 hl hi' hj'
theorem bA {H H':List HA} {E E':qS} (l:List Nat) (hp:fE H l=some H') (hl:l.Nodup) (hE:aBr E E') {a:Act} {w:World} (h:hs S H E a w):hs S H' E' a w:=by
 obtain⟨M,h1,h2⟩:=h
 exact⟨M,h1.pick hp hl,h2.size,h2.defers,fun d p hd=>h2.get d p (hE.get d p hd)⟩
theorem aF1 {e:Exit} {H H':List HA} {E E':qS} (l:List Nat) (hp:fE H l=some H') (hl:l.Nodup) (hE:aBr E E') (h:WX S e κ H' E'):WX S e κ H E:=fun a w hh=>h a w (bA l hp hl hE hh)
theorem bG {I:Act→World→Prop} (h:∀a w,hs S H E a w→I a w):WX S .normal (.lp I κ) H E:=fun a w hh=>h a w hh
theorem aGu {t:Nat} {b:Bool} {p:CP} {x y:Code} (ht:iU E t=some (.vc p)) (hp:∀M v,p.h M v→v=Value.bool b) (hx:b=true→WC S x κ H E) (hy:b=false→WC S y κ H E):WC S (.cond (.tmp t) x y) κ H E:=by
 intro a w hh
 have hv:a.eval (.tmp t)=.bool b:=by
  obtain⟨M,_,h2⟩:=hh
  obtain⟨v,e,k⟩:=h2.get t _ ht
  have:=hp M v k
  subst this
  simp [Act.eval,e]
 exact wp_cond_split hv (fun e=>hx e a w hh) (fun e=>hy e a w hh)
end
end Go.Proofs.YtcjdedkdoagifaaGreat
