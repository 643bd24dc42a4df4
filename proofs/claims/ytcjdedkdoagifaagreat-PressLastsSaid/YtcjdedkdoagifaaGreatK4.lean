/- The rules for calls, entries and returns; arithmetic. -/
import Derived.Test.YtcjdedkdoagifaaGreatK3
set_option linter.unusedVariables false
namespace Go.Proofs.YtcjdedkdoagifaaGreat
def oC (M:mX):List VP→List Value→Prop
 |[],[]=>True
 |p::ps,v::vs=>p.h M v∧oC M ps vs
 |_,_=>False
theorem oC.len {M:mX}:∀{ps:List VP} {vs:List Value},oC M ps vs→vs.length=ps.length
 |[],[],_=>rfl
 |_::_,_::_,h=>by simp [oC.len h.2]
 |[],_::_,h=>h.elim
 |_::_,[],h=>h.elim
theorem oC.app {M:mX}:∀{ps qs:List VP} {vs us:List Value},oC M ps vs→oC M qs us→oC M (ps++qs) (vs++us)
 |[],_,[],_,_,h=>h
 |_::_,_,_::_,_,h,k=>⟨h.1,oC.app h.2 k⟩
 |[],_,_::_,_,h,_=>h.elim
 |_::_,_,[],_,h,_=>h.elim
theorem oC.of_all2 {M:mX}:∀{ps:List CP} {vs:List Value},bR M ps vs→oC M (ps.map .vc) vs
 |[],[],_=>trivial
 |_::_,_::_,h=>⟨h.1,oC.of_all2 h.2⟩
 |[],_::_,h=>h.elim
 |_::_,[],h=>h.elim
theorem oC.at {M:mX}:∀{ps:List VP} {vs:List Value} (i:Nat) {p:VP},oC M ps vs→ps[i]?=some p→∃v,vs[i]?=some v∧p.h M v
 |[],_,i,_,_,h=>by simp at h
 |q::ps,v::vs,0,p,h,e=>by
  simp at e;subst e;exact⟨v,rfl,h.1⟩
 |q::ps,v::vs,i+1,p,h,e=>by
  have:=oC.at (ps:=ps) (vs:=vs) i (p:=p) h.2 (by simpa using e)
  simpa using this
 |_::_,[],_,_,h,_=>h.elim
structure aGF (P:Program) (f:Nat):Prop where
 h:∃fn,P.funcs[f]?=some fn∧(fn.name== "runtime.NumGoroutine")=false∧fn.body.isNone=false
structure CtO (P:Program) (f:Nat) (Hin:List HA) (pre:List VP) (post:List HA→VP→Prop):Prop where
 ok:aGF P f
 run:∀M w (args:Array Value),Mok M w→(∀e∈Hin,e.ok M w)→(Hin.filterMap HA.β).Nodup→oC M pre args.toList→
  Calls P f args w fun e w'=>∃v M' Ho q,post Ho q∧e=.returned v∧St ⟨P,w,M,Hin.filterMap HA.β,0⟩ M' w' Ho∧q.h M' v
abbrev Ct (P:Program) (f:Nat) (pre:List VP) (post:VP):Prop:=CtO P f [] pre (fun Ho q=>Ho=[]∧q=post)
theorem aDC {w w':World} {T sz n c:Nat} {β:Option Nat} {vs:List Value} (h:w.ownsRow 0 T sz (sv β n c) n vs) (hb:∀b,β=some b→w'.heap[b]?=w.heap[b]?):w'.ownsRow 0 T sz (sv β n c) n vs:=by
 refine⟨h.1,?_⟩
 rcases h.2 with h1|⟨g,cap,cur,h3,h4,hg,r⟩
 ·exact .inl h1
 ·refine .inr ⟨g,cap,cur,h3,h4,?_,r⟩
  cases β with
  |none=>simp [sv] at h3
  |some b=>
   simp only [sv,Option.map_some,Value.slice.injEq,Option.some.injEq,Addr.mk.injEq,and_true,true_and] at h3
   rw [←h3.1,hb b rfl,h3.1];exact hg
theorem St.call {S:Sx} {M M':mX} {w w':World} {H Hin Hr Ho:List HA} {is js:List Nat} (h:St S M w H) (hi:fE H is=some Hin) (hj:fE H js=some Hr) (hn:(is++js).Nodup)
  {P:Program} {N:Nat} (k:St ⟨P,w,M,Hin.filterMap HA.β,N⟩ M' w' Ho):St S M' w' (Ho++Hr):=by
 have hin:∀e∈Hin,e∈H:=fun e he=>by
  obtain⟨j,hje⟩:=List.getElem?_of_mem he
  obtain⟨i,_,hi'⟩:=oX hi j e hje
  exact List.mem_of_getElem? hi'
 have hrm:∀e∈Hr,e∈H:=fun e he=>by
  obtain⟨j,hje⟩:=List.getElem?_of_mem he
  obtain⟨i,_,hi'⟩:=oX hj j e hje
  exact List.mem_of_getElem? hi'
 have hB:∀b,b∈Hin.filterMap HA.β→S.w0.heap.size≤b∨b∈S.B:=fun b hb=>by
  obtain⟨e,he,heb⟩:=List.mem_filterMap.1 hb
  exact h.fresh e (hin e he) b heb
 have hdis:∀e∈Hr,∀b,e.β=some b→b∉Hin.filterMap HA.β:=fun e he b hb hm=>by
  obtain⟨x,hx,hxb⟩:=List.mem_filterMap.1 hm
  obtain⟨j1,h1⟩:=List.getElem?_of_mem he
  obtain⟨j2,h2⟩:=List.getElem?_of_mem hx
  obtain⟨i1,e1,g1⟩:=oX hj j1 e h1
  obtain⟨i2,e2,g2⟩:=oX hi j2 x h2
  have:=uQ h.nodup g1 g2 hb hxb
  subst this
  exact(List.nodup_append.1 hn).2.2 i1 (List.mem_of_getElem? e2) i1 (List.mem_of_getElem? e1) rfl
 have hlt:∀e∈Hr,∀b,e.β=some b→b<w.heap.size:=fun e he b hb=>(h.own e (hrm e he)).lt hb
 have hr:St S M w Hr:=h.pick hj (List.nodup_append.1 hn).2.1
 refine⟨h.le0.trans k.le0,k.mem,fun b hb hnb=>?_,fun b hb hnb=>?_,Nat.le_trans h.size k.size,k.os.trans h.os,k.tape.trans h.tape,k.output.trans h.output,fun e he=>?_,fun e he b hb=>?_,?_⟩
 ·rw [k.keep b (Nat.lt_of_lt_of_le hb h.size) (fun hm=>by rcases hB b hm with h1|h1;omega;exact hnb h1)]
  exact h.keep b hb hnb
 ·rw [k.new b (Nat.lt_of_lt_of_le hb h.size) (fun hm=>by rcases hB b hm with h1|h1;omega;exact hnb h1)]
  exact h.new b hb hnb
 ·rcases List.mem_append.1 he with he|he
  ·exact k.own e he
  ·obtain⟨⟨vs,how,hall⟩,hnone⟩:=hr.own e he
   refine⟨⟨vs,aDC how (fun b hb=>k.keep b (hlt e he b hb) (hdis e he b hb)),bR.mono k.le0 hall⟩,fun b hb=>?_⟩
   rw [k.new b (hlt e he b hb) (hdis e he b hb)];exact hnone b hb
 ·rcases List.mem_append.1 he with he|he
  ·rcases k.fresh e he b hb with h1|h1
   ·exact .inl (Nat.le_trans h.size h1)
   ·exact hB b h1
  ·exact hr.fresh e he b hb
 ·rw [List.filterMap_append]
  refine List.nodup_append.2 ⟨k.nodup,hr.nodup,fun x hx y hy hxy=>?_⟩
  subst hxy
  obtain⟨e,he,heb⟩:=List.mem_filterMap.1 hx
  obtain⟨e',he',heb'⟩:=List.mem_filterMap.1 hy
  rcases k.fresh e he x heb with h1|h1
  ·have h2:=hlt e' he' x heb'
   exact absurd h1 (by simpa using h2)
  ·exact hdis e' he' x heb' h1
theorem oC.of_ins {M:mX} {a:Act}:∀{xs:List Operand} {pre:List VP},xs.length=pre.length→Ins M a (xs.zip pre)→oC M pre (xs.map a.eval)
 |[],[],_,_=>trivial
 |_::_,_::_,h,k=>⟨k.1,oC.of_ins (by simpa using h) k.2⟩
 |[],_::_,h,_=>by simp at h
 |_::_,[],h,_=>by simp at h
theorem p9 {P:Program} {w:World} {f:Nat} (h:aGF P f) (args:Array Value):(callFunc f args).run P w=.ok (.enter f args) w:=by
 obtain⟨fn,hf,hn,hb⟩:=h.h
 have hn':¬fn.name= "runtime.NumGoroutine":=by simpa using hn
 have hb':¬fn.body=none:=by intro e;rw [e] at hb;simp at hb
 simp [callFunc,hf,hn',hb']
theorem rU:∀(H2:List HA) (n:Nat) (H1:List HA),n=H1.length→fE (H1++H2) (List.range' n H2.length)=some H2
 |[],_,_,_=>rfl
 |e::H2,n,H1,hn=>by
  have:=rU H2 (n+1) (H1++[e]) (by simp [hn])
  simp only [List.append_assoc,List.singleton_append] at this
  have he:(H1++e::H2)[n]?=some e:=by rw [hn];simp
  simp [List.range'_succ,fE,this,he]
theorem z1 (H:List HA):fE H (List.range' 0 H.length)=some H:=rU H 0 [] rfl
section
variable {S:Sx} {κ:Kt} {H:List HA} {E:qS} {ops:Array Oper} {rest:List Oper} {o:Oper}
theorem t9 {P:Program} {w:World} {a:Act} {f:Nat} {args:Array Value} {K:Act→World→Prop} {Q:Exit→Act→World→Prop} {R:Ending→World→Prop}
  (hr:(execOp a.eval o).run P w=.ok (.enter f args) w) (hc:Calls P f args w R) (hk:∀e w',R e w'→∃v,e=.returned v∧K (a.put o.dst v) w'):o.wp P a w K Q:=by
 unfold Oper.wp
 rw [hr]
 exact hc.mono fun e w' h=>by obtain⟨v,rfl,hk'⟩:=hk e w' h;exact hk'
theorem aG {f:Nat} {pre:List VP} {post:VP} {xs:List Operand} {ts:Array TypeId} (ho:o.op=.call {callee:=.value (.func f),args:=xs.toArray,argTypes:=ts}) (c:Ct S.P f pre post) (hl:xs.length=pre.length):
  Tr S o H H (xs.zip pre) post:=by
 refine⟨fun M w a h hin K Q hkk=>?_⟩
 have hall:=oC.of_ins hl hin
 refine t9 (f:=f) (args:=(xs.map a.eval).toArray) ?_ (c.run M w _ h.mem (by simp) (by simp) hall) fun e w' hr=>?_
 ·simp [execOp,ho,resolve,Deferred.ofValue,Act.eval,invoke,p9 c.ok]
 ·obtain⟨v,M',Ho,q,⟨rfl,rfl⟩,rfl,hst,hq⟩:=hr
  refine⟨v,rfl,hkk v M' w' hst.le0 ?_ hq⟩
  have:=h.call (is:=[]) (Hin:=[]) rfl (z1 H) (by simpa using List.nodup_range' (s:=0) (n:=H.length)) hst
  simpa using this
theorem aBg {f:Nat} {cs:List CP} {pre:List VP} {post:VP} {xs:List Operand} {y:Operand} {ts:Array TypeId} (ho:o.op=.call {callee:=.value y,args:=xs.toArray,argTypes:=ts}) (c:Ct S.P f (pre++cs.map .vc) post) (hl:xs.length=pre.length):
  Tr S o H H ((y,.vc (pF f cs))::xs.zip pre) post:=by
 refine⟨fun M w a h hin K Q hkk=>?_⟩
 have hall:=oC.of_ins hl hin.2
 obtain⟨vs,hy,hvs⟩:=hin.1
 refine t9 (f:=f) (args:=(xs.map a.eval++vs).toArray) ?_ (c.run M w _ h.mem (by simp) (by simp) (oC.app hall (oC.of_all2 hvs))) fun e w' hr=>?_
 ·simp [execOp,ho,resolve,Deferred.ofValue,hy,invoke,p9 c.ok]
 ·obtain⟨v,M',Ho,q,⟨rfl,rfl⟩,rfl,hst,hq⟩:=hr
  refine⟨v,rfl,hkk v M' w' hst.le0 ?_ hq⟩
  have:=h.call (is:=[]) (Hin:=[]) rfl (z1 H) (by simpa using List.nodup_range' (s:=0) (n:=H.length)) hst
  simpa using this
theorem zH {f d:Nat} {Hin Hr:List HA} {pre:List VP} {post:List HA→VP→Prop} {xs:List Operand} {ts:Array TypeId} (is js:List Nat) (ho:o.op=.call {callee:=.value (.func f),args:=xs.toArray,argTypes:=ts}) (c:CtO S.P f Hin pre post) (hi:sZ E (xs.zip pre)) (h1:fE H is=some Hin) (h2:fE H js=some Hr) (hn:(is++js).Nodup)
  (k:∀Ho q,post Ho q→WL S ops κ rest (Ho++Hr) ((d,q)::E)) (hl:xs.length=pre.length:=by rfl)
  (hd:o.dst=some d:=by rfl) (hg:o.guard=none:=by rfl) (hN:Nat.blt d S.N=true:=by rfl):WL S ops κ (o::rest) H E:=by
 rintro a w ⟨M,hst,hsat⟩
 have hall:=oC.of_ins hl (sZ.ins hsat hi)
 have hin:St S M w Hin:=hst.pick h1 (List.nodup_append.1 hn).1
 refine wpList_plain hg fun K hK=>t9 (f:=f) (args:=(xs.map a.eval).toArray) ?_ (c.run M w _ hst.mem hin.own hin.nodup hall) fun e w' hr=>?_
 ·simp [execOp,ho,resolve,Deferred.ofValue,Act.eval,invoke,p9 c.ok]
 ·obtain⟨v,M',Ho,q,hpost,rfl,hst',hq⟩:=hr
  refine⟨v,rfl,hK _ _ (k Ho q hpost _ _ ⟨M',hst.call h1 h2 hn hst',?_⟩)⟩
  rw [hd]
  exact(hsat.mono hst'.le0).put hN hq
theorem aFH {α:Type} {C:Cd α} {T:Nat} {r:List α} {f:Nat} {pre:List VP} {xs:List Operand} {ts:Array TypeId} (ho:o.op=.call {callee:=.value (.func f),args:=xs.toArray,argTypes:=ts}) (c:CtO S.P f [] pre (fun Ho q=>∃β c n,r.length=n∧Ho=[⟨β,c,T,C.n,n,flat C r⟩]∧q=.vc (pO β n c))) (hl:xs.length=pre.length):
  Hv S o H (fun β c=>⟨β,c,T,C.n,r.length,flat C r⟩::H) (xs.zip pre) (fun β c=>.vc (pO β r.length c)):=by
 refine⟨fun M w a h hin K Q hkk=>?_⟩
 have hall:=oC.of_ins hl hin
 refine t9 (f:=f) (args:=(xs.map a.eval).toArray) ?_ (c.run M w _ h.mem (by simp) (by simp) hall) fun e w' hr=>?_
 ·simp [execOp,ho,resolve,Deferred.ofValue,Act.eval,invoke,p9 c.ok]
 ·obtain⟨v,M',Ho,q,⟨β,c',n,rfl,rfl,rfl⟩,rfl,hst,hq⟩:=hr
  refine⟨v,rfl,hkk v M' w' β c' hst.le0 ?_ hq⟩
  have:=h.call (is:=[]) (Hin:=[]) rfl (z1 H) (by simpa using List.nodup_range' (s:=0) (n:=H.length)) hst
  simpa using this
theorem vA {f d:Nat} {cs:List CP} {Hin Hr:List HA} {pre:List VP} {post:List HA→VP→Prop} {xs:List Operand} {y:Operand} {ts:Array TypeId} (is js:List Nat) (ho:o.op=.call {callee:=.value y,args:=xs.toArray,argTypes:=ts}) (c:CtO S.P f Hin (pre++cs.map .vc) post) (hi:sZ E ((y,.vc (pF f cs))::xs.zip pre)) (h1:fE H is=some Hin) (h2:fE H js=some Hr) (hn:(is++js).Nodup)
  (k:∀Ho q,post Ho q→WL S ops κ rest (Ho++Hr) ((d,q)::E)) (hl:xs.length=pre.length:=by rfl)
  (hd:o.dst=some d:=by rfl) (hg:o.guard=none:=by rfl) (hN:Nat.blt d S.N=true:=by rfl):WL S ops κ (o::rest) H E:=by
 rintro a w ⟨M,hst,hsat⟩
 have hins:=sZ.ins hsat hi
 have hall:=oC.of_ins hl hins.2
 obtain⟨vs,hy,hvs⟩:=hins.1
 have hin:St S M w Hin:=hst.pick h1 (List.nodup_append.1 hn).1
 refine wpList_plain hg fun K hK=>t9 (f:=f) (args:=(xs.map a.eval++vs).toArray) ?_ (c.run M w _ hst.mem hin.own hin.nodup (oC.app hall (oC.of_all2 hvs))) fun e w' hr=>?_
 ·simp [execOp,ho,resolve,Deferred.ofValue,hy,invoke,p9 c.ok]
 ·obtain⟨v,M',Ho,q,hpost,rfl,hst',hq⟩:=hr
  refine⟨v,rfl,hK _ _ (k Ho q hpost _ _ ⟨M',hst.call h1 h2 hn hst',?_⟩)⟩
  rw [hd]
  exact(hsat.mono hst'.le0).put hN hq
def aAu:Nat→List VP→qS
 |_,[]=>[]
 |i,p::ps=>(i,p)::aAu (i+1) ps
theorem aAe:∀(ps:List VP) (i d:Nat) (p:VP),iU (aAu i ps) d=some p→i≤d∧ps[d-i]?=some p
 |[],_,_,_,h=>by simp [aAu,iU] at h
 |q::ps,i,d,p,h=>by
  simp only [aAu,iU] at h
  by_cases e:i=d
  ·subst e;simp at h;subst h;exact⟨Nat.le_refl _,by simp⟩
  ·rw [yV e] at h
   obtain⟨h1,h2⟩:=aAe ps (i+1) d p h
   refine⟨by omega,?_⟩
   rw [show d-i=(d-(i+1))+1 by omega];simpa using h2
def Rp (P:Program) (w0:World) (M0:mX) (B:List Nat) (post:List HA→VP→Prop):Ending→World→Prop:=fun e w'=>∃v M' Ho q,post Ho q∧e=.returned v∧St ⟨P,w0,M0,B,0⟩ M' w' Ho∧q.h M' v
theorem St.reN {S:Sx} {M:mX} {w:World} {H:List HA} (h:St S M w H) (P:Program) (N:Nat):St ⟨P,S.w0,S.M0,S.B,N⟩ M w H:=
 ⟨h.le0,h.mem,h.keep,h.new,h.size,h.os,h.tape,h.output,h.own,h.fresh,h.nodup⟩
theorem a9 {P:Program} {f:Nat} {fn:Func} {c:Code} {Hin:List HA} {pre:List VP} {post:List HA→VP→Prop} {N:Nat} (hf:P.funcs[f]?=some fn) (hb:fn.body=some c) (hname:(fn.name== "runtime.NumGoroutine")=false) (hN:fn.ntmps=N) (hpre:Nat.ble pre.length N=true)
  (h:∀w0 M0,WC ⟨P,w0,M0,Hin.filterMap HA.β,N⟩ c (.base (bodyPost P fn (Rp P w0 M0 (Hin.filterMap HA.β) post))) Hin (aAu 0 pre)):CtO P f Hin pre post:=by
 refine⟨⟨fn,hf,hname,by simp [hb]⟩,fun M w args hm hown hnd hall=>calls_of_wp hf hb (h w M _ w ⟨M,?_,?_⟩)⟩
 ·exact⟨nP.refl M,hm,fun _ _ _=>rfl,fun _ _ _=>rfl,Nat.le_refl _,rfl,rfl,rfl,hown,fun e he b hb'=>.inr (List.mem_filterMap.2 ⟨e,he,hb'⟩),hnd⟩
 ·have hl:=hall.len
  have hle:pre.length≤N:=by simpa using hpre
  refine⟨?_,rfl,fun d p hd=>?_⟩
  ·subst hN
   simp only [Array.length_toList] at hl
   simp;omega
  ·obtain⟨_,hp⟩:=aAe pre 0 d p hd
   obtain⟨v,hv,hpv⟩:=hall.at d (by simpa using hp)
   refine⟨v,?_,hpv⟩
   have hdl:d<args.size:=by
    have:=(List.getElem?_eq_some_iff.1 hv).1
    simpa using this
   rw [Array.getElem?_append_left hdl]
   simpa using hv
inductive RVs (S:Sx) (H:List HA) (E:qS):List ResultVar→List VP→Prop
 |nil:RVs S H E [] []
 |tmp {t:Nat} {p:VP} {rs:List ResultVar} {ps:List VP} (h:iU E t=some p) (k:RVs S H E rs ps):RVs S H E (.tmp t::rs) (p::ps)
 |cell {t T i off:Nat} {β:Option Nat} {e:HA} {p:VP} {qs:List CP} {rs:List ResultVar} {ps:List VP} (h:iU E t=some (.vc (pP β off))) (hi:H[i]?=some e) (hβ:e.β=β) (hq:(e.ps.drop off).take qs.length=qs) (hk:Tk S.P T qs p) (k:RVs S H E rs ps):RVs S H E (.cell t T::rs) (p::ps)
def aAm (tmps:Array Value):ResultVar→Sem Value
 | .tmp t=>pure (tmps.getD t undef)
 | .cell t T=>do loadVar T (←asAddr (tmps.getD t undef))
theorem zF {S:Sx} {H:List HA} {E:qS} {M:mX} {w:World} {a:Act} (h1:St S M w H) (h2:Sat S.N M a E):∀{rs:List ResultVar} {ps:List VP},RVs S H E rs ps→
  ∃vs,oC M ps vs∧(rs.mapM (aAm a.tmps)).run S.P w=.ok vs w
 |_,_,.nil=>⟨[],trivial,by simp⟩
 |_,_,.tmp (t:=t) h k=>by
  obtain⟨vs,hv,hr⟩:=zF h1 h2 k
  obtain⟨v,e,hp⟩:=h2.get _ _ h
  have h1:(aAm a.tmps (.tmp t)).run S.P w=.ok v w:=by simp [aAm,e]
  exact⟨v::vs,⟨hp,hv⟩,by simp [List.mapM_cons,Sem.run_bind,h1,hr]⟩
 |_,_,.cell (t:=t) (T:=T) h hi hβ hq hk k=>by
  obtain⟨vs,hv,hr⟩:=zF h1 h2 k
  obtain⟨v,e,b,hb,hx⟩:=h2.get _ _ h
  obtain⟨us,hu1,hu2⟩:=aE3 (h1.own _ (List.mem_of_getElem? hi)) (hβ.trans hb) _ _
  rw [hq] at hu1
  obtain⟨u,hl,hu⟩:=tJ (P:=S.P) (w:=w) hk hu1 hu2
  subst hx
  have h1:(aAm a.tmps (.cell t T)).run S.P w=.ok u w:=by simp [aAm,e,asAddr,hl]
  exact⟨u::vs,⟨hu,hv⟩,by simp [List.mapM_cons,Sem.run_bind,h1,hr]⟩
def aD7:List VP→VP
 |[p]=>p
 |[p,q]=>.t2 p q
 |[p,q,r]=>.t3 p q r
 |[p,q,r,s]=>.t4 p q r s
 |_=>.any
theorem aFT {M:mX}:∀{ps:List VP} {vs:List Value},ps.length≤4→oC M ps vs→(aD7 ps).h M (if h:vs.toArray.size=1 then vs.toArray[0] else .tuple vs.toArray)
 |[],[],_,_=>trivial
 |[p],[v],_,h=>h.1
 |[p,q],[v,u],_,h=>⟨v,u,rfl,h.1,h.2.1⟩
 |[p,q,r],[v,u,x],_,h=>⟨v,u,x,rfl,h.1,h.2.1,h.2.2.1⟩
 |[p,q,r,s],[v,u,x,y],_,h=>⟨v,u,x,y,rfl,h.1,h.2.1,h.2.2.1,h.2.2.2.1⟩
 |_::_::_::_::_::_,_,h,_=>by simp at h
 |[],_::_,_,h=>h.elim
 |[_],[],_,h=>h.elim
 |[_],_::_::_,_,h=>h.2.elim
 |[_,_],[],_,h=>h.elim
 |[_,_],[_],_,h=>h.2.elim
 |[_,_],_::_::_::_,_,h=>h.2.2.elim
 |[_,_,_],[],_,h=>h.elim
 |[_,_,_],[_],_,h=>h.2.elim
 |[_,_,_],[_,_],_,h=>h.2.2.elim
 |[_,_,_],_::_::_::_::_,_,h=>h.2.2.2.elim
 |[_,_,_,_],[],_,h=>h.elim
 |[_,_,_,_],[_],_,h=>h.2.elim
 |[_,_,_,_],[_,_],_,h=>h.2.2.elim
 |[_,_,_,_],[_,_,_],_,h=>h.2.2.2.elim
 |[_,_,_,_],_::_::_::_::_::_,_,h=>h.2.2.2.2.elim
theorem vH {P:Program} {fn:Func} {w0:World} {M0:mX} {B:List Nat} {post:List HA→VP→Prop} {N:Nat} {e:Exit} {rs:List ResultVar} {ps:List VP} (he:e=.ret∨e=.normal) (hrs:fn.results=rs.toArray) (hv:RVs ⟨P,w0,M0,B,N⟩ H E rs ps) (hl:Nat.ble ps.length 4=true)
  (is:List Nat) {Ho:List HA} (hp:fE H is=some Ho) (hn:is.Nodup) (hpost:post Ho (aD7 ps)):
  WX ⟨P,w0,M0,B,N⟩ e (.base (bodyPost P fn (Rp P w0 M0 B post))) H E:=by
 rintro a w ⟨M,h1,h2⟩
 obtain⟨vs,hall,hr⟩:=zF h1 h2 hv
 have hres:(results fn a.tmps).run P w=.ok (if h:vs.toArray.size=1 then vs.toArray[0] else .tuple vs.toArray) w:=by
  have e:results fn a.tmps=(do let vs ←fn.results.mapM (aAm a.tmps);pure (if h:vs.size=1 then vs[0] else .tuple vs)):=rfl
  rw [e,hrs,List.mapM_toArray]
  simp [hr]
 have hR:Rp P w0 M0 B post (.returned (if h:vs.toArray.size=1 then vs.toArray[0] else .tuple vs.toArray)) w:=
  ⟨_,M,Ho,aD7 ps,hpost,rfl,(h1.pick hp hn).reN P 0,aFT (by simpa using hl) hall⟩
 rcases he with rfl|rfl<;>exact⟨h2.defers,_,hres,hR⟩
end
end Go.Proofs.YtcjdedkdoagifaaGreat
