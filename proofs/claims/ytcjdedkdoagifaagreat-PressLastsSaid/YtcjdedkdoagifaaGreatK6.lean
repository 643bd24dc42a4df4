/- The rules for built structs, made and grown slices, and cuts of slices. -/
import Derived.Test.YtcjdedkdoagifaaGreatK5
import Derived.Laws.Tables
import Derived.Laws.Slices
set_option linter.unusedVariables false
namespace Go.Proofs.YtcjdedkdoagifaaGreat
/-- Cells put over others, written out. -/
def tI:List CP→Nat→List CP→Option (List CP)
 |ps,0,[]=>some ps
 |_::ps,0,q::qs=>match tI ps 0 qs with
  |some r=>some (q::r)
  |none=>none
 |p::ps,off+1,qs=>match tI ps off qs with
  |some r=>some (p::r)
  |none=>none
 |[],0,_::_=>none
 |[],_+1,_=>none
def wO:Nat→List CP→Option (List CP)
 |0,_=>some []
 |k+1,p::ps=>match wO k ps with
  |some r=>some (p::r)
  |none=>none
 |_+1,[]=>none
theorem vB:∀{k:Nat} {ps qs:List CP},wO k ps=some qs→ps.take k=qs∧qs.length=k
 |0,ps,qs,h=>by simp [wO] at h;subst h;simp
 |k+1,[],qs,h=>by simp [wO] at h
 |k+1,p::ps,qs,h=>by
  simp only [wO] at h
  cases h1:wO k ps with
  |none=>rw [h1] at h;simp at h
  |some r=>
   rw [h1] at h
   simp only [Option.some.injEq] at h
   subst h
   obtain⟨h2,h3⟩:=vB h1
   simp [h2,h3]
theorem uK:∀{ps:List CP} {off:Nat} {qs r:List CP},tI ps off qs=some r→r=ps.take off++qs++ps.drop (off+qs.length)∧off+qs.length≤ps.length
 |ps,0,[],r,h=>by simp [tI] at h;subst h;simp
 |p::ps,0,q::qs,r,h=>by
  simp only [tI] at h
  cases h1:tI ps 0 qs with
  |none=>rw [h1] at h;simp at h
  |some r'=>
   rw [h1] at h
   simp only [Option.some.injEq] at h
   subst h
   obtain⟨h2,h3⟩:=uK h1
   subst h2
   simp at h3 ⊢
   omega
 |p::ps,off+1,qs,r,h=>by
  cases qs with
  |nil=>
   simp only [tI] at h
   cases h1:tI ps off [] with
   |none=>rw [h1] at h;simp at h
   |some r'=>
    rw [h1] at h
    simp only [Option.some.injEq] at h
    subst h
    obtain⟨h2,h3⟩:=uK h1
    subst h2
    simp at h3 ⊢
    omega
  |cons q qs=>
   simp only [tI] at h
   cases h1:tI ps off (q::qs) with
   |none=>rw [h1] at h;simp at h
   |some r'=>
    rw [h1] at h
    simp only [Option.some.injEq] at h
    subst h
    obtain⟨h2,h3⟩:=uK h1
    subst h2
    simp at h3 ⊢
    refine⟨?_,by omega⟩
    rw [show off+1+(qs.length+1)=(off+(qs.length+1))+1 by omega];simp
 |[],0,_::_,_,h=>by simp [tI] at h
 |[],_+1,[],_,h=>by simp [tI] at h
 |[],_+1,_::_,_,h=>by simp [tI] at h
theorem aCn {M:mX} {ps qs r:List CP} {off:Nat} {vs us:List Value} (h:tI ps off qs=some r) (hv:bR M ps vs) (hu:bR M qs us):bR M r (vs.take off++us++vs.drop (off+us.length)):=by
 obtain⟨rfl,hl⟩:=uK h
 have:=hu.len
 rw [this]
 exact((hv.take off).app hu).app (hv.drop _)
def uE:List HA→Nat→HA→Option (List HA)
 |_::l,0,x=>some (x::l)
 |e::l,i+1,x=>match uE l i x with
  |some r=>some (e::r)
  |none=>none
 |[],_,_=>none
theorem xV:∀{l:List HA} {i:Nat} {x:HA} {r:List HA},uE l i x=some r→r=l.set i x
 |_::l,0,x,r,h=>by simp [uE] at h;simp [h]
 |e::l,i+1,x,r,h=>by
  simp only [uE] at h
  cases h1:uE l i x with
  |none=>rw [h1] at h;simp at h
  |some r'=>rw [h1] at h;simp only [Option.some.injEq] at h;subst h;simp [xV h1]
 |[],_,_,_,h=>by simp [uE] at h
def wI:List HA→Nat→Option (List HA)
 |_::l,0=>some l
 |e::l,i+1=>match wI l i with
  |some r=>some (e::r)
  |none=>none
 |[],_=>none
theorem uI:∀{l:List HA} {i:Nat} {r:List HA},wI l i=some r→r=l.eraseIdx i
 |_::l,0,r,h=>by simp [wI] at h;simp [h]
 |e::l,i+1,r,h=>by
  simp only [wI] at h
  cases h1:wI l i with
  |none=>rw [h1] at h;simp at h
  |some r'=>rw [h1] at h;simp only [Option.some.injEq] at h;subst h;simp [uI h1]
 |[],_,_,h=>by simp [wI] at h
def aAR:List Value→Nat→List Value→List Value
 |l,_,[]=>l
 |l,off,u::us=>aAR (l.set off u) (off+1) us
theorem aAw:∀(us l:List Value) (off:Nat),off+us.length≤l.length→aAR l off us=l.take off++us++l.drop (off+us.length)
 |[],l,off,_=>by simp [aAR]
 |u::us,l,off,h=>by
  simp only [List.length_cons] at h
  have ih:=aAw us (l.set off u) (off+1) (by simp;omega)
  simp only [aAR,ih]
  have e1:(l.set off u).take (off+1)=l.take off++[u]:=by
   rw [List.take_succ_eq_append_getElem (by simp;omega),List.take_set_of_le (by omega)];simp
  have e2:(l.set off u).drop (off+1+us.length)=l.drop (off+(us.length+1)):=by
   rw [List.drop_set_of_lt (by omega)];congr 1;omega
  rw [e1,e2];simp
theorem wX (off:Nat):∀(us:List Value) (k:Nat) (arr:Array Value),((us.zipIdx k).foldl (fun(cs:Array Value) (x:Value×Nat)=>cs.setIfInBounds (off+x.2) x.1) arr).toList=aAR arr.toList (off+k) us
 |[],_,_=>rfl
 |u::us,k,arr=>by
  simp only [List.zipIdx_cons,List.foldl_cons,aAR]
  rw [wX off us (k+1)]
  simp [Nat.add_assoc]
def aBK (pl:List (Nat×Nat)):List CP→List (Nat×VP)→Option (List CP)
 |ps,[]=>some ps
 |ps,(i,p)::r=>match pl[i]? with
  |none=>none
  |some (off,size)=>bif Nat.beq p.cells.length size then
    match tI ps off p.cells with
    |some ps'=>aBK pl ps' r
    |none=>none
   else none
def aBu:List VP→Prop
 |[]=>True
 |p::ps=>p.flat∧aBu ps
theorem aDh {M:mX} (place:Nat→Option (Nat×Nat)) (pl:List (Nat×Nat)) (hpl:∀i,pl[i]?≠none→place i=pl[i]?):∀(is:List Nat) (qs:List VP) (vs:List Value) (ps ps':List CP) (cs:Array Value),is.length=qs.length→bR M ps cs.toList→aBu qs→oC M qs vs→aBK pl ps (is.zip qs)=some ps'→
  ∃cs',Instr.fill place cs (is.zip vs)=some cs'∧bR M ps' cs'.toList
 |[],[],[],ps,ps',cs,_,h,_,_,hf=>⟨cs,rfl,by simp [aBK] at hf;subst hf;exact h⟩
 |i::is,q::qs,v::vs,ps,ps',cs,hl,h,hfl,hv,hf=>by
  simp only [List.zip_cons_cons,aBK] at hf
  cases h1:pl[i]? with
  |none=>rw [h1] at hf;simp at hf
  |some os=>
   obtain⟨off,size⟩:=os
   rw [h1] at hf
   simp only at hf
   cases h2:Nat.beq q.cells.length size with
   |false=>rw [h2] at hf;simp at hf
   |true=>
    rw [h2] at hf
    simp only [cond_true] at hf
    cases h3:tI ps off q.cells with
    |none=>rw [h3] at hf;simp at hf
    |some ps1=>
     rw [h3] at hf
     simp only at hf
     have hsz:q.cells.length=size:=Nat.eq_of_beq_eq_true h2
     have hcs:=VP.cells_of hfl.1 hv.1
     have hvl:v.cells.size=size:=by have:=hcs.len;simp at this;omega
     have hle:=(uK h3).2
     have hlen:=h.len
     simp only [Array.length_toList] at hlen
     have hstep:bR M ps1 (v.cells.zipIdx.foldl (fun(cs:Array Value) (x:Value×Nat)=>cs.setIfInBounds (off+x.2) x.1) cs).toList:=by
      rw [←Array.foldl_toList,Array.toList_zipIdx,wX,Nat.add_zero,aAw _ _ _ (by simp;omega)]
      exact aCn h3 h hcs
     obtain⟨cs',h4,h5⟩:=aDh place pl hpl is qs vs ps1 ps' _ (by simpa using hl) hstep hfl.2 hv.2 hf
     refine⟨cs',?_,h5⟩
     have hp:place i=some (off,size):=by rw [hpl i (by rw [h1];simp),h1]
     simp only [List.zip_cons_cons,Instr.fill,hp]
     rw [if_neg (by simp [hvl];omega)]
     exact h4
 |[],_::_,_,_,_,_,hl,_,_,_,_=>by simp at hl
 |_::_,[],_,_,_,_,hl,_,_,_,_=>by simp at hl
 |[],[],_::_,_,_,_,_,_,_,h,_=>h.elim
 |_::_,_::_,[],_,_,_,_,_,_,h,_=>h.elim
structure TyB (P:Program) (t:Nat) (pl:List (Nat×Nat)) (zs:List CP):Prop where
 h:∃(z:Value) (f:Nat→Option (Nat×Nat)),(∀parts,P.built t parts=Instr.fill f z.cells parts)∧(∀i,i<pl.length→f i=pl[i]?)∧∀M,bR M zs z.cells.toList
section
variable {S:Sx} {κ:Kt} {H H':List HA} {E:qS} {ops:Array Oper} {rest:List Oper} {o:Oper}
theorem Ins.zip {M:mX} {a:Act}:∀{xs:List Operand} {ps:List VP},xs.length=ps.length→Ins M a (xs.zip ps)→oC M ps (xs.map a.eval):=oC.of_ins
theorem fA {t:Nat} {is:List Nat} {xs:List Operand} {ps:List VP} {pl:List (Nat×Nat)} {zs qs:List CP} (ho:o.op=.build t (is.zip xs).toArray) (hb:TyB S.P t pl zs) (hl1:is.length=ps.length) (hl:xs.length=ps.length) (hf:aBu ps) (hq:aBK pl zs (is.zip ps)=some qs):
  Tr S o H H (xs.zip ps) (.va qs):=by
 refine⟨fun M w a h hin K Q hk=>?_⟩
 obtain⟨z,f,hz,hfl,hzs⟩:=hb.h
 have hall:=oC.of_ins hl hin
 obtain⟨cs',h1,h2⟩:=aDh (M:=M) f pl (fun i hi=>hfl i (by by_cases h:i<pl.length;exact h;exact absurd (List.getElem?_eq_none (Nat.not_lt.1 h)) hi)) is ps _ zs qs z.cells hl1 (hzs M) hf hall hq
 rw [←hz] at h1
 have hr:=run_build (P:=S.P) w t (is.zip (xs.map a.eval)).toArray cs' (by simpa using h1)
 refine dD (v:=.agg cs') ?_ (hk _ M w (nP.refl M) h ⟨cs'.toList,by simp,h2⟩)
 have:((is.zip xs).map fun x=>(x.1,a.eval x.2))=is.zip (xs.map a.eval):=by
  rw [List.zip_map_right];rfl
 simp [execOp,ho,this,hr]
theorem St.newM {M:mX} {w:World} {o:Obj} (h:St S M w H):nP M (fun b=>if b=w.heap.size then some o else M b)∧St S (fun b=>if b=w.heap.size then some o else M b) (w.alloc o) H:=by
 have hn:M w.heap.size=none:=h.mem.none (Nat.le_refl _)
 have hle:nP M (fun b=>if b=w.heap.size then some o else M b):=fun b x hb=>by
  have:=h.mem.lt hb
  show(if b=w.heap.size then some o else M b)=some x
  rw [if_neg (by omega)];exact hb
 have hg:=World.grownBy_alloc w o none
 refine⟨hle,fun b x hb=>hle b x (h.le0 b x hb),fun b x hb=>?_,fun b hb hB=>?_,fun b hb hB=>?_,Nat.le_trans h.size hg.size,hg.os.trans h.os,hg.tape.trans h.tape,hg.output.trans h.output,fun e he=>?_,h.fresh,h.nodup⟩
 ·have hq:(if b=w.heap.size then some o else M b)=some x:=hb
  clear hb
  by_cases e:b=w.heap.size
  ·rw [if_pos e] at hq
   rw [e,←hq]
   exact heap_alloc_new w o
  ·rw [if_neg e] at hq
   rw [heap_alloc_old w o b (h.mem.lt hq)];exact h.mem b x hq
 ·rw [heap_alloc_old w o b (Nat.lt_of_lt_of_le hb h.size)];exact h.keep b hb hB
 ·have:=h.size
  show(if b=w.heap.size then some o else M b)=_
  rw [if_neg (by omega)];exact h.new b hb hB
 ·refine(HA.ok.kept (h.own e he) hg (fun b _=>by simp)).mem hle fun b hb=>?_
  have:=(h.own e he).lt hb
  show(if b=w.heap.size then some o else M b)=_
  rw [if_neg (by omega)];exact(h.own e he).2 b hb
theorem aDS {α:Type} (C:Cd α) (xs:List α) (M:mX) (cs:Array Value) (h:bR M (flat C xs) cs.toList) (e:Nat) (M':mX) (b:Nat) (hm:nP M M') (hb:M' b=some (.cells cs e (0,0))) (c:Nat) (hc:xs.length≤c) (hL:xs.length≤vJ):
  (pS C xs).h M' (.slice (some ⟨b,0,none⟩) xs.length c):=by
 refine⟨_,_,rfl,hL,hc,fun j x hj=>⟨b,0,rfl,?_⟩⟩
 refine⟨(cs.toList.drop (j*C.n)).take C.n,?_,fun t u ht=>?_⟩
 ·have:=((bR.mono hm h).drop (j*C.n)).take C.n
  rwa [xL C xs j x hj] at this
 ·rw [List.getElem?_take] at ht
  split at ht
  ·rw [List.getElem?_drop] at ht
   simp only [t8,hb,Nat.zero_add]
   simpa using ht
  ·cases ht
def VE {α:Type} (C:Cd α) (q:VP) (x:α):Prop:=q.flat∧q.cells=C.e x
def VEs {α:Type} (C:Cd α):List VP→List α→Prop
 |[],[]=>True
 |q::qs,x::xs=>VE C q x∧VEs C qs xs
 |_,_=>False
theorem VEs.all {α:Type} {C:Cd α} {M:mX}:∀{qs:List VP} {xs:List α} {vs:List Value},VEs C qs xs→oC M qs vs→bR M (flat C xs) (vs.flatMap fun v=>v.cells.toList)
 |[],[],[],_,_=>trivial
 |q::qs,x::xs,v::vs,h,k=>by
  have h1:=VP.cells_of h.1.1 k.1
  rw [h.1.2] at h1
  exact h1.app (VEs.all h.2 k.2)
 |[],[],_::_,_,h=>h.elim
 |_::_,_::_,[],_,h=>h.elim
 |[],_::_,_,h,_=>h.elim
 |_::_,[],_,h,_=>h.elim
theorem VEs.len {α:Type} {C:Cd α}:∀{qs:List VP} {xs:List α},VEs C qs xs→qs.length=xs.length
 |[],[],_=>rfl
 |_::_,_::_,h=>by simp [VEs.len h.2]
 |[],_::_,h=>h.elim
 |_::_,[],h=>h.elim
theorem VEs.size {α:Type} {C:Cd α} {M:mX}:∀{qs:List VP} {xs:List α} {vs:List Value},VEs C qs xs→oC M qs vs→∀v∈vs,v.cells.size=C.n
 |[],[],[],_,_,v,hv=>by simp at hv
 |q::qs,x::xs,u::vs,h,k,v,hv=>by
  rcases List.mem_cons.1 hv with rfl|hv
  ·have h1:=(VP.cells_of h.1.1 k.1).len
   rw [h.1.2,C.len] at h1
   simpa using h1
  ·exact VEs.size h.2 k.2 v hv
 |[],[],_::_,_,h,_,_=>h.elim
 |_::_,_::_,[],_,h,_,_=>h.elim
 |[],_::_,_,h,_,_,_=>h.elim
 |_::_,[],_,h,_,_,_=>h.elim
theorem aAf (k:Nat):∀(vs:List Value) (j:Nat) (cs:Array Value),(∀v∈vs,v.cells.size=k)→(j+vs.length)*k≤cs.size→
  ∃cs',Instr.fill (fun i=>some (i*k,k)) cs ((List.range' j vs.length).zip vs)=some cs'∧cs'.toList=cs.toList.take (j*k)++(vs.flatMap fun v=>v.cells.toList)++cs.toList.drop ((j+vs.length)*k)
 |[],j,cs,_,_=>⟨cs,rfl,by simp⟩
 |v::vs,j,cs,hv,hl=>by
  have hvs:v.cells.size=k:=hv v (by simp)
  simp only [List.length_cons] at hl
  have hjk:j*k+k≤cs.size:=by
   have:(j+1)*k≤(j+(vs.length+1))*k:=Nat.mul_le_mul_right _ (by omega)
   rw [Nat.add_mul,Nat.one_mul] at this
   omega
  have key:(v.cells.zipIdx.foldl (fun(cs:Array Value) (x:Value×Nat)=>cs.setIfInBounds (j*k+x.2) x.1) cs).toList=cs.toList.take (j*k)++v.cells.toList++cs.toList.drop (j*k+k):=by
   rw [←Array.foldl_toList,Array.toList_zipIdx,wX,Nat.add_zero,aAw _ _ _ (by simp [hvs];omega)]
   simp [hvs]
  generalize hA:v.cells.zipIdx.foldl (fun(cs:Array Value) (x:Value×Nat)=>cs.setIfInBounds (j*k+x.2) x.1) cs=A at key
  have hAs:A.size=cs.size:=by
   have:=congrArg List.length key
   simp [hvs] at this
   omega
  obtain⟨cs',h1,h2⟩:=aAf k vs (j+1) A (fun u hu=>hv u (by simp [hu])) (by rw [hAs];rw [show j+1+vs.length=j+(vs.length+1) by omega];exact hl)
  refine⟨cs',?_,?_⟩
  ·simp only [List.length_cons,List.range'_succ,List.zip_cons_cons,Instr.fill]
   rw [if_neg (by simp [hvs];omega)]
   rw [←hA] at h1
   exact h1
  ·rw [h2,key]
   have e1:(j+1)*k=j*k+k:=by rw [Nat.add_mul,Nat.one_mul]
   have e2:(cs.toList.take (j*k)++v.cells.toList++cs.toList.drop (j*k+k)).take ((j+1)*k)=cs.toList.take (j*k)++v.cells.toList:=by
    rw [List.take_append_of_le_length (by simp [hvs];omega)]
    rw [List.take_of_length_le (by simp [hvs];omega)]
   have e3:(cs.toList.take (j*k)++v.cells.toList++cs.toList.drop (j*k+k)).drop ((j+1+vs.length)*k)=cs.toList.drop ((j+(vs.length+1))*k):=by
    have hq:(j+1+vs.length)*k=(j*k+k)+vs.length*k:=by rw [Nat.add_mul,e1]
    have hlen:(cs.toList.take (j*k)++v.cells.toList).length=j*k+k:=by simp [hvs];omega
    rw [hq,←List.drop_drop,←hlen,List.drop_left,List.drop_drop,hlen,←hq]
    congr 2;omega
   rw [e2,e3]
   simp
theorem pX {α:Type} {C:Cd α} {t e bytes:Nat} {xs:List Operand} {ps:List VP} {zs:List α} (ho:o.op=.buildSlice t zs.length ((List.range' 0 xs.length).zip xs).toArray) (ht:yJ S.P t e C.n bytes) (hl:xs.length=ps.length) (hv:VEs C ps zs) (hsm:Nat.ble (zs.length*C.n) 16777216=true):
  Tr S o H H (xs.zip ps) (.vc (pS C zs)):=by
 refine⟨fun M w a h hin K Q hk=>?_⟩
 have hall:=oC.of_ins hl hin
 obtain⟨i,hi,hsz,hby,z,hz,hzs⟩:=ht.s
 have hlz:=VEs.len hv
 have hsm':zs.length*C.n≤16777216:=by simpa using hsm
 have hL:zs.length≤vJ:=by
  have:=Nat.le_mul_of_pos_right zs.length ht.pos
  simp only [vJ];omega
 obtain⟨cs',h1,h2⟩:=aAf C.n (xs.map a.eval) 0 ((Array.range (zs.length*C.n)).map (z.cells[·%z.cells.size]!)) (VEs.size hv hall) (by simp [hl,hlz])
 have h2':cs'.toList=(xs.map a.eval).flatMap fun v=>v.cells.toList:=by
  rw [h2]
  simp [hl,hlz]
 have hall2:=VEs.all hv hall
 rw [←h2'] at hall2
 obtain⟨hle,hst⟩:=h.newM (o:=.cells cs' e (0,0))
 refine dD (v:=.slice (some ⟨w.heap.size,0,none⟩) zs.length zs.length) (w':=w.alloc (.cells cs' e (0,0))) ?_ (hk _ _ _ hle hst (aDS C zs M cs' hall2 e _ _ hle (by simp) _ (Nat.le_refl _) hL))
 have hzip:(((List.range' 0 xs.length).zip xs).map fun x=>(x.1,a.eval x.2))=(List.range' 0 (xs.map a.eval).length).zip (xs.map a.eval):=by
  rw [List.zip_map_right];simp
 by_cases h0:zs.length*C.n=0
 ·have hz0:zs.length=0:=by rcases Nat.mul_eq_zero.1 h0 with h|h<;>have:=ht.pos<;>omega
  have hzs':zs=[]:=List.eq_nil_of_length_eq_zero hz0
  subst hzs'
  have hxs:xs=[]:=List.eq_nil_of_length_eq_zero (by simpa [hlz] using hl)
  subst hxs
  have hcs:cs'=#[]:=by apply Array.ext';simpa using h2'
  subst hcs
  simp [execOp,ho,Instr.buildSlice,run_underlying ht.u,sizeOf,typeInfo,hi,Instr.fill,newRow,Array.range_zero']
 ·have hgt:¬(zs.length*C.n>16777216):=by omega
  simp only [List.length_map] at h1
  simp [execOp,ho,Instr.buildSlice,run_underlying ht.u,sizeOf,typeInfo,hi,hsz,hgt,h0,zeroValue,hz,hzip,h1,newRow]
end
end Go.Proofs.YtcjdedkdoagifaaGreat
