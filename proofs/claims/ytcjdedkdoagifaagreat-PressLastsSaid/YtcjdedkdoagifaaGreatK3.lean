/- The rules for operations: loads, stores, addresses, new variables, slices. -/
import Derived.Test.YtcjdedkdoagifaaGreatK2
set_option linter.unusedVariables false
namespace Go.Proofs.YtcjdedkdoagifaaGreat
def z0:TypeDesc→Bool
 | .struct _| .array _ _=>true
 |_=>false
structure TyA (P:Program) (t k:Nat):Prop where
 u:∃d,P.underlying t=some d∧z0 d=true
 s:(P.info? t).map (·.size)=some k
structure Ty1 (P:Program) (t:Nat):Prop where
 u:∃d,P.underlying t=some d∧z0 d=false
 s:(P.info? t).map (·.size)=some 1
structure zL (P:Program) (t:Nat) (zs:List CP):Prop where
 z:∃i z,P.info? t=some i∧i.zero=some z∧i.size=zs.length∧(∀M,bR M zs z.cells.toList)
structure wS (P:Program) (s f off:Nat):Prop where
 u:∃fs fd,P.underlying s=some (.struct fs)∧fs[f]?=some fd∧fd.offset=off∧∃i,P.info? fd.type=some i∧i.size≠0
structure yJ (P:Program) (t e k bytes:Nat):Prop where
 u:P.underlying t=some (.slice e)
 s:∃i,P.info? e=some i∧i.size=k∧i.bytes=bytes∧∃z,i.zero=some z∧z.cells.size=k
 pos:0<k
theorem mkA {P:Program} {t k:Nat} {d:TypeDesc} (hu:P.underlying t=some d) (hd:z0 d=true) (hs:(P.info? t).map (·.size)=some k):TyA P t k:=⟨⟨d,hu,hd⟩,hs⟩
theorem mk1 {P:Program} {t:Nat} {d:TypeDesc} (hu:P.underlying t=some d) (hd:z0 d=false) (hs:(P.info? t).map (·.size)=some 1):Ty1 P t:=⟨⟨d,hu,hd⟩,hs⟩
theorem mkZ {P:Program} {t k:Nat} {z:Value} {zs:List CP} (h:(P.info? t).map (fun i=>(i.zero,i.size))=some (some z,k)) (hk:k=zs.length) (hz:∀M,bR M zs z.cells.toList):zL P t zs:=by
 cases hi:P.info? t with
 |none=>rw [hi] at h;simp at h
 |some i=>
  rw [hi] at h
  simp only [Option.map_some,Option.some.injEq,Prod.mk.injEq] at h
  exact⟨i,z,hi,h.1,h.2.trans hk,hz⟩
theorem yC {P:Program} {s f off ft k:Nat} {fs:Array Field} {fd:Field} (hu:P.underlying s=some (.struct fs)) (hf:fs[f]?=some fd) (ho:fd.offset=off) (ht:fd.type=ft) (hs:(P.info? ft).map (·.size)=some (k+1)):wS P s f off:=by
 subst ht
 cases hi:P.info? fd.type with
 |none=>rw [hi] at hs;simp at hs
 |some i=>
  rw [hi] at hs
  simp only [Option.map_some,Option.some.injEq] at hs
  exact⟨fs,fd,hu,hf,ho,i,hi,by omega⟩
theorem mkS {P:Program} {t e k bytes:Nat} {z:Value} (hu:P.underlying t=some (.slice e)) (h:(P.info? e).map (fun i=>(i.zero,i.size,i.bytes))=some (some z,k+1,bytes)) (hz:z.cells.size=k+1):yJ P t e (k+1) bytes:=by
 cases hi:P.info? e with
 |none=>rw [hi] at h;simp at h
 |some i=>
  rw [hi] at h
  simp only [Option.map_some,Option.some.injEq,Prod.mk.injEq] at h
  exact⟨hu,⟨i,hi,h.2.1,h.2.2,z,h.1,hz⟩,by omega⟩
inductive Tk (P:Program) (t:Nat):List CP→VP→Prop
 |one {p:CP} (h:Ty1 P t):Tk P t [p] (.vc p)
 |agg {ps:List CP} {k:Nat} (h:TyA P t k) (hl:ps.length=k:=by rfl):Tk P t ps (.va ps)
section
variable {P:Program} {w:World}
theorem dD {o:Oper} {a:Act} {w':World} {v:Value} {K:Act→World→Prop} {Q:Exit→Act→World→Prop}
  (hr:(execOp a.eval o).run P w=.ok (.value v) w') (hk:K (a.put o.dst v) w'):o.wp P a w K Q:=by
 unfold Oper.wp;rw [hr];exact hk
theorem aFi {o:Oper} {a:Act} {w':World} {K:Act→World→Prop} {Q:Exit→Act→World→Prop}
  (hr:(execOp a.eval o).run P w=.ok .skip w') (hk:K (a.put o.dst undef) w'):o.wp P a w K Q:=by
 unfold Oper.wp;rw [hr];exact hk
theorem tL (b o j:Nat):(⟨b,o,none⟩:Addr).add j=⟨b,o+j,none⟩:=by unfold Addr.add;split<;>simp_all
theorem aAN {t:Nat} {d:TypeDesc} (hu:P.underlying t=some d):(isAgg t).run P w=.ok (z0 d) w:=by
 unfold isAgg
 rw [Sem.run_bind,run_underlying hu w]
 cases d<;>rfl
theorem z8 {t k:Nat} (h:(P.info? t).map (·.size)=some k):(sizeOf t).run P w=.ok k w:=by
 cases hq:P.info? t with
 |none=>simp [hq] at h
 |some i=>
  have:i.size=k:=by simpa [hq] using h
  simp [sizeOf,typeInfo,hq,this]
theorem tJ {t b o:Nat} {ps:List CP} {out:VP} {M:mX} {vs:List Value} (hk:Tk P t ps out) (hv:bR M ps vs)
  (hc:∀(j:Nat) v,vs[j]?=some v→w.cell? ⟨b,o+j,none⟩=some v):∃v,(loadVar t ⟨b,o,none⟩).run P w=.ok v w∧out.h M v:=by
 cases hk with
 |@one p h=>
  obtain⟨d,hu,hd⟩:=h.u
  match vs,hv with
  |[v],hv=>
   have:=hc 0 v rfl
   refine⟨v,?_,hv.1⟩
   simp only [Nat.add_zero] at this
   simp [loadVar,aAN hu,hd,this]
 |agg h hl=>
  subst hl
  obtain⟨d,hu,hd⟩:=h.u
  have hl:=hv.len
  refine⟨.agg vs.toArray,?_,vs,rfl,hv⟩
  have hr:=run_loadCells_list (P:=P) w ⟨b,o,none⟩ vs (fun j v hj=>by rw [tL];exact hc j v hj)
  rw [hl] at hr
  simp [loadVar,aAN hu,hd,z8 h.s,hr]
theorem sL (w:World) (r:Option Nat):w.grownBy w r:=⟨rfl,rfl,rfl,Nat.le_refl _,fun _ _ _=>rfl⟩
theorem aCa {w1 w2:World} {r:Option Nat} (h:w.grownBy w1 r) (k:w1.grownBy w2 r):w.grownBy w2 r:=
 ⟨k.os.trans h.os,k.tape.trans h.tape,k.output.trans h.output,Nat.le_trans h.size k.size,fun b hb hne=>(k.block b (Nat.lt_of_lt_of_le hb h.size) hne).trans (h.block b hb hne)⟩
theorem qV {T sz n c b:Nat} (o:Nat):∀(us:List Value) (i:Nat) (w:World) (vs:List Value),w.ownsRow 0 T sz (sv (some b) n c) n vs→o+i+us.length≤vs.length→(∀u∈us,u.oneCell'=true)→
  ∃w',(storeCells ⟨b,o,none⟩ us i).run P w=.ok () w'∧w'.ownsRow 0 T sz (sv (some b) n c) n (vs.take (o+i)++us++vs.drop (o+i+us.length))∧w.grownBy w' (some b)
 |[],i,w,vs,h,_,_=>⟨w,by simp [storeCells],by simpa using h,sL w _⟩
 |u::us,i,w,vs,h,hl,h1=>by
  simp only [List.length_cons] at hl
  have hlen:=h.1
  have hc:w.cell? ⟨b,o+i,none⟩=some vs[o+i]:=by
   have:=World.ownsRow.cellAt (g:=b) (cap:=c) h (o+i) (by rw [←hlen];omega)
   rw [this,List.getElem?_eq_getElem (by omega)]
  have hf:w.frozen? ⟨b,o+i,none⟩=false:=World.ownsRow.frozenAt (g:=b) (cap:=c) h (o+i)
  obtain⟨hs,hg⟩:=World.ownsRow.stored (g:=b) (cap:=c) h (o+i) u
  obtain⟨w',hr,ho,hg'⟩:=qV o us (i+1) (w.setCell ⟨b,o+i,none⟩ u) (vs.set (o+i) u) hs (by simp;omega) (fun x hx=>h1 x (by simp [hx]))
  refine⟨w',?_,?_,aCa hg hg'⟩
  ·simp only [storeCells,Sem.run_bind,tL,run_store P w _ u _ (h1 u (by simp)),hc,hf,Bool.false_eq_true,if_false,Result.andThen_ok]
   exact hr
  ·have e1:(vs.set (o+i) u).take (o+(i+1))=vs.take (o+i)++[u]:=by
    rw [show o+(i+1)=(o+i)+1 by omega,List.take_succ_eq_append_getElem (by simp;omega),List.take_set_of_le (by omega)]
    simp
   have e2:(vs.set (o+i) u).drop (o+(i+1)+us.length)=vs.drop (o+i+(us.length+1)):=by
    rw [List.drop_set_of_lt (by omega)]
    congr 1;omega
   rw [e1,e2] at ho
   simpa using ho
end
section
variable {S:Sx} {κ:Kt} {H:List HA} {E:qS} {ops:Array Oper} {rest:List Oper} {o:Oper}
theorem aL {x:Operand} {p:VP} (ho:o.op=.move x∨o.op=.assign x):Tr S o H H [(x,p)] p:=
 ⟨fun M w a h hi K Q hk=>dD (by rcases ho with ho|ho<;>simp [execOp,ho]<;>rfl) (hk _ M w (nP.refl M) h hi.1)⟩
theorem aE3 {M:mX} {w:World} {β:Option Nat} {c T sz n:Nat} {ps:List CP} {b:Nat} (h:(HA.mk β c T sz n ps).ok M w) (hb:β=some b) (off:Nat) (k:Nat):
  ∃vs,bR M ((ps.drop off).take k) vs∧∀(j:Nat) v,vs[j]?=some v→w.cell? ⟨b,off+j,none⟩=some v:=by
 obtain⟨⟨vs,how,hall⟩,_⟩:=h
 simp only [hb] at how
 refine⟨(vs.drop off).take k,(hall.drop off).take k,fun j v hj=>?_⟩
 rw [List.getElem?_take] at hj
 split at hj
 ·rw [List.getElem?_drop] at hj
  have hlt:off+j<vs.length:=(List.getElem?_eq_some_iff.1 hj).1
  rw [World.ownsRow.cellAt (g:=b) (cap:=c) how (off+j) (by rw [←how.1];exact hlt)]
  exact hj
 ·cases hj
theorem aGV {t:Nat} {x:Operand} (ho:o.op=.load t x) {i off:Nat} {β:Option Nat} {e:HA} {out:VP} {qs:List CP} (hi:H[i]?=some e) (hβ:e.β=β) (hq:(e.ps.drop off).take qs.length=qs) (hk:Tk S.P t qs out):
  Tr S o H H [(x,.vc (pP β off))] out:=by
 refine⟨fun M w a h hin K Q hkk=>?_⟩
 obtain⟨b,hb,hx⟩:=hin.1
 obtain⟨vs,h1,h2⟩:=aE3 (h.own e (List.mem_of_getElem? hi)) (hβ.trans hb) off qs.length
 rw [hq] at h1
 obtain⟨v,hr,hv⟩:=tJ (P:=S.P) (w:=w) hk h1 h2
 exact dD (by simp [execOp,ho,hx,Instr.loadAt,Instr.sureAddr,hr]) (hkk _ M w (nP.refl M) h hv)
theorem aGJ {t:Nat} {x:Operand} (ho:o.op=.load t x) {ps qs:List CP} {out:VP} (hq:ps.take qs.length=qs) (hk:Tk S.P t qs out):
  Tr S o H H [(x,.vc (pM ps))] out:=by
 refine⟨fun M w a h hin K Q hkk=>?_⟩
 obtain⟨b,off,hx,vs,h1,h2⟩:=hin.1
 have h1':=bR.take qs.length h1
 rw [hq] at h1'
 obtain⟨v,hr,hv⟩:=tJ (P:=S.P) (w:=w) (b:=b) (o:=off) hk h1' (fun j v hj=>by
  rw [List.getElem?_take] at hj
  split at hj
  ·exact h.cell (h2 j v hj)
  ·cases hj)
 exact dD (by simp [execOp,ho,hx,Instr.loadAt,Instr.sureAddr,hr]) (hkk _ M w (nP.refl M) h hv)
theorem a8 {s f off k:Nat} {x:Operand} {β:Option Nat} (ho:o.op=.fieldAddr s x f) (hf:wS S.P s f k):Tr S o H H [(x,.vc (pP β off))] (.vc (pP β (off+k))):=by
 refine⟨fun M w a h hin K Q hkk=>?_⟩
 obtain⟨b,hb,hx⟩:=hin.1
 obtain⟨fs,fd,hu,hfd,hoff,i,hi,hz⟩:=hf.u
 refine dD (v:=.pointer (some ⟨b,off+k,none⟩)) ?_ (hkk _ M w (nP.refl M) h ⟨b,hb,rfl⟩)
 subst hoff
 simp [execOp,ho,hx,Instr.fieldAt,Instr.sureAddr,run_underlying hu,hfd,fieldPlace,sizeOf,typeInfo,hi,hz,tL]
theorem tC {s f k:Nat} {x:Operand} {ps:List CP} (ho:o.op=.fieldAddr s x f) (hf:wS S.P s f k):Tr S o H H [(x,.vc (pM ps))] (.vc (pM (ps.drop k))):=by
 refine⟨fun M w a h hin K Q hkk=>?_⟩
 obtain⟨b,off,hx,hc⟩:=hin.1
 obtain⟨fs,fd,hu,hfd,hoff,i,hi,hz⟩:=hf.u
 refine dD (v:=.pointer (some ⟨b,off+k,none⟩)) ?_ (hkk _ M w (nP.refl M) h ⟨b,off+k,rfl,hc.drop k⟩)
 subst hoff
 simp [execOp,ho,hx,Instr.fieldAt,Instr.sureAddr,run_underlying hu,hfd,fieldPlace,sizeOf,typeInfo,hi,hz,tL]
def dO {α:Type} (xs:List α) (j:Int):Option α:=if 0≤j then xs[j.toNat]? else none
theorem aN {α:Type} {xs:List α} {j:Int} {x:α} (h:dO xs j=some x):0≤j∧j.toNat<xs.length∧xs[j.toNat]?=some x:=by
 unfold dO at h
 split at h
 ·exact⟨‹_›,(List.getElem?_eq_some_iff.1 h).1,h⟩
 ·cases h
theorem dX {α:Type} {C:Cd α} {t e bytes:Nat} {x y:Operand} {xs:List α} {j:Int} {z:α} {k:IntKind} (ho:o.op=.indexAddr t x y) (ht:yJ S.P t e C.n bytes) (hj:dO xs j=some z):
  Tr S o H H [(x,.vc (pS C xs)),(y,.vc (pI k j))] (.vc (pM (C.e z))):=by
 refine⟨fun M w a h hin K Q hkk=>?_⟩
 obtain⟨p,c,hx,_,_,hall⟩:=hin.1
 have hy:a.eval y=.int k j:=hin.2.1
 obtain⟨h0,hl,hz⟩:=aN hj
 obtain⟨b,off,rfl,hc⟩:=hall _ z hz
 obtain⟨i,hi,hk,_⟩:=ht.s
 refine dD (v:=.pointer (some ⟨b,off+j.toNat*C.n,none⟩)) ?_ (hkk _ M w (nP.refl M) h ⟨b,_,rfl,hc⟩)
 have hlt:j<(xs.length:Int):=by omega
 simp [execOp,ho,hx,hy,Instr.indexAt,asIntOf,run_underlying ht.u,h0,hlt,sizeOf,typeInfo,hi,hk,tL]
theorem aGI {t e k0 bytes n c:Nat} {x y:Operand} {β:Option Nat} {j:Int} {k:IntKind} (ho:o.op=.indexAddr t x y) (ht:yJ S.P t e k0 bytes) (h0:0≤j) (hlt:j<(n:Int)) {i:Nat} {ea:HA} (hi:H[i]?=some ea) (hβ:ea.β=β) (hc:ea.c=c) (hn:ea.n=n):
  Tr S o H H [(x,.vc (pO β n c)),(y,.vc (pI k j))] (.vc (pP β (j.toNat*k0))):=by
 refine⟨fun M w a h hin K Q hkk=>?_⟩
 have hy:a.eval y=.int k j:=hin.2.1
 rcases hin.1 with hx|⟨_,hz,_⟩
 rotate_left
 ·omega
 obtain⟨i',hi',hk,_⟩:=ht.s
 obtain⟨⟨vs,how,_⟩,_⟩:=h.own ea (List.mem_of_getElem? hi)
 rw [hβ,hc,hn] at how
 rcases how.2 with⟨h3,h4⟩|⟨g,cap,cur,h3,_⟩
 ·omega
 ·cases β with
  |none=>simp [sv] at h3
  |some b=>
   refine dD (v:=.pointer (some ⟨b,j.toNat*k0,none⟩)) ?_ (hkk _ M w (nP.refl M) h ⟨b,rfl,rfl⟩)
   simp [execOp,ho,hx,hy,sv,Instr.indexAt,asIntOf,run_underlying ht.u,h0,hlt,sizeOf,typeInfo,hi',hk,tL]
theorem aGW {t:Nat} {x y:Operand} {off i:Nat} {β:Option Nat} {e:HA} {p:VP} (ho:o.op=.store t x y) (hi:H[i]?=some e) (hβ:e.β=β) (hp:p.flat) (hs:(S.P.info? t).map (·.size)=some p.cells.length) (hl:off+p.cells.length≤e.ps.length):
  Tr S o H (H.set i {e with ps:=e.ps.take off++p.cells++e.ps.drop (off+p.cells.length)}) [(x,.vc (pP β off)),(y,p)] .any:=by
 refine⟨fun M w a h hin K Q hkk=>?_⟩
 obtain⟨b,hb,hx⟩:=hin.1
 have hy:p.h M (a.eval y):=hin.2.1
 have hcs:=VP.cells_of hp hy
 obtain⟨⟨vs,how,hall⟩,hnone⟩:=h.own e (List.mem_of_getElem? hi)
 have hbe:e.β=some b:=hβ.trans hb
 rw [hbe] at how
 have hlen:=hcs.len
 have hlen2:=hall.len
 obtain⟨w',hr,ho',hg⟩:=qV (P:=S.P) off _ 0 w vs how (by rw [hlen,hlen2];simpa using hl) (bR.one hcs)
 have hok:HA.ok {e with ps:=e.ps.take off++p.cells++e.ps.drop (off+p.cells.length)} M w':=by
  refine⟨⟨vs.take off++(a.eval y).cells.toList++vs.drop (off+(a.eval y).cells.toList.length),?_,?_⟩,hnone⟩
  ·simp only [hbe];exact ho'
  ·simp only [hlen]
   exact((hall.take off).app hcs).app (hall.drop _)
 refine aFi (w':=w') ?_ (hkk undef M w' (nP.refl M) (h.put hi (hbe▸hg) hok (.inl rfl)) trivial)
 have hsz:(a.eval y).cells.size=p.cells.length:=by rw [←hlen];simp
 simp [execOp,ho,hx,Instr.storeAt,Instr.sureAddr,storeVar,z8 hs,hsz,hr]
theorem uN {w:World} (t:Nat) (v:Value):(newVar t v).run S.P w=.ok ⟨w.heap.size,0,none⟩ (w.alloc (.cells v.cells t)):=by
 simp [newVar,newRow]
theorem zG {M:mX} {w:World} {T:Nat} {v:Value} {ps:List CP} (h:St S M w H) (hall:bR M ps v.cells.toList):
  St S M (w.alloc (.cells v.cells T)) (⟨some w.heap.size,1,T,ps.length,1,ps⟩::H):=by
 have hl:=hall.len
 refine h.new_row (World.grownBy_alloc w _ none) ⟨⟨v.cells.toList,?_,hall⟩,fun b hb=>?_⟩ (fun b hb=>by simp at hb;omega)
 ·have:=World.ownsRow_lit (base:=0) (e:=T) (size:=ps.length) w v.cells 1 (Nat.zero_le _) (by simp [maxLen]) (by rw [←hl];simp)
  exact this
 ·have e:w.heap.size=b:=by simpa using hb
  exact h.mem.none (by omega)
theorem bJ {T d:Nat} {zs:List CP} (ho:o.op=.alloc T) (hz:zL S.P T zs) (k:∀b,WL S ops κ rest (⟨some b,1,T,zs.length,1,zs⟩::H) ((d,.vc (pP (some b) 0))::E))
  (hd:o.dst=some d:=by rfl) (hg:o.guard=none:=by rfl) (hN:Nat.blt d S.N=true:=by rfl):WL S ops κ (o::rest) H E:=by
 rintro a w ⟨M,h1,h2⟩
 obtain⟨i,z,hi,hzz,hsz,hall⟩:=hz.z
 refine wpList_plain hg fun K hK=>dD (v:=.pointer (some ⟨w.heap.size,0,none⟩)) (w':=w.alloc (.cells z.cells T)) ?_ (hK _ _ (k w.heap.size _ _ ⟨M,zG h1 (hall M),?_⟩))
 ·simp [execOp,ho,Instr.alloc,zeroValue,typeInfo,hi,hzz,uN]
 ·rw [hd];exact h2.put hN ⟨_,rfl,rfl⟩
theorem cV {T d:Nat} {x:Operand} {p:VP} (ho:o.op=.box T x) (hx:aAF E x p) (hp:p.flat) (k:∀b,WL S ops κ rest (⟨some b,1,T,p.cells.length,1,p.cells⟩::H) ((d,.vc (pP (some b) 0))::E))
  (hd:o.dst=some d:=by rfl) (hg:o.guard=none:=by rfl) (hN:Nat.blt d S.N=true:=by rfl):WL S ops κ (o::rest) H E:=by
 rintro a w ⟨M,h1,h2⟩
 have hv:p.h M (a.eval x):=(sZ.ins (l:=[(x,p)]) h2 ⟨hx,trivial⟩).1
 refine wpList_plain hg fun K hK=>dD (v:=.pointer (some ⟨w.heap.size,0,none⟩)) (w':=w.alloc (.cells (a.eval x).cells T)) ?_ (hK _ _ (k w.heap.size _ _ ⟨M,zG h1 (VP.cells_of hp hv),?_⟩))
 ·simp [execOp,ho,Instr.box,uN]
 ·rw [hd];exact h2.put hN ⟨_,rfl,rfl⟩
theorem bZ {α:Type} {C:Cd α} {xs:List α} {t e k bytes:Nat} {x:Operand} (ho:o.op=.call {callee:=.builtin .len,args:=#[x],argTypes:=#[t]}) (ht:yJ S.P t e k bytes):
  Tr S o H H [(x,.vc (pS C xs))] (.vc (pI .i64 xs.length)):=by
 refine⟨fun M w a h hin K Q hkk=>?_⟩
 obtain⟨p,c,hx,_⟩:=hin.1
 refine dD (v:=.int .i64 xs.length) ?_ (hkk _ M w (nP.refl M) h rfl)
 simp [execOp,ho,resolve,invoke,builtin,Builtin.len_,hx,run_underlying ht.u,goInt]
theorem aGM {t e k bytes n c:Nat} {β:Option Nat} {x:Operand} (ho:o.op=.call {callee:=.builtin .len,args:=#[x],argTypes:=#[t]}) (ht:yJ S.P t e k bytes):
  Tr S o H H [(x,.vc (pO β n c))] (.vc (pI .i64 n)):=by
 refine⟨fun M w a h hin K Q hkk=>?_⟩
 refine dD (v:=.int .i64 n) ?_ (hkk _ M w (nP.refl M) h rfl)
 rcases hin.1 with hx|⟨_,rfl,_,a0,hx⟩
 rotate_left
 ·simp [execOp,ho,resolve,invoke,builtin,Builtin.len_,hx,run_underlying ht.u,goInt]
 simp [execOp,ho,resolve,invoke,builtin,Builtin.len_,hx,sv,run_underlying ht.u,goInt]
end
end Go.Proofs.YtcjdedkdoagifaaGreat
