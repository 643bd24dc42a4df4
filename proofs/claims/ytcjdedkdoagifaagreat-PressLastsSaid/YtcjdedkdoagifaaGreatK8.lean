/- Cuts of slices, copies, and regions that draw their order. -/
import Derived.Test.YtcjdedkdoagifaaGreatK7
import Derived.KernelRfl
set_option linter.unusedVariables false
namespace Go.Proofs.YtcjdedkdoagifaaGreat
section
variable {S:Sx} {κ:Kt} {H H':List HA} {E:qS} {ops:Array Oper} {rest:List Oper} {o:Oper}
theorem aEt {α:Type} {C:Cd α} {xs:List α} {M:mX} {p:Option Addr} {n c l h m:Nat} (hv:(pS C xs).h M (.slice p n c)) (hlh:l≤h) (hhn:h≤xs.length) (hhm:h≤m) (hmc:m≤c):
  (pS C ((xs.drop l).take (h-l))).h M (.slice (if m=l then p else p.map (·.add (l*C.n))) (h-l) (m-l)):=by
 obtain⟨p',c',e,h1,h2,h3⟩:=hv
 simp only [Value.slice.injEq] at e
 obtain⟨rfl,rfl,rfl⟩:=e
 have hlen:((xs.drop l).take (h-l)).length=h-l:=by simp;omega
 refine⟨_,_,by rw [hlen],by omega,by omega,fun j x hj=>?_⟩
 rw [List.getElem?_take] at hj
 split at hj
 ·rename_i hjl
  rw [List.getElem?_drop] at hj
  obtain⟨b,off,rfl,hc⟩:=h3 _ x hj
  have hml:¬m=l:=by omega
  refine⟨b,off+l*C.n,by simp [hml,tL],?_⟩
  rw [Nat.add_mul,←Nat.add_assoc] at hc
  exact hc
 ·cases hj
theorem aCd {α:Type} {xs zs:List α} {lo hi:Int} (h:slL xs lo hi=some zs):zs=(xs.drop lo.toNat).take (hi.toNat-lo.toNat)∧0≤lo∧lo≤hi∧hi≤xs.length:=by
 unfold slL at h
 split at h
 ·simp only [Option.some.injEq] at h;exact⟨h.symm,‹_›⟩
 ·cases h
theorem aCD {P:Program} {w:World} {k:IntKind} {i:Int} {y:Nat} {code:BoundsCode} (h0:0≤i) (h1:i≤y):(Instr.sliceBound (.int k i) y code).run P w=.ok i.toNat w:=run_sliceBound w k i y code h0 h1
theorem aBF {α:Type} {C:Cd α} {xs zs:List α} {t e bytes:Nat} {x y:Operand} {hi:Int} {k:IntKind} (ho:o.op=.slice t x none (some y) none) (ht:yJ S.P t e C.n bytes) (h:slL xs 0 hi=some zs):
  Tr S o H H [(x,.vc (pS C xs)),(y,.vc (pI k hi))] (.vc (pS C zs)):=by
 refine⟨fun M w a hs hin K Q hk=>?_⟩
 obtain⟨rfl,_,h0,hl⟩:=aCd h
 obtain⟨p,c,hx,h1,h2,h3⟩:=hin.1
 have hy:a.eval y=.int k hi:=hin.2.1
 obtain⟨i,hi',hk',_⟩:=ht.s
 refine dD (v:=.slice (if c=0 then p else p.map (·.add (0*C.n))) (hi.toNat-0) (c-0)) ?_ (hk _ M w (nP.refl M) hs (aEt (l:=0) (h:=hi.toNat) (m:=c) ⟨p,c,rfl,h1,h2,h3⟩ (by omega) (by omega) (by omega) (Nat.le_refl _)))
 have hb:=aCD (P:=S.P) (w:=w) (k:=k) (i:=hi) (y:=c) (code:=.sliceAcap) h0 (by omega)
 simp [execOp,ho,hx,hy,Instr.sliceAt,Instr.slice,Instr.sliceBounds,run_underlying ht.u,sizeOf,typeInfo,hi',hb]
theorem aFw {α:Type} {C:Cd α} {xs zs:List α} {t e bytes:Nat} {x y z:Operand} {hi:Int} {k k':IntKind} (ho:o.op=.slice t x none (some y) (some z)) (ht:yJ S.P t e C.n bytes) (h:slL xs 0 hi=some zs):
  Tr S o H H [(x,.vc (pS C xs)),(y,.vc (pI k hi)),(z,.vc (pI k' hi))] (.vc (pS C zs)):=by
 refine⟨fun M w a hs hin K Q hk=>?_⟩
 obtain⟨rfl,_,h0,hl⟩:=aCd h
 obtain⟨p,c,hx,h1,h2,h3⟩:=hin.1
 have hy:a.eval y=.int k hi:=hin.2.1
 have hz:a.eval z=.int k' hi:=hin.2.2.1
 obtain⟨i,hi',hk',_⟩:=ht.s
 refine dD (v:=.slice (if hi.toNat=0 then p else p.map (·.add (0*C.n))) (hi.toNat-0) (hi.toNat-0)) ?_ (hk _ M w (nP.refl M) hs (aEt (l:=0) (h:=hi.toNat) (m:=hi.toNat) ⟨p,c,rfl,h1,h2,h3⟩ (by omega) (by omega) (by omega) (by omega)))
 have hb:=aCD (P:=S.P) (w:=w) (k:=k') (i:=hi) (y:=c) (code:=.slice3Acap) h0 (by omega)
 have hb2:=aCD (P:=S.P) (w:=w) (k:=k) (i:=hi) (y:=hi.toNat) (code:=.slice3B) h0 (by omega)
 simp [execOp,ho,hx,hy,hz,Instr.sliceAt,Instr.slice,Instr.sliceBounds,run_underlying ht.u,sizeOf,typeInfo,hi',hb,hb2]
theorem aBa {α:Type} (C:Cd α):∀(xs:List α) (m:Nat),(flat C xs).take (m*C.n)=flat C (xs.take m)∧(flat C xs).drop (m*C.n)=flat C (xs.drop m)
 |[],m=>by simp [flat]
 |x::xs,0=>by simp [flat]
 |x::xs,m+1=>by
  obtain⟨h1,h2⟩:=aBa C xs m
  have hl:=C.len x
  have e:(m+1)*C.n=(C.e x).length+m*C.n:=by rw [hl,Nat.add_mul,Nat.one_mul];omega
  have hf:flat C (x::xs)=C.e x++flat C xs:=by simp [flat]
  refine⟨?_,?_⟩
  ·rw [hf,e,List.take_length_add_append,h1];simp [flat]
  ·rw [hf,e,List.drop_length_add_append,h2];simp [flat]
def zC {α:Type} (xs ys:List α):List α:=ys.take (min ys.length xs.length)++xs.drop (min ys.length xs.length)
theorem xP {α:Type} {xs ys:List α} {n:Nat} (h:xs.length=n):(zC xs ys).length=n:=by
 unfold zC;simp;omega
theorem aFQ {α:Type} {C:Cd α} {py:VP} {xs ys:List α} {t bytes n c T:Nat} {β:Option Nat} {x y:Operand} (i:Nat) (hsrc:∀M w v,St S M w H→py.h M v→(ys=[]∧∃p c,v=.slice p 0 c)∨∃ad c news,0<ys.length∧v=.slice (some ad) ys.length c∧news.length=ys.length*C.n∧(∀(j:Nat) u,news[j]?=some u→w.cell? (ad.add j)=some u)∧bR M (flat C ys) news) (ho:o.op=.call {callee:=.builtin .copy,args:=#[x,y],argTypes:=#[t,t]}) (ht:yJ S.P t T C.n bytes) (hi:H[i]?=some (hO C β c T n xs)) (hn:xs.length=n) (hH:uE H i (hO C β c T n (zC xs ys))=some H'):
  Tr S o H H' [(x,.vc (pO β n c)),(y,py)] (.vc (pI .i64 (min ys.length xs.length:Nat))):=by
 refine⟨fun M w a h hin K Q hkk=>?_⟩
 rw [xV hH] at hkk
 have hx0:=hin.1
 have hy:=hsrc M w _ h hin.2.1
 obtain⟨it,hit,hs1,hs2,_⟩:=ht.s
 obtain⟨⟨vs,how,hall⟩,hnone⟩:=h.own _ (List.mem_of_getElem? hi)
 have hl0:∀(x:Addr),(loadCells x 0).run S.P w=.ok #[] w:=fun x=>by simpa using run_loadCells_list (P:=S.P) w x [] (by simp)
 have hsame:H.set i (hO C β c T n xs)=H:=List.ext_getElem? fun j=>by
  rw [List.getElem?_set]
  split
  ·rename_i e;subst e
   split
   ·exact hi.symm
   ·rename_i hl;exact(List.getElem?_eq_none (Nat.not_lt.1 hl)).symm
  ·rfl
 have hzero:min ys.length xs.length=0→zC xs ys=xs:=fun e=>by unfold zC;rw [e];simp
 rcases hx0 with hx|⟨_,hn0,_,a0,hx⟩
 rotate_left
 ·have hxs:xs=[]:=List.eq_nil_of_length_eq_zero (hn.trans hn0)
  rw [hzero (by simp [hxs]),hsame] at hkk
  refine dD (w':=w) (v:=.int .i64 0) ?_ (hkk _ M w (nP.refl M) h (by simp [hxs];rfl))
  obtain⟨p,m,cy,hys⟩:∃p m cy,a.eval y=.slice p m cy:=by rcases hy with⟨_,p,c,e⟩|⟨ad,c,_,_,e,_⟩<;>exact⟨_,_,_,e⟩
  cases p<;>simp [execOp,ho,resolve,invoke,builtin,hx,hys,Builtin.copy_,run_underlying ht.u,Builtin.lenOf,Builtin.firstCells,sizeOf,typeInfo,hit,hl0,storeCells,goInt]
 rcases hy with⟨rfl,p,cy,hys⟩|⟨ad,cy,news,hpos,hys,hnl,hnews,hnall⟩
 ·rw [hzero (by simp),hsame] at hkk
  refine dD (w':=w) (v:=.int .i64 0) ?_ (hkk _ M w (nP.refl M) h (by simp;rfl))
  cases p<;>cases β<;>simp [execOp,ho,resolve,invoke,builtin,hx,hys,sv,Builtin.copy_,run_underlying ht.u,Builtin.lenOf,Builtin.firstCells,sizeOf,typeInfo,hit,hl0,storeCells,goInt]
 ·by_cases hn0:n=0
  ·have hx0:xs=[]:=List.eq_nil_of_length_eq_zero (hn.trans hn0)
   rw [hzero (by simp [hx0]),hsame] at hkk
   refine dD (w':=w) (v:=.int .i64 0) ?_ (hkk _ M w (nP.refl M) h (by simp [hx0];rfl))
   subst hn0
   cases β<;>simp [execOp,ho,resolve,invoke,builtin,hx,hys,sv,Builtin.copy_,run_underlying ht.u,Builtin.lenOf,Builtin.firstCells,sizeOf,typeInfo,hit,hl0,storeCells,goInt]
  ·rcases how.2 with⟨h3,h4⟩|⟨g,cap,cur,h3,_,hg',hnc,_⟩
   ·exact absurd h4 hn0
   ·cases β with
    |none=>simp [sv] at h3
    |some b=>
     have hm:min ys.length n≤ys.length:=Nat.min_le_left _ _
     have hcl:(news.take (min ys.length n*C.n)).length=min ys.length n*C.n:=by
      rw [List.length_take,hnl]
      exact Nat.min_eq_left (Nat.mul_le_mul_right _ hm)
     have hload:=run_loadCells_list (P:=S.P) w ad (news.take (min ys.length n*C.n)) (fun j u hj=>hnews j u (by
      rw [List.getElem?_take] at hj
      split at hj
      ·exact hj
      ·cases hj))
     rw [hcl] at hload
     have hcs:bR M (flat C (ys.take (min ys.length n))) (news.take (min ys.length n*C.n)):=by
      have:=hnall.take (min ys.length n*C.n)
      rwa [(aBa C ys _).1] at this
     have hlv:(flat C xs).length=vs.length:=hall.len.symm
     have hfl:=xF C xs
     have hle:min ys.length n*C.n≤vs.length:=by
      rw [←hlv,hfl,hn]
      exact Nat.mul_le_mul_right _ (Nat.min_le_right _ _)
     obtain⟨w',hr,ho',hg⟩:=qV (P:=S.P) 0 (news.take (min ys.length n*C.n)) 0 w vs how (by rw [hcl];omega) (bR.one hcs)
     refine dD (w':=w') (v:=.int .i64 (min ys.length n:Nat)) ?_ (hkk _ M w' (nP.refl M) (h.put hi hg ⟨⟨_,ho',?_⟩,hnone⟩ (.inl rfl)) (by rw [hn];rfl))
     ·simp [execOp,ho,resolve,invoke,builtin,hx,hys,sv,Builtin.copy_,run_underlying ht.u,Builtin.lenOf,Builtin.firstCells,sizeOf,typeInfo,hit,hs1,hload,hr,goInt]
     ·simp only [Nat.zero_add,List.take_zero,List.nil_append,hcl]
      unfold zC
      rw [hn,aCp]
      refine hcs.app ?_
      have:=hall.drop (min ys.length n*C.n)
      rwa [show(hO C (some b) c T n xs).ps=flat C xs from rfl,(aBa C xs _).2] at this
theorem t_cp {α:Type} {C:Cd α} {xs ys:List α} {t bytes n c T:Nat} {β:Option Nat} {x y:Operand} (i:Nat) (ho:o.op=.call {callee:=.builtin .copy,args:=#[x,y],argTypes:=#[t,t]}) (ht:yJ S.P t T C.n bytes) (hi:H[i]?=some (hO C β c T n xs)) (hn:xs.length=n) (hH:uE H i (hO C β c T n (zC xs ys))=some H'):
  Tr S o H H' [(x,.vc (pO β n c)),(y,.vc (pS C ys))] (.vc (pI .i64 (min ys.length xs.length:Nat))):=
 aFQ i (fun M w v h hv=>aAH h hv) ho ht hi hn hH
theorem aF3 {α:Type} {C:Cd α} {ys:List α} {M:mX} {w:World} {T n c j:Nat} {β:Option Nat} (h:St S M w H) (hj:H[j]?=some (hO C β c T n ys)) (hn:ys.length=n) {v:Value} (hv:(pO β n c).h M v):(ys=[]∧∃p c,v=.slice p 0 c)∨∃ad c news,0<ys.length∧v=.slice (some ad) ys.length c∧news.length=ys.length*C.n∧(∀(j:Nat) u,news[j]?=some u→w.cell? (ad.add j)=some u)∧bR M (flat C ys) news:=by
 rcases hv with rfl|⟨_,h0,_,a,rfl⟩
 rotate_left
 ·exact .inl ⟨List.eq_nil_of_length_eq_zero (by omega),_,_,rfl⟩
 by_cases h0:n=0
 ·subst h0
  exact .inl ⟨List.eq_nil_of_length_eq_zero hn,_,_,rfl⟩
 obtain⟨⟨vs,how,hall⟩,hnone⟩:=h.own _ (List.mem_of_getElem? hj)
 rcases how.2 with⟨h3,h4⟩|⟨g,cap,cur,h3,_⟩
 ·exact absurd h4 h0
 cases hb:β with
 |none=>rw [hb] at h3;simp [sv] at h3
 |some b=>
  subst hb
  have hl:vs.length=ys.length*C.n:=by rw [hall.len];exact xF C ys
  refine .inr ⟨⟨b,0,none⟩,c,vs,by omega,by rw [hn];rfl,hl,fun k u hk=>?_,hall⟩
  have hlt:=(List.getElem?_eq_some_iff.1 hk).1
  rw [tL,Nat.zero_add,World.ownsRow.cellAt (g:=b) (cap:=c) how k (by rw [←how.1];exact hlt)]
  exact hk
theorem aGL {α:Type} {C:Cd α} {xs ys:List α} {t bytes n c T n' c' T':Nat} {β β':Option Nat} {x y:Operand} (i j:Nat) (ho:o.op=.call {callee:=.builtin .copy,args:=#[x,y],argTypes:=#[t,t]}) (ht:yJ S.P t T C.n bytes) (hi:H[i]?=some (hO C β c T n xs)) (hn:xs.length=n) (hj:H[j]?=some (hO C β' c' T' n' ys)) (hn':ys.length=n') (hH:uE H i (hO C β c T n (zC xs ys))=some H'):
  Tr S o H H' [(x,.vc (pO β n c)),(y,.vc (pO β' n' c'))] (.vc (pI .i64 (min ys.length xs.length:Nat))):=
 aFQ i (fun M w v h hv=>aF3 h hj hn' hv) ho ht hi hn hH
theorem aFL {x y:Operand} {u v:Int} {ts:Array TypeId} (ho:o.op=.call {callee:=.builtin .max,args:=#[x,y],argTypes:=ts}):Tr S o H H [(x,.vc (pI .i64 u)),(y,.vc (pI .i64 v))] (.vc (pI .i64 (max u v))):=by
 refine⟨fun M w a hs hin K Q hk=>?_⟩
 have hx:a.eval x=.int .i64 u:=hin.1
 have hy:a.eval y=.int .i64 v:=hin.2.1
 have e:(if v>u then v else u)=max u v:=by split<;>omega
 refine dD (v:=.int .i64 (max u v)) ?_ (hk _ M w (nP.refl M) hs rfl)
 simp [execOp,ho,resolve,invoke,builtin,hx,hy,Builtin.max_,Builtin.max2,e]
def rQ (e:Edge):Bool:=Region.binds .any e
def aEC (ms:List Nat) (o:Oper):Nat:=o.after.toList.foldl (fun s e=>bif rQ e then s|||(2^e.on|||ms.getD e.on 0) else s) 0
def xT (ms:List Nat):List Oper→List Nat→Bool
 |o::l,m::r=>Nat.beq (aEC ms o) m&&xT ms l r
 |[],[]=>true
 |_,_=>false
theorem aBc {ms:List Nat}:∀{l:List Oper} {r:List Nat},xT ms l r=true→∀(i:Nat),(∀o,l[i]?=some o→r[i]?=some (aEC ms o))∧(l[i]?=none→r[i]?=none)
 |[],[],_,i=>⟨fun o h=>by simp at h,fun _=>by simp⟩
 |o::l,m::r,h,i=>by
  simp only [xT,Bool.and_eq_true] at h
  cases i with
  |zero=>exact⟨fun o' ho=>by simp at ho;subst ho;simp [Nat.eq_of_beq_eq_true h.1],fun hn=>by simp at hn⟩
  |succ i=>simpa using aBc h.2 i
 |[],_::_,h,_=>by simp [xT] at h
 |_::_,[],h,_=>by simp [xT] at h
def sT:List Oper→Nat→Bool
 |[],_=>true
 |o::l,i=>o.after.toList.all (fun e=>!rQ e||Nat.blt e.on i)&&sT l (i+1)
structure Clo (ops:List Oper) (L:Nat→Prop):Prop where
 h:∀(i:Nat) o,ops[i]?=some o→L i→∀e∈o.after.toList,rQ e=true→L e.on
theorem aBJ {ms:List Nat} {j:Nat}:∀(es:List Edge) (s:Nat),(es.foldl (fun s e=>bif rQ e then s|||(2^e.on|||ms.getD e.on 0) else s) s).testBit j=true→
  s.testBit j=true∨∃e∈es,rQ e=true∧(e.on=j∨(ms.getD e.on 0).testBit j=true)
 |[],s,h=>.inl h
 |e::es,s,h=>by
  simp only [List.foldl_cons] at h
  rcases aBJ es _ h with h1|⟨e',he,hb,hj⟩
  ·cases hb:rQ e with
   |false=>rw [hb] at h1;simp at h1;exact .inl h1
   |true=>
    rw [hb] at h1
    simp only [cond_true,Nat.testBit_or,Bool.or_eq_true] at h1
    rcases h1 with h1|h1|h1
    ·exact .inl h1
    ·refine .inr ⟨e,by simp,hb,.inl ?_⟩
     simpa [Nat.testBit_two_pow] using h1
    ·exact .inr ⟨e,by simp,hb,.inr h1⟩
  ·exact .inr ⟨e',by simp [he],hb,hj⟩
theorem aBL:∀{l:List Oper} {k:Nat},sT l k=true→∀(i:Nat) o,l[i]?=some o→∀e∈o.after.toList,rQ e=true→e.on<k+i
 |[],_,_,i,o,ho=>by simp at ho
 |x::l,k,hk,i,o,ho=>by
  intro e he hbe
  simp only [sT,Bool.and_eq_true] at hk
  cases i with
  |zero=>
   simp at ho;subst ho
   have:=List.all_eq_true.1 hk.1 e he
   rw [hbe] at this
   simpa using this
  |succ i=>
   have:=aBL hk.2 i o (by simpa using ho) e he hbe
   omega
theorem uT {L:Nat→Prop} {l:List Oper} {ms:List Nat} (hm:xT ms l ms=true) (hb:sT l 0=true) (i j:Nat) (hbit:(ms.getD i 0).testBit j=true) (hd:∀o,l[i]?=some o→∀e∈o.after.toList,rQ e=true→L e.on) (hc:Clo l L):L j:=by
 induction i using Nat.strongRecOn generalizing j with
 |_ i ih=>
  cases ho:l[i]? with
  |none=>
   rw [List.getD_eq_getElem?_getD,(aBc hm i).2 ho] at hbit
   simp at hbit
  |some o=>
   rw [List.getD_eq_getElem?_getD,(aBc hm i).1 o ho] at hbit
   rcases aBJ _ _ hbit with h1|⟨e,he,hbe,hj⟩
   ·simp at h1
   ·have hon:=hd o ho e he hbe
    have hlt:=aBL hb i o ho e he hbe
    rw [Nat.zero_add] at hlt
    rcases hj with rfl|hj
    ·exact hon
    ·exact ih e.on hlt j hj (fun o' ho' e' he' hb'=>hc.h e.on o' ho' hon e' he' hb')
def tF (d:Nat):List Oper→Nat→Option Nat
 |[],_=>none
 |o::l,i=>match o.dst with
  |some x=>bif Nat.beq x d then some i else tF d l (i+1)
  |none=>tF d l (i+1)
theorem tE {d:Nat}:∀{l:List Oper} {i:Nat},tF d l i=none→∀(j:Nat) o,l[j]?=some o→o.dst≠some d
 |[],_,_,j,o,ho=>by simp at ho
 |x::l,i,h,j,o,ho=>by
  simp only [tF] at h
  cases hx:x.dst with
  |none=>
   rw [hx] at h
   cases j with
   |zero=>simp at ho;subst ho;rw [hx];simp
   |succ j=>exact tE h j o (by simpa using ho)
  |some y=>
   rw [hx] at h
   cases hb:Nat.beq y d with
   |true=>simp [hb] at h
   |false=>
    simp only [hb,cond_false] at h
    cases j with
    |zero=>
     simp at ho;subst ho;rw [hx]
     intro e
     simp only [Option.some.injEq] at e
     subst e;simp at hb
    |succ j=>exact tE h j o (by simpa using ho)
theorem vN {d:Nat}:∀{l:List Oper} {i k:Nat},tF d l i=some k→i≤k∧∃o,l[k-i]?=some o∧o.dst=some d
 |[],_,_,h=>by simp [tF] at h
 |x::l,i,k,h=>by
  simp only [tF] at h
  cases hx:x.dst with
  |none=>
   rw [hx] at h
   obtain⟨h1,o,h2,h3⟩:=vN h
   exact⟨by omega,o,by rw [show k-i=(k-(i+1))+1 by omega];simpa using h2,h3⟩
  |some y=>
   rw [hx] at h
   cases hb:Nat.beq y d with
   |true=>
    simp only [hb,cond_true,Option.some.injEq] at h
    subst h
    exact⟨Nat.le_refl _,x,by simp,by rw [hx,Nat.eq_of_beq_eq_true hb]⟩
   |false=>
    simp only [hb,cond_false] at h
    obtain⟨h1,o,h2,h3⟩:=vN h
    exact⟨by omega,o,by rw [show k-i=(k-(i+1))+1 by omega];simpa using h2,h3⟩
def wT:List Oper→Bool
 |[]=>true
 |o::l=>(match o.dst with
  |some d=>(tF d l 0).isNone
  |none=>true)&&wT l
theorem aBb:∀{l:List Oper},wT l=true→∀{i j:Nat} {x y:Oper} {d:Nat},l[i]?=some x→l[j]?=some y→x.dst=some d→y.dst=some d→i=j
 |[],_,i,j,x,y,d,hi,_,_,_=>by simp at hi
 |o::l,h,i,j,x,y,d,hi,hj,hx,hy=>by
  simp only [wT,Bool.and_eq_true] at h
  have hno:∀(k:Nat) z,l[k]?=some z→o.dst=some d→z.dst=some d→False:=by
   intro k z hk ho hz
   have h1:=h.1
   rw [ho] at h1
   simp only [Option.isNone_iff_eq_none] at h1
   exact tE h1 k z hk hz
  cases i with
  |zero=>
   cases j with
   |zero=>rfl
   |succ j=>
    simp at hi hj
    subst hi
    exact(hno j y hj hx hy).elim
  |succ i=>
   cases j with
   |zero=>
    simp at hi hj
    subst hj
    exact(hno i x hi hy hx).elim
   |succ j=>simp at hi hj;exact congrArg (·+1) (aBb h.2 hi hj hx hy)
inductive Ou
 |v (p:VP)
 |a (T:Nat) (zs:List CP)
 |g (f:Option Nat→Nat→VP)
abbrev Gh:Type:=Nat→Option Nat×Nat
def Gh.set (G:Gh) (i:Nat) (x:Option Nat×Nat):Gh:=fun j=>bif Nat.beq j i then x else G j
def Ou.val? (G:Gh) (j:Nat):Option Ou→Option VP
 |some (.v p)=>some p
 |some (.g f)=>some (f (G j).1 (G j).2)
 |_=>none
def vO (ops:List Oper) (ms:List Nat) (E:qS) (outs:List Ou) (G:Gh) (i d:Nat):Option VP:=
 match tF d ops 0 with
 |none=>iU E d
 |some j=>bif(ms.getD i 0).testBit j then Ou.val? G j outs[j]? else bif(ms.getD j 0).testBit i then iU E d else none
def aGU (ops:List Oper) (ms:List Nat) (E:qS) (outs:List Ou) (G:Gh) (i:Nat):Operand→VP→Prop
 | .tmp d,p=>vO ops ms E outs G i d=some p
 | .const v,p=>∀M,p.h M v
 | .func f,p=>∀M,p.h M (.func (.func f) #[] #[])
 | .global _,_=>False
def aBy (ops:List Oper) (ms:List Nat) (E:qS) (outs:List Ou) (G:Gh) (i:Nat):List (Operand×VP)→Prop
 |[]=>True
 |(x,p)::l=>aGU ops ms E outs G i x p∧aBy ops ms E outs G i l
def exM:List Nat→Nat→Nat→Bool
 |[],_,_=>false
 |j::hv,m,k=>bif Nat.beq j k then Nat.beq (m%2) 1 else exM hv (m/2) k
def z7:List Nat→Nat→Nat
 |[],_=>0
 |j::hv,i=>bif Nat.beq j i then 1 else 2*z7 hv i
def aCF (f:Nat→Bool):List Nat→Bool
 |[]=>true
 |j::l=>f j&&aCF f l
theorem aBv {f:Nat→Bool}:∀{l:List Nat},(∀j∈l,f j=true)→aCF f l=true
 |[],_=>rfl
 |j::l,h=>by
  show(f j&&aCF f l)=true
  rw [h j List.mem_cons_self,aBv fun k hk=>h k (List.mem_cons_of_mem _ hk)];rfl
def aGf (ms hv:List Nat) (i m:Nat):Bool:=aCF (fun j=>(!(ms.getD i 0).testBit j||exM hv m j)&&((!(Nat.beq j i||(ms.getD j 0).testBit i)||!exM hv m j)&&(!exM hv m j||aCF (fun k=>!(ms.getD j 0).testBit k||exM hv m k) hv))) hv
def aFm (m:Nat):List Nat→Bool
 |[]=>false
 |x::l=>Nat.beq x m||aFm m l
theorem aCf {m:Nat}:∀{l:List Nat},aFm m l=true→m∈l
 |[],h=>by cases h
 |x::l,h=>by
  have h':(Nat.beq x m||aFm m l)=true:=h
  rcases Bool.or_eq_true _ _▸h' with h1|h1
  ·rw [Nat.eq_of_beq_eq_true h1];exact List.mem_cons_self
  ·exact List.mem_cons_of_mem _ (aCf h1)
def upB (f:Nat→Bool):Nat→Bool
 |0=>true
 |n+1=>upB f n&&f n
theorem aEA {f:Nat→Bool}:∀{n m:Nat},upB f n=true→m<n→f m=true
 |0,m,_,h=>by omega
 |n+1,m,h,hm=>by
  have h':(upB f n&&f n)=true:=h
  rw [Bool.and_eq_true] at h'
  by_cases e:m=n
  ·rw [e];exact h'.2
  ·exact aEA h'.1 (by omega)
def aB2 (ms hv:List Nat) (i:Nat) (L:List Nat):Bool:=upB (fun m=>!aGf ms hv i m||aFm m L) (2^hv.length)
def aCQ (Φ:Nat→Prop):List Nat→Prop
 |[]=>True
 |m::L=>Φ m∧aCQ Φ L
theorem aCQ.at {Φ:Nat→Prop}:∀{L:List Nat},aCQ Φ L→∀m,m∈L→Φ m
 |[],_,m,h=>by cases h
 |x::L,h,m,hm=>by
  rcases List.mem_cons.1 hm with e|e
  ·rw [e];exact h.1
  ·exact aCQ.at h.2 m e
inductive DOp (S:Sx) (Hs:Gh→Nat→List HA) (hv:List Nat) (ops:List Oper) (ms:List Nat) (E:qS) (outs:List Ou) (i:Nat) (o:Oper):Ou→Prop
 |run {out:VP} {ins:Gh→List (Operand×VP)} {L:List Nat} (t:aCQ (fun s=>∀G A,Tr S o (Hs G s++A) (Hs G s++A) (ins G) out) L) (hs:∀G,aBy ops ms E outs G i (ins G)) (hg:o.guard=none:=by rfl) (h1:aB2 ms hv i L=true:=by rfl) (h3:hv.contains i=false:=by rfl):DOp S Hs hv ops ms E outs i o (.v out)
 |runG {out:VP} {ins:Gh→List (Operand×VP)} {L:List Nat} {j d:Nat} {b:Bool} (t:aCQ (fun s=>∀G A,Tr S o (Hs G s++A) (Hs G s++A) (ins G) out) L) (hs:∀G,aBy ops ms E outs G i (ins G)) (hg:o.guard=some (j,b):=by rfl) (hd:(ops[j]?).bind (·.dst)=some d:=by rfl) (hl:∀G,vO ops ms E outs G i d=some (.vc (pB b)):=by intro;rfl) (h1:aB2 ms hv i L=true:=by rfl) (h3:hv.contains i=false:=by rfl):DOp S Hs hv ops ms E outs i o (.v out)
 |skip {j d:Nat} {b b':Bool} (hg:o.guard=some (j,b):=by rfl) (hd:(ops[j]?).bind (·.dst)=some d:=by rfl) (hl:∀G,vO ops ms E outs G i d=some (.vc (pB b')):=by intro;rfl) (hb:(b' != b)=true:=by rfl) (h3:hv.contains i=false:=by rfl):DOp S Hs hv ops ms E outs i o (.v .any)
 |skipN {j d:Nat} {b b':Bool} (hg:o.guard=some (j,b):=by rfl) (hd:(ops[j]?).bind (·.dst)=some d:=by rfl) (hl:∀G,vO ops ms E outs G i d=some (.vc (pB b')):=by intro;rfl) (hb:(b' != b)=true:=by rfl) (h3:hv.contains i=false:=by rfl):DOp S Hs hv ops ms E outs i o (.v .un)
 |skipU {j d:Nat} {b:Bool} (hg:o.guard=some (j,b):=by rfl) (hd:(ops[j]?).bind (·.dst)=some d:=by rfl) (hl:∀G,vO ops ms E outs G i d=some .un:=by intro;rfl) (h3:hv.contains i=false:=by rfl):DOp S Hs hv ops ms E outs i o (.v .un)
 |alc {T:Nat} {zs:List CP} (hz:zL S.P T zs) (ho:o.op=.alloc T:=by rfl) (hg:o.guard=none:=by rfl) (h3:hv.contains i=false:=by rfl):DOp S Hs hv ops ms E outs i o (.a T zs)
 |hvy {out:Option Nat→Nat→VP} {ins:Gh→List (Operand×VP)} (L:List Nat) (t:aCQ (fun s=>∀G A,Hv S o (Hs G s++A) (fun b c=>Hs (G.set i (b,c)) (s+z7 hv i)++A) (ins G) out) L) (hs:∀G,aBy ops ms E outs G i (ins G)) (hg:o.guard=none:=by rfl) (h1:aB2 ms hv i L=true:=by kernel_rfl) (h3:hv.contains i=true:=by rfl):DOp S Hs hv ops ms E outs i o (.g out)
def aBW (S:Sx) (Hs:Gh→Nat→List HA) (hv:List Nat) (ops:List Oper) (ms:List Nat) (E:qS) (outs:List Ou):Nat→List Oper→List Ou→Prop
 |_,_,[]=>True
 |i,o::l,out::r=>(o.dst.all (Nat.blt · S.N)=true∧DOp S Hs hv ops ms E outs i o out)∧aBW S Hs hv ops ms E outs (i+1) l r
 |_,[],_::_=>False
theorem aBW.at {S:Sx} {Hs:Gh→Nat→List HA} {hv:List Nat} {ops:List Oper} {ms:List Nat} {E:qS} {outs:List Ou}:∀{k:Nat} {l:List Oper} {r:List Ou},aBW S Hs hv ops ms E outs k l r→∀(i:Nat) out,r[i]?=some out→∃o,l[i]?=some o∧o.dst.all (Nat.blt · S.N)=true∧DOp S Hs hv ops ms E outs (k+i) o out
 |_,_,[],_,i,out,h=>by simp at h
 |k,o::l,out::r,h,0,out',h'=>by
  simp at h';subst h';exact⟨o,rfl,h.1.1,h.1.2⟩
 |k,o::l,out::r,h,i+1,out',h'=>by
  obtain⟨o',h1,h2,h3⟩:=aBW.at h.2 i out' (by simpa using h')
  exact⟨o',by simpa using h1,h2,by rwa [show k+(i+1)=k+1+i by omega]⟩
 |_,[],_::_,h,_,_,_=>h.elim
def Ou.vp (bs:Nat→Nat) (G:Gh) (i:Nat):Ou→VP
 | .v p=>p
 | .a _ _=>.vc (pP (some (bs i)) 0)
 | .g f=>f (G i).1 (G i).2
def xJ (outs:List Ou) (bs:Nat→Nat) (i:Nat):HA:=
 match outs[i]? with
 |some (.a T zs)=>⟨some (bs i),1,T,zs.length,1,zs⟩
 |_=>⟨some (bs i),1,0,0,1,[]⟩
def yX (ops:List Oper) (ms:List Nat) (m:Nat):Nat→Bool
 |0=>true
 |n+1=>yX ops ms m n&&Nat.beq ((ms.getD (m+n) 0)&&& (2^(m+n)-1)) (2^(m+n)-1)
theorem z6 {ops:List Oper} {ms:List Nat} {m:Nat}:∀{n:Nat},yX ops ms m n=true→∀t,t<n→∀j,j<m+t→(ms.getD (m+t) 0).testBit j=true
 |0,_,t,ht,_,_=>by omega
 |n+1,h,t,ht,j,hj=>by
  simp only [yX,Bool.and_eq_true] at h
  by_cases e:t=n
  ·subst e
   have h2:=Nat.eq_of_beq_eq_true h.2
   have h3:(2^(m+t)-1).testBit j=true:=by simp [Nat.testBit_two_pow_sub_one,hj]
   rw [←h2,Nat.testBit_and,Bool.and_eq_true] at h3
   exact h3.1
  ·exact z6 h.1 t (by omega) j hj
def uA:List Nat→Array Bool→Nat
 |[],_=>0
 |j::hv,l=>(bif l.getD j false then 1 else 0)+2*uA hv l
theorem aCy {l:Array Bool}:∀{hv:List Nat} {j:Nat},j∈hv→exM hv (uA hv l) j=l.getD j false
 |[],j,h=>by cases h
 |x::hv,j,h=>by
  show(bif Nat.beq x j then Nat.beq (((bif l.getD x false then 1 else 0)+2*uA hv l)%2) 1 else exM hv (((bif l.getD x false then 1 else 0)+2*uA hv l)/2) j)=l.getD j false
  cases hb:Nat.beq x j with
  |true=>
   have:=Nat.eq_of_beq_eq_true hb
   subst this
   cases l.getD x false
   ·show Nat.beq ((0+2*uA hv l)%2) 1=false
    rw [show(0+2*uA hv l)%2=0 by omega];rfl
   ·show Nat.beq ((1+2*uA hv l)%2) 1=true
    rw [show(1+2*uA hv l)%2=1 by omega];rfl
  |false=>
   have hx:j∈hv:=by
    rcases List.mem_cons.1 h with e|e
    ·subst e;rw [Nat.beq_refl] at hb;cases hb
    ·exact e
   have e:((bif l.getD x false then 1 else 0)+2*uA hv l)/2=uA hv l:=by cases l.getD x false<;>simp only [cond_true,cond_false]<;>omega
   show exM hv _ j=_
   rw [e];exact aCy hx
theorem aEN (l:Array Bool):∀hv:List Nat,uA hv l<2^hv.length
 |[]=>by simp [uA]
 |x::hv=>by
  have:=aEN l hv
  show(bif l.getD x false then 1 else 0)+2*uA hv l<2^(hv.length+1)
  rw [Nat.pow_succ]
  cases l.getD x false<;>simp only [cond_true,cond_false]<;>omega
theorem aB9 {l:Array Bool}:∀{hv:List Nat},(∀j∈hv,l.getD j false=false)→uA hv l=0
 |[],_=>rfl
 |x::hv,h=>by
  show(bif l.getD x false then 1 else 0)+2*uA hv l=0
  rw [h x List.mem_cons_self,aB9 fun j hj=>h j (List.mem_cons_of_mem _ hj)];rfl
theorem aB8 {l:Array Bool}:∀{hv:List Nat},(∀j∈hv,l.getD j false=true)→uA hv l=2^hv.length-1
 |[],_=>rfl
 |x::hv,h=>by
  show(bif l.getD x false then 1 else 0)+2*uA hv l=2^(hv.length+1)-1
  rw [h x List.mem_cons_self,aB8 fun j hj=>h j (List.mem_cons_of_mem _ hj),Nat.pow_succ]
  have:=Nat.two_pow_pos hv.length
  simp only [cond_true];omega
theorem aCr {l l':Array Bool}:∀{hv:List Nat},(∀j∈hv,l'.getD j false=l.getD j false)→uA hv l'=uA hv l
 |[],_=>rfl
 |x::hv,h=>by
  show(bif l'.getD x false then 1 else 0)+2*uA hv l'=(bif l.getD x false then 1 else 0)+2*uA hv l
  rw [h x List.mem_cons_self,aCr fun j hj=>h j (List.mem_cons_of_mem _ hj)]
theorem aDc {l l':Array Bool} {i:Nat} (hu:l.getD i false=false) (hs:∀j,l'.getD j false=if j=i then true else l.getD j false):∀{hv:List Nat},hv.Nodup→uA hv l'=uA hv l+z7 hv i
 |[],_=>rfl
 |x::hv,h=>by
  obtain⟨hx,hn⟩:=List.nodup_cons.1 h
  show(bif l'.getD x false then 1 else 0)+2*uA hv l'=(bif l.getD x false then 1 else 0)+2*uA hv l+(bif Nat.beq x i then 1 else 2*z7 hv i)
  cases hb:Nat.beq x i with
  |true=>
   have:=Nat.eq_of_beq_eq_true hb
   subst this
   have hne:∀j∈hv,j≠x:=fun j hj e=>hx (by rw [←e];exact hj)
   rw [hs x,if_pos rfl,hu,aCr (l:=l) (l':=l') fun j hj=>by rw [hs j,if_neg (hne j hj)]]
   simp only [cond_true,cond_false];omega
  |false=>
   have hne:x≠i:=fun e=>by subst e;rw [Nat.beq_refl] at hb;cases hb
   rw [hs x,if_neg hne,aDc hu hs hn]
   simp only [cond_false];omega
theorem aBT {i:Nat}:∀{hv:List Nat},hv.contains i=false→z7 hv i=0
 |[],_=>rfl
 |x::hv,h=>by
  have h1:i∉x::hv:=fun hm=>by
   have:(x::hv).contains i=true:=by simpa using hm
   rw [h] at this;cases this
  show(bif Nat.beq x i then 1 else 2*z7 hv i)=0
  have hb:Nat.beq x i=false:=by
   cases hq:Nat.beq x i
   ·rfl
   ·exact absurd (Nat.eq_of_beq_eq_true hq▸List.mem_cons_self) h1
  rw [hb,aBT (by simpa using fun hm=>h1 (List.mem_cons_of_mem _ hm))];rfl
structure DI (S:Sx) (Hs:Gh→Nat→List HA) (hv:List Nat) (ops:List Oper) (E:qS) (outs:List Ou) (listed:Array Bool) (a:Act) (w:World):Prop where
 sz:listed.size=ops.length
 clo:Clo ops (fun i=>listed.getD i false=true)
 pre:∀i,listed.getD i false=true→i<outs.length
 st:∃(M:mX) (bs:Nat→Nat) (ord:List Nat) (G:Gh),St S M w (Hs G (uA hv listed)++ord.map (xJ outs bs))∧ord.Nodup∧(∀(i T:Nat) (zs:List CP),outs[i]?=some (.a T zs)→listed.getD i false=true→i∈ord)∧(∀i∈ord,listed.getD i false=true)∧
  a.tmps.size=S.N∧a.defers=[]∧
  (∀(i:Nat) out o d,outs[i]?=some out→ops[i]?=some o→o.dst=some d→listed.getD i false=true→∃v,a.tmps[d]?=some v∧(out.vp bs G i).h M v)∧
  (∀d p,iU E d=some p→(∀(i:Nat) o,ops[i]?=some o→o.dst=some d→listed.getD i false=false)→∃v,a.tmps[d]?=some v∧p.h M v)
theorem yG {ops:Array Oper} {listed:Array Bool} {i:Nat} (h:i∈Region.ready .any ops listed) (hs:listed.size=ops.size):listed.getD i false=false∧i<ops.size∧∃o,ops[i]?=some o∧∀e∈o.after.toList,rQ e=true→listed.getD e.on false=true:=by
 unfold Region.ready at h
 obtain⟨h1,h2⟩:=List.mem_filter.1 h
 have hi:i<ops.size:=List.mem_range.1 h1
 simp only [Bool.and_eq_true] at h2
 refine⟨?_,hi,ops[i],by simp [hi],fun e he hb=>?_⟩
 ·have:=h2.1
  have hl:i<listed.size:=by omega
  simp only [Array.getD_eq_getD_getElem?,Array.getElem?_eq_getElem hl,Option.getD_some] at this ⊢
  simpa using this
 ·have h3:=h2.2
  simp only [Array.getElem?_eq_getElem hi,Option.map_some,Option.getD_some] at h3
  have h4:=Array.all_eq_true'.1 h3 e (by simpa using he)
  unfold rQ at hb
  simpa [hb] using h4
end
end Go.Proofs.YtcjdedkdoagifaaGreat
