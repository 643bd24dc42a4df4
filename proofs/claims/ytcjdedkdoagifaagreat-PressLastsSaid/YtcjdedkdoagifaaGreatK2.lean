/- The predicates on cells, how the state moves, and the rules for the operations that make and read memory. -/
import Derived.Test.YtcjdedkdoagifaaGreatK1
set_option linter.unusedVariables false
namespace Go.Proofs.YtcjdedkdoagifaaGreat
def pI (k:IntKind) (x:Int):CP:=⟨fun _ v=>v=.int k x,fun _ h=>h,fun h=>by subst h;rfl⟩
def pB (b:Bool):CP:=⟨fun _ v=>v=.bool b,fun _ h=>h,fun h=>by subst h;rfl⟩
def pP (β:Option Nat) (off:Nat):CP:=⟨fun _ v=>∃b,β=some b∧v=.pointer (some ⟨b,off,none⟩),fun _ h=>h,fun h=>by obtain⟨b,_,rfl⟩:=h;rfl⟩
def pO (β:Option Nat) (n c:Nat):CP:=⟨fun _ v=>v=sv β n c∨(β=none∧n=0∧c=0∧∃a,v=.slice (some a) 0 0),fun _ h=>h,fun h=>by rcases h with rfl|⟨_,_,_,a,rfl⟩<;>rfl⟩
def pF (f:Nat) (ps:List CP):CP:=⟨fun M v=>∃vs:List Value,v=.func (.func f) #[] vs.toArray∧bR M ps vs,fun hm ⟨vs,e,h⟩=>⟨vs,e,bR.mono hm h⟩,fun h=>by obtain⟨vs,rfl,_⟩:=h;rfl⟩
def tK (M:mX) (b o:Nat) (ps:List CP):Prop:=∃vs,bR M ps vs∧∀(t:Nat) u,vs[t]?=some u→t8 M b (o+t)=some u
theorem tK.mono {M M':mX} (hm:nP M M') {b o:Nat} {ps:List CP} (h:tK M b o ps):tK M' b o ps:=
 let ⟨vs,h1,h2⟩:=h;⟨vs,bR.mono hm h1,fun t u e=>aCI hm (h2 t u e)⟩
theorem tK.drop {M:mX} {b o:Nat} {ps:List CP} (k:Nat) (h:tK M b o ps):tK M b (o+k) (ps.drop k):=by
 obtain⟨vs,h1,h2⟩:=h
 refine⟨vs.drop k,h1.drop k,fun t u e=>?_⟩
 rw [List.getElem?_drop] at e
 have:=h2 _ u e
 rwa [←Nat.add_assoc] at this
def pM (ps:List CP):CP:=⟨fun M v=>∃b o,v=.pointer (some ⟨b,o,none⟩)∧tK M b o ps,fun hm ⟨b,o,e,h⟩=>⟨b,o,e,h.mono hm⟩,fun h=>by obtain⟨b,o,rfl,_⟩:=h;rfl⟩
structure Cd (α:Type) where
 n:Nat
 e:α→List CP
 len:∀x,(e x).length=n
def vJ:Nat:=9223372036854775807
def pS {α:Type} (C:Cd α) (xs:List α):CP:=
 ⟨fun M v=>∃p c,v=.slice p xs.length c∧xs.length≤vJ∧xs.length≤c∧∀(j:Nat) x,xs[j]?=some x→∃b o,p=some ⟨b,o,none⟩∧tK M b (o+j*C.n) (C.e x),
  fun hm ⟨p,c,e,h1,h2,h3⟩=>⟨p,c,e,h1,h2,fun j x hx=>let ⟨b,o,e1,e2⟩:=h3 j x hx;⟨b,o,e1,e2.mono hm⟩⟩,
  fun h=>by obtain⟨p,c,rfl,_⟩:=h;rfl⟩
def flat {α:Type} (C:Cd α) (xs:List α):List CP:=xs.flatMap C.e
theorem xF {α:Type} (C:Cd α) (xs:List α):(flat C xs).length=xs.length*C.n:=by
 induction xs with
 |nil=>simp [flat]
 |cons x xs ih=>simp only [flat,List.flatMap_cons,List.length_append,List.length_cons] at *;rw [ih,C.len,Nat.add_mul];omega
theorem xL {α:Type} (C:Cd α) (xs:List α):∀(j:Nat) (x:α),xs[j]?=some x→((flat C xs).drop (j*C.n)).take C.n=C.e x:=by
 induction xs with
 |nil=>intro j x h;simp at h
 |cons y ys ih=>
  intro j x h
  simp only [flat,List.flatMap_cons]
  cases j with
  |zero=>
   simp only [List.getElem?_cons_zero,Option.some.injEq] at h
   subst h
   have e:C.n=(C.e y).length:=(C.len y).symm
   rw [Nat.zero_mul,List.drop_zero,e,List.take_left]
  |succ j=>
   simp only [List.getElem?_cons_succ] at h
   have:=ih j x h
   rw [Nat.add_mul,Nat.one_mul,Nat.add_comm,←List.drop_drop]
   have e:C.n=(C.e y).length:=(C.len y).symm
   conv=>lhs;rw [show List.drop C.n (C.e y++List.flatMap C.e ys)=List.flatMap C.e ys by rw [e];exact List.drop_left]
   exact this
theorem aCp {α:Type} (C:Cd α) (xs ys:List α):flat C (xs++ys)=flat C xs++flat C ys:=by simp [flat]
theorem aEE (β:Option Nat) (n c:Nat):(sv β n c).ownBlock=β:=by cases β<;>rfl
theorem aGy {w:World} {e:TypeId} {sz n c b:Nat} {vs:List Value} (h:w.ownsRow 0 e sz (sv (some b) n c) n vs):b<w.heap.size:=(h.lt b rfl).2
theorem HA.ok.kept {e:HA} {M:mX} {w w':World} {row:Option Nat} (h:e.ok M w) (hg:w.grownBy w' row) (hne:∀b,e.β=some b→row≠some b):e.ok M w':=by
 obtain⟨⟨vs,h1,h2⟩,h3⟩:=h
 refine⟨⟨vs,h1.kept hg ?_,h2⟩,h3⟩
 rw [aEE]
 cases hb:e.β with
 |none=>exact .inl rfl
 |some b=>exact .inr fun x=>hne b hb x.symm
theorem HA.ok.lt {e:HA} {M:mX} {w:World} (h:e.ok M w) {b:Nat} (hb:e.β=some b):b<w.heap.size:=by
 obtain⟨⟨vs,h1,_⟩,_⟩:=h
 rw [hb] at h1
 exact aGy h1
theorem HA.ok.mem {e:HA} {M M':mX} {w:World} (h:e.ok M w) (hm:nP M M') (hn:∀b,e.β=some b→M' b=none):e.ok M' w:=
 let ⟨⟨vs,h1,h2⟩,_⟩:=h;⟨⟨vs,h1,bR.mono hm h2⟩,hn⟩
theorem Mok.lt {M:mX} {w:World} (h:Mok M w) {b:Nat} {o:Obj} (hb:M b=some o):b<w.heap.size:=(Array.getElem?_eq_some_iff.1 (h b o hb)).1
theorem Mok.none {M:mX} {w:World} (h:Mok M w) {b:Nat} (hb:w.heap.size≤b):M b=none:=by
 cases e:M b with
 |none=>rfl
 |some o=>have:=h.lt e;omega
section
variable {S:Sx} {M:mX} {w:World} {H:List HA}
theorem St.put {w':World} {i:Nat} {e e':HA} (h:St S M w H) (hi:H[i]?=some e) (hg:w.grownBy w' e.β) (hok:e'.ok M w')
  (hβ:e'.β=e.β∨∀b,e'.β=some b→w.heap.size≤b):St S M w' (H.set i e'):=by
 have hmem:e∈H:=List.mem_of_getElem? hi
 have hil:i<H.length:=(List.getElem?_eq_some_iff.1 hi).1
 have hold:∀b,b<w.heap.size→e.β≠some b→w'.heap[b]?=w.heap[b]?:=fun b hb hne=>hg.block b hb fun x=>hne x.symm
 have hget:∀(j:Nat) x,(H.set i e')[j]?=some x→(j=i∧x=e')∨(j≠i∧H[j]?=some x):=by
  intro j x hx
  rw [List.getElem?_set] at hx
  by_cases hj:i=j
  ·subst hj
   simp [hil] at hx
   exact .inl ⟨rfl,hx.symm⟩
  ·rw [if_neg hj] at hx
   exact .inr ⟨fun e=>hj e.symm,hx⟩
 have hoth:∀(j:Nat) x,j≠i→H[j]?=some x→∀b,x.β=some b→e.β≠some b:=fun j x hj hx b hb he=>hj (uQ h.nodup hx hi hb he)
 refine⟨h.le0,fun b o hb=>?_,fun b hb hB=>?_,h.new,Nat.le_trans h.size hg.size,hg.os.trans h.os,hg.tape.trans h.tape,hg.output.trans h.output,fun x hx=>?_,fun x hx b hb=>?_,?_⟩
 ·rw [hold b (h.mem.lt hb) (fun he=>by have:=(h.own e hmem).2 b he;rw [this] at hb;cases hb)]
  exact h.mem b o hb
 ·rw [hold b (Nat.lt_of_lt_of_le hb h.size) (fun he=>by rcases h.fresh e hmem b he with h1|h1;omega;exact hB h1)]
  exact h.keep b hb hB
 ·obtain⟨j,hj⟩:=List.getElem?_of_mem hx
  rcases hget j x hj with⟨_,rfl⟩|⟨hne,hx'⟩
  ·exact hok
  ·exact(h.own x (List.mem_of_getElem? hx')).kept hg (hoth j x hne hx')
 ·obtain⟨j,hj⟩:=List.getElem?_of_mem hx
  rcases hget j x hj with⟨_,rfl⟩|⟨hne,hx'⟩
  ·rcases hβ with h1|h1
   ·exact h.fresh e hmem b (h1▸hb)
   ·exact .inl (Nat.le_trans h.size (h1 b hb))
  ·exact h.fresh x (List.mem_of_getElem? hx') b hb
 ·refine s8 fun {j k x y b} hj hk hx hy=>?_
  have hdis:∀(j:Nat) x b,j≠i→H[j]?=some x→x.β=some b→e'.β=some b→False:=by
   intro j x b hne hx hb hb'
   rcases hβ with h1|h1
   ·exact hoth j x hne hx b hb (h1▸hb')
   ·have:=h1 b hb'
    have:=(h.own x (List.mem_of_getElem? hx)).lt hb
    omega
  rcases hget j x hj with⟨rfl,rfl⟩|⟨hne,hx'⟩
  ·rcases hget k y hk with⟨rfl,_⟩|⟨hne',hy'⟩
   ·rfl
   ·exact(hdis k y b hne' hy' hy hx).elim
  ·rcases hget k y hk with⟨rfl,rfl⟩|⟨hne',hy'⟩
   ·exact(hdis j x b hne hx' hx hy).elim
   ·exact uQ h.nodup hx' hy' hx hy
theorem St.new_row {w':World} {e:HA} (h:St S M w H) (hg:w.grownBy w' none) (hok:e.ok M w') (hβ:∀b,e.β=some b→w.heap.size≤b):St S M w' (e::H):=by
 have hold:∀b,b<w.heap.size→w'.heap[b]?=w.heap[b]?:=fun b hb=>hg.block b hb (by simp)
 refine⟨h.le0,fun b o hb=>?_,fun b hb hB=>?_,h.new,Nat.le_trans h.size hg.size,hg.os.trans h.os,hg.tape.trans h.tape,hg.output.trans h.output,fun x hx=>?_,fun x hx b hb=>?_,?_⟩
 ·rw [hold b (h.mem.lt hb)];exact h.mem b o hb
 ·rw [hold b (Nat.lt_of_lt_of_le hb h.size)];exact h.keep b hb hB
 ·rcases List.mem_cons.1 hx with rfl|hx
  ·exact hok
  ·exact(h.own x hx).kept hg (fun b _=>by simp)
 ·rcases List.mem_cons.1 hx with rfl|hx
  ·exact .inl (Nat.le_trans h.size (hβ b hb))
  ·exact h.fresh x hx b hb
 ·cases he:e.β with
  |none=>rw [List.filterMap_cons_none he];exact h.nodup
  |some b=>
   rw [List.filterMap_cons_some he]
   refine List.nodup_cons.2 ⟨fun hm=>?_,h.nodup⟩
   obtain⟨z,hz,hzb⟩:=List.mem_filterMap.1 hm
   have:=(h.own z hz).lt hzb
   have:=hβ b he
   omega
theorem St.same {w':World} (h:St S M w H) (hh:w'.heap=w.heap) (h1:w'.os=w.os) (h2:w'.tape=w.tape) (h3:w'.output=w.output):St S M w' H:=by
 have hg:w.grownBy w' none:=⟨h1,h2,h3,by rw [hh];exact Nat.le_refl _,fun _ _ _=>by rw [hh]⟩
 exact⟨h.le0,fun b o hb=>by rw [hh];exact h.mem b o hb,fun b hb hB=>by rw [hh];exact h.keep b hb hB,h.new,by rw [hh];exact h.size,h1.trans h.os,h2.trans h.tape,h3.trans h.output,
  fun x hx=>(h.own x hx).kept hg (fun b _=>by simp),h.fresh,h.nodup⟩
def frz (M:mX) (w:World) (β:Option Nat):mX:=fun b=>if β=some b then w.heap[b]? else M b
theorem St.freeze {i:Nat} {e:HA} (h:St S M w H) (hi:H[i]?=some e) (hB:∀b,e.β=some b→b∉S.B∨True):nP M (frz M w e.β)∧St S (frz M w e.β) w (H.eraseIdx i):=by
 have hmem:e∈H:=List.mem_of_getElem? hi
 have hle:nP M (frz M w e.β):=by
  intro b o hb
  unfold frz
  rw [if_neg (fun he=>by have:=(h.own e hmem).2 b he;rw [this] at hb;cases hb)]
  exact hb
 have hget:∀(j:Nat) x,(H.eraseIdx i)[j]?=some x→∃k,k≠i∧H[k]?=some x∧k=(if j<i then j else j+1):=by
  intro j x hx
  rw [List.getElem?_eraseIdx] at hx
  by_cases hj:j<i
  ·rw [if_pos hj] at hx;exact⟨j,by omega,hx,by simp [hj]⟩
  ·rw [if_neg hj] at hx;exact⟨j+1,by omega,hx,by simp [hj]⟩
 refine⟨hle,fun b o hb=>hle b o (h.le0 b o hb),fun b o hb=>?_,h.keep,fun b hb hB=>?_,h.size,h.os,h.tape,h.output,fun x hx=>?_,fun x hx b hb=>?_,?_⟩
 ·unfold frz at hb
  split at hb
  ·exact hb
  ·exact h.mem b o hb
 ·unfold frz
  rw [if_neg (fun he=>by rcases h.fresh e hmem b he with h1|h1;omega;exact hB h1)]
  exact h.new b hb hB
 ·obtain⟨j,hj⟩:=List.getElem?_of_mem hx
  obtain⟨k,hk,hx',_⟩:=hget j x hj
  refine(h.own x (List.mem_of_getElem? hx')).mem hle fun b hb=>?_
  unfold frz
  rw [if_neg (fun he=>hk (uQ h.nodup hx' hi hb he))]
  exact(h.own x (List.mem_of_getElem? hx')).2 b hb
 ·obtain⟨j,hj⟩:=List.getElem?_of_mem hx
  obtain⟨k,hk,hx',_⟩:=hget j x hj
  exact h.fresh x (List.mem_of_getElem? hx') b hb
 ·refine s8 fun {j k x y b} hj hk hx hy=>?_
  obtain⟨j',_,hj',e1⟩:=hget j x hj
  obtain⟨k',_,hk',e2⟩:=hget k y hk
  have:=uQ h.nodup hj' hk' hx hy
  by_cases a1:j<i<;>by_cases a2:k<i<;>simp [a1,a2] at e1 e2<;>omega
end
def aGh (M:mX) (a:Act) (x:Operand×VP):Prop:=x.2.h M (a.eval x.1)
def Ins (M:mX) (a:Act):List (Operand×VP)→Prop
 |[]=>True
 |x::l=>aGh M a x∧Ins M a l
theorem Ins.mono {M M':mX} (hm:nP M M') {a:Act}:∀{l:List (Operand×VP)},Ins M a l→Ins M' a l
 |[],_=>trivial
 |_::_,h=>⟨VP.mono hm h.1,Ins.mono hm h.2⟩
def aAF (E:qS):Operand→VP→Prop
 | .tmp d,p=>iU E d=some p
 | .const v,p=>∀M,p.h M v
 | .func f,p=>∀M,p.h M (.func (.func f) #[] #[])
 | .global _,_=>False
def sZ (E:qS):List (Operand×VP)→Prop
 |[]=>True
 |(x,p)::l=>aAF E x p∧sZ E l
theorem sZ.ins {E:qS} {N:Nat} {M:mX} {a:Act} (h:Sat N M a E):∀{l:List (Operand×VP)},sZ E l→Ins M a l
 |[],_=>trivial
 |(x,p)::l,hs=>by
  refine⟨?_,sZ.ins h hs.2⟩
  have h1:=hs.1
  unfold aGh
  cases x with
  |tmp d=>
   obtain⟨v,e,k⟩:=h.get d p h1
   simpa [Act.eval,e] using k
  |const v=>exact h1 M
  |func f=>exact h1 M
  |global g=>exact h1.elim
structure Tr (S:Sx) (o:Oper) (H H':List HA) (ins:List (Operand×VP)) (out:VP):Prop where
 run:∀M w a,St S M w H→Ins M a ins→∀(K:Act→World→Prop) (Q:Exit→Act→World→Prop),
  (∀v M' w',nP M M'→St S M' w' H'→out.h M' v→K (a.put o.dst v) w')→o.wp S.P a w K Q
structure Hv (S:Sx) (o:Oper) (H:List HA) (Post:Option Nat→Nat→List HA) (ins:List (Operand×VP)) (out:Option Nat→Nat→VP):Prop where
 run:∀M w a,St S M w H→Ins M a ins→∀(K:Act→World→Prop) (Q:Exit→Act→World→Prop),
  (∀v M' w' b c,nP M M'→St S M' w' (Post b c)→(out b c).h M' v→K (a.put o.dst v) w')→o.wp S.P a w K Q
section
variable {S:Sx} {κ:Kt} {H H':List HA} {E:qS} {ops:Array Oper} {rest:List Oper} {o:Oper}
theorem aB {ins:List (Operand×VP)} {out:VP} {d:Nat} (t:Tr S o H H' ins out) (hi:sZ E ins) (k:WL S ops κ rest H' ((d,out)::E))
  (hd:o.dst=some d:=by rfl) (hg:o.guard=none:=by rfl) (hN:Nat.blt d S.N=true:=by rfl):WL S ops κ (o::rest) H E:=by
 rintro a w ⟨M,h1,h2⟩
 refine wpList_plain hg fun K hK=>t.run M w a h1 (sZ.ins h2 hi) K _ fun v M' w' hm hs hv=>hK _ _ (k _ _ ⟨M',hs,?_⟩)
 rw [hd]
 exact(h2.mono hm).put hN hv
theorem aDE {Post:Option Nat→Nat→List HA} {ins:List (Operand×VP)} {out:Option Nat→Nat→VP} {d:Nat} (t:Hv S o H Post ins out) (hi:sZ E ins) (k:∀b c,WL S ops κ rest (Post b c) ((d,out b c)::E))
  (hd:o.dst=some d:=by rfl) (hg:o.guard=none:=by rfl) (hN:Nat.blt d S.N=true:=by rfl):WL S ops κ (o::rest) H E:=by
 rintro a w ⟨M,h1,h2⟩
 refine wpList_plain hg fun K hK=>t.run M w a h1 (sZ.ins h2 hi) K _ fun v M' w' b c hm hs hv=>hK _ _ (k b c _ _ ⟨M',hs,?_⟩)
 rw [hd]
 exact(h2.mono hm).put hN hv
theorem xE {ins:List (Operand×VP)} {out:VP} (t:Tr S o H H' ins out):Hv S o H (fun _ _=>H') ins (fun _ _=>out):=
 ⟨fun M w a hs hin K Q hk=>t.run M w a hs hin K Q fun v M' w' hm hst hv=>hk v M' w' none 0 hm hst hv⟩
theorem aGG {Post:Option Nat→Nat→List HA} {ins:List (Operand×VP)} {out:Option Nat→Nat→VP} (b:Option Nat) (c:Nat) (t:Tr S o H (Post b c) ins (out b c)):Hv S o H Post ins out:=
 ⟨fun M w a hs hin K Q hk=>t.run M w a hs hin K Q fun v M' w' hm hst hv=>hk v M' w' b c hm hst hv⟩
theorem aY {ins:List (Operand×VP)} {out:VP} (t:Tr S o H H' ins out) (hi:sZ E ins) (k:WL S ops κ rest H' E)
  (hd:o.dst=none:=by rfl) (hg:o.guard=none:=by rfl):WL S ops κ (o::rest) H E:=by
 rintro a w ⟨M,h1,h2⟩
 refine wpList_plain hg fun K hK=>t.run M w a h1 (sZ.ins h2 hi) K _ fun v M' w' hm hs hv=>hK _ _ (k _ _ ⟨M',hs,?_⟩)
 rw [hd]
 exact h2.mono hm
theorem aAs {E:qS} {N:Nat} {M:mX} {a:Act} (h:Sat N M a E) {j d:Nat} {og:Oper} {b:Bool} (hj:ops[j]?=some og) (hd:og.dst=some d) (hl:iU E d=some (.vc (pB b))):yielded ops a.tmps j=some b:=by
 obtain⟨v,e,k⟩:=h.get d _ hl
 have:v=.bool b:=k
 subst this
 simp [yielded,hj,hd,e]
theorem aZ {ins:List (Operand×VP)} {out:VP} {d j dj:Nat} {b:Bool} {og:Oper} (t:Tr S o H H' ins out) (hi:sZ E ins) (k:WL S ops κ rest H' ((d,out)::E))
  (hg:o.guard=some (j,b):=by rfl) (hj:ops[j]?=some og:=by rfl) (hdj:og.dst=some dj:=by rfl) (hl:iU E dj=some (.vc (pB b)):=by rfl)
  (hd:o.dst=some d:=by rfl) (hN:Nat.blt d S.N=true:=by rfl):WL S ops κ (o::rest) H E:=by
 rintro a w ⟨M,h1,h2⟩
 refine wpList_step fun K hK=>?_
 rw [if_pos (by simp [Region.wanted,hg,aAs h2 hj hdj hl])]
 refine t.run M w a h1 (sZ.ins h2 hi) K _ fun v M' w' hm hs hv=>hK _ _ (k _ _ ⟨M',hs,?_⟩)
 rw [hd]
 exact(h2.mono hm).put hN hv
theorem aJ {d j dj:Nat} {b b':Bool} {og:Oper} (k:WL S ops κ rest H ((d,.un)::E))
  (hg:o.guard=some (j,b):=by rfl) (hj:ops[j]?=some og:=by rfl) (hdj:og.dst=some dj:=by rfl) (hl:iU E dj=some (.vc (pB b')):=by rfl) (hb:(b' != b)=true:=by rfl)
  (hd:o.dst=some d:=by rfl) (hN:Nat.blt d S.N=true:=by rfl):WL S ops κ (o::rest) H E:=by
 rintro a w ⟨M,h1,h2⟩
 refine wpList_step fun K hK=>?_
 rw [if_neg (by simp [Region.wanted,hg,aAs h2 hj hdj hl];simpa using hb)]
 refine hK _ _ (k _ _ ⟨M,h1,?_⟩)
 rw [hd]
 exact h2.put hN rfl
theorem aCJ {E:qS} {N:Nat} {M:mX} {a:Act} (h:Sat N M a E) {j d:Nat} {og:Oper} (hj:ops[j]?=some og) (hd:og.dst=some d) (hl:iU E d=some .un):yielded ops a.tmps j=none:=by
 obtain⟨v,e,k⟩:=h.get d _ hl
 have:v=undef:=k
 subst this
 simp [yielded,hj,hd,e,undef]
theorem rP {d j dj:Nat} {b:Bool} {og:Oper} (k:WL S ops κ rest H ((d,.un)::E))
  (hg:o.guard=some (j,b):=by rfl) (hj:ops[j]?=some og:=by rfl) (hdj:og.dst=some dj:=by rfl) (hl:iU E dj=some .un:=by rfl)
  (hd:o.dst=some d:=by rfl) (hN:Nat.blt d S.N=true:=by rfl):WL S ops κ (o::rest) H E:=by
 rintro a w ⟨M,h1,h2⟩
 refine wpList_step fun K hK=>?_
 rw [if_neg (by simp [Region.wanted,hg,aCJ h2 hj hdj hl])]
 refine hK _ _ (k _ _ ⟨M,h1,?_⟩)
 rw [hd]
 exact h2.put hN rfl
theorem cU {d:Nat} {c:Bool} (ht:c=true→WL S ops κ rest H ((d,.vc (pB true))::E)) (hf:c=false→WL S ops κ rest H ((d,.vc (pB false))::E)):WL S ops κ rest H ((d,.vc (pB c))::E):=by
 cases c
 ·exact hf rfl
 ·exact ht rfl
theorem aDB {α:Type} {C:Cd α} {xs:List α} {E:qS} {i:Nat} {β:Option Nat} {c T:Nat} {ds:List Nat} (hi:H[i]?=some ⟨β,c,T,C.n,xs.length,flat C xs⟩) (hL:xs.length≤vJ)
  (hds:∀d∈ds,iU E d=some (.vc (pO β xs.length c))) {a:Act} {w:World} (h:hs S H E a w):
  hs S (H.eraseIdx i) (ds.map (fun d=>(d,VP.vc (pS C xs)))++E) a w:=by
 obtain⟨M,h1,h2⟩:=h
 obtain⟨hle,hst⟩:=h1.freeze hi (fun _ _=>.inr trivial)
 refine⟨_,hst,h2.size,h2.defers,fun x p hl=>?_⟩
 have key:∀ds:List Nat,(∀d∈ds,iU E d=some (.vc (pO β xs.length c)))→iU (ds.map (fun d=>(d,VP.vc (pS C xs)))++E) x=some p→∃v,a.tmps[x]?=some v∧p.h (frz M w β) v:=by
  intro ds
  induction ds with
  |nil=>intro _ hl;exact(h2.mono hle).get x p hl
  |cons d ds ih=>
   intro hd hl
   simp only [List.map_cons,List.cons_append,iU] at hl
   by_cases e:d=x
   ·subst e
    simp only [Nat.beq_refl,cond_true,Option.some.injEq] at hl
    subst hl
    obtain⟨v,hv,hp⟩:=h2.get d _ (hd d (by simp))
    refine⟨v,hv,?_⟩
    rcases hp with hv'|⟨rfl,h0,rfl,a0,rfl⟩
    rotate_left
    ·have hx:xs=[]:=List.eq_nil_of_length_eq_zero h0
     subst hx
     exact⟨_,_,rfl,by simp,by simp,fun j x hj=>by simp at hj⟩
    subst hv'
    obtain⟨⟨vs,how,hall⟩,_⟩:=h1.own _ (List.mem_of_getElem? hi)
    rcases how.2 with⟨h3,h4⟩|⟨g,cap,cur,h3,_,hg,hnc,_,hsz,htake⟩
    ·have hx:xs=[]:=List.eq_nil_of_length_eq_zero h4
     subst hx
     refine⟨_,_,rfl,by simp,by simp,fun j x hj=>by simp at hj⟩
    ·cases β with
     |none=>simp [sv] at h3
     |some b=>
      simp only [sv,Option.map_some,Value.slice.injEq,Option.some.injEq,Addr.mk.injEq,and_true,true_and] at h3
      obtain⟨rfl,rfl⟩:=h3
      refine⟨_,_,rfl,hL,hnc,fun j x hj=>⟨b,0,rfl,?_⟩⟩
      refine⟨(vs.drop (j*C.n)).take C.n,?_,fun t u ht=>?_⟩
      ·have:=((bR.mono hle hall).drop (j*C.n)).take C.n
       rwa [xL C xs j x hj] at this
      ·have hM:frz M w (some b) b=some (.cells cur T (0,0)):=by simp [frz,hg]
       rw [List.getElem?_take] at ht
       split at ht
       ·rename_i htn
        rw [List.getElem?_drop] at ht
        simp only [t8,hM,Nat.zero_add]
        rw [←htake,List.getElem?_take] at ht
        split at ht
        ·simpa using ht
        ·cases ht
       ·cases ht
   ·rw [yV e] at hl
    exact ih (fun d hd'=>hd d (by simp [hd'])) (by simpa using hl)
 exact key ds hds hl
end
end Go.Proofs.YtcjdedkdoagifaaGreat
