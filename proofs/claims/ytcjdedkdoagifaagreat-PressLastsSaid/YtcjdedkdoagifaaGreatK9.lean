/- A region that draws its order. -/
import Derived.Test.YtcjdedkdoagifaaGreatK8
import Derived.KernelRfl
set_option linter.unusedVariables false
namespace Go.Proofs.YtcjdedkdoagifaaGreat
def y7 (bs:Nat→Nat) (G:Gh):Nat→List Oper→List Ou→qS
 |i,o::l,q::r=>match o.dst with
  |some d=>(d,q.vp bs G i)::y7 bs G (i+1) l r
  |none=>y7 bs G (i+1) l r
 |_,_,_=>[]
def zB (bs:Nat→Nat):Nat→List Ou→List HA
 |i,.a T zs::r=>⟨some (bs i),1,T,zs.length,1,zs⟩::zB bs (i+1) r
 |i,.v _::r=>zB bs (i+1) r
 |i,.g _::r=>zB bs (i+1) r
 |_,[]=>[]
theorem aCs {E':qS} {d:Nat} {p:VP}:∀{E:qS},iU (E++E') d=some p→iU E d=some p∨(iU E d=none∧iU E' d=some p)
 |[],h=>.inr ⟨rfl,h⟩
 |(x,q)::E,h=>by
  simp only [List.cons_append,iU] at h ⊢
  cases hb:Nat.beq x d with
  |true=>rw [hb] at h;simp at h ⊢;exact h
  |false=>rw [hb] at h;simp at h ⊢;exact aCs h
theorem yU {bs:Nat→Nat} {G:Gh} {d:Nat}:∀{l:List Oper} {r:List Ou} {k:Nat} {p:VP},iU (y7 bs G k l r) d=some p→∃(i:Nat) (o:Oper) (q:Ou),l[i]?=some o∧o.dst=some d∧r[i]?=some q∧q.vp bs G (k+i)=p
 |[],_,_,_,h=>by simp [y7,iU] at h
 |_::_,[],_,_,h=>by simp [y7,iU] at h
 |o::l,q::r,k,p,h=>by
  simp only [y7] at h
  cases hx:o.dst with
  |none=>
   rw [hx] at h
   obtain⟨i,o',q',h1,h2,h3,h4⟩:=yU h
   exact⟨i+1,o',q',by simpa using h1,h2,by simpa using h3,by rw [←h4,show k+(i+1)=k+1+i by omega]⟩
  |some x=>
   rw [hx] at h
   simp only [iU] at h
   cases hb:Nat.beq x d with
   |true=>
    simp only [hb,cond_true,Option.some.injEq] at h
    subst h
    have:=Nat.eq_of_beq_eq_true hb
    subst this
    exact⟨0,o,q,rfl,hx,rfl,rfl⟩
   |false=>
    simp only [hb,cond_false] at h
    obtain⟨i,o',q',h1,h2,h3,h4⟩:=yU h
    exact⟨i+1,o',q',by simpa using h1,h2,by simpa using h3,by rw [←h4,show k+(i+1)=k+1+i by omega]⟩
theorem sR {bs:Nat→Nat} {G:Gh} {d:Nat}:∀{l:List Oper} {r:List Ou} {k:Nat},iU (y7 bs G k l r) d=none→∀(i:Nat) o q,l[i]?=some o→r[i]?=some q→o.dst≠some d
 |[],_,_,_,i,o,q,h,_=>by simp at h
 |_::_,[],_,_,i,o,q,_,h=>by simp at h
 |x::l,y::r,k,h,i,o,q,ho,hq=>by
  simp only [y7] at h
  cases hx:x.dst with
  |none=>
   rw [hx] at h
   cases i with
   |zero=>simp at ho;subst ho;rw [hx];simp
   |succ i=>exact sR h i o q (by simpa using ho) (by simpa using hq)
  |some z=>
   rw [hx] at h
   simp only [iU] at h
   cases hb:Nat.beq z d with
   |true=>simp [hb] at h
   |false=>
    simp only [hb,cond_false] at h
    cases i with
    |zero=>
     simp at ho;subst ho;rw [hx]
     intro e
     simp only [Option.some.injEq] at e
     subst e;simp at hb
    |succ i=>exact sR h i o q (by simpa using ho) (by simpa using hq)
theorem t6 {bs:Nat→Nat}:∀{r:List Ou} {k:Nat} {e:HA},e∈zB bs k r→∃(i T:Nat) (zs:List CP),r[i]?=some (.a T zs)∧e=⟨some (bs (k+i)),1,T,zs.length,1,zs⟩
 |[],_,_,h=>by simp [zB] at h
 | .v p::r,k,e,h=>by
  obtain⟨i,T,zs,h1,h2⟩:=t6 (r:=r) h
  exact⟨i+1,T,zs,by simpa using h1,by rw [h2,show k+(i+1)=k+1+i by omega]⟩
 | .g p::r,k,e,h=>by
  obtain⟨i,T,zs,h1,h2⟩:=t6 (r:=r) h
  exact⟨i+1,T,zs,by simpa using h1,by rw [h2,show k+(i+1)=k+1+i by omega]⟩
 | .a T zs::r,k,e,h=>by
  rcases List.mem_cons.1 h with rfl|h
  ·exact⟨0,T,zs,rfl,rfl⟩
  ·obtain⟨i,T',zs',h1,h2⟩:=t6 (r:=r) h
   exact⟨i+1,T',zs',by simpa using h1,by rw [h2,show k+(i+1)=k+1+i by omega]⟩
theorem uJ {bs:Nat→Nat}:∀{r:List Ou} {k:Nat},(∀(i j T:Nat) (zs:List CP) (T':Nat) (zs':List CP),r[i]?=some (.a T zs)→r[j]?=some (.a T' zs')→bs (k+i)=bs (k+j)→i=j)→((zB bs k r).filterMap HA.β).Nodup
 |[],_,_=>by simp [zB]
 | .v p::r,k,h=>by
  refine uJ (r:=r) (k:=k+1) fun i j T zs T' zs' h1 h2 h3=>?_
  have:=h (i+1) (j+1) T zs T' zs' (by simpa using h1) (by simpa using h2) (by rw [show k+(i+1)=k+1+i by omega,show k+(j+1)=k+1+j by omega];exact h3)
  omega
 | .g p::r,k,h=>by
  refine uJ (r:=r) (k:=k+1) fun i j T zs T' zs' h1 h2 h3=>?_
  have:=h (i+1) (j+1) T zs T' zs' (by simpa using h1) (by simpa using h2) (by rw [show k+(i+1)=k+1+i by omega,show k+(j+1)=k+1+j by omega];exact h3)
  omega
 | .a T zs::r,k,h=>by
  have ih:=uJ (bs:=bs) (r:=r) (k:=k+1) fun i j T zs T' zs' h1 h2 h3=>by
   have:=h (i+1) (j+1) T zs T' zs' (by simpa using h1) (by simpa using h2) (by rw [show k+(i+1)=k+1+i by omega,show k+(j+1)=k+1+j by omega];exact h3)
   omega
  simp only [zB,List.filterMap_cons]
  refine List.nodup_cons.2 ⟨fun hm=>?_,ih⟩
  obtain⟨e,he,heb⟩:=List.mem_filterMap.1 hm
  obtain⟨i,T',zs',h1,rfl⟩:=t6 he
  have hb:bs (k+1+i)=bs k:=by simpa using heb
  have:=h 0 (i+1) T zs T' zs' rfl (by simpa using h1) (by rw [show k+(i+1)=k+1+i by omega];exact hb.symm)
  omega
theorem St.sub {S:Sx} {M:mX} {w:World} {H H':List HA} (h:St S M w H) (hm:∀e∈H',e∈H) (hn:(H'.filterMap HA.β).Nodup):St S M w H':=
 ⟨h.le0,h.mem,h.keep,h.new,h.size,h.os,h.tape,h.output,fun e he=>h.own e (hm e he),fun e he=>h.fresh e (hm e he),hn⟩
def unl (l:Array Bool):Nat:=(l.toList.filter (!·)).length
theorem aC1 {l:Array Bool} {i:Nat} (h:l.getD i false=false) (hi:i<l.size):unl (l.setIfInBounds i true)+1=unl l:=by
 have h':l[i]=false:=by
  simpa [Array.getD_eq_getD_getElem?,hi] using h
 unfold unl
 rw [Array.toList_setIfInBounds]
 have key:∀(L:List Bool) (i:Nat),L[i]?=some false→((L.set i true).filter (!·)).length+1=(L.filter (!·)).length:=by
  intro L
  induction L with
  |nil=>intro i h;simp at h
  |cons x L ih=>
   intro i h
   cases i with
   |zero=>simp at h;subst h;simp
   |succ i=>
    have:=ih i (by simpa using h)
    cases x<;>simp<;>omega
 exact key _ _ (by simp [hi,h'])
section
variable {S:Sx} {κ:Kt} {Hs:Gh→Nat→List HA} {hv:List Nat} {E:qS}
theorem DI.full {l:List Oper} {outs:List Ou} {listed:Array Bool} {a:Act} {w:World} (h:DI S Hs hv l E outs listed a w) (hall:∀i,i<outs.length→listed.getD i false=true) (hle:outs.length≤l.length) (hhv:hv.all (Nat.blt · outs.length)=true)
  :∃bs G,hs S (zB bs 0 outs++Hs G (2^hv.length-1)) (y7 bs G 0 l outs++E) a w:=by
 obtain⟨M,bs,ord,G,h1,hnd,ho1,ho2,h2,h3,h4,h5⟩:=h.st
 have hst:uA hv listed=2^hv.length-1:=by
  refine aB8 fun j hj=>?_
  have:=List.all_eq_true.1 hhv j hj
  exact hall j (by simpa using this)
 rw [hst] at h1
 refine⟨bs,G,M,?_,h2,h3,fun d p hl=>?_⟩
 ·have hent:∀(i:Nat) T zs,outs[i]?=some (.a T zs)→xJ outs bs i=⟨some (bs i),1,T,zs.length,1,zs⟩:=fun i T zs hi=>by simp [xJ,hi]
  refine h1.sub (fun e he=>?_) ?_
  ·rcases List.mem_append.1 he with he|he
   rotate_left
   ·exact List.mem_append.2 (.inl he)
   ·obtain⟨i,T,zs,hi,rfl⟩:=t6 he
    refine List.mem_append.2 (.inr (List.mem_map.2 ⟨i,ho1 i T zs hi (hall i (List.getElem?_eq_some_iff.1 hi).1),?_⟩))
    rw [hent i T zs hi,Nat.zero_add]
  ·have hn:=h1.nodup
   rw [List.filterMap_append] at hn ⊢
   obtain⟨hn1,hn2,hn3⟩:=List.nodup_append.1 hn
   have hbeta:(ord.map (xJ outs bs)).filterMap HA.β=ord.map bs:=by
    clear hn hn2 hn3 ho1 ho2 hnd h1
    induction ord with
    |nil=>rfl
    |cons i ord ih=>
     have:(xJ outs bs i).β=some (bs i):=by unfold xJ;split<;>rfl
     simp only [List.map_cons]
     rw [List.filterMap_cons_some this,ih]
   rw [hbeta] at hn2 hn3
   refine List.nodup_append.2 ⟨uJ fun i j T zs T' zs' hi hj hb=>?_,hn1,fun y hy x hx hyx=>?_⟩
   rotate_left
   ·have hxy:x=y:=hyx.symm
    obtain⟨e,he,heb⟩:=List.mem_filterMap.1 hy
    obtain⟨i,T,zs,hi,rfl⟩:=t6 he
    simp only [Nat.zero_add,Option.some.injEq] at heb
    exact hn3 x hx y (List.mem_map.2 ⟨i,ho1 i T zs hi (hall i (List.getElem?_eq_some_iff.1 hi).1),heb⟩) hxy
   ·have hi':=ho1 i T zs hi (hall i (List.getElem?_eq_some_iff.1 hi).1)
    have hj':=ho1 j T' zs' hj (hall j (List.getElem?_eq_some_iff.1 hj).1)
    simp only [Nat.zero_add] at hb
    obtain⟨p,hp⟩:=List.getElem?_of_mem hi'
    obtain⟨q,hq⟩:=List.getElem?_of_mem hj'
    have e1:(ord.map bs)[p]?=some (bs i):=by simp [hp]
    have e2:(ord.map bs)[q]?=some (bs i):=by simp [hq,hb]
    have:=aA0 hn2 e1 e2
    subst this
    rw [hp] at hq
    exact Option.some.inj hq
 ·rcases aCs hl with hl|⟨hn,hl⟩
  ·obtain⟨i,o,q,hi,hd,hp,hq⟩:=yU hl
   rw [Nat.zero_add] at hq
   rw [←hq]
   exact h4 i q o d hp hi hd (hall i (List.getElem?_eq_some_iff.1 hp).1)
  ·refine h5 d p hl fun i o hi hd=>?_
   cases hb:listed.getD i false with
   |false=>rfl
   |true=>
    exfalso
    have hlt:=h.pre i hb
    exact sR hn i o _ hi (List.getElem?_eq_getElem hlt) hd
theorem y4 {l:List Oper} {listed:Array Bool} (hs:listed.size=l.length) (hb:sT l 0=true) {i:Nat} (hi:i<l.length) (hu:listed.getD i false=false):∃j,j≤i∧j∈Region.ready .any l.toArray listed:=by
 induction i using Nat.strongRecOn with
 |_ i ih=>
  by_cases h:∃j,j<i∧listed.getD j false=false
  ·obtain⟨j,hj,hju⟩:=h
   obtain⟨k,hk,hr⟩:=ih j hj (by omega) hju
   exact⟨k,by omega,hr⟩
  ·refine⟨i,Nat.le_refl _,?_⟩
   have hback:∀(l:List Oper) (k:Nat),sT l k=true→∀(i:Nat) o,l[i]?=some o→∀e∈o.after.toList,rQ e=true→e.on<k+i:=by
    intro l
    induction l with
    |nil=>intro k _ i o ho;simp at ho
    |cons x l ih2=>
     intro k hk i o ho e he hbe
     simp only [sT,Bool.and_eq_true] at hk
     cases i with
     |zero=>
      simp at ho;subst ho
      have:=List.all_eq_true.1 hk.1 e he
      rw [hbe] at this
      simpa using this
     |succ i=>
      have:=ih2 (k+1) hk.2 i o (by simpa using ho) e he hbe
      omega
   unfold Region.ready
   refine List.mem_filter.2 ⟨by simp [hi],?_⟩
   have hil:i<listed.size:=by omega
   have h1:listed.getD i true=false:=by
    simp only [Array.getD_eq_getD_getElem?,Array.getElem?_eq_getElem hil,Option.getD_some] at hu ⊢
    exact hu
   simp only [h1,Bool.not_false,Bool.true_and,List.getElem?_toArray,List.getElem?_eq_getElem hi,Option.map_some,Option.getD_some]
   rw [Array.all_eq_true']
   intro e he
   by_cases hbe:rQ e=true
   ·have hlt:=hback l 0 hb i l[i] (by simp [hi]) e (by simpa using he) hbe
    have:listed.getD e.on false=true:=by
     cases hc:listed.getD e.on false with
     |true=>rfl
     |false=>exact absurd ⟨e.on,by omega,hc⟩ h
    simp only [this,Bool.or_true]
   ·have:Region.binds .any e=false:=by simpa [rQ] using hbe
    simp [this]
theorem aEO {P:Program} {l:List Oper} {ms:List Nat} {Q:Exit→Act→World→Prop} {m n:Nat} (hm:xT ms l ms=true) (hb:sT l 0=true) (ht:yX l ms m n=true) (hn:m+n=l.length):∀(eC t:Nat) (listed:Array Bool) (a:Act) (w:World),
  listed.size=l.length→(∀j,j<m+t→listed.getD j false=true)→(∀j,m+t≤j→listed.getD j false=false)→l.length-(m+t)≤eC→Clo l (fun i=>listed.getD i false=true)→wpList P l.toArray Q (l.drop (m+t)) a w→wpAny P .any l.toArray Q eC listed a w:=by
 intro eC
 induction eC with
 |zero=>
  intro t listed a w hs h1 h2 hf hc hw
  have hge:l.length≤m+t:=by omega
  rw [List.drop_of_length_le hge] at hw
  refine⟨?_,hw⟩
  rw [List.eq_nil_iff_forall_not_mem]
  intro i hi
  obtain⟨hu,hil,_⟩:=yG hi (by simpa using hs)
  rw [h1 i (by simp at hil;omega)] at hu
  cases hu
 |succ eC ih=>
  intro t listed a w hs h1 h2 hf hc hw
  refine⟨fun hnil=>?_,fun i hi=>?_⟩
  ·by_cases hge:l.length≤m+t
   ·rw [List.drop_of_length_le hge] at hw;exact hw
   ·obtain⟨j,_,hj⟩:=y4 hs hb (i:=m+t) (by omega) (h2 _ (Nat.le_refl _))
    rw [hnil] at hj;cases hj
  ·obtain⟨hu,hil,o,ho,hdeps⟩:=yG hi (by simpa using hs)
   simp only [List.size_toArray] at hil
   simp only [List.getElem?_toArray] at ho
   have hge:m+t≤i:=by
    rcases Nat.lt_or_ge i (m+t) with h|h
    ·rw [h1 i h] at hu;cases hu
    ·exact h
   have hle:i≤m+t:=by
    rcases Nat.lt_or_ge (m+t) i with h|h
    ·exfalso
     have hbit:=z6 ht (i-m) (by omega) (m+t) (by omega)
     rw [show m+(i-m)=i by omega] at hbit
     have:=uT (L:=fun i=>listed.getD i false=true) hm hb i (m+t) hbit (fun o' ho'=>by
      have:o'=o:=by
       have h:l[i]?=some o':=ho'
       rw [ho] at h;exact(Option.some.inj h).symm
      subst this
      exact hdeps) hc
     rw [h2 (m+t) (Nat.le_refl _)] at this
     cases this
    ·exact h
   have hit:i=m+t:=by omega
   subst hit
   have hdrop:l.drop (m+t)=o::l.drop (m+(t+1)):=by
    have hlt:m+t<l.length:=hil
    rw [List.drop_eq_getElem_cons hlt]
    have:l[m+t]=o:=by
     have:=ho
     rw [List.getElem?_eq_getElem hlt] at this
     exact Option.some.inj this
    rw [this];rfl
   rw [hdrop] at hw
   have hgetset:∀j,(listed.setIfInBounds (m+t) true).getD j false=if j=m+t then true else listed.getD j false:=by
    intro j
    simp only [Array.getD_eq_getD_getElem?,Array.getElem?_setIfInBounds]
    by_cases e:m+t=j
    ·subst e;simp [hs,hil]
    ·rw [if_neg e,if_neg (fun h=>e h.symm)]
   have hK:∀a w,wpList P l.toArray Q (l.drop (m+(t+1))) a w→wpAny P .any l.toArray Q eC (listed.setIfInBounds (m+t) true) a w:=fun a w hw=>
    ih (t+1) _ a w (by simpa using hs) (fun j hj=>by
     rw [hgetset]
     by_cases e:j=m+t
     ·simp [e]
     ·rw [if_neg e];exact h1 j (by omega)) (fun j hj=>by
     rw [hgetset,if_neg (by omega)];exact h2 j (by omega)) (by omega) ⟨fun i o' hi hL e he hbe=>by
     rw [hgetset] at hL ⊢
     by_cases e1:e.on=m+t
     ·simp [e1]
     ·rw [if_neg e1]
      by_cases e2:i=m+t
      ·subst e2
       have hoo:o=o':=by rw [ho] at hi;exact Option.some.inj hi
       subst hoo
       exact hdeps e he hbe
      ·rw [if_neg e2] at hL;exact hc.h i o' hi hL e he hbe⟩ hw
   unfold wpOp
   simp only [List.getElem?_toArray,ho]
   simp only [wpList] at hw
   split
   ·rename_i hwant
    rw [if_pos hwant] at hw
    exact hw.imp (Oper.wp_mono hK) id
   ·rename_i hwant
    rw [if_neg hwant] at hw
    exact hK _ _ hw
theorem DI.read {l:List Oper} {ms:List Nat} {outs:List Ou} {listed:Array Bool} {a:Act} {w:World} {i d:Nat} {p:VP} (h:DI S Hs hv l E outs listed a w) (hm:xT ms l ms=true) (hb:sT l 0=true) (hq:wT l=true) (hu:listed.getD i false=false)
  (hdeps:∀o,l[i]?=some o→∀e∈o.after.toList,rQ e=true→listed.getD e.on false=true) {M:mX} {bs:Nat→Nat} {G:Gh} (hl:vO l ms E outs G i d=some p) (h4:(∀(i:Nat) out o d,outs[i]?=some out→l[i]?=some o→o.dst=some d→listed.getD i false=true→∃v,a.tmps[d]?=some v∧(out.vp bs G i).h M v))
  (h5:(∀d p,iU E d=some p→(∀(i:Nat) o,l[i]?=some o→o.dst=some d→listed.getD i false=false)→∃v,a.tmps[d]?=some v∧p.h M v)):∃v,a.tmps[d]?=some v∧p.h M v:=by
 unfold vO at hl
 cases hd:tF d l 0 with
 |none=>
  rw [hd] at hl
  exact h5 d p hl fun j o ho hod=>absurd hod (tE hd j o ho)
 |some j=>
  rw [hd] at hl
  simp only at hl
  obtain⟨_,o,ho,hod⟩:=vN hd
  rw [Nat.sub_zero] at ho
  cases hb1:(ms.getD i 0).testBit j with
  |true=>
   rw [hb1] at hl
   simp only [cond_true] at hl
   have hj:listed.getD j false=true:=uT (L:=fun i=>listed.getD i false=true) hm hb i j hb1 (fun o' ho'=>hdeps o' ho') h.clo
   cases hoj:outs[j]? with
   |none=>rw [hoj] at hl;simp [Ou.val?] at hl
   |some q=>
    rw [hoj] at hl
    cases q with
    |a T zs=>simp [Ou.val?] at hl
    |v p'=>
     simp only [Ou.val?,Option.some.injEq] at hl
     subst hl
     exact h4 j (.v p') o d hoj ho hod hj
    |g f=>
     simp only [Ou.val?,Option.some.injEq] at hl
     subst hl
     exact h4 j (.g f) o d hoj ho hod hj
  |false=>
   rw [hb1] at hl
   simp only [cond_false] at hl
   cases hb2:(ms.getD j 0).testBit i with
   |false=>rw [hb2] at hl;simp at hl
   |true=>
    rw [hb2] at hl
    simp only [cond_true] at hl
    refine h5 d p hl fun k o' ho' hod'=>?_
    have hkj:=aBb hq ho' ho hod' hod
    subst hkj
    cases hk:listed.getD k false with
    |false=>rfl
    |true=>
     have:=uT (L:=fun i=>listed.getD i false=true) hm hb k i hb2 (fun o'' ho'' e he hbe=>h.clo.h k o'' ho'' hk e he hbe) h.clo
     rw [hu] at this
     cases this
theorem DI.ins {l:List Oper} {ms:List Nat} {outs:List Ou} {listed:Array Bool} {a:Act} {w:World} {i:Nat} (h:DI S Hs hv l E outs listed a w) (hm:xT ms l ms=true) (hb:sT l 0=true) (hq:wT l=true) (hu:listed.getD i false=false)
  (hdeps:∀o,l[i]?=some o→∀e∈o.after.toList,rQ e=true→listed.getD e.on false=true) {M:mX} {bs:Nat→Nat} {G:Gh} (h4:(∀(i:Nat) out o d,outs[i]?=some out→l[i]?=some o→o.dst=some d→listed.getD i false=true→∃v,a.tmps[d]?=some v∧(out.vp bs G i).h M v))
  (h5:(∀d p,iU E d=some p→(∀(i:Nat) o,l[i]?=some o→o.dst=some d→listed.getD i false=false)→∃v,a.tmps[d]?=some v∧p.h M v)):∀{ins:List (Operand×VP)},aBy l ms E outs G i ins→Ins M a ins
 |[],_=>trivial
 |(x,p)::r,hs=>by
  refine⟨?_,DI.ins h hm hb hq hu hdeps h4 h5 hs.2⟩
  have h1:=hs.1
  unfold aGh
  cases x with
  |tmp d=>
   obtain⟨v,e,k⟩:=h.read hm hb hq hu hdeps h1 h4 h5
   simpa [Act.eval,e] using k
  |const v=>exact h1 M
  |func f=>exact h1 M
  |global g=>exact h1.elim
theorem DI.yields {l:List Oper} {ms:List Nat} {outs:List Ou} {listed:Array Bool} {a:Act} {w:World} {i j d:Nat} {b:Bool} (h:DI S Hs hv l E outs listed a w) (hm:xT ms l ms=true) (hb:sT l 0=true) (hq:wT l=true) (hu:listed.getD i false=false)
  (hdeps:∀o,l[i]?=some o→∀e∈o.after.toList,rQ e=true→listed.getD e.on false=true) {M:mX} {bs:Nat→Nat} {G:Gh} (h4:(∀(i:Nat) out o d,outs[i]?=some out→l[i]?=some o→o.dst=some d→listed.getD i false=true→∃v,a.tmps[d]?=some v∧(out.vp bs G i).h M v))
  (h5:(∀d p,iU E d=some p→(∀(i:Nat) o,l[i]?=some o→o.dst=some d→listed.getD i false=false)→∃v,a.tmps[d]?=some v∧p.h M v)) (hd:(l[j]?).bind (·.dst)=some d) (hl:vO l ms E outs G i d=some (.vc (pB b))):
  yielded l.toArray a.tmps j=some b:=by
 obtain⟨v,e,k⟩:=h.read hm hb hq hu hdeps hl h4 h5
 have:v=.bool b:=k
 subst this
 simp [yielded,hd,e]
theorem DI.yieldsU {l:List Oper} {ms:List Nat} {outs:List Ou} {listed:Array Bool} {a:Act} {w:World} {i j d:Nat} (h:DI S Hs hv l E outs listed a w) (hm:xT ms l ms=true) (hb:sT l 0=true) (hq:wT l=true) (hu:listed.getD i false=false)
  (hdeps:∀o,l[i]?=some o→∀e∈o.after.toList,rQ e=true→listed.getD e.on false=true) {M:mX} {bs:Nat→Nat} {G:Gh} (h4:(∀(i:Nat) out o d,outs[i]?=some out→l[i]?=some o→o.dst=some d→listed.getD i false=true→∃v,a.tmps[d]?=some v∧(out.vp bs G i).h M v))
  (h5:(∀d p,iU E d=some p→(∀(i:Nat) o,l[i]?=some o→o.dst=some d→listed.getD i false=false)→∃v,a.tmps[d]?=some v∧p.h M v)) (hd:(l[j]?).bind (·.dst)=some d) (hl:vO l ms E outs G i d=some .un):
  yielded l.toArray a.tmps j=none:=by
 obtain⟨v,e,k⟩:=h.read hm hb hq hu hdeps hl h4 h5
 have:v=undef:=k
 subst this
 simp [yielded,hd,e,undef]
theorem aE0 {l:List Oper} {ms:List Nat} {outs:List Ou} (hm:xT ms l ms=true) (hb:sT l 0=true) (hq:wT l=true) (hle:outs.length≤l.length) (hops:aBW S Hs hv l ms E outs 0 l outs) (ht:yX l ms outs.length (l.length-outs.length)=true) (hhv:hv.all (Nat.blt · outs.length)=true) (hvn:hv.Nodup)
  (k:∀bs G,WL S l.toArray κ (l.drop outs.length) (zB bs 0 outs++Hs G (2^hv.length-1)) (y7 bs G 0 l outs++E)):∀(eC:Nat) (listed:Array Bool) (a:Act) (w:World),DI S Hs hv l E outs listed a w→unl listed≤eC→wpAny S.P .any l.toArray (κ.den S.P) eC listed a w:=by
 have hfin:∀(eC:Nat) (listed:Array Bool) (a:Act) (w:World),DI S Hs hv l E outs listed a w→(∀i,i<outs.length→listed.getD i false=true)→l.length-outs.length≤eC→wpAny S.P .any l.toArray (κ.den S.P) eC listed a w:=by
  intro eC listed a w hd hall hf
  obtain⟨bs,G,hfull⟩:=hd.full hall hle hhv
  refine aEO hm hb ht (by omega) eC 0 listed a w hd.sz (fun j hj=>hall j (by omega)) (fun j hj=>?_) (by omega) hd.clo (k bs G a w hfull)
  cases hc:listed.getD j false with
  |false=>rfl
  |true=>have:=hd.pre j hc;omega
 have hun:∀(listed:Array Bool),listed.size=l.length→(∀i,listed.getD i false=true→i<outs.length)→l.length-outs.length≤unl listed:=by
  intro listed hs hp
  unfold unl
  have key:∀(L:List Bool) (m:Nat),(∀i,L[i]?=some true→i<m)→L.length-m≤(L.filter (!·)).length:=by
   intro L
   induction L with
   |nil=>intro m _;simp
   |cons x L ih=>
    intro m h
    cases m with
    |zero=>
     have hx:x=false:=by cases x;rfl;exact absurd (h 0 rfl) (by omega)
     subst hx
     have:=ih 0 (fun i hi=>absurd (h (i+1) (by simpa using hi)) (by omega))
     simp at this ⊢;omega
    |succ m=>
     have:=ih m (fun i hi=>by have:=h (i+1) (by simpa using hi);omega)
     cases x<;>simp<;>omega
  have:=key listed.toList outs.length (fun i hi=>hp i (by
   rw [Array.getElem?_toList] at hi
   simp [Array.getD_eq_getD_getElem?,hi]))
  simpa [hs] using this
 intro eC
 induction eC with
 |zero=>
  intro listed a w hd hf
  by_cases hall:∀i,i<outs.length→listed.getD i false=true
  ·exact hfin 0 listed a w hd hall (Nat.le_trans (hun listed hd.sz hd.pre) hf)
  ·exfalso
   simp only [Classical.not_forall] at hall
   obtain⟨i,hi,hni⟩:=hall
   have hi':i<listed.size:=by rw [hd.sz];omega
   have:=aC1 (l:=listed) (i:=i) (by simpa using hni) hi'
   omega
 |succ eC ih=>
  intro listed a w hd hf
  by_cases hall:∀i,i<outs.length→listed.getD i false=true
  ·exact hfin _ listed a w hd hall (Nat.le_trans (hun listed hd.sz hd.pre) hf)
  ·simp only [Classical.not_forall] at hall
   obtain⟨i0,hi0,hni0⟩:=hall
   have hni0':listed.getD i0 false=false:=by simpa using hni0
   obtain⟨j0,hj0,hr0⟩:=y4 hd.sz hb (i:=i0) (by omega) hni0'
   refine⟨fun hnil=>(by rw [hnil] at hr0;cases hr0),fun i hi=>?_⟩
   obtain⟨hu,hil,o,ho,hdeps⟩:=yG hi (by simpa using hd.sz)
   simp only [List.size_toArray] at hil
   simp only [List.getElem?_toArray] at ho
   have hdeps':∀o',l[i]?=some o'→∀e∈o'.after.toList,rQ e=true→listed.getD e.on false=true:=by
    intro o' ho'
    rw [ho] at ho'
    rw [←Option.some.inj ho'];exact hdeps
   have him:i<outs.length:=by
    rcases Nat.lt_or_ge i outs.length with h|h
    ·exact h
    ·exfalso
     have hbit:=z6 ht (i-outs.length) (by omega) i0 (by omega)
     rw [show outs.length+(i-outs.length)=i by omega] at hbit
     have:=uT (L:=fun i=>listed.getD i false=true) hm hb i i0 hbit (fun o' ho'=>hdeps' o' ho') hd.clo
     rw [hni0'] at this;cases this
   obtain⟨o2,ho2,hdN,hop⟩:=aBW.at hops i outs[i] (List.getElem?_eq_getElem him)
   rw [ho] at ho2
   have hoo:o=o2:=Option.some.inj ho2
   subst hoo
   rw [Nat.zero_add] at hop
   obtain⟨M,bs,ord,G,h1,hnd,ho1,ho2,h2,h3,h4,h5⟩:=hd.st
   have hdN':∀d,o.dst=some d→d<S.N:=fun d hod=>by rw [hod] at hdN;simpa using hdN
   have hin:∀{L:List Nat},aB2 ms hv i L=true→uA hv listed∈L:=by
    intro L hL
    have h1:=aEA hL (aEN listed hv)
    have h2:aGf ms hv i (uA hv listed)=true:=by
     unfold aGf
     refine aBv fun j hj=>?_
     rw [aCy hj]
     have c1:(!(ms.getD i 0).testBit j||listed.getD j false)=true:=by
      cases hbq:(ms.getD i 0).testBit j with
      |false=>rfl
      |true=>rw [uT (L:=fun i=>listed.getD i false=true) hm hb i j hbq (fun o' ho'=>hdeps' o' ho') hd.clo];rfl
     have c2:(!(Nat.beq j i||(ms.getD j 0).testBit i)||!listed.getD j false)=true:=by
      cases hj':listed.getD j false with
      |false=>simp
      |true=>
       have hji:Nat.beq j i=false:=by
        cases hbq:Nat.beq j i with
        |false=>rfl
        |true=>have:=Nat.eq_of_beq_eq_true hbq;subst this;rw [hu] at hj';cases hj'
       have hbt:(ms.getD j 0).testBit i=false:=by
        cases hbq:(ms.getD j 0).testBit i with
        |false=>rfl
        |true=>
         have:=uT (L:=fun i=>listed.getD i false=true) hm hb j i hbq (fun o'' ho'' e he hbe=>hd.clo.h j o'' ho'' hj' e he hbe) hd.clo
         rw [hu] at this;cases this
       rw [hji,hbt];rfl
     have c3:(!listed.getD j false||aCF (fun k=>!(ms.getD j 0).testBit k||exM hv (uA hv listed) k) hv)=true:=by
      cases hj':listed.getD j false with
      |false=>rfl
      |true=>
       show aCF _ hv=true
       refine aBv fun k hk=>?_
       rw [aCy hk]
       cases hbq:(ms.getD j 0).testBit k with
       |false=>rfl
       |true=>rw [uT (L:=fun i=>listed.getD i false=true) hm hb j k hbq (fun o'' ho'' e he hbe=>hd.clo.h j o'' ho'' hj' e he hbe) hd.clo];rfl
     rw [c1,c2,c3];rfl
    rw [h2] at h1
    exact aCf h1
   have hgetset:∀j,(listed.setIfInBounds i true).getD j false=if j=i then true else listed.getD j false:=by
    intro j
    simp only [Array.getD_eq_getD_getElem?,Array.getElem?_setIfInBounds]
    by_cases e:i=j
    ·subst e;simp [hd.sz,hil]
    ·rw [if_neg e,if_neg (fun h=>e h.symm)]
   have hK:∀(v:Value) (M':mX) (w':World) (bs':Nat→Nat) (ord':List Nat) (G':Gh),nP M M'→(∀j,j≠i→bs' j=bs j)→(∀j,j≠i→G' j=G j)→St S M' w' (Hs G' (uA hv (listed.setIfInBounds i true))++ord'.map (xJ outs bs'))→ord'.Nodup→(∀(j T:Nat) (zs:List CP),outs[j]?=some (.a T zs)→(listed.setIfInBounds i true).getD j false=true→j∈ord')→(∀j∈ord',(listed.setIfInBounds i true).getD j false=true)→
     ((outs[i]).vp bs' G' i).h M' v→wpAny S.P .any l.toArray (κ.den S.P) eC (listed.setIfInBounds i true) (a.put o.dst v) w':=by
    intro v M' w' bs' ord' G' hm hbs hGs hst hnd' ho1' ho2' hval
    have hvp:∀(j:Nat) (q:Ou),j≠i→q.vp bs' G' j=q.vp bs G j:=by
     intro j q hj
     cases q with
     |v p=>rfl
     |a T zs=>simp only [Ou.vp,hbs j hj]
     |g f=>simp only [Ou.vp,hGs j hj]
    refine ih _ _ _ ⟨by simpa using hd.sz,⟨fun k o' hk hL e he hbe=>?_⟩,fun k hk=>?_,M',bs',ord',G',hst,hnd',ho1',ho2',by cases hod:o.dst<;>simp [Act.put,h2],by cases hod:o.dst<;>exact h3,fun k out o' d' hout hk hd' hL=>?_,fun d' p hl hno=>?_⟩ ?_
    ·rw [hgetset] at hL ⊢
     by_cases e1:e.on=i
     ·simp [e1]
     ·rw [if_neg e1]
      by_cases e2:k=i
      ·subst e2;exact hdeps' o' hk e he hbe
      ·rw [if_neg e2] at hL;exact hd.clo.h k o' hk hL e he hbe
    ·rw [hgetset] at hk
     by_cases e2:k=i
     ·subst e2;exact him
     ·rw [if_neg e2] at hk;exact hd.pre k hk
    ·by_cases e2:k=i
     ·subst e2
      rw [ho] at hk
      cases Option.some.inj hk
      rw [List.getElem?_eq_getElem him] at hout
      cases Option.some.inj hout
      rw [hd']
      exact⟨v,by simp [Act.put,h2,hdN' d' hd'],hval⟩
     ·rw [hgetset,if_neg e2] at hL
      obtain⟨u,hu',hp⟩:=h4 k out o' d' hout hk hd' hL
      refine⟨u,?_,by rw [hvp k out e2];exact VP.mono hm hp⟩
      cases hod:o.dst with
      |none=>exact hu'
      |some d=>
       have hne:d≠d':=fun e=>e2 (aBb hq hk ho (e▸hd') hod)
       simp [Act.put,Array.getElem?_setIfInBounds_ne hne,hu']
    ·obtain⟨u,hu',hp⟩:=h5 d' p hl fun k o' hk hd'=>by
      have:=hno k o' hk hd'
      rw [hgetset] at this
      by_cases e2:k=i
      ·rw [if_pos e2] at this;cases this
      ·rwa [if_neg e2] at this
     refine⟨u,?_,VP.mono hm hp⟩
     cases hod:o.dst with
     |none=>exact hu'
     |some d=>
      have hne:d≠d':=fun e=>by
       have:=hno i o ho (e▸hod)
       rw [hgetset,if_pos rfl] at this;cases this
      simp [Act.put,Array.getElem?_setIfInBounds_ne hne,hu']
    ·have:=aC1 (l:=listed) (i:=i) hu (by rw [hd.sz];exact hil)
     omega
   have hoi:outs[i]?=some outs[i]:=List.getElem?_eq_getElem him
   have hse:uA hv (listed.setIfInBounds i true)=uA hv listed+z7 hv i:=aDc hu hgetset hvn
   have hsl:hv.contains i=false→uA hv (listed.setIfInBounds i true)=uA hv listed:=fun hc=>by rw [hse,aBT hc];rfl
   have hKv:∀p,outs[i]=.v p→hv.contains i=false→∀v M' w',nP M M'→St S M' w' (Hs G (uA hv listed)++ord.map (xJ outs bs))→p.h M' v→wpAny S.P .any l.toArray (κ.den S.P) eC (listed.setIfInBounds i true) (a.put o.dst v) w':=by
    intro p hp hc v M' w' hm hst hval
    refine hK v M' w' bs ord G hm (fun _ _=>rfl) (fun _ _=>rfl) (by rw [hsl hc];exact hst) hnd (fun j T zs hj hL=>?_) (fun j hj=>?_) (by rw [hp];exact hval)
    ·rw [hgetset] at hL
     by_cases e:j=i
     ·subst e
      rw [hoi,hp] at hj;cases hj
     ·rw [if_neg e] at hL;exact ho1 j T zs hj hL
    ·rw [hgetset]
     by_cases e:j=i
     ·simp [e]
     ·rw [if_neg e];exact ho2 j hj
   unfold wpOp
   simp only [List.getElem?_toArray,ho]
   generalize hout:outs[i]=out at hop hKv hK
   cases hop with
   |run t hs hg e1 e3=>
    rw [if_pos (by simp [Region.wanted,hg])]
    exact .inl ((t.at (uA hv listed) (hin e1) G _).run M w a h1 (hd.ins hm hb hq hu hdeps' h4 h5 (hs G)) _ _ (hKv _ rfl e3))
   |runG t hs hg hdd hl e1 e3=>
    rw [if_pos (by simp [Region.wanted,hg,hd.yields hm hb hq hu hdeps' h4 h5 hdd (hl G)])]
    exact .inl ((t.at (uA hv listed) (hin e1) G _).run M w a h1 (hd.ins hm hb hq hu hdeps' h4 h5 (hs G)) _ _ (hKv _ rfl e3))
   |skip hg hdd hl hbb e3=>
    rw [if_neg (by simp [Region.wanted,hg,hd.yields hm hb hq hu hdeps' h4 h5 hdd (hl G)];simpa using hbb)]
    exact hKv _ rfl e3 undef M w (nP.refl M) h1 trivial
   |skipN hg hdd hl hbb e3=>
    rw [if_neg (by simp [Region.wanted,hg,hd.yields hm hb hq hu hdeps' h4 h5 hdd (hl G)];simpa using hbb)]
    exact hKv _ rfl e3 undef M w (nP.refl M) h1 rfl
   |skipU hg hdd hl e3=>
    rw [if_neg (by simp [Region.wanted,hg,hd.yieldsU hm hb hq hu hdeps' h4 h5 hdd (hl G)])]
    exact hKv _ rfl e3 undef M w (nP.refl M) h1 rfl
   |@hvy out ins L t hs hg e1 e3=>
    rw [if_pos (by simp [Region.wanted,hg])]
    refine .inl ((t.at (uA hv listed) (hin e1) G _).run M w a h1 (hd.ins hm hb hq hu hdeps' h4 h5 (hs G)) _ _ fun v M' w' b c hm hst hval=>?_)
    refine hK v M' w' bs ord (G.set i (b,c)) hm (fun _ _=>rfl) (fun j hj=>?_) (by rw [hse];exact hst) hnd (fun j T zs hj hL=>?_) (fun j hj=>?_) ?_
    ·unfold Gh.set
     cases hbq:Nat.beq j i with
     |false=>rfl
     |true=>exact absurd (Nat.eq_of_beq_eq_true hbq) hj
    ·rw [hgetset] at hL
     by_cases e:j=i
     ·subst e
      rw [hoi,hout] at hj;cases hj
     ·rw [if_neg e] at hL;exact ho1 j T zs hj hL
    ·rw [hgetset]
     by_cases e:j=i
     ·simp [e]
     ·rw [if_neg e];exact ho2 j hj
    ·simp only [Ou.vp,Gh.set,Nat.beq_refl,cond_true]
     exact hval
   |@alc T zs hz hop hg e3=>
    rw [if_pos (by simp [Region.wanted,hg])]
    obtain⟨ii,z,hi',hzz,hsz,hall'⟩:=hz.z
    have hnot:i∉ord:=fun hm=>by have:=ho2 i hm;rw [hu] at this;cases this
    refine .inl (dD (v:=.pointer (some ⟨w.heap.size,0,none⟩)) (w':=w.alloc (.cells z.cells T)) (by simp [execOp,hop,Instr.alloc,zeroValue,typeInfo,hi',hzz,uN]) ?_)
    have hsame:∀bs',(∀j,j≠i→bs' j=bs j)→ord.map (xJ outs bs')=ord.map (xJ outs bs):=by
     intro bs' hbs
     apply List.map_congr_left
     intro j hj
     have hji:j≠i:=fun e=>hnot (e▸hj)
     unfold xJ
     rw [hbs j hji]
    have hbs':∀j,j≠i→(fun j=>if j=i then w.heap.size else bs j) j=bs j:=fun j hj=>by simp [hj]
    have hst:=zG (T:=T) h1 (hall' M)
    refine hK _ M _ (fun j=>if j=i then w.heap.size else bs j) (ord++[i]) G (nP.refl M) hbs' (fun _ _=>rfl) ?_ ?_ (fun j T' zs' hj hL=>?_) (fun j hj=>?_) ⟨_,by simp,rfl⟩
    ·rw [hsl e3,List.map_append,hsame _ hbs']
     have he:xJ outs (fun j=>if j=i then w.heap.size else bs j) i=⟨some w.heap.size,1,T,zs.length,1,zs⟩:=by
      simp [xJ,hoi,hout]
     simp only [List.map_cons,List.map_nil,he]
     refine hst.sub (fun e he=>?_) ?_
     ·simp only [List.mem_append,List.mem_cons,List.not_mem_nil,or_false] at he ⊢
      rcases he with h|h|h
      ·exact .inr (.inl h)
      ·exact .inr (.inr h)
      ·exact .inl h
     ·have hn:=hst.nodup
      rw [List.filterMap_cons_some (f:=HA.β) (b:=w.heap.size) rfl] at hn
      have hn2:=List.nodup_cons.1 hn
      rw [←List.append_assoc,List.filterMap_append]
      refine List.nodup_append.2 ⟨hn2.2,by simp,fun x hx y hy hxy=>?_⟩
      simp at hy
      subst hy
      exact hn2.1 (hxy▸hx)
    ·refine List.nodup_append.2 ⟨hnd,by simp,fun x hx y hy hxy=>?_⟩
     simp at hy
     subst hy
     exact hnot (hxy▸hx)
    ·rw [hgetset] at hL
     by_cases e:j=i
     ·simp [e]
     ·rw [if_neg e] at hL;simp [ho1 j T' zs' hj hL]
    ·rw [hgetset]
     by_cases e:j=i
     ·simp [e]
     ·rw [if_neg e]
      rcases List.mem_append.1 hj with hj|hj
      ·exact ho2 j hj
      ·simp at hj;exact absurd hj e
theorem aDV (n i:Nat):(Array.replicate n false).getD i false=false:=by
 simp only [Array.getD_eq_getD_getElem?,Array.getElem?_replicate]
 split<;>rfl
theorem aFF (n:Nat):unl (Array.replicate n false)≤n:=by
 have h1:unl (Array.replicate n false)≤(Array.replicate n false).toList.length:=List.length_filter_le _ _
 simpa using h1
theorem pG {id:Nat} {l:List Oper} {H:List HA} (Hs:Gh→Nat→List HA) (hv:List Nat) (ms:List Nat) (m n:Nat) (outs:List Ou) (hmix:S.P.follows .mixedOrders=true) (hops:aBW S Hs hv l ms E outs 0 l outs) (k:∀bs G,WL S l.toArray κ (l.drop outs.length) (zB bs 0 outs++Hs G (2^hv.length-1)) (y7 bs G 0 l outs++E))
  (h0:Hs (fun _=>(none,0)) 0=H:=by rfl) (hhv:hv.all (Nat.blt · outs.length)=true:=by rfl) (hvn:hv.Nodup:=by decide) (hm:xT ms l ms=true:=by kernel_rfl) (hb:sT l 0=true:=by kernel_rfl) (hq:wT l=true:=by kernel_rfl) (hm1:Nat.beq outs.length m=true:=by kernel_rfl) (hm2:Nat.beq l.length (m+n)=true:=by kernel_rfl) (ht:yX l ms m n=true:=by kernel_rfl):WC S (.region id l.toArray true) κ H E:=by
 have e1:=Nat.eq_of_beq_eq_true hm1
 have e2:=Nat.eq_of_beq_eq_true hm2
 have hle:outs.length≤l.length:=by omega
 have ht:yX l ms outs.length (l.length-outs.length)=true:=by
  rw [e1,show l.length-m=n by omega];exact ht
 rintro a w ⟨M,h1,h2⟩
 have hF:∀i,(Array.replicate l.toArray.size false).getD i false=true→False:=fun i hL=>by rw [aDV] at hL;cases hL
 have hst:uA hv (Array.replicate l.toArray.size false)=0:=by
  refine aB9 fun j _=>?_
  cases hq:(Array.replicate l.toArray.size false).getD j false
  ·rfl
  ·exact(hF j hq).elim
 refine wp_region_any hmix (aE0 hm hb hq hle hops ht hhv hvn k _ _ a _ ⟨by simp,⟨fun i o _ hL=>(hF i hL).elim⟩,fun i hL=>(hF i hL).elim,M,fun _=>0,[],fun _=>(none,0),?_,by simp,fun i T zs _ hL=>(hF i hL).elim,by simp,h2.size,h2.defers,fun i out o d _ _ _ hL=>(hF i hL).elim,fun d p hl _=>h2.get d p hl⟩ (aFF _))
 rw [hst,h0,show([]:List Nat).map (xJ outs fun _=>0)=[] from rfl,List.append_nil]
 exact h1.same rfl rfl rfl rfl
theorem bP {id:Nat} {l:List Oper} {H:List HA} (ms:List Nat) (m n:Nat) (outs:List Ou) (hmix:S.P.follows .mixedOrders=true) (hops:aBW S (fun _ _=>H) [] l ms E outs 0 l outs) (k:∀bs G,WL S l.toArray κ (l.drop outs.length) (zB bs 0 outs++H) (y7 bs G 0 l outs++E))
  (hm:xT ms l ms=true:=by kernel_rfl) (hb:sT l 0=true:=by kernel_rfl) (hq:wT l=true:=by kernel_rfl) (hm1:Nat.beq outs.length m=true:=by kernel_rfl) (hm2:Nat.beq l.length (m+n)=true:=by kernel_rfl) (ht:yX l ms m n=true:=by kernel_rfl):WC S (.region id l.toArray true) κ H E:=
 pG (fun _ _=>H) [] ms m n outs hmix hops k rfl rfl List.nodup_nil hm hb hq hm1 hm2 ht
end
end Go.Proofs.YtcjdedkdoagifaaGreat
