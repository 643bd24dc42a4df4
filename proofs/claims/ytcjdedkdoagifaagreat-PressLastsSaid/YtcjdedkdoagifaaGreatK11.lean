/- Variables that are captured and written no more; values of functions that are known by what they compute. -/
import Derived.Test.YtcjdedkdoagifaaGreatK10
import Derived.Laws.Cover3
set_option linter.unusedVariables false
namespace Go.Proofs.YtcjdedkdoagifaaGreat
section
variable {S:Sx} {κ:Kt} {H H':List HA} {E:qS} {ops:Array Oper} {rest:List Oper} {o:Oper}
def aEX (E:qS) (b:Nat):List (Nat×Nat)→Prop
 |[]=>True
 |x::ds=>iU E x.1=some (.vc (pP (some b) x.2))∧aEX E b ds
def aDM (ps:List CP):List (Nat×Nat)→qS
 |[]=>[]
 |x::ds=>(x.1,.vc (pM (ps.drop x.2)))::aDM ps ds
theorem aCV {i b T sz:Nat} {ps:List CP} {ds:List (Nat×Nat)} (hi:H[i]?=some ⟨some b,1,T,sz,1,ps⟩) (hds:aEX E b ds) {a:Act} {w:World} (h:hs S H E a w):
  hs S (H.eraseIdx i) (aDM ps ds++E) a w:=by
 obtain⟨M,h1,h2⟩:=h
 obtain⟨hle,hst⟩:=h1.freeze hi (fun _ _=>.inr trivial)
 obtain⟨⟨vs,how,hall⟩,_⟩:=h1.own _ (List.mem_of_getElem? hi)
 have hcell:tK (frz M w (some b)) b 0 ps:=by
  rcases how.2 with⟨h3,h4⟩|⟨g,cap,cur,h3,_,hg,hnc,_,hsz,htake⟩
  ·simp at h4
  ·simp only [sv,Option.map_some,Value.slice.injEq,Option.some.injEq,Addr.mk.injEq,and_true,true_and] at h3
   obtain⟨rfl,rfl⟩:=h3
   refine⟨vs,bR.mono hle hall,fun t u ht=>?_⟩
   have hM:frz M w (some b) b=some (.cells cur T (0,0)):=by simp [frz,hg]
   simp only [t8,hM,Nat.zero_add]
   have ht2:(cur.toList.take (1*sz))[t]?=some u:=by rw [htake];exact ht
   rw [List.getElem?_take] at ht2
   split at ht2
   ·simpa using ht2
   ·cases ht2
 refine⟨_,hst,h2.size,h2.defers,fun x p hl=>?_⟩
 have key:∀ds:List (Nat×Nat),aEX E b ds→iU (aDM ps ds++E) x=some p→∃v,a.tmps[x]?=some v∧p.h (frz M w (some b)) v:=by
  intro ds
  induction ds with
  |nil=>intro _ hl;exact(h2.mono hle).get x p hl
  |cons d ds ih=>
   intro hd hl
   simp only [aDM,List.cons_append,iU] at hl
   by_cases e:d.1=x
   ·subst e
    simp only [Nat.beq_refl,cond_true,Option.some.injEq] at hl
    subst hl
    obtain⟨v,hv,b',hb',hp⟩:=h2.get d.1 _ hd.1
    simp only [Option.some.injEq] at hb'
    subst hb'
    refine⟨v,hv,b,d.2,hp,?_⟩
    have:=hcell.drop d.2
    rwa [Nat.zero_add] at this
   ·rw [yV e] at hl
    exact ih hd.2 hl
 exact key ds hds hl
theorem aDb {b T sz:Nat} {ps:List CP} (i:Nat) (ds:List (Nat×Nat)) (hi:H[i]?=some ⟨some b,1,T,sz,1,ps⟩) (hds:aEX E b ds) (hd:wI H i=some H') (k:WL S ops κ rest H' (aDM ps ds++E)):WL S ops κ rest H E:=
 fun a w hh=>k a w (uI hd▸aCV hi hds hh)
def pFn (P:Program) {α ρ:Type} (pre:α→List VP) (post:ρ→VP) (φ:α→Option ρ):CP:=
 ⟨fun M v=>v.oneCell'=true∧∀x r,φ x=some r→∃f cs,(pF f cs).h M v∧Ct P f (pre x++cs.map .vc) (post r),
  fun hm h=>⟨h.1,fun x r hr=>let ⟨f,cs,h1,h2⟩:=h.2 x r hr;⟨f,cs,(pF f cs).mono hm h1,h2⟩⟩,fun h=>h.1⟩
theorem aFY {α ρ:Type} {pre:α→List VP} {post:ρ→VP} {φ:α→Option ρ} {f:Nat} {xs:List Operand} {cs:List CP} (ho:o.op=.makeFunc (.func f) #[] xs.toArray) (hl:xs.length=cs.length) (h:∀x r,φ x=some r→Ct S.P f (pre x++cs.map .vc) (post r)):
  Tr S o H H (xs.zip (cs.map .vc)) (.vc (pFn S.P pre post φ)):=
 ⟨fun M w a hs hin K Q hk=>(aA7 ho hl).run M w a hs hin K Q fun v M' w' hm hst hv=>hk v M' w' hm hst ⟨(pF f cs).one hv,fun x r hr=>⟨f,cs,hv,h x r hr⟩⟩⟩
theorem xW {α ρ:Type} {pre:α→List VP} {post:ρ→VP} {φ:α→Option ρ} {xs:List Operand} {y:Operand} {ts:Array TypeId} {x:α} {r:ρ} (ho:o.op=.call {callee:=.value y,args:=xs.toArray,argTypes:=ts}) (hx:φ x=some r) (hl:xs.length=(pre x).length):
  Tr S o H H ((y,.vc (pFn S.P pre post φ))::xs.zip (pre x)) (post r):=
 ⟨fun M w a hs hin K Q hk=>by
  obtain⟨f,cs,h1,h2⟩:=hin.1.2 x r hx
  exact(aBg (cs:=cs) ho h2 hl).run M w a hs ⟨h1,hin.2⟩ K Q hk⟩
theorem yR {α:Type} (C:Cd α) (T:Nat) (k:WL S ops κ rest (hO C none 0 T 0 ([]:List α)::H) E):WL S ops κ rest H E:=by
 rintro a w ⟨M,h1,h2⟩
 exact k a w ⟨M,h1.new_row (sL w none) ⟨⟨[],World.ownsRow_nil w 0 T C.n,trivial⟩,fun b hb=>by cases hb⟩ (fun b hb=>by cases hb),h2⟩
theorem aDy {α:Type} {C:Cd α} {xs:List α} {T T' e d:Nat} {x:Operand} (ho:o.op=.binOp .eql T x (.const (.slice none 0 0)) T') (hT:S.P.underlying T=some (.slice e)) (hx:aAF E x (.vc (pS C xs)))
  (kt:xs=[]→WL S ops κ rest H ((d,.vc (pB true))::E)) (kf:WL S ops κ rest H ((d,.vc (pB false))::E))
  (hd:o.dst=some d:=by rfl) (hg:o.guard=none:=by rfl) (hN:Nat.blt d S.N=true:=by rfl):WL S ops κ (o::rest) H E:=by
 rintro a w ⟨M,h1,h2⟩
 obtain⟨p,c,hv,_,_,hall⟩:=(sZ.ins (l:=[(x,.vc (pS C xs))]) h2 ⟨hx,trivial⟩).1
 have hrun:(execOp a.eval o).run S.P w=.ok (.value (.bool p.isNone)) w:=by
  have hq:=run_equalIn_slice_nil (P:=S.P) (w:=w) 9999 T e p xs.length c hT
  have hg2:(eqGuard .eql T x (.const (.slice none 0 0)) (.slice p xs.length c) (.slice none 0 0)).run S.P w=.ok () w:=by
   unfold eqGuard
   split<;>rfl
  have hb:(binOp .eql T (.slice p xs.length c) (.slice none 0 0)).run S.P w=.ok (.bool p.isNone) w:=by
   simp only [binOp,Sem.run_bind,Op.equal]
   rw [show Op.maxDepth=9999+1 from rfl,hq];simp
  have hv2:a.eval x=.slice p xs.length c:=hv
  have hc2:a.eval (.const (.slice none 0 0))=.slice none 0 0:=rfl
  simp [execOp,ho,hv2,hc2,hg2,hb]
 refine wpList_plain hg fun K hK=>dD hrun (hK _ _ ?_)
 rw [hd]
 cases p with
 |none=>
  refine kt ?_ _ _ ⟨M,h1,h2.put hN rfl⟩
  cases xs with
  |nil=>rfl
  |cons z zs=>obtain⟨b,off,hb,_⟩:=hall 0 z rfl;cases hb
 |some ad=>exact kf _ _ ⟨M,h1,h2.put hN rfl⟩
theorem St.perm {M:mX} {w:World} (h:St S M w H) (hp:H'.Perm H):St S M w H':=
 h.sub (fun e he=>hp.subset he) ((hp.filterMap _).nodup_iff.2 h.nodup)
theorem pJ (hp:H'.Perm H) (k:WL S ops κ rest H' E):WL S ops κ rest H E:=
 fun a w ⟨M,h1,h2⟩=>k a w ⟨M,h1.perm hp,h2⟩
theorem aFv {c:Code} (hp:H'.Perm H) (k:WC S c κ H' E):WC S c κ H E:=
 fun a w ⟨M,h1,h2⟩=>k a w ⟨M,h1.perm hp,h2⟩
end
end Go.Proofs.YtcjdedkdoagifaaGreat
