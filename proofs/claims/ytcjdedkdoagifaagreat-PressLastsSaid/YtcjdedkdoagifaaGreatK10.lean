/- The rules in the form in which the printed walks use them. -/
import Derived.Test.YtcjdedkdoagifaaGreatK9
set_option linter.unusedVariables false
namespace Go.Proofs.YtcjdedkdoagifaaGreat
theorem bX {α:Type} {a b:α} (h:some a=some b):a=b:=Option.some.inj h
theorem sm2 {α β:Type} {a a':α} {b b':β} (h:some (a,b)=some (a',b')):a=a'∧b=b':=by cases h;exact⟨rfl,rfl⟩
theorem sm3 {α β γ:Type} {a a':α} {b b':β} {c c':γ} (h:some (a,b,c)=some (a',b',c')):a=a'∧b=b'∧c=c':=by cases h;exact⟨rfl,rfl,rfl⟩
inductive LR (R S:Type)
 |ret (r:R)
 |go (s:S)
section
variable {S:Sx} {κ:Kt} {H H':List HA} {E:qS} {ops:Array Oper} {rest:List Oper} {o:Oper}
theorem aGj {P:Program} {f:Nat} {pre:List VP} {α:Type} {C:Cd α} {T:Nat} {r:List α} (h:CtO P f [] pre (fun Ho q=>∃β c n,r.length=n∧Ho=[hO C β c T n r]∧q=.vc (pO β n c))):Ct P f pre (.vc (pS C r)):=by
 refine⟨h.ok,fun M w args h1 h2 h3 h4=>(h.run M w args h1 h2 h3 h4).mono fun e w' hr=>?_⟩
 obtain⟨v,M',Ho,q,⟨β,c,n,hn,rfl,rfl⟩,rfl,hst,hq⟩:=hr
 obtain⟨M2,g1,g2,g3⟩:=hst.frzv (i:=0) rfl hn
 rcases hq with hv|⟨_,h0,_,a0,rfl⟩
 ·subst hv
  exact⟨_,M2,[],_,⟨rfl,rfl⟩,rfl,g2,g3⟩
 ·have hx:r=[]:=List.eq_nil_of_length_eq_zero (hn.trans h0)
  subst hx
  exact⟨_,M2,[],_,⟨rfl,rfl⟩,rfl,g2,_,_,rfl,by simp,by simp,fun j x hj=>by simp at hj⟩
theorem gX {c:Code} {a:Act} {w:World} (h:WC S c κ H E) (hh:hs S H E a w):c.wp S.P (κ.den S.P) a w:=h a w hh
theorem bO {t:Nat} {b:Bool} {x y:Code} (ht:iU E t=some (.vc (pB b))) (hx:b=true→WC S x κ H E) (hy:b=false→WC S y κ H E):WC S (.cond (.tmp t) x y) κ H E:=
 aGu ht (fun _ _ h=>h) hx hy
theorem kT {t:Nat} {x y:Code} (ht:iU E t=some (.vc (pB true))) (hx:WC S x κ H E):WC S (.cond (.tmp t) x y) κ H E:=
 bO ht (fun _=>hx) (fun h=>by cases h)
theorem qG {t:Nat} {x y:Code} (ht:iU E t=some (.vc (pB false))) (hy:WC S y κ H E):WC S (.cond (.tmp t) x y) κ H E:=
 bO ht (fun h=>by cases h) (fun _=>hy)
theorem bD {t:Nat} {x:Operand} {off:Nat} {β:Option Nat} {e:HA} {out:VP} {qs:List CP} (i k:Nat) (ho:o.op=.load t x) (hi:H[i]?=some e) (hβ:e.β=β) (hq:wO k (e.ps.drop off)=some qs) (hk:Tk S.P t qs out):
  Tr S o H H [(x,.vc (pP β off))] out:=by
 obtain⟨h1,h2⟩:=vB hq
 exact aGV ho hi hβ (by rw [h2];exact h1) hk
theorem dM {t:Nat} {x:Operand} {ps qs:List CP} {out:VP} (k:Nat) (ho:o.op=.load t x) (hq:wO k ps=some qs) (hk:Tk S.P t qs out):
  Tr S o H H [(x,.vc (pM ps))] out:=by
 obtain⟨h1,h2⟩:=vB hq
 exact aGJ ho (by rw [h2];exact h1) hk
theorem dA {t:Nat} {x y:Operand} {off:Nat} {β:Option Nat} {e:HA} {p:VP} {ps:List CP} {k:Nat} (i:Nat) (ho:o.op=.store t x y) (hi:H[i]?=some e) (hβ:e.β=β) (hs:(S.P.info? t).map (·.size)=some k) (hp:p.flat:=by exact trivial) (hk:p.cells.length=k:=by rfl) (hq:tI e.ps off p.cells=some ps:=by rfl) (hH:uE H i ⟨e.β,e.c,e.T,e.sz,e.n,ps⟩=some H':=by rfl):
  Tr S o H H' [(x,.vc (pP β off)),(y,p)] .any:=by
 obtain⟨h1,h2⟩:=uK hq
 rw [xV hH,h1]
 exact aGW ho hi hβ hp (by rw [hk];exact hs) h2
theorem cW {ins:List (Operand×VP)} {b v:Bool} (t:Tr S o H H' ins (.vc (pB b))) (h:b=v):Tr S o H H' ins (.vc (pB v)):=h▸t
theorem sA {α:Type} (C:Cd α) (T:Nat) {d:Nat} (ho:o.op=.assign (.const (.slice none 0 0))) (k:WL S ops κ rest (hO C none 0 T 0 ([]:List α)::H) ((d,.vc (pO none 0 0))::E))
  (hd:o.dst=some d:=by rfl) (hg:o.guard=none:=by rfl) (hN:Nat.blt d S.N=true:=by rfl):WL S ops κ (o::rest) H E:=by
 rintro a w ⟨M,h1,h2⟩
 refine wpList_plain hg fun K hK=>dD (v:=.slice none 0 0) (w':=w) (by simp [execOp,ho,Act.eval]) (hK _ _ (k _ _ ⟨M,?_,?_⟩))
 ·exact h1.new_row (sL w none) ⟨⟨[],World.ownsRow_nil w 0 T C.n,trivial⟩,fun b hb=>by cases hb⟩ (fun b hb=>by cases hb)
 ·rw [hd];exact h2.put hN (.inl rfl)
theorem aI {P:Program} {fn:Func} {w0:World} {M0:mX} {B:List Nat} {post:VP} {N:Nat} {e:Exit} {rs:List ResultVar} {ps:List VP} (he:e=.ret∨e=.normal) (hrs:fn.results=rs.toArray) (hv:RVs ⟨P,w0,M0,B,N⟩ H E rs ps) (hl:Nat.ble ps.length 4=true)
  (hpost:aD7 ps=post):WX ⟨P,w0,M0,B,N⟩ e (.base (bodyPost P fn (Rp P w0 M0 B (fun Ho q=>Ho=[]∧q=post)))) H E:=
 vH he hrs hv hl [] rfl (by simp) ⟨rfl,hpost⟩
theorem bM {t T off:Nat} {β:Option Nat} {e:HA} {p:VP} {qs:List CP} {rs:List ResultVar} {ps:List VP} (i k:Nat) (h:iU E t=some (.vc (pP β off))) (hi:H[i]?=some e) (hβ:e.β=β) (hq:wO k (e.ps.drop off)=some qs) (hk:Tk S.P T qs p) (kk:RVs S H E rs ps):RVs S H E (.cell t T::rs) (p::ps):=by
 obtain⟨h1,h2⟩:=vB hq
 exact .cell h hi hβ (by rw [h2];exact h1) hk kk
theorem aBn {α:Type} {C:Cd α} {xs:List α} {β:Option Nat} {c T n i:Nat} {a:Act} {w:World} (hi:H[i]?=some (hO C β c T n xs)) (hh:hs S H E a w):n≤vJ:=by
 obtain⟨M,h1,_⟩:=hh
 have:=aCY h1 hi
 simpa [maxLen,vJ] using this
def aCA (E:qS) (p:VP):List Nat→Prop
 |[]=>True
 |d::ds=>iU E d=some p∧aCA E p ds
theorem aCA.mem {E:qS} {p:VP}:∀{ds:List Nat},aCA E p ds→∀d∈ds,iU E d=some p
 |[],_,d,h=>by simp at h
 |x::ds,ha,d,h=>by
  rcases List.mem_cons.1 h with rfl|h
  ·exact ha.1
  ·exact aCA.mem ha.2 d h
theorem aF {x d:Nat} {p:VP} (k:WL S ops κ rest H ((d,p)::E)) (ho:o.op=.move (.tmp x):=by rfl) (hl:iU E x=some p:=by rfl) (hd:o.dst=some d:=by rfl) (hg:o.guard=none:=by rfl) (hN:Nat.blt d S.N=true:=by rfl):WL S ops κ (o::rest) H E:=
 aB (aL (.inl ho)) ⟨hl,trivial⟩ k hd hg hN
theorem bB {x d:Nat} {p:VP} (k:WL S ops κ rest H ((d,p)::E)) (ho:o.op=.assign (.tmp x):=by rfl) (hl:iU E x=some p:=by rfl) (hd:o.dst=some d:=by rfl) (hg:o.guard=none:=by rfl) (hN:Nat.blt d S.N=true:=by rfl):WL S ops κ (o::rest) H E:=
 aB (aL (.inr ho)) ⟨hl,trivial⟩ k hd hg hN
theorem xZ {α:Type} {C:Cd α} {xs:List α} {β:Option Nat} {c T n:Nat} (i:Nat) (ds:List Nat) (hi:H[i]?=some (hO C β c T n xs)) (hn:xs.length=n) (hds:aCA E (.vc (pO β n c)) ds) (hd:wI H i=some H') (k:WL S ops κ rest H' (ds.map (fun d=>(d,VP.vc (pS C xs)))++E)):WL S ops κ rest H E:=
 fun a w hh=>k a w (xB hi hn (hn▸aBn hi hh) hds.mem hd hh)
theorem yY {α:Type} {C:Cd α} {xs:List α} {β:Option Nat} {c T n:Nat} {cd:Code} (i:Nat) (ds:List Nat) (hi:H[i]?=some (hO C β c T n xs)) (hn:xs.length=n) (hds:aCA E (.vc (pO β n c)) ds) (hd:wI H i=some H') (k:WC S cd κ H' (ds.map (fun d=>(d,VP.vc (pS C xs)))++E)):WC S cd κ H E:=
 fun a w hh=>k a w (xB hi hn (hn▸aBn hi hh) hds.mem hd hh)
theorem t5 {α:Type} {C:Cd α} {xs:List α} {β:Option Nat} {c T n:Nat} {e:Exit} (i:Nat) (ds:List Nat) (hi:H[i]?=some (hO C β c T n xs)) (hn:xs.length=n) (hds:aCA E (.vc (pO β n c)) ds) (hd:wI H i=some H') (k:WX S e κ H' (ds.map (fun d=>(d,VP.vc (pS C xs)))++E)):WX S e κ H E:=
 fun a w hh=>k a w (xB hi hn (hn▸aBn hi hh) hds.mem hd hh)
theorem wQ {α:Type} {C:Cd α} {xs:List α} {β:Option Nat} {c T n:Nat} (i k off:Nat) {eb:HA} {ps':List CP} {H1 H2:List HA} (hi:H[i]?=some (hO C β c T n xs)) (hn:xs.length=n) (hk:H[k]?=some eb) (hp:eb.ps[off]?=some (pO β n c)) (hps:tI eb.ps off [pS C xs]=some ps') (h1:uE H k ⟨eb.β,eb.c,eb.T,eb.sz,eb.n,ps'⟩=some H1) (h2:wI H1 i=some H2) (kk:WL S ops κ rest H2 E) (hne:Nat.beq i k=false:=by rfl):WL S ops κ rest H E:=
 fun a w hh=>kk a w (aGv i k off hi hn (hn▸aBn hi hh) hk hne hp hps h1 h2 hh)
theorem cL {c:Code} {id:Nat} (PJ:List HA→qS→Prop) (hJ:∀H E,PJ H E→WX S .normal κ H E) (k:(∀H E,PJ H E→WX S .normal κ H E)→WC S c (.blk id κ) H E):WC S c (.blk id κ) H E:=k hJ
theorem rB {c y:Code} (PJ:List HA→qS→Prop) (hJ:∀H E,PJ H E→WC S y κ H E) (k:(∀H E,PJ H E→WX S .normal (.seq y κ) H E)→WC S c (.seq y κ) H E):WC S c (.seq y κ) H E:=k fun H E h=>aA (hJ H E h)
theorem bS {PJ:List HA→qS→Prop} {H':List HA} {E':qS} (J:∀H E,PJ H E→WX S .normal κ H E) (h:PJ H' E') (l:List Nat) (hp:fE H l=some H') (hE:aBr E E') (hl:l.Nodup:=by decide):WX S .normal κ H E:=
 aF1 l hp hl hE (J H' E' h)
theorem gY {body:Code} (I:Nat→Act→World→Prop) (k:Nat) (h0:∀a w,¬I 0 a w) (step:∀k a w,I (k+1) a w→body.wp S.P ((Kt.lp (I k) κ).den S.P) a w) (hI:∀a w,hs S H E a w→I k a w):WC S (.loop body) κ H E:=
 fun a w hh=>aGr I h0 step k a w (hI a w hh)
end
end Go.Proofs.YtcjdedkdoagifaaGreat
