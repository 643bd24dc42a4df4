/- Texts of the proof, part 2: K15 I1 IZ P2 P3 P4. -/
import Derived.Test.YtolfcbpgmfbgmaaGreatProg
import Derived.KernelRfl
import Derived.IntWalk
import Derived.Test.YtolfcbpgmfbgmaaGreatZ1
set_option linter.unusedSimpArgs false
set_option linter.unusedVariables false
namespace Go.Proofs.YtolfcbpgmfbgmaaGreat
structure GC (S:Sx) (c:Code) (κ:Kt) (H:List HA) (E:nZ) (Q:Prop):Prop where
 h:Q→WC S c κ H E
structure GX (S:Sx) (e:Exit) (κ:Kt) (H:List HA) (E:nZ) (Q:Prop):Prop where
 h:Q→WX S e κ H E
structure GL (S:Sx) (ops:Array Oper) (κ:Kt) (l:List Oper) (H:List HA) (E:nZ) (Q:Prop):Prop where
 h:Q→WL S ops κ l H E
inductive D:Prop→Prop→Prop
 |mk {P Q:Prop} (h:Q→P):D P Q
theorem D.h {P Q:Prop} (h:D P Q):Q→P:=by cases h;assumption
section
variable {S:Sx} {κ:Kt} {H:List HA} {E:nZ} {Q:Prop}
theorem sC {c:Code} (k:GC S c κ H E Q):D (WC S c κ H E) Q:=⟨k.h⟩
theorem sX {e:Exit} (k:GX S e κ H E Q):D (WX S e κ H E) Q:=⟨k.h⟩
theorem sL {ops:Array Oper} {l:List Oper} (k:GL S ops κ l H E Q):D (WL S ops κ l H E) Q:=⟨k.h⟩
theorem eC {c:Code}:GC S c κ H E (WC S c κ H E):=⟨fun q=>q⟩
theorem eX {e:Exit}:GX S e κ H E (WX S e κ H E):=⟨fun q=>q⟩
theorem eL {ops:Array Oper} {l:List Oper}:GL S ops κ l H E (WL S ops κ l H E):=⟨fun q=>q⟩
theorem aKT {x y:Code} (k:GC S x (.seq y κ) H E Q):GC S (.seq x y) κ H E Q:=⟨fun q=>aC (k.h q)⟩
theorem aIg {y:Code} (k:GC S y κ H E Q):GX S .normal (.seq y κ) H E Q:=⟨fun q=>aH (k.h q)⟩
theorem aIx (k:GX S .normal κ H E Q):GC S .skip κ H E Q:=⟨fun q=>f7 (k.h q)⟩
theorem aG7 {l:Nat} (k:GX S .normal κ H E Q):GC S (.label l) κ H E Q:=⟨fun q=>aKz (k.h q)⟩
theorem aIZ {id:Nat} (k:GX S .normal κ H E Q):GX S .normal (.blk id κ) H E Q:=⟨fun q=>y7 (k.h q)⟩
theorem aHA {c:Code} (k:GC S c (.sc κ) H E Q):GC S (.scope c) κ H E Q:=⟨fun q=>aGO (k.h q)⟩
theorem aKQ (k:GX S .normal κ H E Q):GX S .normal (.sc κ) H E Q:=⟨fun q=>aNb (k.h q)⟩
theorem aLj {id:Nat} {l:List Oper} (k:GL S l.toArray κ l H E Q):GC S (.region id l.toArray false) κ H E Q:=⟨fun q=>aJ (k.h q)⟩
theorem aLp {ops:Array Oper} (k:GX S .normal κ H E Q):GL S ops κ [] H E Q:=⟨fun q=>aV (k.h q)⟩
end
def ev (E:nZ):Operand→Option VP
 | .tmp d=>f0 E d
 | .const (.int k n)=>some (.vc (pI k n))
 | .const (.bool b)=>some (.vc (pB b))
 |_=>none
theorem cS {E:nZ}:∀{x:Operand} {p:VP},ev E x=some p→aCW E x p
 | .tmp d,p,h=>h
 | .const (.int k n),p,h=>by cases h;exact oF k n
 | .const (.bool b),p,h=>by cases h;exact k_B b
def evs (E:nZ):List Operand→Option (List VP)
 |[]=>some []
 |x::l=>(ev E x).bind fun p=>(evs E l).bind fun ps=>some (p::ps)
theorem aEh {E:nZ}:∀{l:List Operand} {ps:List VP},evs E l=some ps→uL E (l.zip ps)∧l.length=ps.length
 |[],ps,h=>by cases h;exact⟨trivial,rfl⟩
 |x::l,ps,h=>by
  obtain⟨p,h1,h⟩:=Option.bind_eq_some_iff.1 h
  obtain⟨qs,h2,h⟩:=Option.bind_eq_some_iff.1 h
  cases h
  exact⟨⟨cS h1,(aEh h2).1⟩,congrArg (·+1) (aEh h2).2⟩
theorem t9 {k:Nat} {l qs:List CP} (h:qC k l=some qs):qs.length=k:=(xI h).2
inductive fE:List HA→Option Nat→HA→Prop
 |a {e:HA} {H:List HA} {β:Option Nat} (h:e.β=β):fE (e::H) β e
 |b {e x:HA} {H:List HA} {β:Option Nat} (h:fE H β e):fE (x::H) β e
theorem fE.at {H:List HA} {β:Option Nat} {e:HA} (h:fE H β e):∃i:Nat,H[i]?=some e∧e.β=β:=by
 induction h with
 |a h=>exact⟨0,rfl,h⟩
 |b _ ih=>obtain⟨i,h1,h2⟩:=ih;exact⟨i+1,by simpa using h1,h2⟩
inductive vB:List HA→Option Nat→HA→HA→List HA→Prop
 |a {e e':HA} {H:List HA} {β:Option Nat} (h:e.β=β):vB (e::H) β e e' (e'::H)
 |b {e e' x:HA} {H H':List HA} {β:Option Nat} (h:vB H β e e' H'):vB (x::H) β e e' (x::H')
theorem vB.at {H H':List HA} {β:Option Nat} {e e':HA} (h:vB H β e e' H'):∃i:Nat,H[i]?=some e∧e.β=β∧vK H i e'=some H':=by
 induction h with
 |a h=>exact⟨0,rfl,h,rfl⟩
 |@b e e' x H H' β _ ih=>
  obtain⟨i,h1,h2,h3⟩:=ih
  exact⟨i+1,by simpa using h1,h2,by simp only [vK,h3]⟩
inductive cL (ops:Array Oper) (E:nZ):Option (Nat×Bool)→Prop
 |p:cL ops E none
 |g {j dj:Nat} {b:Bool} {og:Oper} (hj:ops[j]?=some og) (hdj:og.dst=some dj) (hl:f0 E dj=some (.vc (pB b))):cL ops E (some (j,b))
theorem sS {α β γ:Type} {a:Option α} {b:α→Option β} {f:α→β→Option γ} {r:γ} (h:(a.bind fun x=>(b x).bind fun y=>f x y)=some r):∃x,a=some x∧∃y,b x=some y∧f x y=some r:=by
 obtain⟨x,h1,h⟩:=aR h
 exact⟨x,h1,aR h⟩
theorem bn3 {α β γ δ:Type} {a:Option α} {b:α→Option β} {c:α→β→Option γ} {f:α→β→γ→Option δ} {r:δ} (h:(a.bind fun x=>(b x).bind fun y=>(c x y).bind fun z=>f x y z)=some r):∃x,a=some x∧∃y,b x=some y∧∃z,c x y=some z∧f x y z=some r:=by
 obtain⟨x,h1,h⟩:=aR h
 exact⟨x,h1,sS h⟩
theorem bn4 {α β γ δ ε:Type} {a:Option α} {b:α→Option β} {c:α→β→Option γ} {d:α→β→γ→Option δ} {f:α→β→γ→δ→Option ε} {r:ε} (h:(a.bind fun x=>(b x).bind fun y=>(c x y).bind fun z=>(d x y z).bind fun t=>f x y z t)=some r):∃x,a=some x∧∃y,b x=some y∧∃z,c x y=some z∧∃t,d x y z=some t∧f x y z t=some r:=by
 obtain⟨x,h1,h⟩:=aR h
 exact⟨x,h1,bn3 h⟩
theorem sR {α β:Type} {o:Option α} {f:α→Option β} {v:α} {r:β} (h:o=some v) (k:o.bind f=some r):f v=some r:=by rw [h] at k;exact k
theorem aZ {α β:Type} {o:Option α} {f:α→Option β} {q:β} {C:α→Prop} (h:o.bind f=some q) (c:∀{r:α},o=some r→C r):∃v,C v∧f v=some q:=by
 obtain⟨v,h1,h⟩:=aR h
 exact⟨v,c h1,h⟩
section
variable {S:Sx} {κ:Kt} {H H':List HA} {E:nZ} {ops:Array Oper} {rest:List Oper} {Q:Prop} {ty:TypeId} {pos:String} {af:Array Edge} {g:Option (Nat×Bool)} {d:Nat}
theorem iO {op:Op} {ins:List (Operand×VP)} {out:VP} (t:Tr S ⟨some d,op,ty,pos,af,g⟩ H H' ins out) (hi:uL E ins) (hg:cL ops E g) (hN:Nat.blt d S.N=true) (k:GL S ops κ rest H' ((d,out)::E) Q):GL S ops κ (⟨some d,op,ty,pos,af,g⟩::rest) H E Q:=by
 refine⟨fun q=>?_⟩
 cases hg with
 |p=>exact aF t hi (k.h q) rfl rfl hN
 |g hj hdj hl=>exact t5 t hi (k.h q) rfl hj hdj hl rfl hN
theorem b_n {op:Op} {j dj:Nat} {b b':Bool} {og:Oper} (hj:ops[j]?=some og) (hdj:og.dst=some dj) (hl:f0 E dj=some (.vc (pB b'))) (hb:(b' != b)=true) (hN:Nat.blt d S.N=true) (k:GL S ops κ rest H ((d,.un)::E) Q):GL S ops κ (⟨some d,op,ty,pos,af,some (j,b)⟩::rest) H E Q:=⟨fun q=>yL (k.h q) rfl hj hdj hl hb rfl hN⟩
theorem b_u {op:Op} {j dj:Nat} {b:Bool} {og:Oper} (hj:ops[j]?=some og) (hdj:og.dst=some dj) (hl:f0 E dj=some .un) (hN:Nat.blt d S.N=true) (k:GL S ops κ rest H ((d,.un)::E) Q):GL S ops κ (⟨some d,op,ty,pos,af,some (j,b)⟩::rest) H E Q:=⟨fun q=>aNq (k.h q) rfl hj hdj hl rfl hN⟩
end
class Mix (P:Program):Prop where
 h:P.follows .mixedOrders=true
def pA (l:List Oper) (ms:List Nat) (E:nZ) (outs:List Ou) (G:Gh) (i:Nat):Operand→Option VP
 | .tmp d=>vZ l ms E outs G i d
 | .const (.int k n)=>some (.vc (pI k n))
 | .const (.bool b)=>some (.vc (pB b))
 |_=>none
theorem bF {l:List Oper} {ms:List Nat} {E:nZ} {outs:List Ou} {G:Gh} {i:Nat}:∀{x:Operand} {p:VP},pA l ms E outs G i x=some p→aK5 l ms E outs G i x p
 | .tmp d,p,h=>h
 | .const (.int k n),p,h=>by cases h;exact oF k n
 | .const (.bool b),p,h=>by cases h;exact k_B b
def aL7 (l:List Oper) (ms:List Nat) (E:nZ) (outs:List Ou) (G:Gh) (i:Nat):List Operand→Option (List VP)
 |[]=>some []
 |x::r=>(pA l ms E outs G i x).bind fun p=>(aL7 l ms E outs G i r).bind fun ps=>some (p::ps)
theorem aB4 {l:List Oper} {ms:List Nat} {E:nZ} {outs:List Ou} {G:Gh} {i:Nat}:∀{r:List Operand} {ps:List VP},aL7 l ms E outs G i r=some ps→aCo l ms E outs G i (r.zip ps)∧r.length=ps.length
 |[],ps,h=>by cases h;exact⟨trivial,rfl⟩
 |x::r,ps,h=>by
  obtain⟨p,h1,h⟩:=Option.bind_eq_some_iff.1 h
  obtain⟨qs,h2,h⟩:=Option.bind_eq_some_iff.1 h
  cases h
  exact⟨⟨bF h1,(aB4 h2).1⟩,congrArg (·+1) (aB4 h2).2⟩
theorem fE.app {H A:List HA} {β:Option Nat} {e:HA} (h:fE H β e):fE (H++A) β e:=by
 induction h with
 |a h=>exact .a h
 |b _ ih=>exact .b ih
inductive GD (l:List Oper) (ms:List Nat) (E:nZ) (outs:List Ou) (i:Nat):Option (Nat×Bool)→Prop
 |p:GD l ms E outs i none
 |g {j d:Nat} {b:Bool} (hd:(l[j]?).bind (·.dst)=some d) (hl:∀G,vZ l ms E outs G i d=some (.vc (pB b))):GD l ms E outs i (some (j,b))
structure DN (S:Sx) (H:List HA) (l0:List Oper) (ms:List Nat) (E:nZ) (outs:List Ou) (n i:Nat) (l:List Oper) (r:List Ou):Prop where
 h:aEc S (fun _ _=>H) [] l0 ms E outs i l r
 len:r.length=n
section
variable {S:Sx} {H:List HA} {l0 l:List Oper} {ms:List Nat} {E:nZ} {outs r:List Ou} {n i d:Nat} {ty:TypeId} {pos:String} {af:Array Edge} {g:Option (Nat×Bool)}
theorem aK2 (hr:r=[]):DN S H l0 ms E outs 0 i l r:=by subst hr;exact⟨by cases l<;>trivial,rfl⟩
theorem aEy {o:Oper} {q:Ou} (h1:o.dst.all (Nat.blt · S.N)=true) (h2:DOp S (fun _ _=>H) [] l0 ms E outs i o q) (k:DN S H l0 ms E outs n (i+1) l r):DN S H l0 ms E outs (n+1) i (o::l) (q::r):=⟨⟨⟨h1,h2⟩,k.h⟩,congrArg (·+1) k.len⟩
theorem fS {op:Op} {ins:List (Operand×VP)} {out:VP} (t:∀A,Tr S ⟨some d,op,ty,pos,af,g⟩ (H++A) (H++A) ins out) (hs:∀G,aCo l0 ms E outs G i ins) (hN:Nat.blt d S.N=true) (hg:GD l0 ms E outs i g) (h1:jQ ms [] i [0]=true) {r0:List Ou} (hr:r0=.v out::r) (k:DN S H l0 ms E outs n (i+1) l r):DN S H l0 ms E outs (n+1) i (⟨some d,op,ty,pos,af,g⟩::l) r0:=by
 subst hr
 refine aEy hN ?_ k
 cases hg with
 |p=>exact .run (L:=[0]) (ins:=fun _=>ins) ⟨fun _ A=>t A,trivial⟩ hs rfl h1 rfl
 |g hd hl=>exact .runG (L:=[0]) (ins:=fun _=>ins) ⟨fun _ A=>t A,trivial⟩ hs rfl hd hl h1 rfl
theorem e_n {r0:List Ou} {op:Op} {j dj:Nat} {b b':Bool} (hd:(l0[j]?).bind (·.dst)=some dj) (hl:∀G,vZ l0 ms E outs G i dj=some (.vc (pB b'))) (hb:(b' != b)=true) (hN:Nat.blt d S.N=true) (hr:r0=.v .un::r) (k:DN S H l0 ms E outs n (i+1) l r):DN S H l0 ms E outs (n+1) i (⟨some d,op,ty,pos,af,some (j,b)⟩::l) r0:=hr▸aEy hN (.skipN rfl hd hl hb rfl) k
theorem e_u {r0:List Ou} {op:Op} {j dj:Nat} {b:Bool} (hd:(l0[j]?).bind (·.dst)=some dj) (hl:∀G,vZ l0 ms E outs G i dj=some .un) (hN:Nat.blt d S.N=true) (hr:r0=.v .un::r) (k:DN S H l0 ms E outs n (i+1) l r):DN S H l0 ms E outs (n+1) i (⟨some d,op,ty,pos,af,some (j,b)⟩::l) r0:=hr▸aEy hN (.skipU rfl hd hl rfl) k
end
section
variable {S:Sx} {κ:Kt} {H H':List HA} {E:nZ} {ops:Array Oper} {rest:List Oper} {Q:Prop} {ty:TypeId} {pos:String} {af:Array Edge} {g:Option (Nat×Bool)} {d:Nat} {l0 l:List Oper} {ms:List Nat} {outs ro:List Ou} {n i:Nat}
theorem aNr {x:Operand} {p:VP} (hx:ev E x=some p) (hN:Nat.blt d S.N=true) (hg:cL ops E g) (k:GL S ops κ rest H ((d,p)::E) Q):GL S ops κ (⟨some d,.move x,ty,pos,af,g⟩::rest) H E Q:=
 iO (aP (.inl rfl)) ⟨cS hx,trivial⟩ hg hN k
theorem aN4 {x:Operand} {p:VP} (hx:∀G,pA l0 ms E outs G i x=some p) (hN:Nat.blt d S.N=true) (hg:GD l0 ms E outs i g) (h1:jQ ms [] i [0]=true) {r0:List Ou} (hr:r0=.v (p)::ro) (kk:DN S H l0 ms E outs n (i+1) l ro):DN S H l0 ms E outs (n+1) i (⟨some d,.move x,ty,pos,af,g⟩::l) r0:=
 fS (fun A=>aP (.inl rfl)) (fun G=>⟨bF (hx G),trivial⟩) hN hg h1 hr kk
theorem aNQ {x:Operand} {b:Bool} {w:Bool} (hx:∀G,pA l0 ms E outs G i x=some (.vc (pB b))) (hN:Nat.blt d S.N=true) (hg:GD l0 ms E outs i g) (h1:jQ ms [] i [0]=true) (hb:b=w) {r0:List Ou} (hr:r0=.v (.vc (pB w))::ro) (kk:DN S H l0 ms E outs n (i+1) l ro):DN S H l0 ms E outs (n+1) i (⟨some d,.move x,ty,pos,af,g⟩::l) r0:=
 fS (fun A=>kZ (aP (.inl rfl)) hb) (fun G=>⟨bF (hx G),trivial⟩) hN hg h1 hr kk
theorem aNa {x:Operand} {p:VP} (hx:ev E x=some p) (hN:Nat.blt d S.N=true) (hg:cL ops E g) (k:GL S ops κ rest H ((d,p)::E) Q):GL S ops κ (⟨some d,.assign x,ty,pos,af,g⟩::rest) H E Q:=
 iO (aP (.inr rfl)) ⟨cS hx,trivial⟩ hg hN k
theorem aNl {x:Operand} {p:VP} (hx:∀G,pA l0 ms E outs G i x=some p) (hN:Nat.blt d S.N=true) (hg:GD l0 ms E outs i g) (h1:jQ ms [] i [0]=true) {r0:List Ou} (hr:r0=.v (p)::ro) (kk:DN S H l0 ms E outs n (i+1) l ro):DN S H l0 ms E outs (n+1) i (⟨some d,.assign x,ty,pos,af,g⟩::l) r0:=
 fS (fun A=>aP (.inr rfl)) (fun G=>⟨bF (hx G),trivial⟩) hN hg h1 hr kk
theorem aNi {x:Operand} {b:Bool} {w:Bool} (hx:∀G,pA l0 ms E outs G i x=some (.vc (pB b))) (hN:Nat.blt d S.N=true) (hg:GD l0 ms E outs i g) (h1:jQ ms [] i [0]=true) (hb:b=w) {r0:List Ou} (hr:r0=.v (.vc (pB w))::ro) (kk:DN S H l0 ms E outs n (i+1) l ro):DN S H l0 ms E outs (n+1) i (⟨some d,.assign x,ty,pos,af,g⟩::l) r0:=
 fS (fun A=>kZ (aP (.inr rfl)) hb) (fun G=>⟨bF (hx G),trivial⟩) hN hg h1 hr kk
theorem aMZ {α:Type} {C:Cd α} {t e bytes:Nat} {x y:Operand} {xs:List α} {j:Int} {z:α} {k:IntKind} (hx:ev E x=some (.vc (pS C xs))) (hy:ev E y=some (.vc (pI k j))) (ht:TyS S.P t e C.n bytes) (hN:Nat.blt d S.N=true) (hg:cL ops E g) (hj:bP xs j=some z) (k:GL S ops κ rest H ((d,.vc (pM (C.e z)))::E) Q):GL S ops κ (⟨some d,.indexAddr t x y,ty,pos,af,g⟩::rest) H E Q:=
 iO (aEJ rfl ht hj) ⟨cS hx,cS hy,trivial⟩ hg hN k
theorem aNc {α:Type} {C:Cd α} {t e bytes:Nat} {x y:Operand} {xs:List α} {j:Int} {z:α} {k:IntKind} (hx:∀G,pA l0 ms E outs G i x=some (.vc (pS C xs))) (hy:∀G,pA l0 ms E outs G i y=some (.vc (pI k j))) (ht:TyS S.P t e C.n bytes) (hN:Nat.blt d S.N=true) (hg:GD l0 ms E outs i g) (h1:jQ ms [] i [0]=true) (hj:bP xs j=some z) {r0:List Ou} (hr:r0=.v (.vc (pM (C.e z)))::ro) (kk:DN S H l0 ms E outs n (i+1) l ro):DN S H l0 ms E outs (n+1) i (⟨some d,.indexAddr t x y,ty,pos,af,g⟩::l) r0:=
 fS (fun A=>aEJ rfl ht hj) (fun G=>⟨bF (hx G),bF (hy G),trivial⟩) hN hg h1 hr kk
theorem aK0 {s f k:Nat} {x:Operand} {ps:List CP} (hx:ev E x=some (.vc (pM ps))) (hf:TyF S.P s f k) (hN:Nat.blt d S.N=true) (hg:cL ops E g) (k:GL S ops κ rest H ((d,.vc (pM (ps.drop k)))::E) Q):GL S ops κ (⟨some d,.fieldAddr s x f,ty,pos,af,g⟩::rest) H E Q:=
 iO (aJJ rfl hf) ⟨cS hx,trivial⟩ hg hN k
theorem aK3 {s f k:Nat} {x:Operand} {ps:List CP} (hx:∀G,pA l0 ms E outs G i x=some (.vc (pM ps))) (hf:TyF S.P s f k) (hN:Nat.blt d S.N=true) (hg:GD l0 ms E outs i g) (h1:jQ ms [] i [0]=true) {r0:List Ou} (hr:r0=.v (.vc (pM (ps.drop k)))::ro) (kk:DN S H l0 ms E outs n (i+1) l ro):DN S H l0 ms E outs (n+1) i (⟨some d,.fieldAddr s x f,ty,pos,af,g⟩::l) r0:=
 fS (fun A=>aJJ rfl hf) (fun G=>⟨bF (hx G),trivial⟩) hN hg h1 hr kk
theorem aN9 {s f off k:Nat} {x:Operand} {β:Option Nat} (hx:ev E x=some (.vc (pP β off))) (hf:TyF S.P s f k) (hN:Nat.blt d S.N=true) (hg:cL ops E g) (k:GL S ops κ rest H ((d,.vc (pP β (off+k)))::E) Q):GL S ops κ (⟨some d,.fieldAddr s x f,ty,pos,af,g⟩::rest) H E Q:=
 iO (iF rfl hf) ⟨cS hx,trivial⟩ hg hN k
theorem aNM {s f off k:Nat} {x:Operand} {β:Option Nat} (hx:∀G,pA l0 ms E outs G i x=some (.vc (pP β off))) (hf:TyF S.P s f k) (hN:Nat.blt d S.N=true) (hg:GD l0 ms E outs i g) (h1:jQ ms [] i [0]=true) {r0:List Ou} (hr:r0=.v (.vc (pP β (off+k)))::ro) (kk:DN S H l0 ms E outs n (i+1) l ro):DN S H l0 ms E outs (n+1) i (⟨some d,.fieldAddr s x f,ty,pos,af,g⟩::l) r0:=
 fS (fun A=>iF rfl hf) (fun G=>⟨bF (hx G),trivial⟩) hN hg h1 hr kk
theorem aLt {s f n off k:Nat} {x:Operand} {β:Option Nat} {j:Int} (hx:ev E x=some (.vc (pE β j n off))) (hf:TyF S.P s f k) (hN:Nat.blt d S.N=true) (hg:cL ops E g) (k:GL S ops κ rest H ((d,.vc (pE β j n (off+k)))::E) Q):GL S ops κ (⟨some d,.fieldAddr s x f,ty,pos,af,g⟩::rest) H E Q:=
 iO (aKZ rfl hf) ⟨cS hx,trivial⟩ hg hN k
theorem aKS {s f n off k:Nat} {x:Operand} {β:Option Nat} {j:Int} (hx:∀G,pA l0 ms E outs G i x=some (.vc (pE β j n off))) (hf:TyF S.P s f k) (hN:Nat.blt d S.N=true) (hg:GD l0 ms E outs i g) (h1:jQ ms [] i [0]=true) {r0:List Ou} (hr:r0=.v (.vc (pE β j n (off+k)))::ro) (kk:DN S H l0 ms E outs n (i+1) l ro):DN S H l0 ms E outs (n+1) i (⟨some d,.fieldAddr s x f,ty,pos,af,g⟩::l) r0:=
 fS (fun A=>aKZ rfl hf) (fun G=>⟨bF (hx G),trivial⟩) hN hg h1 hr kk
theorem aLu {t:Nat} {x:Operand} {ps:List CP} {q:CP} (hx:ev E x=some (.vc (pM ps))) (ht:Ty1 S.P t) (hq:qC 1 ps=some [q]) (hN:Nat.blt d S.N=true) (hg:cL ops E g) (k:GL S ops κ rest H ((d,.vc q)::E) Q):GL S ops κ (⟨some d,.load t x,ty,pos,af,g⟩::rest) H E Q:=
 iO (aBX 1 rfl hq (.one ht)) ⟨cS hx,trivial⟩ hg hN k
theorem aLc {t:Nat} {x:Operand} {ps:List CP} {q:CP} (hx:∀G,pA l0 ms E outs G i x=some (.vc (pM ps))) (ht:Ty1 S.P t) (hq:qC 1 ps=some [q]) (hN:Nat.blt d S.N=true) (hg:GD l0 ms E outs i g) (h1:jQ ms [] i [0]=true) {r0:List Ou} (hr:r0=.v (.vc q)::ro) (kk:DN S H l0 ms E outs n (i+1) l ro):DN S H l0 ms E outs (n+1) i (⟨some d,.load t x,ty,pos,af,g⟩::l) r0:=
 fS (fun A=>aBX 1 rfl hq (.one ht)) (fun G=>⟨bF (hx G),trivial⟩) hN hg h1 hr kk
theorem aKR {t q:Nat} {x:Operand} {ps qs:List CP} (hx:ev E x=some (.vc (pM ps))) (ht:TyA S.P t q) (hq:qC q ps=some qs) (hN:Nat.blt d S.N=true) (hg:cL ops E g) (k:GL S ops κ rest H ((d,.va qs)::E) Q):GL S ops κ (⟨some d,.load t x,ty,pos,af,g⟩::rest) H E Q:=
 iO (aBX q rfl hq (.agg ht (t9 hq))) ⟨cS hx,trivial⟩ hg hN k
theorem aLL {t q:Nat} {x:Operand} {ps qs:List CP} (hx:∀G,pA l0 ms E outs G i x=some (.vc (pM ps))) (ht:TyA S.P t q) (hq:qC q ps=some qs) (hN:Nat.blt d S.N=true) (hg:GD l0 ms E outs i g) (h1:jQ ms [] i [0]=true) {r0:List Ou} (hr:r0=.v (.va qs)::ro) (kk:DN S H l0 ms E outs n (i+1) l ro):DN S H l0 ms E outs (n+1) i (⟨some d,.load t x,ty,pos,af,g⟩::l) r0:=
 fS (fun A=>aBX q rfl hq (.agg ht (t9 hq))) (fun G=>⟨bF (hx G),trivial⟩) hN hg h1 hr kk
theorem aM4 {t off:Nat} {x:Operand} {β:Option Nat} {e:HA} {q:CP} (hx:ev E x=some (.vc (pP β off))) (ht:Ty1 S.P t) (hi:fE H β e) (hq:qC 1 (e.ps.drop off)=some [q]) (hN:Nat.blt d S.N=true) (hg:cL ops E g) (k:GL S ops κ rest H ((d,.vc q)::E) Q):GL S ops κ (⟨some d,.load t x,ty,pos,af,g⟩::rest) H E Q:=by
 obtain⟨i,hi1,hi2⟩:=hi.at
 exact iO (fQ i 1 rfl hi1 hi2 hq (.one ht)) ⟨cS hx,trivial⟩ hg hN k
theorem aM0 {t off:Nat} {x:Operand} {β:Option Nat} {e:HA} {q:CP} (hx:∀G,pA l0 ms E outs G i x=some (.vc (pP β off))) (ht:Ty1 S.P t) (hi:fE H β e) (hq:qC 1 (e.ps.drop off)=some [q]) (hN:Nat.blt d S.N=true) (hg:GD l0 ms E outs i g) (h1:jQ ms [] i [0]=true) {r0:List Ou} (hr:r0=.v (.vc q)::ro) (kk:DN S H l0 ms E outs n (i+1) l ro):DN S H l0 ms E outs (n+1) i (⟨some d,.load t x,ty,pos,af,g⟩::l) r0:=by
 refine fS (ins:=[(x,(.vc (pP β off)))]) (fun A=>?_) (fun G=>⟨bF (hx G),trivial⟩) hN hg h1 hr kk
 obtain⟨i,hi1,hi2⟩:=(hi.app (A:=A)).at
 exact fQ i 1 rfl hi1 hi2 hq (.one ht)
theorem aN0 {t m off:Nat} {x:Operand} {β:Option Nat} {e:HA} {qs:List CP} (hx:ev E x=some (.vc (pP β off))) (ht:TyA S.P t m) (hi:fE H β e) (hq:qC m (e.ps.drop off)=some qs) (hN:Nat.blt d S.N=true) (hg:cL ops E g) (k:GL S ops κ rest H ((d,.va qs)::E) Q):GL S ops κ (⟨some d,.load t x,ty,pos,af,g⟩::rest) H E Q:=by
 obtain⟨i,hi1,hi2⟩:=hi.at
 exact iO (fQ i m rfl hi1 hi2 hq (.agg ht (t9 hq))) ⟨cS hx,trivial⟩ hg hN k
theorem aOd {t m off:Nat} {x:Operand} {β:Option Nat} {e:HA} {qs:List CP} (hx:∀G,pA l0 ms E outs G i x=some (.vc (pP β off))) (ht:TyA S.P t m) (hi:fE H β e) (hq:qC m (e.ps.drop off)=some qs) (hN:Nat.blt d S.N=true) (hg:GD l0 ms E outs i g) (h1:jQ ms [] i [0]=true) {r0:List Ou} (hr:r0=.v (.va qs)::ro) (kk:DN S H l0 ms E outs n (i+1) l ro):DN S H l0 ms E outs (n+1) i (⟨some d,.load t x,ty,pos,af,g⟩::l) r0:=by
 refine fS (ins:=[(x,(.vc (pP β off)))]) (fun A=>?_) (fun G=>⟨bF (hx G),trivial⟩) hN hg h1 hr kk
 obtain⟨i,hi1,hi2⟩:=(hi.app (A:=A)).at
 exact fQ i m rfl hi1 hi2 hq (.agg ht (t9 hq))
theorem aK8 {α:Type} {C:Cd α} {xs:List α} {β:Option Nat} {c T n1:Nat} {t e bytes:Nat} {x y:Operand} {j:Int} {k:IntKind} {z:α} (hx:ev E x=some (.vc (pO β n1 c))) (hy:ev E y=some (.vc (pI k j))) (hi:fE H β (hO C β c T n1 xs)) (hn:xs.length=n1) (ht:TyS S.P t e C.n bytes) (hN:Nat.blt d S.N=true) (hg:cL ops E g) (hj:bP xs j=some z) (k:GL S ops κ rest H ((d,.vc (pE β j C.n 0))::E) Q):GL S ops κ (⟨some d,.indexAddr t x y,ty,pos,af,g⟩::rest) H E Q:=by
 obtain⟨i,hi1,hi2⟩:=hi.at
 exact iO (iC i rfl ht hi1 hn (aI hj).1 (aI hj).2.1) ⟨cS hx,cS hy,trivial⟩ hg hN k
theorem aLV {α:Type} {C:Cd α} {xs:List α} {β:Option Nat} {c T n1:Nat} {t e bytes:Nat} {x y:Operand} {j:Int} {k:IntKind} {z:α} (hx:∀G,pA l0 ms E outs G i x=some (.vc (pO β n1 c))) (hy:∀G,pA l0 ms E outs G i y=some (.vc (pI k j))) (hi:fE H β (hO C β c T n1 xs)) (hn:xs.length=n1) (ht:TyS S.P t e C.n bytes) (hN:Nat.blt d S.N=true) (hg:GD l0 ms E outs i g) (h1:jQ ms [] i [0]=true) (hj:bP xs j=some z) {r0:List Ou} (hr:r0=.v (.vc (pE β j C.n 0))::ro) (kk:DN S H l0 ms E outs n (i+1) l ro):DN S H l0 ms E outs (n+1) i (⟨some d,.indexAddr t x y,ty,pos,af,g⟩::l) r0:=by
 refine fS (ins:=[(x,(.vc (pO β n1 c))),(y,(.vc (pI k j)))]) (fun A=>?_) (fun G=>⟨bF (hx G),bF (hy G),trivial⟩) hN hg h1 hr kk
 obtain⟨i,hi1,hi2⟩:=(hi.app (A:=A)).at
 exact iC i rfl ht hi1 hn (aI hj).1 (aI hj).2.1
theorem aLn {α:Type} {C:Cd α} {xs:List α} {β:Option Nat} {c T n1:Nat} {t e k bytes:Nat} {x:Operand} (hx:ev E x=some (.vc (pO β n1 c))) (hi:fE H β (hO C β c T n1 xs)) (hn:xs.length=n1) (ht:TyS S.P t e k bytes) (hN:Nat.blt d S.N=true) (hg:cL ops E g) (k:GL S ops κ rest H ((d,.vc (pI .i64 xs.length))::E) Q):GL S ops κ (⟨some d,.call {callee:=.builtin .len,args:=#[x],argTypes:=#[t]},ty,pos,af,g⟩::rest) H E Q:=by
 obtain⟨i,hi1,hi2⟩:=hi.at
 exact iO (aAP (C:=C) (T:=T) rfl ht hn) ⟨cS hx,trivial⟩ hg hN k
theorem aKO {α:Type} {C:Cd α} {xs:List α} {β:Option Nat} {c T n1:Nat} {t e k bytes:Nat} {x:Operand} (hx:∀G,pA l0 ms E outs G i x=some (.vc (pO β n1 c))) (hi:fE H β (hO C β c T n1 xs)) (hn:xs.length=n1) (ht:TyS S.P t e k bytes) (hN:Nat.blt d S.N=true) (hg:GD l0 ms E outs i g) (h1:jQ ms [] i [0]=true) {r0:List Ou} (hr:r0=.v (.vc (pI .i64 xs.length))::ro) (kk:DN S H l0 ms E outs n (i+1) l ro):DN S H l0 ms E outs (n+1) i (⟨some d,.call {callee:=.builtin .len,args:=#[x],argTypes:=#[t]},ty,pos,af,g⟩::l) r0:=by
 refine fS (ins:=[(x,(.vc (pO β n1 c)))]) (fun A=>?_) (fun G=>⟨bF (hx G),trivial⟩) hN hg h1 hr kk
 obtain⟨i,hi1,hi2⟩:=(hi.app (A:=A)).at
 exact aAP (C:=C) (T:=T) rfl ht hn
theorem aIv {α:Type} {C:Cd α} {xs:List α} {β:Option Nat} {c T n1:Nat} {t off m:Nat} {x:Operand} {j:Int} {z:α} {q:CP} (hx:ev E x=some (.vc (pE β j m off))) (hi:fE H β (hO C β c T n1 xs)) (hm:C.n=m) (hj:bP xs j=some z) (ht:Ty1 S.P t) (hq:qC 1 ((C.e z).drop off)=some [q]) (hC:Nat.ble (off+1) C.n=true) (hN:Nat.blt d S.N=true) (hg:cL ops E g) (k:GL S ops κ rest H ((d,.vc q)::E) Q):GL S ops κ (⟨some d,.load t x,ty,pos,af,g⟩::rest) H E Q:=by
 subst hm;obtain⟨i,hi1,hi2⟩:=hi.at
 exact iO (lA (k:=1) i rfl hi1 hj hq (.one ht) hC) ⟨cS hx,trivial⟩ hg hN k
theorem aIK {α:Type} {C:Cd α} {xs:List α} {β:Option Nat} {c T n1:Nat} {t off m:Nat} {x:Operand} {j:Int} {z:α} {q:CP} (hx:∀G,pA l0 ms E outs G i x=some (.vc (pE β j m off))) (hi:fE H β (hO C β c T n1 xs)) (hm:C.n=m) (hj:bP xs j=some z) (ht:Ty1 S.P t) (hq:qC 1 ((C.e z).drop off)=some [q]) (hC:Nat.ble (off+1) C.n=true) (hN:Nat.blt d S.N=true) (hg:GD l0 ms E outs i g) (h1:jQ ms [] i [0]=true) {r0:List Ou} (hr:r0=.v (.vc q)::ro) (kk:DN S H l0 ms E outs n (i+1) l ro):DN S H l0 ms E outs (n+1) i (⟨some d,.load t x,ty,pos,af,g⟩::l) r0:=by
 subst hm;refine fS (ins:=[(x,(.vc (pE β j C.n off)))]) (fun A=>?_) (fun G=>⟨bF (hx G),trivial⟩) hN hg h1 hr kk
 obtain⟨i,hi1,hi2⟩:=(hi.app (A:=A)).at
 exact lA (k:=1) i rfl hi1 hj hq (.one ht) hC
theorem aJi {α:Type} {C:Cd α} {xs:List α} {β:Option Nat} {c T n1:Nat} {t off m u:Nat} {x:Operand} {j:Int} {z:α} {qs:List CP} (hx:ev E x=some (.vc (pE β j m off))) (hi:fE H β (hO C β c T n1 xs)) (hm:C.n=m) (hj:bP xs j=some z) (ht:TyA S.P t u) (hq:qC u ((C.e z).drop off)=some qs) (hC:Nat.ble (off+u) C.n=true) (hN:Nat.blt d S.N=true) (hg:cL ops E g) (k:GL S ops κ rest H ((d,.va qs)::E) Q):GL S ops κ (⟨some d,.load t x,ty,pos,af,g⟩::rest) H E Q:=by
 subst hm;obtain⟨i,hi1,hi2⟩:=hi.at
 exact iO (lA (k:=u) i rfl hi1 hj hq (.agg ht (t9 hq)) hC) ⟨cS hx,trivial⟩ hg hN k
theorem aJs {α:Type} {C:Cd α} {xs:List α} {β:Option Nat} {c T n1:Nat} {t off m u:Nat} {x:Operand} {j:Int} {z:α} {qs:List CP} (hx:∀G,pA l0 ms E outs G i x=some (.vc (pE β j m off))) (hi:fE H β (hO C β c T n1 xs)) (hm:C.n=m) (hj:bP xs j=some z) (ht:TyA S.P t u) (hq:qC u ((C.e z).drop off)=some qs) (hC:Nat.ble (off+u) C.n=true) (hN:Nat.blt d S.N=true) (hg:GD l0 ms E outs i g) (h1:jQ ms [] i [0]=true) {r0:List Ou} (hr:r0=.v (.va qs)::ro) (kk:DN S H l0 ms E outs n (i+1) l ro):DN S H l0 ms E outs (n+1) i (⟨some d,.load t x,ty,pos,af,g⟩::l) r0:=by
 subst hm;refine fS (ins:=[(x,(.vc (pE β j C.n off)))]) (fun A=>?_) (fun G=>⟨bF (hx G),trivial⟩) hN hg h1 hr kk
 obtain⟨i,hi1,hi2⟩:=(hi.app (A:=A)).at
 exact lA (k:=u) i rfl hi1 hj hq (.agg ht (t9 hq)) hC
theorem ty1s {P:Program} {t:Nat} [h:Ty1 P t]:(P.info? t).map (·.size)=some 1:=h.s
theorem tyAs {P:Program} {t k:Nat} [h:TyA P t k]:(P.info? t).map (·.size)=some k:=h.s
theorem aHc {α:Type} {C:Cd α} {xs zs:List α} {β:Option Nat} {c T n1:Nat} {t off m u:Nat} {x y:Operand} {j:Int} {z z':α} {p:VP} (hx:ev E x=some (.vc (pE β j m off))) (hy:ev E y=some p) (hi:fE H β (hO C β c T n1 xs)) (hm:C.n=m) (hj:bP xs j=some z) (hs:oK xs j z'=some zs) (hT:(S.P.info? t).map (·.size)=some u) (hr:vB H β (hO C β c T n1 xs) (hO C β c T n1 zs) H') (hp:p.flat) (hk:p.cells.length=u) (hq:uB (C.e z) off p.cells=some (C.e z')) (k:GL S ops κ rest H' E Q):GL S ops κ (⟨none,.store t x y,ty,pos,af,none⟩::rest) H E Q:=by
 obtain⟨i,h1,h2,h3⟩:=hr.at
 subst hm
 exact⟨fun q=>lW (xE i rfl h1 hj hs hT hp hk hq h3) ⟨cS hx,cS hy,trivial⟩ (k.h q) rfl rfl⟩
theorem aNU {α:Type} {C:Cd α} {xs:List α} {t e q bytes:Nat} {x:Operand} (hx:ev E x=some (.vc (pS C xs))) (ht:TyS S.P t e q bytes) (hN:Nat.blt d S.N=true) (hg:cL ops E g) (k:GL S ops κ rest H ((d,.vc (pI .i64 xs.length))::E) Q):GL S ops κ (⟨some d,.call {callee:=.builtin .len,args:=#[x],argTypes:=#[t]},ty,pos,af,g⟩::rest) H E Q:=
 iO (aFz rfl ht) ⟨cS hx,trivial⟩ hg hN k
theorem aND {α:Type} {C:Cd α} {xs:List α} {t e q bytes:Nat} {x:Operand} (hx:∀G,pA l0 ms E outs G i x=some (.vc (pS C xs))) (ht:TyS S.P t e q bytes) (hN:Nat.blt d S.N=true) (hg:GD l0 ms E outs i g) (h1:jQ ms [] i [0]=true) {r0:List Ou} (hr:r0=.v (.vc (pI .i64 xs.length))::ro) (kk:DN S H l0 ms E outs n (i+1) l ro):DN S H l0 ms E outs (n+1) i (⟨some d,.call {callee:=.builtin .len,args:=#[x],argTypes:=#[t]},ty,pos,af,g⟩::l) r0:=
 fS (fun A=>aFz rfl ht) (fun G=>⟨bF (hx G),trivial⟩) hN hg h1 hr kk
theorem aNI {T T':Nat} {x y:Operand} {u v:Int} {k:IntKind} (hx:ev E x=some (.vc (pI k u))) (hy:ev E y=some (.vc (pI k v))) (hN:Nat.blt d S.N=true) (hg:cL ops E g) (k:GL S ops κ rest H ((d,.vc (pB (decide (u<v))))::E) Q):GL S ops κ (⟨some d,.binOp .lss T x y T',ty,pos,af,g⟩::rest) H E Q:=
 iO (aDZ rfl) ⟨cS hx,cS hy,trivial⟩ hg hN k
theorem aNo {T T':Nat} {x y:Operand} {u v:Int} {k:IntKind} (hx:∀G,pA l0 ms E outs G i x=some (.vc (pI k u))) (hy:∀G,pA l0 ms E outs G i y=some (.vc (pI k v))) (hN:Nat.blt d S.N=true) (hg:GD l0 ms E outs i g) (h1:jQ ms [] i [0]=true) {r0:List Ou} (hr:r0=.v (.vc (pB (decide (u<v))))::ro) (kk:DN S H l0 ms E outs n (i+1) l ro):DN S H l0 ms E outs (n+1) i (⟨some d,.binOp .lss T x y T',ty,pos,af,g⟩::l) r0:=
 fS (fun A=>aDZ rfl) (fun G=>⟨bF (hx G),bF (hy G),trivial⟩) hN hg h1 hr kk
theorem aM7 {T T':Nat} {x y:Operand} {u v:Int} {k:IntKind} {w:Bool} (hx:∀G,pA l0 ms E outs G i x=some (.vc (pI k u))) (hy:∀G,pA l0 ms E outs G i y=some (.vc (pI k v))) (hN:Nat.blt d S.N=true) (hg:GD l0 ms E outs i g) (h1:jQ ms [] i [0]=true) (hb:(decide (u<v))=w) {r0:List Ou} (hr:r0=.v (.vc (pB w))::ro) (kk:DN S H l0 ms E outs n (i+1) l ro):DN S H l0 ms E outs (n+1) i (⟨some d,.binOp .lss T x y T',ty,pos,af,g⟩::l) r0:=
 fS (fun A=>kZ (aDZ rfl) hb) (fun G=>⟨bF (hx G),bF (hy G),trivial⟩) hN hg h1 hr kk
theorem aN3 {T T':Nat} {x y:Operand} {u v:Int} {k:IntKind} (hx:ev E x=some (.vc (pI k u))) (hy:ev E y=some (.vc (pI k v))) (hN:Nat.blt d S.N=true) (hg:cL ops E g) (k:GL S ops κ rest H ((d,.vc (pB (u==v)))::E) Q):GL S ops κ (⟨some d,.binOp .eql T x y T',ty,pos,af,g⟩::rest) H E Q:=
 iO (aKs rfl) ⟨cS hx,cS hy,trivial⟩ hg hN k
theorem aN7 {T T':Nat} {x y:Operand} {u v:Int} {k:IntKind} (hx:∀G,pA l0 ms E outs G i x=some (.vc (pI k u))) (hy:∀G,pA l0 ms E outs G i y=some (.vc (pI k v))) (hN:Nat.blt d S.N=true) (hg:GD l0 ms E outs i g) (h1:jQ ms [] i [0]=true) {r0:List Ou} (hr:r0=.v (.vc (pB (u==v)))::ro) (kk:DN S H l0 ms E outs n (i+1) l ro):DN S H l0 ms E outs (n+1) i (⟨some d,.binOp .eql T x y T',ty,pos,af,g⟩::l) r0:=
 fS (fun A=>aKs rfl) (fun G=>⟨bF (hx G),bF (hy G),trivial⟩) hN hg h1 hr kk
theorem aNB {T T':Nat} {x y:Operand} {u v:Int} {k:IntKind} {w:Bool} (hx:∀G,pA l0 ms E outs G i x=some (.vc (pI k u))) (hy:∀G,pA l0 ms E outs G i y=some (.vc (pI k v))) (hN:Nat.blt d S.N=true) (hg:GD l0 ms E outs i g) (h1:jQ ms [] i [0]=true) (hb:(u==v)=w) {r0:List Ou} (hr:r0=.v (.vc (pB w))::ro) (kk:DN S H l0 ms E outs n (i+1) l ro):DN S H l0 ms E outs (n+1) i (⟨some d,.binOp .eql T x y T',ty,pos,af,g⟩::l) r0:=
 fS (fun A=>kZ (aKs rfl) hb) (fun G=>⟨bF (hx G),bF (hy G),trivial⟩) hN hg h1 hr kk
theorem aNL {T T':Nat} {x y:Operand} {u v:Int} {k:IntKind} (hx:ev E x=some (.vc (pI k u))) (hy:ev E y=some (.vc (pI k v))) (hN:Nat.blt d S.N=true) (hg:cL ops E g) (k:GL S ops κ rest H ((d,.vc (pB (u != v)))::E) Q):GL S ops κ (⟨some d,.binOp .neq T x y T',ty,pos,af,g⟩::rest) H E Q:=
 iO (aIY rfl) ⟨cS hx,cS hy,trivial⟩ hg hN k
theorem aNZ {T T':Nat} {x y:Operand} {u v:Int} {k:IntKind} (hx:∀G,pA l0 ms E outs G i x=some (.vc (pI k u))) (hy:∀G,pA l0 ms E outs G i y=some (.vc (pI k v))) (hN:Nat.blt d S.N=true) (hg:GD l0 ms E outs i g) (h1:jQ ms [] i [0]=true) {r0:List Ou} (hr:r0=.v (.vc (pB (u != v)))::ro) (kk:DN S H l0 ms E outs n (i+1) l ro):DN S H l0 ms E outs (n+1) i (⟨some d,.binOp .neq T x y T',ty,pos,af,g⟩::l) r0:=
 fS (fun A=>aIY rfl) (fun G=>⟨bF (hx G),bF (hy G),trivial⟩) hN hg h1 hr kk
theorem aM1 {T T':Nat} {x y:Operand} {u v:Int} {k:IntKind} {w:Bool} (hx:∀G,pA l0 ms E outs G i x=some (.vc (pI k u))) (hy:∀G,pA l0 ms E outs G i y=some (.vc (pI k v))) (hN:Nat.blt d S.N=true) (hg:GD l0 ms E outs i g) (h1:jQ ms [] i [0]=true) (hb:(u != v)=w) {r0:List Ou} (hr:r0=.v (.vc (pB w))::ro) (kk:DN S H l0 ms E outs n (i+1) l ro):DN S H l0 ms E outs (n+1) i (⟨some d,.binOp .neq T x y T',ty,pos,af,g⟩::l) r0:=
 fS (fun A=>kZ (aIY rfl) hb) (fun G=>⟨bF (hx G),bF (hy G),trivial⟩) hN hg h1 hr kk
theorem aOb {T T':Nat} {x y:Operand} {u v:Int} {k:IntKind} (hx:ev E x=some (.vc (pI k u))) (hy:ev E y=some (.vc (pI k v))) (hN:Nat.blt d S.N=true) (hg:cL ops E g) (k:GL S ops κ rest H ((d,.vc (pB (decide (u≤v))))::E) Q):GL S ops κ (⟨some d,.binOp .leq T x y T',ty,pos,af,g⟩::rest) H E Q:=
 iO (aKq rfl) ⟨cS hx,cS hy,trivial⟩ hg hN k
theorem aNC {T T':Nat} {x y:Operand} {u v:Int} {k:IntKind} (hx:∀G,pA l0 ms E outs G i x=some (.vc (pI k u))) (hy:∀G,pA l0 ms E outs G i y=some (.vc (pI k v))) (hN:Nat.blt d S.N=true) (hg:GD l0 ms E outs i g) (h1:jQ ms [] i [0]=true) {r0:List Ou} (hr:r0=.v (.vc (pB (decide (u≤v))))::ro) (kk:DN S H l0 ms E outs n (i+1) l ro):DN S H l0 ms E outs (n+1) i (⟨some d,.binOp .leq T x y T',ty,pos,af,g⟩::l) r0:=
 fS (fun A=>aKq rfl) (fun G=>⟨bF (hx G),bF (hy G),trivial⟩) hN hg h1 hr kk
theorem aN5 {T T':Nat} {x y:Operand} {u v:Int} {k:IntKind} {w:Bool} (hx:∀G,pA l0 ms E outs G i x=some (.vc (pI k u))) (hy:∀G,pA l0 ms E outs G i y=some (.vc (pI k v))) (hN:Nat.blt d S.N=true) (hg:GD l0 ms E outs i g) (h1:jQ ms [] i [0]=true) (hb:(decide (u≤v))=w) {r0:List Ou} (hr:r0=.v (.vc (pB w))::ro) (kk:DN S H l0 ms E outs n (i+1) l ro):DN S H l0 ms E outs (n+1) i (⟨some d,.binOp .leq T x y T',ty,pos,af,g⟩::l) r0:=
 fS (fun A=>kZ (aKq rfl) hb) (fun G=>⟨bF (hx G),bF (hy G),trivial⟩) hN hg h1 hr kk
theorem aMX {T T':Nat} {x y:Operand} {u v:Int} {k:IntKind} (hx:ev E x=some (.vc (pI k u))) (hy:ev E y=some (.vc (pI k v))) (hN:Nat.blt d S.N=true) (hg:cL ops E g) (k:GL S ops κ rest H ((d,.vc (pB (decide (v<u))))::E) Q):GL S ops κ (⟨some d,.binOp .gtr T x y T',ty,pos,af,g⟩::rest) H E Q:=
 iO (aHP rfl) ⟨cS hx,cS hy,trivial⟩ hg hN k
theorem aNE {T T':Nat} {x y:Operand} {u v:Int} {k:IntKind} (hx:∀G,pA l0 ms E outs G i x=some (.vc (pI k u))) (hy:∀G,pA l0 ms E outs G i y=some (.vc (pI k v))) (hN:Nat.blt d S.N=true) (hg:GD l0 ms E outs i g) (h1:jQ ms [] i [0]=true) {r0:List Ou} (hr:r0=.v (.vc (pB (decide (v<u))))::ro) (kk:DN S H l0 ms E outs n (i+1) l ro):DN S H l0 ms E outs (n+1) i (⟨some d,.binOp .gtr T x y T',ty,pos,af,g⟩::l) r0:=
 fS (fun A=>aHP rfl) (fun G=>⟨bF (hx G),bF (hy G),trivial⟩) hN hg h1 hr kk
theorem aM9 {T T':Nat} {x y:Operand} {u v:Int} {k:IntKind} {w:Bool} (hx:∀G,pA l0 ms E outs G i x=some (.vc (pI k u))) (hy:∀G,pA l0 ms E outs G i y=some (.vc (pI k v))) (hN:Nat.blt d S.N=true) (hg:GD l0 ms E outs i g) (h1:jQ ms [] i [0]=true) (hb:(decide (v<u))=w) {r0:List Ou} (hr:r0=.v (.vc (pB w))::ro) (kk:DN S H l0 ms E outs n (i+1) l ro):DN S H l0 ms E outs (n+1) i (⟨some d,.binOp .gtr T x y T',ty,pos,af,g⟩::l) r0:=
 fS (fun A=>kZ (aHP rfl) hb) (fun G=>⟨bF (hx G),bF (hy G),trivial⟩) hN hg h1 hr kk
theorem aM6 {T T':Nat} {x y:Operand} {u v:Int} {k:IntKind} (hx:ev E x=some (.vc (pI k u))) (hy:ev E y=some (.vc (pI k v))) (hN:Nat.blt d S.N=true) (hg:cL ops E g) (k:GL S ops κ rest H ((d,.vc (pB (decide (v≤u))))::E) Q):GL S ops κ (⟨some d,.binOp .geq T x y T',ty,pos,af,g⟩::rest) H E Q:=
 iO (aMg rfl) ⟨cS hx,cS hy,trivial⟩ hg hN k
theorem aNJ {T T':Nat} {x y:Operand} {u v:Int} {k:IntKind} (hx:∀G,pA l0 ms E outs G i x=some (.vc (pI k u))) (hy:∀G,pA l0 ms E outs G i y=some (.vc (pI k v))) (hN:Nat.blt d S.N=true) (hg:GD l0 ms E outs i g) (h1:jQ ms [] i [0]=true) {r0:List Ou} (hr:r0=.v (.vc (pB (decide (v≤u))))::ro) (kk:DN S H l0 ms E outs n (i+1) l ro):DN S H l0 ms E outs (n+1) i (⟨some d,.binOp .geq T x y T',ty,pos,af,g⟩::l) r0:=
 fS (fun A=>aMg rfl) (fun G=>⟨bF (hx G),bF (hy G),trivial⟩) hN hg h1 hr kk
theorem aOj {T T':Nat} {x y:Operand} {u v:Int} {k:IntKind} {w:Bool} (hx:∀G,pA l0 ms E outs G i x=some (.vc (pI k u))) (hy:∀G,pA l0 ms E outs G i y=some (.vc (pI k v))) (hN:Nat.blt d S.N=true) (hg:GD l0 ms E outs i g) (h1:jQ ms [] i [0]=true) (hb:(decide (v≤u))=w) {r0:List Ou} (hr:r0=.v (.vc (pB w))::ro) (kk:DN S H l0 ms E outs n (i+1) l ro):DN S H l0 ms E outs (n+1) i (⟨some d,.binOp .geq T x y T',ty,pos,af,g⟩::l) r0:=
 fS (fun A=>kZ (aMg rfl) hb) (fun G=>⟨bF (hx G),bF (hy G),trivial⟩) hN hg h1 hr kk
theorem aLH {T T':Nat} {x y:Operand} {u v r:Int} (hx:ev E x=some (.vc (pI .i64 u))) (hy:ev E y=some (.vc (pI .i64 v))) (hN:Nat.blt d S.N=true) (hg:cL ops E g) (h:aO (u+v)=some r) (k:GL S ops κ rest H ((d,.vc (pI .i64 r))::E) Q):GL S ops κ (⟨some d,.binOp .add T x y T',ty,pos,af,g⟩::rest) H E Q:=
 iO (wG rfl h) ⟨cS hx,cS hy,trivial⟩ hg hN k
theorem aK4 {T T':Nat} {x y:Operand} {u v r:Int} (hx:∀G,pA l0 ms E outs G i x=some (.vc (pI .i64 u))) (hy:∀G,pA l0 ms E outs G i y=some (.vc (pI .i64 v))) (hN:Nat.blt d S.N=true) (hg:GD l0 ms E outs i g) (h1:jQ ms [] i [0]=true) (h:aO (u+v)=some r) {r0:List Ou} (hr:r0=.v (.vc (pI .i64 r))::ro) (kk:DN S H l0 ms E outs n (i+1) l ro):DN S H l0 ms E outs (n+1) i (⟨some d,.binOp .add T x y T',ty,pos,af,g⟩::l) r0:=
 fS (fun A=>wG rfl h) (fun G=>⟨bF (hx G),bF (hy G),trivial⟩) hN hg h1 hr kk
theorem aLy {T T':Nat} {x y:Operand} {u v r:Int} (hx:ev E x=some (.vc (pI .i64 u))) (hy:ev E y=some (.vc (pI .i64 v))) (hN:Nat.blt d S.N=true) (hg:cL ops E g) (h:aO (u-v)=some r) (k:GL S ops κ rest H ((d,.vc (pI .i64 r))::E) Q):GL S ops κ (⟨some d,.binOp .sub T x y T',ty,pos,af,g⟩::rest) H E Q:=
 iO (aJw rfl h) ⟨cS hx,cS hy,trivial⟩ hg hN k
theorem aLJ {T T':Nat} {x y:Operand} {u v r:Int} (hx:∀G,pA l0 ms E outs G i x=some (.vc (pI .i64 u))) (hy:∀G,pA l0 ms E outs G i y=some (.vc (pI .i64 v))) (hN:Nat.blt d S.N=true) (hg:GD l0 ms E outs i g) (h1:jQ ms [] i [0]=true) (h:aO (u-v)=some r) {r0:List Ou} (hr:r0=.v (.vc (pI .i64 r))::ro) (kk:DN S H l0 ms E outs n (i+1) l ro):DN S H l0 ms E outs (n+1) i (⟨some d,.binOp .sub T x y T',ty,pos,af,g⟩::l) r0:=
 fS (fun A=>aJw rfl h) (fun G=>⟨bF (hx G),bF (hy G),trivial⟩) hN hg h1 hr kk
theorem aLF {T T':Nat} {x y:Operand} {u v r:Int} (hx:ev E x=some (.vc (pI .i64 u))) (hy:ev E y=some (.vc (pI .i64 v))) (hN:Nat.blt d S.N=true) (hg:cL ops E g) (h:aO (u*v)=some r) (k:GL S ops κ rest H ((d,.vc (pI .i64 r))::E) Q):GL S ops κ (⟨some d,.binOp .mul T x y T',ty,pos,af,g⟩::rest) H E Q:=
 iO (aCI rfl h) ⟨cS hx,cS hy,trivial⟩ hg hN k
theorem aLh {T T':Nat} {x y:Operand} {u v r:Int} (hx:∀G,pA l0 ms E outs G i x=some (.vc (pI .i64 u))) (hy:∀G,pA l0 ms E outs G i y=some (.vc (pI .i64 v))) (hN:Nat.blt d S.N=true) (hg:GD l0 ms E outs i g) (h1:jQ ms [] i [0]=true) (h:aO (u*v)=some r) {r0:List Ou} (hr:r0=.v (.vc (pI .i64 r))::ro) (kk:DN S H l0 ms E outs n (i+1) l ro):DN S H l0 ms E outs (n+1) i (⟨some d,.binOp .mul T x y T',ty,pos,af,g⟩::l) r0:=
 fS (fun A=>aCI rfl h) (fun G=>⟨bF (hx G),bF (hy G),trivial⟩) hN hg h1 hr kk
theorem aLm {T T':Nat} {x y:Operand} {u v r:Int} (hx:ev E x=some (.vc (pI .i64 u))) (hy:ev E y=some (.vc (pI .i64 v))) (hN:Nat.blt d S.N=true) (hg:cL ops E g) (h:xP u v=some r) (k:GL S ops κ rest H ((d,.vc (pI .i64 r))::E) Q):GL S ops κ (⟨some d,.binOp .quo T x y T',ty,pos,af,g⟩::rest) H E Q:=
 iO (aGx rfl h) ⟨cS hx,cS hy,trivial⟩ hg hN k
theorem aLf {T T':Nat} {x y:Operand} {u v r:Int} (hx:∀G,pA l0 ms E outs G i x=some (.vc (pI .i64 u))) (hy:∀G,pA l0 ms E outs G i y=some (.vc (pI .i64 v))) (hN:Nat.blt d S.N=true) (hg:GD l0 ms E outs i g) (h1:jQ ms [] i [0]=true) (h:xP u v=some r) {r0:List Ou} (hr:r0=.v (.vc (pI .i64 r))::ro) (kk:DN S H l0 ms E outs n (i+1) l ro):DN S H l0 ms E outs (n+1) i (⟨some d,.binOp .quo T x y T',ty,pos,af,g⟩::l) r0:=
 fS (fun A=>aGx rfl h) (fun G=>⟨bF (hx G),bF (hy G),trivial⟩) hN hg h1 hr kk
theorem aKP {T T':Nat} {x y:Operand} {u v r:Int} {k:IntKind} (hx:ev E x=some (.vc (pI k u))) (hy:ev E y=some (.vc (pI k v))) (hN:Nat.blt d S.N=true) (hg:cL ops E g) (h:wV u v=some r) (k:GL S ops κ rest H ((d,.vc (pI k r))::E) Q):GL S ops κ (⟨some d,.binOp .rem T x y T',ty,pos,af,g⟩::rest) H E Q:=
 iO (aDd rfl h) ⟨cS hx,cS hy,trivial⟩ hg hN k
theorem aLk {T T':Nat} {x y:Operand} {u v r:Int} {k:IntKind} (hx:∀G,pA l0 ms E outs G i x=some (.vc (pI k u))) (hy:∀G,pA l0 ms E outs G i y=some (.vc (pI k v))) (hN:Nat.blt d S.N=true) (hg:GD l0 ms E outs i g) (h1:jQ ms [] i [0]=true) (h:wV u v=some r) {r0:List Ou} (hr:r0=.v (.vc (pI k r))::ro) (kk:DN S H l0 ms E outs n (i+1) l ro):DN S H l0 ms E outs (n+1) i (⟨some d,.binOp .rem T x y T',ty,pos,af,g⟩::l) r0:=
 fS (fun A=>aDd rfl h) (fun G=>⟨bF (hx G),bF (hy G),trivial⟩) hN hg h1 hr kk
theorem aK9 {T:Nat} {x:Operand} {u:Bool} (hx:ev E x=some (.vc (pB u))) (hN:Nat.blt d S.N=true) (hg:cL ops E g) (k:GL S ops κ rest H ((d,.vc (pB (!u)))::E) Q):GL S ops κ (⟨some d,.unOp .not T x,ty,pos,af,g⟩::rest) H E Q:=
 iO (aHj rfl) ⟨cS hx,trivial⟩ hg hN k
theorem aLG {T:Nat} {x:Operand} {u:Bool} (hx:∀G,pA l0 ms E outs G i x=some (.vc (pB u))) (hN:Nat.blt d S.N=true) (hg:GD l0 ms E outs i g) (h1:jQ ms [] i [0]=true) {r0:List Ou} (hr:r0=.v (.vc (pB (!u)))::ro) (kk:DN S H l0 ms E outs n (i+1) l ro):DN S H l0 ms E outs (n+1) i (⟨some d,.unOp .not T x,ty,pos,af,g⟩::l) r0:=
 fS (fun A=>aHj rfl) (fun G=>⟨bF (hx G),trivial⟩) hN hg h1 hr kk
theorem aMf {T:Nat} {x:Operand} {u:Bool} {w:Bool} (hx:∀G,pA l0 ms E outs G i x=some (.vc (pB u))) (hN:Nat.blt d S.N=true) (hg:GD l0 ms E outs i g) (h1:jQ ms [] i [0]=true) (hb:(!u)=w) {r0:List Ou} (hr:r0=.v (.vc (pB w))::ro) (kk:DN S H l0 ms E outs n (i+1) l ro):DN S H l0 ms E outs (n+1) i (⟨some d,.unOp .not T x,ty,pos,af,g⟩::l) r0:=
 fS (fun A=>kZ (aHj rfl) hb) (fun G=>⟨bF (hx G),trivial⟩) hN hg h1 hr kk
theorem aLd {T:Nat} {x:Operand} {u r:Int} (hx:ev E x=some (.vc (pI .i64 u))) (hN:Nat.blt d S.N=true) (hg:cL ops E g) (h:aO (-u)=some r) (k:GL S ops κ rest H ((d,.vc (pI .i64 r))::E) Q):GL S ops κ (⟨some d,.unOp .neg T x,ty,pos,af,g⟩::rest) H E Q:=
 iO (aLo rfl h) ⟨cS hx,trivial⟩ hg hN k
theorem aLw {T:Nat} {x:Operand} {u r:Int} (hx:∀G,pA l0 ms E outs G i x=some (.vc (pI .i64 u))) (hN:Nat.blt d S.N=true) (hg:GD l0 ms E outs i g) (h1:jQ ms [] i [0]=true) (h:aO (-u)=some r) {r0:List Ou} (hr:r0=.v (.vc (pI .i64 r))::ro) (kk:DN S H l0 ms E outs n (i+1) l ro):DN S H l0 ms E outs (n+1) i (⟨some d,.unOp .neg T x,ty,pos,af,g⟩::l) r0:=
 fS (fun A=>aLo rfl h) (fun G=>⟨bF (hx G),trivial⟩) hN hg h1 hr kk
theorem aLr {x:Operand} {p q:VP} (hx:ev E x=some (.t2 p q)) (hN:Nat.blt d S.N=true) (hg:cL ops E g) (k:GL S ops κ rest H ((d,p)::E) Q):GL S ops κ (⟨some d,.extract x 0,ty,pos,af,g⟩::rest) H E Q:=
 iO (aD1 rfl) ⟨cS hx,trivial⟩ hg hN k
theorem aLY {x:Operand} {p q:VP} (hx:∀G,pA l0 ms E outs G i x=some (.t2 p q)) (hN:Nat.blt d S.N=true) (hg:GD l0 ms E outs i g) (h1:jQ ms [] i [0]=true) {r0:List Ou} (hr:r0=.v (p)::ro) (kk:DN S H l0 ms E outs n (i+1) l ro):DN S H l0 ms E outs (n+1) i (⟨some d,.extract x 0,ty,pos,af,g⟩::l) r0:=
 fS (fun A=>aD1 rfl) (fun G=>⟨bF (hx G),trivial⟩) hN hg h1 hr kk
theorem aLl {x:Operand} {p q:VP} (hx:ev E x=some (.t2 p q)) (hN:Nat.blt d S.N=true) (hg:cL ops E g) (k:GL S ops κ rest H ((d,q)::E) Q):GL S ops κ (⟨some d,.extract x 1,ty,pos,af,g⟩::rest) H E Q:=
 iO (aEE rfl) ⟨cS hx,trivial⟩ hg hN k
theorem aKV {x:Operand} {p q:VP} (hx:∀G,pA l0 ms E outs G i x=some (.t2 p q)) (hN:Nat.blt d S.N=true) (hg:GD l0 ms E outs i g) (h1:jQ ms [] i [0]=true) {r0:List Ou} (hr:r0=.v (q)::ro) (kk:DN S H l0 ms E outs n (i+1) l ro):DN S H l0 ms E outs (n+1) i (⟨some d,.extract x 1,ty,pos,af,g⟩::l) r0:=
 fS (fun A=>aEE rfl) (fun G=>⟨bF (hx G),trivial⟩) hN hg h1 hr kk
theorem aLs {x:Operand} {p q r:VP} (hx:ev E x=some (.t3 p q r)) (hN:Nat.blt d S.N=true) (hg:cL ops E g) (k:GL S ops κ rest H ((d,p)::E) Q):GL S ops κ (⟨some d,.extract x 0,ty,pos,af,g⟩::rest) H E Q:=
 iO (aGy rfl) ⟨cS hx,trivial⟩ hg hN k
theorem aLK {x:Operand} {p q r:VP} (hx:∀G,pA l0 ms E outs G i x=some (.t3 p q r)) (hN:Nat.blt d S.N=true) (hg:GD l0 ms E outs i g) (h1:jQ ms [] i [0]=true) {r0:List Ou} (hr:r0=.v (p)::ro) (kk:DN S H l0 ms E outs n (i+1) l ro):DN S H l0 ms E outs (n+1) i (⟨some d,.extract x 0,ty,pos,af,g⟩::l) r0:=
 fS (fun A=>aGy rfl) (fun G=>⟨bF (hx G),trivial⟩) hN hg h1 hr kk
theorem aLM {x:Operand} {p q r:VP} (hx:ev E x=some (.t3 p q r)) (hN:Nat.blt d S.N=true) (hg:cL ops E g) (k:GL S ops κ rest H ((d,q)::E) Q):GL S ops κ (⟨some d,.extract x 1,ty,pos,af,g⟩::rest) H E Q:=
 iO (aGZ rfl) ⟨cS hx,trivial⟩ hg hN k
theorem aKW {x:Operand} {p q r:VP} (hx:∀G,pA l0 ms E outs G i x=some (.t3 p q r)) (hN:Nat.blt d S.N=true) (hg:GD l0 ms E outs i g) (h1:jQ ms [] i [0]=true) {r0:List Ou} (hr:r0=.v (q)::ro) (kk:DN S H l0 ms E outs n (i+1) l ro):DN S H l0 ms E outs (n+1) i (⟨some d,.extract x 1,ty,pos,af,g⟩::l) r0:=
 fS (fun A=>aGZ rfl) (fun G=>⟨bF (hx G),trivial⟩) hN hg h1 hr kk
theorem aK6 {x:Operand} {p q r:VP} (hx:ev E x=some (.t3 p q r)) (hN:Nat.blt d S.N=true) (hg:cL ops E g) (k:GL S ops κ rest H ((d,r)::E) Q):GL S ops κ (⟨some d,.extract x 2,ty,pos,af,g⟩::rest) H E Q:=
 iO (aGt rfl) ⟨cS hx,trivial⟩ hg hN k
theorem aKU {x:Operand} {p q r:VP} (hx:∀G,pA l0 ms E outs G i x=some (.t3 p q r)) (hN:Nat.blt d S.N=true) (hg:GD l0 ms E outs i g) (h1:jQ ms [] i [0]=true) {r0:List Ou} (hr:r0=.v (r)::ro) (kk:DN S H l0 ms E outs n (i+1) l ro):DN S H l0 ms E outs (n+1) i (⟨some d,.extract x 2,ty,pos,af,g⟩::l) r0:=
 fS (fun A=>aGt rfl) (fun G=>⟨bF (hx G),trivial⟩) hN hg h1 hr kk
theorem aM5 {x y:Operand} {u v:Int} {ts:Array TypeId} (hx:ev E x=some (.vc (pI .i64 u))) (hy:ev E y=some (.vc (pI .i64 v))) (hN:Nat.blt d S.N=true) (hg:cL ops E g) (k:GL S ops κ rest H ((d,.vc (pI .i64 (min u v)))::E) Q):GL S ops κ (⟨some d,.call {callee:=.builtin .min,args:=#[x,y],argTypes:=ts},ty,pos,af,g⟩::rest) H E Q:=
 iO (aLR rfl) ⟨cS hx,cS hy,trivial⟩ hg hN k
theorem aMY {x y:Operand} {u v:Int} {ts:Array TypeId} (hx:∀G,pA l0 ms E outs G i x=some (.vc (pI .i64 u))) (hy:∀G,pA l0 ms E outs G i y=some (.vc (pI .i64 v))) (hN:Nat.blt d S.N=true) (hg:GD l0 ms E outs i g) (h1:jQ ms [] i [0]=true) {r0:List Ou} (hr:r0=.v (.vc (pI .i64 (min u v)))::ro) (kk:DN S H l0 ms E outs n (i+1) l ro):DN S H l0 ms E outs (n+1) i (⟨some d,.call {callee:=.builtin .min,args:=#[x,y],argTypes:=ts},ty,pos,af,g⟩::l) r0:=
 fS (fun A=>aLR rfl) (fun G=>⟨bF (hx G),bF (hy G),trivial⟩) hN hg h1 hr kk
theorem aOf {x y:Operand} {u v:Int} {ts:Array TypeId} (hx:ev E x=some (.vc (pI .i64 u))) (hy:ev E y=some (.vc (pI .i64 v))) (hN:Nat.blt d S.N=true) (hg:cL ops E g) (k:GL S ops κ rest H ((d,.vc (pI .i64 (max u v)))::E) Q):GL S ops κ (⟨some d,.call {callee:=.builtin .max,args:=#[x,y],argTypes:=ts},ty,pos,af,g⟩::rest) H E Q:=
 iO (aLW rfl) ⟨cS hx,cS hy,trivial⟩ hg hN k
theorem aNR {x y:Operand} {u v:Int} {ts:Array TypeId} (hx:∀G,pA l0 ms E outs G i x=some (.vc (pI .i64 u))) (hy:∀G,pA l0 ms E outs G i y=some (.vc (pI .i64 v))) (hN:Nat.blt d S.N=true) (hg:GD l0 ms E outs i g) (h1:jQ ms [] i [0]=true) {r0:List Ou} (hr:r0=.v (.vc (pI .i64 (max u v)))::ro) (kk:DN S H l0 ms E outs n (i+1) l ro):DN S H l0 ms E outs (n+1) i (⟨some d,.call {callee:=.builtin .max,args:=#[x,y],argTypes:=ts},ty,pos,af,g⟩::l) r0:=
 fS (fun A=>aLW rfl) (fun G=>⟨bF (hx G),bF (hy G),trivial⟩) hN hg h1 hr kk
theorem aNP {α:Type} {C:Cd α} {xs zs:List α} {t e bytes:Nat} {x y:Operand} {hi:Int} {k:IntKind} (hx:ev E x=some (.vc (pS C xs))) (hy:ev E y=some (.vc (pI k hi))) (ht:TyS S.P t e C.n bytes) (hN:Nat.blt d S.N=true) (hg:cL ops E g) (h:slL xs 0 hi=some zs) (k:GL S ops κ rest H ((d,.vc (pS C zs))::E) Q):GL S ops κ (⟨some d,.slice t x none (some y) none,ty,pos,af,g⟩::rest) H E Q:=
 iO (aBD rfl ht h) ⟨cS hx,cS hy,trivial⟩ hg hN k
theorem aNG {α:Type} {C:Cd α} {xs zs:List α} {t e bytes:Nat} {x y:Operand} {hi:Int} {k:IntKind} (hx:∀G,pA l0 ms E outs G i x=some (.vc (pS C xs))) (hy:∀G,pA l0 ms E outs G i y=some (.vc (pI k hi))) (ht:TyS S.P t e C.n bytes) (hN:Nat.blt d S.N=true) (hg:GD l0 ms E outs i g) (h1:jQ ms [] i [0]=true) (h:slL xs 0 hi=some zs) {r0:List Ou} (hr:r0=.v (.vc (pS C zs))::ro) (kk:DN S H l0 ms E outs n (i+1) l ro):DN S H l0 ms E outs (n+1) i (⟨some d,.slice t x none (some y) none,ty,pos,af,g⟩::l) r0:=
 fS (fun A=>aBD rfl ht h) (fun G=>⟨bF (hx G),bF (hy G),trivial⟩) hN hg h1 hr kk
theorem aNK {α:Type} {C:Cd α} {xs zs:List α} {t e bytes:Nat} {x y:Operand} {lo:Int} {k:IntKind} (hx:ev E x=some (.vc (pS C xs))) (hy:ev E y=some (.vc (pI k lo))) (ht:TyS S.P t e C.n bytes) (hN:Nat.blt d S.N=true) (hg:cL ops E g) (h:slL xs lo xs.length=some zs) (k:GL S ops κ rest H ((d,.vc (pS C zs))::E) Q):GL S ops κ (⟨some d,.slice t x (some y) none none,ty,pos,af,g⟩::rest) H E Q:=
 iO (aJ1 rfl ht h) ⟨cS hx,cS hy,trivial⟩ hg hN k
theorem aM3 {α:Type} {C:Cd α} {xs zs:List α} {t e bytes:Nat} {x y:Operand} {lo:Int} {k:IntKind} (hx:∀G,pA l0 ms E outs G i x=some (.vc (pS C xs))) (hy:∀G,pA l0 ms E outs G i y=some (.vc (pI k lo))) (ht:TyS S.P t e C.n bytes) (hN:Nat.blt d S.N=true) (hg:GD l0 ms E outs i g) (h1:jQ ms [] i [0]=true) (h:slL xs lo xs.length=some zs) {r0:List Ou} (hr:r0=.v (.vc (pS C zs))::ro) (kk:DN S H l0 ms E outs n (i+1) l ro):DN S H l0 ms E outs (n+1) i (⟨some d,.slice t x (some y) none none,ty,pos,af,g⟩::l) r0:=
 fS (fun A=>aJ1 rfl ht h) (fun G=>⟨bF (hx G),bF (hy G),trivial⟩) hN hg h1 hr kk
theorem aLg {α:Type} {C:Cd α} {xs zs:List α} {t e bytes:Nat} {x y z:Operand} {lo hi:Int} {k k2:IntKind} (hx:ev E x=some (.vc (pS C xs))) (hy:ev E y=some (.vc (pI k lo))) (hz:ev E z=some (.vc (pI k2 hi))) (ht:TyS S.P t e C.n bytes) (hN:Nat.blt d S.N=true) (hg:cL ops E g) (h:slL xs lo hi=some zs) (k:GL S ops κ rest H ((d,.vc (pS C zs))::E) Q):GL S ops κ (⟨some d,.slice t x (some y) (some z) none,ty,pos,af,g⟩::rest) H E Q:=
 iO (aHu rfl ht h) ⟨cS hx,cS hy,cS hz,trivial⟩ hg hN k
theorem aKY {α:Type} {C:Cd α} {xs zs:List α} {t e bytes:Nat} {x y z:Operand} {lo hi:Int} {k k2:IntKind} (hx:∀G,pA l0 ms E outs G i x=some (.vc (pS C xs))) (hy:∀G,pA l0 ms E outs G i y=some (.vc (pI k lo))) (hz:∀G,pA l0 ms E outs G i z=some (.vc (pI k2 hi))) (ht:TyS S.P t e C.n bytes) (hN:Nat.blt d S.N=true) (hg:GD l0 ms E outs i g) (h1:jQ ms [] i [0]=true) (h:slL xs lo hi=some zs) {r0:List Ou} (hr:r0=.v (.vc (pS C zs))::ro) (kk:DN S H l0 ms E outs n (i+1) l ro):DN S H l0 ms E outs (n+1) i (⟨some d,.slice t x (some y) (some z) none,ty,pos,af,g⟩::l) r0:=
 fS (fun A=>aHu rfl ht h) (fun G=>⟨bF (hx G),bF (hy G),bF (hz G),trivial⟩) hN hg h1 hr kk
theorem aM2 {c x y:Operand} {p:VP} (hc:ev E c=some (.vc (pB true))) (hx:ev E x=some p) (hN:Nat.blt d S.N=true) (hg:cL ops E g) (k:GL S ops κ rest H ((d,p)::E) Q):GL S ops κ (⟨some d,.pick c x y,ty,pos,af,g⟩::rest) H E Q:=
 iO (tK rfl) ⟨cS hc,cS hx,trivial⟩ hg hN k
theorem aN2 {c x y:Operand} {p:VP} (hc:∀G,pA l0 ms E outs G i c=some (.vc (pB true))) (hx:∀G,pA l0 ms E outs G i x=some p) (hN:Nat.blt d S.N=true) (hg:GD l0 ms E outs i g) (h1:jQ ms [] i [0]=true) {r0:List Ou} (hr:r0=.v (p)::ro) (kk:DN S H l0 ms E outs n (i+1) l ro):DN S H l0 ms E outs (n+1) i (⟨some d,.pick c x y,ty,pos,af,g⟩::l) r0:=
 fS (fun A=>tK rfl) (fun G=>⟨bF (hc G),bF (hx G),trivial⟩) hN hg h1 hr kk
theorem aN8 {c x y:Operand} {p:VP} (hc:ev E c=some (.vc (pB false))) (hy:ev E y=some p) (hN:Nat.blt d S.N=true) (hg:cL ops E g) (k:GL S ops κ rest H ((d,p)::E) Q):GL S ops κ (⟨some d,.pick c x y,ty,pos,af,g⟩::rest) H E Q:=
 iO (yA rfl) ⟨cS hc,cS hy,trivial⟩ hg hN k
theorem aNp {c x y:Operand} {p:VP} (hc:∀G,pA l0 ms E outs G i c=some (.vc (pB false))) (hy:∀G,pA l0 ms E outs G i y=some p) (hN:Nat.blt d S.N=true) (hg:GD l0 ms E outs i g) (h1:jQ ms [] i [0]=true) {r0:List Ou} (hr:r0=.v (p)::ro) (kk:DN S H l0 ms E outs n (i+1) l ro):DN S H l0 ms E outs (n+1) i (⟨some d,.pick c x y,ty,pos,af,g⟩::l) r0:=
 fS (fun A=>yA rfl) (fun G=>⟨bF (hc G),bF (hy G),trivial⟩) hN hg h1 hr kk
theorem aNf {x:Operand} {β:Option Nat} {off:Nat} (hx:ev E x=some (.vc (pP β off))) (hN:Nat.blt d S.N=true) (hg:cL ops E g) (k:GL S ops κ rest H ((d,.vc (pP β off))::E) Q):GL S ops κ (⟨some d,.nilCheck x,ty,pos,af,g⟩::rest) H E Q:=
 iO (oH rfl) ⟨cS hx,trivial⟩ hg hN k
theorem aNk {x:Operand} {β:Option Nat} {off:Nat} (hx:∀G,pA l0 ms E outs G i x=some (.vc (pP β off))) (hN:Nat.blt d S.N=true) (hg:GD l0 ms E outs i g) (h1:jQ ms [] i [0]=true) {r0:List Ou} (hr:r0=.v (.vc (pP β off))::ro) (kk:DN S H l0 ms E outs n (i+1) l ro):DN S H l0 ms E outs (n+1) i (⟨some d,.nilCheck x,ty,pos,af,g⟩::l) r0:=
 fS (fun A=>oH rfl) (fun G=>⟨bF (hx G),trivial⟩) hN hg h1 hr kk
theorem aLv {x:Operand} {β:Option Nat} {j:Int} {n f:Nat} (hx:ev E x=some (.vc (pE β j n f))) (hN:Nat.blt d S.N=true) (hg:cL ops E g) (k:GL S ops κ rest H ((d,.vc (pE β j n f))::E) Q):GL S ops κ (⟨some d,.nilCheck x,ty,pos,af,g⟩::rest) H E Q:=
 iO (aJW rfl) ⟨cS hx,trivial⟩ hg hN k
theorem aLB {x:Operand} {β:Option Nat} {j:Int} {n f:Nat} (hx:∀G,pA l0 ms E outs G i x=some (.vc (pE β j n f))) (hN:Nat.blt d S.N=true) (hg:GD l0 ms E outs i g) (h1:jQ ms [] i [0]=true) {r0:List Ou} (hr:r0=.v (.vc (pE β j n f))::ro) (kk:DN S H l0 ms E outs n (i+1) l ro):DN S H l0 ms E outs (n+1) i (⟨some d,.nilCheck x,ty,pos,af,g⟩::l) r0:=
 fS (fun A=>aJW rfl) (fun G=>⟨bF (hx G),trivial⟩) hN hg h1 hr kk
theorem aLN {x:Operand} {ps:List CP} (hx:ev E x=some (.vc (pM ps))) (hN:Nat.blt d S.N=true) (hg:cL ops E g) (k:GL S ops κ rest H ((d,.vc (pM ps))::E) Q):GL S ops κ (⟨some d,.nilCheck x,ty,pos,af,g⟩::rest) H E Q:=
 iO (aIu rfl) ⟨cS hx,trivial⟩ hg hN k
theorem aLQ {x:Operand} {ps:List CP} (hx:∀G,pA l0 ms E outs G i x=some (.vc (pM ps))) (hN:Nat.blt d S.N=true) (hg:GD l0 ms E outs i g) (h1:jQ ms [] i [0]=true) {r0:List Ou} (hr:r0=.v (.vc (pM ps))::ro) (kk:DN S H l0 ms E outs n (i+1) l ro):DN S H l0 ms E outs (n+1) i (⟨some d,.nilCheck x,ty,pos,af,g⟩::l) r0:=
 fS (fun A=>aIu rfl) (fun G=>⟨bF (hx G),trivial⟩) hN hg h1 hr kk
theorem aJg {f:Nat} {xs:List Operand} {ps:List VP} {post:VP} {ts:Array TypeId} (he:evs E xs=some ps) (hN:Nat.blt d S.N=true) (hg:cL ops E g) (c:Ct S.P f ps post) (k:GL S ops κ rest H ((d,post)::E) Q):GL S ops κ (⟨some d,.call {callee:=.value (.func f),args:=xs.toArray,argTypes:=ts},ty,pos,af,g⟩::rest) H E Q:=
 iO (bJ rfl c (aEh he).2) (aEh he).1 hg hN k
theorem aLO {T:Nat} {zs:List CP} (hz:TyZ S.P T zs) (hN:Nat.blt d S.N=true) {r0:List Ou} (hr:r0=.a T zs::ro) (k:DN S H l0 ms E outs n (i+1) l ro):DN S H l0 ms E outs (n+1) i (⟨some d,.alloc T,ty,pos,af,none⟩::l) r0:=by
 subst hr
 exact aEy hN (.alc hz rfl rfl rfl) k
theorem aJU {f:Nat} {xs:List Operand} {ps:List VP} {post:VP} {ts:Array TypeId} (he:∀G,aL7 l0 ms E outs G i xs=some ps) (hN:Nat.blt d S.N=true) (hg:GD l0 ms E outs i g) (h1:jQ ms [] i [0]=true) (c:Ct S.P f ps post) {r0:List Ou} (hr:r0=.v post::ro) (k:DN S H l0 ms E outs n (i+1) l ro):DN S H l0 ms E outs (n+1) i (⟨some d,.call {callee:=.value (.func f),args:=xs.toArray,argTypes:=ts},ty,pos,af,g⟩::l) r0:=
 fS (fun A=>bJ rfl c (aB4 (he fun _=>(none,0))).2) (fun G=>(aB4 (he G)).1) hN hg h1 hr k
theorem aNS {t off:Nat} {x y:Operand} {β:Option Nat} {e:HA} {p:VP} {ps:List CP} (hx:ev E x=some (.vc (pP β off))) (hy:ev E y=some p) (ht:Ty1 S.P t) (hi:vB H β e ⟨e.β,e.c,e.T,e.sz,e.n,ps⟩ H') (hp:p.flat) (hk:p.cells.length=1) (hq:uB e.ps off p.cells=some ps) (k:GL S ops κ rest H' E Q):GL S ops κ (⟨none,.store t x y,ty,pos,af,none⟩::rest) H E Q:=by
 obtain⟨i,h1,h2,h3⟩:=hi.at
 exact⟨fun q=>lW (t_s i rfl h1 h2 ht.s hp hk hq h3) ⟨cS hx,cS hy,trivial⟩ (k.h q) rfl rfl⟩
theorem aNF {t off r:Nat} {x y:Operand} {β:Option Nat} {e:HA} {p:VP} {ps:List CP} (hx:ev E x=some (.vc (pP β off))) (hy:ev E y=some p) (ht:TyA S.P t r) (hi:vB H β e ⟨e.β,e.c,e.T,e.sz,e.n,ps⟩ H') (hp:p.flat) (hk:p.cells.length=r) (hq:uB e.ps off p.cells=some ps) (k:GL S ops κ rest H' E Q):GL S ops κ (⟨none,.store t x y,ty,pos,af,none⟩::rest) H E Q:=by
 obtain⟨i,h1,h2,h3⟩:=hi.at
 exact⟨fun q=>lW (t_s i rfl h1 h2 ht.s hp hk hq h3) ⟨cS hx,cS hy,trivial⟩ (k.h q) rfl rfl⟩
theorem dr {id:Nat} (ms:List Nat) (m n:Nat) (outs:List Ou) (k:∀bs G,WL S l.toArray κ (l.drop outs.length) (aBg bs 0 outs++H) (aA2 bs G 0 l outs++E)) (hops:DN S H l ms E outs m 0 l outs:=by
 repeat (first
  |(apply aN4;exact fun _=>rfl;exact rfl;(first|exact GD.p|exact GD.g rfl (fun _=>rfl));exact rfl;exact rfl)
  |(apply aNl;exact fun _=>rfl;exact rfl;(first|exact GD.p|exact GD.g rfl (fun _=>rfl));exact rfl;exact rfl)
  |(apply e_n;exact rfl;exact fun _=>rfl;exact rfl;exact rfl;exact rfl)
  |(apply aNc;exact fun _=>rfl;exact fun _=>rfl;exact inferInstance;exact rfl;(first|exact GD.p|exact GD.g rfl (fun _=>rfl));exact rfl;(with_reducible assumption);exact rfl)
  |(apply aK3;exact fun _=>rfl;exact inferInstance;exact rfl;(first|exact GD.p|exact GD.g rfl (fun _=>rfl));exact rfl;exact rfl)
  |(apply aNM;exact fun _=>rfl;exact inferInstance;exact rfl;(first|exact GD.p|exact GD.g rfl (fun _=>rfl));exact rfl;exact rfl)
  |(apply aKS;exact fun _=>rfl;exact inferInstance;exact rfl;(first|exact GD.p|exact GD.g rfl (fun _=>rfl));exact rfl;exact rfl)
  |(apply aLc;exact fun _=>rfl;exact inferInstance;exact rfl;exact rfl;(first|exact GD.p|exact GD.g rfl (fun _=>rfl));exact rfl;exact rfl)
  |(apply aLL;exact fun _=>rfl;exact inferInstance;exact rfl;exact rfl;(first|exact GD.p|exact GD.g rfl (fun _=>rfl));exact rfl;exact rfl)
  |(apply aM0;exact fun _=>rfl;exact inferInstance;(repeat (first|exact fE.a rfl|apply fE.b));exact rfl;exact rfl;(first|exact GD.p|exact GD.g rfl (fun _=>rfl));exact rfl;exact rfl)
  |(apply aOd;exact fun _=>rfl;exact inferInstance;(repeat (first|exact fE.a rfl|apply fE.b));exact rfl;exact rfl;(first|exact GD.p|exact GD.g rfl (fun _=>rfl));exact rfl;exact rfl)
  |(apply aLV;exact fun _=>rfl;exact fun _=>rfl;(repeat (first|exact fE.a rfl|apply fE.b));(first|exact rfl|with_reducible assumption|exact bH (by with_reducible assumption) (by first|with_reducible assumption|exact rfl));exact inferInstance;exact rfl;(first|exact GD.p|exact GD.g rfl (fun _=>rfl));exact rfl;(with_reducible assumption);exact rfl)
  |(apply aKO;exact fun _=>rfl;(repeat (first|exact fE.a rfl|apply fE.b));(first|exact rfl|with_reducible assumption|exact bH (by with_reducible assumption) (by first|with_reducible assumption|exact rfl));exact inferInstance;exact rfl;(first|exact GD.p|exact GD.g rfl (fun _=>rfl));exact rfl;exact rfl)
  |(apply aIK;exact fun _=>rfl;(repeat (first|exact fE.a rfl|apply fE.b));exact rfl;(with_reducible assumption);exact inferInstance;exact rfl;exact rfl;exact rfl;(first|exact GD.p|exact GD.g rfl (fun _=>rfl));exact rfl;exact rfl)
  |(apply aJs;exact fun _=>rfl;(repeat (first|exact fE.a rfl|apply fE.b));exact rfl;(with_reducible assumption);exact inferInstance;exact rfl;exact rfl;exact rfl;(first|exact GD.p|exact GD.g rfl (fun _=>rfl));exact rfl;exact rfl)
  |(apply aND;exact fun _=>rfl;exact inferInstance;exact rfl;(first|exact GD.p|exact GD.g rfl (fun _=>rfl));exact rfl;exact rfl)
  |(apply aNo;exact fun _=>rfl;exact fun _=>rfl;exact rfl;(first|exact GD.p|exact GD.g rfl (fun _=>rfl));exact rfl;exact rfl)
  |(apply aN7;exact fun _=>rfl;exact fun _=>rfl;exact rfl;(first|exact GD.p|exact GD.g rfl (fun _=>rfl));exact rfl;exact rfl)
  |(apply aNZ;exact fun _=>rfl;exact fun _=>rfl;exact rfl;(first|exact GD.p|exact GD.g rfl (fun _=>rfl));exact rfl;exact rfl)
  |(apply aNC;exact fun _=>rfl;exact fun _=>rfl;exact rfl;(first|exact GD.p|exact GD.g rfl (fun _=>rfl));exact rfl;exact rfl)
  |(apply aNE;exact fun _=>rfl;exact fun _=>rfl;exact rfl;(first|exact GD.p|exact GD.g rfl (fun _=>rfl));exact rfl;exact rfl)
  |(apply aNJ;exact fun _=>rfl;exact fun _=>rfl;exact rfl;(first|exact GD.p|exact GD.g rfl (fun _=>rfl));exact rfl;exact rfl)
  |(apply aK4;exact fun _=>rfl;exact fun _=>rfl;exact rfl;(first|exact GD.p|exact GD.g rfl (fun _=>rfl));exact rfl;(with_reducible assumption);exact rfl)
  |(apply aLJ;exact fun _=>rfl;exact fun _=>rfl;exact rfl;(first|exact GD.p|exact GD.g rfl (fun _=>rfl));exact rfl;(with_reducible assumption);exact rfl)
  |(apply aLh;exact fun _=>rfl;exact fun _=>rfl;exact rfl;(first|exact GD.p|exact GD.g rfl (fun _=>rfl));exact rfl;(with_reducible assumption);exact rfl)
  |(apply aLf;exact fun _=>rfl;exact fun _=>rfl;exact rfl;(first|exact GD.p|exact GD.g rfl (fun _=>rfl));exact rfl;(with_reducible assumption);exact rfl)
  |(apply aLk;exact fun _=>rfl;exact fun _=>rfl;exact rfl;(first|exact GD.p|exact GD.g rfl (fun _=>rfl));exact rfl;(with_reducible assumption);exact rfl)
  |(apply aLG;exact fun _=>rfl;exact rfl;(first|exact GD.p|exact GD.g rfl (fun _=>rfl));exact rfl;exact rfl)
  |(apply aLw;exact fun _=>rfl;exact rfl;(first|exact GD.p|exact GD.g rfl (fun _=>rfl));exact rfl;(with_reducible assumption);exact rfl)
  |(apply aLY;exact fun _=>rfl;exact rfl;(first|exact GD.p|exact GD.g rfl (fun _=>rfl));exact rfl;exact rfl)
  |(apply aKV;exact fun _=>rfl;exact rfl;(first|exact GD.p|exact GD.g rfl (fun _=>rfl));exact rfl;exact rfl)
  |(apply aLK;exact fun _=>rfl;exact rfl;(first|exact GD.p|exact GD.g rfl (fun _=>rfl));exact rfl;exact rfl)
  |(apply aKW;exact fun _=>rfl;exact rfl;(first|exact GD.p|exact GD.g rfl (fun _=>rfl));exact rfl;exact rfl)
  |(apply aKU;exact fun _=>rfl;exact rfl;(first|exact GD.p|exact GD.g rfl (fun _=>rfl));exact rfl;exact rfl)
  |(apply aMY;exact fun _=>rfl;exact fun _=>rfl;exact rfl;(first|exact GD.p|exact GD.g rfl (fun _=>rfl));exact rfl;exact rfl)
  |(apply aNR;exact fun _=>rfl;exact fun _=>rfl;exact rfl;(first|exact GD.p|exact GD.g rfl (fun _=>rfl));exact rfl;exact rfl)
  |(apply aNG;exact fun _=>rfl;exact fun _=>rfl;exact inferInstance;exact rfl;(first|exact GD.p|exact GD.g rfl (fun _=>rfl));exact rfl;(with_reducible assumption);exact rfl)
  |(apply aM3;exact fun _=>rfl;exact fun _=>rfl;exact inferInstance;exact rfl;(first|exact GD.p|exact GD.g rfl (fun _=>rfl));exact rfl;(with_reducible assumption);exact rfl)
  |(apply aKY;exact fun _=>rfl;exact fun _=>rfl;exact fun _=>rfl;exact inferInstance;exact rfl;(first|exact GD.p|exact GD.g rfl (fun _=>rfl));exact rfl;(with_reducible assumption);exact rfl)
  |(apply aN2;exact fun _=>rfl;exact fun _=>rfl;exact rfl;(first|exact GD.p|exact GD.g rfl (fun _=>rfl));exact rfl;exact rfl)
  |(apply aNp;exact fun _=>rfl;exact fun _=>rfl;exact rfl;(first|exact GD.p|exact GD.g rfl (fun _=>rfl));exact rfl;exact rfl)
  |(apply aNk;exact fun _=>rfl;exact rfl;(first|exact GD.p|exact GD.g rfl (fun _=>rfl));exact rfl;exact rfl)
  |(apply aLB;exact fun _=>rfl;exact rfl;(first|exact GD.p|exact GD.g rfl (fun _=>rfl));exact rfl;exact rfl)
  |(apply aLQ;exact fun _=>rfl;exact rfl;(first|exact GD.p|exact GD.g rfl (fun _=>rfl));exact rfl;exact rfl)
  |(apply aJU;exact fun _=>rfl;exact rfl;(first|exact GD.p|exact GD.g rfl (fun _=>rfl));exact rfl;assumption;exact rfl)
  |(apply aLO;exact inferInstance;exact rfl;exact rfl)
  |(apply e_u;exact rfl;exact fun _=>rfl;exact rfl;exact rfl)
  |(apply aK2;exact rfl))) (hx:Mix S.P:=by infer_instance)
  (hm:z8 ms l ms=true:=by kernel_rfl) (hb:uP l 0=true:=by kernel_rfl) (hq:yM l=true:=by kernel_rfl) (hm2:Nat.beq l.length (m+n)=true:=by kernel_rfl) (ht:aAg l ms m n=true:=by kernel_rfl):WC S (.region id l.toArray true) κ H E:=
 jI ms m n outs hx.h hops.h k hm hb hq (by rw [hops.len];simp) hm2 ht
theorem drb {id:Nat} (ms:List Nat) (m n:Nat) (outs:List Ou) (k:∀bs G,WL S l.toArray κ (l.drop outs.length) (aBg bs 0 outs++H) (aA2 bs G 0 l outs++E)) (hops:DN S H l ms E outs m 0 l outs:=by
 repeat (first
  |(apply aNQ;exact fun _=>rfl;exact rfl;(first|exact GD.p|exact GD.g rfl (fun _=>rfl));exact rfl;(with_reducible assumption);exact rfl)
  |(apply aNi;exact fun _=>rfl;exact rfl;(first|exact GD.p|exact GD.g rfl (fun _=>rfl));exact rfl;(with_reducible assumption);exact rfl)
  |(apply aM7;exact fun _=>rfl;exact fun _=>rfl;exact rfl;(first|exact GD.p|exact GD.g rfl (fun _=>rfl));exact rfl;(with_reducible assumption);exact rfl)
  |(apply aNB;exact fun _=>rfl;exact fun _=>rfl;exact rfl;(first|exact GD.p|exact GD.g rfl (fun _=>rfl));exact rfl;(with_reducible assumption);exact rfl)
  |(apply aM1;exact fun _=>rfl;exact fun _=>rfl;exact rfl;(first|exact GD.p|exact GD.g rfl (fun _=>rfl));exact rfl;(with_reducible assumption);exact rfl)
  |(apply aN5;exact fun _=>rfl;exact fun _=>rfl;exact rfl;(first|exact GD.p|exact GD.g rfl (fun _=>rfl));exact rfl;(with_reducible assumption);exact rfl)
  |(apply aM9;exact fun _=>rfl;exact fun _=>rfl;exact rfl;(first|exact GD.p|exact GD.g rfl (fun _=>rfl));exact rfl;(with_reducible assumption);exact rfl)
  |(apply aOj;exact fun _=>rfl;exact fun _=>rfl;exact rfl;(first|exact GD.p|exact GD.g rfl (fun _=>rfl));exact rfl;(with_reducible assumption);exact rfl)
  |(apply aMf;exact fun _=>rfl;exact rfl;(first|exact GD.p|exact GD.g rfl (fun _=>rfl));exact rfl;(with_reducible assumption);exact rfl)
  |(apply aN4;exact fun _=>rfl;exact rfl;(first|exact GD.p|exact GD.g rfl (fun _=>rfl));exact rfl;exact rfl)
  |(apply aNl;exact fun _=>rfl;exact rfl;(first|exact GD.p|exact GD.g rfl (fun _=>rfl));exact rfl;exact rfl)
  |(apply e_n;exact rfl;exact fun _=>rfl;exact rfl;exact rfl;exact rfl)
  |(apply aNc;exact fun _=>rfl;exact fun _=>rfl;exact inferInstance;exact rfl;(first|exact GD.p|exact GD.g rfl (fun _=>rfl));exact rfl;(with_reducible assumption);exact rfl)
  |(apply aK3;exact fun _=>rfl;exact inferInstance;exact rfl;(first|exact GD.p|exact GD.g rfl (fun _=>rfl));exact rfl;exact rfl)
  |(apply aNM;exact fun _=>rfl;exact inferInstance;exact rfl;(first|exact GD.p|exact GD.g rfl (fun _=>rfl));exact rfl;exact rfl)
  |(apply aKS;exact fun _=>rfl;exact inferInstance;exact rfl;(first|exact GD.p|exact GD.g rfl (fun _=>rfl));exact rfl;exact rfl)
  |(apply aLc;exact fun _=>rfl;exact inferInstance;exact rfl;exact rfl;(first|exact GD.p|exact GD.g rfl (fun _=>rfl));exact rfl;exact rfl)
  |(apply aLL;exact fun _=>rfl;exact inferInstance;exact rfl;exact rfl;(first|exact GD.p|exact GD.g rfl (fun _=>rfl));exact rfl;exact rfl)
  |(apply aM0;exact fun _=>rfl;exact inferInstance;(repeat (first|exact fE.a rfl|apply fE.b));exact rfl;exact rfl;(first|exact GD.p|exact GD.g rfl (fun _=>rfl));exact rfl;exact rfl)
  |(apply aOd;exact fun _=>rfl;exact inferInstance;(repeat (first|exact fE.a rfl|apply fE.b));exact rfl;exact rfl;(first|exact GD.p|exact GD.g rfl (fun _=>rfl));exact rfl;exact rfl)
  |(apply aLV;exact fun _=>rfl;exact fun _=>rfl;(repeat (first|exact fE.a rfl|apply fE.b));(first|exact rfl|with_reducible assumption|exact bH (by with_reducible assumption) (by first|with_reducible assumption|exact rfl));exact inferInstance;exact rfl;(first|exact GD.p|exact GD.g rfl (fun _=>rfl));exact rfl;(with_reducible assumption);exact rfl)
  |(apply aKO;exact fun _=>rfl;(repeat (first|exact fE.a rfl|apply fE.b));(first|exact rfl|with_reducible assumption|exact bH (by with_reducible assumption) (by first|with_reducible assumption|exact rfl));exact inferInstance;exact rfl;(first|exact GD.p|exact GD.g rfl (fun _=>rfl));exact rfl;exact rfl)
  |(apply aIK;exact fun _=>rfl;(repeat (first|exact fE.a rfl|apply fE.b));exact rfl;(with_reducible assumption);exact inferInstance;exact rfl;exact rfl;exact rfl;(first|exact GD.p|exact GD.g rfl (fun _=>rfl));exact rfl;exact rfl)
  |(apply aJs;exact fun _=>rfl;(repeat (first|exact fE.a rfl|apply fE.b));exact rfl;(with_reducible assumption);exact inferInstance;exact rfl;exact rfl;exact rfl;(first|exact GD.p|exact GD.g rfl (fun _=>rfl));exact rfl;exact rfl)
  |(apply aND;exact fun _=>rfl;exact inferInstance;exact rfl;(first|exact GD.p|exact GD.g rfl (fun _=>rfl));exact rfl;exact rfl)
  |(apply aNo;exact fun _=>rfl;exact fun _=>rfl;exact rfl;(first|exact GD.p|exact GD.g rfl (fun _=>rfl));exact rfl;exact rfl)
  |(apply aN7;exact fun _=>rfl;exact fun _=>rfl;exact rfl;(first|exact GD.p|exact GD.g rfl (fun _=>rfl));exact rfl;exact rfl)
  |(apply aNZ;exact fun _=>rfl;exact fun _=>rfl;exact rfl;(first|exact GD.p|exact GD.g rfl (fun _=>rfl));exact rfl;exact rfl)
  |(apply aNC;exact fun _=>rfl;exact fun _=>rfl;exact rfl;(first|exact GD.p|exact GD.g rfl (fun _=>rfl));exact rfl;exact rfl)
  |(apply aNE;exact fun _=>rfl;exact fun _=>rfl;exact rfl;(first|exact GD.p|exact GD.g rfl (fun _=>rfl));exact rfl;exact rfl)
  |(apply aNJ;exact fun _=>rfl;exact fun _=>rfl;exact rfl;(first|exact GD.p|exact GD.g rfl (fun _=>rfl));exact rfl;exact rfl)
  |(apply aK4;exact fun _=>rfl;exact fun _=>rfl;exact rfl;(first|exact GD.p|exact GD.g rfl (fun _=>rfl));exact rfl;(with_reducible assumption);exact rfl)
  |(apply aLJ;exact fun _=>rfl;exact fun _=>rfl;exact rfl;(first|exact GD.p|exact GD.g rfl (fun _=>rfl));exact rfl;(with_reducible assumption);exact rfl)
  |(apply aLh;exact fun _=>rfl;exact fun _=>rfl;exact rfl;(first|exact GD.p|exact GD.g rfl (fun _=>rfl));exact rfl;(with_reducible assumption);exact rfl)
  |(apply aLf;exact fun _=>rfl;exact fun _=>rfl;exact rfl;(first|exact GD.p|exact GD.g rfl (fun _=>rfl));exact rfl;(with_reducible assumption);exact rfl)
  |(apply aLk;exact fun _=>rfl;exact fun _=>rfl;exact rfl;(first|exact GD.p|exact GD.g rfl (fun _=>rfl));exact rfl;(with_reducible assumption);exact rfl)
  |(apply aLG;exact fun _=>rfl;exact rfl;(first|exact GD.p|exact GD.g rfl (fun _=>rfl));exact rfl;exact rfl)
  |(apply aLw;exact fun _=>rfl;exact rfl;(first|exact GD.p|exact GD.g rfl (fun _=>rfl));exact rfl;(with_reducible assumption);exact rfl)
  |(apply aLY;exact fun _=>rfl;exact rfl;(first|exact GD.p|exact GD.g rfl (fun _=>rfl));exact rfl;exact rfl)
  |(apply aKV;exact fun _=>rfl;exact rfl;(first|exact GD.p|exact GD.g rfl (fun _=>rfl));exact rfl;exact rfl)
  |(apply aLK;exact fun _=>rfl;exact rfl;(first|exact GD.p|exact GD.g rfl (fun _=>rfl));exact rfl;exact rfl)
  |(apply aKW;exact fun _=>rfl;exact rfl;(first|exact GD.p|exact GD.g rfl (fun _=>rfl));exact rfl;exact rfl)
  |(apply aKU;exact fun _=>rfl;exact rfl;(first|exact GD.p|exact GD.g rfl (fun _=>rfl));exact rfl;exact rfl)
  |(apply aMY;exact fun _=>rfl;exact fun _=>rfl;exact rfl;(first|exact GD.p|exact GD.g rfl (fun _=>rfl));exact rfl;exact rfl)
  |(apply aNR;exact fun _=>rfl;exact fun _=>rfl;exact rfl;(first|exact GD.p|exact GD.g rfl (fun _=>rfl));exact rfl;exact rfl)
  |(apply aNG;exact fun _=>rfl;exact fun _=>rfl;exact inferInstance;exact rfl;(first|exact GD.p|exact GD.g rfl (fun _=>rfl));exact rfl;(with_reducible assumption);exact rfl)
  |(apply aM3;exact fun _=>rfl;exact fun _=>rfl;exact inferInstance;exact rfl;(first|exact GD.p|exact GD.g rfl (fun _=>rfl));exact rfl;(with_reducible assumption);exact rfl)
  |(apply aKY;exact fun _=>rfl;exact fun _=>rfl;exact fun _=>rfl;exact inferInstance;exact rfl;(first|exact GD.p|exact GD.g rfl (fun _=>rfl));exact rfl;(with_reducible assumption);exact rfl)
  |(apply aN2;exact fun _=>rfl;exact fun _=>rfl;exact rfl;(first|exact GD.p|exact GD.g rfl (fun _=>rfl));exact rfl;exact rfl)
  |(apply aNp;exact fun _=>rfl;exact fun _=>rfl;exact rfl;(first|exact GD.p|exact GD.g rfl (fun _=>rfl));exact rfl;exact rfl)
  |(apply aNk;exact fun _=>rfl;exact rfl;(first|exact GD.p|exact GD.g rfl (fun _=>rfl));exact rfl;exact rfl)
  |(apply aLB;exact fun _=>rfl;exact rfl;(first|exact GD.p|exact GD.g rfl (fun _=>rfl));exact rfl;exact rfl)
  |(apply aLQ;exact fun _=>rfl;exact rfl;(first|exact GD.p|exact GD.g rfl (fun _=>rfl));exact rfl;exact rfl)
  |(apply aJU;exact fun _=>rfl;exact rfl;(first|exact GD.p|exact GD.g rfl (fun _=>rfl));exact rfl;assumption;exact rfl)
  |(apply aLO;exact inferInstance;exact rfl;exact rfl)
  |(apply e_u;exact rfl;exact fun _=>rfl;exact rfl;exact rfl)
  |(apply aK2;exact rfl))) (hx:Mix S.P:=by infer_instance)
  (hm:z8 ms l ms=true:=by kernel_rfl) (hb:uP l 0=true:=by kernel_rfl) (hq:yM l=true:=by kernel_rfl) (hm2:Nat.beq l.length (m+n)=true:=by kernel_rfl) (ht:aAg l ms m n=true:=by kernel_rfl):WC S (.region id l.toArray true) κ H E:=
 jI ms m n outs hx.h hops.h k hm hb hq (by rw [hops.len];simp) hm2 ht
theorem go {P:Prop} (Q:Prop) (k:Q) (h:D P Q:=by
 first
  |with_reducible refine sL ?_
  |with_reducible refine sC ?_
  |with_reducible refine sX ?_
 repeat (first
  |(apply aLp)
  |(apply aIg)
  |(apply aLj)
  |(apply aKT)
  |(apply aNr;exact rfl;exact rfl;(first|exact cL.p|exact cL.g rfl rfl rfl))
  |(apply aNa;exact rfl;exact rfl;(first|exact cL.p|exact cL.g rfl rfl rfl))
  |(apply b_n;exact rfl;exact rfl;exact rfl;exact rfl;exact rfl)
  |(apply aMZ;exact rfl;exact rfl;exact inferInstance;exact rfl;(first|exact cL.p|exact cL.g rfl rfl rfl);(with_reducible assumption))
  |(apply aK0;exact rfl;exact inferInstance;exact rfl;(first|exact cL.p|exact cL.g rfl rfl rfl))
  |(apply aN9;exact rfl;exact inferInstance;exact rfl;(first|exact cL.p|exact cL.g rfl rfl rfl))
  |(apply aLt;exact rfl;exact inferInstance;exact rfl;(first|exact cL.p|exact cL.g rfl rfl rfl))
  |(apply aLu;exact rfl;exact inferInstance;exact rfl;exact rfl;(first|exact cL.p|exact cL.g rfl rfl rfl))
  |(apply aKR;exact rfl;exact inferInstance;exact rfl;exact rfl;(first|exact cL.p|exact cL.g rfl rfl rfl))
  |(apply aM4;exact rfl;exact inferInstance;(repeat (first|exact fE.a rfl|apply fE.b));exact rfl;exact rfl;(first|exact cL.p|exact cL.g rfl rfl rfl))
  |(apply aN0;exact rfl;exact inferInstance;(repeat (first|exact fE.a rfl|apply fE.b));exact rfl;exact rfl;(first|exact cL.p|exact cL.g rfl rfl rfl))
  |(apply aK8;exact rfl;exact rfl;(repeat (first|exact fE.a rfl|apply fE.b));(first|exact rfl|with_reducible assumption|exact bH (by with_reducible assumption) (by first|with_reducible assumption|exact rfl));exact inferInstance;exact rfl;(first|exact cL.p|exact cL.g rfl rfl rfl);(with_reducible assumption))
  |(apply aLn;exact rfl;(repeat (first|exact fE.a rfl|apply fE.b));(first|exact rfl|with_reducible assumption|exact bH (by with_reducible assumption) (by first|with_reducible assumption|exact rfl));exact inferInstance;exact rfl;(first|exact cL.p|exact cL.g rfl rfl rfl))
  |(apply aIv;exact rfl;(repeat (first|exact fE.a rfl|apply fE.b));exact rfl;(with_reducible assumption);exact inferInstance;exact rfl;exact rfl;exact rfl;(first|exact cL.p|exact cL.g rfl rfl rfl))
  |(apply aJi;exact rfl;(repeat (first|exact fE.a rfl|apply fE.b));exact rfl;(with_reducible assumption);exact inferInstance;exact rfl;exact rfl;exact rfl;(first|exact cL.p|exact cL.g rfl rfl rfl))
  |(apply aNU;exact rfl;exact inferInstance;exact rfl;(first|exact cL.p|exact cL.g rfl rfl rfl))
  |(apply aNI;exact rfl;exact rfl;exact rfl;(first|exact cL.p|exact cL.g rfl rfl rfl))
  |(apply aN3;exact rfl;exact rfl;exact rfl;(first|exact cL.p|exact cL.g rfl rfl rfl))
  |(apply aNL;exact rfl;exact rfl;exact rfl;(first|exact cL.p|exact cL.g rfl rfl rfl))
  |(apply aOb;exact rfl;exact rfl;exact rfl;(first|exact cL.p|exact cL.g rfl rfl rfl))
  |(apply aMX;exact rfl;exact rfl;exact rfl;(first|exact cL.p|exact cL.g rfl rfl rfl))
  |(apply aM6;exact rfl;exact rfl;exact rfl;(first|exact cL.p|exact cL.g rfl rfl rfl))
  |(apply aLH;exact rfl;exact rfl;exact rfl;(first|exact cL.p|exact cL.g rfl rfl rfl);(with_reducible assumption))
  |(apply aLy;exact rfl;exact rfl;exact rfl;(first|exact cL.p|exact cL.g rfl rfl rfl);(with_reducible assumption))
  |(apply aLF;exact rfl;exact rfl;exact rfl;(first|exact cL.p|exact cL.g rfl rfl rfl);(with_reducible assumption))
  |(apply aLm;exact rfl;exact rfl;exact rfl;(first|exact cL.p|exact cL.g rfl rfl rfl);(with_reducible assumption))
  |(apply aKP;exact rfl;exact rfl;exact rfl;(first|exact cL.p|exact cL.g rfl rfl rfl);(with_reducible assumption))
  |(apply aK9;exact rfl;exact rfl;(first|exact cL.p|exact cL.g rfl rfl rfl))
  |(apply aLd;exact rfl;exact rfl;(first|exact cL.p|exact cL.g rfl rfl rfl);(with_reducible assumption))
  |(apply aLr;exact rfl;exact rfl;(first|exact cL.p|exact cL.g rfl rfl rfl))
  |(apply aLl;exact rfl;exact rfl;(first|exact cL.p|exact cL.g rfl rfl rfl))
  |(apply aLs;exact rfl;exact rfl;(first|exact cL.p|exact cL.g rfl rfl rfl))
  |(apply aLM;exact rfl;exact rfl;(first|exact cL.p|exact cL.g rfl rfl rfl))
  |(apply aK6;exact rfl;exact rfl;(first|exact cL.p|exact cL.g rfl rfl rfl))
  |(apply aM5;exact rfl;exact rfl;exact rfl;(first|exact cL.p|exact cL.g rfl rfl rfl))
  |(apply aOf;exact rfl;exact rfl;exact rfl;(first|exact cL.p|exact cL.g rfl rfl rfl))
  |(apply aNP;exact rfl;exact rfl;exact inferInstance;exact rfl;(first|exact cL.p|exact cL.g rfl rfl rfl);(with_reducible assumption))
  |(apply aNK;exact rfl;exact rfl;exact inferInstance;exact rfl;(first|exact cL.p|exact cL.g rfl rfl rfl);(with_reducible assumption))
  |(apply aLg;exact rfl;exact rfl;exact rfl;exact inferInstance;exact rfl;(first|exact cL.p|exact cL.g rfl rfl rfl);(with_reducible assumption))
  |(apply aM2;exact rfl;exact rfl;exact rfl;(first|exact cL.p|exact cL.g rfl rfl rfl))
  |(apply aN8;exact rfl;exact rfl;exact rfl;(first|exact cL.p|exact cL.g rfl rfl rfl))
  |(apply aNf;exact rfl;exact rfl;(first|exact cL.p|exact cL.g rfl rfl rfl))
  |(apply aLv;exact rfl;exact rfl;(first|exact cL.p|exact cL.g rfl rfl rfl))
  |(apply aLN;exact rfl;exact rfl;(first|exact cL.p|exact cL.g rfl rfl rfl))
  |(apply aJg;exact rfl;exact rfl;(first|exact cL.p|exact cL.g rfl rfl rfl);assumption)
  |(apply aNS;exact rfl;exact rfl;exact inferInstance;(repeat (first|exact vB.a rfl|apply vB.b));exact trivial;exact rfl;exact rfl)
  |(apply aNF;exact rfl;exact rfl;exact inferInstance;(repeat (first|exact vB.a rfl|apply vB.b));exact trivial;exact rfl;exact rfl)
  |(apply aHc;exact rfl;exact rfl;(repeat (first|exact fE.a rfl|apply fE.b));exact rfl;(with_reducible assumption);(with_reducible assumption);exact ty1s;(repeat (first|exact vB.a rfl|apply vB.b));exact trivial;exact rfl;exact rfl)
  |(apply aHc;exact rfl;exact rfl;(repeat (first|exact fE.a rfl|apply fE.b));exact rfl;(with_reducible assumption);(with_reducible assumption);exact tyAs;(repeat (first|exact vB.a rfl|apply vB.b));exact trivial;exact rfl;exact rfl)
  |(apply b_u;exact rfl;exact rfl;exact rfl;exact rfl)
  |(apply aIx)
  |(apply aIZ)
  |(apply aG7)
  |(apply aHA)
  |(apply aKQ))
 first
  |exact eL
  |exact eC
  |exact eX):P:=h.h k
theorem rv_1 {t T off:Nat} {β:Option Nat} {e:HA} {q:CP} {rs:List ResultVar} {ps:List VP} (h:f0 E t=some (.vc (pP β off))) (ht:Ty1 S.P T) (hi:fE H β e) (hq:qC 1 (e.ps.drop off)=some [q]) (kk:RVs S H E rs ps):RVs S H E (.cell t T::rs) (.vc q::ps):=by
 obtain⟨i,h1,h2⟩:=hi.at
 exact tR i 1 h h1 h2 hq (.one ht) kk
theorem rv_A {t T off k:Nat} {β:Option Nat} {e:HA} {qs:List CP} {rs:List ResultVar} {ps:List VP} (h:f0 E t=some (.vc (pP β off))) (ht:TyA S.P T k) (hi:fE H β e) (hq:qC k (e.ps.drop off)=some qs) (kk:RVs S H E rs ps):RVs S H E (.cell t T::rs) (.va qs::ps):=by
 obtain⟨i,h1,h2⟩:=hi.at
 exact tR i k h h1 h2 hq (.agg ht (t9 hq)) kk
theorem aOe {P:Program} {fn:Func} {w0:World} {M0:gD} {B:List Nat} {post:VP} {N:NX} {rs:List ResultVar} {ps:List VP} (hk:κ.to .ret=(.ret,.base (aCu P fn (Rp P w0 M0 B (fun Ho q=>Ho=[]∧q=post))))) (hrs:fn.results=rs.toArray) (hv:RVs ⟨P,w0,M0,B,N⟩ H E rs ps) (hl:Nat.ble ps.length 4=true) (hpost:aGh ps=post) (hfr:∀D,N.fr D→w0.heap.size≤D∧M0 D=none):GC ⟨P,w0,M0,B,N⟩ .ret κ H E Q:=
 ⟨fun _=>gL (gN (by rw [hk];exact kX (.inl rfl) hrs hv hl hpost hfr))⟩
theorem bV {P:Prop} (h:D P True:=by
 first
  |with_reducible refine sL ?_
  |with_reducible refine sC ?_
  |with_reducible refine sX ?_
 repeat (first
  |(apply aLp)
  |(apply aIg)
  |(apply aLj)
  |(apply aKT)
  |(apply aNr;exact rfl;exact rfl;(first|exact cL.p|exact cL.g rfl rfl rfl))
  |(apply aNa;exact rfl;exact rfl;(first|exact cL.p|exact cL.g rfl rfl rfl))
  |(apply b_n;exact rfl;exact rfl;exact rfl;exact rfl;exact rfl)
  |(apply aMZ;exact rfl;exact rfl;exact inferInstance;exact rfl;(first|exact cL.p|exact cL.g rfl rfl rfl);(with_reducible assumption))
  |(apply aK0;exact rfl;exact inferInstance;exact rfl;(first|exact cL.p|exact cL.g rfl rfl rfl))
  |(apply aN9;exact rfl;exact inferInstance;exact rfl;(first|exact cL.p|exact cL.g rfl rfl rfl))
  |(apply aLt;exact rfl;exact inferInstance;exact rfl;(first|exact cL.p|exact cL.g rfl rfl rfl))
  |(apply aLu;exact rfl;exact inferInstance;exact rfl;exact rfl;(first|exact cL.p|exact cL.g rfl rfl rfl))
  |(apply aKR;exact rfl;exact inferInstance;exact rfl;exact rfl;(first|exact cL.p|exact cL.g rfl rfl rfl))
  |(apply aM4;exact rfl;exact inferInstance;(repeat (first|exact fE.a rfl|apply fE.b));exact rfl;exact rfl;(first|exact cL.p|exact cL.g rfl rfl rfl))
  |(apply aN0;exact rfl;exact inferInstance;(repeat (first|exact fE.a rfl|apply fE.b));exact rfl;exact rfl;(first|exact cL.p|exact cL.g rfl rfl rfl))
  |(apply aK8;exact rfl;exact rfl;(repeat (first|exact fE.a rfl|apply fE.b));(first|exact rfl|with_reducible assumption|exact bH (by with_reducible assumption) (by first|with_reducible assumption|exact rfl));exact inferInstance;exact rfl;(first|exact cL.p|exact cL.g rfl rfl rfl);(with_reducible assumption))
  |(apply aLn;exact rfl;(repeat (first|exact fE.a rfl|apply fE.b));(first|exact rfl|with_reducible assumption|exact bH (by with_reducible assumption) (by first|with_reducible assumption|exact rfl));exact inferInstance;exact rfl;(first|exact cL.p|exact cL.g rfl rfl rfl))
  |(apply aIv;exact rfl;(repeat (first|exact fE.a rfl|apply fE.b));exact rfl;(with_reducible assumption);exact inferInstance;exact rfl;exact rfl;exact rfl;(first|exact cL.p|exact cL.g rfl rfl rfl))
  |(apply aJi;exact rfl;(repeat (first|exact fE.a rfl|apply fE.b));exact rfl;(with_reducible assumption);exact inferInstance;exact rfl;exact rfl;exact rfl;(first|exact cL.p|exact cL.g rfl rfl rfl))
  |(apply aNU;exact rfl;exact inferInstance;exact rfl;(first|exact cL.p|exact cL.g rfl rfl rfl))
  |(apply aNI;exact rfl;exact rfl;exact rfl;(first|exact cL.p|exact cL.g rfl rfl rfl))
  |(apply aN3;exact rfl;exact rfl;exact rfl;(first|exact cL.p|exact cL.g rfl rfl rfl))
  |(apply aNL;exact rfl;exact rfl;exact rfl;(first|exact cL.p|exact cL.g rfl rfl rfl))
  |(apply aOb;exact rfl;exact rfl;exact rfl;(first|exact cL.p|exact cL.g rfl rfl rfl))
  |(apply aMX;exact rfl;exact rfl;exact rfl;(first|exact cL.p|exact cL.g rfl rfl rfl))
  |(apply aM6;exact rfl;exact rfl;exact rfl;(first|exact cL.p|exact cL.g rfl rfl rfl))
  |(apply aLH;exact rfl;exact rfl;exact rfl;(first|exact cL.p|exact cL.g rfl rfl rfl);(with_reducible assumption))
  |(apply aLy;exact rfl;exact rfl;exact rfl;(first|exact cL.p|exact cL.g rfl rfl rfl);(with_reducible assumption))
  |(apply aLF;exact rfl;exact rfl;exact rfl;(first|exact cL.p|exact cL.g rfl rfl rfl);(with_reducible assumption))
  |(apply aLm;exact rfl;exact rfl;exact rfl;(first|exact cL.p|exact cL.g rfl rfl rfl);(with_reducible assumption))
  |(apply aKP;exact rfl;exact rfl;exact rfl;(first|exact cL.p|exact cL.g rfl rfl rfl);(with_reducible assumption))
  |(apply aK9;exact rfl;exact rfl;(first|exact cL.p|exact cL.g rfl rfl rfl))
  |(apply aLd;exact rfl;exact rfl;(first|exact cL.p|exact cL.g rfl rfl rfl);(with_reducible assumption))
  |(apply aLr;exact rfl;exact rfl;(first|exact cL.p|exact cL.g rfl rfl rfl))
  |(apply aLl;exact rfl;exact rfl;(first|exact cL.p|exact cL.g rfl rfl rfl))
  |(apply aLs;exact rfl;exact rfl;(first|exact cL.p|exact cL.g rfl rfl rfl))
  |(apply aLM;exact rfl;exact rfl;(first|exact cL.p|exact cL.g rfl rfl rfl))
  |(apply aK6;exact rfl;exact rfl;(first|exact cL.p|exact cL.g rfl rfl rfl))
  |(apply aM5;exact rfl;exact rfl;exact rfl;(first|exact cL.p|exact cL.g rfl rfl rfl))
  |(apply aOf;exact rfl;exact rfl;exact rfl;(first|exact cL.p|exact cL.g rfl rfl rfl))
  |(apply aNP;exact rfl;exact rfl;exact inferInstance;exact rfl;(first|exact cL.p|exact cL.g rfl rfl rfl);(with_reducible assumption))
  |(apply aNK;exact rfl;exact rfl;exact inferInstance;exact rfl;(first|exact cL.p|exact cL.g rfl rfl rfl);(with_reducible assumption))
  |(apply aLg;exact rfl;exact rfl;exact rfl;exact inferInstance;exact rfl;(first|exact cL.p|exact cL.g rfl rfl rfl);(with_reducible assumption))
  |(apply aM2;exact rfl;exact rfl;exact rfl;(first|exact cL.p|exact cL.g rfl rfl rfl))
  |(apply aN8;exact rfl;exact rfl;exact rfl;(first|exact cL.p|exact cL.g rfl rfl rfl))
  |(apply aNf;exact rfl;exact rfl;(first|exact cL.p|exact cL.g rfl rfl rfl))
  |(apply aLv;exact rfl;exact rfl;(first|exact cL.p|exact cL.g rfl rfl rfl))
  |(apply aLN;exact rfl;exact rfl;(first|exact cL.p|exact cL.g rfl rfl rfl))
  |(apply aJg;exact rfl;exact rfl;(first|exact cL.p|exact cL.g rfl rfl rfl);assumption)
  |(apply aNS;exact rfl;exact rfl;exact inferInstance;(repeat (first|exact vB.a rfl|apply vB.b));exact trivial;exact rfl;exact rfl)
  |(apply aNF;exact rfl;exact rfl;exact inferInstance;(repeat (first|exact vB.a rfl|apply vB.b));exact trivial;exact rfl;exact rfl)
  |(apply aHc;exact rfl;exact rfl;(repeat (first|exact fE.a rfl|apply fE.b));exact rfl;(with_reducible assumption);(with_reducible assumption);exact ty1s;(repeat (first|exact vB.a rfl|apply vB.b));exact trivial;exact rfl;exact rfl)
  |(apply aHc;exact rfl;exact rfl;(repeat (first|exact fE.a rfl|apply fE.b));exact rfl;(with_reducible assumption);(with_reducible assumption);exact tyAs;(repeat (first|exact vB.a rfl|apply vB.b));exact trivial;exact rfl;exact rfl)
  |(apply b_u;exact rfl;exact rfl;exact rfl;exact rfl)
  |(apply aIx)
  |(apply aIZ)
  |(apply aG7)
  |(apply aHA)
  |(apply aKQ))
 repeat (cases(by with_reducible assumption:some _=some _))
 apply aOe
 ·exact rfl
 ·exact rfl
 ·repeat (first
   |exact RVs.nil
   |(apply RVs.tmp;exact rfl)
   |(apply rv_A;exact rfl;exact inferInstance;(repeat (first|exact fE.a rfl|apply fE.b));exact rfl)
   |(apply rv_1;exact rfl;exact inferInstance;(repeat (first|exact fE.a rfl|apply fE.b));exact rfl))
 ·exact rfl
 ·exact rfl
 ·exact fun _ h=>h):P:=h.h trivial
theorem jY {E':nZ} (l:List Nat) {a:Act} {w:World} (h:hs S H E a w) (hp:cR H l=some H':=by exact rfl) (hl:l.Nodup:=by decide) (hE:aCd E E':=by repeat (first|exact trivial|refine⟨rfl,?_⟩)):hs S H' E' a w:=uH l hp hl hE h
theorem rD {PJ:List HA→nZ→Prop} {E':nZ} (J:∀H E,PJ H E→WX S .normal κ H E) (h:PJ H' E') (l:List Nat) (hp:cR H l=some H':=by exact rfl) (hE:aCd E E':=by repeat (first|exact trivial|refine⟨rfl,?_⟩)) (hl:l.Nodup:=by decide):WX S .normal κ H E:=aA9 J h l hp hE hl
theorem aD {α:Type} {A B:Option α} {r:α} {t:Nat} {b:Bool} {x y:Code} (hF:(bif b then A else B)=some r) (ht:f0 E t=some (.vc (pB b))) (hx:b=true→A=some r→WC S x κ H E) (hy:b=false→B=some r→WC S y κ H E):WC S (.cond (.tmp t) x y) κ H E:=
 aC8 ht (fun h=>hx h (rA h hF)) (fun h=>hy h (pD h hF))
theorem dG {α:Type} {A B:Option α} {r:α} {d:Nat} {c:Bool} (hF:(bif c then A else B)=some r) (ht:c=true→A=some r→WL S ops κ rest H ((d,.vc (pB true))::E)) (hf:c=false→B=some r→WL S ops κ rest H ((d,.vc (pB false))::E)):WL S ops κ rest H ((d,.vc (pB c))::E):=
 aGf (fun h=>ht h (rA h hF)) (fun h=>hf h (pD h hF))
end
end Go.Proofs.YtolfcbpgmfbgmaaGreat
set_option linter.unusedVariables false
set_option maxRecDepth 100000
namespace Go.Proofs.YtolfcbpgmfbgmaaGreat
theorem bB:Tryz.prog.follows .mixedOrders=true:=by kernel_rfl
instance Tryz_mix:Mix Tryz.prog:=⟨bB⟩
instance tyA40:TyA Tryz.prog 40 2:=mkA Tryz.underlying40 rfl (by kernel_rfl)
theorem tyB40:TyB Tryz.prog 40 [(0,1),(1,1)] ([pB false]++[pS cI ([]:List Int)]):=mkB (z:=.agg #[.bool false,.slice none 0 0]) (by kernel_rfl) Tryz.underlying40 (by kernel_rfl) (fun M=>bA.app (show bA M [pB false] [.bool false] from zU1) (show bA M [pS cI ([]:List Int)] [.slice none 0 0] from⟨gM cI M,trivial⟩))
instance tyF40_0:TyF Tryz.prog 40 0 0:=mkF (ft:=4) (k:=0) Tryz.underlying40 rfl rfl rfl (by kernel_rfl)
instance tyF40_1:TyF Tryz.prog 40 1 1:=mkF (ft:=22) (k:=0) Tryz.underlying40 rfl rfl rfl (by kernel_rfl)
instance tyO22:Ty1 Tryz.prog 22:=mk1 Tryz.underlying22 rfl (by kernel_rfl)
instance tyO3:Ty1 Tryz.prog 3:=mk1 Tryz.underlying3 rfl (by kernel_rfl)
instance tyO4:Ty1 Tryz.prog 4:=mk1 Tryz.underlying4 rfl (by kernel_rfl)
instance tyS22:TyS Tryz.prog 22 3 1 8:=mkS (z:=.int .i64 0) (k:=0) Tryz.underlying22 (by kernel_rfl) rfl
instance tyZ3:TyZ Tryz.prog 3 [pI .i64 0]:=mkZ (z:=.int .i64 0) (k:=1) (by kernel_rfl) rfl (fun M=>show bA M [pI .i64 0] [.int .i64 0] from zU1)
instance tyZ40:TyZ Tryz.prog 40 ([pB false]++[pS cI ([]:List Int)]):=mkZ (z:=.agg #[.bool false,.slice none 0 0]) (k:=2) (by kernel_rfl) rfl (fun M=>bA.app (show bA M [pB false] [.bool false] from zU1) (show bA M [pS cI ([]:List Int)] [.slice none 0 0] from⟨gM cI M,trivial⟩))
def l9 (K:Nat) (a0:Bool) (a1:List Int) (x4:Int):Option aA:=
 bif(x4==0) then(some (⟨false,([]:List Int)⟩:aA)) else((slL a1 0 x4).bind fun x8=>some (⟨a0,x8⟩:aA))
def d9 (K:Nat) (a1:List Int):Nat→Int→Option Int
 |0,_=>none
 |k+1,x3=>bif(decide (0<x3)) then((aO (x3-1)).bind fun v11=>(bP a1 (max v11 0)).bind fun v13=>bif(v13==0) then((aO (x3-1)).bind fun v16=>d9 K a1 k v16) else(some x3)) else(some x3)
def aT (K:Nat) (a0:Bool) (a1:List Int):Option aA:=
 (d9 K a1 K (a1.length:Int)).bind fun x4=>l9 K a0 a1 x4
theorem bC {K:Nat} {a0:Bool} {a1:List Int} {r:aA} (hF:aT K a0 a1=some r):Ct Tryz.prog 94 [.vc (pB a0),.vc (pS cI a1)] (.va (aA.e r)):=by
 unfold aT at hF
 refine aB Tryz.func94 rfl (by kernel_rfl) Tryz.ntmps94 rfl (fun w0 M0=>?_)
 refine aC (aJ (aE rfl tyZ40 (fun b1=>?_)))
 refine go ?_ ?_
 refine aK (bE (fun H E=>∃(x4:Int),l9 K a0 a1 x4=some r∧H=[⟨some b1,1,40,2,1,([pB false]++[pS cI ([]:List Int)])⟩]∧E=[(0,.vc (pB a0)),(1,.vc (pS cI a1)),(4,.vc (pP (some b1) 0)),(5,.vc (pI .i64 x4))]) ?_ (fun Jj6=>?_))
 ·rintro _ _ ⟨x4,hF,rfl,rfl⟩
  unfold l9 at hF
  refine go ?_ ?_
  refine aD hF rfl (fun h7 hF=>?_) (fun h7 hF=>?_)
  ·refine aC (aJ (aF (fK (is:=[]) (xs:=[]) (ps:=[]) rfl tyB40 rfl rfl trivial rfl) trivial ?_))
   exact bV
  obtain⟨x8,h9,hF⟩:=aR hF
  refine go ?_ ?_
  refine aF (fK (is:=[0,1]) (xs:=[.tmp 24,.tmp 27]) (ps:=[.vc (pB a0),.vc (pS cI x8)]) rfl tyB40 rfl rfl ⟨trivial,trivial,trivial⟩ rfl) zU2 ?_
  exact bV
 obtain⟨x4',hL,hRl5⟩:=aR hF
 refine fO (fun k a w=>∃(x3:Int),d9 K a1 k x3=some x4'∧hs _ [⟨some b1,1,40,2,1,([pB false]++[pS cI ([]:List Int)])⟩] [(0,.vc (pB a0)),(1,.vc (pS cI a1)),(4,.vc (pP (some b1) 0)),(5,.vc (pI .i64 x3))] a w) K (fun a w ⟨_,hF,_⟩=>by cases hF) (fun k a w ⟨x3,hF,hh⟩=>fN ?_ hh) (fun a w hh=>⟨(a1.length:Int),hL,jY [0] hh⟩)
 rw [d9.eq_2] at hF
 refine go ?_ ?_
 refine dG hF (fun h10 hF=>?_) (fun h10 hF=>?_)
 ·obtain⟨v11,h12,v13,h14,hF⟩:=sS hF
  refine go ?_ ?_
  refine aD hF rfl (fun h15 hF=>?_) (fun h15 hF=>?_)
  ·refine f7 (aH (aK ?_))
   have hF:=sR h12 hF
   refine go ?_ ?_
   exact aG (fun a w hh=>⟨v11,hF,jY [0] hh⟩)
  refine bO ?_
  obtain rfl:=jN hF
  exact rD Jj6 ⟨x3,hRl5,rfl,rfl⟩ [0]
 refine go ?_ ?_
 refine tT rfl ?_
 refine bO ?_
 obtain rfl:=jN hF
 exact rD Jj6 ⟨x3,hRl5,rfl,rfl⟩ [0]
def nM (K:Nat) (a0:aA) (a1:aA) (x25:List Int):Option aA:=
 (aT K (a0.neg != a1.neg) x25).bind fun v33=>some v33
def nO (K:Nat) (a1:aA) (x24:Int) (recl31:(List Int)→Int→Option (List Int)) (x52:List Int) (x58:Int):Option (List Int):=
 (aO (x24+(a1.d.length:Int))).bind fun v61=>(bP x52 v61).bind fun v63=>(oK x52 v61 x58).bind fun x65=>(aO (x24+1)).bind fun v68=>recl31 x65 v68
def eZ (K:Nat) (a0:aA) (a1:aA) (x24:Int):Nat→(List Int)→Int→Int→Option ((List Int)×Int)
 |0,_,_,_=>none
 |k+1,x44,x50,x51=>bif(decide (x51<(a1.d.length:Int))) then((aO (x24+x51)).bind fun v73=>(bP x44 v73).bind fun v75=>(bP a0.d x24).bind fun v77=>(bP a1.d x51).bind fun v79=>(aO (v77*v79)).bind fun v81=>(aO (v75+v81)).bind fun v83=>(aO (v83+x50)).bind fun v85=>(aO (x24+x51)).bind fun v87=>(wV v85 1000000000).bind fun v89=>(bP x44 v87).bind fun v91=>(oK x44 v87 v89).bind fun x93=>(xP v85 1000000000).bind fun v96=>(aO (x51+1)).bind fun v98=>eZ K a0 a1 x24 k x93 v96 v98) else(some (x44,x50))
def eY (K:Nat) (a0:aA) (a1:aA):Nat→(List Int)→Int→Option (List Int)
 |0,_,_=>none
 |k+1,x18,x24=>bif(decide (x24<(a0.d.length:Int))) then((eZ K a0 a1 x24 K x18 0 0).bind fun(x52,x58)=>nO K a1 x24 (eY K a0 a1 k) x52 x58) else(some x18)
def fJ (K:Nat) (a0:aA) (a1:aA):Option aA:=
 (aO ((a0.d.length:Int)+(a1.d.length:Int))).bind fun v4=>(wK v4 0).bind fun x6=>(eY K a0 a1 K x6 0).bind fun x25=>nM K a0 a1 x25
theorem lI {K:Nat} {a0:aA} {a1:aA} {r:aA} (hF:fJ K a0 a1=some r):Ct Tryz.prog 58 [.va (aA.e a0),.va (aA.e a1)] (.va (aA.e r)):=by
 unfold fJ at hF
 refine aB Tryz.func58 rfl (by kernel_rfl) Tryz.ntmps58 rfl (fun w0 M0=>?_)
 refine aC (aJ (dE rfl rfl trivial (fun b1=>?_)))
 refine dE rfl rfl trivial (fun b2=>?_)
 refine aE rfl tyZ40 (fun b3=>?_)
 obtain⟨v4,h5,x6,h7,hF⟩:=sS hF
 refine go ?_ ?_
 refine o8 (C:=cI) rfl tyS22 rfl tyZ3 rfl h7 (fun b8=>?_)
 refine go ?_ ?_
 refine aK (bE (fun H E=>∃(x25:List Int),nM K a0 a1 x25=some r∧x25.length=x6.length∧H=[hO cI b8 x6.length 3 x6.length x25,⟨some b3,1,40,2,1,([pB false]++[pS cI ([]:List Int)])⟩,⟨some b2,1,40,2,1,(aA.e a1)⟩,⟨some b1,1,40,2,1,(aA.e a0)⟩]∧E=[(2,.vc (pP (some b1) 0)),(3,.vc (pP (some b2) 0)),(4,.vc (pP (some b3) 0)),(5,.vc (pO b8 x6.length x6.length))]) ?_ (fun Jj32=>?_))
 ·rintro _ _ ⟨x25,hF,q29,rfl,rfl⟩
  unfold nM at hF
  refine go ?_ ?_
  refine aF (zF rfl Tryz.underlying4) zU2 ?_
  refine gF ?_
  refine xC 0 [5,74] rfl q29 zU2 rfl ?_
  obtain⟨v33,h34,hF⟩:=aZ hF bC
  exact bV
 obtain⟨x25',hL,hRl31⟩:=aR hF
 refine fO (fun k a w=>∃(x18:List Int),∃(x24:Int),eY K a0 a1 k x18 x24=some x25'∧x18.length=x6.length∧hs _ [hO cI b8 x6.length 3 x6.length x18,⟨some b3,1,40,2,1,([pB false]++[pS cI ([]:List Int)])⟩,⟨some b2,1,40,2,1,(aA.e a1)⟩,⟨some b1,1,40,2,1,(aA.e a0)⟩] [(2,.vc (pP (some b1) 0)),(3,.vc (pP (some b2) 0)),(4,.vc (pP (some b3) 0)),(5,.vc (pO b8 x6.length x6.length)),(6,.vc (pI .i64 x24))] a w) K (fun a w ⟨_,_,hF,_,_⟩=>by cases hF) (fun k a w ⟨x18,x24,hF,q22,hh⟩=>fN ?_ hh) (fun a w hh=>⟨x6,0,hL,rfl,jY [0,1,2,3] hh⟩)
 rw [eY.eq_2] at hF
 refine go ?_ ?_
 refine aD hF rfl (fun h35 hF=>?_) (fun h35 hF=>?_)
 ·refine go ?_ ?_
  refine aK (go ?_ ?_)
  refine aK (bE (fun H E=>∃(x52:List Int),∃(x58:Int),nO K a1 x24 (eY K a0 a1 k) x52 x58=some x25'∧x52.length=x6.length∧H=[hO cI b8 x6.length 3 x6.length x52,⟨some b3,1,40,2,1,([pB false]++[pS cI ([]:List Int)])⟩,⟨some b2,1,40,2,1,(aA.e a1)⟩,⟨some b1,1,40,2,1,(aA.e a0)⟩]∧E=[(2,.vc (pP (some b1) 0)),(3,.vc (pP (some b2) 0)),(4,.vc (pP (some b3) 0)),(5,.vc (pO b8 x6.length x6.length)),(6,.vc (pI .i64 x24)),(7,.vc (pI .i64 x58))]) ?_ (fun Jj60=>?_))
  ·rintro _ _ ⟨x52,x58,hF,q56,rfl,rfl⟩
   unfold nO at hF
   obtain⟨v61,h62,v63,h64,x65,h66,v68,h69,hF⟩:=bn4 hF
   refine go ?_ ?_
   exact aG (fun a w hh=>⟨x65,v68,hF,(bH h66 q56),jY [0,1,2,3] hh⟩)
  obtain⟨⟨x52',x58'⟩,hL,hRl59⟩:=aR hF
  refine fO (fun k a w=>∃(x44:List Int),∃(x50:Int),∃(x51:Int),eZ K a0 a1 x24 k x44 x50 x51=some (x52',x58')∧x44.length=x6.length∧hs _ [hO cI b8 x6.length 3 x6.length x44,⟨some b3,1,40,2,1,([pB false]++[pS cI ([]:List Int)])⟩,⟨some b2,1,40,2,1,(aA.e a1)⟩,⟨some b1,1,40,2,1,(aA.e a0)⟩] [(2,.vc (pP (some b1) 0)),(3,.vc (pP (some b2) 0)),(4,.vc (pP (some b3) 0)),(5,.vc (pO b8 x6.length x6.length)),(6,.vc (pI .i64 x24)),(7,.vc (pI .i64 x50)),(8,.vc (pI .i64 x51))] a w) K (fun a w ⟨_,_,_,hF,_,_⟩=>by cases hF) (fun k a w ⟨x44,x50,x51,hF,q48,hh⟩=>fN ?_ hh) (fun a w hh=>⟨x18,0,0,hL,q22,jY [0,1,2,3] hh⟩)
  rw [eZ.eq_2] at hF
  refine go ?_ ?_
  refine aD hF rfl (fun h70 hF=>?_) (fun h70 hF=>?_)
  ·refine go ?_ ?_
   refine aK (aC ?_)
   obtain⟨v73,h74,hF⟩:=aR hF
   obtain⟨v75,h76,hF⟩:=aR hF
   obtain⟨v77,h78,hF⟩:=aR hF
   obtain⟨v79,h80,hF⟩:=aR hF
   obtain⟨v81,h82,hF⟩:=aR hF
   obtain⟨v83,h84,hF⟩:=aR hF
   obtain⟨v85,h86,hF⟩:=aR hF
   refine dr [0,0,0,6,15,31,0,64,0,448,960,0,2048,0,14336,30720,65472,131071,0,524287,1048575] 21 0 ?_ (fun bs72 G71=>?_)
   have hF:=sR h74 hF
   obtain⟨v89,h90,hF⟩:=aR hF
   have hF:=sR h76 hF
   obtain⟨x93,h94,v96,h97,v98,h99,hF⟩:=bn3 hF
   refine go ?_ ?_
   exact aG (fun a w hh=>⟨x93,v96,v98,hF,(bH h94 q48),jY [0,1,2,3] hh⟩)
  refine bO ?_
  obtain⟨rfl,rfl⟩:=sm2 hF
  exact rD Jj60 ⟨x44,x50,hRl59,q48,rfl,rfl⟩ [0,1,2,3]
 refine bO ?_
 obtain rfl:=jN hF
 exact rD Jj32 ⟨x18,hRl31,q22,rfl,rfl⟩ [0,1,2,3]
def cD (a0:List Int) (a1:Int):Option Int:=
 bif(decide (a1<(a0.length:Int))) then((bP a0 a1).bind fun v2=>some v2) else(some 0)
theorem eJ {a0:List Int} {a1:Int} {r:Int} (hF:cD a0 a1=some r):Ct Tryz.prog 140 [.vc (pS cI a0),.vc (pI .i64 a1)] (.vc (pI .i64 r)):=by
 unfold cD at hF
 refine aB Tryz.func140 rfl (by kernel_rfl) Tryz.ntmps140 rfl (fun w0 M0=>?_)
 refine go ?_ ?_
 refine aD hF rfl (fun h1 hF=>?_) (fun h1 hF=>?_)
 ·obtain⟨v2,h3,hF⟩:=aR hF
  exact bV
 exact bV
def mX (K:Nat) (x19:List Int):Option (List Int):=
 some x19
def bM (K:Nat) (a0:List Int) (a1:List Int):Nat→(List Int)→Int→Int→Option (List Int)
 |0,_,_,_=>none
 |k+1,x11,x17,x18=>bif(decide (x18<(a0.length:Int))) then((cD a0 x18).bind fun v28=>(cD a1 x18).bind fun v30=>(aO (v28+v30)).bind fun v32=>(aO (v32+x17)).bind fun v34=>(wV v34 1000000000).bind fun v36=>(sK x11 [v36]).bind fun x38=>(xP v34 1000000000).bind fun v45=>(aO (x18+1)).bind fun v47=>bM K a0 a1 k x38 v45 v47) else(bif(decide (x18<(a1.length:Int))) then((cD a0 x18).bind fun v50=>(cD a1 x18).bind fun v52=>(aO (v50+v52)).bind fun v54=>(aO (v54+x17)).bind fun v56=>(wV v56 1000000000).bind fun v58=>(sK x11 [v58]).bind fun x60=>(xP v56 1000000000).bind fun v67=>(aO (x18+1)).bind fun v69=>bM K a0 a1 k x60 v67 v69) else(bif(decide (0<x17)) then((cD a0 x18).bind fun v72=>(cD a1 x18).bind fun v74=>(aO (v72+v74)).bind fun v76=>(aO (v76+x17)).bind fun v78=>(wV v78 1000000000).bind fun v80=>(sK x11 [v80]).bind fun x82=>(xP v78 1000000000).bind fun v89=>(aO (x18+1)).bind fun v91=>bM K a0 a1 k x82 v89 v91) else(some x11)))
def nL (K:Nat) (a0:List Int) (a1:List Int):Option (List Int):=
 (bM K a0 a1 K ([]:List Int) 0 0).bind fun x19=>mX K x19
theorem aAf {K:Nat} {a0:List Int} {a1:List Int} {r:List Int} (hF:nL K a0 a1=some r):Ct Tryz.prog 98 [.vc (pS cI a0),.vc (pS cI a1)] (.vc (pS cI r)):=by
 unfold nL at hF
 refine aB Tryz.func98 rfl (by kernel_rfl) Tryz.ntmps98 rfl (fun w0 M0=>?_)
 refine aC (aJ (aF (aP (.inr rfl)) ⟨gM cI,trivial⟩ ?_))
 refine aV (aH (aC (aJ (sV cI 3 rfl ?_))))
 refine go ?_ ?_
 refine aK (bE (fun H E=>∃(x19:List Int),∃(b20:Option Nat),∃(c21:Nat),∃(n22:Nat),mX K x19=some r∧x19.length=n22∧H=[hO cI b20 c21 3 n22 x19]∧E=[(5,.vc (pO b20 n22 c21))]) ?_ (fun Jj26=>?_))
 ·rintro _ _ ⟨x19,b20,c21,n22,hF,q23,rfl,rfl⟩
  unfold mX at hF
  refine go ?_ ?_
  refine gL (gN (sF 0 [4,5,41] rfl q23 ⟨rfl,rfl,rfl,trivial⟩ rfl ?_))
  obtain rfl:=jN hF
  exact kX (.inl rfl) Tryz.results98 (.tmp rfl .nil) rfl rfl
 obtain⟨x19',hL,hRl25⟩:=aR hF
 refine fO (fun k a w=>∃(x11:List Int),∃(x17:Int),∃(x18:Int),∃(b12:Option Nat),∃(c13:Nat),∃(n14:Nat),bM K a0 a1 k x11 x17 x18=some x19'∧x11.length=n14∧hs _ [hO cI b12 c13 3 n14 x11] [(0,.vc (pS cI a0)),(1,.vc (pS cI a1)),(5,.vc (pO b12 n14 c13)),(6,.vc (pI .i64 x17)),(7,.vc (pI .i64 x18))] a w) K (fun a w ⟨_,_,_,_,_,_,hF,_,_⟩=>by cases hF) (fun k a w ⟨x11,x17,x18,b12,c13,n14,hF,q15,hh⟩=>fN ?_ hh) (fun a w hh=>⟨([]:List Int),0,0,none,0,0,hL,rfl,jY [0] hh⟩)
 rw [bM.eq_2] at hF
 refine go ?_ ?_
 refine dG hF (fun h27 hF=>?_) (fun h27 hF=>?_)
 ·refine go ?_ ?_
  refine iR rfl ?_
  refine go ?_ ?_
  refine aK ?_
  obtain⟨v28,h29,hF⟩:=aZ hF eJ
  obtain⟨v30,h31,hF⟩:=aZ hF eJ
  obtain⟨v32,h33,v34,h35,v36,h37,hF⟩:=bn3 hF
  refine go ?_ ?_
  refine aF (gO (C:=cI) (xs:=[.tmp 36]) (ps:=[.vc (pI .i64 v36)]) (zs:=[v36]) rfl tyS22 rfl ⟨⟨trivial,rfl⟩,trivial⟩ rfl) zU1 ?_
  obtain⟨x38,h39,hF⟩:=aR hF
  refine o9 0 rfl tyS22 rfl rfl q15 rfl rfl h39 (fun b40 c41 H42 e43=>?_)
  cases e43
  obtain⟨v45,h46,v47,h48,hF⟩:=sS hF
  refine go ?_ ?_
  exact aG (fun a w hh=>⟨x38,v45,v47,b40,c41,(n14+[v36].length),hF,(fI h39 q15),jY [0] hh⟩)
 refine go ?_ ?_
 refine dG hF (fun h49 hF=>?_) (fun h49 hF=>?_)
 ·refine go ?_ ?_
  refine iR rfl ?_
  refine go ?_ ?_
  refine aK ?_
  obtain⟨v50,h51,hF⟩:=aZ hF eJ
  obtain⟨v52,h53,hF⟩:=aZ hF eJ
  obtain⟨v54,h55,v56,h57,v58,h59,hF⟩:=bn3 hF
  refine go ?_ ?_
  refine aF (gO (C:=cI) (xs:=[.tmp 36]) (ps:=[.vc (pI .i64 v58)]) (zs:=[v58]) rfl tyS22 rfl ⟨⟨trivial,rfl⟩,trivial⟩ rfl) zU1 ?_
  obtain⟨x60,h61,hF⟩:=aR hF
  refine o9 0 rfl tyS22 rfl rfl q15 rfl rfl h61 (fun b62 c63 H64 e65=>?_)
  cases e65
  obtain⟨v67,h68,v69,h70,hF⟩:=sS hF
  refine go ?_ ?_
  exact aG (fun a w hh=>⟨x60,v67,v69,b62,c63,(n14+[v58].length),hF,(fI h61 q15),jY [0] hh⟩)
 refine go ?_ ?_
 refine aD hF rfl (fun h71 hF=>?_) (fun h71 hF=>?_)
 ·refine go ?_ ?_
  refine aK ?_
  obtain⟨v72,h73,hF⟩:=aZ hF eJ
  obtain⟨v74,h75,hF⟩:=aZ hF eJ
  obtain⟨v76,h77,v78,h79,v80,h81,hF⟩:=bn3 hF
  refine go ?_ ?_
  refine aF (gO (C:=cI) (xs:=[.tmp 36]) (ps:=[.vc (pI .i64 v80)]) (zs:=[v80]) rfl tyS22 rfl ⟨⟨trivial,rfl⟩,trivial⟩ rfl) zU1 ?_
  obtain⟨x82,h83,hF⟩:=aR hF
  refine o9 0 rfl tyS22 rfl rfl q15 rfl rfl h83 (fun b84 c85 H86 e87=>?_)
  cases e87
  obtain⟨v89,h90,v91,h92,hF⟩:=sS hF
  refine go ?_ ?_
  exact aG (fun a w hh=>⟨x82,v89,v91,b84,c85,(n14+[v80].length),hF,(fI h83 q15),jY [0] hh⟩)
 refine bO ?_
 obtain rfl:=jN hF
 exact rD Jj26 ⟨x11,b12,c13,n14,hRl25,q15,rfl,rfl⟩ [0]
def nV (K:Nat):Option Int:=
 some 0
def cJ (K:Nat) (a0:List Int) (a1:List Int):Nat→Int→Option (LR Int Unit)
 |0,_=>none
 |k+1,x6=>bif(decide (0≤x6)) then((bP a0 x6).bind fun v12=>(bP a1 x6).bind fun v14=>bif(decide (v12<v14)) then(some (.ret (-1))) else((bP a0 x6).bind fun v19=>(bP a1 x6).bind fun v21=>bif(decide (v21<v19)) then(some (.ret 1)) else((aO (x6-1)).bind fun v24=>cJ K a0 a1 k v24))) else(some (.go ()))
def b0 (K:Nat) (a0:List Int) (a1:List Int):Option Int:=
 bif(decide ((a0.length:Int)<(a1.length:Int))) then(some (-1)) else(bif(decide ((a1.length:Int)<(a0.length:Int))) then(some 1) else((aO ((a0.length:Int)-1)).bind fun v3=>(cJ K a0 a1 K v3).bind fun o=>match o with| .ret r=>some r| .go _=>nV K))
theorem jV {K:Nat} {a0:List Int} {a1:List Int} {r:Int} (hF:b0 K a0 a1=some r):Ct Tryz.prog 99 [.vc (pS cI a0),.vc (pS cI a1)] (.vc (pI .i64 r)):=by
 unfold b0 at hF
 refine aB Tryz.func99 rfl (by kernel_rfl) Tryz.ntmps99 rfl (fun w0 M0=>?_)
 refine go ?_ ?_
 refine aD hF rfl (fun h1 hF=>?_) (fun h1 hF=>?_)
 ·exact bV
 refine go ?_ ?_
 refine aD hF rfl (fun h2 hF=>?_) (fun h2 hF=>?_)
 ·exact bV
 obtain⟨v3,h4,hF⟩:=aR hF
 refine go ?_ ?_
 refine aK (bE (fun H E=>nV K=some r∧H=[]∧E=[]) ?_ (fun Jj8=>?_))
 ·rintro _ _ ⟨hF,rfl,rfl⟩
  unfold nV at hF
  exact bV
 obtain⟨ol7,hL,hRl7⟩:=aR hF
 refine fO (fun k a w=>∃(x6:Int),cJ K a0 a1 k x6=some ol7∧hs _ [] [(0,.vc (pS cI a0)),(1,.vc (pS cI a1)),(5,.vc (pI .i64 x6))] a w) K (fun a w ⟨_,hF,_⟩=>by cases hF) (fun k a w ⟨x6,hF,hh⟩=>fN ?_ hh) (fun a w hh=>⟨v3,hL,jY [] hh⟩)
 rw [cJ.eq_2] at hF
 refine go ?_ ?_
 refine aD hF rfl (fun h9 hF=>?_) (fun h9 hF=>?_)
 ·refine go ?_ ?_
  refine aK (aC (aC ?_))
  obtain⟨v12,h13,hF⟩:=aR hF
  obtain⟨v14,h15,hF⟩:=aR hF
  refine dr [0,0,3,7,0,0,48,112,255] 9 0 ?_ (fun bs11 G10=>?_)
  refine aV (aH (aD hF rfl (fun h16 hF=>?_) (fun h16 hF=>?_)))
  ·exact bV
  have hF:=sR h13 hF
  have hF:=sR h15 hF
  refine go ?_ ?_
  refine dr [0,0,3,7,0,0,48,112,255] 9 0 ?_ (fun bs18 G17=>?_)
  refine aV (aH (aD hF rfl (fun h23 hF=>?_) (fun h23 hF=>?_)))
  ·exact bV
  obtain⟨v24,h25,hF⟩:=aR hF
  refine go ?_ ?_
  exact aG (fun a w hh=>⟨v24,hF,jY [] hh⟩)
 refine bO ?_
 obtain rfl:=jN hF
 exact rD Jj8 ⟨hRl7,rfl,rfl⟩ []
def mB (K:Nat) (x19:List Int):Option (List Int):=
 some x19
def cY (K:Nat) (a0:List Int) (a1:List Int):Nat→(List Int)→Int→Int→Option (List Int)
 |0,_,_,_=>none
 |k+1,x11,x17,x18=>bif(decide (x18<(a0.length:Int))) then((bP a0 x18).bind fun v30=>(cD a1 x18).bind fun v32=>(aO (v30-v32)).bind fun v34=>(aO (v34-x17)).bind fun v36=>bif(decide (v36<0)) then((aO (v36+1000000000)).bind fun v39=>(sK x11 [v39]).bind fun x41=>(aO (x18+1)).bind fun v48=>cY K a0 a1 k x41 1 v48) else((sK x11 [v36]).bind fun x50=>(aO (x18+1)).bind fun v57=>cY K a0 a1 k x50 0 v57)) else(some x11)
def eA (K:Nat) (a0:List Int) (a1:List Int):Option (List Int):=
 (cY K a0 a1 K ([]:List Int) 0 0).bind fun x19=>mB K x19
theorem lZ {K:Nat} {a0:List Int} {a1:List Int} {r:List Int} (hF:eA K a0 a1=some r):Ct Tryz.prog 100 [.vc (pS cI a0),.vc (pS cI a1)] (.vc (pS cI r)):=by
 unfold eA at hF
 refine aB Tryz.func100 rfl (by kernel_rfl) Tryz.ntmps100 rfl (fun w0 M0=>?_)
 refine aC (aJ (aF (aP (.inr rfl)) ⟨gM cI,trivial⟩ ?_))
 refine aV (aH (aC (aJ (sV cI 3 rfl ?_))))
 refine go ?_ ?_
 refine aK (bE (fun H E=>∃(x19:List Int),∃(b20:Option Nat),∃(c21:Nat),∃(n22:Nat),mB K x19=some r∧x19.length=n22∧H=[hO cI b20 c21 3 n22 x19]∧E=[(5,.vc (pO b20 n22 c21))]) ?_ (fun Jj26=>?_))
 ·rintro _ _ ⟨x19,b20,c21,n22,hF,q23,rfl,rfl⟩
  unfold mB at hF
  refine go ?_ ?_
  refine gL (gN (sF 0 [4,5,33] rfl q23 ⟨rfl,rfl,rfl,trivial⟩ rfl ?_))
  obtain rfl:=jN hF
  exact kX (.inl rfl) Tryz.results100 (.tmp rfl .nil) rfl rfl
 obtain⟨x19',hL,hRl25⟩:=aR hF
 refine fO (fun k a w=>∃(x11:List Int),∃(x17:Int),∃(x18:Int),∃(b12:Option Nat),∃(c13:Nat),∃(n14:Nat),cY K a0 a1 k x11 x17 x18=some x19'∧x11.length=n14∧hs _ [hO cI b12 c13 3 n14 x11] [(0,.vc (pS cI a0)),(1,.vc (pS cI a1)),(5,.vc (pO b12 n14 c13)),(6,.vc (pI .i64 x17)),(7,.vc (pI .i64 x18))] a w) K (fun a w ⟨_,_,_,_,_,_,hF,_,_⟩=>by cases hF) (fun k a w ⟨x11,x17,x18,b12,c13,n14,hF,q15,hh⟩=>fN ?_ hh) (fun a w hh=>⟨([]:List Int),0,0,none,0,0,hL,rfl,jY [0] hh⟩)
 rw [cY.eq_2] at hF
 refine go ?_ ?_
 refine aD hF rfl (fun h27 hF=>?_) (fun h27 hF=>?_)
 ·refine go ?_ ?_
  refine aK (aC ?_)
  obtain⟨v30,h31,hF⟩:=aR hF
  obtain⟨v32,h33,hF⟩:=aZ hF eJ
  obtain⟨v34,h35,hF⟩:=aR hF
  obtain⟨v36,h37,hF⟩:=aR hF
  refine dr [0,0,3,7,0,0,48,127,0,511,1023] 11 0 ?_ (fun bs29 G28=>?_)
  refine go ?_ ?_
  refine aD hF rfl (fun h38 hF=>?_) (fun h38 hF=>?_)
  ·obtain⟨v39,h40,hF⟩:=aR hF
   refine go ?_ ?_
   refine aF (gO (C:=cI) (xs:=[.tmp 30]) (ps:=[.vc (pI .i64 v39)]) (zs:=[v39]) rfl tyS22 rfl ⟨⟨trivial,rfl⟩,trivial⟩ rfl) zU1 ?_
   obtain⟨x41,h42,hF⟩:=aR hF
   refine o9 0 rfl tyS22 rfl rfl q15 rfl rfl h42 (fun b43 c44 H45 e46=>?_)
   cases e46
   obtain⟨v48,h49,hF⟩:=aR hF
   refine go ?_ ?_
   exact aG (fun a w hh=>⟨x41,1,v48,b43,c44,(n14+[v39].length),hF,(fI h42 q15),jY [0] hh⟩)
  refine go ?_ ?_
  refine aF (gO (C:=cI) (xs:=[.tmp 30]) (ps:=[.vc (pI .i64 v36)]) (zs:=[v36]) rfl tyS22 rfl ⟨⟨trivial,rfl⟩,trivial⟩ rfl) zU1 ?_
  obtain⟨x50,h51,hF⟩:=aR hF
  refine o9 0 rfl tyS22 rfl rfl q15 rfl rfl h51 (fun b52 c53 H54 e55=>?_)
  cases e55
  obtain⟨v57,h58,hF⟩:=aR hF
  refine go ?_ ?_
  exact aG (fun a w hh=>⟨x50,0,v57,b52,c53,(n14+[v36].length),hF,(fI h51 q15),jY [0] hh⟩)
 refine bO ?_
 obtain rfl:=jN hF
 exact rD Jj26 ⟨x11,b12,c13,n14,hRl25,q15,rfl,rfl⟩ [0]
def l7 (K:Nat) (a0:aA) (a1:aA):Option aA:=
 bif(a0.neg==a1.neg) then((nL K a0.d a1.d).bind fun v7=>(aT K a0.neg v7).bind fun v9=>some v9) else((b0 K a0.d a1.d).bind fun v11=>bif(decide (v11<0)) then((eA K a1.d a0.d).bind fun v16=>(aT K a1.neg v16).bind fun v18=>some v18) else((eA K a0.d a1.d).bind fun v22=>(aT K a0.neg v22).bind fun v24=>some v24))
theorem vN {K:Nat} {a0:aA} {a1:aA} {r:aA} (hF:l7 K a0 a1=some r):Ct Tryz.prog 61 [.va (aA.e a0),.va (aA.e a1)] (.va (aA.e r)):=by
 unfold l7 at hF
 refine aB Tryz.func61 rfl (by kernel_rfl) Tryz.ntmps61 rfl (fun w0 M0=>?_)
 refine aC (aJ (dE rfl rfl trivial (fun b1=>?_)))
 refine dE rfl rfl trivial (fun b2=>?_)
 refine aE rfl tyZ40 (fun b3=>?_)
 refine go ?_ ?_
 refine aF (aLe rfl Tryz.underlying4) zU2 ?_
 refine aV (aH (aD hF rfl (fun h4 hF=>?_) (fun h4 hF=>?_)))
 ·refine aC ?_
  obtain⟨v7,h8,hF⟩:=aZ hF aAf
  obtain⟨v9,h10,hF⟩:=aZ hF bC
  refine dr [0,1,0,4,0,16,60,127,255] 8 1 ?_ (fun bs6 G5=>?_)
  exact bV
 obtain⟨v11,h12,hF⟩:=aZ hF jV
 refine go ?_ ?_
 refine aD hF rfl (fun h13 hF=>?_) (fun h13 hF=>?_)
 ·refine aC ?_
  obtain⟨v16,h17,hF⟩:=aZ hF lZ
  obtain⟨v18,h19,hF⟩:=aZ hF bC
  refine dr [0,1,0,4,0,16,60,127,255] 8 1 ?_ (fun bs15 G14=>?_)
  exact bV
 obtain⟨v22,h23,hF⟩:=aZ hF lZ
 obtain⟨v24,h25,hF⟩:=aZ hF bC
 refine go ?_ ?_
 refine dr [0,1,0,4,0,16,60,127,255] 8 1 ?_ (fun bs21 G20=>?_)
 exact bV
def oJ (K:Nat) (a0:Int) (x18:List Int):Option aA:=
 (aT K (decide (a0<0)) x18).bind fun v26=>some v26
def cT (K:Nat):Nat→(List Int)→Int→Option (List Int)
 |0,_,_=>none
 |k+1,x11,x17=>bif(x17 != 0) then((wV x17 1000000000).bind fun v29=>bif(decide (v29<0)) then((aO (-v29)).bind fun v32=>(sK x11 [v32]).bind fun x34=>(xP x17 1000000000).bind fun v41=>cT K k x34 v41) else((sK x11 [v29]).bind fun x43=>(xP x17 1000000000).bind fun v50=>cT K k x43 v50)) else(some x11)
def fG (K:Nat) (a0:Int):Option aA:=
 (cT K K ([]:List Int) a0).bind fun x18=>oJ K a0 x18
theorem kN {K:Nat} {a0:Int} {r:aA} (hF:fG K a0=some r):Ct Tryz.prog 62 [.vc (pI .i64 a0)] (.va (aA.e r)):=by
 unfold fG at hF
 refine aB Tryz.func62 rfl (by kernel_rfl) Tryz.ntmps62 rfl (fun w0 M0=>?_)
 refine aC (aJ (aE rfl tyZ40 (fun b1=>?_)))
 refine aV (aH (aC (aJ (sV cI 3 rfl ?_))))
 refine go ?_ ?_
 refine aK (bE (fun H E=>∃(x18:List Int),∃(b19:Option Nat),∃(c20:Nat),∃(n21:Nat),oJ K a0 x18=some r∧x18.length=n21∧H=[hO cI b19 c20 3 n21 x18,⟨some b1,1,40,2,1,([pB false]++[pS cI ([]:List Int)])⟩]∧E=[(2,.vc (pP (some b1) 0)),(3,.vc (pO b19 n21 c20)),(4,.vc (pB (decide (a0<0))))]) ?_ (fun Jj25=>?_))
 ·rintro _ _ ⟨x18,b19,c20,n21,hF,q22,rfl,rfl⟩
  unfold oJ at hF
  refine aH (aC (aJ (gF ?_)))
  refine gF ?_
  refine xC 0 [3,23] rfl q22 zU2 rfl ?_
  obtain⟨v26,h27,hF⟩:=aZ hF bC
  exact bV
 obtain⟨x18',hL,hRl24⟩:=aR hF
 refine fO (fun k a w=>∃(x11:List Int),∃(x17:Int),∃(b12:Option Nat),∃(c13:Nat),∃(n14:Nat),cT K k x11 x17=some x18'∧x11.length=n14∧hs _ [hO cI b12 c13 3 n14 x11,⟨some b1,1,40,2,1,([pB false]++[pS cI ([]:List Int)])⟩] [(0,.vc (pI .i64 x17)),(2,.vc (pP (some b1) 0)),(3,.vc (pO b12 n14 c13)),(4,.vc (pB (decide (a0<0))))] a w) K (fun a w ⟨_,_,_,_,_,hF,_,_⟩=>by cases hF) (fun k a w ⟨x11,x17,b12,c13,n14,hF,q15,hh⟩=>fN ?_ hh) (fun a w hh=>⟨([]:List Int),a0,none,0,0,hL,rfl,jY [0,1] hh⟩)
 rw [cT.eq_2] at hF
 refine go ?_ ?_
 refine aD hF rfl (fun h28 hF=>?_) (fun h28 hF=>?_)
 ·refine f7 (aH (aK ?_))
  obtain⟨v29,h30,hF⟩:=aR hF
  refine go ?_ ?_
  refine aD hF rfl (fun h31 hF=>?_) (fun h31 hF=>?_)
  ·obtain⟨v32,h33,hF⟩:=aR hF
   refine go ?_ ?_
   refine aF (gO (C:=cI) (xs:=[.tmp 17]) (ps:=[.vc (pI .i64 v32)]) (zs:=[v32]) rfl tyS22 rfl ⟨⟨trivial,rfl⟩,trivial⟩ rfl) zU1 ?_
   obtain⟨x34,h35,hF⟩:=aR hF
   refine o9 0 rfl tyS22 rfl rfl q15 rfl rfl h35 (fun b36 c37 H38 e39=>?_)
   cases e39
   obtain⟨v41,h42,hF⟩:=aR hF
   refine go ?_ ?_
   exact aG (fun a w hh=>⟨x34,v41,b36,c37,(n14+[v32].length),hF,(fI h35 q15),jY [0,1] hh⟩)
  refine go ?_ ?_
  refine aF (gO (C:=cI) (xs:=[.tmp 17]) (ps:=[.vc (pI .i64 v29)]) (zs:=[v29]) rfl tyS22 rfl ⟨⟨trivial,rfl⟩,trivial⟩ rfl) zU1 ?_
  obtain⟨x43,h44,hF⟩:=aR hF
  refine o9 0 rfl tyS22 rfl rfl q15 rfl rfl h44 (fun b45 c46 H47 e48=>?_)
  cases e48
  obtain⟨v50,h51,hF⟩:=aR hF
  refine go ?_ ?_
  exact aG (fun a w hh=>⟨x43,v50,b45,c46,(n14+[v29].length),hF,(fI h44 q15),jY [0,1] hh⟩)
 refine bO ?_
 obtain rfl:=jN hF
 exact rD Jj25 ⟨x11,b12,c13,n14,hRl24,q15,rfl,rfl⟩ [0,1]
def kI (K:Nat) (a0:aA):Option aA:=
 (aT K (!a0.neg) a0.d).bind fun v3=>some v3
theorem s5 {K:Nat} {a0:aA} {r:aA} (hF:kI K a0=some r):Ct Tryz.prog 84 [.va (aA.e a0)] (.va (aA.e r)):=by
 unfold kI at hF
 refine aB Tryz.func84 rfl (by kernel_rfl) Tryz.ntmps84 rfl (fun w0 M0=>?_)
 refine aC (aJ (dE rfl rfl trivial (fun b1=>?_)))
 refine aE rfl tyZ40 (fun b2=>?_)
 obtain⟨v3,h4,hF⟩:=aZ hF bC
 exact bV
def dR (a0:Bool) (a1:Int):Option aA:=
 bif(a1==0) then(some (⟨false,([]:List Int)⟩:aA)) else(bif(decide (a1<1000000000)) then(some (⟨a0,[(IntKind.i64.wrap a1)]⟩:aA)) else(bif(decide (a1<1000000000000000000)) then((wV a1 1000000000).bind fun v5=>(uq a1 1000000000).bind fun v7=>some (⟨a0,[(IntKind.i64.wrap v5),(IntKind.i64.wrap v7)]⟩:aA)) else((wV a1 1000000000).bind fun v9=>(uq a1 1000000000).bind fun v11=>(wV v11 1000000000).bind fun v13=>(uq a1 1000000000).bind fun v15=>(uq v15 1000000000).bind fun v17=>some (⟨a0,[(IntKind.i64.wrap v9),(IntKind.i64.wrap v13),(IntKind.i64.wrap v17)]⟩:aA))))
theorem iM {a0:Bool} {a1:Int} {r:aA} (hF:dR a0 a1=some r):Ct Tryz.prog 134 [.vc (pB a0),.vc (pI .u64 a1)] (.va (aA.e r)):=by
 unfold dR at hF
 refine aB Tryz.func134 rfl (by kernel_rfl) Tryz.ntmps134 rfl (fun w0 M0=>?_)
 refine aC (aJ (aE rfl tyZ40 (fun b1=>?_)))
 refine go ?_ ?_
 refine aK (go ?_ ?_)
 refine aD hF rfl (fun h2 hF=>?_) (fun h2 hF=>?_)
 ·refine aC (aJ (aF (fK (is:=[]) (xs:=[]) (ps:=[]) rfl tyB40 rfl rfl trivial rfl) trivial ?_))
  exact bV
 refine go ?_ ?_
 refine aD hF rfl (fun h3 hF=>?_) (fun h3 hF=>?_)
 ·refine go ?_ ?_
  refine aF (aBv rfl ⟨_,Tryz.underlying131⟩ Tryz.underlying3) zU1 ?_
  refine aF (gO (C:=cI) (xs:=[.tmp 14]) (ps:=[.vc (pI .i64 (IntKind.i64.wrap a1))]) (zs:=[(IntKind.i64.wrap a1)]) rfl tyS22 rfl ⟨⟨trivial,rfl⟩,trivial⟩ rfl) zU1 ?_
  refine aF (fK (is:=[0,1]) (xs:=[.tmp 12,.tmp 15]) (ps:=[.vc (pB a0),.vc (pS cI [(IntKind.i64.wrap a1)])]) rfl tyB40 rfl rfl ⟨trivial,trivial,trivial⟩ rfl) zU2 ?_
  exact bV
 refine go ?_ ?_
 refine aD hF rfl (fun h4 hF=>?_) (fun h4 hF=>?_)
 ·obtain⟨v5,h6,hF⟩:=aR hF
  refine go ?_ ?_
  refine aF (aBv rfl ⟨_,Tryz.underlying131⟩ Tryz.underlying3) zU1 ?_
  refine gF ?_
  obtain⟨v7,h8,hF⟩:=aR hF
  refine aF (aDW rfl h8) ⟨rfl,oF _ _,trivial⟩ ?_
  refine aF (aBv rfl ⟨_,Tryz.underlying131⟩ Tryz.underlying3) zU1 ?_
  refine aF (gO (C:=cI) (xs:=[.tmp 23,.tmp 26]) (ps:=[.vc (pI .i64 (IntKind.i64.wrap v5)),.vc (pI .i64 (IntKind.i64.wrap v7))]) (zs:=[(IntKind.i64.wrap v5),(IntKind.i64.wrap v7)]) rfl tyS22 rfl ⟨⟨trivial,rfl⟩,⟨trivial,rfl⟩,trivial⟩ rfl) zU2 ?_
  refine aF (fK (is:=[0,1]) (xs:=[.tmp 20,.tmp 27]) (ps:=[.vc (pB a0),.vc (pS cI [(IntKind.i64.wrap v5),(IntKind.i64.wrap v7)])]) rfl tyB40 rfl rfl ⟨trivial,trivial,trivial⟩ rfl) zU2 ?_
  exact bV
 obtain⟨v9,h10,hF⟩:=aR hF
 refine go ?_ ?_
 refine aF (aBv rfl ⟨_,Tryz.underlying131⟩ Tryz.underlying3) zU1 ?_
 refine gF ?_
 obtain⟨v11,h12,hF⟩:=aR hF
 refine aF (aDW rfl h12) ⟨rfl,oF _ _,trivial⟩ ?_
 obtain⟨v13,h14,hF⟩:=aR hF
 refine aF (aDd rfl h14) ⟨rfl,oF _ _,trivial⟩ ?_
 refine aF (aBv rfl ⟨_,Tryz.underlying131⟩ Tryz.underlying3) zU1 ?_
 refine gF ?_
 have hF:=sR h12 hF
 refine aF (aDW rfl h12) ⟨rfl,oF _ _,trivial⟩ ?_
 obtain⟨v17,h18,hF⟩:=aR hF
 refine aF (aDW rfl h18) ⟨rfl,oF _ _,trivial⟩ ?_
 refine aF (aBv rfl ⟨_,Tryz.underlying131⟩ Tryz.underlying3) zU1 ?_
 refine aF (gO (C:=cI) (xs:=[.tmp 32,.tmp 36,.tmp 40]) (ps:=[.vc (pI .i64 (IntKind.i64.wrap v9)),.vc (pI .i64 (IntKind.i64.wrap v13)),.vc (pI .i64 (IntKind.i64.wrap v17))]) (zs:=[(IntKind.i64.wrap v9),(IntKind.i64.wrap v13),(IntKind.i64.wrap v17)]) rfl tyS22 rfl ⟨⟨trivial,rfl⟩,⟨trivial,rfl⟩,⟨trivial,rfl⟩,trivial⟩ rfl) ⟨rfl,rfl,rfl,trivial⟩ ?_
 refine aF (fK (is:=[0,1]) (xs:=[.tmp 29,.tmp 41]) (ps:=[.vc (pB a0),.vc (pS cI [(IntKind.i64.wrap v9),(IntKind.i64.wrap v13),(IntKind.i64.wrap v17)])]) rfl tyB40 rfl rfl ⟨trivial,trivial,trivial⟩ rfl) zU2 ?_
 exact bV
def kM (a0:Int):Option aA:=
 bif(decide (a0<0)) then((dR (decide (a0<0)) (wu (-(IntKind.u64.wrap a0)))).bind fun v3=>some v3) else((dR (decide (a0<0)) (IntKind.u64.wrap a0)).bind fun v5=>some v5)
theorem oO {a0:Int} {r:aA} (hF:kM a0=some r):Ct Tryz.prog 86 [.vc (pI .i64 a0)] (.va (aA.e r)):=by
 unfold kM at hF
 refine aB Tryz.func86 rfl (by kernel_rfl) Tryz.ntmps86 rfl (fun w0 M0=>?_)
 refine aC (aJ (aE rfl tyZ40 (fun b1=>?_)))
 refine go ?_ ?_
 refine aF (aBv rfl ⟨_,Tryz.underlying3⟩ Tryz.underlying131) zU1 ?_
 refine go ?_ ?_
 refine aD hF rfl (fun h2 hF=>?_) (fun h2 hF=>?_)
 ·refine aJ (gF ?_)
  refine aF (aL2 rfl) zU1 ?_
  obtain⟨v3,h4,hF⟩:=aZ hF iM
  exact bV
 obtain⟨v5,h6,hF⟩:=aZ hF iM
 exact bV
def rI (a0:aA):Option Int:=
 bif a0.neg then(some (-1)) else(bif((a0.d.length:Int)==0) then(some 0) else(some 1))
theorem aBU {a0:aA} {r:Int} (hF:rI a0=some r):Ct Tryz.prog 88 [.va (aA.e a0)] (.vc (pI .i64 r)):=by
 unfold rI at hF
 refine aB Tryz.func88 rfl (by kernel_rfl) Tryz.ntmps88 rfl (fun w0 M0=>?_)
 refine aC (aJ (dE rfl rfl trivial (fun b1=>?_)))
 refine go ?_ ?_
 refine aK (go ?_ ?_)
 refine aD hF rfl (fun h2 hF=>?_) (fun h2 hF=>?_)
 ·exact bV
 refine go ?_ ?_
 refine aD hF rfl (fun h3 hF=>?_) (fun h3 hF=>?_)
 ·exact bV
 exact bV
def qM (K:Nat):Option Bool:=
 some true
def eW (K:Nat) (a0:aA) (a1:aA):Nat→Int→Option (LR Bool Unit)
 |0,_=>none
 |k+1,x6=>bif(decide (x6<(a0.d.length:Int))) then((bP a0.d x6).bind fun v12=>(bP a1.d x6).bind fun v14=>bif(v12 != v14) then(some (.ret false)) else((aO (x6+1)).bind fun v17=>eW K a0 a1 k v17)) else(some (.go ()))
def lC (K:Nat) (a0:aA) (a1:aA):Option Bool:=
 bif(a0.neg != a1.neg) then(some false) else(bif((a0.d.length:Int) != (a1.d.length:Int)) then(some false) else((eW K a0 a1 K 0).bind fun o=>match o with| .ret r=>some r| .go _=>qM K))
theorem uW {K:Nat} {a0:aA} {a1:aA} {r:Bool} (hF:lC K a0 a1=some r):Ct Tryz.prog 92 [.va (aA.e a0),.va (aA.e a1)] (.vc (pB r)):=by
 unfold lC at hF
 refine aB Tryz.func92 rfl (by kernel_rfl) Tryz.ntmps92 rfl (fun w0 M0=>?_)
 refine aC (aJ (dE rfl rfl trivial (fun b1=>?_)))
 refine dE rfl rfl trivial (fun b2=>?_)
 refine go ?_ ?_
 refine aF (zF rfl Tryz.underlying4) zU2 ?_
 refine gF ?_
 refine dG hF (fun h3 hF=>?_) (fun h3 hF=>?_)
 ·refine go ?_ ?_
  refine iR rfl ?_
  exact bV
 refine go ?_ ?_
 refine aD hF rfl (fun h4 hF=>?_) (fun h4 hF=>?_)
 ·exact bV
 refine go ?_ ?_
 refine aK (bE (fun H E=>qM K=some r∧H=[]∧E=[]) ?_ (fun Jj8=>?_))
 ·rintro _ _ ⟨hF,rfl,rfl⟩
  unfold qM at hF
  exact bV
 obtain⟨ol7,hL,hRl7⟩:=aR hF
 refine fO (fun k a w=>∃(x6:Int),eW K a0 a1 k x6=some ol7∧hs _ [⟨some b2,1,40,2,1,(aA.e a1)⟩,⟨some b1,1,40,2,1,(aA.e a0)⟩] [(2,.vc (pP (some b1) 0)),(3,.vc (pP (some b2) 0)),(5,.vc (pI .i64 x6))] a w) K (fun a w ⟨_,hF,_⟩=>by cases hF) (fun k a w ⟨x6,hF,hh⟩=>fN ?_ hh) (fun a w hh=>⟨0,hL,jY [0,1] hh⟩)
 rw [eW.eq_2] at hF
 refine go ?_ ?_
 refine aD hF rfl (fun h9 hF=>?_) (fun h9 hF=>?_)
 ·refine go ?_ ?_
  refine aK (aC ?_)
  obtain⟨v12,h13,hF⟩:=aR hF
  obtain⟨v14,h15,hF⟩:=aR hF
  refine dr [0,1,0,7,15,0,32,0,224,480,1023] 11 0 ?_ (fun bs11 G10=>?_)
  refine aV (aH (aD hF rfl (fun h16 hF=>?_) (fun h16 hF=>?_)))
  ·exact bV
  obtain⟨v17,h18,hF⟩:=aR hF
  refine go ?_ ?_
  exact aG (fun a w hh=>⟨v17,hF,jY [0,1] hh⟩)
 refine bO ?_
 obtain rfl:=jN hF
 exact rD Jj8 ⟨hRl7,rfl,rfl⟩ []
def eS (a0:List Int):Option Int:=
 (cD a0 1).bind fun v1=>(aO (v1*1000000000)).bind fun v3=>(cD a0 0).bind fun v5=>(aO (v3+v5)).bind fun v7=>some v7
theorem kT {a0:List Int} {r:Int} (hF:eS a0=some r):Ct Tryz.prog 138 [.vc (pS cI a0)] (.vc (pI .i64 r)):=by
 unfold eS at hF
 refine aB Tryz.func138 rfl (by kernel_rfl) Tryz.ntmps138 rfl (fun w0 M0=>?_)
 obtain⟨v1,h2,hF⟩:=aZ hF eJ
 obtain⟨v3,h4,hF⟩:=aR hF
 obtain⟨v5,h6,hF⟩:=aZ hF eJ
 obtain⟨v7,h8,hF⟩:=aR hF
 exact bV
def gB (K:Nat) (a0:List Int) (a1:Int):Option (List Int):=
 (aT K false a0).bind fun v1=>(fG K a1).bind fun v3=>(fJ K v1 v3).bind fun v5=>some v5.d
theorem oA {K:Nat} {a0:List Int} {a1:Int} {r:List Int} (hF:gB K a0 a1=some r):Ct Tryz.prog 165 [.vc (pS cI a0),.vc (pI .i64 a1)] (.vc (pS cI r)):=by
 unfold gB at hF
 refine aB Tryz.func165 rfl (by kernel_rfl) Tryz.ntmps165 rfl (fun w0 M0=>?_)
 refine aC (aJ (aF (aP (.inr rfl)) ⟨gM cI,trivial⟩ ?_))
 obtain⟨v1,h2,hF⟩:=aZ hF bC
 obtain⟨v3,h4,hF⟩:=aZ hF kN
 obtain⟨v5,h6,hF⟩:=aZ hF lI
 refine go ?_ ?_
 refine aE rfl tyZ40 (fun b7=>?_)
 exact bV
def iJ (K:Nat) (x46:List Int) (x52:List Int):Option ((List Int)×(List Int)):=
 some (x46,x52)
def fU (K:Nat) (a1:List Int) (x38:List Int) (x45:Int) (v68:aA) (recl53:(List Int)→(List Int)→Int→Option ((List Int)×(List Int))) (x78:Int):Option ((List Int)×(List Int)):=
 (gB K a1 x78).bind fun v81=>(eA K v68.d v81).bind fun v83=>(aT K false v83).bind fun v85=>(bP x38 x45).bind fun v88=>(oK x38 x45 x78).bind fun x90=>(aO (x45-1)).bind fun v93=>recl53 x90 v85.d v93
def bG (K:Nat) (a1:List Int) (v68:aA):Nat→Int→Int→Option Int
 |0,_,_=>none
 |k+1,x76,x77=>bif(decide (x76<x77)) then((aO (x76+x77)).bind fun v96=>(aO (v96+1)).bind fun v98=>(xP v98 2).bind fun v100=>(gB K a1 v100).bind fun v102=>(b0 K v102 v68.d).bind fun v104=>bif(decide (v104≤0)) then(bG K a1 v68 k v100 x77) else((aO (v100-1)).bind fun v107=>bG K a1 v68 k x76 v107)) else(some x76)
def eG (K:Nat) (a1:List Int) (x38:List Int) (x45:Int) (v68:aA) (recl53:(List Int)→(List Int)→Int→Option ((List Int)×(List Int))) (x72:Int):Option ((List Int)×(List Int)):=
 (bG K a1 v68 K 0 x72).bind fun x78=>fU K a1 x38 x45 v68 recl53 x78
def aX (K:Nat) (a0:List Int) (a1:List Int):Nat→(List Int)→(List Int)→Int→Option ((List Int)×(List Int))
 |0,_,_,_=>none
 |k+1,x38,x44,x45=>bif(decide (0≤x45)) then((bP a0 x45).bind fun v56=>(sK [v56] x44).bind fun x61=>(aT K false x61).bind fun v68=>(b0 K v68.d a1).bind fun v109=>bif(decide (v109<0)) then(eG K a1 x38 x45 v68 (aX K a0 a1 k) 0) else(eG K a1 x38 x45 v68 (aX K a0 a1 k) 999999999)) else(some (x38,x44))
def nD (K:Nat) (x135:List Int) (x141:List Int):Option ((List Int)×(List Int)):=
 some (x135,x141)
def kL (K:Nat) (a1:List Int) (x127:List Int) (x134:Int) (v157:aA) (recl142:(List Int)→(List Int)→Int→Option ((List Int)×(List Int))) (x167:Int):Option ((List Int)×(List Int)):=
 (gB K a1 x167).bind fun v170=>(eA K v157.d v170).bind fun v172=>(aT K false v172).bind fun v174=>(bP x127 x134).bind fun v177=>(oK x127 x134 x167).bind fun x179=>(aO (x134-1)).bind fun v182=>recl142 x179 v174.d v182
def dS (K:Nat) (a1:List Int) (v157:aA):Nat→Int→Int→Option Int
 |0,_,_=>none
 |k+1,x165,x166=>bif(decide (x165<x166)) then((aO (x165+x166)).bind fun v185=>(aO (v185+1)).bind fun v187=>(xP v187 2).bind fun v189=>(gB K a1 v189).bind fun v191=>(b0 K v191 v157.d).bind fun v193=>bif(decide (v193≤0)) then(dS K a1 v157 k v189 x166) else((aO (v189-1)).bind fun v196=>dS K a1 v157 k x165 v196)) else(some x165)
def gZ (K:Nat) (a1:List Int) (x127:List Int) (x134:Int) (v157:aA) (recl142:(List Int)→(List Int)→Int→Option ((List Int)×(List Int))) (x161:Int):Option ((List Int)×(List Int)):=
 (dS K a1 v157 K 0 x161).bind fun x167=>kL K a1 x127 x134 v157 recl142 x167
def bR (K:Nat) (a0:List Int) (a1:List Int):Nat→(List Int)→(List Int)→Int→Option ((List Int)×(List Int))
 |0,_,_,_=>none
 |k+1,x127,x133,x134=>bif(decide (0≤x134)) then((bP a0 x134).bind fun v145=>(sK [v145] x133).bind fun x150=>(aT K false x150).bind fun v157=>(b0 K v157.d a1).bind fun v198=>bif(decide (v198<0)) then(gZ K a1 x127 x134 v157 (bR K a0 a1 k) 0) else(gZ K a1 x127 x134 v157 (bR K a0 a1 k) 999999999)) else(some (x127,x133))
def gH (K:Nat) (a0:List Int) (a1:List Int):Option ((List Int)×(List Int)):=
 bif(decide ((a0.length:Int)≤2)) then(bif(decide ((a1.length:Int)≤2)) then((eS a0).bind fun v3=>(eS a1).bind fun v5=>(xP v3 v5).bind fun v7=>(fG K v7).bind fun v9=>(eS a0).bind fun v12=>(eS a1).bind fun v14=>(wV v12 v14).bind fun v16=>(fG K v16).bind fun v18=>some (v9.d,v18.d)) else((wK (a0.length:Int) 0).bind fun x23=>(aO ((a0.length:Int)-1)).bind fun v28=>(aX K a0 a1 K x23 [] v28).bind fun(x46,x52)=>iJ K x46 x52)) else((wK (a0.length:Int) 0).bind fun x112=>(aO ((a0.length:Int)-1)).bind fun v117=>(bR K a0 a1 K x112 [] v117).bind fun(x135,x141)=>nD K x135 x141)
theorem xV {K:Nat} {a0:List Int} {a1:List Int} {r:(List Int)×(List Int)} (hF:gH K a0 a1=some r):Ct Tryz.prog 139 [.vc (pS cI a0),.vc (pS cI a1)] (.t2 (.vc (pS cI r.1)) (.vc (pS cI r.2))):=by
 unfold gH at hF
 refine aB Tryz.func139 rfl (by kernel_rfl) Tryz.ntmps139 rfl (fun w0 M0=>?_)
 refine aC (aJ (aF (aP (.inr rfl)) ⟨gM cI,trivial⟩ ?_))
 refine aF (aP (.inr rfl)) ⟨gM cI,trivial⟩ ?_
 refine go ?_ ?_
 refine dG hF (fun h1 hF=>?_) (fun h1 hF=>?_)
 ·refine go ?_ ?_
  refine aD hF rfl (fun h2 hF=>?_) (fun h2 hF=>?_)
  ·obtain⟨v3,h4,hF⟩:=aZ hF kT
   obtain⟨v5,h6,hF⟩:=aZ hF kT
   obtain⟨v7,h8,hF⟩:=aR hF
   obtain⟨v9,h10,hF⟩:=aZ hF kN
   refine go ?_ ?_
   refine aE rfl tyZ40 (fun b11=>?_)
   obtain⟨v12,h13,hF⟩:=aZ hF kT
   obtain⟨v14,h15,hF⟩:=aZ hF kT
   obtain⟨v16,h17,hF⟩:=aR hF
   obtain⟨v18,h19,hF⟩:=aZ hF kN
   refine go ?_ ?_
   refine aE rfl tyZ40 (fun b20=>?_)
   refine go ?_ ?_
   refine dr [0,1,0,4,3,31] 6 0 ?_ (fun bs22 G21=>?_)
   refine aV (aH ?_)
   exact bV
  obtain⟨x23,h24,hF⟩:=aR hF
  refine go ?_ ?_
  refine o8 (C:=cI) rfl tyS22 rfl tyZ3 rfl h24 (fun b25=>?_)
  refine go ?_ ?_
  refine aF (aP (.inr rfl)) ⟨gM cI,trivial⟩ ?_
  obtain⟨v28,h29,hF⟩:=aR hF
  refine go ?_ ?_
  refine aK (bE (fun H E=>∃(x46:List Int),∃(x52:List Int),iJ K x46 x52=some r∧x46.length=x23.length∧H=[hO cI b25 x23.length 3 x23.length x46]∧E=[(8,.vc (pO b25 x23.length x23.length)),(9,.vc (pS cI x52))]) ?_ (fun Jj54=>?_))
  ·rintro _ _ ⟨x46,x52,hF,q50,rfl,rfl⟩
   unfold iJ at hF
   refine go ?_ ?_
   refine gL (gN (sF 0 [4,8,93] rfl q50 ⟨rfl,rfl,rfl,trivial⟩ rfl ?_))
   obtain rfl:=jN hF
   exact kX (.inl rfl) Tryz.results139 (.tmp rfl (.tmp rfl .nil)) rfl rfl
  obtain⟨⟨x46',x52'⟩,hL,hRl53⟩:=aR hF
  refine fO (fun k a w=>∃(x38:List Int),∃(x44:List Int),∃(x45:Int),aX K a0 a1 k x38 x44 x45=some (x46',x52')∧x38.length=x23.length∧hs _ [hO cI b25 x23.length 3 x23.length x38] [(0,.vc (pS cI a0)),(1,.vc (pS cI a1)),(8,.vc (pO b25 x23.length x23.length)),(9,.vc (pS cI x44)),(10,.vc (pI .i64 x45))] a w) K (fun a w ⟨_,_,_,hF,_,_⟩=>by cases hF) (fun k a w ⟨x38,x44,x45,hF,q42,hh⟩=>fN ?_ hh) (fun a w hh=>⟨x23,[],v28,hL,rfl,jY [0] hh⟩)
  rw [aX.eq_2] at hF
  refine go ?_ ?_
  refine aD hF rfl (fun h55 hF=>?_) (fun h55 hF=>?_)
  ·refine go ?_ ?_
   refine aK ?_
   obtain⟨v56,h57,hF⟩:=aR hF
   refine go ?_ ?_
   refine aIS (aHs (C:=cI) (xs:=[.tmp 53]) (ps:=[.vc (pI .i64 v56)]) (zs:=[v56]) rfl tyS22 rfl ⟨⟨trivial,rfl⟩,trivial⟩ rfl) zU1 (fun b58 _=>?_)
   refine gF ?_
   obtain⟨x61,h62,hF⟩:=aR hF
   refine o9 0 rfl tyS22 rfl rfl rfl rfl rfl h62 (fun b63 c64 H65 e66=>?_)
   cases e66
   refine xC 0 [56] rfl (fI h62 rfl) zU1 rfl ?_
   obtain⟨v68,h69,hF⟩:=aZ hF bC
   refine aF (bJ rfl h69 rfl) ⟨k_B _,rfl,trivial⟩ ?_
   refine aE rfl tyZ40 (fun b70=>?_)
   refine lW (t_s 0 rfl rfl rfl tyA40.s) zU2 ?_
   refine aV (aH (aC (aJ (aF (iF (off:=0) (k:=1) rfl tyF40_1) zU1 ?_))))
   refine aF (fQ 0 1 rfl rfl rfl rfl (.one tyO22)) zU1 ?_
   refine wU ?_
   refine aV (aH (aC (aJ (aF (aP (.inr rfl)) ⟨oF _ _,trivial⟩ ?_))))
   refine aV (aH (aC (aJ (aF (aP (.inr rfl)) ⟨oF _ _,trivial⟩ ?_))))
   refine aV (aH (aC (w4 (fun H E=>∃(x72:Int),eG K a1 x38 x45 v68 (aX K a0 a1 k) x72=some (x46',x52')∧H=[hO cI b25 x23.length 3 x23.length x38]∧E=[(0,.vc (pS cI a0)),(1,.vc (pS cI a1)),(8,.vc (pO b25 x23.length x23.length)),(9,.vc (pS cI v68.d)),(10,.vc (pI .i64 x45)),(12,.vc (pI .i64 0)),(13,.vc (pI .i64 x72))]) ?_ (fun Jj73=>?_))))
   ·rintro _ _ ⟨x72,hF,rfl,rfl⟩
    unfold eG at hF
    refine aC (aK (bE (fun H E=>∃(x78:Int),fU K a1 x38 x45 v68 (aX K a0 a1 k) x78=some (x46',x52')∧H=[hO cI b25 x23.length 3 x23.length x38]∧E=[(0,.vc (pS cI a0)),(1,.vc (pS cI a1)),(8,.vc (pO b25 x23.length x23.length)),(9,.vc (pS cI v68.d)),(10,.vc (pI .i64 x45)),(12,.vc (pI .i64 x78))]) ?_ (fun Jj80=>?_)))
    ·rintro _ _ ⟨x78,hF,rfl,rfl⟩
     unfold fU at hF
     obtain⟨v81,h82,hF⟩:=aZ hF oA
     obtain⟨v83,h84,hF⟩:=aZ hF lZ
     obtain⟨v85,h86,hF⟩:=aZ hF bC
     refine go ?_ ?_
     refine aE rfl tyZ40 (fun b87=>?_)
     obtain⟨v88,h89,x90,h91,v93,h94,hF⟩:=bn3 hF
     refine go ?_ ?_
     exact aG (fun a w hh=>⟨x90,v85.d,v93,hF,(bH h91 q42),jY [1] hh⟩)
    obtain⟨x78',hL,hRl79⟩:=aR hF
    refine fO (fun k a w=>∃(x76:Int),∃(x77:Int),bG K a1 v68 k x76 x77=some x78'∧hs _ [hO cI b25 x23.length 3 x23.length x38] [(0,.vc (pS cI a0)),(1,.vc (pS cI a1)),(8,.vc (pO b25 x23.length x23.length)),(9,.vc (pS cI v68.d)),(10,.vc (pI .i64 x45)),(12,.vc (pI .i64 x76)),(13,.vc (pI .i64 x77))] a w) K (fun a w ⟨_,_,hF,_⟩=>by cases hF) (fun k a w ⟨x76,x77,hF,hh⟩=>fN ?_ hh) (fun a w hh=>⟨0,x72,hL,jY [0] hh⟩)
    rw [bG.eq_2] at hF
    refine go ?_ ?_
    refine aD hF rfl (fun h95 hF=>?_) (fun h95 hF=>?_)
    ·refine f7 (aH (aK ?_))
     obtain⟨v96,h97,v98,h99,v100,h101,hF⟩:=bn3 hF
     obtain⟨v102,h103,hF⟩:=aZ hF oA
     obtain⟨v104,h105,hF⟩:=aZ hF jV
     refine go ?_ ?_
     refine aD hF rfl (fun h106 hF=>?_) (fun h106 hF=>?_)
     ·refine go ?_ ?_
      exact aG (fun a w hh=>⟨v100,x77,hF,jY [0] hh⟩)
     obtain⟨v107,h108,hF⟩:=aR hF
     refine go ?_ ?_
     exact aG (fun a w hh=>⟨x76,v107,hF,jY [0] hh⟩)
    refine bO ?_
    obtain rfl:=jN hF
    exact rD Jj80 ⟨x76,hRl79,rfl,rfl⟩ [0]
   obtain⟨v109,h110,hF⟩:=aZ hF jV
   refine go ?_ ?_
   refine aD hF rfl (fun h111 hF=>?_) (fun h111 hF=>?_)
   ·refine aJ (aF (aP (.inr rfl)) ⟨oF _ _,trivial⟩ ?_)
    refine aV ?_
    exact rD Jj73 ⟨0,hF,rfl,rfl⟩ [1]
   refine f7 ?_
   exact rD Jj73 ⟨999999999,hF,rfl,rfl⟩ [1]
  refine bO ?_
  obtain⟨rfl,rfl⟩:=sm2 hF
  exact rD Jj54 ⟨x38,x44,hRl53,q42,rfl,rfl⟩ [0]
 refine go ?_ ?_
 refine tT rfl ?_
 obtain⟨x112,h113,hF⟩:=aR hF
 refine go ?_ ?_
 refine o8 (C:=cI) rfl tyS22 rfl tyZ3 rfl h113 (fun b114=>?_)
 refine go ?_ ?_
 refine aF (aP (.inr rfl)) ⟨gM cI,trivial⟩ ?_
 obtain⟨v117,h118,hF⟩:=aR hF
 refine go ?_ ?_
 refine aK (bE (fun H E=>∃(x135:List Int),∃(x141:List Int),nD K x135 x141=some r∧x135.length=x112.length∧H=[hO cI b114 x112.length 3 x112.length x135]∧E=[(8,.vc (pO b114 x112.length x112.length)),(9,.vc (pS cI x141))]) ?_ (fun Jj143=>?_))
 ·rintro _ _ ⟨x135,x141,hF,q139,rfl,rfl⟩
  unfold nD at hF
  refine go ?_ ?_
  refine gL (gN (sF 0 [4,8,93] rfl q139 ⟨rfl,rfl,rfl,trivial⟩ rfl ?_))
  obtain rfl:=jN hF
  exact kX (.inl rfl) Tryz.results139 (.tmp rfl (.tmp rfl .nil)) rfl rfl
 obtain⟨⟨x135',x141'⟩,hL,hRl142⟩:=aR hF
 refine fO (fun k a w=>∃(x127:List Int),∃(x133:List Int),∃(x134:Int),bR K a0 a1 k x127 x133 x134=some (x135',x141')∧x127.length=x112.length∧hs _ [hO cI b114 x112.length 3 x112.length x127] [(0,.vc (pS cI a0)),(1,.vc (pS cI a1)),(8,.vc (pO b114 x112.length x112.length)),(9,.vc (pS cI x133)),(10,.vc (pI .i64 x134))] a w) K (fun a w ⟨_,_,_,hF,_,_⟩=>by cases hF) (fun k a w ⟨x127,x133,x134,hF,q131,hh⟩=>fN ?_ hh) (fun a w hh=>⟨x112,[],v117,hL,rfl,jY [0] hh⟩)
 rw [bR.eq_2] at hF
 refine go ?_ ?_
 refine aD hF rfl (fun h144 hF=>?_) (fun h144 hF=>?_)
 ·refine go ?_ ?_
  refine aK ?_
  obtain⟨v145,h146,hF⟩:=aR hF
  refine go ?_ ?_
  refine aIS (aHs (C:=cI) (xs:=[.tmp 53]) (ps:=[.vc (pI .i64 v145)]) (zs:=[v145]) rfl tyS22 rfl ⟨⟨trivial,rfl⟩,trivial⟩ rfl) zU1 (fun b147 _=>?_)
  refine gF ?_
  obtain⟨x150,h151,hF⟩:=aR hF
  refine o9 0 rfl tyS22 rfl rfl rfl rfl rfl h151 (fun b152 c153 H154 e155=>?_)
  cases e155
  refine xC 0 [56] rfl (fI h151 rfl) zU1 rfl ?_
  obtain⟨v157,h158,hF⟩:=aZ hF bC
  refine aF (bJ rfl h158 rfl) ⟨k_B _,rfl,trivial⟩ ?_
  refine aE rfl tyZ40 (fun b159=>?_)
  refine lW (t_s 0 rfl rfl rfl tyA40.s) zU2 ?_
  refine aV (aH (aC (aJ (aF (iF (off:=0) (k:=1) rfl tyF40_1) zU1 ?_))))
  refine aF (fQ 0 1 rfl rfl rfl rfl (.one tyO22)) zU1 ?_
  refine wU ?_
  refine aV (aH (aC (aJ (aF (aP (.inr rfl)) ⟨oF _ _,trivial⟩ ?_))))
  refine aV (aH (aC (aJ (aF (aP (.inr rfl)) ⟨oF _ _,trivial⟩ ?_))))
  refine aV (aH (aC (w4 (fun H E=>∃(x161:Int),gZ K a1 x127 x134 v157 (bR K a0 a1 k) x161=some (x135',x141')∧H=[hO cI b114 x112.length 3 x112.length x127]∧E=[(0,.vc (pS cI a0)),(1,.vc (pS cI a1)),(8,.vc (pO b114 x112.length x112.length)),(9,.vc (pS cI v157.d)),(10,.vc (pI .i64 x134)),(12,.vc (pI .i64 0)),(13,.vc (pI .i64 x161))]) ?_ (fun Jj162=>?_))))
  ·rintro _ _ ⟨x161,hF,rfl,rfl⟩
   unfold gZ at hF
   refine aC (aK (bE (fun H E=>∃(x167:Int),kL K a1 x127 x134 v157 (bR K a0 a1 k) x167=some (x135',x141')∧H=[hO cI b114 x112.length 3 x112.length x127]∧E=[(0,.vc (pS cI a0)),(1,.vc (pS cI a1)),(8,.vc (pO b114 x112.length x112.length)),(9,.vc (pS cI v157.d)),(10,.vc (pI .i64 x134)),(12,.vc (pI .i64 x167))]) ?_ (fun Jj169=>?_)))
   ·rintro _ _ ⟨x167,hF,rfl,rfl⟩
    unfold kL at hF
    obtain⟨v170,h171,hF⟩:=aZ hF oA
    obtain⟨v172,h173,hF⟩:=aZ hF lZ
    obtain⟨v174,h175,hF⟩:=aZ hF bC
    refine go ?_ ?_
    refine aE rfl tyZ40 (fun b176=>?_)
    obtain⟨v177,h178,x179,h180,v182,h183,hF⟩:=bn3 hF
    refine go ?_ ?_
    exact aG (fun a w hh=>⟨x179,v174.d,v182,hF,(bH h180 q131),jY [1] hh⟩)
   obtain⟨x167',hL,hRl168⟩:=aR hF
   refine fO (fun k a w=>∃(x165:Int),∃(x166:Int),dS K a1 v157 k x165 x166=some x167'∧hs _ [hO cI b114 x112.length 3 x112.length x127] [(0,.vc (pS cI a0)),(1,.vc (pS cI a1)),(8,.vc (pO b114 x112.length x112.length)),(9,.vc (pS cI v157.d)),(10,.vc (pI .i64 x134)),(12,.vc (pI .i64 x165)),(13,.vc (pI .i64 x166))] a w) K (fun a w ⟨_,_,hF,_⟩=>by cases hF) (fun k a w ⟨x165,x166,hF,hh⟩=>fN ?_ hh) (fun a w hh=>⟨0,x161,hL,jY [0] hh⟩)
   rw [dS.eq_2] at hF
   refine go ?_ ?_
   refine aD hF rfl (fun h184 hF=>?_) (fun h184 hF=>?_)
   ·refine f7 (aH (aK ?_))
    obtain⟨v185,h186,v187,h188,v189,h190,hF⟩:=bn3 hF
    obtain⟨v191,h192,hF⟩:=aZ hF oA
    obtain⟨v193,h194,hF⟩:=aZ hF jV
    refine go ?_ ?_
    refine aD hF rfl (fun h195 hF=>?_) (fun h195 hF=>?_)
    ·refine go ?_ ?_
     exact aG (fun a w hh=>⟨v189,x166,hF,jY [0] hh⟩)
    obtain⟨v196,h197,hF⟩:=aR hF
    refine go ?_ ?_
    exact aG (fun a w hh=>⟨x165,v196,hF,jY [0] hh⟩)
   refine bO ?_
   obtain rfl:=jN hF
   exact rD Jj169 ⟨x165,hRl168,rfl,rfl⟩ [0]
  obtain⟨v198,h199,hF⟩:=aZ hF jV
  refine go ?_ ?_
  refine aD hF rfl (fun h200 hF=>?_) (fun h200 hF=>?_)
  ·refine aJ (aF (aP (.inr rfl)) ⟨oF _ _,trivial⟩ ?_)
   refine aV ?_
   exact rD Jj162 ⟨0,hF,rfl,rfl⟩ [1]
  refine f7 ?_
  exact rD Jj162 ⟨999999999,hF,rfl,rfl⟩ [1]
 refine bO ?_
 obtain⟨rfl,rfl⟩:=sm2 hF
 exact rD Jj143 ⟨x127,x133,hRl142,q131,rfl,rfl⟩ [0]
def iQ (K:Nat) (a0:aA) (a1:aA):Option (aA×aA):=
 bif((a1.d.length:Int)==0) then(some ((⟨false,([]:List Int)⟩:aA),(⟨false,([]:List Int)⟩:aA))) else((gH K a0.d a1.d).bind fun v6=>(aT K (a0.neg != a1.neg) v6.1).bind fun v8=>(aT K false v6.2).bind fun v11=>bif a0.neg then(bif(decide (0<(v11.d.length:Int))) then((aT K (a0.neg != a1.neg) [1]).bind fun v18=>(l7 K v8 v18).bind fun v20=>(eA K a1.d v11.d).bind fun v22=>(aT K false v22).bind fun v24=>some (v20,v24)) else(some (v8,v11))) else(some (v8,v11)))
theorem pH {K:Nat} {a0:aA} {a1:aA} {r:aA×aA} (hF:iQ K a0 a1=some r):Ct Tryz.prog 96 [.va (aA.e a0),.va (aA.e a1)] (.t2 (.va (aA.e r.1)) (.va (aA.e r.2))):=by
 unfold iQ at hF
 refine aB Tryz.func96 rfl (by kernel_rfl) Tryz.ntmps96 rfl (fun w0 M0=>?_)
 refine aC (aJ (dE rfl rfl trivial (fun b1=>?_)))
 refine dE rfl rfl trivial (fun b2=>?_)
 refine aE rfl tyZ40 (fun b3=>?_)
 refine aE rfl tyZ40 (fun b4=>?_)
 refine go ?_ ?_
 refine aD hF rfl (fun h5 hF=>?_) (fun h5 hF=>?_)
 ·refine aC (aJ (aF (fK (is:=[]) (xs:=[]) (ps:=[]) rfl tyB40 rfl rfl trivial rfl) trivial ?_))
  refine aF (fK (is:=[]) (xs:=[]) (ps:=[]) rfl tyB40 rfl rfl trivial rfl) trivial ?_
  exact bV
 obtain⟨v6,h7,hF⟩:=aZ hF xV
 refine go ?_ ?_
 refine aF (zF rfl Tryz.underlying4) zU2 ?_
 refine gF ?_
 obtain⟨v8,h9,hF⟩:=aZ hF bC
 refine aF (bJ rfl h9 rfl) zU2 ?_
 refine aE rfl tyZ40 (fun b10=>?_)
 obtain⟨v11,h12,hF⟩:=aZ hF bC
 refine go ?_ ?_
 refine aE rfl tyZ40 (fun b13=>?_)
 refine go ?_ ?_
 refine dG hF (fun h14 hF=>?_) (fun h14 hF=>?_)
 ·refine go ?_ ?_
  refine aD hF rfl (fun h15 hF=>?_) (fun h15 hF=>?_)
  ·refine aC ?_
   obtain⟨v18,h19,hF⟩:=aZ hF bC
   obtain⟨v20,h21,hF⟩:=aZ hF vN
   refine jI [0,0,2,0,8,30,0,126,255,511] 9 1 [.v (.va (aA.e v8)),.v (.vc (pP (some b1) 0)),.v (.vc (pB a0.neg)),.v (.vc (pP (some b2) 0)),.v (.vc (pB a1.neg)),.v (.vc (pB (a0.neg != a1.neg))),.v (.vc (pS cI [1])),.v (.va (aA.e v18)),.v (.va (aA.e v20))] bB ⟨d0 (fQ 1 2 rfl rfl rfl rfl (.agg tyA40)) zU1,d0 (iF (off:=0) (k:=0) rfl tyF40_0) zU1,d0 (fQ 5 1 rfl rfl rfl rfl (.one tyO4)) zU1,d0 (iF (off:=0) (k:=0) rfl tyF40_0) zU1,d0 (fQ 4 1 rfl rfl rfl rfl (.one tyO4)) zU1,⟨rfl,.run (L:=[0]) ⟨fun G16 A=>zF rfl Tryz.underlying4,trivial⟩ (fun G16=>zU2)⟩,d0 (gO (C:=cI) (xs:=[.const (.int .i64 (1))]) (ps:=[.vc (pI .i64 1)]) (zs:=[1]) rfl tyS22 rfl ⟨⟨trivial,rfl⟩,trivial⟩ rfl) ⟨oF _ _,trivial⟩,d0 (bJ rfl h19 rfl) zU2,d0 (bJ rfl h21 rfl) zU2,trivial⟩ (fun bs17 G16=>?_)
   obtain⟨v22,h23,hF⟩:=aZ hF lZ
   obtain⟨v24,h25,hF⟩:=aZ hF bC
   refine go ?_ ?_
   refine rP (HsM [(0,fun G26=>[⟨some b13,1,40,2,1,(aA.e v24)⟩,⟨some b10,1,40,2,1,(aA.e v20)⟩,⟨some b4,1,40,2,1,([pB false]++[pS cI ([]:List Int)])⟩,⟨some b3,1,40,2,1,([pB false]++[pS cI ([]:List Int)])⟩,⟨some b2,1,40,2,1,(aA.e a1)⟩,⟨some b1,1,40,2,1,(aA.e a0)⟩]),(1,fun G26=>[⟨some b13,1,40,2,1,(aA.e v24)⟩,⟨some b10,1,40,2,1,(aA.e v20)⟩,⟨some b4,1,40,2,1,([pB false]++[pS cI ([]:List Int)])⟩,⟨some b3,1,40,2,1,(aA.e v20)⟩,⟨some b2,1,40,2,1,(aA.e a1)⟩,⟨some b1,1,40,2,1,(aA.e a0)⟩])]) [2] [0,0,1,7] 3 1 [.v (.va (aA.e v20)),.v (.va (aA.e v24)),.g (fun _ _=>.any)] bB ⟨d1 0 (fQ 1 2 rfl rfl rfl rfl (.agg tyA40)) zU1,⟨rfl,.run (L:=[0,1]) ⟨fun G26 A=>fQ 0 2 rfl rfl rfl rfl (.agg tyA40),fun G26 A=>fQ 0 2 rfl rfl rfl rfl (.agg tyA40),trivial⟩ (fun G26=>zU1)⟩,⟨rfl,.hvy [0] ⟨fun G26 A=>aBR (t_s 3 rfl rfl rfl tyA40.s),trivial⟩ (fun G26=>zU2)⟩,trivial⟩ (fun bs27 G26=>?_)
   exact bV
  refine go ?_ ?_
  refine rP (HsM [(0,fun G28=>[⟨some b13,1,40,2,1,(aA.e v11)⟩,⟨some b10,1,40,2,1,(aA.e v8)⟩,⟨some b4,1,40,2,1,([pB false]++[pS cI ([]:List Int)])⟩,⟨some b3,1,40,2,1,([pB false]++[pS cI ([]:List Int)])⟩,⟨some b2,1,40,2,1,(aA.e a1)⟩,⟨some b1,1,40,2,1,(aA.e a0)⟩]),(1,fun G28=>[⟨some b13,1,40,2,1,(aA.e v11)⟩,⟨some b10,1,40,2,1,(aA.e v8)⟩,⟨some b4,1,40,2,1,([pB false]++[pS cI ([]:List Int)])⟩,⟨some b3,1,40,2,1,(aA.e v8)⟩,⟨some b2,1,40,2,1,(aA.e a1)⟩,⟨some b1,1,40,2,1,(aA.e a0)⟩])]) [2] [0,0,1,7] 3 1 [.v (.va (aA.e v8)),.v (.va (aA.e v11)),.g (fun _ _=>.any)] bB ⟨d1 0 (fQ 1 2 rfl rfl rfl rfl (.agg tyA40)) zU1,⟨rfl,.run (L:=[0,1]) ⟨fun G28 A=>fQ 0 2 rfl rfl rfl rfl (.agg tyA40),fun G28 A=>fQ 0 2 rfl rfl rfl rfl (.agg tyA40),trivial⟩ (fun G28=>zU1)⟩,⟨rfl,.hvy [0] ⟨fun G28 A=>aBR (t_s 3 rfl rfl rfl tyA40.s),trivial⟩ (fun G28=>zU2)⟩,trivial⟩ (fun bs29 G28=>?_)
  exact bV
 refine go ?_ ?_
 refine tT rfl ?_
 refine go ?_ ?_
 refine rP (HsM [(0,fun G30=>[⟨some b13,1,40,2,1,(aA.e v11)⟩,⟨some b10,1,40,2,1,(aA.e v8)⟩,⟨some b4,1,40,2,1,([pB false]++[pS cI ([]:List Int)])⟩,⟨some b3,1,40,2,1,([pB false]++[pS cI ([]:List Int)])⟩,⟨some b2,1,40,2,1,(aA.e a1)⟩,⟨some b1,1,40,2,1,(aA.e a0)⟩]),(1,fun G30=>[⟨some b13,1,40,2,1,(aA.e v11)⟩,⟨some b10,1,40,2,1,(aA.e v8)⟩,⟨some b4,1,40,2,1,([pB false]++[pS cI ([]:List Int)])⟩,⟨some b3,1,40,2,1,(aA.e v8)⟩,⟨some b2,1,40,2,1,(aA.e a1)⟩,⟨some b1,1,40,2,1,(aA.e a0)⟩])]) [2] [0,0,1,7] 3 1 [.v (.va (aA.e v8)),.v (.va (aA.e v11)),.g (fun _ _=>.any)] bB ⟨d1 0 (fQ 1 2 rfl rfl rfl rfl (.agg tyA40)) zU1,⟨rfl,.run (L:=[0,1]) ⟨fun G30 A=>fQ 0 2 rfl rfl rfl rfl (.agg tyA40),fun G30 A=>fQ 0 2 rfl rfl rfl rfl (.agg tyA40),trivial⟩ (fun G30=>zU1)⟩,⟨rfl,.hvy [0] ⟨fun G30 A=>aBR (t_s 3 rfl rfl rfl tyA40.s),trivial⟩ (fun G30=>zU2)⟩,trivial⟩ (fun bs31 G30=>?_)
 exact bV
def qK (K:Nat) (x14:aA):Option aA:=
 some x14
def nP (K:Nat) (x28:Int):Option (LR aA aA):=
 (fG K x28).bind fun v31=>some (.ret v31)
def eV (K:Nat):Nat→Int→Int→Option Int
 |0,_,_=>none
 |k+1,x26,x27=>bif(decide (0<x27)) then((wV x26 x27).bind fun v34=>eV K k x27 v34) else(some x26)
def dZ (K:Nat):Nat→aA→aA→Option (LR aA aA)
 |0,_,_=>none
 |k+1,x12,x13=>bif(decide (0<(x12.d.length:Int))) then(bif(decide ((x13.d.length:Int)≤2)) then(bif(decide ((x12.d.length:Int)≤2)) then((eS x13.d).bind fun v20=>(eS x12.d).bind fun v22=>(eV K K v20 v22).bind fun x28=>nP K x28) else((iQ K x13 x12).bind fun v36=>dZ K k v36.2 x12)) else((iQ K x13 x12).bind fun v40=>dZ K k v40.2 x12)) else(some (.go x13))
def oD (K:Nat) (a0:aA) (a1:aA):Option aA:=
 (aT K false a0.d).bind fun v4=>(aT K false a1.d).bind fun v7=>(dZ K K v7 v4).bind fun o=>match o with| .ret r=>some r| .go x14=>qK K x14
theorem aAD {K:Nat} {a0:aA} {a1:aA} {r:aA} (hF:oD K a0 a1=some r):Ct Tryz.prog 95 [.va (aA.e a0),.va (aA.e a1)] (.va (aA.e r)):=by
 unfold oD at hF
 refine aB Tryz.func95 rfl (by kernel_rfl) Tryz.ntmps95 rfl (fun w0 M0=>?_)
 refine aC (aJ (dE rfl rfl trivial (fun b1=>?_)))
 refine dE rfl rfl trivial (fun b2=>?_)
 refine aE rfl tyZ40 (fun b3=>?_)
 obtain⟨v4,h5,hF⟩:=aZ hF bC
 refine go ?_ ?_
 refine aE rfl tyZ40 (fun b6=>?_)
 obtain⟨v7,h8,hF⟩:=aZ hF bC
 refine go ?_ ?_
 refine aE rfl tyZ40 (fun b9=>?_)
 refine go ?_ ?_
 refine aK (bE (fun H E=>∃(x14:aA),qK K x14=some r∧H=[⟨some b6,1,40,2,1,(aA.e x14)⟩,⟨some b3,1,40,2,1,([pB false]++[pS cI ([]:List Int)])⟩]∧E=[(4,.vc (pP (some b3) 0)),(5,.vc (pP (some b6) 0))]) ?_ (fun Jj16=>?_))
 ·rintro _ _ ⟨x14,hF,rfl,rfl⟩
  unfold qK at hF
  exact bV
 obtain⟨ol15,hL,hRl15⟩:=aR hF
 refine fO (fun k a w=>∃(x12:aA),∃(x13:aA),dZ K k x12 x13=some ol15∧hs _ [⟨some b9,1,40,2,1,(aA.e x12)⟩,⟨some b6,1,40,2,1,(aA.e x13)⟩,⟨some b3,1,40,2,1,([pB false]++[pS cI ([]:List Int)])⟩] [(4,.vc (pP (some b3) 0)),(5,.vc (pP (some b6) 0)),(6,.vc (pP (some b9) 0))] a w) K (fun a w ⟨_,_,hF,_⟩=>by cases hF) (fun k a w ⟨x12,x13,hF,hh⟩=>fN ?_ hh) (fun a w hh=>⟨v7,v4,hL,jY [0,1,2] hh⟩)
 rw [dZ.eq_2] at hF
 refine go ?_ ?_
 refine aD hF rfl (fun h17 hF=>?_) (fun h17 hF=>?_)
 ·refine f7 (aH (aK (go ?_ ?_)))
  refine dG hF (fun h18 hF=>?_) (fun h18 hF=>?_)
  ·refine go ?_ ?_
   refine aD hF rfl (fun h19 hF=>?_) (fun h19 hF=>?_)
   ·obtain⟨v20,h21,hF⟩:=aZ hF kT
    obtain⟨v22,h23,hF⟩:=aZ hF kT
    refine go ?_ ?_
    refine aK (bE (fun H E=>∃(x28:Int),nP K x28=some ol15∧H=[⟨some b3,1,40,2,1,([pB false]++[pS cI ([]:List Int)])⟩]∧E=[(4,.vc (pP (some b3) 0)),(7,.vc (pI .i64 x28))]) ?_ (fun Jj30=>?_))
    ·rintro _ _ ⟨x28,hF,rfl,rfl⟩
     unfold nP at hF
     obtain⟨v31,h32,hF⟩:=aZ hF kN
     exact bV
    obtain⟨x28',hL,hRl29⟩:=aR hF
    refine fO (fun k a w=>∃(x26:Int),∃(x27:Int),eV K k x26 x27=some x28'∧hs _ [⟨some b3,1,40,2,1,([pB false]++[pS cI ([]:List Int)])⟩] [(4,.vc (pP (some b3) 0)),(7,.vc (pI .i64 x26)),(8,.vc (pI .i64 x27))] a w) K (fun a w ⟨_,_,hF,_⟩=>by cases hF) (fun k a w ⟨x26,x27,hF,hh⟩=>fN ?_ hh) (fun a w hh=>⟨v20,v22,hL,jY [2] hh⟩)
    rw [eV.eq_2] at hF
    refine go ?_ ?_
    refine aD hF rfl (fun h33 hF=>?_) (fun h33 hF=>?_)
    ·refine f7 (aH (aK ?_))
     obtain⟨v34,h35,hF⟩:=aR hF
     refine go ?_ ?_
     exact aG (fun a w hh=>⟨x27,v34,hF,jY [0] hh⟩)
    refine bO ?_
    obtain rfl:=jN hF
    exact rD Jj30 ⟨x26,hRl29,rfl,rfl⟩ [0]
   obtain⟨v36,h37,hF⟩:=aZ hF pH
   refine go ?_ ?_
   refine aE rfl tyZ40 (fun b38=>?_)
   refine aE rfl tyZ40 (fun b39=>?_)
   refine go ?_ ?_
   exact aG (fun a w hh=>⟨v36.2,x12,hF,jY [2,3,4] hh⟩)
  refine go ?_ ?_
  refine tT rfl ?_
  obtain⟨v40,h41,hF⟩:=aZ hF pH
  refine go ?_ ?_
  refine aE rfl tyZ40 (fun b42=>?_)
  refine aE rfl tyZ40 (fun b43=>?_)
  refine go ?_ ?_
  exact aG (fun a w hh=>⟨v40.2,x12,hF,jY [2,3,4] hh⟩)
 refine bO ?_
 obtain rfl:=jN hF
 exact rD Jj16 ⟨x13,hRl15,rfl,rfl⟩ [1,2]
def oN (a0:aA):Option aA:=
 bif(!a0.neg) then(some (⟨(decide (0<(a0.d.length:Int))),a0.d⟩:aA)) else(some (⟨false,a0.d⟩:aA))
theorem vL {a0:aA} {r:aA} (hF:oN a0=some r):Ct Tryz.prog 109 [.va (aA.e a0)] (.va (aA.e r)):=by
 unfold oN at hF
 refine aB Tryz.func109 rfl (by kernel_rfl) Tryz.ntmps109 rfl (fun w0 M0=>?_)
 refine aC (aJ (dE rfl rfl trivial (fun b1=>?_)))
 refine aE rfl tyZ40 (fun b2=>?_)
 refine go ?_ ?_
 refine dG hF (fun h3 hF=>?_) (fun h3 hF=>?_)
 ·exact bV
 exact bV
def sP (K:Nat) (a0:Bool) (a1:List Int) (x4:Int):Option aA:=
 bif(x4==0) then(some (⟨false,([]:List Int)⟩:aA)) else((slL a1 0 x4).bind fun x8=>some (⟨a0,x8⟩:aA))
def kV (K:Nat) (a1:List Int):Nat→Int→Option Int
 |0,_=>none
 |k+1,x3=>bif(decide (0<x3)) then((aO (x3-1)).bind fun v11=>(bP a1 v11).bind fun v13=>bif(v13==0) then((aO (x3-1)).bind fun v16=>kV K a1 k v16) else(some x3)) else(some x3)
def dK (K:Nat) (a0:Bool) (a1:List Int):Option aA:=
 (kV K a1 K (a1.length:Int)).bind fun x4=>sP K a0 a1 x4
theorem gA {K:Nat} {a0:Bool} {a1:List Int} {r:aA} (hF:dK K a0 a1=some r):Ct Tryz.prog 155 [.vc (pB a0),.vc (pS cI a1)] (.va (aA.e r)):=by
 unfold dK at hF
 refine aB Tryz.func155 rfl (by kernel_rfl) Tryz.ntmps155 rfl (fun w0 M0=>?_)
 refine aC (aJ (aE rfl tyZ40 (fun b1=>?_)))
 refine go ?_ ?_
 refine aK (bE (fun H E=>∃(x4:Int),sP K a0 a1 x4=some r∧H=[⟨some b1,1,40,2,1,([pB false]++[pS cI ([]:List Int)])⟩]∧E=[(0,.vc (pB a0)),(1,.vc (pS cI a1)),(4,.vc (pP (some b1) 0)),(5,.vc (pI .i64 x4))]) ?_ (fun Jj6=>?_))
 ·rintro _ _ ⟨x4,hF,rfl,rfl⟩
  unfold sP at hF
  refine go ?_ ?_
  refine aD hF rfl (fun h7 hF=>?_) (fun h7 hF=>?_)
  ·refine aC (aJ (aF (fK (is:=[]) (xs:=[]) (ps:=[]) rfl tyB40 rfl rfl trivial rfl) trivial ?_))
   exact bV
  obtain⟨x8,h9,hF⟩:=aR hF
  refine go ?_ ?_
  refine aF (aKj rfl tyS22 h9) ⟨rfl,rfl,rfl,trivial⟩ ?_
  refine aF (fK (is:=[0,1]) (xs:=[.tmp 23,.tmp 27]) (ps:=[.vc (pB a0),.vc (pS cI x8)]) rfl tyB40 rfl rfl ⟨trivial,trivial,trivial⟩ rfl) zU2 ?_
  exact bV
 obtain⟨x4',hL,hRl5⟩:=aR hF
 refine fO (fun k a w=>∃(x3:Int),kV K a1 k x3=some x4'∧hs _ [⟨some b1,1,40,2,1,([pB false]++[pS cI ([]:List Int)])⟩] [(0,.vc (pB a0)),(1,.vc (pS cI a1)),(4,.vc (pP (some b1) 0)),(5,.vc (pI .i64 x3))] a w) K (fun a w ⟨_,hF,_⟩=>by cases hF) (fun k a w ⟨x3,hF,hh⟩=>fN ?_ hh) (fun a w hh=>⟨(a1.length:Int),hL,jY [0] hh⟩)
 rw [kV.eq_2] at hF
 refine go ?_ ?_
 refine dG hF (fun h10 hF=>?_) (fun h10 hF=>?_)
 ·obtain⟨v11,h12,v13,h14,hF⟩:=sS hF
  refine go ?_ ?_
  refine aD hF rfl (fun h15 hF=>?_) (fun h15 hF=>?_)
  ·refine f7 (aH (aK ?_))
   have hF:=sR h12 hF
   refine go ?_ ?_
   exact aG (fun a w hh=>⟨v11,hF,jY [0] hh⟩)
  refine bO ?_
  obtain rfl:=jN hF
  exact rD Jj6 ⟨x3,hRl5,rfl,rfl⟩ [0]
 refine go ?_ ?_
 refine tT rfl ?_
 refine bO ?_
 obtain rfl:=jN hF
 exact rD Jj6 ⟨x3,hRl5,rfl,rfl⟩ [0]
def p9 (K:Nat) (x2:List Int) (x28:List Int) (x34:Int):Option (List Int):=
 (bP x28 (x2.length:Int)).bind fun v37=>(oK x28 (x2.length:Int) x34).bind fun x39=>some x39
def cM (K:Nat) (x2:List Int) (x3:List Int):Nat→(List Int)→Int→Int→Option ((List Int)×Int)
 |0,_,_,_=>none
 |k+1,x20,x26,x27=>bif(decide (x27<(x2.length:Int))) then((bP x2 x27).bind fun v43=>(aO (v43+x26)).bind fun v45=>bif(decide (x27<(x3.length:Int))) then((bP x3 x27).bind fun v48=>(aO (v45+v48)).bind fun v50=>bif(decide (1000000000≤v50)) then((aO (v50-1000000000)).bind fun v53=>(bP x20 x27).bind fun v55=>(oK x20 x27 v53).bind fun x57=>(aO (x27+1)).bind fun v60=>cM K x2 x3 k x57 1 v60) else((bP x20 x27).bind fun v62=>(oK x20 x27 v50).bind fun x64=>(aO (x27+1)).bind fun v67=>cM K x2 x3 k x64 0 v67)) else(bif(decide (1000000000≤v45)) then((aO (v45-1000000000)).bind fun v70=>(bP x20 x27).bind fun v72=>(oK x20 x27 v70).bind fun x74=>(aO (x27+1)).bind fun v77=>cM K x2 x3 k x74 1 v77) else((bP x20 x27).bind fun v79=>(oK x20 x27 v45).bind fun x81=>(aO (x27+1)).bind fun v84=>cM K x2 x3 k x81 0 v84))) else(some (x20,x26))
def l5 (K:Nat) (x2:List Int) (x3:List Int):Option (List Int):=
 (aO ((x2.length:Int)+1)).bind fun v5=>(wK v5 0).bind fun x7=>(cM K x2 x3 K x7 0 0).bind fun(x28,x34)=>p9 K x2 x28 x34
def nC (K:Nat) (a0:List Int) (a1:List Int):Option (List Int):=
 bif(decide ((a0.length:Int)<(a1.length:Int))) then(l5 K a1 a0) else(l5 K a0 a1)
theorem yK {K:Nat} {a0:List Int} {a1:List Int} {r:List Int} (hF:nC K a0 a1=some r):Ct Tryz.prog 156 [.vc (pS cI a0),.vc (pS cI a1)] (.vc (pS cI r)):=by
 unfold nC at hF
 refine aB Tryz.func156 rfl (by kernel_rfl) Tryz.ntmps156 rfl (fun w0 M0=>?_)
 refine aC (aJ (aF (aP (.inr rfl)) ⟨gM cI,trivial⟩ ?_))
 refine aV (aH (aC (w4 (fun H E=>∃(x2:List Int),∃(x3:List Int),l5 K x2 x3=some r∧H=[]∧E=[(0,.vc (pS cI x2)),(1,.vc (pS cI x3))]) ?_ (fun Jj4=>?_))))
 ·rintro _ _ ⟨x2,x3,hF,rfl,rfl⟩
  unfold l5 at hF
  obtain⟨v5,h6,x7,h8,hF⟩:=sS hF
  refine go ?_ ?_
  refine o8 (C:=cI) rfl tyS22 rfl tyZ3 rfl h8 (fun b9=>?_)
  refine go ?_ ?_
  refine aK (bE (fun H E=>∃(x28:List Int),∃(x34:Int),p9 K x2 x28 x34=some r∧x28.length=x7.length∧H=[hO cI b9 x7.length 3 x7.length x28]∧E=[(0,.vc (pS cI x2)),(5,.vc (pO b9 x7.length x7.length)),(6,.vc (pI .i64 x34))]) ?_ (fun Jj36=>?_))
  ·rintro _ _ ⟨x28,x34,hF,q32,rfl,rfl⟩
   unfold p9 at hF
   obtain⟨v37,h38,x39,h40,hF⟩:=sS hF
   refine go ?_ ?_
   refine gL (gN (sF 0 [4,5,50,55] rfl (bH h40 q32) ⟨rfl,rfl,rfl,rfl,trivial⟩ rfl ?_))
   obtain rfl:=jN hF
   exact kX (.inl rfl) Tryz.results156 (.tmp rfl .nil) rfl rfl
  obtain⟨⟨x28',x34'⟩,hL,hRl35⟩:=aR hF
  refine fO (fun k a w=>∃(x20:List Int),∃(x26:Int),∃(x27:Int),cM K x2 x3 k x20 x26 x27=some (x28',x34')∧x20.length=x7.length∧hs _ [hO cI b9 x7.length 3 x7.length x20] [(0,.vc (pS cI x2)),(1,.vc (pS cI x3)),(5,.vc (pO b9 x7.length x7.length)),(6,.vc (pI .i64 x26)),(21,.vc (pS cI x2)),(22,.vc (pI .i64 (x2.length:Int))),(23,.vc (pI .i64 x27))] a w) K (fun a w ⟨_,_,_,hF,_,_⟩=>by cases hF) (fun k a w ⟨x20,x26,x27,hF,q24,hh⟩=>fN ?_ hh) (fun a w hh=>⟨x7,0,0,hL,rfl,jY [0] hh⟩)
  rw [cM.eq_2] at hF
  refine go ?_ ?_
  refine aD hF rfl (fun h42 hF=>?_) (fun h42 hF=>?_)
  ·refine go ?_ ?_
   refine aK ?_
   obtain⟨v43,h44,v45,h46,hF⟩:=sS hF
   refine go ?_ ?_
   refine aD hF rfl (fun h47 hF=>?_) (fun h47 hF=>?_)
   ·obtain⟨v48,h49,v50,h51,hF⟩:=sS hF
    refine go ?_ ?_
    refine aD hF rfl (fun h52 hF=>?_) (fun h52 hF=>?_)
    ·obtain⟨v53,h54,v55,h56,x57,h58,v60,h61,hF⟩:=bn4 hF
     refine go ?_ ?_
     exact aG (fun a w hh=>⟨x57,1,v60,hF,(bH h58 q24),jY [0] hh⟩)
    obtain⟨v62,h63,x64,h65,v67,h68,hF⟩:=bn3 hF
    refine go ?_ ?_
    exact aG (fun a w hh=>⟨x64,0,v67,hF,(bH h65 q24),jY [0] hh⟩)
   refine go ?_ ?_
   refine aD hF rfl (fun h69 hF=>?_) (fun h69 hF=>?_)
   ·obtain⟨v70,h71,v72,h73,x74,h75,v77,h78,hF⟩:=bn4 hF
    refine go ?_ ?_
    exact aG (fun a w hh=>⟨x74,1,v77,hF,(bH h75 q24),jY [0] hh⟩)
   obtain⟨v79,h80,x81,h82,v84,h85,hF⟩:=bn3 hF
   refine go ?_ ?_
   exact aG (fun a w hh=>⟨x81,0,v84,hF,(bH h82 q24),jY [0] hh⟩)
  refine bO ?_
  obtain⟨rfl,rfl⟩:=sm2 hF
  exact rD Jj36 ⟨x20,x26,hRl35,q24,rfl,rfl⟩ [0]
 refine go ?_ ?_
 refine aD hF rfl (fun h86 hF=>?_) (fun h86 hF=>?_)
 ·refine aJ (gF ?_)
  refine gF ?_
  refine wU ?_
  refine wU ?_
  refine aV ?_
  exact rD Jj4 ⟨a1,a0,hF,rfl,rfl⟩ []
 refine f7 ?_
 exact rD Jj4 ⟨a0,a1,hF,rfl,rfl⟩ []
def lB (a0:Int):Option Bool:=
 some (a0 != a0)
theorem tU {a0:Int} {r:Bool} (hF:lB a0=some r):Ct Tryz.prog 174 [.vc (pI .i64 a0)] (.vc (pB r)):=by
 unfold lB at hF
 refine aB Tryz.func174 rfl (by kernel_rfl) Tryz.ntmps174 rfl (fun w0 M0=>?_)
 exact bV
def fV (a0:Int) (a1:Int):Option Int:=
 (lB a0).bind fun v1=>(lB a1).bind fun v3=>bif v1 then(bif v3 then(some 0) else(some (-1))) else(bif v3 then(some 1) else(bif(decide (a0<a1)) then(some (-1)) else(bif(decide (a1<a0)) then(some 1) else(some 0))))
theorem rM {a0:Int} {a1:Int} {r:Int} (hF:fV a0 a1=some r):Ct Tryz.prog 170 [.vc (pI .i64 a0),.vc (pI .i64 a1)] (.vc (pI .i64 r)):=by
 unfold fV at hF
 refine aB Tryz.func170 rfl (by kernel_rfl) Tryz.ntmps170 rfl (fun w0 M0=>?_)
 obtain⟨v1,h2,hF⟩:=aZ hF tU
 obtain⟨v3,h4,hF⟩:=aZ hF tU
 refine go ?_ ?_
 refine aD hF rfl (fun h5 hF=>?_) (fun h5 hF=>?_)
 ·refine go ?_ ?_
  refine aD hF rfl (fun h6 hF=>?_) (fun h6 hF=>?_)
  ·exact bV
  exact bV
 refine go ?_ ?_
 refine aD hF rfl (fun h7 hF=>?_) (fun h7 hF=>?_)
 ·exact bV
 refine go ?_ ?_
 refine aD hF rfl (fun h8 hF=>?_) (fun h8 hF=>?_)
 ·exact bV
 refine go ?_ ?_
 refine aD hF rfl (fun h9 hF=>?_) (fun h9 hF=>?_)
 ·exact bV
 exact bV
def rH (K:Nat):Option Int:=
 some 0
def eI (K:Nat) (a0:List Int) (a1:List Int):Nat→Int→Option (LR Int Unit)
 |0,_=>none
 |k+1,x7=>bif(decide (0≤x7)) then((bP a0 x7).bind fun v13=>(bP a1 x7).bind fun v15=>bif(v13 != v15) then((bP a0 x7).bind fun v20=>(bP a1 x7).bind fun v22=>(fV v20 v22).bind fun v24=>some (.ret v24)) else((aO (x7-1)).bind fun v26=>eI K a0 a1 k v26)) else(some (.go ()))
def eN (K:Nat) (a0:List Int) (a1:List Int):Option Int:=
 bif((a0.length:Int) != (a1.length:Int)) then((fV (a0.length:Int) (a1.length:Int)).bind fun v2=>some v2) else((aO ((a0.length:Int)-1)).bind fun v4=>(eI K a0 a1 K v4).bind fun o=>match o with| .ret r=>some r| .go _=>rH K)
theorem lF {K:Nat} {a0:List Int} {a1:List Int} {r:Int} (hF:eN K a0 a1=some r):Ct Tryz.prog 157 [.vc (pS cI a0),.vc (pS cI a1)] (.vc (pI .i64 r)):=by
 unfold eN at hF
 refine aB Tryz.func157 rfl (by kernel_rfl) Tryz.ntmps157 rfl (fun w0 M0=>?_)
 refine go ?_ ?_
 refine aD hF rfl (fun h1 hF=>?_) (fun h1 hF=>?_)
 ·obtain⟨v2,h3,hF⟩:=aZ hF rM
  exact bV
 obtain⟨v4,h5,hF⟩:=aR hF
 refine go ?_ ?_
 refine aK (bE (fun H E=>rH K=some r∧H=[]∧E=[]) ?_ (fun Jj9=>?_))
 ·rintro _ _ ⟨hF,rfl,rfl⟩
  unfold rH at hF
  exact bV
 obtain⟨ol8,hL,hRl8⟩:=aR hF
 refine fO (fun k a w=>∃(x7:Int),eI K a0 a1 k x7=some ol8∧hs _ [] [(0,.vc (pS cI a0)),(1,.vc (pS cI a1)),(5,.vc (pI .i64 x7))] a w) K (fun a w ⟨_,hF,_⟩=>by cases hF) (fun k a w ⟨x7,hF,hh⟩=>fN ?_ hh) (fun a w hh=>⟨v4,hL,jY [] hh⟩)
 rw [eI.eq_2] at hF
 refine go ?_ ?_
 refine aD hF rfl (fun h10 hF=>?_) (fun h10 hF=>?_)
 ·refine go ?_ ?_
  refine aK (aC ?_)
  obtain⟨v13,h14,hF⟩:=aR hF
  obtain⟨v15,h16,hF⟩:=aR hF
  refine dr [0,0,3,7,0,0,48,112,255] 9 0 ?_ (fun bs12 G11=>?_)
  refine aV (aH (aD hF rfl (fun h17 hF=>?_) (fun h17 hF=>?_)))
  ·refine aC ?_
   have hF:=sR h14 hF
   have hF:=sR h16 hF
   obtain⟨v24,h25,hF⟩:=aZ hF rM
   refine dr [0,0,3,7,0,0,48,112,255,511] 10 0 ?_ (fun bs19 G18=>?_)
   refine aV (aH ?_)
   exact bV
  obtain⟨v26,h27,hF⟩:=aR hF
  refine go ?_ ?_
  exact aG (fun a w hh=>⟨v26,hF,jY [] hh⟩)
 refine bO ?_
 obtain rfl:=jN hF
 exact rD Jj9 ⟨hRl8,rfl,rfl⟩ []
def oT (K:Nat) (x21:List Int):Option (List Int):=
 some x21
def iK (K:Nat) (x20:Int) (recl27:(List Int)→Int→Option (List Int)) (x31:List Int):Option (List Int):=
 (bP x31 x20).bind fun v38=>bif(decide (v38<0)) then((bP x31 x20).bind fun v41=>(aO (v41+1000000000)).bind fun v43=>(bP x31 x20).bind fun v45=>(oK x31 x20 v43).bind fun x47=>(aO (x20+1)).bind fun v50=>(bP x47 v50).bind fun v52=>(aO (v52-1)).bind fun v54=>(bP x47 v50).bind fun v56=>(oK x47 v50 v54).bind fun x58=>(aO (x20+1)).bind fun v61=>recl27 x58 v61) else((aO (x20+1)).bind fun v63=>recl27 x31 v63)
def dI (K:Nat) (a0:List Int) (a1:List Int) (x1:List Int):Nat→(List Int)→Int→Option (List Int)
 |0,_,_=>none
 |k+1,x14,x20=>bif(decide (x20<((cpL x1 a0).length:Int))) then(bif(decide (x20<(a1.length:Int))) then((bP x14 x20).bind fun v68=>(bP a1 x20).bind fun v70=>(aO (v68-v70)).bind fun v72=>(bP x14 x20).bind fun v74=>(oK x14 x20 v72).bind fun x76=>iK K x20 (dI K a0 a1 x1 k) x76) else(iK K x20 (dI K a0 a1 x1 k) x14)) else(some x14)
def kU (K:Nat) (a0:List Int) (a1:List Int):Option (List Int):=
 (wK (a0.length:Int) 0).bind fun x1=>(dI K a0 a1 x1 K (cpL x1 a0) 0).bind fun x21=>oT K x21
theorem uC {K:Nat} {a0:List Int} {a1:List Int} {r:List Int} (hF:kU K a0 a1=some r):Ct Tryz.prog 158 [.vc (pS cI a0),.vc (pS cI a1)] (.vc (pS cI r)):=by
 unfold kU at hF
 refine aB Tryz.func158 rfl (by kernel_rfl) Tryz.ntmps158 rfl (fun w0 M0=>?_)
 refine aC (aJ (aF (aP (.inr rfl)) ⟨gM cI,trivial⟩ ?_))
 obtain⟨x1,h2,hF⟩:=aR hF
 refine go ?_ ?_
 refine o8 (C:=cI) rfl tyS22 rfl tyZ3 rfl h2 (fun b3=>?_)
 refine go ?_ ?_
 refine aF (t_cp 0 rfl tyS22 rfl rfl rfl) zU2 ?_
 refine go ?_ ?_
 refine aF (aAP (C:=cI) (xs:=(cpL x1 a0)) (T:=3) rfl tyS22 (aAT rfl)) zU1 ?_
 refine go ?_ ?_
 refine aK (bE (fun H E=>∃(x21:List Int),oT K x21=some r∧x21.length=x1.length∧H=[hO cI b3 x1.length 3 x1.length x21]∧E=[(5,.vc (pO b3 x1.length x1.length))]) ?_ (fun Jj28=>?_))
 ·rintro _ _ ⟨x21,hF,q25,rfl,rfl⟩
  unfold oT at hF
  refine go ?_ ?_
  refine gL (gN (sF 0 [4,5,51] rfl q25 ⟨rfl,rfl,rfl,trivial⟩ rfl ?_))
  obtain rfl:=jN hF
  exact kX (.inl rfl) Tryz.results158 (.tmp rfl .nil) rfl rfl
 obtain⟨x21',hL,hRl27⟩:=aR hF
 refine fO (fun k a w=>∃(x14:List Int),∃(x20:Int),dI K a0 a1 x1 k x14 x20=some x21'∧x14.length=x1.length∧hs _ [hO cI b3 x1.length 3 x1.length x14] [(1,.vc (pS cI a1)),(5,.vc (pO b3 x1.length x1.length)),(14,.vc (pI .i64 ((cpL x1 a0).length:Int))),(15,.vc (pI .i64 x20))] a w) K (fun a w ⟨_,_,hF,_,_⟩=>by cases hF) (fun k a w ⟨x14,x20,hF,q18,hh⟩=>fN ?_ hh) (fun a w hh=>⟨(cpL x1 a0),0,hL,(aAT rfl),jY [0] hh⟩)
 rw [dI.eq_2] at hF
 refine go ?_ ?_
 refine aD hF rfl (fun h29 hF=>?_) (fun h29 hF=>?_)
 ·refine go ?_ ?_
  refine aK (aC (aJ (gF ?_)))
  refine wU ?_
  refine aV (aH (aC (w4 (fun H E=>∃(x31:List Int),iK K x20 (dI K a0 a1 x1 k) x31=some x21'∧x31.length=x1.length∧H=[hO cI b3 x1.length 3 x1.length x31]∧E=[(1,.vc (pS cI a1)),(5,.vc (pO b3 x1.length x1.length)),(6,.vc (pI .i64 x20)),(14,.vc (pI .i64 ((cpL x1 a0).length:Int))),(15,.vc (pI .i64 x20))]) ?_ (fun Jj37=>?_))))
  ·rintro _ _ ⟨x31,hF,q35,rfl,rfl⟩
   unfold iK at hF
   obtain⟨v38,h39,hF⟩:=aR hF
   refine go ?_ ?_
   refine aD hF rfl (fun h40 hF=>?_) (fun h40 hF=>?_)
   ·have hF:=sR h39 hF
    obtain⟨v43,h44,hF⟩:=aR hF
    have hF:=sR h39 hF
    obtain⟨x47,h48,v50,h51,v52,h53,v54,h55,hF⟩:=bn4 hF
    have hF:=sR h53 hF
    obtain⟨x58,h59,hF⟩:=aR hF
    have hF:=sR h51 hF
    refine go ?_ ?_
    exact aG (fun a w hh=>⟨x58,v50,hF,(bH h59 (bH h48 q35)),jY [0] hh⟩)
   obtain⟨v63,h64,hF⟩:=aR hF
   refine go ?_ ?_
   exact aG (fun a w hh=>⟨x31,v63,hF,q35,jY [0] hh⟩)
  refine go ?_ ?_
  refine aD hF rfl (fun h65 hF=>?_) (fun h65 hF=>?_)
  ·obtain⟨v68,h69,hF⟩:=aR hF
   obtain⟨v70,h71,hF⟩:=aR hF
   obtain⟨v72,h73,hF⟩:=aR hF
   have hF:=sR h69 hF
   refine dr [0,0,3,7,0,0,48,112,255,511,1023] 10 1 ?_ (fun bs67 G66=>?_)
   obtain⟨x76,h77,hF⟩:=aR hF
   refine lW (xE 0 rfl rfl h69 h77 tyO3.s) zU2 ?_
   refine aV ?_
   exact rD Jj37 ⟨x76,hF,(bH h77 q18),rfl,rfl⟩ [0]
  refine f7 ?_
  exact rD Jj37 ⟨x14,hF,q18,rfl,rfl⟩ [0]
 refine bO ?_
 obtain rfl:=jN hF
 exact rD Jj28 ⟨x14,hRl27,q18,rfl,rfl⟩ [0]
def lO (K:Nat) (a0:aA) (a1:aA):Option aA:=
 bif(a0.neg==a1.neg) then((nC K a0.d a1.d).bind fun v7=>(dK K a0.neg v7).bind fun v9=>some v9) else((eN K a0.d a1.d).bind fun v11=>bif(decide (v11<0)) then((kU K a1.d a0.d).bind fun v16=>(dK K a1.neg v16).bind fun v18=>some v18) else((kU K a0.d a1.d).bind fun v22=>(dK K a0.neg v22).bind fun v24=>some v24))
theorem vM {K:Nat} {a0:aA} {a1:aA} {r:aA} (hF:lO K a0 a1=some r):Ct Tryz.prog 122 [.va (aA.e a0),.va (aA.e a1)] (.va (aA.e r)):=by
 unfold lO at hF
 refine aB Tryz.func122 rfl (by kernel_rfl) Tryz.ntmps122 rfl (fun w0 M0=>?_)
 refine aC (aJ (dE rfl rfl trivial (fun b1=>?_)))
 refine dE rfl rfl trivial (fun b2=>?_)
 refine aE rfl tyZ40 (fun b3=>?_)
 refine go ?_ ?_
 refine aK (go ?_ ?_)
 refine aF (aLe rfl Tryz.underlying4) zU2 ?_
 refine go ?_ ?_
 refine aD hF rfl (fun h4 hF=>?_) (fun h4 hF=>?_)
 ·refine aC ?_
  obtain⟨v7,h8,hF⟩:=aZ hF yK
  obtain⟨v9,h10,hF⟩:=aZ hF gA
  refine dr [0,1,0,4,0,16,60,127,255] 8 1 ?_ (fun bs6 G5=>?_)
  exact bV
 obtain⟨v11,h12,hF⟩:=aZ hF lF
 refine go ?_ ?_
 refine aD hF rfl (fun h13 hF=>?_) (fun h13 hF=>?_)
 ·refine aC ?_
  obtain⟨v16,h17,hF⟩:=aZ hF uC
  obtain⟨v18,h19,hF⟩:=aZ hF gA
  refine dr [0,1,0,4,0,16,60,127,255] 8 1 ?_ (fun bs15 G14=>?_)
  exact bV
 obtain⟨v22,h23,hF⟩:=aZ hF uC
 obtain⟨v24,h25,hF⟩:=aZ hF gA
 refine go ?_ ?_
 refine dr [0,1,0,4,0,16,60,127,255] 8 1 ?_ (fun bs21 G20=>?_)
 exact bV
def n0 (K:Nat) (a0:aA) (a1:aA) (x37:List Int):Option aA:=
 (dK K (a0.neg != a1.neg) x37).bind fun v45=>some v45
def oE (K:Nat) (a1:aA) (x36:Int) (recl43:(List Int)→Int→Option (List Int)) (x66:List Int) (x72:Int):Option (List Int):=
 (aO (x36+(a1.d.length:Int))).bind fun v75=>(bP x66 v75).bind fun v77=>(oK x66 v75 x72).bind fun x79=>(aO (x36+1)).bind fun v82=>recl43 x79 v82
def fH (K:Nat) (a1:aA) (x36:Int) (v48:Int):Nat→(List Int)→Int→Int→Option ((List Int)×Int)
 |0,_,_,_=>none
 |k+1,x58,x64,x65=>bif(decide (x65<(a1.d.length:Int))) then((bP a1.d x65).bind fun v85=>(aO (x36+x65)).bind fun v87=>(bP x58 v87).bind fun v89=>(aO (v48*v85)).bind fun v91=>(aO (v89+v91)).bind fun v93=>(aO (v93+x64)).bind fun v95=>(xP v95 1000000000).bind fun v97=>(aO (x36+x65)).bind fun v99=>(aO (v97*1000000000)).bind fun v101=>(aO (v95-v101)).bind fun v103=>(bP x58 v99).bind fun v105=>(oK x58 v99 v103).bind fun x107=>(aO (x65+1)).bind fun v110=>fH K a1 x36 v48 k x107 v97 v110) else(some (x58,x64))
def eM (K:Nat) (a0:aA) (a1:aA):Nat→(List Int)→Int→Option (List Int)
 |0,_,_=>none
 |k+1,x30,x36=>bif(decide (x36<(a0.d.length:Int))) then((bP a0.d x36).bind fun v48=>(fH K a1 x36 v48 K x30 0 0).bind fun(x66,x72)=>oE K a1 x36 (eM K a0 a1 k) x66 x72) else(some x30)
def sZ (K:Nat) (a0:aA) (a1:aA) (x133:List Int):Option aA:=
 (dK K (a0.neg != a1.neg) x133).bind fun v141=>some v141
def pJ (K:Nat) (a1:aA) (x132:Int) (recl139:(List Int)→Int→Option (List Int)) (x162:List Int) (x168:Int):Option (List Int):=
 (aO (x132+(a1.d.length:Int))).bind fun v171=>(bP x162 v171).bind fun v173=>(oK x162 v171 x168).bind fun x175=>(aO (x132+1)).bind fun v178=>recl139 x175 v178
def lH (K:Nat) (a1:aA) (x132:Int) (v144:Int):Nat→(List Int)→Int→Int→Option ((List Int)×Int)
 |0,_,_,_=>none
 |k+1,x154,x160,x161=>bif(decide (x161<(a1.d.length:Int))) then((bP a1.d x161).bind fun v181=>(aO (x132+x161)).bind fun v183=>(bP x154 v183).bind fun v185=>(aO (v144*v181)).bind fun v187=>(aO (v185+v187)).bind fun v189=>(aO (v189+x160)).bind fun v191=>(xP v191 1000000000).bind fun v193=>(aO (x132+x161)).bind fun v195=>(aO (v193*1000000000)).bind fun v197=>(aO (v191-v197)).bind fun v199=>(bP x154 v195).bind fun v201=>(oK x154 v195 v199).bind fun x203=>(aO (x161+1)).bind fun v206=>lH K a1 x132 v144 k x203 v193 v206) else(some (x154,x160))
def jH (K:Nat) (a0:aA) (a1:aA):Nat→(List Int)→Int→Option (List Int)
 |0,_,_=>none
 |k+1,x126,x132=>bif(decide (x132<(a0.d.length:Int))) then((bP a0.d x132).bind fun v144=>(lH K a1 x132 v144 K x126 0 0).bind fun(x162,x168)=>pJ K a1 x132 (jH K a0 a1 k) x162 x168) else(some x126)
def bK (K:Nat) (a0:aA) (a1:aA):Option aA:=
 bif((a0.d.length:Int)==1) then(bif((a1.d.length:Int)==1) then((bP a0.d 0).bind fun v10=>(bP a1.d 0).bind fun v12=>(dR (a0.neg != a1.neg) (wu ((IntKind.u64.wrap v10)*(IntKind.u64.wrap v12)))).bind fun v14=>some v14) else((aO ((a0.d.length:Int)+(a1.d.length:Int))).bind fun v16=>(wK v16 0).bind fun x18=>(eM K a0 a1 K x18 0).bind fun x37=>n0 K a0 a1 x37)) else((aO ((a0.d.length:Int)+(a1.d.length:Int))).bind fun v112=>(wK v112 0).bind fun x114=>(jH K a0 a1 K x114 0).bind fun x133=>sZ K a0 a1 x133)
theorem fF {K:Nat} {a0:aA} {a1:aA} {r:aA} (hF:bK K a0 a1=some r):Ct Tryz.prog 124 [.va (aA.e a0),.va (aA.e a1)] (.va (aA.e r)):=by
 unfold bK at hF
 refine aB Tryz.func124 rfl (by kernel_rfl) Tryz.ntmps124 rfl (fun w0 M0=>?_)
 refine aC (aJ (dE rfl rfl trivial (fun b1=>?_)))
 refine dE rfl rfl trivial (fun b2=>?_)
 refine aE rfl tyZ40 (fun b3=>?_)
 refine go ?_ ?_
 refine dr [0,1,0,4,3,31] 6 0 ?_ (fun bs5 G4=>?_)
 refine go ?_ ?_
 refine dG hF (fun h6 hF=>?_) (fun h6 hF=>?_)
 ·refine go ?_ ?_
  refine aD hF rfl (fun h7 hF=>?_) (fun h7 hF=>?_)
  ·refine aC ?_
   obtain⟨v10,h11,hF⟩:=aR hF
   obtain⟨v12,h13,hF⟩:=aR hF
   obtain⟨v14,h15,hF⟩:=aZ hF iM
   refine jI [0,1,0,4,15,0,32,96,224,0,512,1536,3584,8160,16383,32767] 15 1 [.v (.vc (pP (some b1) 0)),.v (.vc (pB a0.neg)),.v (.vc (pP (some b2) 0)),.v (.vc (pB a1.neg)),.v (.vc (pB (a0.neg != a1.neg))),.v (.vc (pS cI a0.d)),.v (.vc (pM (cI.e v10))),.v (.vc (pI .i64 v10)),.v (.vc (pI .u64 (IntKind.u64.wrap v10))),.v (.vc (pS cI a1.d)),.v (.vc (pM (cI.e v12))),.v (.vc (pI .i64 v12)),.v (.vc (pI .u64 (IntKind.u64.wrap v12))),.v (.vc (pI .u64 (wu ((IntKind.u64.wrap v10)*(IntKind.u64.wrap v12))))),.v (.va (aA.e v14))] bB ⟨d0 (iF (off:=0) (k:=0) rfl tyF40_0) zU1,d0 (fQ 2 1 rfl rfl rfl rfl (.one tyO4)) zU1,d0 (iF (off:=0) (k:=0) rfl tyF40_0) zU1,d0 (fQ 1 1 rfl rfl rfl rfl (.one tyO4)) zU1,⟨rfl,.run (L:=[0]) ⟨fun G8 A=>zF rfl Tryz.underlying4,trivial⟩ (fun G8=>zU2)⟩,d0 (aP (.inl rfl)) zU1,d0 (aEJ rfl tyS22 h11) ⟨rfl,oF _ _,trivial⟩,d0 (aBX 1 rfl rfl (.one tyO3)) zU1,⟨rfl,.run (L:=[0]) ⟨fun G8 A=>aBv rfl ⟨_,Tryz.underlying3⟩ Tryz.underlying131,trivial⟩ (fun G8=>zU1)⟩,d0 (aP (.inl rfl)) zU1,d0 (aEJ rfl tyS22 h13) ⟨rfl,oF _ _,trivial⟩,d0 (aBX 1 rfl rfl (.one tyO3)) zU1,⟨rfl,.run (L:=[0]) ⟨fun G8 A=>aBv rfl ⟨_,Tryz.underlying3⟩ Tryz.underlying131,trivial⟩ (fun G8=>zU1)⟩,d0 (aME rfl) zU2,d0 (bJ rfl h15 rfl) zU2,trivial⟩ (fun bs9 G8=>?_)
   exact bV
  obtain⟨v16,h17,x18,h19,hF⟩:=sS hF
  refine go ?_ ?_
  refine o8 (C:=cI) rfl tyS22 rfl tyZ3 rfl h19 (fun b20=>?_)
  refine go ?_ ?_
  refine aK (bE (fun H E=>∃(x37:List Int),n0 K a0 a1 x37=some r∧x37.length=x18.length∧H=[hO cI b20 x18.length 3 x18.length x37,⟨some b3,1,40,2,1,([pB false]++[pS cI ([]:List Int)])⟩,⟨some b2,1,40,2,1,(aA.e a1)⟩,⟨some b1,1,40,2,1,(aA.e a0)⟩]∧E=[(2,.vc (pP (some b1) 0)),(3,.vc (pP (some b2) 0)),(4,.vc (pP (some b3) 0)),(7,.vc (pO b20 x18.length x18.length))]) ?_ (fun Jj44=>?_))
  ·rintro _ _ ⟨x37,hF,q41,rfl,rfl⟩
   unfold n0 at hF
   refine go ?_ ?_
   refine aF (zF rfl Tryz.underlying4) zU2 ?_
   refine gF ?_
   refine xC 0 [7,98] rfl q41 zU2 rfl ?_
   obtain⟨v45,h46,hF⟩:=aZ hF gA
   exact bV
  obtain⟨x37',hL,hRl43⟩:=aR hF
  refine fO (fun k a w=>∃(x30:List Int),∃(x36:Int),eM K a0 a1 k x30 x36=some x37'∧x30.length=x18.length∧hs _ [hO cI b20 x18.length 3 x18.length x30,⟨some b3,1,40,2,1,([pB false]++[pS cI ([]:List Int)])⟩,⟨some b2,1,40,2,1,(aA.e a1)⟩,⟨some b1,1,40,2,1,(aA.e a0)⟩] [(2,.vc (pP (some b1) 0)),(3,.vc (pP (some b2) 0)),(4,.vc (pP (some b3) 0)),(6,.vc (pS cI a1.d)),(7,.vc (pO b20 x18.length x18.length)),(47,.vc (pS cI a0.d)),(48,.vc (pI .i64 (a0.d.length:Int))),(49,.vc (pI .i64 x36))] a w) K (fun a w ⟨_,_,hF,_,_⟩=>by cases hF) (fun k a w ⟨x30,x36,hF,q34,hh⟩=>fN ?_ hh) (fun a w hh=>⟨x18,0,hL,rfl,jY [0,1,2,3] hh⟩)
  rw [eM.eq_2] at hF
  refine go ?_ ?_
  refine aD hF rfl (fun h47 hF=>?_) (fun h47 hF=>?_)
  ·refine go ?_ ?_
   refine aK ?_
   obtain⟨v48,h49,hF⟩:=aR hF
   refine go ?_ ?_
   refine aK (bE (fun H E=>∃(x66:List Int),∃(x72:Int),oE K a1 x36 (eM K a0 a1 k) x66 x72=some x37'∧x66.length=x18.length∧H=[hO cI b20 x18.length 3 x18.length x66,⟨some b3,1,40,2,1,([pB false]++[pS cI ([]:List Int)])⟩,⟨some b2,1,40,2,1,(aA.e a1)⟩,⟨some b1,1,40,2,1,(aA.e a0)⟩]∧E=[(2,.vc (pP (some b1) 0)),(3,.vc (pP (some b2) 0)),(4,.vc (pP (some b3) 0)),(6,.vc (pS cI a1.d)),(7,.vc (pO b20 x18.length x18.length)),(8,.vc (pI .i64 x36)),(10,.vc (pI .i64 x72)),(47,.vc (pS cI a0.d)),(48,.vc (pI .i64 (a0.d.length:Int))),(49,.vc (pI .i64 x36))]) ?_ (fun Jj74=>?_))
   ·rintro _ _ ⟨x66,x72,hF,q70,rfl,rfl⟩
    unfold oE at hF
    obtain⟨v75,h76,v77,h78,x79,h80,v82,h83,hF⟩:=bn4 hF
    refine go ?_ ?_
    exact aG (fun a w hh=>⟨x79,v82,hF,(bH h80 q70),jY [0,1,2,3] hh⟩)
   obtain⟨⟨x66',x72'⟩,hL,hRl73⟩:=aR hF
   refine fO (fun k a w=>∃(x58:List Int),∃(x64:Int),∃(x65:Int),fH K a1 x36 v48 k x58 x64 x65=some (x66',x72')∧x58.length=x18.length∧hs _ [hO cI b20 x18.length 3 x18.length x58,⟨some b3,1,40,2,1,([pB false]++[pS cI ([]:List Int)])⟩,⟨some b2,1,40,2,1,(aA.e a1)⟩,⟨some b1,1,40,2,1,(aA.e a0)⟩] [(2,.vc (pP (some b1) 0)),(3,.vc (pP (some b2) 0)),(4,.vc (pP (some b3) 0)),(6,.vc (pS cI a1.d)),(7,.vc (pO b20 x18.length x18.length)),(8,.vc (pI .i64 x36)),(9,.vc (pI .i64 v48)),(10,.vc (pI .i64 x64)),(47,.vc (pS cI a0.d)),(48,.vc (pI .i64 (a0.d.length:Int))),(49,.vc (pI .i64 x36)),(54,.vc (pS cI a1.d)),(55,.vc (pI .i64 (a1.d.length:Int))),(56,.vc (pI .i64 x65))] a w) K (fun a w ⟨_,_,_,hF,_,_⟩=>by cases hF) (fun k a w ⟨x58,x64,x65,hF,q62,hh⟩=>fN ?_ hh) (fun a w hh=>⟨x30,0,0,hL,q34,jY [0,1,2,3] hh⟩)
   rw [fH.eq_2] at hF
   refine go ?_ ?_
   refine aD hF rfl (fun h84 hF=>?_) (fun h84 hF=>?_)
   ·refine go ?_ ?_
    refine aK ?_
    obtain⟨v85,h86,v87,h88,v89,h90,v91,h92,hF⟩:=bn4 hF
    obtain⟨v93,h94,v95,h96,v97,h98,hF⟩:=bn3 hF
    have hF:=sR h88 hF
    obtain⟨v101,h102,v103,h104,hF⟩:=sS hF
    have hF:=sR h90 hF
    obtain⟨x107,h108,v110,h111,hF⟩:=sS hF
    refine go ?_ ?_
    exact aG (fun a w hh=>⟨x107,v97,v110,hF,(bH h108 q62),jY [0,1,2,3] hh⟩)
   refine bO ?_
   obtain⟨rfl,rfl⟩:=sm2 hF
   exact rD Jj74 ⟨x58,x64,hRl73,q62,rfl,rfl⟩ [0,1,2,3]
  refine bO ?_
  obtain rfl:=jN hF
  exact rD Jj44 ⟨x30,hRl43,q34,rfl,rfl⟩ [0,1,2,3]
 refine go ?_ ?_
 refine tT rfl ?_
 obtain⟨v112,h113,x114,h115,hF⟩:=sS hF
 refine go ?_ ?_
 refine o8 (C:=cI) rfl tyS22 rfl tyZ3 rfl h115 (fun b116=>?_)
 refine go ?_ ?_
 refine aK (bE (fun H E=>∃(x133:List Int),sZ K a0 a1 x133=some r∧x133.length=x114.length∧H=[hO cI b116 x114.length 3 x114.length x133,⟨some b3,1,40,2,1,([pB false]++[pS cI ([]:List Int)])⟩,⟨some b2,1,40,2,1,(aA.e a1)⟩,⟨some b1,1,40,2,1,(aA.e a0)⟩]∧E=[(2,.vc (pP (some b1) 0)),(3,.vc (pP (some b2) 0)),(4,.vc (pP (some b3) 0)),(7,.vc (pO b116 x114.length x114.length))]) ?_ (fun Jj140=>?_))
 ·rintro _ _ ⟨x133,hF,q137,rfl,rfl⟩
  unfold sZ at hF
  refine go ?_ ?_
  refine aF (zF rfl Tryz.underlying4) zU2 ?_
  refine gF ?_
  refine xC 0 [7,98] rfl q137 zU2 rfl ?_
  obtain⟨v141,h142,hF⟩:=aZ hF gA
  exact bV
 obtain⟨x133',hL,hRl139⟩:=aR hF
 refine fO (fun k a w=>∃(x126:List Int),∃(x132:Int),jH K a0 a1 k x126 x132=some x133'∧x126.length=x114.length∧hs _ [hO cI b116 x114.length 3 x114.length x126,⟨some b3,1,40,2,1,([pB false]++[pS cI ([]:List Int)])⟩,⟨some b2,1,40,2,1,(aA.e a1)⟩,⟨some b1,1,40,2,1,(aA.e a0)⟩] [(2,.vc (pP (some b1) 0)),(3,.vc (pP (some b2) 0)),(4,.vc (pP (some b3) 0)),(6,.vc (pS cI a1.d)),(7,.vc (pO b116 x114.length x114.length)),(47,.vc (pS cI a0.d)),(48,.vc (pI .i64 (a0.d.length:Int))),(49,.vc (pI .i64 x132))] a w) K (fun a w ⟨_,_,hF,_,_⟩=>by cases hF) (fun k a w ⟨x126,x132,hF,q130,hh⟩=>fN ?_ hh) (fun a w hh=>⟨x114,0,hL,rfl,jY [0,1,2,3] hh⟩)
 rw [jH.eq_2] at hF
 refine go ?_ ?_
 refine aD hF rfl (fun h143 hF=>?_) (fun h143 hF=>?_)
 ·refine go ?_ ?_
  refine aK ?_
  obtain⟨v144,h145,hF⟩:=aR hF
  refine go ?_ ?_
  refine aK (bE (fun H E=>∃(x162:List Int),∃(x168:Int),pJ K a1 x132 (jH K a0 a1 k) x162 x168=some x133'∧x162.length=x114.length∧H=[hO cI b116 x114.length 3 x114.length x162,⟨some b3,1,40,2,1,([pB false]++[pS cI ([]:List Int)])⟩,⟨some b2,1,40,2,1,(aA.e a1)⟩,⟨some b1,1,40,2,1,(aA.e a0)⟩]∧E=[(2,.vc (pP (some b1) 0)),(3,.vc (pP (some b2) 0)),(4,.vc (pP (some b3) 0)),(6,.vc (pS cI a1.d)),(7,.vc (pO b116 x114.length x114.length)),(8,.vc (pI .i64 x132)),(10,.vc (pI .i64 x168)),(47,.vc (pS cI a0.d)),(48,.vc (pI .i64 (a0.d.length:Int))),(49,.vc (pI .i64 x132))]) ?_ (fun Jj170=>?_))
  ·rintro _ _ ⟨x162,x168,hF,q166,rfl,rfl⟩
   unfold pJ at hF
   obtain⟨v171,h172,v173,h174,x175,h176,v178,h179,hF⟩:=bn4 hF
   refine go ?_ ?_
   exact aG (fun a w hh=>⟨x175,v178,hF,(bH h176 q166),jY [0,1,2,3] hh⟩)
  obtain⟨⟨x162',x168'⟩,hL,hRl169⟩:=aR hF
  refine fO (fun k a w=>∃(x154:List Int),∃(x160:Int),∃(x161:Int),lH K a1 x132 v144 k x154 x160 x161=some (x162',x168')∧x154.length=x114.length∧hs _ [hO cI b116 x114.length 3 x114.length x154,⟨some b3,1,40,2,1,([pB false]++[pS cI ([]:List Int)])⟩,⟨some b2,1,40,2,1,(aA.e a1)⟩,⟨some b1,1,40,2,1,(aA.e a0)⟩] [(2,.vc (pP (some b1) 0)),(3,.vc (pP (some b2) 0)),(4,.vc (pP (some b3) 0)),(6,.vc (pS cI a1.d)),(7,.vc (pO b116 x114.length x114.length)),(8,.vc (pI .i64 x132)),(9,.vc (pI .i64 v144)),(10,.vc (pI .i64 x160)),(47,.vc (pS cI a0.d)),(48,.vc (pI .i64 (a0.d.length:Int))),(49,.vc (pI .i64 x132)),(54,.vc (pS cI a1.d)),(55,.vc (pI .i64 (a1.d.length:Int))),(56,.vc (pI .i64 x161))] a w) K (fun a w ⟨_,_,_,hF,_,_⟩=>by cases hF) (fun k a w ⟨x154,x160,x161,hF,q158,hh⟩=>fN ?_ hh) (fun a w hh=>⟨x126,0,0,hL,q130,jY [0,1,2,3] hh⟩)
  rw [lH.eq_2] at hF
  refine go ?_ ?_
  refine aD hF rfl (fun h180 hF=>?_) (fun h180 hF=>?_)
  ·refine go ?_ ?_
   refine aK ?_
   obtain⟨v181,h182,v183,h184,v185,h186,v187,h188,hF⟩:=bn4 hF
   obtain⟨v189,h190,v191,h192,v193,h194,hF⟩:=bn3 hF
   have hF:=sR h184 hF
   obtain⟨v197,h198,v199,h200,hF⟩:=sS hF
   have hF:=sR h186 hF
   obtain⟨x203,h204,v206,h207,hF⟩:=sS hF
   refine go ?_ ?_
   exact aG (fun a w hh=>⟨x203,v193,v206,hF,(bH h204 q158),jY [0,1,2,3] hh⟩)
  refine bO ?_
  obtain⟨rfl,rfl⟩:=sm2 hF
  exact rD Jj170 ⟨x154,x160,hRl169,q158,rfl,rfl⟩ [0,1,2,3]
 refine bO ?_
 obtain rfl:=jN hF
 exact rD Jj140 ⟨x126,hRl139,q130,rfl,rfl⟩ [0,1,2,3]
def m7 (a0:List Int):Option (Int×Bool):=
 bif((a0.length:Int)==0) then(some (0,true)) else(bif((a0.length:Int)==1) then((bP a0 0).bind fun v3=>some (v3,true)) else(bif((a0.length:Int)==2) then((bP a0 1).bind fun v8=>(aO (v8*1000000000)).bind fun v10=>(bP a0 0).bind fun v12=>(aO (v10+v12)).bind fun v14=>some (v14,true)) else(some (0,false))))
theorem tS {a0:List Int} {r:Int×Bool} (hF:m7 a0=some r):Ct Tryz.prog 161 [.vc (pS cI a0)] (.t2 (.vc (pI .i64 r.1)) (.vc (pB r.2))):=by
 unfold m7 at hF
 refine aB Tryz.func161 rfl (by kernel_rfl) Tryz.ntmps161 rfl (fun w0 M0=>?_)
 refine go ?_ ?_
 refine aK (go ?_ ?_)
 refine aD hF rfl (fun h1 hF=>?_) (fun h1 hF=>?_)
 ·exact bV
 refine go ?_ ?_
 refine aD hF rfl (fun h2 hF=>?_) (fun h2 hF=>?_)
 ·obtain⟨v3,h4,hF⟩:=aR hF
  exact bV
 refine go ?_ ?_
 refine aD hF rfl (fun h5 hF=>?_) (fun h5 hF=>?_)
 ·refine aC ?_
  obtain⟨v8,h9,hF⟩:=aR hF
  obtain⟨v10,h11,hF⟩:=aR hF
  obtain⟨v12,h13,hF⟩:=aR hF
  obtain⟨v14,h15,hF⟩:=aR hF
  refine dr [0,1,3,7,0,16,48,127,255,511] 10 0 ?_ (fun bs7 G6=>?_)
  refine aV (aH ?_)
  exact bV
 exact bV
def oU (K:Nat) (x24:List Int) (x30:Int):Option ((List Int)×Int):=
 some (x24,x30)
def iL (K:Nat) (a0:List Int) (a1:Int):Nat→(List Int)→Int→Int→Option ((List Int)×Int)
 |0,_,_,_=>none
 |k+1,x16,x22,x23=>bif(decide (0≤x23)) then((aO (x22*1000000000)).bind fun v34=>(bP a0 x23).bind fun v36=>(aO (v34+v36)).bind fun v38=>(xP v38 a1).bind fun v42=>(wV v38 a1).bind fun v44=>(bP x16 x23).bind fun v46=>(oK x16 x23 v42).bind fun x48=>(aO (x23-1)).bind fun v52=>iL K a0 a1 k x48 v44 v52) else(some (x16,x22))
def nY (K:Nat) (a0:List Int) (a1:Int):Option ((List Int)×Int):=
 (wK (a0.length:Int) 0).bind fun x1=>(aO ((a0.length:Int)-1)).bind fun v6=>(iL K a0 a1 K x1 0 v6).bind fun(x24,x30)=>oU K x24 x30
theorem xG {K:Nat} {a0:List Int} {a1:Int} {r:(List Int)×Int} (hF:nY K a0 a1=some r):Ct Tryz.prog 171 [.vc (pS cI a0),.vc (pI .i64 a1)] (.t2 (.vc (pS cI r.1)) (.vc (pI .i64 r.2))):=by
 unfold nY at hF
 refine aB Tryz.func171 rfl (by kernel_rfl) Tryz.ntmps171 rfl (fun w0 M0=>?_)
 refine aC (aJ (aF (aP (.inr rfl)) ⟨gM cI,trivial⟩ ?_))
 obtain⟨x1,h2,hF⟩:=aR hF
 refine go ?_ ?_
 refine o8 (C:=cI) rfl tyS22 rfl tyZ3 rfl h2 (fun b3=>?_)
 obtain⟨v6,h7,hF⟩:=aR hF
 refine go ?_ ?_
 refine aK (bE (fun H E=>∃(x24:List Int),∃(x30:Int),oU K x24 x30=some r∧x24.length=x1.length∧H=[hO cI b3 x1.length 3 x1.length x24]∧E=[(6,.vc (pO b3 x1.length x1.length)),(7,.vc (pI .i64 x30))]) ?_ (fun Jj32=>?_))
 ·rintro _ _ ⟨x24,x30,hF,q28,rfl,rfl⟩
  unfold oU at hF
  refine go ?_ ?_
  refine gL (gN (sF 0 [4,6,36] rfl q28 ⟨rfl,rfl,rfl,trivial⟩ rfl ?_))
  obtain rfl:=jN hF
  exact kX (.inl rfl) Tryz.results171 (.tmp rfl (.tmp rfl .nil)) rfl rfl
 obtain⟨⟨x24',x30'⟩,hL,hRl31⟩:=aR hF
 refine fO (fun k a w=>∃(x16:List Int),∃(x22:Int),∃(x23:Int),iL K a0 a1 k x16 x22 x23=some (x24',x30')∧x16.length=x1.length∧hs _ [hO cI b3 x1.length 3 x1.length x16] [(0,.vc (pS cI a0)),(1,.vc (pI .i64 a1)),(6,.vc (pO b3 x1.length x1.length)),(7,.vc (pI .i64 x22)),(8,.vc (pI .i64 x23))] a w) K (fun a w ⟨_,_,_,hF,_,_⟩=>by cases hF) (fun k a w ⟨x16,x22,x23,hF,q20,hh⟩=>fN ?_ hh) (fun a w hh=>⟨x1,0,v6,hL,rfl,jY [0] hh⟩)
 rw [iL.eq_2] at hF
 refine go ?_ ?_
 refine aD hF rfl (fun h33 hF=>?_) (fun h33 hF=>?_)
 ·refine go ?_ ?_
  refine aK ?_
  obtain⟨v34,h35,v36,h37,v38,h39,v42,h43,hF⟩:=bn4 hF
  obtain⟨v44,h45,v46,h47,x48,h49,hF⟩:=bn3 hF
  refine go ?_ ?_
  refine rP (HsM [(0,fun G40=>[hO cI b3 x1.length 3 x1.length x16]),(1,fun G40=>[hO cI b3 x1.length 3 x1.length x48])]) [9] [0,0,0,0,12,0,0,96,31,287,1023] 11 0 [.v (.vc (pO b3 x1.length x1.length)),.v (.vc (pI .i64 x23)),.v (.vc (pI .i64 v38)),.v (.vc (pI .i64 a1)),.v (.vc (pI .i64 v42)),.v (.vc (pI .i64 v38)),.v (.vc (pI .i64 a1)),.v (.vc (pI .i64 v44)),.v (.vc (pE b3 x23 cI.n 0)),.g (fun _ _=>.any),.v (.vc (pI .i64 v44))] bB ⟨d1 0 (aP (.inl rfl)) zU1,d1 0 (aP (.inl rfl)) zU1,d1 0 (aP (.inl rfl)) zU1,d1 0 (aP (.inl rfl)) zU1,d1 0 (aGx rfl h43) zU2,⟨rfl,.run (L:=[0,1]) ⟨fun G40 A=>aP (.inl rfl),fun G40 A=>aP (.inl rfl),trivial⟩ (fun G40=>zU1)⟩,⟨rfl,.run (L:=[0,1]) ⟨fun G40 A=>aP (.inl rfl),fun G40 A=>aP (.inl rfl),trivial⟩ (fun G40=>zU1)⟩,⟨rfl,.run (L:=[0,1]) ⟨fun G40 A=>aDd rfl h45,fun G40 A=>aDd rfl h45,trivial⟩ (fun G40=>zU2)⟩,d1 0 (iC (C:=cI) 0 rfl tyS22 rfl q20 (aI h47).1 (aI h47).2.1) zU2,⟨rfl,.hvy [0] ⟨fun G40 A=>aBR (xE 0 rfl rfl h47 h49 tyO3.s),trivial⟩ (fun G40=>zU2)⟩,d1 1 (aP (.inr rfl)) zU1,trivial⟩ (fun bs41 G40=>?_)
  obtain⟨v52,h53,hF⟩:=aR hF
  refine go ?_ ?_
  exact aG (fun a w hh=>⟨x48,v44,v52,hF,(bH h49 q20),jY [0] hh⟩)
 refine bO ?_
 obtain⟨rfl,rfl⟩:=sm2 hF
 exact rD Jj32 ⟨x16,x22,hRl31,q20,rfl,rfl⟩ [0]
def oC (K:Nat) (a0:List Int) (x26:List Int) (x32:Int):Option (List Int):=
 (bP x26 (a0.length:Int)).bind fun v35=>(oK x26 (a0.length:Int) x32).bind fun x37=>some x37
def gV (K:Nat) (a0:List Int) (a1:Int):Nat→(List Int)→Int→Int→Option ((List Int)×Int)
 |0,_,_,_=>none
 |k+1,x18,x24,x25=>bif(decide (x25<(a0.length:Int))) then((bP a0 x25).bind fun v41=>(aO (v41*a1)).bind fun v43=>(aO (v43+x24)).bind fun v45=>(wV v45 1000000000).bind fun v47=>(xP v45 1000000000).bind fun v49=>(bP x18 x25).bind fun v51=>(oK x18 x25 v47).bind fun x53=>(aO (x25+1)).bind fun v56=>gV K a0 a1 k x53 v49 v56) else(some (x18,x24))
def lE (K:Nat) (a0:List Int) (a1:Int):Option (List Int):=
 (aO ((a0.length:Int)+1)).bind fun v3=>(wK v3 0).bind fun x5=>(gV K a0 a1 K x5 0 0).bind fun(x26,x32)=>oC K a0 x26 x32
theorem vW {K:Nat} {a0:List Int} {a1:Int} {r:List Int} (hF:lE K a0 a1=some r):yU Tryz.prog 175 [] [.vc (pS cI a0),.vc (pI .i64 a1)] (fun Ho q=>∃b60 c61 n59,r.length=n59∧Ho=[hO cI b60 c61 3 n59 r]∧q=.vc (pO b60 n59 c61)):=by
 unfold lE at hF
 refine aB Tryz.func175 rfl (by kernel_rfl) Tryz.ntmps175 rfl (fun w0 M0=>?_)
 refine aC (aJ (sV cI 3 rfl ?_))
 obtain⟨v3,h4,x5,h6,hF⟩:=sS hF
 refine go ?_ ?_
 refine o8 (C:=cI) rfl tyS22 rfl tyZ3 rfl h6 (fun b7=>?_)
 refine go ?_ ?_
 refine aK (bE (fun H E=>∃(x26:List Int),∃(x32:Int),oC K a0 x26 x32=some r∧x26.length=x5.length∧H=[hO cI b7 x5.length 3 x5.length x26]∧E=[(0,.vc (pS cI a0)),(5,.vc (pO b7 x5.length x5.length)),(6,.vc (pI .i64 x32))]) ?_ (fun Jj34=>?_))
 ·rintro _ _ ⟨x26,x32,hF,q30,rfl,rfl⟩
  unfold oC at hF
  obtain⟨v35,h36,x37,h38,hF⟩:=sS hF
  refine go ?_ ?_
  refine gL (gN ?_)
  obtain rfl:=jN hF
  exact aBH (.inl rfl) Tryz.results175 (.tmp rfl .nil) rfl [0] rfl (by decide) ⟨b7,x5.length,x5.length,(bH h38 q30),rfl,rfl⟩
 obtain⟨⟨x26',x32'⟩,hL,hRl33⟩:=aR hF
 refine fO (fun k a w=>∃(x18:List Int),∃(x24:Int),∃(x25:Int),gV K a0 a1 k x18 x24 x25=some (x26',x32')∧x18.length=x5.length∧hs _ [hO cI b7 x5.length 3 x5.length x18] [(0,.vc (pS cI a0)),(1,.vc (pI .i64 a1)),(5,.vc (pO b7 x5.length x5.length)),(6,.vc (pI .i64 x24)),(14,.vc (pS cI a0)),(15,.vc (pI .i64 (a0.length:Int))),(16,.vc (pI .i64 x25))] a w) K (fun a w ⟨_,_,_,hF,_,_⟩=>by cases hF) (fun k a w ⟨x18,x24,x25,hF,q22,hh⟩=>fN ?_ hh) (fun a w hh=>⟨x5,0,0,hL,rfl,jY [0] hh⟩)
 rw [gV.eq_2] at hF
 refine go ?_ ?_
 refine aD hF rfl (fun h40 hF=>?_) (fun h40 hF=>?_)
 ·refine go ?_ ?_
  refine aK ?_
  obtain⟨v41,h42,v43,h44,v45,h46,v47,h48,hF⟩:=bn4 hF
  obtain⟨v49,h50,v51,h52,x53,h54,v56,h57,hF⟩:=bn4 hF
  refine go ?_ ?_
  exact aG (fun a w hh=>⟨x53,v49,v56,hF,(bH h54 q22),jY [0] hh⟩)
 refine bO ?_
 obtain⟨rfl,rfl⟩:=sm2 hF
 exact rD Jj34 ⟨x18,x24,hRl33,q22,rfl,rfl⟩ [0]
theorem aAX {K:Nat} {a0:List Int} {a1:Int} {r:List Int} (hF:lE K a0 a1=some r):Ct Tryz.prog 175 [.vc (pS cI a0),.vc (pI .i64 a1)] (.vc (pS cI r)):=aIh (vW hF)
def pR (K:Nat) (a1:List Int) (v7:Int) (x60:List Int) (x66:List Int):Option ((List Int)×(List Int)):=
 (slL x66 0 (a1.length:Int)).bind fun x74=>(nY K x74 v7).bind fun v76=>some (x60,v76.1)
def oV (K:Nat) (a1:List Int) (x47:List Int) (x59:Int) (v157:Int) (recl72:(List Int)→(List Int)→Int→Option ((List Int)×(List Int))) (x175:List Int) (x181:Int):Option ((List Int)×(List Int)):=
 (aO (x59+(a1.length:Int))).bind fun v184=>(bP x175 v184).bind fun v186=>(aO (v186+x181)).bind fun v188=>(bP x175 v184).bind fun v190=>(oK x175 v184 v188).bind fun x192=>(bP x47 x59).bind fun v195=>(oK x47 x59 v157).bind fun x197=>(aO (x59-1)).bind fun v200=>recl72 x197 x192 v200
def gC (K:Nat) (a1:List Int) (x17:List Int) (x59:Int):Nat→(List Int)→Int→Int→Option ((List Int)×Int)
 |0,_,_,_=>none
 |k+1,x167,x173,x174=>bif(decide (x174<(a1.length:Int))) then((aO (x174+x59)).bind fun v205=>(bP x167 v205).bind fun v207=>(bP x17 x174).bind fun v209=>(aO (v207+v209)).bind fun v211=>(aO (v211+x173)).bind fun v213=>(aO (x174+x59)).bind fun v215=>(wV v213 1000000000).bind fun v217=>(xP v213 1000000000).bind fun v219=>(bP x167 v215).bind fun v221=>(oK x167 v215 v217).bind fun x223=>(aO (x174+1)).bind fun v226=>gC K a1 x17 x59 k x223 v219 v226) else(some (x167,x173))
def mO (K:Nat) (a1:List Int) (x17:List Int) (x47:List Int) (x59:Int) (x113:Int) (recl72:(List Int)→(List Int)→Int→Option ((List Int)×(List Int))) (x132:List Int) (x138:Int):Option ((List Int)×(List Int)):=
 (aO (x59+(a1.length:Int))).bind fun v141=>(bP x132 v141).bind fun v143=>(aO (v143-x138)).bind fun v145=>(bP x132 v141).bind fun v147=>(oK x132 v141 v145).bind fun x149=>(aO (x59+(a1.length:Int))).bind fun v152=>(bP x149 v152).bind fun v154=>bif(decide (v154<0)) then((aO (x113-1)).bind fun v157=>(gC K a1 x17 x59 K x149 0 0).bind fun(x175,x181)=>oV K a1 x47 x59 v157 recl72 x175 x181) else((bP x47 x59).bind fun v228=>(oK x47 x59 x113).bind fun x230=>(aO (x59-1)).bind fun v233=>recl72 x230 x149 v233)
def eD (K:Nat) (a1:List Int) (x17:List Int) (x59:Int) (x113:Int):Nat→(List Int)→Int→Int→Option ((List Int)×Int)
 |0,_,_,_=>none
 |k+1,x124,x130,x131=>bif(decide (x131<(a1.length:Int))) then((aO (x131+x59)).bind fun v238=>(bP x124 v238).bind fun v240=>(bP x17 x131).bind fun v242=>(aO (x113*v242)).bind fun v244=>(aO (v240-v244)).bind fun v246=>(aO (v246-x130)).bind fun v248=>bif(decide (v248<0)) then((aO (-v248)).bind fun v251=>(aO (v251+1000000000)).bind fun v253=>(aO (v253-1)).bind fun v255=>(xP v255 1000000000).bind fun v257=>(aO (v257*1000000000)).bind fun v259=>(aO (v248+v259)).bind fun v261=>(aO (x131+x59)).bind fun v263=>(bP x124 v263).bind fun v265=>(oK x124 v263 v261).bind fun x267=>(aO (x131+1)).bind fun v270=>eD K a1 x17 x59 x113 k x267 v257 v270) else((aO (x131+x59)).bind fun v272=>(bP x124 v272).bind fun v274=>(oK x124 v272 v248).bind fun x276=>(aO (x131+1)).bind fun v279=>eD K a1 x17 x59 x113 k x276 0 v279)) else(some (x124,x130))
def mP (K:Nat) (a1:List Int) (x17:List Int) (x47:List Int) (x53:List Int) (x59:Int) (recl72:(List Int)→(List Int)→Int→Option ((List Int)×(List Int))) (x113:Int):Option ((List Int)×(List Int)):=
 (eD K a1 x17 x59 x113 K x53 0 0).bind fun(x132,x138)=>mO K a1 x17 x47 x59 x113 recl72 x132 x138
def dH (K:Nat) (a1:List Int) (x17:List Int) (x53:List Int) (x59:Int):Nat→Int→Int→Option Int
 |0,_,_=>none
 |k+1,x111,x112=>bif(decide (1000000000≤x111)) then((aO (x111-1)).bind fun v284=>(aO ((a1.length:Int)-1)).bind fun v286=>(bP x17 v286).bind fun v288=>(aO (x112+v288)).bind fun v290=>bif(decide (1000000000≤v290)) then(some v284) else(dH K a1 x17 x53 x59 k v284 v290)) else((aO ((a1.length:Int)-2)).bind fun v293=>(bP x17 v293).bind fun v295=>(aO (x111*v295)).bind fun v297=>(aO (x112*1000000000)).bind fun v299=>(aO (x59+(a1.length:Int))).bind fun v301=>(aO (v301-2)).bind fun v303=>(bP x53 v303).bind fun v305=>(aO (v299+v305)).bind fun v307=>bif(decide (v307<v297)) then((aO (x111-1)).bind fun v310=>(aO ((a1.length:Int)-1)).bind fun v312=>(bP x17 v312).bind fun v314=>(aO (x112+v314)).bind fun v316=>bif(decide (1000000000≤v316)) then(some v310) else(dH K a1 x17 x53 x59 k v310 v316)) else(some x111))
def dW (K:Nat) (a1:List Int) (x17:List Int):Nat→(List Int)→(List Int)→Int→Option ((List Int)×(List Int))
 |0,_,_,_=>none
 |k+1,x47,x53,x59=>bif(decide (0≤x59)) then((aO (x59+(a1.length:Int))).bind fun v81=>(bP x53 v81).bind fun v83=>(aO (v83*1000000000)).bind fun v85=>(aO (x59+(a1.length:Int))).bind fun v87=>(aO (v87-1)).bind fun v89=>(bP x53 v89).bind fun v91=>(aO (v85+v91)).bind fun v93=>(aO ((a1.length:Int)-1)).bind fun v97=>(bP x17 v97).bind fun v99=>(xP v93 v99).bind fun v101=>(aO ((a1.length:Int)-1)).bind fun v103=>(bP x17 v103).bind fun v105=>(wV v93 v105).bind fun v107=>(dH K a1 x17 x53 x59 K v101 v107).bind fun x113=>mP K a1 x17 x47 x53 x59 (dW K a1 x17 k) x113) else(some (x47,x53))
def rB (K:Nat) (a0:List Int) (a1:List Int):Option ((List Int)×(List Int)):=
 (aO ((a1.length:Int)-1)).bind fun v1=>(bP a1 v1).bind fun v3=>(aO (v3+1)).bind fun v5=>(xP 1000000000 v5).bind fun v7=>(lE K a0 v7).bind fun v11=>(lE K a1 v7).bind fun v15=>(slL v15 0 (a1.length:Int)).bind fun x17=>(aO ((a0.length:Int)-(a1.length:Int))).bind fun v23=>(aO (v23+1)).bind fun v25=>(wK v25 0).bind fun x27=>(aO ((a0.length:Int)-(a1.length:Int))).bind fun v32=>(dW K a1 x17 K x27 v11 v32).bind fun(x60,x66)=>pR K a1 v7 x60 x66
theorem aBV {K:Nat} {a0:List Int} {a1:List Int} {r:(List Int)×(List Int)} (hF:rB K a0 a1=some r):Ct Tryz.prog 172 [.vc (pS cI a0),.vc (pS cI a1)] (.t2 (.vc (pS cI r.1)) (.vc (pS cI r.2))):=by
 unfold rB at hF
 refine aB Tryz.func172 rfl (by kernel_rfl) Tryz.ntmps172 rfl (fun w0 M0=>?_)
 refine aC (aJ (aF (aP (.inr rfl)) ⟨gM cI,trivial⟩ ?_))
 refine aF (aP (.inr rfl)) ⟨gM cI,trivial⟩ ?_
 obtain⟨v1,h2,v3,h4,v5,h6,v7,h8,hF⟩:=bn4 hF
 obtain⟨v11,h12,hF⟩:=aR hF
 obtain⟨v15,h16,hF⟩:=aZ hF aAX
 obtain⟨x17,h18,hF⟩:=aR hF
 refine go ?_ ?_
 refine rP (HsM [(0,fun G9=>[]),(1,fun G9=>[hO cI ((G9 2).1) ((G9 2).2) 3 v11.length v11]),(3,fun G9=>[hO cI ((G9 9).1) ((G9 9).2) 3 v11.length v11])]) [2,9] [0,0,3,0,0,31,0,64,255,63,1023] 11 0 [.v (.vc (pS cI a0)),.v (.vc (pI .i64 v7)),.g (fun b c=>.vc (pO b v11.length c)),.v (.vc (pS cI a1)),.v (.vc (pI .i64 v7)),.v (.vc (pS cI v15)),.v (.vc (pS cI a1)),.v (.vc (pI .i64 (a1.length:Int))),.v (.vc (pS cI x17)),.g (fun b c=>.vc (pO b v11.length c)),.v (.vc (pS cI x17))] bB ⟨d1 0 (aP (.inl rfl)) zU1,d1 0 (aP (.inl rfl)) zU1,⟨rfl,.hvy [0] ⟨fun G9 A=>aJ3 rfl (vW h12) rfl,trivial⟩ (fun G9=>zU2)⟩,⟨rfl,.run (L:=[0,1]) ⟨fun G9 A=>aP (.inl rfl),fun G9 A=>aP (.inl rfl),trivial⟩ (fun G9=>zU1)⟩,⟨rfl,.run (L:=[0,1]) ⟨fun G9 A=>aP (.inl rfl),fun G9 A=>aP (.inl rfl),trivial⟩ (fun G9=>zU1)⟩,d1 1 (bJ rfl h16 rfl) zU2,⟨rfl,.run (L:=[0,1,3]) ⟨fun G9 A=>aP (.inl rfl),fun G9 A=>aP (.inl rfl),fun G9 A=>aP (.inl rfl),trivial⟩ (fun G9=>zU1)⟩,⟨rfl,.run (L:=[0,1,3]) ⟨fun G9 A=>aFz rfl tyS22,fun G9 A=>aFz rfl tyS22,fun G9 A=>aFz rfl tyS22,trivial⟩ (fun G9=>zU1)⟩,⟨rfl,.run (L:=[1,3]) ⟨fun G9 A=>aBD rfl tyS22 h18,fun G9 A=>aBD rfl tyS22 h18,trivial⟩ (fun G9=>zU2)⟩,⟨rfl,.hvy [1] ⟨fun G9 A=>aGz ((G9 2).1) ((G9 2).2) (aP (.inr rfl)),trivial⟩ (fun G9=>zU1)⟩,d1 3 (aP (.inr rfl)) zU1,trivial⟩ (fun bs10 G9=>?_)
 obtain⟨v23,h24,v25,h26,x27,h28,hF⟩:=bn3 hF
 refine go ?_ ?_
 refine o8 (C:=cI) rfl tyS22 rfl tyZ3 rfl h28 (fun b29=>?_)
 have hF:=sR h24 hF
 refine go ?_ ?_
 refine aK (bE (fun H E=>∃(x60:List Int),∃(x66:List Int),pR K a1 v7 x60 x66=some r∧x60.length=x27.length∧x66.length=v11.length∧H=[hO cI b29 x27.length 3 x27.length x60,hO cI ((G9 9).1) ((G9 9).2) 3 v11.length x66]∧E=[(6,.vc (pI .i64 v7)),(7,.vc (pO ((G9 9).1) v11.length ((G9 9).2))),(9,.vc (pI .i64 (a1.length:Int))),(10,.vc (pO b29 x27.length x27.length))]) ?_ (fun Jj73=>?_))
 ·rintro _ _ ⟨x60,x66,hF,q64,q70,rfl,rfl⟩
  unfold pR at hF
  refine aH (aC (aJ (gF ?_)))
  refine gF ?_
  refine xC 1 [7,213] rfl q70 zU2 rfl ?_
  obtain⟨x74,h75,hF⟩:=aR hF
  obtain⟨v76,h77,hF⟩:=aZ hF xG
  refine go ?_ ?_
  refine gL (gN (sF 0 [4,10,220] rfl q64 ⟨rfl,rfl,rfl,trivial⟩ rfl ?_))
  obtain rfl:=jN hF
  exact kX (.inl rfl) Tryz.results172 (.tmp rfl (.tmp rfl .nil)) rfl rfl
 obtain⟨⟨x60',x66'⟩,hL,hRl72⟩:=aR hF
 refine fO (fun k a w=>∃(x47:List Int),∃(x53:List Int),∃(x59:Int),dW K a1 x17 k x47 x53 x59=some (x60',x66')∧x47.length=x27.length∧x53.length=v11.length∧hs _ [hO cI b29 x27.length 3 x27.length x47,hO cI ((G9 9).1) ((G9 9).2) 3 v11.length x53] [(6,.vc (pI .i64 v7)),(7,.vc (pO ((G9 9).1) v11.length ((G9 9).2))),(8,.vc (pS cI x17)),(9,.vc (pI .i64 (a1.length:Int))),(10,.vc (pO b29 x27.length x27.length)),(11,.vc (pI .i64 x59))] a w) K (fun a w ⟨_,_,_,hF,_,_,_⟩=>by cases hF) (fun k a w ⟨x47,x53,x59,hF,q51,q57,hh⟩=>fN ?_ hh) (fun a w hh=>⟨x27,v11,v23,hL,rfl,rfl,jY [0,1] hh⟩)
 rw [dW.eq_2] at hF
 refine go ?_ ?_
 refine aD hF rfl (fun h78 hF=>?_) (fun h78 hF=>?_)
 ·refine go ?_ ?_
  refine aK (aGO (aC ?_))
  obtain⟨v81,h82,hF⟩:=aR hF
  obtain⟨v83,h84,hF⟩:=aR hF
  obtain⟨v85,h86,hF⟩:=aR hF
  have hF:=sR h82 hF
  obtain⟨v89,h90,hF⟩:=aR hF
  obtain⟨v91,h92,hF⟩:=aR hF
  obtain⟨v93,h94,hF⟩:=aR hF
  refine dr [0,0,0,6,15,31,63,0,0,0,768,1792,3968,8064,16383,32767] 16 0 ?_ (fun bs80 G79=>?_)
  have hF:=sR h2 hF
  obtain⟨v99,h100,v101,h102,hF⟩:=sS hF
  have hF:=sR h2 hF
  have hF:=sR h100 hF
  obtain⟨v107,h108,hF⟩:=aR hF
  refine go ?_ ?_
  refine dr [0,0,0,4,14,30,63,0,0,0,512,1792,3840,8064,127,32767] 16 0 ?_ (fun bs96 G95=>?_)
  refine go ?_ ?_
  refine aK (bE (fun H E=>∃(x113:Int),mP K a1 x17 x47 x53 x59 (dW K a1 x17 k) x113=some (x60',x66')∧H=[hO cI b29 x27.length 3 x27.length x47,hO cI ((G9 9).1) ((G9 9).2) 3 v11.length x53]∧E=[(6,.vc (pI .i64 v7)),(7,.vc (pO ((G9 9).1) v11.length ((G9 9).2))),(8,.vc (pS cI x17)),(9,.vc (pI .i64 (a1.length:Int))),(10,.vc (pO b29 x27.length x27.length)),(11,.vc (pI .i64 x59)),(13,.vc (pI .i64 x113))]) ?_ (fun Jj115=>?_))
  ·rintro _ _ ⟨x113,hF,rfl,rfl⟩
   unfold mP at hF
   refine go ?_ ?_
   refine aK (bE (fun H E=>∃(x132:List Int),∃(x138:Int),mO K a1 x17 x47 x59 x113 (dW K a1 x17 k) x132 x138=some (x60',x66')∧x132.length=v11.length∧H=[hO cI b29 x27.length 3 x27.length x47,hO cI ((G9 9).1) ((G9 9).2) 3 v11.length x132]∧E=[(6,.vc (pI .i64 v7)),(7,.vc (pO ((G9 9).1) v11.length ((G9 9).2))),(8,.vc (pS cI x17)),(9,.vc (pI .i64 (a1.length:Int))),(10,.vc (pO b29 x27.length x27.length)),(11,.vc (pI .i64 x59)),(13,.vc (pI .i64 x113)),(15,.vc (pI .i64 x138))]) ?_ (fun Jj140=>?_))
   ·rintro _ _ ⟨x132,x138,hF,q136,rfl,rfl⟩
    unfold mO at hF
    have hF:=sR h82 hF
    obtain⟨v143,h144,v145,h146,hF⟩:=sS hF
    have hF:=sR h144 hF
    obtain⟨x149,h150,hF⟩:=aR hF
    have hF:=sR h82 hF
    obtain⟨v154,h155,hF⟩:=aR hF
    refine go ?_ ?_
    refine aD hF rfl (fun h156 hF=>?_) (fun h156 hF=>?_)
    ·obtain⟨v157,h158,hF⟩:=aR hF
     refine go ?_ ?_
     refine aK (bE (fun H E=>∃(x175:List Int),∃(x181:Int),oV K a1 x47 x59 v157 (dW K a1 x17 k) x175 x181=some (x60',x66')∧x175.length=v11.length∧H=[hO cI b29 x27.length 3 x27.length x47,hO cI ((G9 9).1) ((G9 9).2) 3 v11.length x175]∧E=[(6,.vc (pI .i64 v7)),(7,.vc (pO ((G9 9).1) v11.length ((G9 9).2))),(8,.vc (pS cI x17)),(9,.vc (pI .i64 (a1.length:Int))),(10,.vc (pO b29 x27.length x27.length)),(11,.vc (pI .i64 x59)),(13,.vc (pI .i64 v157)),(15,.vc (pI .i64 x181))]) ?_ (fun Jj183=>?_))
     ·rintro _ _ ⟨x175,x181,hF,q179,rfl,rfl⟩
      unfold oV at hF
      have hF:=sR h82 hF
      obtain⟨v186,h187,v188,h189,hF⟩:=sS hF
      have hF:=sR h187 hF
      obtain⟨x192,h193,v195,h196,x197,h198,v200,h201,hF⟩:=bn4 hF
      refine go ?_ ?_
      exact aG (fun a w hh=>⟨x197,x192,v200,hF,(bH h198 q51),(bH h193 q179),jY [0,1] hh⟩)
     obtain⟨⟨x175',x181'⟩,hL,hRl182⟩:=aR hF
     refine fO (fun k a w=>∃(x167:List Int),∃(x173:Int),∃(x174:Int),gC K a1 x17 x59 k x167 x173 x174=some (x175',x181')∧x167.length=v11.length∧hs _ [hO cI b29 x27.length 3 x27.length x47,hO cI ((G9 9).1) ((G9 9).2) 3 v11.length x167] [(6,.vc (pI .i64 v7)),(7,.vc (pO ((G9 9).1) v11.length ((G9 9).2))),(8,.vc (pS cI x17)),(9,.vc (pI .i64 (a1.length:Int))),(10,.vc (pO b29 x27.length x27.length)),(11,.vc (pI .i64 x59)),(13,.vc (pI .i64 v157)),(15,.vc (pI .i64 x173)),(172,.vc (pI .i64 (a1.length:Int))),(173,.vc (pI .i64 x174))] a w) K (fun a w ⟨_,_,_,hF,_,_⟩=>by cases hF) (fun k a w ⟨x167,x173,x174,hF,q171,hh⟩=>fN ?_ hh) (fun a w hh=>⟨x149,0,0,hL,(bH h150 q136),jY [0,1] hh⟩)
     rw [gC.eq_2] at hF
     refine go ?_ ?_
     refine aD hF rfl (fun h202 hF=>?_) (fun h202 hF=>?_)
     ·refine go ?_ ?_
      refine aK ?_
      obtain⟨v205,h206,v207,h208,v209,h210,v211,h212,hF⟩:=bn4 hF
      obtain⟨v213,h214,hF⟩:=aR hF
      refine go ?_ ?_
      refine dr [0,0,0,6,15,31,0,0,192,448,1023,0,4095,8191] 14 0 ?_ (fun bs204 G203=>?_)
      have hF:=sR h206 hF
      obtain⟨v217,h218,v219,h220,hF⟩:=sS hF
      have hF:=sR h208 hF
      obtain⟨x223,h224,v226,h227,hF⟩:=sS hF
      refine go ?_ ?_
      exact aG (fun a w hh=>⟨x223,v219,v226,hF,(bH h224 q171),jY [0,1] hh⟩)
     refine bO ?_
     obtain⟨rfl,rfl⟩:=sm2 hF
     exact rD Jj183 ⟨x167,x173,hRl182,q171,rfl,rfl⟩ [0,1]
    obtain⟨v228,h229,x230,h231,v233,h234,hF⟩:=bn3 hF
    refine go ?_ ?_
    exact aG (fun a w hh=>⟨x230,x149,v233,hF,(bH h231 q51),(bH h150 q136),jY [0,1] hh⟩)
   obtain⟨⟨x132',x138'⟩,hL,hRl139⟩:=aR hF
   refine fO (fun k a w=>∃(x124:List Int),∃(x130:Int),∃(x131:Int),eD K a1 x17 x59 x113 k x124 x130 x131=some (x132',x138')∧x124.length=v11.length∧hs _ [hO cI b29 x27.length 3 x27.length x47,hO cI ((G9 9).1) ((G9 9).2) 3 v11.length x124] [(6,.vc (pI .i64 v7)),(7,.vc (pO ((G9 9).1) v11.length ((G9 9).2))),(8,.vc (pS cI x17)),(9,.vc (pI .i64 (a1.length:Int))),(10,.vc (pO b29 x27.length x27.length)),(11,.vc (pI .i64 x59)),(13,.vc (pI .i64 x113)),(15,.vc (pI .i64 x130)),(117,.vc (pI .i64 (a1.length:Int))),(118,.vc (pI .i64 x131))] a w) K (fun a w ⟨_,_,_,hF,_,_⟩=>by cases hF) (fun k a w ⟨x124,x130,x131,hF,q128,hh⟩=>fN ?_ hh) (fun a w hh=>⟨x53,0,0,hL,q57,jY [0,1] hh⟩)
   rw [eD.eq_2] at hF
   refine go ?_ ?_
   refine aD hF rfl (fun h235 hF=>?_) (fun h235 hF=>?_)
   ·refine go ?_ ?_
    refine aK ?_
    obtain⟨v238,h239,v240,h241,v242,h243,v244,h245,hF⟩:=bn4 hF
    obtain⟨v246,h247,v248,h249,hF⟩:=sS hF
    refine go ?_ ?_
    refine dr [0,0,0,6,15,31,0,0,0,384,896,1984,4095,0,16383,32767] 16 0 ?_ (fun bs237 G236=>?_)
    refine go ?_ ?_
    refine aD hF rfl (fun h250 hF=>?_) (fun h250 hF=>?_)
    ·obtain⟨v251,h252,v253,h254,v255,h256,v257,h258,hF⟩:=bn4 hF
     obtain⟨v259,h260,v261,h262,hF⟩:=sS hF
     have hF:=sR h239 hF
     have hF:=sR h241 hF
     obtain⟨x267,h268,v270,h271,hF⟩:=sS hF
     refine go ?_ ?_
     exact aG (fun a w hh=>⟨x267,v257,v270,hF,(bH h268 q128),jY [0,1] hh⟩)
    have hF:=sR h239 hF
    have hF:=sR h241 hF
    obtain⟨x276,h277,v279,h280,hF⟩:=sS hF
    refine go ?_ ?_
    exact aG (fun a w hh=>⟨x276,0,v279,hF,(bH h277 q128),jY [0,1] hh⟩)
   refine bO ?_
   obtain⟨rfl,rfl⟩:=sm2 hF
   exact rD Jj140 ⟨x124,x130,hRl139,q128,rfl,rfl⟩ [0,1]
  obtain⟨x113',hL,hRl114⟩:=aR hF
  refine fO (fun k a w=>∃(x111:Int),∃(x112:Int),dH K a1 x17 x53 x59 k x111 x112=some x113'∧hs _ [hO cI b29 x27.length 3 x27.length x47,hO cI ((G9 9).1) ((G9 9).2) 3 v11.length x53] [(6,.vc (pI .i64 v7)),(7,.vc (pO ((G9 9).1) v11.length ((G9 9).2))),(8,.vc (pS cI x17)),(9,.vc (pI .i64 (a1.length:Int))),(10,.vc (pO b29 x27.length x27.length)),(11,.vc (pI .i64 x59)),(13,.vc (pI .i64 x111)),(14,.vc (pI .i64 x112))] a w) K (fun a w ⟨_,_,hF,_⟩=>by cases hF) (fun k a w ⟨x111,x112,hF,hh⟩=>fN ?_ hh) (fun a w hh=>⟨v101,v107,hL,jY [0,1] hh⟩)
  rw [dH.eq_2] at hF
  refine aC (aC ?_)
  rcases Bool.eq_false_or_eq_true (decide (1000000000≤x111)) with h283|h283
  ·have hF:=rA h283 hF
   refine drb [0,1,3,7,7,7,39,119,247,511,7,1031,7,7,7,24583,57351,126983,258055,523271,1048575,2097151] 22 0 ?_ (fun bs282 G281=>?_)
   refine aV (aH (iR rfl ?_))
   refine f7 (aH (aK ?_))
   obtain⟨v284,h285,hF⟩:=aR hF
   have hF:=sR h2 hF
   have hF:=sR h100 hF
   obtain⟨v290,h291,hF⟩:=aR hF
   refine go ?_ ?_
   refine aD hF rfl (fun h292 hF=>?_) (fun h292 hF=>?_)
   ·refine bO ?_
    obtain rfl:=jN hF
    exact rD Jj115 ⟨v284,hRl114,rfl,rfl⟩ [0,1]
   refine f7 (y7 ?_)
   exact aG (fun a w hh=>⟨v284,v290,hF,jY [0,1] hh⟩)
  have hF:=pD h283 hF
  obtain⟨v293,h294,hF⟩:=aR hF
  obtain⟨v295,h296,hF⟩:=aR hF
  obtain⟨v297,h298,hF⟩:=aR hF
  obtain⟨v299,h300,hF⟩:=aR hF
  have hF:=sR h82 hF
  obtain⟨v303,h304,hF⟩:=aR hF
  obtain⟨v305,h306,hF⟩:=aR hF
  obtain⟨v307,h308,hF⟩:=aR hF
  refine drb [0,1,3,7,7,7,39,119,247,511,7,1031,7,7,7,24583,57351,126983,258055,523271,1048575,2097151] 22 0 ?_ (fun bs282 G281=>?_)
  refine aV (aH (aD hF rfl (fun h309 hF=>?_) (fun h309 hF=>?_)))
  ·refine f7 (aH (aK ?_))
   obtain⟨v310,h311,hF⟩:=aR hF
   have hF:=sR h2 hF
   have hF:=sR h100 hF
   obtain⟨v316,h317,hF⟩:=aR hF
   refine go ?_ ?_
   refine aD hF rfl (fun h318 hF=>?_) (fun h318 hF=>?_)
   ·refine bO ?_
    obtain rfl:=jN hF
    exact rD Jj115 ⟨v310,hRl114,rfl,rfl⟩ [0,1]
   refine f7 (y7 ?_)
   exact aG (fun a w hh=>⟨v310,v316,hF,jY [0,1] hh⟩)
  refine bO ?_
  obtain rfl:=jN hF
  exact rD Jj115 ⟨x111,hRl114,rfl,rfl⟩ [0,1]
 refine bO ?_
 obtain⟨rfl,rfl⟩:=sm2 hF
 exact rD Jj73 ⟨x47,x53,hRl72,q51,q57,rfl,rfl⟩ [0,1]
def kS (K:Nat) (a0:List Int) (a1:List Int):Option (aA×aA):=
 (eN K a0 a1).bind fun v5=>bif(decide (v5<0)) then((dK K false a0).bind fun v8=>some ((⟨false,([]:List Int)⟩:aA),v8)) else(bif((a1.length:Int)==1) then((bP a1 0).bind fun v11=>(nY K a0 v11).bind fun v13=>(dK K false v13.1).bind fun v15=>(dR false (IntKind.u64.wrap v13.2)).bind fun v17=>some (v15,v17)) else((rB K a0 a1).bind fun v19=>(dK K false v19.1).bind fun v21=>(dK K false v19.2).bind fun v23=>some (v21,v23)))
def lJ (K:Nat) (a0:List Int) (a1:List Int):Option (aA×aA):=
 (m7 a0).bind fun v25=>bif v25.2 then((m7 a1).bind fun v28=>bif v28.2 then((xP v25.1 v28.1).bind fun v33=>(dR false (IntKind.u64.wrap v33)).bind fun v35=>(wV v25.1 v28.1).bind fun v37=>(dR false (IntKind.u64.wrap v37)).bind fun v39=>some (v35,v39)) else(kS K a0 a1)) else(kS K a0 a1)
theorem tH {K:Nat} {a0:List Int} {a1:List Int} {r:aA×aA} (hF:lJ K a0 a1=some r):Ct Tryz.prog 162 [.vc (pS cI a0),.vc (pS cI a1)] (.t2 (.va (aA.e r.1)) (.va (aA.e r.2))):=by
 unfold lJ at hF
 refine aB Tryz.func162 rfl (by kernel_rfl) Tryz.ntmps162 rfl (fun w0 M0=>?_)
 refine aC (aJ (aE rfl tyZ40 (fun b1=>?_)))
 refine aE rfl tyZ40 (fun b2=>?_)
 refine aV (aH (aC (w4 (fun H E=>kS K a0 a1=some r∧H=[⟨some b2,1,40,2,1,([pB false]++[pS cI ([]:List Int)])⟩,⟨some b1,1,40,2,1,([pB false]++[pS cI ([]:List Int)])⟩]∧E=[(0,.vc (pS cI a0)),(1,.vc (pS cI a1)),(4,.vc (pP (some b1) 0)),(5,.vc (pP (some b2) 0))]) ?_ (fun Jj4=>?_))))
 ·rintro _ _ ⟨hF,rfl,rfl⟩
  unfold kS at hF
  obtain⟨v5,h6,hF⟩:=aZ hF lF
  refine go ?_ ?_
  refine aD hF rfl (fun h7 hF=>?_) (fun h7 hF=>?_)
  ·refine aC (aJ (aF (fK (is:=[]) (xs:=[]) (ps:=[]) rfl tyB40 rfl rfl trivial rfl) trivial ?_))
   obtain⟨v8,h9,hF⟩:=aZ hF gA
   exact bV
  refine go ?_ ?_
  refine aD hF rfl (fun h10 hF=>?_) (fun h10 hF=>?_)
  ·obtain⟨v11,h12,hF⟩:=aR hF
   obtain⟨v13,h14,hF⟩:=aZ hF xG
   obtain⟨v15,h16,hF⟩:=aZ hF gA
   refine go ?_ ?_
   refine aF (aBv rfl ⟨_,Tryz.underlying3⟩ Tryz.underlying131) zU1 ?_
   obtain⟨v17,h18,hF⟩:=aZ hF iM
   exact bV
  obtain⟨v19,h20,hF⟩:=aZ hF aBV
  obtain⟨v21,h22,hF⟩:=aZ hF gA
  obtain⟨v23,h24,hF⟩:=aZ hF gA
  exact bV
 obtain⟨v25,h26,hF⟩:=aZ hF tS
 refine go ?_ ?_
 refine aD hF rfl (fun h27 hF=>?_) (fun h27 hF=>?_)
 ·obtain⟨v28,h29,hF⟩:=aZ hF tS
  refine go ?_ ?_
  refine aD hF rfl (fun h30 hF=>?_) (fun h30 hF=>?_)
  ·refine aC ?_
   obtain⟨v33,h34,hF⟩:=aR hF
   obtain⟨v35,h36,hF⟩:=aZ hF iM
   obtain⟨v37,h38,hF⟩:=aR hF
   obtain⟨v39,h40,hF⟩:=aZ hF iM
   refine jI [0,0,3,7,15,0,0,96,224,511,1023,2047] 10 2 [.v (.vc (pI .i64 v25.1)),.v (.vc (pI .i64 v28.1)),.v (.vc (pI .i64 v33)),.v (.vc (pI .u64 (IntKind.u64.wrap v33))),.v (.va (aA.e v35)),.v (.vc (pI .i64 v25.1)),.v (.vc (pI .i64 v28.1)),.v (.vc (pI .i64 v37)),.v (.vc (pI .u64 (IntKind.u64.wrap v37))),.v (.va (aA.e v39))] bB ⟨d0 (aP (.inl rfl)) zU1,d0 (aP (.inl rfl)) zU1,d0 (aGx rfl h34) zU2,⟨rfl,.run (L:=[0]) ⟨fun G31 A=>aBv rfl ⟨_,Tryz.underlying3⟩ Tryz.underlying131,trivial⟩ (fun G31=>zU1)⟩,d0 (bJ rfl h36 rfl) ⟨k_B _,rfl,trivial⟩,d0 (aP (.inl rfl)) zU1,d0 (aP (.inl rfl)) zU1,d0 (aDd rfl h38) zU2,⟨rfl,.run (L:=[0]) ⟨fun G31 A=>aBv rfl ⟨_,Tryz.underlying3⟩ Tryz.underlying131,trivial⟩ (fun G31=>zU1)⟩,d0 (bJ rfl h40 rfl) ⟨k_B _,rfl,trivial⟩,trivial⟩ (fun bs32 G31=>?_)
   exact bV
  refine f7 ?_
  exact rD Jj4 ⟨hF,rfl,rfl⟩ [0,1]
 refine f7 ?_
 exact rD Jj4 ⟨hF,rfl,rfl⟩ [0,1]
def tQ (K:Nat) (x14:aA):Option aA:=
 some x14
def qY (K:Nat) (x28:Int):Option (LR aA aA):=
 (dR false (IntKind.u64.wrap x28)).bind fun v31=>some (.ret v31)
def iS (K:Nat):Nat→Int→Int→Option Int
 |0,_,_=>none
 |k+1,x26,x27=>bif(decide (0<x27)) then((wV x26 x27).bind fun v36=>iS K k x27 v36) else(some x26)
def gJ (K:Nat):Nat→aA→aA→Option (LR aA aA)
 |0,_,_=>none
 |k+1,x12,x13=>bif(decide (0<(x13.d.length:Int))) then((m7 x12.d).bind fun v18=>(m7 x13.d).bind fun v20=>bif v18.2 then(bif v20.2 then((iS K K v18.1 v20.1).bind fun x28=>qY K x28) else((lJ K x12.d x13.d).bind fun v38=>gJ K k x13 v38.2)) else((lJ K x12.d x13.d).bind fun v44=>gJ K k x13 v44.2)) else(some (.go x12))
def qE (K:Nat) (a0:aA) (a1:aA):Option aA:=
 (dK K false a0.d).bind fun v6=>(dK K false a1.d).bind fun v8=>(gJ K K v6 v8).bind fun o=>match o with| .ret r=>some r| .go x14=>tQ K x14
theorem zD {K:Nat} {a0:aA} {a1:aA} {r:aA} (hF:qE K a0 a1=some r):Ct Tryz.prog 131 [.va (aA.e a0),.va (aA.e a1)] (.va (aA.e r)):=by
 unfold qE at hF
 refine aB Tryz.func131 rfl (by kernel_rfl) Tryz.ntmps131 rfl (fun w0 M0=>?_)
 refine aC (aJ (dE rfl rfl trivial (fun b1=>?_)))
 refine dE rfl rfl trivial (fun b2=>?_)
 refine aE rfl tyZ40 (fun b3=>?_)
 obtain⟨v6,h7,hF⟩:=aZ hF gA
 obtain⟨v8,h9,hF⟩:=aZ hF gA
 refine go ?_ ?_
 refine dr [0,1,3,0,8,31,0,0,255,511] 8 2 ?_ (fun bs5 G4=>?_)
 refine go ?_ ?_
 refine aK (bE (fun H E=>∃(x14:aA),tQ K x14=some r∧H=[⟨some (bs5 6),1,40,2,1,(aA.e x14)⟩,⟨some b3,1,40,2,1,([pB false]++[pS cI ([]:List Int)])⟩]∧E=[(4,.vc (pP (some b3) 0)),(5,.vc (pP (some (bs5 6)) 0))]) ?_ (fun Jj16=>?_))
 ·rintro _ _ ⟨x14,hF,rfl,rfl⟩
  unfold tQ at hF
  exact bV
 obtain⟨ol15,hL,hRl15⟩:=aR hF
 refine fO (fun k a w=>∃(x12:aA),∃(x13:aA),gJ K k x12 x13=some ol15∧hs _ [⟨some (bs5 6),1,40,2,1,(aA.e x12)⟩,⟨some (bs5 7),1,40,2,1,(aA.e x13)⟩,⟨some b3,1,40,2,1,([pB false]++[pS cI ([]:List Int)])⟩] [(4,.vc (pP (some b3) 0)),(5,.vc (pP (some (bs5 6)) 0)),(6,.vc (pP (some (bs5 7)) 0))] a w) K (fun a w ⟨_,_,hF,_⟩=>by cases hF) (fun k a w ⟨x12,x13,hF,hh⟩=>fN ?_ hh) (fun a w hh=>⟨v6,v8,hL,jY [0,1,2] hh⟩)
 rw [gJ.eq_2] at hF
 refine go ?_ ?_
 refine aD hF rfl (fun h17 hF=>?_) (fun h17 hF=>?_)
 ·refine f7 (aH (aK ?_))
  obtain⟨v18,h19,hF⟩:=aZ hF tS
  obtain⟨v20,h21,hF⟩:=aZ hF tS
  refine go ?_ ?_
  refine dG hF (fun h22 hF=>?_) (fun h22 hF=>?_)
  ·refine go ?_ ?_
   refine aD hF rfl (fun h23 hF=>?_) (fun h23 hF=>?_)
   ·refine aC (aK (bE (fun H E=>∃(x28:Int),qY K x28=some ol15∧H=[⟨some b3,1,40,2,1,([pB false]++[pS cI ([]:List Int)])⟩]∧E=[(4,.vc (pP (some b3) 0)),(7,.vc (pI .i64 x28))]) ?_ (fun Jj30=>?_)))
    ·rintro _ _ ⟨x28,hF,rfl,rfl⟩
     unfold qY at hF
     refine go ?_ ?_
     refine aF (aBv rfl ⟨_,Tryz.underlying3⟩ Tryz.underlying131) zU1 ?_
     obtain⟨v31,h32,hF⟩:=aZ hF iM
     exact bV
    obtain⟨x28',hL,hRl29⟩:=aR hF
    refine fO (fun k a w=>∃(x26:Int),∃(x27:Int),iS K k x26 x27=some x28'∧hs _ [⟨some b3,1,40,2,1,([pB false]++[pS cI ([]:List Int)])⟩] [(4,.vc (pP (some b3) 0)),(7,.vc (pI .i64 x26)),(9,.vc (pI .i64 x27))] a w) K (fun a w ⟨_,_,hF,_⟩=>by cases hF) (fun k a w ⟨x26,x27,hF,hh⟩=>fN ?_ hh) (fun a w hh=>⟨v18.1,v20.1,hL,jY [2] hh⟩)
    rw [iS.eq_2] at hF
    refine go ?_ ?_
    refine aD hF rfl (fun h33 hF=>?_) (fun h33 hF=>?_)
    ·refine f7 (aH (aK ?_))
     obtain⟨v36,h37,hF⟩:=aR hF
     refine dr [0,0,0,6,3,31] 6 0 ?_ (fun bs35 G34=>?_)
     refine aV (y7 ?_)
     exact aG (fun a w hh=>⟨x27,v36,hF,jY [0] hh⟩)
    refine bO ?_
    obtain rfl:=jN hF
    exact rD Jj30 ⟨x26,hRl29,rfl,rfl⟩ [0]
   obtain⟨v38,h39,hF⟩:=aZ hF tH
   refine go ?_ ?_
   refine aE rfl tyZ40 (fun b40=>?_)
   refine aE rfl tyZ40 (fun b41=>?_)
   refine go ?_ ?_
   refine rP (HsM [(0,fun G42=>[⟨some b41,1,40,2,1,(aA.e v38.2)⟩,⟨some b40,1,40,2,1,(aA.e v38.1)⟩,⟨some (bs5 6),1,40,2,1,(aA.e x12)⟩,⟨some (bs5 7),1,40,2,1,(aA.e x13)⟩,⟨some b3,1,40,2,1,([pB false]++[pS cI ([]:List Int)])⟩]),(1,fun G42=>[⟨some b41,1,40,2,1,(aA.e v38.2)⟩,⟨some b40,1,40,2,1,(aA.e v38.1)⟩,⟨some (bs5 6),1,40,2,1,(aA.e x13)⟩,⟨some (bs5 7),1,40,2,1,(aA.e x13)⟩,⟨some b3,1,40,2,1,([pB false]++[pS cI ([]:List Int)])⟩])]) [2] [0,0,1,7] 3 1 [.v (.va (aA.e x13)),.v (.va (aA.e v38.2)),.g (fun _ _=>.any)] bB ⟨d1 0 (fQ 3 2 rfl rfl rfl rfl (.agg tyA40)) zU1,⟨rfl,.run (L:=[0,1]) ⟨fun G42 A=>fQ 0 2 rfl rfl rfl rfl (.agg tyA40),fun G42 A=>fQ 0 2 rfl rfl rfl rfl (.agg tyA40),trivial⟩ (fun G42=>zU1)⟩,⟨rfl,.hvy [0] ⟨fun G42 A=>aBR (t_s 2 rfl rfl rfl tyA40.s),trivial⟩ (fun G42=>zU2)⟩,trivial⟩ (fun bs43 G42=>?_)
   refine go ?_ ?_
   exact aG (fun a w hh=>⟨x13,v38.2,hF,jY [2,3,4] hh⟩)
  refine go ?_ ?_
  refine tT rfl ?_
  obtain⟨v44,h45,hF⟩:=aZ hF tH
  refine go ?_ ?_
  refine aE rfl tyZ40 (fun b46=>?_)
  refine aE rfl tyZ40 (fun b47=>?_)
  refine go ?_ ?_
  refine rP (HsM [(0,fun G48=>[⟨some b47,1,40,2,1,(aA.e v44.2)⟩,⟨some b46,1,40,2,1,(aA.e v44.1)⟩,⟨some (bs5 6),1,40,2,1,(aA.e x12)⟩,⟨some (bs5 7),1,40,2,1,(aA.e x13)⟩,⟨some b3,1,40,2,1,([pB false]++[pS cI ([]:List Int)])⟩]),(1,fun G48=>[⟨some b47,1,40,2,1,(aA.e v44.2)⟩,⟨some b46,1,40,2,1,(aA.e v44.1)⟩,⟨some (bs5 6),1,40,2,1,(aA.e x13)⟩,⟨some (bs5 7),1,40,2,1,(aA.e x13)⟩,⟨some b3,1,40,2,1,([pB false]++[pS cI ([]:List Int)])⟩])]) [2] [0,0,1,7] 3 1 [.v (.va (aA.e x13)),.v (.va (aA.e v44.2)),.g (fun _ _=>.any)] bB ⟨d1 0 (fQ 3 2 rfl rfl rfl rfl (.agg tyA40)) zU1,⟨rfl,.run (L:=[0,1]) ⟨fun G48 A=>fQ 0 2 rfl rfl rfl rfl (.agg tyA40),fun G48 A=>fQ 0 2 rfl rfl rfl rfl (.agg tyA40),trivial⟩ (fun G48=>zU1)⟩,⟨rfl,.hvy [0] ⟨fun G48 A=>aBR (t_s 2 rfl rfl rfl tyA40.s),trivial⟩ (fun G48=>zU2)⟩,trivial⟩ (fun bs49 G48=>?_)
  refine go ?_ ?_
  exact aG (fun a w hh=>⟨x13,v44.2,hF,jY [2,3,4] hh⟩)
 refine bO ?_
 obtain rfl:=jN hF
 exact rD Jj16 ⟨x12,hRl15,rfl,rfl⟩ [0,2]
def kA (K:Nat) (a0:aA) (a1:aA) (x11:aA) (x12:aA):Option (aA×aA):=
 bif(a0.neg != a1.neg) then(some ((⟨(decide (0<(x12.d.length:Int))),x12.d⟩:aA),x11)) else(some ((⟨false,x12.d⟩:aA),x11))
def qD (K:Nat) (a0:aA) (a1:aA):Option (aA×aA):=
 bif((a1.d.length:Int)==0) then(some ((⟨false,([]:List Int)⟩:aA),(⟨false,([]:List Int)⟩:aA))) else((lJ K a0.d a1.d).bind fun v6=>bif a0.neg then(bif(decide (0<(v6.2.d.length:Int))) then((nC K v6.1.d [1]).bind fun v21=>(dK K false v21).bind fun v23=>(kU K a1.d v6.2.d).bind fun v25=>(dK K false v25).bind fun v27=>kA K a0 a1 v27 v23) else(kA K a0 a1 v6.2 v6.1)) else(kA K a0 a1 v6.2 v6.1))
theorem yW {K:Nat} {a0:aA} {a1:aA} {r:aA×aA} (hF:qD K a0 a1=some r):Ct Tryz.prog 133 [.va (aA.e a0),.va (aA.e a1)] (.t2 (.va (aA.e r.1)) (.va (aA.e r.2))):=by
 unfold qD at hF
 refine aB Tryz.func133 rfl (by kernel_rfl) Tryz.ntmps133 rfl (fun w0 M0=>?_)
 refine aC (aJ (dE rfl rfl trivial (fun b1=>?_)))
 refine dE rfl rfl trivial (fun b2=>?_)
 refine aE rfl tyZ40 (fun b3=>?_)
 refine aE rfl tyZ40 (fun b4=>?_)
 refine go ?_ ?_
 refine aD hF rfl (fun h5 hF=>?_) (fun h5 hF=>?_)
 ·refine aC (aJ (aF (fK (is:=[]) (xs:=[]) (ps:=[]) rfl tyB40 rfl rfl trivial rfl) trivial ?_))
  refine aF (fK (is:=[]) (xs:=[]) (ps:=[]) rfl tyB40 rfl rfl trivial rfl) trivial ?_
  exact bV
 obtain⟨v6,h7,hF⟩:=aZ hF tH
 refine go ?_ ?_
 refine aE rfl tyZ40 (fun b8=>?_)
 refine aE rfl tyZ40 (fun b9=>?_)
 refine lW (t_s 1 rfl rfl rfl tyA40.s) zU2 ?_
 refine lW (t_s 0 rfl rfl rfl tyA40.s) zU2 ?_
 refine aV (aH (aC (w4 (fun H E=>∃(x11:aA),∃(x12:aA),kA K a0 a1 x11 x12=some r∧H=[⟨some b9,1,40,2,1,(aA.e x11)⟩,⟨some b8,1,40,2,1,(aA.e x12)⟩,⟨some b4,1,40,2,1,([pB false]++[pS cI ([]:List Int)])⟩,⟨some b3,1,40,2,1,([pB false]++[pS cI ([]:List Int)])⟩,⟨some b2,1,40,2,1,(aA.e a1)⟩,⟨some b1,1,40,2,1,(aA.e a0)⟩]∧E=[(2,.vc (pP (some b1) 0)),(3,.vc (pP (some b2) 0)),(4,.vc (pP (some b3) 0)),(5,.vc (pP (some b4) 0)),(6,.vc (pP (some b8) 0)),(7,.vc (pP (some b9) 0))]) ?_ (fun Jj13=>?_))))
 ·rintro _ _ ⟨x11,x12,hF,rfl,rfl⟩
  unfold kA at hF
  refine go ?_ ?_
  refine aF (zF rfl Tryz.underlying4) zU2 ?_
  refine gF ?_
  refine dG hF (fun h14 hF=>?_) (fun h14 hF=>?_)
  ·refine go ?_ ?_
   refine rP (HsM [(0,fun G15=>[⟨some b9,1,40,2,1,(aA.e x11)⟩,⟨some b8,1,40,2,1,([pB (decide (0<(x12.d.length:Int)))]++[pS cI x12.d])⟩,⟨some b4,1,40,2,1,([pB false]++[pS cI ([]:List Int)])⟩,⟨some b3,1,40,2,1,([pB false]++[pS cI ([]:List Int)])⟩,⟨some b2,1,40,2,1,(aA.e a1)⟩,⟨some b1,1,40,2,1,(aA.e a0)⟩]),(1,fun G15=>[⟨some b9,1,40,2,1,(aA.e x11)⟩,⟨some b8,1,40,2,1,([pB (decide (0<(x12.d.length:Int)))]++[pS cI x12.d])⟩,⟨some b4,1,40,2,1,([pB false]++[pS cI ([]:List Int)])⟩,⟨some b3,1,40,2,1,([pB (decide (0<(x12.d.length:Int)))]++[pS cI x12.d])⟩,⟨some b2,1,40,2,1,(aA.e a1)⟩,⟨some b1,1,40,2,1,(aA.e a0)⟩])]) [2] [0,0,1,7] 3 1 [.v (.va ([pB (decide (0<(x12.d.length:Int)))]++[pS cI x12.d])),.v (.va (aA.e x11)),.g (fun _ _=>.any)] bB ⟨d1 0 (fQ 1 2 rfl rfl rfl rfl (.agg tyA40)) zU1,⟨rfl,.run (L:=[0,1]) ⟨fun G15 A=>fQ 0 2 rfl rfl rfl rfl (.agg tyA40),fun G15 A=>fQ 0 2 rfl rfl rfl rfl (.agg tyA40),trivial⟩ (fun G15=>zU1)⟩,⟨rfl,.hvy [0] ⟨fun G15 A=>aBR (t_s 3 rfl rfl rfl tyA40.s),trivial⟩ (fun G15=>zU2)⟩,trivial⟩ (fun bs16 G15=>?_)
   exact bV
  refine go ?_ ?_
  refine rP (HsM [(0,fun G17=>[⟨some b9,1,40,2,1,(aA.e x11)⟩,⟨some b8,1,40,2,1,([pB false]++[pS cI x12.d])⟩,⟨some b4,1,40,2,1,([pB false]++[pS cI ([]:List Int)])⟩,⟨some b3,1,40,2,1,([pB false]++[pS cI ([]:List Int)])⟩,⟨some b2,1,40,2,1,(aA.e a1)⟩,⟨some b1,1,40,2,1,(aA.e a0)⟩]),(1,fun G17=>[⟨some b9,1,40,2,1,(aA.e x11)⟩,⟨some b8,1,40,2,1,([pB false]++[pS cI x12.d])⟩,⟨some b4,1,40,2,1,([pB false]++[pS cI ([]:List Int)])⟩,⟨some b3,1,40,2,1,([pB false]++[pS cI x12.d])⟩,⟨some b2,1,40,2,1,(aA.e a1)⟩,⟨some b1,1,40,2,1,(aA.e a0)⟩])]) [2] [0,0,1,7] 3 1 [.v (.va ([pB false]++[pS cI x12.d])),.v (.va (aA.e x11)),.g (fun _ _=>.any)] bB ⟨d1 0 (fQ 1 2 rfl rfl rfl rfl (.agg tyA40)) zU1,⟨rfl,.run (L:=[0,1]) ⟨fun G17 A=>fQ 0 2 rfl rfl rfl rfl (.agg tyA40),fun G17 A=>fQ 0 2 rfl rfl rfl rfl (.agg tyA40),trivial⟩ (fun G17=>zU1)⟩,⟨rfl,.hvy [0] ⟨fun G17 A=>aBR (t_s 3 rfl rfl rfl tyA40.s),trivial⟩ (fun G17=>zU2)⟩,trivial⟩ (fun bs18 G17=>?_)
  exact bV
 refine go ?_ ?_
 refine dG hF (fun h19 hF=>?_) (fun h19 hF=>?_)
 ·refine go ?_ ?_
  refine aD hF rfl (fun h20 hF=>?_) (fun h20 hF=>?_)
  ·refine go ?_ ?_
   refine aF (gO (C:=cI) (xs:=[.const (.int .i64 (1))]) (ps:=[.vc (pI .i64 1)]) (zs:=[1]) rfl tyS22 rfl ⟨⟨trivial,rfl⟩,trivial⟩ rfl) ⟨oF _ _,trivial⟩ ?_
   obtain⟨v21,h22,hF⟩:=aZ hF yK
   refine aF (bJ rfl h22 rfl) zU2 ?_
   obtain⟨v23,h24,hF⟩:=aZ hF gA
   refine aF (bJ rfl h24 rfl) ⟨k_B _,rfl,trivial⟩ ?_
   refine lW (t_s 1 rfl rfl rfl tyA40.s) zU2 ?_
   refine aV (aH (aJ (aF (iF (off:=0) (k:=1) rfl tyF40_1) zU1 ?_)))
   refine aF (fQ 4 1 rfl rfl rfl rfl (.one tyO22)) zU1 ?_
   refine aF (iF (off:=0) (k:=1) rfl tyF40_1) zU1 ?_
   refine aF (fQ 0 1 rfl rfl rfl rfl (.one tyO22)) zU1 ?_
   obtain⟨v25,h26,hF⟩:=aZ hF uC
   refine aF (bJ rfl h26 rfl) zU2 ?_
   obtain⟨v27,h28,hF⟩:=aZ hF gA
   refine aF (bJ rfl h28 rfl) ⟨k_B _,rfl,trivial⟩ ?_
   refine lW (t_s 0 rfl rfl rfl tyA40.s) zU2 ?_
   refine aV ?_
   exact rD Jj13 ⟨v27,v23,hF,rfl,rfl⟩ [0,1,2,3,4,5]
  refine f7 ?_
  exact rD Jj13 ⟨v6.2,v6.1,hF,rfl,rfl⟩ [0,1,2,3,4,5]
 refine go ?_ ?_
 refine tT rfl ?_
 refine f7 ?_
 exact rD Jj13 ⟨v6.2,v6.1,hF,rfl,rfl⟩ [0,1,2,3,4,5]
def kO (K:Nat) (a0:aA) (a1:aA):Option Int:=
 bif(a0.neg != a1.neg) then(bif a0.neg then(some (-1)) else(bif(a0.neg != a1.neg) then(some 1) else(bif a0.neg then((eN K a1.d a0.d).bind fun v7=>some v7) else((eN K a0.d a1.d).bind fun v9=>some v9)))) else(bif(a0.neg != a1.neg) then(some 1) else(bif a0.neg then((eN K a1.d a0.d).bind fun v13=>some v13) else((eN K a0.d a1.d).bind fun v15=>some v15)))
theorem s0 {K:Nat} {a0:aA} {a1:aA} {r:Int} (hF:kO K a0 a1=some r):Ct Tryz.prog 135 [.va (aA.e a0),.va (aA.e a1)] (.vc (pI .i64 r)):=by
 unfold kO at hF
 refine aB Tryz.func135 rfl (by kernel_rfl) Tryz.ntmps135 rfl (fun w0 M0=>?_)
 refine aC (aJ (dE rfl rfl trivial (fun b1=>?_)))
 refine dE rfl rfl trivial (fun b2=>?_)
 refine go ?_ ?_
 refine aK (go ?_ ?_)
 refine aF (zF rfl Tryz.underlying4) zU2 ?_
 refine gF ?_
 refine dG hF (fun h3 hF=>?_) (fun h3 hF=>?_)
 ·refine go ?_ ?_
  refine aD hF rfl (fun h4 hF=>?_) (fun h4 hF=>?_)
  ·exact bV
  refine go ?_ ?_
  refine aF (zF rfl Tryz.underlying4) zU2 ?_
  refine go ?_ ?_
  refine aD hF rfl (fun h5 hF=>?_) (fun h5 hF=>?_)
  ·exact bV
  refine go ?_ ?_
  refine aD hF rfl (fun h6 hF=>?_) (fun h6 hF=>?_)
  ·obtain⟨v7,h8,hF⟩:=aZ hF lF
   exact bV
  obtain⟨v9,h10,hF⟩:=aZ hF lF
  exact bV
 refine go ?_ ?_
 refine tT rfl ?_
 refine go ?_ ?_
 refine aF (zF rfl Tryz.underlying4) zU2 ?_
 refine go ?_ ?_
 refine aD hF rfl (fun h11 hF=>?_) (fun h11 hF=>?_)
 ·exact bV
 refine go ?_ ?_
 refine aD hF rfl (fun h12 hF=>?_) (fun h12 hF=>?_)
 ·obtain⟨v13,h14,hF⟩:=aZ hF lF
  exact bV
 obtain⟨v15,h16,hF⟩:=aZ hF lF
 exact bV
def nW (K:Nat):Option Int:=
 some (-1)
def eH (K:Nat) (a0:List Int) (a1:(Int→Option Bool)):Nat→Int→Option (LR Int Unit)
 |0,_=>none
 |k+1,x2=>bif(decide (x2<(a0.length:Int))) then((bP a0 x2).bind fun v6=>(a1 v6).bind fun v8=>bif v8 then(some (.ret x2)) else((aO (x2+1)).bind fun v11=>eH K a0 a1 k v11)) else(some (.go ()))
def m5 (K:Nat) (a0:List Int) (a1:(Int→Option Bool)):Option Int:=
 (eH K a0 a1 K 0).bind fun o=>match o with| .ret r=>some r| .go _=>nW K
theorem xA {K:Nat} {a0:List Int} {a1:(Int→Option Bool)} {r:Int} (hF:m5 K a0 a1=some r):Ct Tryz.prog 173 [.vc (pS cI a0),.vc (pFn Tryz.prog (fun x:Int=>[.vc (pI .i64 x)]) (fun r:Bool=>.vc (pB r)) a1)] (.vc (pI .i64 r)):=by
 unfold m5 at hF
 refine aB Tryz.func173 rfl (by kernel_rfl) Tryz.ntmps173 rfl (fun w0 M0=>?_)
 refine go ?_ ?_
 refine aK (bE (fun H E=>nW K=some r∧H=[]∧E=[]) ?_ (fun Jj4=>?_))
 ·rintro _ _ ⟨hF,rfl,rfl⟩
  unfold nW at hF
  exact bV
 obtain⟨ol3,hL,hRl3⟩:=aR hF
 refine fO (fun k a w=>∃(x2:Int),eH K a0 a1 k x2=some ol3∧hs _ [] [(0,.vc (pS cI a0)),(1,.vc (pFn Tryz.prog (fun x:Int=>[.vc (pI .i64 x)]) (fun r:Bool=>.vc (pB r)) a1)),(7,.vc (pI .i64 (a0.length:Int))),(8,.vc (pI .i64 x2))] a w) K (fun a w ⟨_,hF,_⟩=>by cases hF) (fun k a w ⟨x2,hF,hh⟩=>fN ?_ hh) (fun a w hh=>⟨0,hL,jY [] hh⟩)
 rw [eH.eq_2] at hF
 refine go ?_ ?_
 refine aD hF rfl (fun h5 hF=>?_) (fun h5 hF=>?_)
 ·refine go ?_ ?_
  refine aK ?_
  obtain⟨v6,h7,v8,h9,hF⟩:=sS hF
  refine go ?_ ?_
  refine aF (aB6 (pre:=fun x:Int=>[.vc (pI .i64 x)]) (post:=fun r:Bool=>.vc (pB r)) (x:=v6) (r:=v8) rfl h9 rfl) zU2 ?_
  refine aV (aH (aD hF rfl (fun h10 hF=>?_) (fun h10 hF=>?_)))
  ·exact bV
  obtain⟨v11,h12,hF⟩:=aR hF
  refine go ?_ ?_
  exact aG (fun a w hh=>⟨v11,hF,jY [] hh⟩)
 refine bO ?_
 obtain rfl:=jN hF
 exact rD Jj4 ⟨hRl3,rfl,rfl⟩ []
def iH (K:Nat) (a0:List Int) (a1:(Int→Option Bool)):Option Bool:=
 (m5 K a0 a1).bind fun v1=>some (decide (0≤v1))
theorem vO {K:Nat} {a0:List Int} {a1:(Int→Option Bool)} {r:Bool} (hF:iH K a0 a1=some r):Ct Tryz.prog 163 [.vc (pS cI a0),.vc (pFn Tryz.prog (fun x:Int=>[.vc (pI .i64 x)]) (fun r:Bool=>.vc (pB r)) a1)] (.vc (pB r)):=by
 unfold iH at hF
 refine aB Tryz.func163 rfl (by kernel_rfl) Tryz.ntmps163 rfl (fun w0 M0=>?_)
 obtain⟨v1,h2,hF⟩:=aZ hF xA
 exact bV
def iP (a0:Int):Option Bool:=
 bif(decide (a0<0)) then(some true) else(some (decide (1000000000≤a0)))
theorem aAK {a0:Int} {r:Bool} (hF:iP a0=some r):Ct Tryz.prog 164 [.vc (pI .i64 a0)] (.vc (pB r)):=by
 unfold iP at hF
 refine aB Tryz.func164 rfl (by kernel_rfl) Tryz.ntmps164 rfl (fun w0 M0=>?_)
 refine go ?_ ?_
 refine dG hF (fun h1 hF=>?_) (fun h1 hF=>?_)
 ·exact bV
 exact bV
def mN (K:Nat) (a0:aA):Option Bool:=
 (iH K a0.d (iP)).bind fun v2=>bif v2 then(some false) else(bif((a0.d.length:Int)==0) then(bif(!a0.neg) then(some true) else(bif(decide (0<(a0.d.length:Int))) then((aO ((a0.d.length:Int)-1)).bind fun v8=>(bP a0.d v8).bind fun v10=>some (v10 != 0)) else(some false))) else(bif(decide (0<(a0.d.length:Int))) then((aO ((a0.d.length:Int)-1)).bind fun v13=>(bP a0.d v13).bind fun v15=>some (v15 != 0)) else(some false)))
theorem w6 {K:Nat} {a0:aA} {r:Bool} (hF:mN K a0=some r):Ct Tryz.prog 137 [.va (aA.e a0)] (.vc (pB r)):=by
 unfold mN at hF
 refine aB Tryz.func137 rfl (by kernel_rfl) Tryz.ntmps137 rfl (fun w0 M0=>?_)
 refine aC (aJ (dE rfl rfl trivial (fun b1=>?_)))
 obtain⟨v2,h3,hF⟩:=aZ hF vO
 refine go ?_ ?_
 refine aF (bJ rfl h3 rfl) ⟨rfl,(aNY (P:=Tryz.prog) (φ:=(iP)) (pre:=fun x:Int=>[.vc (pI .i64 x)]) (post:=fun r:Bool=>.vc (pB r)) (fun x r h=>aAK h)),trivial⟩ ?_
 refine aV (aH (aD hF rfl (fun h4 hF=>?_) (fun h4 hF=>?_)))
 ·exact bV
 refine go ?_ ?_
 refine dG hF (fun h5 hF=>?_) (fun h5 hF=>?_)
 ·refine go ?_ ?_
  refine dG hF (fun h6 hF=>?_) (fun h6 hF=>?_)
  ·exact bV
  refine go ?_ ?_
  refine dG hF (fun h7 hF=>?_) (fun h7 hF=>?_)
  ·obtain⟨v8,h9,v10,h11,hF⟩:=sS hF
   exact bV
  exact bV
 refine go ?_ ?_
 refine dG hF (fun h12 hF=>?_) (fun h12 hF=>?_)
 ·obtain⟨v13,h14,v15,h16,hF⟩:=sS hF
  exact bV
 exact bV
end Go.Proofs.YtolfcbpgmfbgmaaGreat
set_option linter.unusedVariables false
set_option maxRecDepth 100000
namespace Go.Proofs.YtolfcbpgmfbgmaaGreat
end Go.Proofs.YtolfcbpgmfbgmaaGreat
set_option linter.unusedVariables false
namespace Go.Proofs.YtolfcbpgmfbgmaaGreat
theorem wB {n m:Nat} {x:Int} (h:x=n) (hn:n≤9000000000000000000):aO x=some (n:Int):=by
 subst h;exact nA ⟨by omega,by omega⟩
theorem bI {k n:Nat} (h:n<k):∃k',k=k'+1∧n≤k':=⟨k-1,by omega,by omega⟩
theorem yX {u:List Int} {i:Nat} {v:Int} (h:Dr u 0 i) (hl:i<u.length) (h0:0≤v) (h1:v<1000000000):Dr (u.set i v) 0 (i+1):=fun t ht=>by
 by_cases e:t=i
 ·subst e;rw [Nat.zero_add,dC hl];exact⟨h0,h1⟩
 ·rw [d8 (by omega)];exact h t (by omega)
def mkG (neg:Bool) (n:Nat):aA:=if n=0 then⟨false,[]⟩ else⟨neg,bL n⟩
theorem l4 (n:Nat):mkG false n=Z n:=by
 unfold mkG Z
 by_cases h:n=0
 ·subst h;simp [wI]
 ·rw [if_neg h];simp
theorem aGY (n:Nat):mkG true n=Z (-n):=by
 unfold mkG Z
 by_cases h:n=0
 ·subst h;simp [wI]
 ·rw [if_neg h];simp;omega
theorem rN (b:Bool) (n:Nat):mkG b n=Z (if b then -(n:Int) else n):=by
 cases b
 ·simpa using l4 n
 ·simpa using aGY n
theorem aK1 (u:List Int):∀(n:Nat),n≤u.length→n≤9000000000000→∃m:Nat,m≤n∧(∀i,m≤i→i<n→u.getD i 0=0)∧(m=0∨u.getD (m-1) 0≠0)∧∀K k,n<k→kV K u k n=some (m:Int)
 |0,_,_=>⟨0,Nat.le_refl _,fun i _ h=>by omega,.inl rfl,fun K k hk=>by
   obtain⟨k',rfl,_⟩:=bI hk
   simp [kV]⟩
 |n+1,h,hL=>by
  have e1:aO (((n+1:Nat):Int)-1)=some (n:Int):=wB (m:=0) (by omega) (by omega)
  have e2:decide (0<((n+1:Nat):Int))=true:=decide_eq_true (by omega)
  have e3:=cE (xs:=u) (i:=n) (by omega)
  by_cases h0:u.getD n 0=0
  ·obtain⟨m,h1,h2,h3,h4⟩:=aK1 u n (by omega) (by omega)
   refine⟨m,by omega,fun i a b=>?_,h3,fun K k hk=>?_⟩
   ·by_cases e:i=n
    ·subst e;exact h0
    ·exact h2 i a (by omega)
   ·obtain⟨k',rfl,hk'⟩:=bI hk
    simp only [kV,e1,e2,e3,h0,cU,oB,beq_self_eq_true]
    exact h4 K k' (by omega)
  ·refine⟨n+1,by omega,fun i a b=>by omega,.inr (by simpa using h0),fun K k hk=>?_⟩
   obtain⟨k',rfl,hk'⟩:=bI hk
   have e4:(u.getD n 0==0)=false:=by simpa using h0
   simp only [kV,e1,e2,e3,e4,cU,cP,oB]
theorem aNT {u:List Int} (hd:jZ u) {m:Nat} (h1:m≤u.length) (h2:∀i,m≤i→i<u.length→u.getD i 0=0) (h3:m=0∨u.getD (m-1) 0≠0):u.take m=bL (vD u).toNat∧(m=0↔vD u=0):=by
 have hg:∀i,i<m→(u.take m).getD i 0=u.getD i 0:=fun i hi=>by
  simp only [List.getD_eq_getElem?_getD,List.getElem?_take];rw [if_pos hi]
 have hl:(u.take m).length=m:=by simp;omega
 have hok:jZ (u.take m):=fun i=>by
  rcases Nat.lt_or_ge i m with h|h
  ·rw [hg i h];exact hd i
  ·rw [sN (by omega)];omega
 have hv:vD (u.take m)=vD u:=by
  unfold vD
  rw [hl]
  obtain⟨c,hc⟩:=Nat.exists_eq_add_of_le h1
  rw [hc,t7,aB2 (j:=0+m) (fun i hi=>h2 _ (by omega) (by omega))]
  rw [aBa (v:=u) (k:=0) (fun i hi=>by rw [Nat.zero_add];exact hg i hi)]
  simp
 have ht:Top (u.take m):=by
  rcases h3 with h|h
  ·subst h;exact .inl (by simp)
  ·by_cases h0:m=0
   ·subst h0;exact .inl (by simp)
   ·refine .inr ?_
    rw [hl,hg _ (by omega)];exact h
 have:=aKf hok ht
 rw [hv] at this
 refine⟨this.symm,fun h=>?_,fun h=>?_⟩
 ·subst h
  rw [←hv];simp;rfl
 ·rw [h] at this
  simp only [Int.toNat_zero,wI] at this
  have:(u.take m).length=0:=by rw [←this];rfl
  omega
theorem uQ (neg:Bool) {u:List Int} (hd:jZ u) (hL:u.length≤9000000000000):Ev (fun K=>dK K neg u) (mkG neg (vD u).toNat):=by
 obtain⟨m,h1,h2,h3,h4⟩:=aK1 u u.length (Nat.le_refl _) hL
 obtain⟨h5,h6⟩:=aNT hd h1 h2 h3
 have hn:=hd.nonneg
 refine⟨u.length+1,fun K hK=>?_⟩
 simp only [dK,h4 K K (by omega),oB,sP]
 unfold mkG
 by_cases h0:m=0
 ·have e:((m:Int)==0)=true:=by simp [h0]
  rw [e,cU,if_pos (by have:=h6.1 h0;omega)]
 ·have e:((m:Int)==0)=false:=by simp [h0]
  rw [e,cP,aEN h1,oB,if_neg (by intro h;exact h0 (h6.2 (by omega))),h5]
theorem zW {out a b:List Int} {i:Nat} {c c' v:Int} (hl:i<out.length) (hI:W out 0 i+c*PB i=W a 0 i+W b 0 i) (hv:v+1000000000*c'=a.getD i 0+b.getD i 0+c):
  W (out.set i v) 0 (i+1)+c'*PB (i+1)=W a 0 (i+1)+W b 0 (i+1):=by
 rw [cV,cV,cV,Nat.zero_add,dC hl,uX (.inr (by omega))]
 simp only [PB]
 grind
theorem y5 {a b:List Int} (ha:jZ a) (hb:jZ b) (hab:b.length≤a.length) (hL:a.length≤9000000000000):∀(t i:Nat) (out:List Int) (c:Int),i+t=a.length→out.length=a.length+1→Dr out 0 i→0≤c→c≤1→W out 0 i+c*PB i=W a 0 i+W b 0 i→
  ∃out' c',out'.length=a.length+1∧Dr out' 0 a.length∧0≤c'∧c'≤1∧W out' 0 a.length+c'*PB a.length=W a 0 a.length+W b 0 a.length∧∀K k,t<k→cM K a b k out c (i:Int)=some (out',c')
 |0,i,out,c,hi,ho,hD,hc0,hc1,hI=>by
  have:i=a.length:=by omega
  subst this
  refine⟨out,c,ho,hD,hc0,hc1,hI,fun K k hk=>?_⟩
  obtain⟨k',rfl,_⟩:=bI hk
  simp [cM]
 |t+1,i,out,c,hi,ho,hD,hc0,hc1,hI=>by
  have ha':=ha i
  have hb':=hb i
  have e1:decide ((i:Int)<(a.length:Int))=true:=decide_eq_true (by omega)
  have e2:=cE (xs:=a) (i:=i) (by omega)
  have e3:aO ((i:Int)+1)=some ((i+1:Nat):Int):=wB (m:=0) (by omega) (by omega)
  have e4:=cE (xs:=out) (i:=i) (by omega)
  have e5:∀v,oK out (i:Int) v=some (out.set i v):=fun v=>qO (by omega)
  have e6:aO (a.getD i 0+c)=some (a.getD i 0+c):=nA (by omega)
  have e7:aO (a.getD i 0+c+b.getD i 0)=some (a.getD i 0+c+b.getD i 0):=nA (by omega)
  have e8:aO (a.getD i 0+c+b.getD i 0-1000000000)=some (a.getD i 0+c+b.getD i 0-1000000000):=nA (by omega)
  have e9:aO (a.getD i 0+c-1000000000)=some (a.getD i 0+c-1000000000):=nA (by omega)
  by_cases hbl:i<b.length
  ·have f1:decide ((i:Int)<(b.length:Int))=true:=decide_eq_true (by omega)
   have f2:=cE (xs:=b) (i:=i) hbl
   by_cases hs:1000000000≤a.getD i 0+c+b.getD i 0
   ·obtain⟨o,d,h1,h2,h3,h4,h5,h6⟩:=y5 ha hb hab hL t (i+1) (out.set i (a.getD i 0+c+b.getD i 0-1000000000)) 1 (by omega) (by simpa using ho) (yX hD (by omega) (by omega) (by omega)) (by omega) (by omega) (zW (by omega) hI (by omega))
    refine⟨o,d,h1,h2,h3,h4,h5,fun K k hk=>?_⟩
    obtain⟨k',rfl,_⟩:=bI hk
    simp only [cM,e1,e2,e3,e4,e5,e6,e7,e8,f1,f2,decide_eq_true hs,cU,oB]
    exact h6 K k' (by omega)
   ·obtain⟨o,d,h1,h2,h3,h4,h5,h6⟩:=y5 ha hb hab hL t (i+1) (out.set i (a.getD i 0+c+b.getD i 0)) 0 (by omega) (by simpa using ho) (yX hD (by omega) (by omega) (by omega)) (by omega) (by omega) (zW (by omega) hI (by omega))
    refine⟨o,d,h1,h2,h3,h4,h5,fun K k hk=>?_⟩
    obtain⟨k',rfl,_⟩:=bI hk
    simp only [cM,e1,e2,e3,e4,e5,e6,e7,f1,f2,decide_eq_false hs,cU,cP,oB]
    exact h6 K k' (by omega)
  ·have f1:decide ((i:Int)<(b.length:Int))=false:=decide_eq_false (by omega)
   have f2:b.getD i 0=0:=sN (by omega)
   by_cases hs:1000000000≤a.getD i 0+c
   ·obtain⟨o,d,h1,h2,h3,h4,h5,h6⟩:=y5 ha hb hab hL t (i+1) (out.set i (a.getD i 0+c-1000000000)) 1 (by omega) (by simpa using ho) (yX hD (by omega) (by omega) (by omega)) (by omega) (by omega) (zW (by omega) hI (by omega))
    refine⟨o,d,h1,h2,h3,h4,h5,fun K k hk=>?_⟩
    obtain⟨k',rfl,_⟩:=bI hk
    simp only [cM,e1,e2,e3,e4,e5,e6,e9,f1,decide_eq_true hs,cU,cP,oB]
    exact h6 K k' (by omega)
   ·obtain⟨o,d,h1,h2,h3,h4,h5,h6⟩:=y5 ha hb hab hL t (i+1) (out.set i (a.getD i 0+c)) 0 (by omega) (by simpa using ho) (yX hD (by omega) (by omega) (by omega)) (by omega) (by omega) (zW (by omega) hI (by omega))
    refine⟨o,d,h1,h2,h3,h4,h5,fun K k hk=>?_⟩
    obtain⟨k',rfl,_⟩:=bI hk
    simp only [cM,e1,e2,e3,e4,e5,e6,f1,decide_eq_false hs,cU,cP,oB]
    exact h6 K k' (by omega)
theorem aDP (n j m:Nat):Dr (List.replicate n 0) j m:=fun i _=>by
 simp only [List.getD_eq_getElem?_getD,List.getElem?_replicate];split<;>simp
theorem aG1 {a b:List Int} (ha:jZ a) (hb:jZ b) (hab:b.length≤a.length) (hL:a.length≤60000000000):∃r,jZ r∧r.length=a.length+1∧vD r=vD a+vD b∧Ev (fun K=>l5 K a b) r:=by
 obtain⟨o,c,h1,h2,h3,h4,h5,h6⟩:=y5 ha hb hab (by omega) a.length 0 (List.replicate (a.length+1) 0) 0 (by omega) (by simp) (aDP _ _ _) (by omega) (by omega) (by simp [W])
 have e1:aO ((a.length:Int)+1)=some ((a.length+1:Nat):Int):=wB (m:=0) (by omega) (by omega)
 have e2:wK ((a.length+1:Nat):Int) (0:Int)=some (List.replicate (a.length+1) 0):=xR (by omega)
 refine⟨o.set a.length c,Dr.ok ?_,by simpa using h1,?_,⟨a.length+1,fun K hK=>?_⟩⟩
 ·rw [show(o.set a.length c).length=a.length+1 by simpa using h1]
  exact yX h2 (by omega) (by omega) (by omega)
 ·unfold vD
  rw [show(o.set a.length c).length=a.length+1 by simpa using h1,cV,Nat.zero_add,dC (by omega),uX (.inr (by omega)),h5,x0 hab]
 ·have h6':=h6 K K (by omega)
  simp only [Int.natCast_zero] at h6'
  simp only [l5,e1,e2,oB,h6',p9,cE (xs:=o) (i:=a.length) (by omega),qO (xs:=o) (i:=a.length) (v:=c) (by omega)]
theorem aFx {a b:List Int} (ha:jZ a) (hb:jZ b) (hL:a.length≤60000000000) (hM:b.length≤60000000000):∃r,jZ r∧r.length≤max a.length b.length+1∧vD r=vD a+vD b∧Ev (fun K=>nC K a b) r:=by
 by_cases h:a.length<b.length
 ·obtain⟨r,h1,h2,h3,h4⟩:=aG1 hb ha (by omega) hM
  refine⟨r,h1,by omega,by omega,h4.congr fun K=>?_⟩
  simp only [nC,show decide ((a.length:Int)<(b.length:Int))=true from decide_eq_true (by omega),cU]
 ·obtain⟨r,h1,h2,h3,h4⟩:=aG1 ha hb (by omega) hL
  refine⟨r,h1,by omega,by omega,h4.congr fun K=>?_⟩
  simp only [nC,show decide ((a.length:Int)<(b.length:Int))=false from decide_eq_false (by omega),cP]
end Go.Proofs.YtolfcbpgmfbgmaaGreat
set_option linter.unusedVariables false
namespace Go.Proofs.YtolfcbpgmfbgmaaGreat
theorem dT {p:Prop} [Decidable p] (h:p):decide p=true:=decide_eq_true h
theorem dF {p:Prop} [Decidable p] (h:¬p):decide p=false:=decide_eq_false h
theorem nT {x y:Int} (h:x≠y):(x != y)=true:=bne_iff_ne.2 h
theorem nF {x y:Int} (h:x=y):(x != y)=false:=by subst h;exact bne_self_eq_false x
theorem qT {x y:Int} (h:x=y):(x==y)=true:=beq_iff_eq.2 h
theorem qF {x y:Int} (h:x≠y):(x==y)=false:=beq_false_of_ne h
theorem aJu {u:List Int} {k n:Nat} {v:Int} (h:k<n) (hl:k<u.length):W (u.set k v) 0 n=W u 0 n+(v-u.getD k 0)*PB k:=by
 obtain⟨c,rfl⟩:=Nat.exists_eq_add_of_le h
 rw [t7,t7,cV,cV,Nat.zero_add,dC hl,uX (.inr (by omega)),uX (.inl (by omega))]
 grind
theorem aKK {n:Nat} {a:List Int} (h:n=a.length):cpL (List.replicate n 0) a=a:=by
 subst h;simp [cpL]
theorem aBx {a b x1:List Int} (ha:jZ a) (hb:jZ b) (hbl:b.length≤a.length) (hv:vD b≤vD a) (hL:a.length≤9000000000000) (hx:(cpL x1 a).length=a.length):∀(t i:Nat) (out:List Int),i+t=a.length→out.length=a.length→Dr out 0 i→
  (∀s,i<s→out.getD s 0=a.getD s 0)→a.getD i 0-1≤out.getD i 0→out.getD i 0≤a.getD i 0→W out 0 a.length+W b 0 i=vD a→
  ∃r,r.length=a.length∧jZ r∧vD r=vD a-vD b∧∀K k,t<k→dI K a b x1 k out (i:Int)=some r
 |0,i,out,hi,ho,hD,hs,h1,h2,hW=>by
  have:i=a.length:=by omega
  subst this
  refine⟨out,ho,Dr.ok (by rwa [ho]),?_,fun K k hk=>?_⟩
  ·unfold vD
   rw [ho]
   rw [x0 hbl] at hW
   have e1:vD b=W b 0 b.length:=rfl
   have e2:vD a=W a 0 a.length:=rfl
   omega
  ·obtain⟨k',rfl,_⟩:=bI hk
   simp [dI,hx]
 |t+1,i,out,hi,ho,hD,hs,h1,h2,hW=>by
  have ha':=ha i
  have hb':=hb i
  have e1:decide ((i:Int)<((cpL x1 a).length:Int))=true:=dT (by omega)
  have e3:aO ((i:Int)+1)=some ((i+1:Nat):Int):=wB (m:=0) (by omega) (by omega)
  have key:∀o:List Int,o.length=a.length→Dr o 0 i→(∀s,i<s→o.getD s 0=a.getD s 0)→o.getD i 0=out.getD i 0-b.getD i 0→W o 0 a.length+W b 0 (i+1)=vD a→
    ∃r,r.length=a.length∧jZ r∧vD r=vD a-vD b∧∀K k,t≤k→t<k→iK K (i:Int) (dI K a b x1 k) o=some r:=by
   intro o hlo hDo hso hoi hWo
   have e2:=cE (xs:=o) (i:=i) (by omega)
   by_cases hneg:o.getD i 0<0
   ·have e4:aO (o.getD i 0+1000000000)=some (o.getD i 0+1000000000):=nA (by omega)
    have hlt:i+1<a.length:=by
     rcases Nat.lt_or_ge (i+1) a.length with h|h
     ·exact h
     ·exfalso
      have hia:a.length=i+1:=by omega
      have w1:=(xT hDo).2
      rw [hia] at hWo
      rw [cV,Nat.zero_add] at hWo
      have w2:vD b=W b 0 (i+1):=by rw [x0 (n:=i+1) (by omega)]
      have hp:=o5 i
      have:o.getD i 0*PB i≤(-1)*PB i:=Int.mul_le_mul_of_nonneg_right (by omega) (by omega)
      have hbn:=hb.nonneg
      omega
    have e5:oK o (i:Int) (o.getD i 0+1000000000)=some (o.set i (o.getD i 0+1000000000)):=qO (by omega)
    have e6:bP (o.set i (o.getD i 0+1000000000)) ((i+1:Nat):Int)=some (a.getD (i+1) 0):=by
     rw [cE (by simp;omega),d8 (by omega),hso _ (by omega)]
    have ha2:=ha (i+1)
    have e7:aO (a.getD (i+1) 0-1)=some (a.getD (i+1) 0-1):=nA (by omega)
    have e8:oK (o.set i (o.getD i 0+1000000000)) ((i+1:Nat):Int) (a.getD (i+1) 0-1)=some ((o.set i (o.getD i 0+1000000000)).set (i+1) (a.getD (i+1) 0-1)):=qO (by simp;omega)
    obtain⟨r,g1,g2,g3,g4⟩:=aBx ha hb hbl hv hL hx t (i+1) ((o.set i (o.getD i 0+1000000000)).set (i+1) (a.getD (i+1) 0-1)) (by omega) (by simpa using hlo)
     (fun s hs'=>by
      rw [d8 (by omega)]
      exact yX hDo (by omega) (by omega) (by omega) s hs')
     (fun s hs'=>by rw [d8 (by omega),d8 (by omega),hso s (by omega)])
     (by rw [dC (by simp;omega)];omega) (by rw [dC (by simp;omega)];omega)
     (by
      rw [aJu (k:=i+1) (by omega) (by simp;omega),aJu (k:=i) (by omega) (by omega),d8 (by omega),hso (i+1) (by omega)]
      simp only [PB] at *
      have:o.getD i 0+1000000000-o.getD i 0=1000000000:=by omega
      rw [this]
      have:a.getD (i+1) 0-1-a.getD (i+1) 0=-1:=by omega
      rw [this]
      omega)
    refine⟨r,g1,g2,g3,fun K k hk hk'=>?_⟩
    simp only [iK,e2,e3,e4,e5,e6,e7,e8,dT hneg,cU,oB]
    exact g4 K k hk'
   ·obtain⟨r,g1,g2,g3,g4⟩:=aBx ha hb hbl hv hL hx t (i+1) o (by omega) hlo (fun s hs'=>by
      by_cases e:s=i
      ·subst e;rw [Nat.zero_add];omega
      ·exact hDo s (by omega)) (fun s hs'=>hso s (by omega)) (by rw [hso _ (by omega)];omega) (by rw [hso _ (by omega)];omega) hWo
    refine⟨r,g1,g2,g3,fun K k hk hk'=>?_⟩
    simp only [iK,e2,e3,dF hneg,cP,oB]
    exact g4 K k hk'
  by_cases hib:i<b.length
  ·have f1:decide ((i:Int)<(b.length:Int))=true:=dT (by omega)
   have f2:=cE (xs:=b) (i:=i) hib
   have f3:=cE (xs:=out) (i:=i) (by omega)
   have f4:aO (out.getD i 0-b.getD i 0)=some (out.getD i 0-b.getD i 0):=nA (by omega)
   have f5:oK out (i:Int) (out.getD i 0-b.getD i 0)=some (out.set i (out.getD i 0-b.getD i 0)):=qO (by omega)
   obtain⟨r,g1,g2,g3,g4⟩:=key (out.set i (out.getD i 0-b.getD i 0)) (by simpa using ho) (fun s hs'=>by rw [d8 (by omega)];exact hD s hs') (fun s hs'=>by rw [d8 (by omega)];exact hs s hs') (dC (by omega)) (by
    rw [aJu (by omega) (by omega),cV,Nat.zero_add]
    have:(out.getD i 0-b.getD i 0-out.getD i 0)=- b.getD i 0:=by omega
    rw [this,Int.neg_mul]
    omega)
   refine⟨r,g1,g2,g3,fun K k hk=>?_⟩
   obtain⟨k',rfl,_⟩:=bI hk
   simp only [dI,e1,f1,f2,f3,f4,f5,cU,oB]
   exact g4 K k' (by omega) (by omega)
  ·have f1:decide ((i:Int)<(b.length:Int))=false:=dF (by omega)
   have f2:b.getD i 0=0:=sN (by omega)
   obtain⟨r,g1,g2,g3,g4⟩:=key out ho hD hs (by omega) (by rw [cV,Nat.zero_add,f2];omega)
   refine⟨r,g1,g2,g3,fun K k hk=>?_⟩
   obtain⟨k',rfl,_⟩:=bI hk
   simp only [dI,e1,f1,cU,cP]
   exact g4 K k' (by omega) (by omega)
theorem aBO {a b:List Int} (ha:jZ a) (hb:jZ b) (hbl:b.length≤a.length) (hv:vD b≤vD a) (hL:a.length≤60000000000):
  ∃r,r.length=a.length∧jZ r∧vD r=vD a-vD b∧Ev (fun K=>kU K a b) r:=by
 have e1:wK (a.length:Int) (0:Int)=some (List.replicate a.length 0):=xR (by omega)
 have e2:cpL (List.replicate a.length 0) a=a:=aKK rfl
 obtain⟨r,g1,g2,g3,g4⟩:=aBx (x1:=List.replicate a.length 0) ha hb hbl hv (by omega) (by rw [e2]) a.length 0 a (by omega) rfl (fun s h=>by omega) (fun s h=>rfl) (by omega) (by omega) (by simp [W])
 refine⟨r,g1,g2,g3,⟨a.length+1,fun K hK=>?_⟩⟩
 have h:=g4 K K (by omega)
 simp only [Int.natCast_zero] at h
 simp only [kU,e1,e2,oB,h,oT]
theorem aEI (x y:Int):fV x y=some (if x<y then -1 else if y<x then 1 else 0):=by
 unfold fV lB
 have e1:(x != x)=false:=by simp
 have e2:(y != y)=false:=by simp
 simp only [e1,e2,oB,cP]
 by_cases h:x<y
 ·rw [dT h,cU,if_pos h]
 ·rw [dF h,cP,if_neg h]
  by_cases h2:y<x
  ·rw [dT h2,cU,if_pos h2]
  ·rw [dF h2,cP,if_neg h2]
theorem aGD {u v:List Int} {n:Nat} (hu:jZ u) (hv:jZ v) (h:u.getD n 0<v.getD n 0):W u 0 (n+1)<W v 0 (n+1):=by
 rw [cV,cV,Nat.zero_add]
 have h1:=(xT (hu.dr 0 n)).2
 have h2:=(xT (hv.dr 0 n)).1
 have hp:=o5 n
 have:(u.getD n 0+1)*PB n≤v.getD n 0*PB n:=Int.mul_le_mul_of_nonneg_right (by omega) (by omega)
 rw [Int.add_mul] at this
 omega
def wA (x y:Int):Int:=if x<y then -1 else if y<x then 1 else 0
theorem aCy {u v:List Int} (hu:jZ u) (hv:jZ v) (hl:u.length=v.length) (hL:u.length≤9000000000000):∀(j:Nat),j≤u.length→∀K k,j<k→
  eI K u v k ((j:Int)-1)=some (if W u 0 j<W v 0 j then .ret (-1) else if W v 0 j<W u 0 j then .ret 1 else .go ())
 |0,_,K,k,hk=>by
  obtain⟨k',rfl,_⟩:=bI hk
  simp [eI,W]
 |j+1,hj,K,k,hk=>by
  obtain⟨k',rfl,hk'⟩:=bI hk
  have e0:((j+1:Nat):Int)-1=(j:Int):=by omega
  have e1:decide (0≤(j:Int))=true:=dT (by omega)
  have e2:=cE (xs:=u) (i:=j) (by omega)
  have e3:=cE (xs:=v) (i:=j) (by omega)
  rw [e0]
  rcases Int.lt_trichotomy (u.getD j 0) (v.getD j 0) with h|h|h
  ·have:=aGD hu hv h
   have e4:(u.getD j 0 != v.getD j 0)=true:=nT (by omega)
   simp only [eI,e1,e2,e3,e4,cU,oB,aEI]
   rw [if_pos h,if_pos this]
  ·have e4:(u.getD j 0 != v.getD j 0)=false:=nF h
   have e5:aO ((j:Int)-1)=some ((j:Int)-1):=nA (by omega)
   have ih:=aCy hu hv hl hL j (by omega) K k' (by omega)
   have c1:(W u 0 (j+1)<W v 0 (j+1))↔(W u 0 j<W v 0 j):=by rw [cV,cV,Nat.zero_add,h];omega
   have c2:(W v 0 (j+1)<W u 0 (j+1))↔(W v 0 j<W u 0 j):=by rw [cV,cV,Nat.zero_add,h];omega
   simp only [eI,e1,e2,e3,e4,e5,cU,cP,oB,c1,c2]
   exact ih
  ·have:=aGD hv hu h
   have e4:(u.getD j 0 != v.getD j 0)=true:=nT (by omega)
   simp only [eI,e1,e2,e3,e4,cU,oB,aEI]
   rw [if_neg (by omega),if_pos h,if_neg (by omega),if_pos this]
theorem aED {u v:List Int} (hu:jZ u) (hv:jZ v) (tv:Top v) (h:u.length<v.length):vD u<vD v:=by
 have h1:=hu.lt
 have h2:=tv.pos hv (by intro e;subst e;simp at h)
 have h3:=aBj (a:=u.length) (b:=v.length-1) (by omega)
 omega
theorem wH {u v:List Int} (hu:jZ u) (hv:jZ v) (tu:Top u) (tv:Top v) (hL:u.length≤9000000000000):Ev (fun K=>eN K u v) (wA (vD u) (vD v)):=by
 refine⟨u.length+1,fun K hK=>?_⟩
 by_cases h:u.length=v.length
 ·have e1:((u.length:Int) != (v.length:Int))=false:=nF (by omega)
  have e2:aO ((u.length:Int)-1)=some ((u.length:Int)-1):=nA (by omega)
  have e3:=aCy hu hv h hL u.length (Nat.le_refl _) K K (by omega)
  simp only [eN,e1,e2,e3,cP,oB]
  unfold wA vD
  rw [←h]
  by_cases h1:W u 0 u.length<W v 0 u.length
  ·rw [if_pos h1,if_pos h1]
  ·rw [if_neg h1,if_neg h1]
   by_cases h2:W v 0 u.length<W u 0 u.length
   ·rw [if_pos h2,if_pos h2]
   ·rw [if_neg h2,if_neg h2];rfl
 ·have e1:((u.length:Int) != (v.length:Int))=true:=nT (by omega)
  simp only [eN,e1,cU,oB,aEI]
  unfold wA
  rcases Nat.lt_or_ge u.length v.length with h1|h1
  ·have:=aED hu hv tv h1
   rw [if_pos (by omega),if_pos this]
  ·have:=aED hv hu tu (by omega)
   rw [if_neg (by omega),if_pos (by omega),if_neg (by omega),if_pos this]
theorem aCl {x y:Int} (h1:0≤x) (h2:x<1000000000) (h3:0≤y) (h4:y<1000000000):0≤x*y∧x*y≤999999998000000001:=by
 refine⟨Int.mul_nonneg h1 h3,?_⟩
 have:x*y≤999999999*999999999:=Int.mul_le_mul (by omega) (by omega) h3 (by omega)
 omega
theorem W1 (u:List Int) (j:Nat):W u j 1=u.getD j 0:=by simp [W,PB]
theorem W2 (u:List Int) (j:Nat):W u j 2=u.getD j 0+u.getD (j+1) 0*1000000000:=by simp [W,PB]
theorem vD0:vD []=0:=rfl
theorem vD1 (a:Int):vD [a]=a:=by show W _ 0 1=a;rw [W1];rfl
theorem vD2 (a b:Int):vD [a,b]=a+b*1000000000:=by show W _ 0 2=_;rw [W2];rfl
theorem zR {u:List Int} (hu:jZ u):m7 u=some (if u.length≤2 then(vD u,true) else(0,false)):=by
 unfold m7
 have h0:=hu 0
 have h1:=hu 1
 match u,hu with
 |[],_=>simp [vD0]
 |[a],_=>
  have e:=cE (xs:=[a]) (i:=0) (by simp)
  simp only [Int.natCast_zero] at e
  simp [e,vD1]
 |[a,b],_=>
  simp at h0 h1
  have e:=cE (xs:=[a,b]) (i:=0) (by simp)
  have e':=cE (xs:=[a,b]) (i:=1) (by simp)
  simp only [Int.natCast_zero,Int.natCast_one] at e e'
  have f1:aO (b*1000000000)=some (b*1000000000):=nA (by omega)
  have f2:aO (b*1000000000+a)=some (b*1000000000+a):=nA (by omega)
  simp [e,e',vD2,f1,f2]
  omega
 |a::b::c::t,_=>
  have e1:(((a::b::c::t).length:Int)==0)=false:=qF (by simp;omega)
  have e2:(((a::b::c::t).length:Int)==1)=false:=qF (by simp;omega)
  have e3:(((a::b::c::t).length:Int)==2)=false:=qF (by simp;omega)
  simp only [e1,e2,e3,cP]
  rw [if_neg (by simp)]
theorem aLT {x:Int} (h0:0≤x) (h1:x≤18446744073709551615):wu x=x:=IntWalk.u64_in x ⟨h0,h1⟩
theorem aKN {x y:Int} (h0:0≤x) (h1:0<y) (h2:x≤18446744073709551615):uq x y=some (x/y):=by
 unfold uq
 rw [if_neg (by omega),Int.tdiv_eq_ediv_of_nonneg h0]
 have a:=Int.ediv_nonneg h0 (Int.le_of_lt h1)
 have b:=Int.ediv_le_self y h0
 rw [aLT a (by omega)]
theorem aHi {n:Nat} (h0:n≠0) (h:n<1000000000):bL n=[(n:Int)]:=by
 rw [tJ h0,show n/1000000000=0 by omega,wI,show n%1000000000=n by omega]
theorem p6 (neg:Bool) {n:Nat} (h:n≤18446744073709551615):dR neg (n:Int)=some (mkG neg n):=by
 unfold dR mkG
 have i64:∀x:Int,0≤x→x≤9223372036854775807→IntKind.i64.wrap x=x:=fun x a b=>IntWalk.i64_in x ⟨by omega,b⟩
 by_cases h0:n=0
 ·subst h0;simp
 ·have e0:((n:Int)==0)=false:=qF (by omega)
  rw [e0,cP,if_neg h0]
  by_cases h1:n<1000000000
  ·rw [dT (by omega),cU,aHi h0 h1,i64 _ (by omega) (by omega)]
  ·rw [dF (by omega),cP,tJ h0]
   have q1:uq (n:Int) 1000000000=some ((n:Int)/1000000000):=aKN (by omega) (by omega) (by omega)
   have r1:wV (n:Int) 1000000000=some ((n:Int)%1000000000):=qI (by omega) (by omega)
   by_cases h2:n<1000000000000000000
   ·rw [dT (by omega),cU]
    simp only [q1,r1,oB]
    rw [aHi (n:=n/1000000000) (by omega) (by omega),i64 _ (by omega) (by omega),i64 _ (by omega) (by omega)]
    simp
   ·rw [dF (by omega),cP]
    have q2:uq ((n:Int)/1000000000) 1000000000=some ((n:Int)/1000000000/1000000000):=aKN (by omega) (by omega) (by omega)
    have r2:wV ((n:Int)/1000000000) 1000000000=some ((n:Int)/1000000000%1000000000):=qI (by omega) (by omega)
    simp only [q1,r1,q2,r2,oB]
    rw [tJ (n:=n/1000000000) (by omega),aHi (n:=n/1000000000/1000000000) (by omega) (by omega),i64 _ (by omega) (by omega),i64 _ (by omega) (by omega),i64 _ (by omega) (by omega)]
    simp
theorem aCh {n:Int} (h:-9223372036854775808≤n∧n≤9223372036854775807):kM n=some (Z n):=by
 unfold kM
 by_cases h0:n<0
 ·rw [dT h0,cU]
  have e1:wu (-(IntKind.u64.wrap n))=((-n).toNat:Int):=by
   show IntKind.u64.wrap (-(IntKind.u64.wrap n))=_
   simp only [IntKind.wrap,IntKind.bits,IntKind.signed]
   simp
   omega
  rw [e1,p6 _ (by omega),oB,aGY]
  congr 2;omega
 ·rw [dF h0,cP]
  have e1:IntKind.u64.wrap n=((n.toNat:Nat):Int):=by rw [IntWalk.u64_in n (by omega)];omega
  rw [e1,p6 _ (by omega),oB,l4]
  congr 2;omega
theorem Z_d (x:Int):(Z x).d=bL x.natAbs:=rfl
theorem tE (x:Int):(Z x).neg=decide (x<0):=rfl
theorem pG (x:Int):(Z x).d.length=dl x.natAbs:=rfl
theorem aI7 (x:Int):rI (Z x)=some x.sign:=by
 unfold rI
 rw [tE,pG]
 by_cases h:x<0
 ·rw [dT h,cU,Int.sign_eq_neg_one_of_neg h]
 ·rw [dF h,cP]
  by_cases h0:x=0
  ·subst h0;rw [show Int.natAbs 0=0 from rfl,uF];rfl
  ·have:dl x.natAbs≠0:=by rw [Ne,tL];omega
   have e:((dl x.natAbs:Int)==0)=false:=qF (by omega)
   rw [e,cP,Int.sign_eq_one_of_pos (by omega)]
theorem aHa (x:Int):oN (Z x)=some (Z (-x)):=by
 unfold oN
 rw [tE,pG,Z_d]
 unfold Z
 rw [Int.natAbs_neg]
 by_cases h:x<0
 ·have:dl x.natAbs≠0:=by rw [Ne,tL];omega
  rw [dT h,dF (p:=-x<0) (by omega)];rfl
 ·rw [dF h]
  simp only [Bool.not_false,cU]
  congr 2
  by_cases h0:x=0
  ·subst h0;rw [show Int.natAbs 0=0 from rfl,uF];rfl
  ·have:dl x.natAbs≠0:=by rw [Ne,tL];omega
   rw [dT (by omega),dT (by omega)]
theorem aGG {x y:Int} (hx:dl x.natAbs≤50000000000) (hy:dl y.natAbs≤50000000000):Ev (fun K=>lO K (Z x) (Z y)) (Z (x+y)):=by
 have dx:=bN x.natAbs
 have dy:=bN y.natAbs
 have vx:=dJ x.natAbs
 have vy:=dJ y.natAbs
 have tx:=nJ x.natAbs
 have ty:=nJ y.natAbs
 have lx:(bL x.natAbs).length≤50000000000:=hx
 have ly:(bL y.natAbs).length≤50000000000:=hy
 unfold lO
 simp only [Z_d,tE]
 by_cases hs:(decide (x<0)==decide (y<0))=true
 ·simp only [hs,cU]
  obtain⟨r,h1,h2,h3,h4⟩:=aFx dx dy (by omega) (by omega)
  have h5:=uQ (decide (x<0)) h1 (by omega)
  refine Ev.bind h4 (Ev.bind h5 ?_)
  rw [rN]
  have hs':(x<0)↔(y<0):=by simpa using hs
  have:(if decide (x<0)=true then -(((vD r).toNat:Nat):Int) else(((vD r).toNat:Nat):Int))=x+y:=by
   by_cases h:x<0
   ·rw [if_pos (by simpa using h)];omega
   ·rw [if_neg (by simpa using h)];omega
  rw [this]
  exact Ev.pure _
 ·simp only [Bool.not_eq_true] at hs
  simp only [hs,cP]
  have hs':¬((x<0)↔(y<0)):=by simpa using hs
  refine Ev.bind (wH dx dy tx ty (by omega)) ?_
  rw [vx,vy]
  unfold wA
  by_cases hlt:x.natAbs<y.natAbs
  ·have hle:(bL x.natAbs).length≤(bL y.natAbs).length:=n9 (by omega)
   obtain⟨r,h1,h2,h3,h4⟩:=aBO dy dx hle (by omega) (by omega)
   have h5:=uQ (decide (y<0)) h2 (by omega)
   rw [if_pos (by omega)]
   refine Ev.congr (g:=fun K=>(kU K (bL y.natAbs) (bL x.natAbs)).bind fun v16=>(dK K (decide (y<0)) v16).bind fun v18=>some v18) ?_ (fun K=>rfl)
   refine Ev.bind h4 (Ev.bind h5 ?_)
   rw [rN]
   have:(if decide (y<0)=true then -(((vD r).toNat:Nat):Int) else(((vD r).toNat:Nat):Int))=x+y:=by
    by_cases h:y<0
    ·rw [if_pos (by simpa using h)];omega
    ·rw [if_neg (by simpa using h)];omega
   rw [this]
   exact Ev.pure _
  ·have hle:(bL y.natAbs).length≤(bL x.natAbs).length:=n9 (by omega)
   obtain⟨r,h1,h2,h3,h4⟩:=aBO dx dy hle (by omega) (by omega)
   have h5:=uQ (decide (x<0)) h2 (by omega)
   have hc:decide ((if(x.natAbs:Int)<y.natAbs then(-1:Int) else if(y.natAbs:Int)<x.natAbs then 1 else 0)<0)=false:=by
    rw [if_neg (by omega)]
    split<;>rfl
   simp only [hc,cP]
   refine Ev.bind h4 (Ev.bind h5 ?_)
   rw [rN]
   have:(if decide (x<0)=true then -(((vD r).toNat:Nat):Int) else(((vD r).toNat:Nat):Int))=x+y:=by
    by_cases h:x<0
    ·rw [if_pos (by simpa using h)];omega
    ·rw [if_neg (by simpa using h)];omega
   rw [this]
   exact Ev.pure _
end Go.Proofs.YtolfcbpgmfbgmaaGreat
set_option linter.unusedVariables false
namespace Go.Proofs.YtolfcbpgmfbgmaaGreat
theorem aIT {v:Int} (h:0≤v):0≤v/1000000000∧0≤v%1000000000∧v%1000000000<1000000000∧v%1000000000+1000000000*(v/1000000000)=v:=by omega
theorem aFh {out a:List Int} {i:Nat} {c c' k v:Int} (hl:i<out.length) (hI:W out 0 i+c*PB i=k*W a 0 i) (hv:v+1000000000*c'=a.getD i 0*k+c):
  W (out.set i v) 0 (i+1)+c'*PB (i+1)=k*W a 0 (i+1):=by
 rw [cV,cV,Nat.zero_add,dC hl,uX (.inr (by omega))]
 simp only [PB]
 grind
theorem aCj {a:List Int} {f:Int} (ha:jZ a) (hf0:0≤f) (hf1:f<1000000000) (hL:a.length≤9000000000000):∀(t i:Nat) (out:List Int) (c:Int),i+t=a.length→out.length=a.length+1→Dr out 0 i→0≤c→c<1000000000→W out 0 i+c*PB i=f*W a 0 i→
  ∃out' c',out'.length=a.length+1∧Dr out' 0 a.length∧0≤c'∧c'<1000000000∧W out' 0 a.length+c'*PB a.length=f*vD a∧∀K k,t<k→gV K a f k out c (i:Int)=some (out',c')
 |0,i,out,c,hi,ho,hD,hc0,hc1,hI=>by
  have:i=a.length:=by omega
  subst this
  refine⟨out,c,ho,hD,hc0,hc1,hI,fun K k hk=>?_⟩
  obtain⟨k',rfl,_⟩:=bI hk
  simp [gV]
 |t+1,i,out,c,hi,ho,hD,hc0,hc1,hI=>by
  have ha':=ha i
  have hm:=aCl ha'.1 ha'.2 hf0 hf1
  obtain⟨d1,d2,d3,d4⟩:=aIT (v:=a.getD i 0*f+c) (by omega)
  have e1:decide ((i:Int)<(a.length:Int))=true:=dT (by omega)
  have e2:=cE (xs:=a) (i:=i) (by omega)
  have e3:aO ((i:Int)+1)=some ((i+1:Nat):Int):=wB (m:=0) (by omega) (by omega)
  have e4:=cE (xs:=out) (i:=i) (by omega)
  have e5:∀v,oK out (i:Int) v=some (out.set i v):=fun v=>qO (by omega)
  have e6:aO (a.getD i 0*f)=some (a.getD i 0*f):=nA (by omega)
  have e7:aO (a.getD i 0*f+c)=some (a.getD i 0*f+c):=nA (by omega)
  have e8:wV (a.getD i 0*f+c) 1000000000=some ((a.getD i 0*f+c)%1000000000):=qI (by omega) (by omega)
  have e9:xP (a.getD i 0*f+c) 1000000000=some ((a.getD i 0*f+c)/1000000000):=tV (by omega) (by omega) (by omega)
  obtain⟨o,d,h1,h2,h3,h4,h5,h6⟩:=aCj ha hf0 hf1 hL t (i+1) (out.set i ((a.getD i 0*f+c)%1000000000)) ((a.getD i 0*f+c)/1000000000) (by omega) (by simpa using ho) (yX hD (by omega) (by omega) (by omega)) (by omega) (by omega) (aFh (by omega) hI (by omega))
  refine⟨o,d,h1,h2,h3,h4,h5,fun K k hk=>?_⟩
  obtain⟨k',rfl,_⟩:=bI hk
  simp only [gV,e1,e2,e3,e4,e5,e6,e7,e8,e9,cU,oB]
  exact h6 K k' (by omega)
theorem aCP {a:List Int} {f:Int} (ha:jZ a) (hf0:0≤f) (hf1:f<1000000000) (hL:a.length≤60000000000):∃r,r.length=a.length+1∧jZ r∧vD r=f*vD a∧Ev (fun K=>lE K a f) r:=by
 obtain⟨o,c,h1,h2,h3,h4,h5,h6⟩:=aCj ha hf0 hf1 (by omega) a.length 0 (List.replicate (a.length+1) 0) 0 (by omega) (by simp) (aDP _ _ _) (by omega) (by omega) (by simp [W])
 have e1:aO ((a.length:Int)+1)=some ((a.length+1:Nat):Int):=wB (m:=0) (by omega) (by omega)
 have e2:wK ((a.length+1:Nat):Int) (0:Int)=some (List.replicate (a.length+1) 0):=xR (by omega)
 refine⟨o.set a.length c,by simpa using h1,Dr.ok ?_,?_,⟨a.length+1,fun K hK=>?_⟩⟩
 ·rw [show(o.set a.length c).length=a.length+1 by simpa using h1]
  exact yX h2 (by omega) (by omega) (by omega)
 ·unfold vD at h5 ⊢
  rw [show(o.set a.length c).length=a.length+1 by simpa using h1,cV,Nat.zero_add,dC (by omega),uX (.inr (by omega)),h5]
 ·have h6':=h6 K K (by omega)
  simp only [Int.natCast_zero] at h6'
  simp only [lE,e1,e2,oB,h6',oC,cE (xs:=o) (i:=a.length) (by omega),qO (xs:=o) (i:=a.length) (v:=c) (by omega)]
theorem aAA (u:List Int) (j n:Nat):W u j (n+1)=u.getD j 0+1000000000*W u (j+1) n:=by
 rw [Nat.add_comm n 1,t7,W1,show PB 1=1000000000 from by decide]
theorem aDH {a:List Int} {b:Int} (ha:jZ a) (hb0:0<b) (hb1:b<1000000000) (hL:a.length≤9000000000000):∀(j:Nat) (q:List Int) (r:Int),j≤a.length→q.length=a.length→Dr q j (a.length-j)→0≤r→r<b→W a j (a.length-j)=b*W q j (a.length-j)+r→
  ∃q' r',q'.length=a.length∧jZ q'∧0≤r'∧r'<b∧vD a=b*vD q'+r'∧∀K k,j<k→iL K a b k q r ((j:Int)-1)=some (q',r')
 |0,q,r,hj,hq,hD,hr0,hr1,hI=>by
  refine⟨q,r,hq,Dr.ok (by rw [hq];simpa using hD),hr0,hr1,?_,fun K k hk=>?_⟩
  ·simp only [Nat.sub_zero] at hI
   unfold vD
   rw [hq];exact hI
  ·obtain⟨k',rfl,_⟩:=bI hk
   simp [iL]
 |j+1,q,r,hj,hq,hD,hr0,hr1,hI=>by
  have ha':=ha j
  have e0:((j+1:Nat):Int)-1=(j:Int):=by omega
  have e1:decide (0≤(j:Int))=true:=dT (by omega)
  have e2:=cE (xs:=a) (i:=j) (by omega)
  have e3:aO ((j:Int)-1)=some ((j:Int)-1):=nA (by omega)
  have e4:=cE (xs:=q) (i:=j) (by omega)
  have e5:∀v,oK q (j:Int) v=some (q.set j v):=fun v=>qO (by omega)
  have e6:aO (r*1000000000)=some (r*1000000000):=nA (by omega)
  have e7:aO (r*1000000000+a.getD j 0)=some (r*1000000000+a.getD j 0):=nA (by omega)
  have e8:wV (r*1000000000+a.getD j 0) b=some ((r*1000000000+a.getD j 0)%b):=qI (by omega) hb0
  have e9:xP (r*1000000000+a.getD j 0) b=some ((r*1000000000+a.getD j 0)/b):=tV (by omega) hb0 (by omega)
  have hq0:0≤(r*1000000000+a.getD j 0)/b:=Int.ediv_nonneg (by omega) (by omega)
  have hq1:(r*1000000000+a.getD j 0)/b<1000000000:=Int.ediv_lt_of_lt_mul hb0 (by
   have:(r+1)*1000000000≤b*1000000000:=Int.mul_le_mul_of_nonneg_right (by omega) (by omega)
   rw [Int.mul_comm 1000000000 b]
   omega)
  have hm0:=Int.emod_nonneg (r*1000000000+a.getD j 0) (show b≠0 by omega)
  have hm1:=Int.emod_lt_of_pos (r*1000000000+a.getD j 0) hb0
  have hdm:=Int.mul_ediv_add_emod (r*1000000000+a.getD j 0) b
  have es:a.length-j=(a.length-(j+1))+1:=by omega
  obtain⟨q',r',h1,h2,h3,h4,h5,h6⟩:=aDH ha hb0 hb1 hL j (q.set j ((r*1000000000+a.getD j 0)/b)) ((r*1000000000+a.getD j 0)%b) (by omega) (by simpa using hq)
   (fun i hi=>by
    by_cases e:i=0
    ·subst e;rw [Nat.add_zero,dC (by omega)];exact⟨hq0,hq1⟩
    ·rw [d8 (by omega)]
     have:=hD (i-1) (by omega)
     rwa [show j+1+(i-1)=j+i by omega] at this) hm0 hm1 (by
    rw [es,aAA,aAA,dC (by omega),uX (.inl (by omega)),hI]
    grind)
  refine⟨q',r',h1,h2,h3,h4,h5,fun K k hk=>?_⟩
  obtain⟨k',rfl,_⟩:=bI hk
  rw [e0]
  simp only [iL,e1,e2,e3,e4,e5,e6,e7,e8,e9,cU,oB]
  exact h6 K k' (by omega)
theorem aDu {a:List Int} {b:Int} (ha:jZ a) (hb0:0<b) (hb1:b<1000000000) (hL:a.length≤60000000000):∃q r,q.length=a.length∧jZ q∧vD q=vD a/b∧r=vD a%b∧Ev (fun K=>nY K a b) (q,r):=by
 obtain⟨q,r,h1,h2,h3,h4,h5,h6⟩:=aDH ha hb0 hb1 (by omega) a.length (List.replicate a.length 0) 0 (Nat.le_refl _) (by simp) (aDP _ _ _) (by omega) hb0 (by simp [W])
 have e1:wK (a.length:Int) (0:Int)=some (List.replicate a.length 0):=xR (by omega)
 have e2:aO ((a.length:Int)-1)=some ((a.length:Int)-1):=nA (by omega)
 refine⟨q,r,h1,h2,?_,?_,⟨a.length+1,fun K hK=>?_⟩⟩
 ·rw [h5,Int.add_comm,Int.add_mul_ediv_left _ _ (by omega),Int.ediv_eq_zero_of_lt h3 h4,Int.zero_add]
 ·rw [h5,Int.add_comm,Int.add_mul_emod_self_left,Int.emod_eq_of_lt h3 h4]
 ·have h6':=h6 K K (by omega)
  simp only [nY,e1,e2,oB,h6',oU]
theorem aJd {out o0 b:List Int} {i k:Nat} {c c' f v:Int} (hl:i+k<out.length) (hI:W out i k+c*PB k=W o0 i k+f*W b 0 k) (hv:v+1000000000*c'=o0.getD (i+k) 0+f*b.getD k 0+c):
  W (out.set (i+k) v) i (k+1)+c'*PB (k+1)=W o0 i (k+1)+f*W b 0 (k+1):=by
 rw [cV,cV,cV,dC hl,uX (.inr (by omega)),Nat.zero_add]
 simp only [PB]
 grind
structure aEu (o0 b:List Int) (i:Nat) (f:Int) (out:List Int) (c:Int) (k:Nat):Prop where
 len:out.length=o0.length
 ok:jZ out
 c0:0≤c
 c1:c<1000000000
 same:∀s,s<i∨i+k≤s→out.getD s 0=o0.getD s 0
 val:W out i k+c*PB k=W o0 i k+f*W b 0 k
theorem jZ.set {u:List Int} {i:Nat} {v:Int} (h:jZ u) (h0:0≤v) (h1:v<1000000000):jZ (u.set i v):=fun t=>by
 rw [xF];split
 ·exact⟨h0,h1⟩
 ·exact h t
theorem aEu.step {o0 b out:List Int} {i k:Nat} {f c:Int} (h:aEu o0 b i f out c k) (hl:i+k<o0.length) (hf0:0≤f) (hf1:f<1000000000) (hb:jZ b):
  0≤out.getD (i+k) 0+f*b.getD k 0+c∧out.getD (i+k) 0+f*b.getD k 0+c≤999999999999999999∧0≤f*b.getD k 0∧f*b.getD k 0≤999999998000000001∧0≤out.getD (i+k) 0∧out.getD (i+k) 0<1000000000∧
  aEu o0 b i f (out.set (i+k) ((out.getD (i+k) 0+f*b.getD k 0+c)%1000000000)) ((out.getD (i+k) 0+f*b.getD k 0+c)/1000000000) (k+1):=by
 have hb':=hb k
 have hm:=aCl hf0 hf1 hb'.1 hb'.2
 have ho:=h.ok (i+k)
 have c0:=h.c0
 have c1:=h.c1
 obtain⟨d1,d2,d3,d4⟩:=aIT (v:=out.getD (i+k) 0+f*b.getD k 0+c) (by omega)
 have he:=h.same (i+k) (.inr (Nat.le_refl _))
 refine⟨by omega,by omega,hm.1,hm.2,ho.1,ho.2,by simpa using h.len,h.ok.set d2 d3,d1,by omega,fun s hs=>?_,by exact aJd (by have:=h.len;omega) h.val (by omega)⟩
 rw [d8 (by omega)]
 exact h.same s (by omega)
theorem aHm {o0:List Int} {y:aA} {i:Nat} {f:Int} (hb:jZ y.d) (hf0:0≤f) (hf1:f<1000000000) (hl:i+y.d.length≤o0.length) (hL:o0.length≤9000000000000):∀(t k:Nat) (out:List Int) (c:Int),k+t=y.d.length→aEu o0 y.d i f out c k→
  ∃out' c',aEu o0 y.d i f out' c' y.d.length∧∀K n,t<n→fH K y (i:Int) f n out c (k:Int)=some (out',c')
 |0,k,out,c,hk,hP=>by
  have:k=y.d.length:=by omega
  subst this
  refine⟨out,c,hP,fun K n hn=>?_⟩
  obtain⟨n',rfl,_⟩:=bI hn
  simp [fH]
 |t+1,k,out,c,hk,hP=>by
  obtain⟨g1,g2,g3,g4,g5,g6,g7⟩:=hP.step (by omega) hf0 hf1 hb
  have c0:=hP.c0
  have c1:=hP.c1
  have hlo:=hP.len
  generalize hv:out.getD (i+k) 0+f*y.d.getD k 0+c=v at *
  have e1:decide ((k:Int)<(y.d.length:Int))=true:=dT (by omega)
  have e2:=cE (xs:=y.d) (i:=k) (by omega)
  have e3:aO ((k:Int)+1)=some ((k+1:Nat):Int):=wB (m:=0) (by omega) (by omega)
  have e4:aO ((i:Int)+(k:Int))=some ((i+k:Nat):Int):=wB (m:=0) (by omega) (by omega)
  have e5:=cE (xs:=out) (i:=i+k) (by omega)
  have e6:aO (f*y.d.getD k 0)=some (f*y.d.getD k 0):=nA (by omega)
  have e7:aO (out.getD (i+k) 0+f*y.d.getD k 0)=some (out.getD (i+k) 0+f*y.d.getD k 0):=nA (by omega)
  have e8:aO (out.getD (i+k) 0+f*y.d.getD k 0+c)=some v:=by rw [hv];exact nA (by omega)
  have e9:xP v 1000000000=some (v/1000000000):=tV (by omega) (by omega) (by omega)
  have e10:aO (v/1000000000*1000000000)=some (v/1000000000*1000000000):=nA (by omega)
  have e11:aO (v-v/1000000000*1000000000)=some (v%1000000000):=by
   rw [show v-v/1000000000*1000000000=v%1000000000 by omega];exact nA (by omega)
  have e12:oK out ((i+k:Nat):Int) (v%1000000000)=some (out.set (i+k) (v%1000000000)):=qO (by omega)
  obtain⟨o,d,h1,h2⟩:=aHm hb hf0 hf1 hl hL t (k+1) _ _ (by omega) g7
  refine⟨o,d,h1,fun K n hn=>?_⟩
  obtain⟨n',rfl,_⟩:=bI hn
  simp only [fH,e1,e2,e3,e4,e5,e6,e7,e8,e9,e10,e11,e12,cU,oB]
  exact h2 K n' (by omega)
structure aBz (a b out:List Int) (i:Nat):Prop where
 len:out.length=a.length+b.length
 ok:jZ out
 zero:∀s,i+b.length≤s→out.getD s 0=0
 val:W out 0 (i+b.length)=W a 0 i*vD b
theorem aBz.start (a b:List Int):aBz a b (List.replicate (a.length+b.length) 0) 0 where
 len:=by simp
 ok:=fun i=>by simp only [List.getD_eq_getElem?_getD,List.getElem?_replicate];split<;>simp
 zero:=fun s _=>by simp only [List.getD_eq_getElem?_getD,List.getElem?_replicate];split<;>simp
 val:=by
  rw [aB2]
  ·simp [W]
  ·intro i _;simp only [List.getD_eq_getElem?_getD,List.getElem?_replicate];split<;>simp
theorem aBz.row {a b out:List Int} {i:Nat} (h:aBz a b out i):aEu out b i (a.getD i 0) out 0 0 where
 len:=rfl
 ok:=h.ok
 c0:=Int.le_refl _
 c1:=by decide
 same:=fun _ _=>rfl
 val:=by simp [W]
theorem aBz.next {a b out out':List Int} {i:Nat} {c:Int} (h:aBz a b out i) (hi:i<a.length) (hr:aEu out b i (a.getD i 0) out' c b.length):aBz a b (out'.set (i+b.length) c) (i+1) where
 len:=by simpa using hr.len.trans h.len
 ok:=hr.ok.set hr.c0 hr.c1
 zero:=fun s hs=>by
  rw [d8 (by omega),hr.same s (by omega)]
  exact h.zero s (by omega)
 val:=by
  have hlen:=hr.len.trans h.len
  rw [show i+1+b.length=(i+b.length)+1 by omega,cV,Nat.zero_add,dC (by omega),uX (.inr (by omega)),t7,cV,Nat.zero_add]
  have h1:=hr.val
  have h2:=h.val
  rw [t7,Nat.zero_add] at h2
  have h3:W out' 0 i=W out 0 i:=aBa fun s hs=>by
   rw [Nat.zero_add];exact hr.same s (.inl hs)
  rw [h3,y9]
  unfold vD at *
  grind
theorem aHd {x y:aA} (ha:jZ x.d) (hb:jZ y.d) (hL:x.d.length+y.d.length≤9000000000000):∀(t i:Nat) (out:List Int),i+t=x.d.length→aBz x.d y.d out i→
  ∃out',aBz x.d y.d out' x.d.length∧sQ (fun K k=>eM K x y k out (i:Int)) out'
 |0,i,out,hi,hP=>by
  have:i=x.d.length:=by omega
  subst this
  refine⟨out,hP,sQ.of 1 fun K n hn=>?_⟩
  obtain⟨n',rfl,_⟩:=bI (n:=0) hn
  simp [eM]
 |t+1,i,out,hi,hP=>by
  have ha':=ha i
  have hlo:=hP.len
  obtain⟨o,c,h1,h2⟩:=aHm hb ha'.1 ha'.2 (by omega) (by omega) y.d.length 0 out 0 (by omega) hP.row
  have hlo2:=h1.len
  obtain⟨r,h3,h4⟩:=aHd ha hb hL t (i+1) _ (by omega) (hP.next (by omega) h1)
  refine⟨r,h3,sQ.step ?_⟩
  have e1:decide ((i:Int)<(x.d.length:Int))=true:=dT (by omega)
  have e2:=cE (xs:=x.d) (i:=i) (by omega)
  have e3:aO ((i:Int)+1)=some ((i+1:Nat):Int):=wB (m:=0) (by omega) (by omega)
  have e4:aO ((i:Int)+(y.d.length:Int))=some ((i+y.d.length:Nat):Int):=wB (m:=0) (by omega) (by omega)
  have e5:=cE (xs:=o) (i:=i+y.d.length) (by omega)
  have e6:oK o ((i+y.d.length:Nat):Int) c=some (o.set (i+y.d.length) c):=qO (by omega)
  simp only [eM,e1,e2,cU,oB]
  refine sQ.bind (x:=(o,c)) (f:=fun K=>fH K y (i:Int) (x.d.getD i 0) K out 0 0) ⟨y.d.length+1,fun K hK=>h2 K K (by omega)⟩ ?_
  simp only [oE,e3,e4,e5,e6,oB]
  exact h4
theorem aEw (x y:Int):(if(decide (x<0) != decide (y<0))=true then -((x.natAbs:Int)*y.natAbs) else(x.natAbs:Int)*y.natAbs)=x*y:=by
 by_cases hx:x<0<;>by_cases hy:y<0
 ·rw [dT hx,dT hy,show(x.natAbs:Int)=-x by omega,show(y.natAbs:Int)=-y by omega];simp [Int.neg_mul_neg]
 ·rw [dT hx,dF hy,show(x.natAbs:Int)=-x by omega,show(y.natAbs:Int)=y by omega];simp [Int.neg_mul]
 ·rw [dF hx,dT hy,show(x.natAbs:Int)=x by omega,show(y.natAbs:Int)=-y by omega];simp [Int.mul_neg]
 ·rw [dF hx,dF hy,show(x.natAbs:Int)=x by omega,show(y.natAbs:Int)=y by omega];simp
theorem aIM {x y:Int} (hL:dl x.natAbs+dl y.natAbs≤60000000000):Ev (fun K=>(aO (((Z x).d.length:Int)+((Z y).d.length:Int))).bind fun v16=>(wK v16 0).bind fun x18=>(eM K (Z x) (Z y) K x18 0).bind fun x37=>n0 K (Z x) (Z y) x37) (Z (x*y)):=by
 have dx:=bN x.natAbs
 have dy:=bN y.natAbs
 have lx:(bL x.natAbs).length=dl x.natAbs:=rfl
 have ly:(bL y.natAbs).length=dl y.natAbs:=rfl
 obtain⟨r,h1,h2⟩:=aHd (x:=Z x) (y:=Z y) dx dy (by rw [pG,pG];omega) (Z x).d.length 0 _ (by omega) (aBz.start _ _)
 have e1:aO (((Z x).d.length:Int)+((Z y).d.length:Int))=some (((Z x).d.length+(Z y).d.length:Nat):Int):=wB (m:=0) (by omega) (by rw [pG,pG];omega)
 have e2:wK (((Z x).d.length+(Z y).d.length:Nat):Int) (0:Int)=some (List.replicate ((Z x).d.length+(Z y).d.length) 0):=xR (by rw [pG,pG];omega)
 simp only [e1,e2,oB]
 refine Ev.bind h2.ev ?_
 have h3:=uQ ((Z x).neg != (Z y).neg) h1.ok (by rw [h1.len,pG,pG];omega)
 unfold n0
 refine Ev.bind h3 ?_
 have hv:vD r=x.natAbs*y.natAbs:=by
  have:=h1.val
  rw [←h1.len] at this
  have vx:=dJ x.natAbs
  have vy:=dJ y.natAbs
  unfold vD at *
  rw [this]
  show W (bL x.natAbs) 0 (bL x.natAbs).length*W (bL y.natAbs) 0 (bL y.natAbs).length=_
  rw [vx,vy]
 rw [rN,tE,tE,hv]
 have:(if(decide (x<0) != decide (y<0))=true then -((((x.natAbs:Int)*y.natAbs).toNat:Nat):Int) else((((x.natAbs:Int)*y.natAbs).toNat:Nat):Int))=x*y:=by
  have h0:0≤(x.natAbs:Int)*y.natAbs:=Int.mul_nonneg (by omega) (by omega)
  rw [Int.toNat_of_nonneg h0]
  exact aEw x y
 rw [this]
 exact Ev.pure _
theorem aDJ (K:Nat) (y:aA) (x v:Int):∀(k:Nat) (s:List Int) (c i:Int),lH K y x v k s c i=fH K y x v k s c i
 |0,_,_,_=>rfl
 |k+1,s,c,i=>by simp only [lH,fH,aDJ K y x v k]
theorem aDb (K:Nat) (x y:aA):∀(k:Nat) (s:List Int) (i:Int),jH K x y k s i=eM K x y k s i
 |0,_,_=>rfl
 |k+1,s,i=>by simp only [jH,eM,pJ,oE,aDJ,aDb K x y k]
theorem y8 {n:Nat} (h:(bL n).length=1):(bL n).getD 0 0=n∧n<1000000000:=by
 have h1:=dJ n
 unfold vD at h1
 rw [h,W1] at h1
 have:=bN n 0
 omega
theorem wF {x y:Int} (hL:dl x.natAbs+dl y.natAbs≤60000000000):Ev (fun K=>bK K (Z x) (Z y)) (Z (x*y)):=by
 have hc:=aIM hL
 unfold bK
 by_cases h1:(Z x).d.length=1
 ·have e1:(((Z x).d.length:Int)==1)=true:=qT (by omega)
  simp only [e1,cU]
  by_cases h2:(Z y).d.length=1
  ·have e2:(((Z y).d.length:Int)==1)=true:=qT (by omega)
   obtain⟨a1,a2⟩:=y8 h1
   obtain⟨b1,b2⟩:=y8 h2
   have r1:=cE (xs:=(Z x).d) (i:=0) (by omega)
   have r2:=cE (xs:=(Z y).d) (i:=0) (by omega)
   simp only [Int.natCast_zero] at r1 r2
   rw [Z_d] at r1 r2
   rw [a1] at r1
   rw [b1] at r2
   have hb:=aCl (x:=(x.natAbs:Int)) (y:=(y.natAbs:Int)) (by omega) (by omega) (by omega) (by omega)
   have e3:wu (IntKind.u64.wrap (x.natAbs:Int)*IntKind.u64.wrap (y.natAbs:Int))=((x.natAbs*y.natAbs:Nat):Int):=by
    rw [IntWalk.u64_in _ ⟨by omega,by omega⟩,IntWalk.u64_in _ ⟨by omega,by omega⟩,aLT hb.1 (by omega),Int.natCast_mul]
   have hb':x.natAbs*y.natAbs≤18446744073709551615:=by
    have:((x.natAbs*y.natAbs:Nat):Int)=x.natAbs*y.natAbs:=Int.natCast_mul _ _
    omega
   refine Ev.of fun K=>?_
   rw [Z_d] at e2
   simp only [e2,cU,r1,r2,Z_d,tE,oB,e3,p6 _ hb']
   rw [rN]
   congr 2
   rw [Int.natCast_mul]
   exact aEw x y
  ·have e2:(((Z y).d.length:Int)==1)=false:=qF (by omega)
   simp only [e2,cP]
   exact hc
 ·have e1:(((Z x).d.length:Int)==1)=false:=qF (by omega)
  simp only [e1,cP,aDb]
  exact hc
end Go.Proofs.YtolfcbpgmfbgmaaGreat
