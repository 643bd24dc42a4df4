/- Texts of the proof, part 2: K15 I1 IZ P2 P3 P4. -/
import Derived.Test.YtldhbdgfpjoamaaGreatProg
import Derived.KernelRfl
import Derived.IntWalk
import Derived.Test.YtldhbdgfpjoamaaGreatZ1
set_option linter.unusedSimpArgs false
set_option linter.unusedVariables false
namespace Go.Proofs.YtldhbdgfpjoamaaGreat
structure GC (S:Sx) (c:Code) (κ:Kt) (H:List HA) (E:sI) (Q:Prop):Prop where
 h:Q→WC S c κ H E
structure GX (S:Sx) (e:Exit) (κ:Kt) (H:List HA) (E:sI) (Q:Prop):Prop where
 h:Q→WX S e κ H E
structure GL (S:Sx) (ops:Array Oper) (κ:Kt) (l:List Oper) (H:List HA) (E:sI) (Q:Prop):Prop where
 h:Q→WL S ops κ l H E
inductive D:Prop→Prop→Prop
 |mk {P Q:Prop} (h:Q→P):D P Q
theorem D.h {P Q:Prop} (h:D P Q):Q→P:=by cases h;assumption
section
variable {S:Sx} {κ:Kt} {H:List HA} {E:sI} {Q:Prop}
theorem sC {c:Code} (k:GC S c κ H E Q):D (WC S c κ H E) Q:=⟨k.h⟩
theorem sX {e:Exit} (k:GX S e κ H E Q):D (WX S e κ H E) Q:=⟨k.h⟩
theorem sL {ops:Array Oper} {l:List Oper} (k:GL S ops κ l H E Q):D (WL S ops κ l H E) Q:=⟨k.h⟩
theorem eC {c:Code}:GC S c κ H E (WC S c κ H E):=⟨fun q=>q⟩
theorem eX {e:Exit}:GX S e κ H E (WX S e κ H E):=⟨fun q=>q⟩
theorem eL {ops:Array Oper} {l:List Oper}:GL S ops κ l H E (WL S ops κ l H E):=⟨fun q=>q⟩
theorem aR4 {x y:Code} (k:GC S x (.seq y κ) H E Q):GC S (.seq x y) κ H E Q:=⟨fun q=>aK (k.h q)⟩
theorem aPG {y:Code} (k:GC S y κ H E Q):GX S .normal (.seq y κ) H E Q:=⟨fun q=>aU (k.h q)⟩
theorem aNZ (k:GX S .normal κ H E Q):GC S .skip κ H E Q:=⟨fun q=>iP (k.h q)⟩
theorem aMz {l:Nat} (k:GX S .normal κ H E Q):GC S (.label l) κ H E Q:=⟨fun q=>aQG (k.h q)⟩
theorem aPe {id:Nat} (k:GX S .normal κ H E Q):GX S .normal (.blk id κ) H E Q:=⟨fun q=>aA6 (k.h q)⟩
theorem aL1 {c:Code} (k:GC S c (.sc κ) H E Q):GC S (.scope c) κ H E Q:=⟨fun q=>aLR (k.h q)⟩
theorem aSg (k:GX S .normal κ H E Q):GX S .normal (.sc κ) H E Q:=⟨fun q=>aUD (k.h q)⟩
theorem aSp {id:Nat} {l:List Oper} (k:GL S l.toArray κ l H E Q):GC S (.region id l.toArray false) κ H E Q:=⟨fun q=>aR (k.h q)⟩
theorem aRw {ops:Array Oper} (k:GX S .normal κ H E Q):GL S ops κ [] H E Q:=⟨fun q=>bT (k.h q)⟩
end
def ev (E:sI):Operand→Option VP
 | .tmp d=>jZ E d
 | .const (.int k n)=>some (.vc (pI k n))
 | .const (.bool b)=>some (.vc (pB b))
 |_=>none
theorem dX {E:sI}:∀{x:Operand} {p:VP},ev E x=some p→aGt E x p
 | .tmp d,p,h=>h
 | .const (.int k n),p,h=>by cases h;exact lY k n
 | .const (.bool b),p,h=>by cases h;exact k_B b
def evs (E:sI):List Operand→Option (List VP)
 |[]=>some []
 |x::l=>(ev E x).bind fun p=>(evs E l).bind fun ps=>some (p::ps)
theorem aIJ {E:sI}:∀{l:List Operand} {ps:List VP},evs E l=some ps→aAf E (l.zip ps)∧l.length=ps.length
 |[],ps,h=>by cases h;exact⟨trivial,rfl⟩
 |x::l,ps,h=>by
  obtain⟨p,h1,h⟩:=Option.bind_eq_some_iff.1 h
  obtain⟨qs,h2,h⟩:=Option.bind_eq_some_iff.1 h
  cases h
  exact⟨⟨dX h1,(aIJ h2).1⟩,congrArg (·+1) (aIJ h2).2⟩
theorem zB {k:Nat} {l qs:List CP} (h:tO k l=some qs):qs.length=k:=(aBz h).2
inductive gQ:List HA→Option Nat→HA→Prop
 |a {e:HA} {H:List HA} {β:Option Nat} (h:e.β=β):gQ (e::H) β e
 |b {e x:HA} {H:List HA} {β:Option Nat} (h:gQ H β e):gQ (x::H) β e
theorem gQ.at {H:List HA} {β:Option Nat} {e:HA} (h:gQ H β e):∃i:Nat,H[i]?=some e∧e.β=β:=by
 induction h with
 |a h=>exact⟨0,rfl,h⟩
 |b _ ih=>obtain⟨i,h1,h2⟩:=ih;exact⟨i+1,by simpa using h1,h2⟩
inductive aAi:List HA→Option Nat→HA→HA→List HA→Prop
 |a {e e':HA} {H:List HA} {β:Option Nat} (h:e.β=β):aAi (e::H) β e e' (e'::H)
 |b {e e' x:HA} {H H':List HA} {β:Option Nat} (h:aAi H β e e' H'):aAi (x::H) β e e' (x::H')
theorem aAi.at {H H':List HA} {β:Option Nat} {e e':HA} (h:aAi H β e e' H'):∃i:Nat,H[i]?=some e∧e.β=β∧aA9 H i e'=some H':=by
 induction h with
 |a h=>exact⟨0,rfl,h,rfl⟩
 |@b e e' x H H' β _ ih=>
  obtain⟨i,h1,h2,h3⟩:=ih
  exact⟨i+1,by simpa using h1,h2,by simp only [aA9,h3,Option.map_some]⟩
inductive dV (ops:Array Oper) (E:sI):Option (Nat×Bool)→Prop
 |p:dV ops E none
 |g {j dj:Nat} {b:Bool} {og:Oper} (hj:ops[j]?=some og) (hdj:og.dst=some dj) (hl:jZ E dj=some (.vc (pB b))):dV ops E (some (j,b))
theorem wP {α β γ:Type} {a:Option α} {b:α→Option β} {f:α→β→Option γ} {r:γ} (h:(a.bind fun x=>(b x).bind fun y=>f x y)=some r):∃x,a=some x∧∃y,b x=some y∧f x y=some r:=by
 obtain⟨x,h1,h⟩:=aZ h
 exact⟨x,h1,aZ h⟩
theorem bn3 {α β γ δ:Type} {a:Option α} {b:α→Option β} {c:α→β→Option γ} {f:α→β→γ→Option δ} {r:δ} (h:(a.bind fun x=>(b x).bind fun y=>(c x y).bind fun z=>f x y z)=some r):∃x,a=some x∧∃y,b x=some y∧∃z,c x y=some z∧f x y z=some r:=by
 obtain⟨x,h1,h⟩:=aZ h
 exact⟨x,h1,wP h⟩
theorem bn4 {α β γ δ ε:Type} {a:Option α} {b:α→Option β} {c:α→β→Option γ} {d:α→β→γ→Option δ} {f:α→β→γ→δ→Option ε} {r:ε} (h:(a.bind fun x=>(b x).bind fun y=>(c x y).bind fun z=>(d x y z).bind fun t=>f x y z t)=some r):∃x,a=some x∧∃y,b x=some y∧∃z,c x y=some z∧∃t,d x y z=some t∧f x y z t=some r:=by
 obtain⟨x,h1,h⟩:=aZ h
 exact⟨x,h1,bn3 h⟩
theorem sE {α β:Type} {o:Option α} {f:α→Option β} {v:α} {r:β} (h:o=some v) (k:o.bind f=some r):f v=some r:=by rw [h] at k;exact k
theorem bF {α β:Type} {o:Option α} {f:α→Option β} {q:β} {C:α→Prop} (h:o.bind f=some q) (c:∀{r:α},o=some r→C r):∃v,C v∧f v=some q:=by
 obtain⟨v,h1,h⟩:=aZ h
 exact⟨v,c h1,h⟩
section
variable {S:Sx} {κ:Kt} {H H':List HA} {E:sI} {ops:Array Oper} {rest:List Oper} {Q:Prop} {ty:TypeId} {pos:String} {af:Array Edge} {g:Option (Nat×Bool)} {d:Nat}
theorem kU {op:Op} {ins:List (Operand×VP)} {out:VP} (t:Tr S ⟨some d,op,ty,pos,af,g⟩ H H' ins out) (hi:aAf E ins) (hg:dV ops E g) (hN:Nat.blt d S.N=true) (k:GL S ops κ rest H' ((d,out)::E) Q):GL S ops κ (⟨some d,op,ty,pos,af,g⟩::rest) H E Q:=by
 refine⟨fun q=>?_⟩
 cases hg with
 |p=>exact aQ t hi (k.h q) rfl rfl hN
 |g hj hdj hl=>exact aAa t hi (k.h q) rfl hj hdj hl rfl hN
theorem b_n {op:Op} {j dj:Nat} {b b':Bool} {og:Oper} (hj:ops[j]?=some og) (hdj:og.dst=some dj) (hl:jZ E dj=some (.vc (pB b'))) (hb:(b' != b)=true) (hN:Nat.blt d S.N=true) (k:GL S ops κ rest H ((d,.un)::E) Q):GL S ops κ (⟨some d,op,ty,pos,af,some (j,b)⟩::rest) H E Q:=⟨fun q=>aOW (k.h q) rfl hj hdj hl hb rfl hN⟩
theorem b_u {op:Op} {j dj:Nat} {b:Bool} {og:Oper} (hj:ops[j]?=some og) (hdj:og.dst=some dj) (hl:jZ E dj=some .un) (hN:Nat.blt d S.N=true) (k:GL S ops κ rest H ((d,.un)::E) Q):GL S ops κ (⟨some d,op,ty,pos,af,some (j,b)⟩::rest) H E Q:=⟨fun q=>aUI (k.h q) rfl hj hdj hl rfl hN⟩
end
class Mix (P:Program):Prop where
 h:P.follows .mixedOrders=true
def sW (l:List Oper) (ms:List Nat) (E:sI) (outs:List Ou) (G:Gh) (i:Nat):Operand→Option VP
 | .tmp d=>aAr l ms E outs G i d
 | .const (.int k n)=>some (.vc (pI k n))
 | .const (.bool b)=>some (.vc (pB b))
 |_=>none
theorem bY {l:List Oper} {ms:List Nat} {E:sI} {outs:List Ou} {G:Gh} {i:Nat}:∀{x:Operand} {p:VP},sW l ms E outs G i x=some p→aRL l ms E outs G i x p
 | .tmp d,p,h=>h
 | .const (.int k n),p,h=>by cases h;exact lY k n
 | .const (.bool b),p,h=>by cases h;exact k_B b
def aSB (l:List Oper) (ms:List Nat) (E:sI) (outs:List Ou) (G:Gh) (i:Nat):List Operand→Option (List VP)
 |[]=>some []
 |x::r=>(sW l ms E outs G i x).bind fun p=>(aSB l ms E outs G i r).bind fun ps=>some (p::ps)
theorem aFI {l:List Oper} {ms:List Nat} {E:sI} {outs:List Ou} {G:Gh} {i:Nat}:∀{r:List Operand} {ps:List VP},aSB l ms E outs G i r=some ps→aGb l ms E outs G i (r.zip ps)∧r.length=ps.length
 |[],ps,h=>by cases h;exact⟨trivial,rfl⟩
 |x::r,ps,h=>by
  obtain⟨p,h1,h⟩:=Option.bind_eq_some_iff.1 h
  obtain⟨qs,h2,h⟩:=Option.bind_eq_some_iff.1 h
  cases h
  exact⟨⟨bY h1,(aFI h2).1⟩,congrArg (·+1) (aFI h2).2⟩
theorem gQ.app {H A:List HA} {β:Option Nat} {e:HA} (h:gQ H β e):gQ (H++A) β e:=by
 induction h with
 |a h=>exact .a h
 |b _ ih=>exact .b ih
inductive GD (l:List Oper) (ms:List Nat) (E:sI) (outs:List Ou) (i:Nat):Option (Nat×Bool)→Prop
 |p:GD l ms E outs i none
 |g {j d:Nat} {b:Bool} (hd:(l[j]?).bind (·.dst)=some d) (hl:∀G,aAr l ms E outs G i d=some (.vc (pB b))):GD l ms E outs i (some (j,b))
structure DN (S:Sx) (H:List HA) (l0:List Oper) (ms:List Nat) (E:sI) (outs:List Ou) (n i:Nat) (l:List Oper) (r:List Ou):Prop where
 h:aIL S (fun _ _=>H) [] l0 ms E outs i l r
 len:r.length=n
section
variable {S:Sx} {H:List HA} {l0 l:List Oper} {ms:List Nat} {E:sI} {outs r:List Ou} {n i d:Nat} {ty:TypeId} {pos:String} {af:Array Edge} {g:Option (Nat×Bool)}
theorem aRX (hr:r=[]):DN S H l0 ms E outs 0 i l r:=by subst hr;exact⟨by cases l<;>trivial,rfl⟩
theorem aIm {o:Oper} {q:Ou} (h1:o.dst.all (Nat.blt · S.N)=true) (h2:DOp S (fun _ _=>H) [] l0 ms E outs i o q) (k:DN S H l0 ms E outs n (i+1) l r):DN S H l0 ms E outs (n+1) i (o::l) (q::r):=⟨⟨⟨h1,h2⟩,k.h⟩,congrArg (·+1) k.len⟩
theorem iF {op:Op} {ins:List (Operand×VP)} {out:VP} (t:∀A,Tr S ⟨some d,op,ty,pos,af,g⟩ (H++A) (H++A) ins out) (hs:∀G,aGb l0 ms E outs G i ins) (hN:Nat.blt d S.N=true) (hg:GD l0 ms E outs i g) (h1:lS ms [] i [0]=true) {r0:List Ou} (hr:r0=.v out::r) (k:DN S H l0 ms E outs n (i+1) l r):DN S H l0 ms E outs (n+1) i (⟨some d,op,ty,pos,af,g⟩::l) r0:=by
 subst hr
 refine aIm hN ?_ k
 cases hg with
 |p=>exact .run (L:=[0]) (ins:=fun _=>ins) ⟨fun _ A=>t A,trivial⟩ hs rfl h1 rfl
 |g hd hl=>exact .runG (L:=[0]) (ins:=fun _=>ins) ⟨fun _ A=>t A,trivial⟩ hs rfl hd hl h1 rfl
theorem e_n {r0:List Ou} {op:Op} {j dj:Nat} {b b':Bool} (hd:(l0[j]?).bind (·.dst)=some dj) (hl:∀G,aAr l0 ms E outs G i dj=some (.vc (pB b'))) (hb:(b' != b)=true) (hN:Nat.blt d S.N=true) (hr:r0=.v .un::r) (k:DN S H l0 ms E outs n (i+1) l r):DN S H l0 ms E outs (n+1) i (⟨some d,op,ty,pos,af,some (j,b)⟩::l) r0:=hr▸aIm hN (.skipN rfl hd hl hb rfl) k
theorem e_u {r0:List Ou} {op:Op} {j dj:Nat} {b:Bool} (hd:(l0[j]?).bind (·.dst)=some dj) (hl:∀G,aAr l0 ms E outs G i dj=some .un) (hN:Nat.blt d S.N=true) (hr:r0=.v .un::r) (k:DN S H l0 ms E outs n (i+1) l r):DN S H l0 ms E outs (n+1) i (⟨some d,op,ty,pos,af,some (j,b)⟩::l) r0:=hr▸aIm hN (.skipU rfl hd hl rfl) k
end
section
variable {S:Sx} {κ:Kt} {H H':List HA} {E:sI} {ops:Array Oper} {rest:List Oper} {Q:Prop} {ty:TypeId} {pos:String} {af:Array Edge} {g:Option (Nat×Bool)} {d:Nat} {l0 l:List Oper} {ms:List Nat} {outs ro:List Ou} {n i:Nat}
theorem aTX {x:Operand} {p:VP} (hx:ev E x=some p) (hN:Nat.blt d S.N=true) (hg:dV ops E g) (k:GL S ops κ rest H ((d,p)::E) Q):GL S ops κ (⟨some d,.move x,ty,pos,af,g⟩::rest) H E Q:=
 kU (bB (.inl rfl)) ⟨dX hx,trivial⟩ hg hN k
theorem aUU {x:Operand} {p:VP} (hx:∀G,sW l0 ms E outs G i x=some p) (hN:Nat.blt d S.N=true) (hg:GD l0 ms E outs i g) (h1:lS ms [] i [0]=true) {r0:List Ou} (hr:r0=.v (p)::ro) (kk:DN S H l0 ms E outs n (i+1) l ro):DN S H l0 ms E outs (n+1) i (⟨some d,.move x,ty,pos,af,g⟩::l) r0:=
 iF (fun A=>bB (.inl rfl)) (fun G=>⟨bY (hx G),trivial⟩) hN hg h1 hr kk
theorem aU9 {x:Operand} {b:Bool} {w:Bool} (hx:∀G,sW l0 ms E outs G i x=some (.vc (pB b))) (hN:Nat.blt d S.N=true) (hg:GD l0 ms E outs i g) (h1:lS ms [] i [0]=true) (hb:b=w) {r0:List Ou} (hr:r0=.v (.vc (pB w))::ro) (kk:DN S H l0 ms E outs n (i+1) l ro):DN S H l0 ms E outs (n+1) i (⟨some d,.move x,ty,pos,af,g⟩::l) r0:=
 iF (fun A=>jK (bB (.inl rfl)) hb) (fun G=>⟨bY (hx G),trivial⟩) hN hg h1 hr kk
theorem aUR {x:Operand} {p:VP} (hx:ev E x=some p) (hN:Nat.blt d S.N=true) (hg:dV ops E g) (k:GL S ops κ rest H ((d,p)::E) Q):GL S ops κ (⟨some d,.assign x,ty,pos,af,g⟩::rest) H E Q:=
 kU (bB (.inr rfl)) ⟨dX hx,trivial⟩ hg hN k
theorem aTS {x:Operand} {p:VP} (hx:∀G,sW l0 ms E outs G i x=some p) (hN:Nat.blt d S.N=true) (hg:GD l0 ms E outs i g) (h1:lS ms [] i [0]=true) {r0:List Ou} (hr:r0=.v (p)::ro) (kk:DN S H l0 ms E outs n (i+1) l ro):DN S H l0 ms E outs (n+1) i (⟨some d,.assign x,ty,pos,af,g⟩::l) r0:=
 iF (fun A=>bB (.inr rfl)) (fun G=>⟨bY (hx G),trivial⟩) hN hg h1 hr kk
theorem aUr {x:Operand} {b:Bool} {w:Bool} (hx:∀G,sW l0 ms E outs G i x=some (.vc (pB b))) (hN:Nat.blt d S.N=true) (hg:GD l0 ms E outs i g) (h1:lS ms [] i [0]=true) (hb:b=w) {r0:List Ou} (hr:r0=.v (.vc (pB w))::ro) (kk:DN S H l0 ms E outs n (i+1) l ro):DN S H l0 ms E outs (n+1) i (⟨some d,.assign x,ty,pos,af,g⟩::l) r0:=
 iF (fun A=>jK (bB (.inr rfl)) hb) (fun G=>⟨bY (hx G),trivial⟩) hN hg h1 hr kk
theorem aTZ {α:Type} {C:Cd α} {t e bytes:Nat} {x y:Operand} {xs:List α} {j:Int} {z:α} {k:IntKind} (hx:ev E x=some (.vc (pS C xs))) (hy:ev E y=some (.vc (pI k j))) (ht:TyS S.P t e C.n bytes) (hN:Nat.blt d S.N=true) (hg:dV ops E g) (hj:bL xs j=some z) (k:GL S ops κ rest H ((d,.vc (pM (C.e z)))::E) Q):GL S ops κ (⟨some d,.indexAddr t x y,ty,pos,af,g⟩::rest) H E Q:=
 kU (aCO rfl ht hj) ⟨dX hx,dX hy,trivial⟩ hg hN k
theorem aVr {α:Type} {C:Cd α} {t e bytes:Nat} {x y:Operand} {xs:List α} {j:Int} {z:α} {k:IntKind} (hx:∀G,sW l0 ms E outs G i x=some (.vc (pS C xs))) (hy:∀G,sW l0 ms E outs G i y=some (.vc (pI k j))) (ht:TyS S.P t e C.n bytes) (hN:Nat.blt d S.N=true) (hg:GD l0 ms E outs i g) (h1:lS ms [] i [0]=true) (hj:bL xs j=some z) {r0:List Ou} (hr:r0=.v (.vc (pM (C.e z)))::ro) (kk:DN S H l0 ms E outs n (i+1) l ro):DN S H l0 ms E outs (n+1) i (⟨some d,.indexAddr t x y,ty,pos,af,g⟩::l) r0:=
 iF (fun A=>aCO rfl ht hj) (fun G=>⟨bY (hx G),bY (hy G),trivial⟩) hN hg h1 hr kk
theorem aRl {s f k:Nat} {x:Operand} {ps:List CP} (hx:ev E x=some (.vc (pM ps))) (hf:TyF S.P s f k) (hN:Nat.blt d S.N=true) (hg:dV ops E g) (k:GL S ops κ rest H ((d,.vc (pM (ps.drop k)))::E) Q):GL S ops κ (⟨some d,.fieldAddr s x f,ty,pos,af,g⟩::rest) H E Q:=
 kU (aPl rfl hf) ⟨dX hx,trivial⟩ hg hN k
theorem aSr {s f k:Nat} {x:Operand} {ps:List CP} (hx:∀G,sW l0 ms E outs G i x=some (.vc (pM ps))) (hf:TyF S.P s f k) (hN:Nat.blt d S.N=true) (hg:GD l0 ms E outs i g) (h1:lS ms [] i [0]=true) {r0:List Ou} (hr:r0=.v (.vc (pM (ps.drop k)))::ro) (kk:DN S H l0 ms E outs n (i+1) l ro):DN S H l0 ms E outs (n+1) i (⟨some d,.fieldAddr s x f,ty,pos,af,g⟩::l) r0:=
 iF (fun A=>aPl rfl hf) (fun G=>⟨bY (hx G),trivial⟩) hN hg h1 hr kk
theorem aVg {s f off k:Nat} {x:Operand} {β:Option Nat} (hx:ev E x=some (.vc (pP β off))) (hf:TyF S.P s f k) (hN:Nat.blt d S.N=true) (hg:dV ops E g) (k:GL S ops κ rest H ((d,.vc (pP β (off+k)))::E) Q):GL S ops κ (⟨some d,.fieldAddr s x f,ty,pos,af,g⟩::rest) H E Q:=
 kU (iU rfl hf) ⟨dX hx,trivial⟩ hg hN k
theorem aVe {s f off k:Nat} {x:Operand} {β:Option Nat} (hx:∀G,sW l0 ms E outs G i x=some (.vc (pP β off))) (hf:TyF S.P s f k) (hN:Nat.blt d S.N=true) (hg:GD l0 ms E outs i g) (h1:lS ms [] i [0]=true) {r0:List Ou} (hr:r0=.v (.vc (pP β (off+k)))::ro) (kk:DN S H l0 ms E outs n (i+1) l ro):DN S H l0 ms E outs (n+1) i (⟨some d,.fieldAddr s x f,ty,pos,af,g⟩::l) r0:=
 iF (fun A=>iU rfl hf) (fun G=>⟨bY (hx G),trivial⟩) hN hg h1 hr kk
theorem aRM {s f n off k:Nat} {x:Operand} {β:Option Nat} {j:Int} (hx:ev E x=some (.vc (pE β j n off))) (hf:TyF S.P s f k) (hN:Nat.blt d S.N=true) (hg:dV ops E g) (k:GL S ops κ rest H ((d,.vc (pE β j n (off+k)))::E) Q):GL S ops κ (⟨some d,.fieldAddr s x f,ty,pos,af,g⟩::rest) H E Q:=
 kU (aPY rfl hf) ⟨dX hx,trivial⟩ hg hN k
theorem aSb {s f n off k:Nat} {x:Operand} {β:Option Nat} {j:Int} (hx:∀G,sW l0 ms E outs G i x=some (.vc (pE β j n off))) (hf:TyF S.P s f k) (hN:Nat.blt d S.N=true) (hg:GD l0 ms E outs i g) (h1:lS ms [] i [0]=true) {r0:List Ou} (hr:r0=.v (.vc (pE β j n (off+k)))::ro) (kk:DN S H l0 ms E outs n (i+1) l ro):DN S H l0 ms E outs (n+1) i (⟨some d,.fieldAddr s x f,ty,pos,af,g⟩::l) r0:=
 iF (fun A=>aPY rfl hf) (fun G=>⟨bY (hx G),trivial⟩) hN hg h1 hr kk
theorem aRj {t:Nat} {x:Operand} {ps:List CP} {q:CP} (hx:ev E x=some (.vc (pM ps))) (ht:Ty1 S.P t) (hq:tO 1 ps=some [q]) (hN:Nat.blt d S.N=true) (hg:dV ops E g) (k:GL S ops κ rest H ((d,.vc q)::E) Q):GL S ops κ (⟨some d,.load t x,ty,pos,af,g⟩::rest) H E Q:=
 kU (aAP 1 rfl hq (.one ht)) ⟨dX hx,trivial⟩ hg hN k
theorem aRm {t:Nat} {x:Operand} {ps:List CP} {q:CP} (hx:∀G,sW l0 ms E outs G i x=some (.vc (pM ps))) (ht:Ty1 S.P t) (hq:tO 1 ps=some [q]) (hN:Nat.blt d S.N=true) (hg:GD l0 ms E outs i g) (h1:lS ms [] i [0]=true) {r0:List Ou} (hr:r0=.v (.vc q)::ro) (kk:DN S H l0 ms E outs n (i+1) l ro):DN S H l0 ms E outs (n+1) i (⟨some d,.load t x,ty,pos,af,g⟩::l) r0:=
 iF (fun A=>aAP 1 rfl hq (.one ht)) (fun G=>⟨bY (hx G),trivial⟩) hN hg h1 hr kk
theorem aSc {t q:Nat} {x:Operand} {ps qs:List CP} (hx:ev E x=some (.vc (pM ps))) (ht:TyA S.P t q) (hq:tO q ps=some qs) (hN:Nat.blt d S.N=true) (hg:dV ops E g) (k:GL S ops κ rest H ((d,.va qs)::E) Q):GL S ops κ (⟨some d,.load t x,ty,pos,af,g⟩::rest) H E Q:=
 kU (aAP q rfl hq (.agg ht (zB hq))) ⟨dX hx,trivial⟩ hg hN k
theorem aRV {t q:Nat} {x:Operand} {ps qs:List CP} (hx:∀G,sW l0 ms E outs G i x=some (.vc (pM ps))) (ht:TyA S.P t q) (hq:tO q ps=some qs) (hN:Nat.blt d S.N=true) (hg:GD l0 ms E outs i g) (h1:lS ms [] i [0]=true) {r0:List Ou} (hr:r0=.v (.va qs)::ro) (kk:DN S H l0 ms E outs n (i+1) l ro):DN S H l0 ms E outs (n+1) i (⟨some d,.load t x,ty,pos,af,g⟩::l) r0:=
 iF (fun A=>aAP q rfl hq (.agg ht (zB hq))) (fun G=>⟨bY (hx G),trivial⟩) hN hg h1 hr kk
theorem aUj {t off:Nat} {x:Operand} {β:Option Nat} {e:HA} {q:CP} (hx:ev E x=some (.vc (pP β off))) (ht:Ty1 S.P t) (hi:gQ H β e) (hq:tO 1 (e.ps.drop off)=some [q]) (hN:Nat.blt d S.N=true) (hg:dV ops E g) (k:GL S ops κ rest H ((d,.vc q)::E) Q):GL S ops κ (⟨some d,.load t x,ty,pos,af,g⟩::rest) H E Q:=by
 obtain⟨i,hi1,hi2⟩:=hi.at
 exact kU (fX i 1 rfl hi1 hi2 hq (.one ht)) ⟨dX hx,trivial⟩ hg hN k
theorem aUu {t off:Nat} {x:Operand} {β:Option Nat} {e:HA} {q:CP} (hx:∀G,sW l0 ms E outs G i x=some (.vc (pP β off))) (ht:Ty1 S.P t) (hi:gQ H β e) (hq:tO 1 (e.ps.drop off)=some [q]) (hN:Nat.blt d S.N=true) (hg:GD l0 ms E outs i g) (h1:lS ms [] i [0]=true) {r0:List Ou} (hr:r0=.v (.vc q)::ro) (kk:DN S H l0 ms E outs n (i+1) l ro):DN S H l0 ms E outs (n+1) i (⟨some d,.load t x,ty,pos,af,g⟩::l) r0:=by
 refine iF (ins:=[(x,(.vc (pP β off)))]) (fun A=>?_) (fun G=>⟨bY (hx G),trivial⟩) hN hg h1 hr kk
 obtain⟨i,hi1,hi2⟩:=(hi.app (A:=A)).at
 exact fX i 1 rfl hi1 hi2 hq (.one ht)
theorem aUb {t m off:Nat} {x:Operand} {β:Option Nat} {e:HA} {qs:List CP} (hx:ev E x=some (.vc (pP β off))) (ht:TyA S.P t m) (hi:gQ H β e) (hq:tO m (e.ps.drop off)=some qs) (hN:Nat.blt d S.N=true) (hg:dV ops E g) (k:GL S ops κ rest H ((d,.va qs)::E) Q):GL S ops κ (⟨some d,.load t x,ty,pos,af,g⟩::rest) H E Q:=by
 obtain⟨i,hi1,hi2⟩:=hi.at
 exact kU (fX i m rfl hi1 hi2 hq (.agg ht (zB hq))) ⟨dX hx,trivial⟩ hg hN k
theorem aUw {t m off:Nat} {x:Operand} {β:Option Nat} {e:HA} {qs:List CP} (hx:∀G,sW l0 ms E outs G i x=some (.vc (pP β off))) (ht:TyA S.P t m) (hi:gQ H β e) (hq:tO m (e.ps.drop off)=some qs) (hN:Nat.blt d S.N=true) (hg:GD l0 ms E outs i g) (h1:lS ms [] i [0]=true) {r0:List Ou} (hr:r0=.v (.va qs)::ro) (kk:DN S H l0 ms E outs n (i+1) l ro):DN S H l0 ms E outs (n+1) i (⟨some d,.load t x,ty,pos,af,g⟩::l) r0:=by
 refine iF (ins:=[(x,(.vc (pP β off)))]) (fun A=>?_) (fun G=>⟨bY (hx G),trivial⟩) hN hg h1 hr kk
 obtain⟨i,hi1,hi2⟩:=(hi.app (A:=A)).at
 exact fX i m rfl hi1 hi2 hq (.agg ht (zB hq))
theorem aSv {α:Type} {C:Cd α} {xs:List α} {β:Option Nat} {c T n1:Nat} {t e bytes:Nat} {x y:Operand} {j:Int} {k:IntKind} {z:α} (hx:ev E x=some (.vc (pO β n1 c))) (hy:ev E y=some (.vc (pI k j))) (hi:gQ H β (hO C β c T n1 xs)) (hn:xs.length=n1) (ht:TyS S.P t e C.n bytes) (hN:Nat.blt d S.N=true) (hg:dV ops E g) (hj:bL xs j=some z) (k:GL S ops κ rest H ((d,.vc (pE β j C.n 0))::E) Q):GL S ops κ (⟨some d,.indexAddr t x y,ty,pos,af,g⟩::rest) H E Q:=by
 obtain⟨i,hi1,hi2⟩:=hi.at
 exact kU (gN i rfl ht hi1 hn (aN hj).1 (aN hj).2.1) ⟨dX hx,dX hy,trivial⟩ hg hN k
theorem aRW {α:Type} {C:Cd α} {xs:List α} {β:Option Nat} {c T n1:Nat} {t e bytes:Nat} {x y:Operand} {j:Int} {k:IntKind} {z:α} (hx:∀G,sW l0 ms E outs G i x=some (.vc (pO β n1 c))) (hy:∀G,sW l0 ms E outs G i y=some (.vc (pI k j))) (hi:gQ H β (hO C β c T n1 xs)) (hn:xs.length=n1) (ht:TyS S.P t e C.n bytes) (hN:Nat.blt d S.N=true) (hg:GD l0 ms E outs i g) (h1:lS ms [] i [0]=true) (hj:bL xs j=some z) {r0:List Ou} (hr:r0=.v (.vc (pE β j C.n 0))::ro) (kk:DN S H l0 ms E outs n (i+1) l ro):DN S H l0 ms E outs (n+1) i (⟨some d,.indexAddr t x y,ty,pos,af,g⟩::l) r0:=by
 refine iF (ins:=[(x,(.vc (pO β n1 c))),(y,(.vc (pI k j)))]) (fun A=>?_) (fun G=>⟨bY (hx G),bY (hy G),trivial⟩) hN hg h1 hr kk
 obtain⟨i,hi1,hi2⟩:=(hi.app (A:=A)).at
 exact gN i rfl ht hi1 hn (aN hj).1 (aN hj).2.1
theorem aSt {α:Type} {C:Cd α} {xs:List α} {β:Option Nat} {c T n1:Nat} {t e k bytes:Nat} {x:Operand} (hx:ev E x=some (.vc (pO β n1 c))) (hi:gQ H β (hO C β c T n1 xs)) (hn:xs.length=n1) (ht:TyS S.P t e k bytes) (hN:Nat.blt d S.N=true) (hg:dV ops E g) (k:GL S ops κ rest H ((d,.vc (pI .i64 xs.length))::E) Q):GL S ops κ (⟨some d,.call {callee:=.builtin .len,args:=#[x],argTypes:=#[t]},ty,pos,af,g⟩::rest) H E Q:=by
 obtain⟨i,hi1,hi2⟩:=hi.at
 exact kU (aEd (C:=C) (T:=T) rfl ht hn) ⟨dX hx,trivial⟩ hg hN k
theorem aRQ {α:Type} {C:Cd α} {xs:List α} {β:Option Nat} {c T n1:Nat} {t e k bytes:Nat} {x:Operand} (hx:∀G,sW l0 ms E outs G i x=some (.vc (pO β n1 c))) (hi:gQ H β (hO C β c T n1 xs)) (hn:xs.length=n1) (ht:TyS S.P t e k bytes) (hN:Nat.blt d S.N=true) (hg:GD l0 ms E outs i g) (h1:lS ms [] i [0]=true) {r0:List Ou} (hr:r0=.v (.vc (pI .i64 xs.length))::ro) (kk:DN S H l0 ms E outs n (i+1) l ro):DN S H l0 ms E outs (n+1) i (⟨some d,.call {callee:=.builtin .len,args:=#[x],argTypes:=#[t]},ty,pos,af,g⟩::l) r0:=by
 refine iF (ins:=[(x,(.vc (pO β n1 c)))]) (fun A=>?_) (fun G=>⟨bY (hx G),trivial⟩) hN hg h1 hr kk
 obtain⟨i,hi1,hi2⟩:=(hi.app (A:=A)).at
 exact aEd (C:=C) (T:=T) rfl ht hn
theorem aPt {α:Type} {C:Cd α} {xs:List α} {β:Option Nat} {c T n1:Nat} {t off m:Nat} {x:Operand} {j:Int} {z:α} {q:CP} (hx:ev E x=some (.vc (pE β j m off))) (hi:gQ H β (hO C β c T n1 xs)) (hm:C.n=m) (hj:bL xs j=some z) (ht:Ty1 S.P t) (hq:tO 1 ((C.e z).drop off)=some [q]) (hC:Nat.ble (off+1) C.n=true) (hN:Nat.blt d S.N=true) (hg:dV ops E g) (k:GL S ops κ rest H ((d,.vc q)::E) Q):GL S ops κ (⟨some d,.load t x,ty,pos,af,g⟩::rest) H E Q:=by
 subst hm;obtain⟨i,hi1,hi2⟩:=hi.at
 exact kU (lE (k:=1) i rfl hi1 hj hq (.one ht) hC) ⟨dX hx,trivial⟩ hg hN k
theorem aOp {α:Type} {C:Cd α} {xs:List α} {β:Option Nat} {c T n1:Nat} {t off m:Nat} {x:Operand} {j:Int} {z:α} {q:CP} (hx:∀G,sW l0 ms E outs G i x=some (.vc (pE β j m off))) (hi:gQ H β (hO C β c T n1 xs)) (hm:C.n=m) (hj:bL xs j=some z) (ht:Ty1 S.P t) (hq:tO 1 ((C.e z).drop off)=some [q]) (hC:Nat.ble (off+1) C.n=true) (hN:Nat.blt d S.N=true) (hg:GD l0 ms E outs i g) (h1:lS ms [] i [0]=true) {r0:List Ou} (hr:r0=.v (.vc q)::ro) (kk:DN S H l0 ms E outs n (i+1) l ro):DN S H l0 ms E outs (n+1) i (⟨some d,.load t x,ty,pos,af,g⟩::l) r0:=by
 subst hm;refine iF (ins:=[(x,(.vc (pE β j C.n off)))]) (fun A=>?_) (fun G=>⟨bY (hx G),trivial⟩) hN hg h1 hr kk
 obtain⟨i,hi1,hi2⟩:=(hi.app (A:=A)).at
 exact lE (k:=1) i rfl hi1 hj hq (.one ht) hC
theorem aOy {α:Type} {C:Cd α} {xs:List α} {β:Option Nat} {c T n1:Nat} {t off m u:Nat} {x:Operand} {j:Int} {z:α} {qs:List CP} (hx:ev E x=some (.vc (pE β j m off))) (hi:gQ H β (hO C β c T n1 xs)) (hm:C.n=m) (hj:bL xs j=some z) (ht:TyA S.P t u) (hq:tO u ((C.e z).drop off)=some qs) (hC:Nat.ble (off+u) C.n=true) (hN:Nat.blt d S.N=true) (hg:dV ops E g) (k:GL S ops κ rest H ((d,.va qs)::E) Q):GL S ops κ (⟨some d,.load t x,ty,pos,af,g⟩::rest) H E Q:=by
 subst hm;obtain⟨i,hi1,hi2⟩:=hi.at
 exact kU (lE (k:=u) i rfl hi1 hj hq (.agg ht (zB hq)) hC) ⟨dX hx,trivial⟩ hg hN k
theorem aPB {α:Type} {C:Cd α} {xs:List α} {β:Option Nat} {c T n1:Nat} {t off m u:Nat} {x:Operand} {j:Int} {z:α} {qs:List CP} (hx:∀G,sW l0 ms E outs G i x=some (.vc (pE β j m off))) (hi:gQ H β (hO C β c T n1 xs)) (hm:C.n=m) (hj:bL xs j=some z) (ht:TyA S.P t u) (hq:tO u ((C.e z).drop off)=some qs) (hC:Nat.ble (off+u) C.n=true) (hN:Nat.blt d S.N=true) (hg:GD l0 ms E outs i g) (h1:lS ms [] i [0]=true) {r0:List Ou} (hr:r0=.v (.va qs)::ro) (kk:DN S H l0 ms E outs n (i+1) l ro):DN S H l0 ms E outs (n+1) i (⟨some d,.load t x,ty,pos,af,g⟩::l) r0:=by
 subst hm;refine iF (ins:=[(x,(.vc (pE β j C.n off)))]) (fun A=>?_) (fun G=>⟨bY (hx G),trivial⟩) hN hg h1 hr kk
 obtain⟨i,hi1,hi2⟩:=(hi.app (A:=A)).at
 exact lE (k:=u) i rfl hi1 hj hq (.agg ht (zB hq)) hC
theorem ty1s {P:Program} {t:Nat} [h:Ty1 P t]:(P.info? t).map (·.size)=some 1:=h.s
theorem tyAs {P:Program} {t k:Nat} [h:TyA P t k]:(P.info? t).map (·.size)=some k:=h.s
theorem aMh {α:Type} {C:Cd α} {xs zs:List α} {β:Option Nat} {c T n1:Nat} {t off m u:Nat} {x y:Operand} {j:Int} {z z':α} {p:VP} (hx:ev E x=some (.vc (pE β j m off))) (hy:ev E y=some p) (hi:gQ H β (hO C β c T n1 xs)) (hm:C.n=m) (hj:bL xs j=some z) (hs:oO xs j z'=some zs) (hT:(S.P.info? t).map (·.size)=some u) (hr:aAi H β (hO C β c T n1 xs) (hO C β c T n1 zs) H') (hp:p.flat) (hk:p.cells.length=u) (hq:aAh (C.e z) off p.cells=some (C.e z')) (k:GL S ops κ rest H' E Q):GL S ops κ (⟨none,.store t x y,ty,pos,af,none⟩::rest) H E Q:=by
 obtain⟨i,h1,h2,h3⟩:=hr.at
 subst hm
 exact⟨fun q=>mR (xV i rfl h1 hj hs hT hp hk hq h3) ⟨dX hx,dX hy,trivial⟩ (k.h q) rfl rfl⟩
theorem aUO {α:Type} {C:Cd α} {xs:List α} {t e q bytes:Nat} {x:Operand} (hx:ev E x=some (.vc (pS C xs))) (ht:TyS S.P t e q bytes) (hN:Nat.blt d S.N=true) (hg:dV ops E g) (k:GL S ops κ rest H ((d,.vc (pI .i64 xs.length))::E) Q):GL S ops κ (⟨some d,.call {callee:=.builtin .len,args:=#[x],argTypes:=#[t]},ty,pos,af,g⟩::rest) H E Q:=
 kU (uN rfl ht) ⟨dX hx,trivial⟩ hg hN k
theorem aUq {α:Type} {C:Cd α} {xs:List α} {t e q bytes:Nat} {x:Operand} (hx:∀G,sW l0 ms E outs G i x=some (.vc (pS C xs))) (ht:TyS S.P t e q bytes) (hN:Nat.blt d S.N=true) (hg:GD l0 ms E outs i g) (h1:lS ms [] i [0]=true) {r0:List Ou} (hr:r0=.v (.vc (pI .i64 xs.length))::ro) (kk:DN S H l0 ms E outs n (i+1) l ro):DN S H l0 ms E outs (n+1) i (⟨some d,.call {callee:=.builtin .len,args:=#[x],argTypes:=#[t]},ty,pos,af,g⟩::l) r0:=
 iF (fun A=>uN rfl ht) (fun G=>⟨bY (hx G),trivial⟩) hN hg h1 hr kk
theorem aTN {T T':Nat} {x y:Operand} {u v:Int} {k:IntKind} (hx:ev E x=some (.vc (pI k u))) (hy:ev E y=some (.vc (pI k v))) (hN:Nat.blt d S.N=true) (hg:dV ops E g) (k:GL S ops κ rest H ((d,.vc (pB (decide (u<v))))::E) Q):GL S ops κ (⟨some d,.binOp .lss T x y T',ty,pos,af,g⟩::rest) H E Q:=
 kU (aNB rfl) ⟨dX hx,dX hy,trivial⟩ hg hN k
theorem aUP {T T':Nat} {x y:Operand} {u v:Int} {k:IntKind} (hx:∀G,sW l0 ms E outs G i x=some (.vc (pI k u))) (hy:∀G,sW l0 ms E outs G i y=some (.vc (pI k v))) (hN:Nat.blt d S.N=true) (hg:GD l0 ms E outs i g) (h1:lS ms [] i [0]=true) {r0:List Ou} (hr:r0=.v (.vc (pB (decide (u<v))))::ro) (kk:DN S H l0 ms E outs n (i+1) l ro):DN S H l0 ms E outs (n+1) i (⟨some d,.binOp .lss T x y T',ty,pos,af,g⟩::l) r0:=
 iF (fun A=>aNB rfl) (fun G=>⟨bY (hx G),bY (hy G),trivial⟩) hN hg h1 hr kk
theorem aU3 {T T':Nat} {x y:Operand} {u v:Int} {k:IntKind} {w:Bool} (hx:∀G,sW l0 ms E outs G i x=some (.vc (pI k u))) (hy:∀G,sW l0 ms E outs G i y=some (.vc (pI k v))) (hN:Nat.blt d S.N=true) (hg:GD l0 ms E outs i g) (h1:lS ms [] i [0]=true) (hb:(decide (u<v))=w) {r0:List Ou} (hr:r0=.v (.vc (pB w))::ro) (kk:DN S H l0 ms E outs n (i+1) l ro):DN S H l0 ms E outs (n+1) i (⟨some d,.binOp .lss T x y T',ty,pos,af,g⟩::l) r0:=
 iF (fun A=>jK (aNB rfl) hb) (fun G=>⟨bY (hx G),bY (hy G),trivial⟩) hN hg h1 hr kk
theorem aTP {T T':Nat} {x y:Operand} {u v:Int} {k:IntKind} (hx:ev E x=some (.vc (pI k u))) (hy:ev E y=some (.vc (pI k v))) (hN:Nat.blt d S.N=true) (hg:dV ops E g) (k:GL S ops κ rest H ((d,.vc (pB (u==v)))::E) Q):GL S ops κ (⟨some d,.binOp .eql T x y T',ty,pos,af,g⟩::rest) H E Q:=
 kU (aLb rfl) ⟨dX hx,dX hy,trivial⟩ hg hN k
theorem aUV {T T':Nat} {x y:Operand} {u v:Int} {k:IntKind} (hx:∀G,sW l0 ms E outs G i x=some (.vc (pI k u))) (hy:∀G,sW l0 ms E outs G i y=some (.vc (pI k v))) (hN:Nat.blt d S.N=true) (hg:GD l0 ms E outs i g) (h1:lS ms [] i [0]=true) {r0:List Ou} (hr:r0=.v (.vc (pB (u==v)))::ro) (kk:DN S H l0 ms E outs n (i+1) l ro):DN S H l0 ms E outs (n+1) i (⟨some d,.binOp .eql T x y T',ty,pos,af,g⟩::l) r0:=
 iF (fun A=>aLb rfl) (fun G=>⟨bY (hx G),bY (hy G),trivial⟩) hN hg h1 hr kk
theorem aUk {T T':Nat} {x y:Operand} {u v:Int} {k:IntKind} {w:Bool} (hx:∀G,sW l0 ms E outs G i x=some (.vc (pI k u))) (hy:∀G,sW l0 ms E outs G i y=some (.vc (pI k v))) (hN:Nat.blt d S.N=true) (hg:GD l0 ms E outs i g) (h1:lS ms [] i [0]=true) (hb:(u==v)=w) {r0:List Ou} (hr:r0=.v (.vc (pB w))::ro) (kk:DN S H l0 ms E outs n (i+1) l ro):DN S H l0 ms E outs (n+1) i (⟨some d,.binOp .eql T x y T',ty,pos,af,g⟩::l) r0:=
 iF (fun A=>jK (aLb rfl) hb) (fun G=>⟨bY (hx G),bY (hy G),trivial⟩) hN hg h1 hr kk
theorem aT5 {T T':Nat} {x y:Operand} {u v:Int} {k:IntKind} (hx:ev E x=some (.vc (pI k u))) (hy:ev E y=some (.vc (pI k v))) (hN:Nat.blt d S.N=true) (hg:dV ops E g) (k:GL S ops κ rest H ((d,.vc (pB (u != v)))::E) Q):GL S ops κ (⟨some d,.binOp .neq T x y T',ty,pos,af,g⟩::rest) H E Q:=
 kU (aTm rfl) ⟨dX hx,dX hy,trivial⟩ hg hN k
theorem aTV {T T':Nat} {x y:Operand} {u v:Int} {k:IntKind} (hx:∀G,sW l0 ms E outs G i x=some (.vc (pI k u))) (hy:∀G,sW l0 ms E outs G i y=some (.vc (pI k v))) (hN:Nat.blt d S.N=true) (hg:GD l0 ms E outs i g) (h1:lS ms [] i [0]=true) {r0:List Ou} (hr:r0=.v (.vc (pB (u != v)))::ro) (kk:DN S H l0 ms E outs n (i+1) l ro):DN S H l0 ms E outs (n+1) i (⟨some d,.binOp .neq T x y T',ty,pos,af,g⟩::l) r0:=
 iF (fun A=>aTm rfl) (fun G=>⟨bY (hx G),bY (hy G),trivial⟩) hN hg h1 hr kk
theorem aUY {T T':Nat} {x y:Operand} {u v:Int} {k:IntKind} {w:Bool} (hx:∀G,sW l0 ms E outs G i x=some (.vc (pI k u))) (hy:∀G,sW l0 ms E outs G i y=some (.vc (pI k v))) (hN:Nat.blt d S.N=true) (hg:GD l0 ms E outs i g) (h1:lS ms [] i [0]=true) (hb:(u != v)=w) {r0:List Ou} (hr:r0=.v (.vc (pB w))::ro) (kk:DN S H l0 ms E outs n (i+1) l ro):DN S H l0 ms E outs (n+1) i (⟨some d,.binOp .neq T x y T',ty,pos,af,g⟩::l) r0:=
 iF (fun A=>jK (aTm rfl) hb) (fun G=>⟨bY (hx G),bY (hy G),trivial⟩) hN hg h1 hr kk
theorem aVl {T T':Nat} {x y:Operand} {u v:Int} {k:IntKind} (hx:ev E x=some (.vc (pI k u))) (hy:ev E y=some (.vc (pI k v))) (hN:Nat.blt d S.N=true) (hg:dV ops E g) (k:GL S ops κ rest H ((d,.vc (pB (decide (u≤v))))::E) Q):GL S ops κ (⟨some d,.binOp .leq T x y T',ty,pos,af,g⟩::rest) H E Q:=
 kU (aSS rfl) ⟨dX hx,dX hy,trivial⟩ hg hN k
theorem aTM {T T':Nat} {x y:Operand} {u v:Int} {k:IntKind} (hx:∀G,sW l0 ms E outs G i x=some (.vc (pI k u))) (hy:∀G,sW l0 ms E outs G i y=some (.vc (pI k v))) (hN:Nat.blt d S.N=true) (hg:GD l0 ms E outs i g) (h1:lS ms [] i [0]=true) {r0:List Ou} (hr:r0=.v (.vc (pB (decide (u≤v))))::ro) (kk:DN S H l0 ms E outs n (i+1) l ro):DN S H l0 ms E outs (n+1) i (⟨some d,.binOp .leq T x y T',ty,pos,af,g⟩::l) r0:=
 iF (fun A=>aSS rfl) (fun G=>⟨bY (hx G),bY (hy G),trivial⟩) hN hg h1 hr kk
theorem aVi {T T':Nat} {x y:Operand} {u v:Int} {k:IntKind} {w:Bool} (hx:∀G,sW l0 ms E outs G i x=some (.vc (pI k u))) (hy:∀G,sW l0 ms E outs G i y=some (.vc (pI k v))) (hN:Nat.blt d S.N=true) (hg:GD l0 ms E outs i g) (h1:lS ms [] i [0]=true) (hb:(decide (u≤v))=w) {r0:List Ou} (hr:r0=.v (.vc (pB w))::ro) (kk:DN S H l0 ms E outs n (i+1) l ro):DN S H l0 ms E outs (n+1) i (⟨some d,.binOp .leq T x y T',ty,pos,af,g⟩::l) r0:=
 iF (fun A=>jK (aSS rfl) hb) (fun G=>⟨bY (hx G),bY (hy G),trivial⟩) hN hg h1 hr kk
theorem aU1 {T T':Nat} {x y:Operand} {u v:Int} {k:IntKind} (hx:ev E x=some (.vc (pI k u))) (hy:ev E y=some (.vc (pI k v))) (hN:Nat.blt d S.N=true) (hg:dV ops E g) (k:GL S ops κ rest H ((d,.vc (pB (decide (v<u))))::E) Q):GL S ops κ (⟨some d,.binOp .gtr T x y T',ty,pos,af,g⟩::rest) H E Q:=
 kU (aND rfl) ⟨dX hx,dX hy,trivial⟩ hg hN k
theorem aTL {T T':Nat} {x y:Operand} {u v:Int} {k:IntKind} (hx:∀G,sW l0 ms E outs G i x=some (.vc (pI k u))) (hy:∀G,sW l0 ms E outs G i y=some (.vc (pI k v))) (hN:Nat.blt d S.N=true) (hg:GD l0 ms E outs i g) (h1:lS ms [] i [0]=true) {r0:List Ou} (hr:r0=.v (.vc (pB (decide (v<u))))::ro) (kk:DN S H l0 ms E outs n (i+1) l ro):DN S H l0 ms E outs (n+1) i (⟨some d,.binOp .gtr T x y T',ty,pos,af,g⟩::l) r0:=
 iF (fun A=>aND rfl) (fun G=>⟨bY (hx G),bY (hy G),trivial⟩) hN hg h1 hr kk
theorem aUH {T T':Nat} {x y:Operand} {u v:Int} {k:IntKind} {w:Bool} (hx:∀G,sW l0 ms E outs G i x=some (.vc (pI k u))) (hy:∀G,sW l0 ms E outs G i y=some (.vc (pI k v))) (hN:Nat.blt d S.N=true) (hg:GD l0 ms E outs i g) (h1:lS ms [] i [0]=true) (hb:(decide (v<u))=w) {r0:List Ou} (hr:r0=.v (.vc (pB w))::ro) (kk:DN S H l0 ms E outs n (i+1) l ro):DN S H l0 ms E outs (n+1) i (⟨some d,.binOp .gtr T x y T',ty,pos,af,g⟩::l) r0:=
 iF (fun A=>jK (aND rfl) hb) (fun G=>⟨bY (hx G),bY (hy G),trivial⟩) hN hg h1 hr kk
theorem aUE {T T':Nat} {x y:Operand} {u v:Int} {k:IntKind} (hx:ev E x=some (.vc (pI k u))) (hy:ev E y=some (.vc (pI k v))) (hN:Nat.blt d S.N=true) (hg:dV ops E g) (k:GL S ops κ rest H ((d,.vc (pB (decide (v≤u))))::E) Q):GL S ops κ (⟨some d,.binOp .geq T x y T',ty,pos,af,g⟩::rest) H E Q:=
 kU (aSO rfl) ⟨dX hx,dX hy,trivial⟩ hg hN k
theorem aUt {T T':Nat} {x y:Operand} {u v:Int} {k:IntKind} (hx:∀G,sW l0 ms E outs G i x=some (.vc (pI k u))) (hy:∀G,sW l0 ms E outs G i y=some (.vc (pI k v))) (hN:Nat.blt d S.N=true) (hg:GD l0 ms E outs i g) (h1:lS ms [] i [0]=true) {r0:List Ou} (hr:r0=.v (.vc (pB (decide (v≤u))))::ro) (kk:DN S H l0 ms E outs n (i+1) l ro):DN S H l0 ms E outs (n+1) i (⟨some d,.binOp .geq T x y T',ty,pos,af,g⟩::l) r0:=
 iF (fun A=>aSO rfl) (fun G=>⟨bY (hx G),bY (hy G),trivial⟩) hN hg h1 hr kk
theorem aUX {T T':Nat} {x y:Operand} {u v:Int} {k:IntKind} {w:Bool} (hx:∀G,sW l0 ms E outs G i x=some (.vc (pI k u))) (hy:∀G,sW l0 ms E outs G i y=some (.vc (pI k v))) (hN:Nat.blt d S.N=true) (hg:GD l0 ms E outs i g) (h1:lS ms [] i [0]=true) (hb:(decide (v≤u))=w) {r0:List Ou} (hr:r0=.v (.vc (pB w))::ro) (kk:DN S H l0 ms E outs n (i+1) l ro):DN S H l0 ms E outs (n+1) i (⟨some d,.binOp .geq T x y T',ty,pos,af,g⟩::l) r0:=
 iF (fun A=>jK (aSO rfl) hb) (fun G=>⟨bY (hx G),bY (hy G),trivial⟩) hN hg h1 hr kk
theorem aRT {T T':Nat} {x y:Operand} {u v r:Int} (hx:ev E x=some (.vc (pI .i64 u))) (hy:ev E y=some (.vc (pI .i64 v))) (hN:Nat.blt d S.N=true) (hg:dV ops E g) (h:aT (u+v)=some r) (k:GL S ops κ rest H ((d,.vc (pI .i64 r))::E) Q):GL S ops κ (⟨some d,.binOp .add T x y T',ty,pos,af,g⟩::rest) H E Q:=
 kU (xJ rfl h) ⟨dX hx,dX hy,trivial⟩ hg hN k
theorem aRS {T T':Nat} {x y:Operand} {u v r:Int} (hx:∀G,sW l0 ms E outs G i x=some (.vc (pI .i64 u))) (hy:∀G,sW l0 ms E outs G i y=some (.vc (pI .i64 v))) (hN:Nat.blt d S.N=true) (hg:GD l0 ms E outs i g) (h1:lS ms [] i [0]=true) (h:aT (u+v)=some r) {r0:List Ou} (hr:r0=.v (.vc (pI .i64 r))::ro) (kk:DN S H l0 ms E outs n (i+1) l ro):DN S H l0 ms E outs (n+1) i (⟨some d,.binOp .add T x y T',ty,pos,af,g⟩::l) r0:=
 iF (fun A=>xJ rfl h) (fun G=>⟨bY (hx G),bY (hy G),trivial⟩) hN hg h1 hr kk
theorem aRI {T T':Nat} {x y:Operand} {u v r:Int} (hx:ev E x=some (.vc (pI .i64 u))) (hy:ev E y=some (.vc (pI .i64 v))) (hN:Nat.blt d S.N=true) (hg:dV ops E g) (h:aT (u-v)=some r) (k:GL S ops κ rest H ((d,.vc (pI .i64 r))::E) Q):GL S ops κ (⟨some d,.binOp .sub T x y T',ty,pos,af,g⟩::rest) H E Q:=
 kU (aEw rfl h) ⟨dX hx,dX hy,trivial⟩ hg hN k
theorem aRk {T T':Nat} {x y:Operand} {u v r:Int} (hx:∀G,sW l0 ms E outs G i x=some (.vc (pI .i64 u))) (hy:∀G,sW l0 ms E outs G i y=some (.vc (pI .i64 v))) (hN:Nat.blt d S.N=true) (hg:GD l0 ms E outs i g) (h1:lS ms [] i [0]=true) (h:aT (u-v)=some r) {r0:List Ou} (hr:r0=.v (.vc (pI .i64 r))::ro) (kk:DN S H l0 ms E outs n (i+1) l ro):DN S H l0 ms E outs (n+1) i (⟨some d,.binOp .sub T x y T',ty,pos,af,g⟩::l) r0:=
 iF (fun A=>aEw rfl h) (fun G=>⟨bY (hx G),bY (hy G),trivial⟩) hN hg h1 hr kk
theorem aSs {T T':Nat} {x y:Operand} {u v r:Int} (hx:ev E x=some (.vc (pI .i64 u))) (hy:ev E y=some (.vc (pI .i64 v))) (hN:Nat.blt d S.N=true) (hg:dV ops E g) (h:aT (u*v)=some r) (k:GL S ops κ rest H ((d,.vc (pI .i64 r))::E) Q):GL S ops κ (⟨some d,.binOp .mul T x y T',ty,pos,af,g⟩::rest) H E Q:=
 kU (aLt rfl h) ⟨dX hx,dX hy,trivial⟩ hg hN k
theorem aSn {T T':Nat} {x y:Operand} {u v r:Int} (hx:∀G,sW l0 ms E outs G i x=some (.vc (pI .i64 u))) (hy:∀G,sW l0 ms E outs G i y=some (.vc (pI .i64 v))) (hN:Nat.blt d S.N=true) (hg:GD l0 ms E outs i g) (h1:lS ms [] i [0]=true) (h:aT (u*v)=some r) {r0:List Ou} (hr:r0=.v (.vc (pI .i64 r))::ro) (kk:DN S H l0 ms E outs n (i+1) l ro):DN S H l0 ms E outs (n+1) i (⟨some d,.binOp .mul T x y T',ty,pos,af,g⟩::l) r0:=
 iF (fun A=>aLt rfl h) (fun G=>⟨bY (hx G),bY (hy G),trivial⟩) hN hg h1 hr kk
theorem aR9 {T T':Nat} {x y:Operand} {u v r:Int} (hx:ev E x=some (.vc (pI .i64 u))) (hy:ev E y=some (.vc (pI .i64 v))) (hN:Nat.blt d S.N=true) (hg:dV ops E g) (h:zX u v=some r) (k:GL S ops κ rest H ((d,.vc (pI .i64 r))::E) Q):GL S ops κ (⟨some d,.binOp .quo T x y T',ty,pos,af,g⟩::rest) H E Q:=
 kU (aGi rfl h) ⟨dX hx,dX hy,trivial⟩ hg hN k
theorem aRE {T T':Nat} {x y:Operand} {u v r:Int} (hx:∀G,sW l0 ms E outs G i x=some (.vc (pI .i64 u))) (hy:∀G,sW l0 ms E outs G i y=some (.vc (pI .i64 v))) (hN:Nat.blt d S.N=true) (hg:GD l0 ms E outs i g) (h1:lS ms [] i [0]=true) (h:zX u v=some r) {r0:List Ou} (hr:r0=.v (.vc (pI .i64 r))::ro) (kk:DN S H l0 ms E outs n (i+1) l ro):DN S H l0 ms E outs (n+1) i (⟨some d,.binOp .quo T x y T',ty,pos,af,g⟩::l) r0:=
 iF (fun A=>aGi rfl h) (fun G=>⟨bY (hx G),bY (hy G),trivial⟩) hN hg h1 hr kk
theorem aRK {T T':Nat} {x y:Operand} {u v r:Int} {k:IntKind} (hx:ev E x=some (.vc (pI k u))) (hy:ev E y=some (.vc (pI k v))) (hN:Nat.blt d S.N=true) (hg:dV ops E g) (h:yK u v=some r) (k:GL S ops κ rest H ((d,.vc (pI k r))::E) Q):GL S ops κ (⟨some d,.binOp .rem T x y T',ty,pos,af,g⟩::rest) H E Q:=
 kU (aDx rfl h) ⟨dX hx,dX hy,trivial⟩ hg hN k
theorem aSq {T T':Nat} {x y:Operand} {u v r:Int} {k:IntKind} (hx:∀G,sW l0 ms E outs G i x=some (.vc (pI k u))) (hy:∀G,sW l0 ms E outs G i y=some (.vc (pI k v))) (hN:Nat.blt d S.N=true) (hg:GD l0 ms E outs i g) (h1:lS ms [] i [0]=true) (h:yK u v=some r) {r0:List Ou} (hr:r0=.v (.vc (pI k r))::ro) (kk:DN S H l0 ms E outs n (i+1) l ro):DN S H l0 ms E outs (n+1) i (⟨some d,.binOp .rem T x y T',ty,pos,af,g⟩::l) r0:=
 iF (fun A=>aDx rfl h) (fun G=>⟨bY (hx G),bY (hy G),trivial⟩) hN hg h1 hr kk
theorem aRG {T:Nat} {x:Operand} {u:Bool} (hx:ev E x=some (.vc (pB u))) (hN:Nat.blt d S.N=true) (hg:dV ops E g) (k:GL S ops κ rest H ((d,.vc (pB (!u)))::E) Q):GL S ops κ (⟨some d,.unOp .not T x,ty,pos,af,g⟩::rest) H E Q:=
 kU (aME rfl) ⟨dX hx,trivial⟩ hg hN k
theorem aRZ {T:Nat} {x:Operand} {u:Bool} (hx:∀G,sW l0 ms E outs G i x=some (.vc (pB u))) (hN:Nat.blt d S.N=true) (hg:GD l0 ms E outs i g) (h1:lS ms [] i [0]=true) {r0:List Ou} (hr:r0=.v (.vc (pB (!u)))::ro) (kk:DN S H l0 ms E outs n (i+1) l ro):DN S H l0 ms E outs (n+1) i (⟨some d,.unOp .not T x,ty,pos,af,g⟩::l) r0:=
 iF (fun A=>aME rfl) (fun G=>⟨bY (hx G),trivial⟩) hN hg h1 hr kk
theorem aS7 {T:Nat} {x:Operand} {u:Bool} {w:Bool} (hx:∀G,sW l0 ms E outs G i x=some (.vc (pB u))) (hN:Nat.blt d S.N=true) (hg:GD l0 ms E outs i g) (h1:lS ms [] i [0]=true) (hb:(!u)=w) {r0:List Ou} (hr:r0=.v (.vc (pB w))::ro) (kk:DN S H l0 ms E outs n (i+1) l ro):DN S H l0 ms E outs (n+1) i (⟨some d,.unOp .not T x,ty,pos,af,g⟩::l) r0:=
 iF (fun A=>jK (aME rfl) hb) (fun G=>⟨bY (hx G),trivial⟩) hN hg h1 hr kk
theorem aRO {T:Nat} {x:Operand} {u r:Int} (hx:ev E x=some (.vc (pI .i64 u))) (hN:Nat.blt d S.N=true) (hg:dV ops E g) (h:aT (-u)=some r) (k:GL S ops κ rest H ((d,.vc (pI .i64 r))::E) Q):GL S ops κ (⟨some d,.unOp .neg T x,ty,pos,af,g⟩::rest) H E Q:=
 kU (aRs rfl h) ⟨dX hx,trivial⟩ hg hN k
theorem aSk {T:Nat} {x:Operand} {u r:Int} (hx:∀G,sW l0 ms E outs G i x=some (.vc (pI .i64 u))) (hN:Nat.blt d S.N=true) (hg:GD l0 ms E outs i g) (h1:lS ms [] i [0]=true) (h:aT (-u)=some r) {r0:List Ou} (hr:r0=.v (.vc (pI .i64 r))::ro) (kk:DN S H l0 ms E outs n (i+1) l ro):DN S H l0 ms E outs (n+1) i (⟨some d,.unOp .neg T x,ty,pos,af,g⟩::l) r0:=
 iF (fun A=>aRs rfl h) (fun G=>⟨bY (hx G),trivial⟩) hN hg h1 hr kk
theorem aR8 {x:Operand} {p q:VP} (hx:ev E x=some (.t2 p q)) (hN:Nat.blt d S.N=true) (hg:dV ops E g) (k:GL S ops κ rest H ((d,p)::E) Q):GL S ops κ (⟨some d,.extract x 0,ty,pos,af,g⟩::rest) H E Q:=
 kU (aLL rfl) ⟨dX hx,trivial⟩ hg hN k
theorem aRR {x:Operand} {p q:VP} (hx:∀G,sW l0 ms E outs G i x=some (.t2 p q)) (hN:Nat.blt d S.N=true) (hg:GD l0 ms E outs i g) (h1:lS ms [] i [0]=true) {r0:List Ou} (hr:r0=.v (p)::ro) (kk:DN S H l0 ms E outs n (i+1) l ro):DN S H l0 ms E outs (n+1) i (⟨some d,.extract x 0,ty,pos,af,g⟩::l) r0:=
 iF (fun A=>aLL rfl) (fun G=>⟨bY (hx G),trivial⟩) hN hg h1 hr kk
theorem aRi {x:Operand} {p q:VP} (hx:ev E x=some (.t2 p q)) (hN:Nat.blt d S.N=true) (hg:dV ops E g) (k:GL S ops κ rest H ((d,q)::E) Q):GL S ops κ (⟨some d,.extract x 1,ty,pos,af,g⟩::rest) H E Q:=
 kU (aLD rfl) ⟨dX hx,trivial⟩ hg hN k
theorem aRy {x:Operand} {p q:VP} (hx:∀G,sW l0 ms E outs G i x=some (.t2 p q)) (hN:Nat.blt d S.N=true) (hg:GD l0 ms E outs i g) (h1:lS ms [] i [0]=true) {r0:List Ou} (hr:r0=.v (q)::ro) (kk:DN S H l0 ms E outs n (i+1) l ro):DN S H l0 ms E outs (n+1) i (⟨some d,.extract x 1,ty,pos,af,g⟩::l) r0:=
 iF (fun A=>aLD rfl) (fun G=>⟨bY (hx G),trivial⟩) hN hg h1 hr kk
theorem aRp {x:Operand} {p q r:VP} (hx:ev E x=some (.t3 p q r)) (hN:Nat.blt d S.N=true) (hg:dV ops E g) (k:GL S ops κ rest H ((d,p)::E) Q):GL S ops κ (⟨some d,.extract x 0,ty,pos,af,g⟩::rest) H E Q:=
 kU (aLu rfl) ⟨dX hx,trivial⟩ hg hN k
theorem aRn {x:Operand} {p q r:VP} (hx:∀G,sW l0 ms E outs G i x=some (.t3 p q r)) (hN:Nat.blt d S.N=true) (hg:GD l0 ms E outs i g) (h1:lS ms [] i [0]=true) {r0:List Ou} (hr:r0=.v (p)::ro) (kk:DN S H l0 ms E outs n (i+1) l ro):DN S H l0 ms E outs (n+1) i (⟨some d,.extract x 0,ty,pos,af,g⟩::l) r0:=
 iF (fun A=>aLu rfl) (fun G=>⟨bY (hx G),trivial⟩) hN hg h1 hr kk
theorem aRv {x:Operand} {p q r:VP} (hx:ev E x=some (.t3 p q r)) (hN:Nat.blt d S.N=true) (hg:dV ops E g) (k:GL S ops κ rest H ((d,q)::E) Q):GL S ops κ (⟨some d,.extract x 1,ty,pos,af,g⟩::rest) H E Q:=
 kU (aMK rfl) ⟨dX hx,trivial⟩ hg hN k
theorem aRb {x:Operand} {p q r:VP} (hx:∀G,sW l0 ms E outs G i x=some (.t3 p q r)) (hN:Nat.blt d S.N=true) (hg:GD l0 ms E outs i g) (h1:lS ms [] i [0]=true) {r0:List Ou} (hr:r0=.v (q)::ro) (kk:DN S H l0 ms E outs n (i+1) l ro):DN S H l0 ms E outs (n+1) i (⟨some d,.extract x 1,ty,pos,af,g⟩::l) r0:=
 iF (fun A=>aMK rfl) (fun G=>⟨bY (hx G),trivial⟩) hN hg h1 hr kk
theorem aRo {x:Operand} {p q r:VP} (hx:ev E x=some (.t3 p q r)) (hN:Nat.blt d S.N=true) (hg:dV ops E g) (k:GL S ops κ rest H ((d,r)::E) Q):GL S ops κ (⟨some d,.extract x 2,ty,pos,af,g⟩::rest) H E Q:=
 kU (aMA rfl) ⟨dX hx,trivial⟩ hg hN k
theorem aRd {x:Operand} {p q r:VP} (hx:∀G,sW l0 ms E outs G i x=some (.t3 p q r)) (hN:Nat.blt d S.N=true) (hg:GD l0 ms E outs i g) (h1:lS ms [] i [0]=true) {r0:List Ou} (hr:r0=.v (r)::ro) (kk:DN S H l0 ms E outs n (i+1) l ro):DN S H l0 ms E outs (n+1) i (⟨some d,.extract x 2,ty,pos,af,g⟩::l) r0:=
 iF (fun A=>aMA rfl) (fun G=>⟨bY (hx G),trivial⟩) hN hg h1 hr kk
theorem aUa {x y:Operand} {u v:Int} {ts:Array TypeId} (hx:ev E x=some (.vc (pI .i64 u))) (hy:ev E y=some (.vc (pI .i64 v))) (hN:Nat.blt d S.N=true) (hg:dV ops E g) (k:GL S ops κ rest H ((d,.vc (pI .i64 (min u v)))::E) Q):GL S ops κ (⟨some d,.call {callee:=.builtin .min,args:=#[x,y],argTypes:=ts},ty,pos,af,g⟩::rest) H E Q:=
 kU (aRq rfl) ⟨dX hx,dX hy,trivial⟩ hg hN k
theorem aT9 {x y:Operand} {u v:Int} {ts:Array TypeId} (hx:∀G,sW l0 ms E outs G i x=some (.vc (pI .i64 u))) (hy:∀G,sW l0 ms E outs G i y=some (.vc (pI .i64 v))) (hN:Nat.blt d S.N=true) (hg:GD l0 ms E outs i g) (h1:lS ms [] i [0]=true) {r0:List Ou} (hr:r0=.v (.vc (pI .i64 (min u v)))::ro) (kk:DN S H l0 ms E outs n (i+1) l ro):DN S H l0 ms E outs (n+1) i (⟨some d,.call {callee:=.builtin .min,args:=#[x,y],argTypes:=ts},ty,pos,af,g⟩::l) r0:=
 iF (fun A=>aRq rfl) (fun G=>⟨bY (hx G),bY (hy G),trivial⟩) hN hg h1 hr kk
theorem aVs {x y:Operand} {u v:Int} {ts:Array TypeId} (hx:ev E x=some (.vc (pI .i64 u))) (hy:ev E y=some (.vc (pI .i64 v))) (hN:Nat.blt d S.N=true) (hg:dV ops E g) (k:GL S ops κ rest H ((d,.vc (pI .i64 (max u v)))::E) Q):GL S ops κ (⟨some d,.call {callee:=.builtin .max,args:=#[x,y],argTypes:=ts},ty,pos,af,g⟩::rest) H E Q:=
 kU (aSf rfl) ⟨dX hx,dX hy,trivial⟩ hg hN k
theorem aUK {x y:Operand} {u v:Int} {ts:Array TypeId} (hx:∀G,sW l0 ms E outs G i x=some (.vc (pI .i64 u))) (hy:∀G,sW l0 ms E outs G i y=some (.vc (pI .i64 v))) (hN:Nat.blt d S.N=true) (hg:GD l0 ms E outs i g) (h1:lS ms [] i [0]=true) {r0:List Ou} (hr:r0=.v (.vc (pI .i64 (max u v)))::ro) (kk:DN S H l0 ms E outs n (i+1) l ro):DN S H l0 ms E outs (n+1) i (⟨some d,.call {callee:=.builtin .max,args:=#[x,y],argTypes:=ts},ty,pos,af,g⟩::l) r0:=
 iF (fun A=>aSf rfl) (fun G=>⟨bY (hx G),bY (hy G),trivial⟩) hN hg h1 hr kk
theorem aU5 {α:Type} {C:Cd α} {xs zs:List α} {t e bytes:Nat} {x y:Operand} {hi:Int} {k:IntKind} (hx:ev E x=some (.vc (pS C xs))) (hy:ev E y=some (.vc (pI k hi))) (ht:TyS S.P t e C.n bytes) (hN:Nat.blt d S.N=true) (hg:dV ops E g) (h:slL xs 0 hi=some zs) (k:GL S ops κ rest H ((d,.vc (pS C zs))::E) Q):GL S ops κ (⟨some d,.slice t x none (some y) none,ty,pos,af,g⟩::rest) H E Q:=
 kU (aIr rfl ht h) ⟨dX hx,dX hy,trivial⟩ hg hN k
theorem aUM {α:Type} {C:Cd α} {xs zs:List α} {t e bytes:Nat} {x y:Operand} {hi:Int} {k:IntKind} (hx:∀G,sW l0 ms E outs G i x=some (.vc (pS C xs))) (hy:∀G,sW l0 ms E outs G i y=some (.vc (pI k hi))) (ht:TyS S.P t e C.n bytes) (hN:Nat.blt d S.N=true) (hg:GD l0 ms E outs i g) (h1:lS ms [] i [0]=true) (h:slL xs 0 hi=some zs) {r0:List Ou} (hr:r0=.v (.vc (pS C zs))::ro) (kk:DN S H l0 ms E outs n (i+1) l ro):DN S H l0 ms E outs (n+1) i (⟨some d,.slice t x none (some y) none,ty,pos,af,g⟩::l) r0:=
 iF (fun A=>aIr rfl ht h) (fun G=>⟨bY (hx G),bY (hy G),trivial⟩) hN hg h1 hr kk
theorem aUe {α:Type} {C:Cd α} {xs zs:List α} {t e bytes:Nat} {x y:Operand} {lo:Int} {k:IntKind} (hx:ev E x=some (.vc (pS C xs))) (hy:ev E y=some (.vc (pI k lo))) (ht:TyS S.P t e C.n bytes) (hN:Nat.blt d S.N=true) (hg:dV ops E g) (h:slL xs lo xs.length=some zs) (k:GL S ops κ rest H ((d,.vc (pS C zs))::E) Q):GL S ops κ (⟨some d,.slice t x (some y) none none,ty,pos,af,g⟩::rest) H E Q:=
 kU (aPw rfl ht h) ⟨dX hx,dX hy,trivial⟩ hg hN k
theorem aT4 {α:Type} {C:Cd α} {xs zs:List α} {t e bytes:Nat} {x y:Operand} {lo:Int} {k:IntKind} (hx:∀G,sW l0 ms E outs G i x=some (.vc (pS C xs))) (hy:∀G,sW l0 ms E outs G i y=some (.vc (pI k lo))) (ht:TyS S.P t e C.n bytes) (hN:Nat.blt d S.N=true) (hg:GD l0 ms E outs i g) (h1:lS ms [] i [0]=true) (h:slL xs lo xs.length=some zs) {r0:List Ou} (hr:r0=.v (.vc (pS C zs))::ro) (kk:DN S H l0 ms E outs n (i+1) l ro):DN S H l0 ms E outs (n+1) i (⟨some d,.slice t x (some y) none none,ty,pos,af,g⟩::l) r0:=
 iF (fun A=>aPw rfl ht h) (fun G=>⟨bY (hx G),bY (hy G),trivial⟩) hN hg h1 hr kk
theorem aR2 {α:Type} {C:Cd α} {xs zs:List α} {t e bytes:Nat} {x y z:Operand} {lo hi:Int} {k k2:IntKind} (hx:ev E x=some (.vc (pS C xs))) (hy:ev E y=some (.vc (pI k lo))) (hz:ev E z=some (.vc (pI k2 hi))) (ht:TyS S.P t e C.n bytes) (hN:Nat.blt d S.N=true) (hg:dV ops E g) (h:slL xs lo hi=some zs) (k:GL S ops κ rest H ((d,.vc (pS C zs))::E) Q):GL S ops κ (⟨some d,.slice t x (some y) (some z) none,ty,pos,af,g⟩::rest) H E Q:=
 kU (aL6 rfl ht h) ⟨dX hx,dX hy,dX hz,trivial⟩ hg hN k
theorem aRF {α:Type} {C:Cd α} {xs zs:List α} {t e bytes:Nat} {x y z:Operand} {lo hi:Int} {k k2:IntKind} (hx:∀G,sW l0 ms E outs G i x=some (.vc (pS C xs))) (hy:∀G,sW l0 ms E outs G i y=some (.vc (pI k lo))) (hz:∀G,sW l0 ms E outs G i z=some (.vc (pI k2 hi))) (ht:TyS S.P t e C.n bytes) (hN:Nat.blt d S.N=true) (hg:GD l0 ms E outs i g) (h1:lS ms [] i [0]=true) (h:slL xs lo hi=some zs) {r0:List Ou} (hr:r0=.v (.vc (pS C zs))::ro) (kk:DN S H l0 ms E outs n (i+1) l ro):DN S H l0 ms E outs (n+1) i (⟨some d,.slice t x (some y) (some z) none,ty,pos,af,g⟩::l) r0:=
 iF (fun A=>aL6 rfl ht h) (fun G=>⟨bY (hx G),bY (hy G),bY (hz G),trivial⟩) hN hg h1 hr kk
theorem aTW {c x y:Operand} {p:VP} (hc:ev E c=some (.vc (pB true))) (hx:ev E x=some p) (hN:Nat.blt d S.N=true) (hg:dV ops E g) (k:GL S ops κ rest H ((d,p)::E) Q):GL S ops κ (⟨some d,.pick c x y,ty,pos,af,g⟩::rest) H E Q:=
 kU (uH rfl) ⟨dX hc,dX hx,trivial⟩ hg hN k
theorem aVn {c x y:Operand} {p:VP} (hc:∀G,sW l0 ms E outs G i c=some (.vc (pB true))) (hx:∀G,sW l0 ms E outs G i x=some p) (hN:Nat.blt d S.N=true) (hg:GD l0 ms E outs i g) (h1:lS ms [] i [0]=true) {r0:List Ou} (hr:r0=.v (p)::ro) (kk:DN S H l0 ms E outs n (i+1) l ro):DN S H l0 ms E outs (n+1) i (⟨some d,.pick c x y,ty,pos,af,g⟩::l) r0:=
 iF (fun A=>uH rfl) (fun G=>⟨bY (hc G),bY (hx G),trivial⟩) hN hg h1 hr kk
theorem aUd {c x y:Operand} {p:VP} (hc:ev E c=some (.vc (pB false))) (hy:ev E y=some p) (hN:Nat.blt d S.N=true) (hg:dV ops E g) (k:GL S ops κ rest H ((d,p)::E) Q):GL S ops κ (⟨some d,.pick c x y,ty,pos,af,g⟩::rest) H E Q:=
 kU (aAg rfl) ⟨dX hc,dX hy,trivial⟩ hg hN k
theorem aVf {c x y:Operand} {p:VP} (hc:∀G,sW l0 ms E outs G i c=some (.vc (pB false))) (hy:∀G,sW l0 ms E outs G i y=some p) (hN:Nat.blt d S.N=true) (hg:GD l0 ms E outs i g) (h1:lS ms [] i [0]=true) {r0:List Ou} (hr:r0=.v (p)::ro) (kk:DN S H l0 ms E outs n (i+1) l ro):DN S H l0 ms E outs (n+1) i (⟨some d,.pick c x y,ty,pos,af,g⟩::l) r0:=
 iF (fun A=>aAg rfl) (fun G=>⟨bY (hc G),bY (hy G),trivial⟩) hN hg h1 hr kk
theorem aVj {x:Operand} {β:Option Nat} {off:Nat} (hx:ev E x=some (.vc (pP β off))) (hN:Nat.blt d S.N=true) (hg:dV ops E g) (k:GL S ops κ rest H ((d,.vc (pP β off))::E) Q):GL S ops κ (⟨some d,.nilCheck x,ty,pos,af,g⟩::rest) H E Q:=
 kU (aAE rfl) ⟨dX hx,trivial⟩ hg hN k
theorem aUZ {x:Operand} {β:Option Nat} {off:Nat} (hx:∀G,sW l0 ms E outs G i x=some (.vc (pP β off))) (hN:Nat.blt d S.N=true) (hg:GD l0 ms E outs i g) (h1:lS ms [] i [0]=true) {r0:List Ou} (hr:r0=.v (.vc (pP β off))::ro) (kk:DN S H l0 ms E outs n (i+1) l ro):DN S H l0 ms E outs (n+1) i (⟨some d,.nilCheck x,ty,pos,af,g⟩::l) r0:=
 iF (fun A=>aAE rfl) (fun G=>⟨bY (hx G),trivial⟩) hN hg h1 hr kk
theorem aRr {x:Operand} {β:Option Nat} {j:Int} {n f:Nat} (hx:ev E x=some (.vc (pE β j n f))) (hN:Nat.blt d S.N=true) (hg:dV ops E g) (k:GL S ops κ rest H ((d,.vc (pE β j n f))::E) Q):GL S ops κ (⟨some d,.nilCheck x,ty,pos,af,g⟩::rest) H E Q:=
 kU (aPh rfl) ⟨dX hx,trivial⟩ hg hN k
theorem aR7 {x:Operand} {β:Option Nat} {j:Int} {n f:Nat} (hx:∀G,sW l0 ms E outs G i x=some (.vc (pE β j n f))) (hN:Nat.blt d S.N=true) (hg:GD l0 ms E outs i g) (h1:lS ms [] i [0]=true) {r0:List Ou} (hr:r0=.v (.vc (pE β j n f))::ro) (kk:DN S H l0 ms E outs n (i+1) l ro):DN S H l0 ms E outs (n+1) i (⟨some d,.nilCheck x,ty,pos,af,g⟩::l) r0:=
 iF (fun A=>aPh rfl) (fun G=>⟨bY (hx G),trivial⟩) hN hg h1 hr kk
theorem aR0 {x:Operand} {ps:List CP} (hx:ev E x=some (.vc (pM ps))) (hN:Nat.blt d S.N=true) (hg:dV ops E g) (k:GL S ops κ rest H ((d,.vc (pM ps))::E) Q):GL S ops κ (⟨some d,.nilCheck x,ty,pos,af,g⟩::rest) H E Q:=
 kU (aPN rfl) ⟨dX hx,trivial⟩ hg hN k
theorem aR6 {x:Operand} {ps:List CP} (hx:∀G,sW l0 ms E outs G i x=some (.vc (pM ps))) (hN:Nat.blt d S.N=true) (hg:GD l0 ms E outs i g) (h1:lS ms [] i [0]=true) {r0:List Ou} (hr:r0=.v (.vc (pM ps))::ro) (kk:DN S H l0 ms E outs n (i+1) l ro):DN S H l0 ms E outs (n+1) i (⟨some d,.nilCheck x,ty,pos,af,g⟩::l) r0:=
 iF (fun A=>aPN rfl) (fun G=>⟨bY (hx G),trivial⟩) hN hg h1 hr kk
theorem aPO {f:Nat} {xs:List Operand} {ps:List VP} {post:VP} {ts:Array TypeId} (he:evs E xs=some ps) (hN:Nat.blt d S.N=true) (hg:dV ops E g) (c:Ct S.P f ps post) (k:GL S ops κ rest H ((d,post)::E) Q):GL S ops κ (⟨some d,.call {callee:=.value (.func f),args:=xs.toArray,argTypes:=ts},ty,pos,af,g⟩::rest) H E Q:=
 kU (cS rfl c (aIJ he).2) (aIJ he).1 hg hN k
theorem aRx {T:Nat} {zs:List CP} (hz:TyZ S.P T zs) (hN:Nat.blt d S.N=true) {r0:List Ou} (hr:r0=.a T zs::ro) (k:DN S H l0 ms E outs n (i+1) l ro):DN S H l0 ms E outs (n+1) i (⟨some d,.alloc T,ty,pos,af,none⟩::l) r0:=by
 subst hr
 exact aIm hN (.alc hz rfl rfl rfl) k
theorem aOP {f:Nat} {xs:List Operand} {ps:List VP} {post:VP} {ts:Array TypeId} (he:∀G,aSB l0 ms E outs G i xs=some ps) (hN:Nat.blt d S.N=true) (hg:GD l0 ms E outs i g) (h1:lS ms [] i [0]=true) (c:Ct S.P f ps post) {r0:List Ou} (hr:r0=.v post::ro) (k:DN S H l0 ms E outs n (i+1) l ro):DN S H l0 ms E outs (n+1) i (⟨some d,.call {callee:=.value (.func f),args:=xs.toArray,argTypes:=ts},ty,pos,af,g⟩::l) r0:=
 iF (fun A=>cS rfl c (aFI (he fun _=>(none,0))).2) (fun G=>(aFI (he G)).1) hN hg h1 hr k
theorem aUx {t off:Nat} {x y:Operand} {β:Option Nat} {e:HA} {p:VP} {ps:List CP} (hx:ev E x=some (.vc (pP β off))) (hy:ev E y=some p) (ht:Ty1 S.P t) (hi:aAi H β e ⟨e.β,e.c,e.T,e.sz,e.n,ps⟩ H') (hp:p.flat) (hk:p.cells.length=1) (hq:aAh e.ps off p.cells=some ps) (k:GL S ops κ rest H' E Q):GL S ops κ (⟨none,.store t x y,ty,pos,af,none⟩::rest) H E Q:=by
 obtain⟨i,h1,h2,h3⟩:=hi.at
 exact⟨fun q=>mR (t_s i rfl h1 h2 ht.s hp hk hq h3) ⟨dX hx,dX hy,trivial⟩ (k.h q) rfl rfl⟩
theorem aT0 {t off r:Nat} {x y:Operand} {β:Option Nat} {e:HA} {p:VP} {ps:List CP} (hx:ev E x=some (.vc (pP β off))) (hy:ev E y=some p) (ht:TyA S.P t r) (hi:aAi H β e ⟨e.β,e.c,e.T,e.sz,e.n,ps⟩ H') (hp:p.flat) (hk:p.cells.length=r) (hq:aAh e.ps off p.cells=some ps) (k:GL S ops κ rest H' E Q):GL S ops κ (⟨none,.store t x y,ty,pos,af,none⟩::rest) H E Q:=by
 obtain⟨i,h1,h2,h3⟩:=hi.at
 exact⟨fun q=>mR (t_s i rfl h1 h2 ht.s hp hk hq h3) ⟨dX hx,dX hy,trivial⟩ (k.h q) rfl rfl⟩
theorem dr {id:Nat} (ms:List Nat) (m n:Nat) (outs:List Ou) (k:∀bs G,WL S l.toArray κ (l.drop outs.length) (aEg bs 0 outs++H) (aEF bs G 0 l outs++E)) (hops:DN S H l ms E outs m 0 l outs:=by
 repeat (first
  |(apply aUU;exact fun _=>rfl;exact rfl;(first|exact GD.p|exact GD.g rfl (fun _=>rfl));exact rfl;exact rfl)
  |(apply aTS;exact fun _=>rfl;exact rfl;(first|exact GD.p|exact GD.g rfl (fun _=>rfl));exact rfl;exact rfl)
  |(apply e_n;exact rfl;exact fun _=>rfl;exact rfl;exact rfl;exact rfl)
  |(apply aVr;exact fun _=>rfl;exact fun _=>rfl;exact inferInstance;exact rfl;(first|exact GD.p|exact GD.g rfl (fun _=>rfl));exact rfl;(with_reducible assumption);exact rfl)
  |(apply aSr;exact fun _=>rfl;exact inferInstance;exact rfl;(first|exact GD.p|exact GD.g rfl (fun _=>rfl));exact rfl;exact rfl)
  |(apply aVe;exact fun _=>rfl;exact inferInstance;exact rfl;(first|exact GD.p|exact GD.g rfl (fun _=>rfl));exact rfl;exact rfl)
  |(apply aSb;exact fun _=>rfl;exact inferInstance;exact rfl;(first|exact GD.p|exact GD.g rfl (fun _=>rfl));exact rfl;exact rfl)
  |(apply aRm;exact fun _=>rfl;exact inferInstance;exact rfl;exact rfl;(first|exact GD.p|exact GD.g rfl (fun _=>rfl));exact rfl;exact rfl)
  |(apply aRV;exact fun _=>rfl;exact inferInstance;exact rfl;exact rfl;(first|exact GD.p|exact GD.g rfl (fun _=>rfl));exact rfl;exact rfl)
  |(apply aUu;exact fun _=>rfl;exact inferInstance;(repeat (first|exact gQ.a rfl|apply gQ.b));exact rfl;exact rfl;(first|exact GD.p|exact GD.g rfl (fun _=>rfl));exact rfl;exact rfl)
  |(apply aUw;exact fun _=>rfl;exact inferInstance;(repeat (first|exact gQ.a rfl|apply gQ.b));exact rfl;exact rfl;(first|exact GD.p|exact GD.g rfl (fun _=>rfl));exact rfl;exact rfl)
  |(apply aRW;exact fun _=>rfl;exact fun _=>rfl;(repeat (first|exact gQ.a rfl|apply gQ.b));(first|exact rfl|with_reducible assumption|exact bK (by with_reducible assumption) (by first|with_reducible assumption|exact rfl));exact inferInstance;exact rfl;(first|exact GD.p|exact GD.g rfl (fun _=>rfl));exact rfl;(with_reducible assumption);exact rfl)
  |(apply aRQ;exact fun _=>rfl;(repeat (first|exact gQ.a rfl|apply gQ.b));(first|exact rfl|with_reducible assumption|exact bK (by with_reducible assumption) (by first|with_reducible assumption|exact rfl));exact inferInstance;exact rfl;(first|exact GD.p|exact GD.g rfl (fun _=>rfl));exact rfl;exact rfl)
  |(apply aOp;exact fun _=>rfl;(repeat (first|exact gQ.a rfl|apply gQ.b));exact rfl;(with_reducible assumption);exact inferInstance;exact rfl;exact rfl;exact rfl;(first|exact GD.p|exact GD.g rfl (fun _=>rfl));exact rfl;exact rfl)
  |(apply aPB;exact fun _=>rfl;(repeat (first|exact gQ.a rfl|apply gQ.b));exact rfl;(with_reducible assumption);exact inferInstance;exact rfl;exact rfl;exact rfl;(first|exact GD.p|exact GD.g rfl (fun _=>rfl));exact rfl;exact rfl)
  |(apply aUq;exact fun _=>rfl;exact inferInstance;exact rfl;(first|exact GD.p|exact GD.g rfl (fun _=>rfl));exact rfl;exact rfl)
  |(apply aUP;exact fun _=>rfl;exact fun _=>rfl;exact rfl;(first|exact GD.p|exact GD.g rfl (fun _=>rfl));exact rfl;exact rfl)
  |(apply aUV;exact fun _=>rfl;exact fun _=>rfl;exact rfl;(first|exact GD.p|exact GD.g rfl (fun _=>rfl));exact rfl;exact rfl)
  |(apply aTV;exact fun _=>rfl;exact fun _=>rfl;exact rfl;(first|exact GD.p|exact GD.g rfl (fun _=>rfl));exact rfl;exact rfl)
  |(apply aTM;exact fun _=>rfl;exact fun _=>rfl;exact rfl;(first|exact GD.p|exact GD.g rfl (fun _=>rfl));exact rfl;exact rfl)
  |(apply aTL;exact fun _=>rfl;exact fun _=>rfl;exact rfl;(first|exact GD.p|exact GD.g rfl (fun _=>rfl));exact rfl;exact rfl)
  |(apply aUt;exact fun _=>rfl;exact fun _=>rfl;exact rfl;(first|exact GD.p|exact GD.g rfl (fun _=>rfl));exact rfl;exact rfl)
  |(apply aRS;exact fun _=>rfl;exact fun _=>rfl;exact rfl;(first|exact GD.p|exact GD.g rfl (fun _=>rfl));exact rfl;(with_reducible assumption);exact rfl)
  |(apply aRk;exact fun _=>rfl;exact fun _=>rfl;exact rfl;(first|exact GD.p|exact GD.g rfl (fun _=>rfl));exact rfl;(with_reducible assumption);exact rfl)
  |(apply aSn;exact fun _=>rfl;exact fun _=>rfl;exact rfl;(first|exact GD.p|exact GD.g rfl (fun _=>rfl));exact rfl;(with_reducible assumption);exact rfl)
  |(apply aRE;exact fun _=>rfl;exact fun _=>rfl;exact rfl;(first|exact GD.p|exact GD.g rfl (fun _=>rfl));exact rfl;(with_reducible assumption);exact rfl)
  |(apply aSq;exact fun _=>rfl;exact fun _=>rfl;exact rfl;(first|exact GD.p|exact GD.g rfl (fun _=>rfl));exact rfl;(with_reducible assumption);exact rfl)
  |(apply aRZ;exact fun _=>rfl;exact rfl;(first|exact GD.p|exact GD.g rfl (fun _=>rfl));exact rfl;exact rfl)
  |(apply aSk;exact fun _=>rfl;exact rfl;(first|exact GD.p|exact GD.g rfl (fun _=>rfl));exact rfl;(with_reducible assumption);exact rfl)
  |(apply aRR;exact fun _=>rfl;exact rfl;(first|exact GD.p|exact GD.g rfl (fun _=>rfl));exact rfl;exact rfl)
  |(apply aRy;exact fun _=>rfl;exact rfl;(first|exact GD.p|exact GD.g rfl (fun _=>rfl));exact rfl;exact rfl)
  |(apply aRn;exact fun _=>rfl;exact rfl;(first|exact GD.p|exact GD.g rfl (fun _=>rfl));exact rfl;exact rfl)
  |(apply aRb;exact fun _=>rfl;exact rfl;(first|exact GD.p|exact GD.g rfl (fun _=>rfl));exact rfl;exact rfl)
  |(apply aRd;exact fun _=>rfl;exact rfl;(first|exact GD.p|exact GD.g rfl (fun _=>rfl));exact rfl;exact rfl)
  |(apply aT9;exact fun _=>rfl;exact fun _=>rfl;exact rfl;(first|exact GD.p|exact GD.g rfl (fun _=>rfl));exact rfl;exact rfl)
  |(apply aUK;exact fun _=>rfl;exact fun _=>rfl;exact rfl;(first|exact GD.p|exact GD.g rfl (fun _=>rfl));exact rfl;exact rfl)
  |(apply aUM;exact fun _=>rfl;exact fun _=>rfl;exact inferInstance;exact rfl;(first|exact GD.p|exact GD.g rfl (fun _=>rfl));exact rfl;(with_reducible assumption);exact rfl)
  |(apply aT4;exact fun _=>rfl;exact fun _=>rfl;exact inferInstance;exact rfl;(first|exact GD.p|exact GD.g rfl (fun _=>rfl));exact rfl;(with_reducible assumption);exact rfl)
  |(apply aRF;exact fun _=>rfl;exact fun _=>rfl;exact fun _=>rfl;exact inferInstance;exact rfl;(first|exact GD.p|exact GD.g rfl (fun _=>rfl));exact rfl;(with_reducible assumption);exact rfl)
  |(apply aVn;exact fun _=>rfl;exact fun _=>rfl;exact rfl;(first|exact GD.p|exact GD.g rfl (fun _=>rfl));exact rfl;exact rfl)
  |(apply aVf;exact fun _=>rfl;exact fun _=>rfl;exact rfl;(first|exact GD.p|exact GD.g rfl (fun _=>rfl));exact rfl;exact rfl)
  |(apply aUZ;exact fun _=>rfl;exact rfl;(first|exact GD.p|exact GD.g rfl (fun _=>rfl));exact rfl;exact rfl)
  |(apply aR7;exact fun _=>rfl;exact rfl;(first|exact GD.p|exact GD.g rfl (fun _=>rfl));exact rfl;exact rfl)
  |(apply aR6;exact fun _=>rfl;exact rfl;(first|exact GD.p|exact GD.g rfl (fun _=>rfl));exact rfl;exact rfl)
  |(apply aOP;exact fun _=>rfl;exact rfl;(first|exact GD.p|exact GD.g rfl (fun _=>rfl));exact rfl;assumption;exact rfl)
  |(apply aRx;exact inferInstance;exact rfl;exact rfl)
  |(apply e_u;exact rfl;exact fun _=>rfl;exact rfl;exact rfl)
  |(apply aRX;exact rfl))) (hx:Mix S.P:=by infer_instance)
  (hm:aDo ms l ms=true:=by kernel_rfl) (hb:zK l 0=true:=by kernel_rfl) (hq:aCe l=true:=by kernel_rfl) (hm2:Nat.beq l.length (m+n)=true:=by kernel_rfl) (ht:aDr l ms m n=true:=by kernel_rfl):WC S (.region id l.toArray true) κ H E:=
 gT ms m n outs hx.h hops.h k hm hb hq (by rw [hops.len];simp) hm2 ht
theorem drb {id:Nat} (ms:List Nat) (m n:Nat) (outs:List Ou) (k:∀bs G,WL S l.toArray κ (l.drop outs.length) (aEg bs 0 outs++H) (aEF bs G 0 l outs++E)) (hops:DN S H l ms E outs m 0 l outs:=by
 repeat (first
  |(apply aU9;exact fun _=>rfl;exact rfl;(first|exact GD.p|exact GD.g rfl (fun _=>rfl));exact rfl;(with_reducible assumption);exact rfl)
  |(apply aUr;exact fun _=>rfl;exact rfl;(first|exact GD.p|exact GD.g rfl (fun _=>rfl));exact rfl;(with_reducible assumption);exact rfl)
  |(apply aU3;exact fun _=>rfl;exact fun _=>rfl;exact rfl;(first|exact GD.p|exact GD.g rfl (fun _=>rfl));exact rfl;(with_reducible assumption);exact rfl)
  |(apply aUk;exact fun _=>rfl;exact fun _=>rfl;exact rfl;(first|exact GD.p|exact GD.g rfl (fun _=>rfl));exact rfl;(with_reducible assumption);exact rfl)
  |(apply aUY;exact fun _=>rfl;exact fun _=>rfl;exact rfl;(first|exact GD.p|exact GD.g rfl (fun _=>rfl));exact rfl;(with_reducible assumption);exact rfl)
  |(apply aVi;exact fun _=>rfl;exact fun _=>rfl;exact rfl;(first|exact GD.p|exact GD.g rfl (fun _=>rfl));exact rfl;(with_reducible assumption);exact rfl)
  |(apply aUH;exact fun _=>rfl;exact fun _=>rfl;exact rfl;(first|exact GD.p|exact GD.g rfl (fun _=>rfl));exact rfl;(with_reducible assumption);exact rfl)
  |(apply aUX;exact fun _=>rfl;exact fun _=>rfl;exact rfl;(first|exact GD.p|exact GD.g rfl (fun _=>rfl));exact rfl;(with_reducible assumption);exact rfl)
  |(apply aS7;exact fun _=>rfl;exact rfl;(first|exact GD.p|exact GD.g rfl (fun _=>rfl));exact rfl;(with_reducible assumption);exact rfl)
  |(apply aUU;exact fun _=>rfl;exact rfl;(first|exact GD.p|exact GD.g rfl (fun _=>rfl));exact rfl;exact rfl)
  |(apply aTS;exact fun _=>rfl;exact rfl;(first|exact GD.p|exact GD.g rfl (fun _=>rfl));exact rfl;exact rfl)
  |(apply e_n;exact rfl;exact fun _=>rfl;exact rfl;exact rfl;exact rfl)
  |(apply aVr;exact fun _=>rfl;exact fun _=>rfl;exact inferInstance;exact rfl;(first|exact GD.p|exact GD.g rfl (fun _=>rfl));exact rfl;(with_reducible assumption);exact rfl)
  |(apply aSr;exact fun _=>rfl;exact inferInstance;exact rfl;(first|exact GD.p|exact GD.g rfl (fun _=>rfl));exact rfl;exact rfl)
  |(apply aVe;exact fun _=>rfl;exact inferInstance;exact rfl;(first|exact GD.p|exact GD.g rfl (fun _=>rfl));exact rfl;exact rfl)
  |(apply aSb;exact fun _=>rfl;exact inferInstance;exact rfl;(first|exact GD.p|exact GD.g rfl (fun _=>rfl));exact rfl;exact rfl)
  |(apply aRm;exact fun _=>rfl;exact inferInstance;exact rfl;exact rfl;(first|exact GD.p|exact GD.g rfl (fun _=>rfl));exact rfl;exact rfl)
  |(apply aRV;exact fun _=>rfl;exact inferInstance;exact rfl;exact rfl;(first|exact GD.p|exact GD.g rfl (fun _=>rfl));exact rfl;exact rfl)
  |(apply aUu;exact fun _=>rfl;exact inferInstance;(repeat (first|exact gQ.a rfl|apply gQ.b));exact rfl;exact rfl;(first|exact GD.p|exact GD.g rfl (fun _=>rfl));exact rfl;exact rfl)
  |(apply aUw;exact fun _=>rfl;exact inferInstance;(repeat (first|exact gQ.a rfl|apply gQ.b));exact rfl;exact rfl;(first|exact GD.p|exact GD.g rfl (fun _=>rfl));exact rfl;exact rfl)
  |(apply aRW;exact fun _=>rfl;exact fun _=>rfl;(repeat (first|exact gQ.a rfl|apply gQ.b));(first|exact rfl|with_reducible assumption|exact bK (by with_reducible assumption) (by first|with_reducible assumption|exact rfl));exact inferInstance;exact rfl;(first|exact GD.p|exact GD.g rfl (fun _=>rfl));exact rfl;(with_reducible assumption);exact rfl)
  |(apply aRQ;exact fun _=>rfl;(repeat (first|exact gQ.a rfl|apply gQ.b));(first|exact rfl|with_reducible assumption|exact bK (by with_reducible assumption) (by first|with_reducible assumption|exact rfl));exact inferInstance;exact rfl;(first|exact GD.p|exact GD.g rfl (fun _=>rfl));exact rfl;exact rfl)
  |(apply aOp;exact fun _=>rfl;(repeat (first|exact gQ.a rfl|apply gQ.b));exact rfl;(with_reducible assumption);exact inferInstance;exact rfl;exact rfl;exact rfl;(first|exact GD.p|exact GD.g rfl (fun _=>rfl));exact rfl;exact rfl)
  |(apply aPB;exact fun _=>rfl;(repeat (first|exact gQ.a rfl|apply gQ.b));exact rfl;(with_reducible assumption);exact inferInstance;exact rfl;exact rfl;exact rfl;(first|exact GD.p|exact GD.g rfl (fun _=>rfl));exact rfl;exact rfl)
  |(apply aUq;exact fun _=>rfl;exact inferInstance;exact rfl;(first|exact GD.p|exact GD.g rfl (fun _=>rfl));exact rfl;exact rfl)
  |(apply aUP;exact fun _=>rfl;exact fun _=>rfl;exact rfl;(first|exact GD.p|exact GD.g rfl (fun _=>rfl));exact rfl;exact rfl)
  |(apply aUV;exact fun _=>rfl;exact fun _=>rfl;exact rfl;(first|exact GD.p|exact GD.g rfl (fun _=>rfl));exact rfl;exact rfl)
  |(apply aTV;exact fun _=>rfl;exact fun _=>rfl;exact rfl;(first|exact GD.p|exact GD.g rfl (fun _=>rfl));exact rfl;exact rfl)
  |(apply aTM;exact fun _=>rfl;exact fun _=>rfl;exact rfl;(first|exact GD.p|exact GD.g rfl (fun _=>rfl));exact rfl;exact rfl)
  |(apply aTL;exact fun _=>rfl;exact fun _=>rfl;exact rfl;(first|exact GD.p|exact GD.g rfl (fun _=>rfl));exact rfl;exact rfl)
  |(apply aUt;exact fun _=>rfl;exact fun _=>rfl;exact rfl;(first|exact GD.p|exact GD.g rfl (fun _=>rfl));exact rfl;exact rfl)
  |(apply aRS;exact fun _=>rfl;exact fun _=>rfl;exact rfl;(first|exact GD.p|exact GD.g rfl (fun _=>rfl));exact rfl;(with_reducible assumption);exact rfl)
  |(apply aRk;exact fun _=>rfl;exact fun _=>rfl;exact rfl;(first|exact GD.p|exact GD.g rfl (fun _=>rfl));exact rfl;(with_reducible assumption);exact rfl)
  |(apply aSn;exact fun _=>rfl;exact fun _=>rfl;exact rfl;(first|exact GD.p|exact GD.g rfl (fun _=>rfl));exact rfl;(with_reducible assumption);exact rfl)
  |(apply aRE;exact fun _=>rfl;exact fun _=>rfl;exact rfl;(first|exact GD.p|exact GD.g rfl (fun _=>rfl));exact rfl;(with_reducible assumption);exact rfl)
  |(apply aSq;exact fun _=>rfl;exact fun _=>rfl;exact rfl;(first|exact GD.p|exact GD.g rfl (fun _=>rfl));exact rfl;(with_reducible assumption);exact rfl)
  |(apply aRZ;exact fun _=>rfl;exact rfl;(first|exact GD.p|exact GD.g rfl (fun _=>rfl));exact rfl;exact rfl)
  |(apply aSk;exact fun _=>rfl;exact rfl;(first|exact GD.p|exact GD.g rfl (fun _=>rfl));exact rfl;(with_reducible assumption);exact rfl)
  |(apply aRR;exact fun _=>rfl;exact rfl;(first|exact GD.p|exact GD.g rfl (fun _=>rfl));exact rfl;exact rfl)
  |(apply aRy;exact fun _=>rfl;exact rfl;(first|exact GD.p|exact GD.g rfl (fun _=>rfl));exact rfl;exact rfl)
  |(apply aRn;exact fun _=>rfl;exact rfl;(first|exact GD.p|exact GD.g rfl (fun _=>rfl));exact rfl;exact rfl)
  |(apply aRb;exact fun _=>rfl;exact rfl;(first|exact GD.p|exact GD.g rfl (fun _=>rfl));exact rfl;exact rfl)
  |(apply aRd;exact fun _=>rfl;exact rfl;(first|exact GD.p|exact GD.g rfl (fun _=>rfl));exact rfl;exact rfl)
  |(apply aT9;exact fun _=>rfl;exact fun _=>rfl;exact rfl;(first|exact GD.p|exact GD.g rfl (fun _=>rfl));exact rfl;exact rfl)
  |(apply aUK;exact fun _=>rfl;exact fun _=>rfl;exact rfl;(first|exact GD.p|exact GD.g rfl (fun _=>rfl));exact rfl;exact rfl)
  |(apply aUM;exact fun _=>rfl;exact fun _=>rfl;exact inferInstance;exact rfl;(first|exact GD.p|exact GD.g rfl (fun _=>rfl));exact rfl;(with_reducible assumption);exact rfl)
  |(apply aT4;exact fun _=>rfl;exact fun _=>rfl;exact inferInstance;exact rfl;(first|exact GD.p|exact GD.g rfl (fun _=>rfl));exact rfl;(with_reducible assumption);exact rfl)
  |(apply aRF;exact fun _=>rfl;exact fun _=>rfl;exact fun _=>rfl;exact inferInstance;exact rfl;(first|exact GD.p|exact GD.g rfl (fun _=>rfl));exact rfl;(with_reducible assumption);exact rfl)
  |(apply aVn;exact fun _=>rfl;exact fun _=>rfl;exact rfl;(first|exact GD.p|exact GD.g rfl (fun _=>rfl));exact rfl;exact rfl)
  |(apply aVf;exact fun _=>rfl;exact fun _=>rfl;exact rfl;(first|exact GD.p|exact GD.g rfl (fun _=>rfl));exact rfl;exact rfl)
  |(apply aUZ;exact fun _=>rfl;exact rfl;(first|exact GD.p|exact GD.g rfl (fun _=>rfl));exact rfl;exact rfl)
  |(apply aR7;exact fun _=>rfl;exact rfl;(first|exact GD.p|exact GD.g rfl (fun _=>rfl));exact rfl;exact rfl)
  |(apply aR6;exact fun _=>rfl;exact rfl;(first|exact GD.p|exact GD.g rfl (fun _=>rfl));exact rfl;exact rfl)
  |(apply aOP;exact fun _=>rfl;exact rfl;(first|exact GD.p|exact GD.g rfl (fun _=>rfl));exact rfl;assumption;exact rfl)
  |(apply aRx;exact inferInstance;exact rfl;exact rfl)
  |(apply e_u;exact rfl;exact fun _=>rfl;exact rfl;exact rfl)
  |(apply aRX;exact rfl))) (hx:Mix S.P:=by infer_instance)
  (hm:aDo ms l ms=true:=by kernel_rfl) (hb:zK l 0=true:=by kernel_rfl) (hq:aCe l=true:=by kernel_rfl) (hm2:Nat.beq l.length (m+n)=true:=by kernel_rfl) (ht:aDr l ms m n=true:=by kernel_rfl):WC S (.region id l.toArray true) κ H E:=
 gT ms m n outs hx.h hops.h k hm hb hq (by rw [hops.len];simp) hm2 ht
theorem go {P:Prop} (Q:Prop) (k:Q) (h:D P Q:=by
 first
  |with_reducible refine sL ?_
  |with_reducible refine sC ?_
  |with_reducible refine sX ?_
 repeat (first
  |(apply aRw)
  |(apply aPG)
  |(apply aSp)
  |(apply aR4)
  |(apply aTX;exact rfl;exact rfl;(first|exact dV.p|exact dV.g rfl rfl rfl))
  |(apply aUR;exact rfl;exact rfl;(first|exact dV.p|exact dV.g rfl rfl rfl))
  |(apply b_n;exact rfl;exact rfl;exact rfl;exact rfl;exact rfl)
  |(apply aTZ;exact rfl;exact rfl;exact inferInstance;exact rfl;(first|exact dV.p|exact dV.g rfl rfl rfl);(with_reducible assumption))
  |(apply aRl;exact rfl;exact inferInstance;exact rfl;(first|exact dV.p|exact dV.g rfl rfl rfl))
  |(apply aVg;exact rfl;exact inferInstance;exact rfl;(first|exact dV.p|exact dV.g rfl rfl rfl))
  |(apply aRM;exact rfl;exact inferInstance;exact rfl;(first|exact dV.p|exact dV.g rfl rfl rfl))
  |(apply aRj;exact rfl;exact inferInstance;exact rfl;exact rfl;(first|exact dV.p|exact dV.g rfl rfl rfl))
  |(apply aSc;exact rfl;exact inferInstance;exact rfl;exact rfl;(first|exact dV.p|exact dV.g rfl rfl rfl))
  |(apply aUj;exact rfl;exact inferInstance;(repeat (first|exact gQ.a rfl|apply gQ.b));exact rfl;exact rfl;(first|exact dV.p|exact dV.g rfl rfl rfl))
  |(apply aUb;exact rfl;exact inferInstance;(repeat (first|exact gQ.a rfl|apply gQ.b));exact rfl;exact rfl;(first|exact dV.p|exact dV.g rfl rfl rfl))
  |(apply aSv;exact rfl;exact rfl;(repeat (first|exact gQ.a rfl|apply gQ.b));(first|exact rfl|with_reducible assumption|exact bK (by with_reducible assumption) (by first|with_reducible assumption|exact rfl));exact inferInstance;exact rfl;(first|exact dV.p|exact dV.g rfl rfl rfl);(with_reducible assumption))
  |(apply aSt;exact rfl;(repeat (first|exact gQ.a rfl|apply gQ.b));(first|exact rfl|with_reducible assumption|exact bK (by with_reducible assumption) (by first|with_reducible assumption|exact rfl));exact inferInstance;exact rfl;(first|exact dV.p|exact dV.g rfl rfl rfl))
  |(apply aPt;exact rfl;(repeat (first|exact gQ.a rfl|apply gQ.b));exact rfl;(with_reducible assumption);exact inferInstance;exact rfl;exact rfl;exact rfl;(first|exact dV.p|exact dV.g rfl rfl rfl))
  |(apply aOy;exact rfl;(repeat (first|exact gQ.a rfl|apply gQ.b));exact rfl;(with_reducible assumption);exact inferInstance;exact rfl;exact rfl;exact rfl;(first|exact dV.p|exact dV.g rfl rfl rfl))
  |(apply aUO;exact rfl;exact inferInstance;exact rfl;(first|exact dV.p|exact dV.g rfl rfl rfl))
  |(apply aTN;exact rfl;exact rfl;exact rfl;(first|exact dV.p|exact dV.g rfl rfl rfl))
  |(apply aTP;exact rfl;exact rfl;exact rfl;(first|exact dV.p|exact dV.g rfl rfl rfl))
  |(apply aT5;exact rfl;exact rfl;exact rfl;(first|exact dV.p|exact dV.g rfl rfl rfl))
  |(apply aVl;exact rfl;exact rfl;exact rfl;(first|exact dV.p|exact dV.g rfl rfl rfl))
  |(apply aU1;exact rfl;exact rfl;exact rfl;(first|exact dV.p|exact dV.g rfl rfl rfl))
  |(apply aUE;exact rfl;exact rfl;exact rfl;(first|exact dV.p|exact dV.g rfl rfl rfl))
  |(apply aRT;exact rfl;exact rfl;exact rfl;(first|exact dV.p|exact dV.g rfl rfl rfl);(with_reducible assumption))
  |(apply aRI;exact rfl;exact rfl;exact rfl;(first|exact dV.p|exact dV.g rfl rfl rfl);(with_reducible assumption))
  |(apply aSs;exact rfl;exact rfl;exact rfl;(first|exact dV.p|exact dV.g rfl rfl rfl);(with_reducible assumption))
  |(apply aR9;exact rfl;exact rfl;exact rfl;(first|exact dV.p|exact dV.g rfl rfl rfl);(with_reducible assumption))
  |(apply aRK;exact rfl;exact rfl;exact rfl;(first|exact dV.p|exact dV.g rfl rfl rfl);(with_reducible assumption))
  |(apply aRG;exact rfl;exact rfl;(first|exact dV.p|exact dV.g rfl rfl rfl))
  |(apply aRO;exact rfl;exact rfl;(first|exact dV.p|exact dV.g rfl rfl rfl);(with_reducible assumption))
  |(apply aR8;exact rfl;exact rfl;(first|exact dV.p|exact dV.g rfl rfl rfl))
  |(apply aRi;exact rfl;exact rfl;(first|exact dV.p|exact dV.g rfl rfl rfl))
  |(apply aRp;exact rfl;exact rfl;(first|exact dV.p|exact dV.g rfl rfl rfl))
  |(apply aRv;exact rfl;exact rfl;(first|exact dV.p|exact dV.g rfl rfl rfl))
  |(apply aRo;exact rfl;exact rfl;(first|exact dV.p|exact dV.g rfl rfl rfl))
  |(apply aUa;exact rfl;exact rfl;exact rfl;(first|exact dV.p|exact dV.g rfl rfl rfl))
  |(apply aVs;exact rfl;exact rfl;exact rfl;(first|exact dV.p|exact dV.g rfl rfl rfl))
  |(apply aU5;exact rfl;exact rfl;exact inferInstance;exact rfl;(first|exact dV.p|exact dV.g rfl rfl rfl);(with_reducible assumption))
  |(apply aUe;exact rfl;exact rfl;exact inferInstance;exact rfl;(first|exact dV.p|exact dV.g rfl rfl rfl);(with_reducible assumption))
  |(apply aR2;exact rfl;exact rfl;exact rfl;exact inferInstance;exact rfl;(first|exact dV.p|exact dV.g rfl rfl rfl);(with_reducible assumption))
  |(apply aTW;exact rfl;exact rfl;exact rfl;(first|exact dV.p|exact dV.g rfl rfl rfl))
  |(apply aUd;exact rfl;exact rfl;exact rfl;(first|exact dV.p|exact dV.g rfl rfl rfl))
  |(apply aVj;exact rfl;exact rfl;(first|exact dV.p|exact dV.g rfl rfl rfl))
  |(apply aRr;exact rfl;exact rfl;(first|exact dV.p|exact dV.g rfl rfl rfl))
  |(apply aR0;exact rfl;exact rfl;(first|exact dV.p|exact dV.g rfl rfl rfl))
  |(apply aPO;exact rfl;exact rfl;(first|exact dV.p|exact dV.g rfl rfl rfl);assumption)
  |(apply aUx;exact rfl;exact rfl;exact inferInstance;(repeat (first|exact aAi.a rfl|apply aAi.b));exact trivial;exact rfl;exact rfl)
  |(apply aT0;exact rfl;exact rfl;exact inferInstance;(repeat (first|exact aAi.a rfl|apply aAi.b));exact trivial;exact rfl;exact rfl)
  |(apply aMh;exact rfl;exact rfl;(repeat (first|exact gQ.a rfl|apply gQ.b));exact rfl;(with_reducible assumption);(with_reducible assumption);exact ty1s;(repeat (first|exact aAi.a rfl|apply aAi.b));exact trivial;exact rfl;exact rfl)
  |(apply aMh;exact rfl;exact rfl;(repeat (first|exact gQ.a rfl|apply gQ.b));exact rfl;(with_reducible assumption);(with_reducible assumption);exact tyAs;(repeat (first|exact aAi.a rfl|apply aAi.b));exact trivial;exact rfl;exact rfl)
  |(apply b_u;exact rfl;exact rfl;exact rfl;exact rfl)
  |(apply aNZ)
  |(apply aPe)
  |(apply aMz)
  |(apply aL1)
  |(apply aSg))
 first
  |exact eL
  |exact eC
  |exact eX):P:=h.h k
theorem rv_1 {t T off:Nat} {β:Option Nat} {e:HA} {q:CP} {rs:List ResultVar} {ps:List VP} (h:jZ E t=some (.vc (pP β off))) (ht:Ty1 S.P T) (hi:gQ H β e) (hq:tO 1 (e.ps.drop off)=some [q]) (kk:RVs S H E rs ps):RVs S H E (.cell t T::rs) (.vc q::ps):=by
 obtain⟨i,h1,h2⟩:=hi.at
 exact aIP i 1 h h1 h2 hq (.one ht) kk
theorem rv_A {t T off k:Nat} {β:Option Nat} {e:HA} {qs:List CP} {rs:List ResultVar} {ps:List VP} (h:jZ E t=some (.vc (pP β off))) (ht:TyA S.P T k) (hi:gQ H β e) (hq:tO k (e.ps.drop off)=some qs) (kk:RVs S H E rs ps):RVs S H E (.cell t T::rs) (.va qs::ps):=by
 obtain⟨i,h1,h2⟩:=hi.at
 exact aIP i k h h1 h2 hq (.agg ht (zB hq)) kk
theorem aT6 {P:Program} {fn:Func} {w0:World} {M0:qS} {B:List Nat} {post:VP} {N:Nat} {rs:List ResultVar} {ps:List VP} (hk:κ.to .ret=(.ret,.base (bodyPost P fn (Rp P w0 M0 B (fun Ho q=>Ho=[]∧q=post))))) (hrs:fn.results=rs.toArray) (hv:RVs ⟨P,w0,M0,B,N⟩ H E rs ps) (hl:Nat.ble ps.length 4=true) (hpost:aK6 ps=post):GC ⟨P,w0,M0,B,N⟩ .ret κ H E Q:=
 ⟨fun _=>sT (sS (by rw [hk];exact rY (.inl rfl) hrs hv hl hpost))⟩
theorem cF {P:Prop} (h:D P True:=by
 first
  |with_reducible refine sL ?_
  |with_reducible refine sC ?_
  |with_reducible refine sX ?_
 repeat (first
  |(apply aRw)
  |(apply aPG)
  |(apply aSp)
  |(apply aR4)
  |(apply aTX;exact rfl;exact rfl;(first|exact dV.p|exact dV.g rfl rfl rfl))
  |(apply aUR;exact rfl;exact rfl;(first|exact dV.p|exact dV.g rfl rfl rfl))
  |(apply b_n;exact rfl;exact rfl;exact rfl;exact rfl;exact rfl)
  |(apply aTZ;exact rfl;exact rfl;exact inferInstance;exact rfl;(first|exact dV.p|exact dV.g rfl rfl rfl);(with_reducible assumption))
  |(apply aRl;exact rfl;exact inferInstance;exact rfl;(first|exact dV.p|exact dV.g rfl rfl rfl))
  |(apply aVg;exact rfl;exact inferInstance;exact rfl;(first|exact dV.p|exact dV.g rfl rfl rfl))
  |(apply aRM;exact rfl;exact inferInstance;exact rfl;(first|exact dV.p|exact dV.g rfl rfl rfl))
  |(apply aRj;exact rfl;exact inferInstance;exact rfl;exact rfl;(first|exact dV.p|exact dV.g rfl rfl rfl))
  |(apply aSc;exact rfl;exact inferInstance;exact rfl;exact rfl;(first|exact dV.p|exact dV.g rfl rfl rfl))
  |(apply aUj;exact rfl;exact inferInstance;(repeat (first|exact gQ.a rfl|apply gQ.b));exact rfl;exact rfl;(first|exact dV.p|exact dV.g rfl rfl rfl))
  |(apply aUb;exact rfl;exact inferInstance;(repeat (first|exact gQ.a rfl|apply gQ.b));exact rfl;exact rfl;(first|exact dV.p|exact dV.g rfl rfl rfl))
  |(apply aSv;exact rfl;exact rfl;(repeat (first|exact gQ.a rfl|apply gQ.b));(first|exact rfl|with_reducible assumption|exact bK (by with_reducible assumption) (by first|with_reducible assumption|exact rfl));exact inferInstance;exact rfl;(first|exact dV.p|exact dV.g rfl rfl rfl);(with_reducible assumption))
  |(apply aSt;exact rfl;(repeat (first|exact gQ.a rfl|apply gQ.b));(first|exact rfl|with_reducible assumption|exact bK (by with_reducible assumption) (by first|with_reducible assumption|exact rfl));exact inferInstance;exact rfl;(first|exact dV.p|exact dV.g rfl rfl rfl))
  |(apply aPt;exact rfl;(repeat (first|exact gQ.a rfl|apply gQ.b));exact rfl;(with_reducible assumption);exact inferInstance;exact rfl;exact rfl;exact rfl;(first|exact dV.p|exact dV.g rfl rfl rfl))
  |(apply aOy;exact rfl;(repeat (first|exact gQ.a rfl|apply gQ.b));exact rfl;(with_reducible assumption);exact inferInstance;exact rfl;exact rfl;exact rfl;(first|exact dV.p|exact dV.g rfl rfl rfl))
  |(apply aUO;exact rfl;exact inferInstance;exact rfl;(first|exact dV.p|exact dV.g rfl rfl rfl))
  |(apply aTN;exact rfl;exact rfl;exact rfl;(first|exact dV.p|exact dV.g rfl rfl rfl))
  |(apply aTP;exact rfl;exact rfl;exact rfl;(first|exact dV.p|exact dV.g rfl rfl rfl))
  |(apply aT5;exact rfl;exact rfl;exact rfl;(first|exact dV.p|exact dV.g rfl rfl rfl))
  |(apply aVl;exact rfl;exact rfl;exact rfl;(first|exact dV.p|exact dV.g rfl rfl rfl))
  |(apply aU1;exact rfl;exact rfl;exact rfl;(first|exact dV.p|exact dV.g rfl rfl rfl))
  |(apply aUE;exact rfl;exact rfl;exact rfl;(first|exact dV.p|exact dV.g rfl rfl rfl))
  |(apply aRT;exact rfl;exact rfl;exact rfl;(first|exact dV.p|exact dV.g rfl rfl rfl);(with_reducible assumption))
  |(apply aRI;exact rfl;exact rfl;exact rfl;(first|exact dV.p|exact dV.g rfl rfl rfl);(with_reducible assumption))
  |(apply aSs;exact rfl;exact rfl;exact rfl;(first|exact dV.p|exact dV.g rfl rfl rfl);(with_reducible assumption))
  |(apply aR9;exact rfl;exact rfl;exact rfl;(first|exact dV.p|exact dV.g rfl rfl rfl);(with_reducible assumption))
  |(apply aRK;exact rfl;exact rfl;exact rfl;(first|exact dV.p|exact dV.g rfl rfl rfl);(with_reducible assumption))
  |(apply aRG;exact rfl;exact rfl;(first|exact dV.p|exact dV.g rfl rfl rfl))
  |(apply aRO;exact rfl;exact rfl;(first|exact dV.p|exact dV.g rfl rfl rfl);(with_reducible assumption))
  |(apply aR8;exact rfl;exact rfl;(first|exact dV.p|exact dV.g rfl rfl rfl))
  |(apply aRi;exact rfl;exact rfl;(first|exact dV.p|exact dV.g rfl rfl rfl))
  |(apply aRp;exact rfl;exact rfl;(first|exact dV.p|exact dV.g rfl rfl rfl))
  |(apply aRv;exact rfl;exact rfl;(first|exact dV.p|exact dV.g rfl rfl rfl))
  |(apply aRo;exact rfl;exact rfl;(first|exact dV.p|exact dV.g rfl rfl rfl))
  |(apply aUa;exact rfl;exact rfl;exact rfl;(first|exact dV.p|exact dV.g rfl rfl rfl))
  |(apply aVs;exact rfl;exact rfl;exact rfl;(first|exact dV.p|exact dV.g rfl rfl rfl))
  |(apply aU5;exact rfl;exact rfl;exact inferInstance;exact rfl;(first|exact dV.p|exact dV.g rfl rfl rfl);(with_reducible assumption))
  |(apply aUe;exact rfl;exact rfl;exact inferInstance;exact rfl;(first|exact dV.p|exact dV.g rfl rfl rfl);(with_reducible assumption))
  |(apply aR2;exact rfl;exact rfl;exact rfl;exact inferInstance;exact rfl;(first|exact dV.p|exact dV.g rfl rfl rfl);(with_reducible assumption))
  |(apply aTW;exact rfl;exact rfl;exact rfl;(first|exact dV.p|exact dV.g rfl rfl rfl))
  |(apply aUd;exact rfl;exact rfl;exact rfl;(first|exact dV.p|exact dV.g rfl rfl rfl))
  |(apply aVj;exact rfl;exact rfl;(first|exact dV.p|exact dV.g rfl rfl rfl))
  |(apply aRr;exact rfl;exact rfl;(first|exact dV.p|exact dV.g rfl rfl rfl))
  |(apply aR0;exact rfl;exact rfl;(first|exact dV.p|exact dV.g rfl rfl rfl))
  |(apply aPO;exact rfl;exact rfl;(first|exact dV.p|exact dV.g rfl rfl rfl);assumption)
  |(apply aUx;exact rfl;exact rfl;exact inferInstance;(repeat (first|exact aAi.a rfl|apply aAi.b));exact trivial;exact rfl;exact rfl)
  |(apply aT0;exact rfl;exact rfl;exact inferInstance;(repeat (first|exact aAi.a rfl|apply aAi.b));exact trivial;exact rfl;exact rfl)
  |(apply aMh;exact rfl;exact rfl;(repeat (first|exact gQ.a rfl|apply gQ.b));exact rfl;(with_reducible assumption);(with_reducible assumption);exact ty1s;(repeat (first|exact aAi.a rfl|apply aAi.b));exact trivial;exact rfl;exact rfl)
  |(apply aMh;exact rfl;exact rfl;(repeat (first|exact gQ.a rfl|apply gQ.b));exact rfl;(with_reducible assumption);(with_reducible assumption);exact tyAs;(repeat (first|exact aAi.a rfl|apply aAi.b));exact trivial;exact rfl;exact rfl)
  |(apply b_u;exact rfl;exact rfl;exact rfl;exact rfl)
  |(apply aNZ)
  |(apply aPe)
  |(apply aMz)
  |(apply aL1)
  |(apply aSg))
 repeat (cases(by with_reducible assumption:some _=some _))
 apply aT6
 ·exact rfl
 ·exact rfl
 ·repeat (first
   |exact RVs.nil
   |(apply RVs.tmp;exact rfl)
   |(apply rv_A;exact rfl;exact inferInstance;(repeat (first|exact gQ.a rfl|apply gQ.b));exact rfl)
   |(apply rv_1;exact rfl;exact inferInstance;(repeat (first|exact gQ.a rfl|apply gQ.b));exact rfl))
 ·exact rfl
 ·exact rfl):P:=h.h trivial
theorem gJ {E':sI} (l:List Nat) {a:Act} {w:World} (h:hs S H E a w) (hp:fI H l=some H':=by exact rfl) (hl:l.Nodup:=by decide) (hE:aGJ E E':=by repeat (first|exact trivial|refine⟨rfl,?_⟩)):hs S H' E' a w:=aLW l hp hl hE h
theorem qZ {PJ:List HA→sI→Prop} {E':sI} (J:∀H E,PJ H E→WX S .normal κ H E) (h:PJ H' E') (l:List Nat) (hp:fI H l=some H':=by exact rfl) (hE:aGJ E E':=by repeat (first|exact trivial|refine⟨rfl,?_⟩)) (hl:l.Nodup:=by decide):WX S .normal κ H E:=aQz J h l hp hE hl
theorem aJ {α:Type} {A B:Option α} {r:α} {t:Nat} {b:Bool} {x y:Code} (hF:(bif b then A else B)=some r) (ht:jZ E t=some (.vc (pB b))) (hx:b=true→A=some r→WC S x κ H E) (hy:b=false→B=some r→WC S y κ H E):WC S (.cond (.tmp t) x y) κ H E:=
 aSJ ht (fun h=>hx h (aAU h hF)) (fun h=>hy h (aA2 h hF))
theorem eW {α:Type} {A B:Option α} {r:α} {d:Nat} {c:Bool} (hF:(bif c then A else B)=some r) (ht:c=true→A=some r→WL S ops κ rest H ((d,.vc (pB true))::E)) (hf:c=false→B=some r→WL S ops κ rest H ((d,.vc (pB false))::E)):WL S ops κ rest H ((d,.vc (pB c))::E):=
 aSw (fun h=>ht h (aAU h hF)) (fun h=>hf h (aA2 h hF))
end
end Go.Proofs.YtldhbdgfpjoamaaGreat
set_option linter.unusedVariables false
set_option maxRecDepth 100000
namespace Go.Proofs.YtldhbdgfpjoamaaGreat
theorem bC:Tryz.prog.follows .mixedOrders=true:=by kernel_rfl
instance Tryz_mix:Mix Tryz.prog:=⟨bC⟩
instance tyA30:TyA Tryz.prog 30 2:=mkA Tryz.underlying30 rfl (by kernel_rfl)
theorem tyB30:TyB Tryz.prog 30 [(0,1),(1,1)] ([pB false]++[pS cI ([]:List Int)]):=mkB (z:=.agg #[.bool false,.slice none 0 0]) (by kernel_rfl) Tryz.underlying30 (by kernel_rfl) (fun M=>aX.app (show aX M [pB false] [.bool false] from zU1) (show aX M [pS cI ([]:List Int)] [.slice none 0 0] from⟨dA cI M,trivial⟩))
instance tyF30_0:TyF Tryz.prog 30 0 0:=mkF (ft:=4) (k:=0) Tryz.underlying30 rfl rfl rfl (by kernel_rfl)
instance tyF30_1:TyF Tryz.prog 30 1 1:=mkF (ft:=22) (k:=0) Tryz.underlying30 rfl rfl rfl (by kernel_rfl)
instance tyO22:Ty1 Tryz.prog 22:=mk1 Tryz.underlying22 rfl (by kernel_rfl)
instance tyO3:Ty1 Tryz.prog 3:=mk1 Tryz.underlying3 rfl (by kernel_rfl)
instance tyO4:Ty1 Tryz.prog 4:=mk1 Tryz.underlying4 rfl (by kernel_rfl)
instance tyS22:TyS Tryz.prog 22 3 1 8:=mkS (z:=.int .i64 0) (k:=0) Tryz.underlying22 (by kernel_rfl) rfl
instance tyZ3:TyZ Tryz.prog 3 [pI .i64 0]:=mkZ (z:=.int .i64 0) (k:=1) (by kernel_rfl) rfl (fun M=>show aX M [pI .i64 0] [.int .i64 0] from zU1)
instance tyZ30:TyZ Tryz.prog 30 ([pB false]++[pS cI ([]:List Int)]):=mkZ (z:=.agg #[.bool false,.slice none 0 0]) (k:=2) (by kernel_rfl) rfl (fun M=>aX.app (show aX M [pB false] [.bool false] from zU1) (show aX M [pS cI ([]:List Int)] [.slice none 0 0] from⟨dA cI M,trivial⟩))
def uY (a0:aH):Option Int:=
 bif a0.neg then(some (-1)) else(bif((a0.d.length:Int)==0) then(some 0) else(some 1))
theorem aFs {a0:aH} {r:Int} (hF:uY a0=some r):Ct Tryz.prog 43 [.va (aH.e a0)] (.vc (pI .i64 r)):=by
 unfold uY at hF
 refine aG Tryz.func43 rfl (by kernel_rfl) Tryz.ntmps43 rfl (fun w0 M0=>?_)
 refine aK (aR (cC rfl rfl trivial (fun b1=>?_)))
 refine go ?_ ?_
 refine aS (go ?_ ?_)
 refine aJ hF rfl (fun h2 hF=>?_) (fun h2 hF=>?_)
 ·exact cF
 refine go ?_ ?_
 refine aJ hF rfl (fun h3 hF=>?_) (fun h3 hF=>?_)
 ·exact cF
 exact cF
def oY (K:Nat) (a0:Bool) (a1:List Int) (x4:Int):Option aH:=
 bif(x4==0) then(some (⟨false,([]:List Int)⟩:aH)) else((slL a1 0 x4).bind fun x8=>some (⟨a0,x8⟩:aH))
def fD (K:Nat) (a1:List Int):Nat→Int→Option Int
 |0,_=>none
 |k+1,x3=>bif(decide (0<x3)) then((aT (x3-1)).bind fun v11=>(bL a1 (max v11 0)).bind fun v13=>bif(v13==0) then((aT (x3-1)).bind fun v16=>fD K a1 k v16) else(some x3)) else(some x3)
def bI (K:Nat) (a0:Bool) (a1:List Int):Option aH:=
 (fD K a1 K (a1.length:Int)).bind fun x4=>oY K a0 a1 x4
theorem bW {K:Nat} {a0:Bool} {a1:List Int} {r:aH} (hF:bI K a0 a1=some r):Ct Tryz.prog 135 [.vc (pB a0),.vc (pS cI a1)] (.va (aH.e r)):=by
 unfold bI at hF
 refine aG Tryz.func135 rfl (by kernel_rfl) Tryz.ntmps135 rfl (fun w0 M0=>?_)
 refine aK (aR (aO rfl tyZ30 (fun b1=>?_)))
 refine go ?_ ?_
 refine aS (bV (fun H E=>∃(x4:Int),oY K a0 a1 x4=some r∧H=[⟨some b1,1,30,2,1,([pB false]++[pS cI ([]:List Int)])⟩]∧E=[(0,.vc (pB a0)),(1,.vc (pS cI a1)),(4,.vc (pP (some b1) 0)),(5,.vc (pI .i64 x4))]) ?_ (fun Jj6=>?_))
 ·rintro _ _ ⟨x4,hF,rfl,rfl⟩
  unfold oY at hF
  refine go ?_ ?_
  refine aJ hF rfl (fun h7 hF=>?_) (fun h7 hF=>?_)
  ·refine aK (aR (aQ (dY (is:=[]) (xs:=[]) (ps:=[]) rfl tyB30 rfl rfl trivial rfl) trivial ?_))
   exact cF
  obtain⟨x8,h9,hF⟩:=aZ hF
  refine go ?_ ?_
  refine aQ (dY (is:=[0,1]) (xs:=[.tmp 24,.tmp 27]) (ps:=[.vc (pB a0),.vc (pS cI x8)]) rfl tyB30 rfl rfl ⟨trivial,trivial,trivial⟩ rfl) zU2 ?_
  exact cF
 obtain⟨x4',hL,hRl5⟩:=aZ hF
 refine gB (fun k a w=>∃(x3:Int),fD K a1 k x3=some x4'∧hs _ [⟨some b1,1,30,2,1,([pB false]++[pS cI ([]:List Int)])⟩] [(0,.vc (pB a0)),(1,.vc (pS cI a1)),(4,.vc (pP (some b1) 0)),(5,.vc (pI .i64 x3))] a w) K (fun a w ⟨_,hF,_⟩=>by cases hF) (fun k a w ⟨x3,hF,hh⟩=>gC ?_ hh) (fun a w hh=>⟨(a1.length:Int),hL,gJ [0] hh⟩)
 rw [fD.eq_2] at hF
 refine go ?_ ?_
 refine eW hF (fun h10 hF=>?_) (fun h10 hF=>?_)
 ·obtain⟨v11,h12,v13,h14,hF⟩:=wP hF
  refine go ?_ ?_
  refine aJ hF rfl (fun h15 hF=>?_) (fun h15 hF=>?_)
  ·refine iP (aU (aS ?_))
   have hF:=sE h12 hF
   refine go ?_ ?_
   exact aM (fun a w hh=>⟨v11,hF,gJ [0] hh⟩)
  refine cR ?_
  obtain rfl:=pZ hF
  exact qZ Jj6 ⟨x3,hRl5,rfl,rfl⟩ [0]
 refine go ?_ ?_
 refine yC rfl ?_
 refine cR ?_
 obtain rfl:=pZ hF
 exact qZ Jj6 ⟨x3,hRl5,rfl,rfl⟩ [0]
def rP (K:Nat) (a0:Int) (x18:List Int):Option aH:=
 (bI K (decide (a0<0)) x18).bind fun v26=>some v26
def dZ (K:Nat):Nat→(List Int)→Int→Option (List Int)
 |0,_,_=>none
 |k+1,x11,x17=>bif(x17 != 0) then((yK x17 1000000000).bind fun v29=>bif(decide (v29<0)) then((aT (-v29)).bind fun v32=>(qR x11 [v32]).bind fun x34=>(zX x17 1000000000).bind fun v41=>dZ K k x34 v41) else((qR x11 [v29]).bind fun x43=>(zX x17 1000000000).bind fun v50=>dZ K k x43 v50)) else(some x11)
def gU (K:Nat) (a0:Int):Option aH:=
 (dZ K K ([]:List Int) a0).bind fun x18=>rP K a0 x18
theorem l5 {K:Nat} {a0:Int} {r:aH} (hF:gU K a0=some r):Ct Tryz.prog 74 [.vc (pI .i64 a0)] (.va (aH.e r)):=by
 unfold gU at hF
 refine aG Tryz.func74 rfl (by kernel_rfl) Tryz.ntmps74 rfl (fun w0 M0=>?_)
 refine aK (aR (aO rfl tyZ30 (fun b1=>?_)))
 refine bT (aU (aK (aR (tV cI 3 rfl ?_))))
 refine go ?_ ?_
 refine aS (bV (fun H E=>∃(x18:List Int),∃(b19:Option Nat),∃(c20:Nat),∃(n21:Nat),rP K a0 x18=some r∧x18.length=n21∧H=[hO cI b19 c20 3 n21 x18,⟨some b1,1,30,2,1,([pB false]++[pS cI ([]:List Int)])⟩]∧E=[(2,.vc (pP (some b1) 0)),(3,.vc (pO b19 n21 c20)),(4,.vc (pB (decide (a0<0))))]) ?_ (fun Jj25=>?_))
 ·rintro _ _ ⟨x18,b19,c20,n21,hF,q22,rfl,rfl⟩
  unfold rP at hF
  refine aU (aK (aR (lH ?_)))
  refine lH ?_
  refine zQ 0 [3,23] rfl q22 zU2 rfl ?_
  obtain⟨v26,h27,hF⟩:=bF hF bW
  exact cF
 obtain⟨x18',hL,hRl24⟩:=aZ hF
 refine gB (fun k a w=>∃(x11:List Int),∃(x17:Int),∃(b12:Option Nat),∃(c13:Nat),∃(n14:Nat),dZ K k x11 x17=some x18'∧x11.length=n14∧hs _ [hO cI b12 c13 3 n14 x11,⟨some b1,1,30,2,1,([pB false]++[pS cI ([]:List Int)])⟩] [(0,.vc (pI .i64 x17)),(2,.vc (pP (some b1) 0)),(3,.vc (pO b12 n14 c13)),(4,.vc (pB (decide (a0<0))))] a w) K (fun a w ⟨_,_,_,_,_,hF,_,_⟩=>by cases hF) (fun k a w ⟨x11,x17,b12,c13,n14,hF,q15,hh⟩=>gC ?_ hh) (fun a w hh=>⟨([]:List Int),a0,none,0,0,hL,rfl,gJ [0,1] hh⟩)
 rw [dZ.eq_2] at hF
 refine go ?_ ?_
 refine aJ hF rfl (fun h28 hF=>?_) (fun h28 hF=>?_)
 ·refine iP (aU (aS ?_))
  obtain⟨v29,h30,hF⟩:=aZ hF
  refine go ?_ ?_
  refine aJ hF rfl (fun h31 hF=>?_) (fun h31 hF=>?_)
  ·obtain⟨v32,h33,hF⟩:=aZ hF
   refine go ?_ ?_
   refine aQ (oM (C:=cI) (xs:=[.tmp 17]) (ps:=[.vc (pI .i64 v32)]) (zs:=[v32]) rfl tyS22 rfl ⟨⟨trivial,rfl⟩,trivial⟩ rfl) zU1 ?_
   obtain⟨x34,h35,hF⟩:=aZ hF
   refine nH 0 rfl tyS22 rfl rfl q15 rfl rfl h35 (fun b36 c37 H38 e39=>?_)
   cases e39
   obtain⟨v41,h42,hF⟩:=aZ hF
   refine go ?_ ?_
   exact aM (fun a w hh=>⟨x34,v41,b36,c37,(n14+[v32].length),hF,(eJ h35 q15),gJ [0,1] hh⟩)
  refine go ?_ ?_
  refine aQ (oM (C:=cI) (xs:=[.tmp 17]) (ps:=[.vc (pI .i64 v29)]) (zs:=[v29]) rfl tyS22 rfl ⟨⟨trivial,rfl⟩,trivial⟩ rfl) zU1 ?_
  obtain⟨x43,h44,hF⟩:=aZ hF
  refine nH 0 rfl tyS22 rfl rfl q15 rfl rfl h44 (fun b45 c46 H47 e48=>?_)
  cases e48
  obtain⟨v50,h51,hF⟩:=aZ hF
  refine go ?_ ?_
  exact aM (fun a w hh=>⟨x43,v50,b45,c46,(n14+[v29].length),hF,(eJ h44 q15),gJ [0,1] hh⟩)
 refine cR ?_
 obtain rfl:=pZ hF
 exact qZ Jj25 ⟨x11,b12,c13,n14,hRl24,q15,rfl,rfl⟩ [0,1]
def eY (a0:Bool) (a1:Int):Option aH:=
 bif(a1==0) then(some (⟨false,([]:List Int)⟩:aH)) else(bif(decide (a1<1000000000)) then(some (⟨a0,[(IntKind.i64.wrap a1)]⟩:aH)) else(bif(decide (a1<1000000000000000000)) then((yK a1 1000000000).bind fun v5=>(uq a1 1000000000).bind fun v7=>some (⟨a0,[(IntKind.i64.wrap v5),(IntKind.i64.wrap v7)]⟩:aH)) else((yK a1 1000000000).bind fun v9=>(uq a1 1000000000).bind fun v11=>(yK v11 1000000000).bind fun v13=>(uq a1 1000000000).bind fun v15=>(uq v15 1000000000).bind fun v17=>some (⟨a0,[(IntKind.i64.wrap v9),(IntKind.i64.wrap v13),(IntKind.i64.wrap v17)]⟩:aH))))
theorem kO {a0:Bool} {a1:Int} {r:aH} (hF:eY a0 a1=some r):Ct Tryz.prog 136 [.vc (pB a0),.vc (pI .u64 a1)] (.va (aH.e r)):=by
 unfold eY at hF
 refine aG Tryz.func136 rfl (by kernel_rfl) Tryz.ntmps136 rfl (fun w0 M0=>?_)
 refine aK (aR (aO rfl tyZ30 (fun b1=>?_)))
 refine go ?_ ?_
 refine aS (go ?_ ?_)
 refine aJ hF rfl (fun h2 hF=>?_) (fun h2 hF=>?_)
 ·refine aK (aR (aQ (dY (is:=[]) (xs:=[]) (ps:=[]) rfl tyB30 rfl rfl trivial rfl) trivial ?_))
  exact cF
 refine go ?_ ?_
 refine aJ hF rfl (fun h3 hF=>?_) (fun h3 hF=>?_)
 ·refine go ?_ ?_
  refine aQ (aER rfl ⟨_,Tryz.underlying164⟩ Tryz.underlying3) zU1 ?_
  refine aQ (oM (C:=cI) (xs:=[.tmp 14]) (ps:=[.vc (pI .i64 (IntKind.i64.wrap a1))]) (zs:=[(IntKind.i64.wrap a1)]) rfl tyS22 rfl ⟨⟨trivial,rfl⟩,trivial⟩ rfl) zU1 ?_
  refine aQ (dY (is:=[0,1]) (xs:=[.tmp 12,.tmp 15]) (ps:=[.vc (pB a0),.vc (pS cI [(IntKind.i64.wrap a1)])]) rfl tyB30 rfl rfl ⟨trivial,trivial,trivial⟩ rfl) zU2 ?_
  exact cF
 refine go ?_ ?_
 refine aJ hF rfl (fun h4 hF=>?_) (fun h4 hF=>?_)
 ·obtain⟨v5,h6,hF⟩:=aZ hF
  refine go ?_ ?_
  refine aQ (aER rfl ⟨_,Tryz.underlying164⟩ Tryz.underlying3) zU1 ?_
  refine lH ?_
  obtain⟨v7,h8,hF⟩:=aZ hF
  refine aQ (aH9 rfl h8) ⟨rfl,lY _ _,trivial⟩ ?_
  refine aQ (aER rfl ⟨_,Tryz.underlying164⟩ Tryz.underlying3) zU1 ?_
  refine aQ (oM (C:=cI) (xs:=[.tmp 23,.tmp 26]) (ps:=[.vc (pI .i64 (IntKind.i64.wrap v5)),.vc (pI .i64 (IntKind.i64.wrap v7))]) (zs:=[(IntKind.i64.wrap v5),(IntKind.i64.wrap v7)]) rfl tyS22 rfl ⟨⟨trivial,rfl⟩,⟨trivial,rfl⟩,trivial⟩ rfl) zU2 ?_
  refine aQ (dY (is:=[0,1]) (xs:=[.tmp 20,.tmp 27]) (ps:=[.vc (pB a0),.vc (pS cI [(IntKind.i64.wrap v5),(IntKind.i64.wrap v7)])]) rfl tyB30 rfl rfl ⟨trivial,trivial,trivial⟩ rfl) zU2 ?_
  exact cF
 obtain⟨v9,h10,hF⟩:=aZ hF
 refine go ?_ ?_
 refine aQ (aER rfl ⟨_,Tryz.underlying164⟩ Tryz.underlying3) zU1 ?_
 refine lH ?_
 obtain⟨v11,h12,hF⟩:=aZ hF
 refine aQ (aH9 rfl h12) ⟨rfl,lY _ _,trivial⟩ ?_
 obtain⟨v13,h14,hF⟩:=aZ hF
 refine aQ (aDx rfl h14) ⟨rfl,lY _ _,trivial⟩ ?_
 refine aQ (aER rfl ⟨_,Tryz.underlying164⟩ Tryz.underlying3) zU1 ?_
 refine lH ?_
 have hF:=sE h12 hF
 refine aQ (aH9 rfl h12) ⟨rfl,lY _ _,trivial⟩ ?_
 obtain⟨v17,h18,hF⟩:=aZ hF
 refine aQ (aH9 rfl h18) ⟨rfl,lY _ _,trivial⟩ ?_
 refine aQ (aER rfl ⟨_,Tryz.underlying164⟩ Tryz.underlying3) zU1 ?_
 refine aQ (oM (C:=cI) (xs:=[.tmp 32,.tmp 36,.tmp 40]) (ps:=[.vc (pI .i64 (IntKind.i64.wrap v9)),.vc (pI .i64 (IntKind.i64.wrap v13)),.vc (pI .i64 (IntKind.i64.wrap v17))]) (zs:=[(IntKind.i64.wrap v9),(IntKind.i64.wrap v13),(IntKind.i64.wrap v17)]) rfl tyS22 rfl ⟨⟨trivial,rfl⟩,⟨trivial,rfl⟩,⟨trivial,rfl⟩,trivial⟩ rfl) ⟨rfl,rfl,rfl,trivial⟩ ?_
 refine aQ (dY (is:=[0,1]) (xs:=[.tmp 29,.tmp 41]) (ps:=[.vc (pB a0),.vc (pS cI [(IntKind.i64.wrap v9),(IntKind.i64.wrap v13),(IntKind.i64.wrap v17)])]) rfl tyB30 rfl rfl ⟨trivial,trivial,trivial⟩ rfl) zU2 ?_
 exact cF
def wT (K:Nat) (a0:Bool) (a1:List Int) (x4:Int):Option aH:=
 bif(x4==0) then(some (⟨false,([]:List Int)⟩:aH)) else((slL a1 0 x4).bind fun x8=>some (⟨a0,x8⟩:aH))
def mQ (K:Nat) (a1:List Int):Nat→Int→Option Int
 |0,_=>none
 |k+1,x3=>bif(decide (0<x3)) then((aT (x3-1)).bind fun v11=>(bL a1 v11).bind fun v13=>bif(v13==0) then((aT (x3-1)).bind fun v16=>mQ K a1 k v16) else(some x3)) else(some x3)
def eN (K:Nat) (a0:Bool) (a1:List Int):Option aH:=
 (mQ K a1 K (a1.length:Int)).bind fun x4=>wT K a0 a1 x4
theorem iS {K:Nat} {a0:Bool} {a1:List Int} {r:aH} (hF:eN K a0 a1=some r):Ct Tryz.prog 137 [.vc (pB a0),.vc (pS cI a1)] (.va (aH.e r)):=by
 unfold eN at hF
 refine aG Tryz.func137 rfl (by kernel_rfl) Tryz.ntmps137 rfl (fun w0 M0=>?_)
 refine aK (aR (aO rfl tyZ30 (fun b1=>?_)))
 refine go ?_ ?_
 refine aS (bV (fun H E=>∃(x4:Int),wT K a0 a1 x4=some r∧H=[⟨some b1,1,30,2,1,([pB false]++[pS cI ([]:List Int)])⟩]∧E=[(0,.vc (pB a0)),(1,.vc (pS cI a1)),(4,.vc (pP (some b1) 0)),(5,.vc (pI .i64 x4))]) ?_ (fun Jj6=>?_))
 ·rintro _ _ ⟨x4,hF,rfl,rfl⟩
  unfold wT at hF
  refine go ?_ ?_
  refine aJ hF rfl (fun h7 hF=>?_) (fun h7 hF=>?_)
  ·refine aK (aR (aQ (dY (is:=[]) (xs:=[]) (ps:=[]) rfl tyB30 rfl rfl trivial rfl) trivial ?_))
   exact cF
  obtain⟨x8,h9,hF⟩:=aZ hF
  refine go ?_ ?_
  refine aQ (aQx rfl tyS22 h9) ⟨rfl,rfl,rfl,trivial⟩ ?_
  refine aQ (dY (is:=[0,1]) (xs:=[.tmp 23,.tmp 27]) (ps:=[.vc (pB a0),.vc (pS cI x8)]) rfl tyB30 rfl rfl ⟨trivial,trivial,trivial⟩ rfl) zU2 ?_
  exact cF
 obtain⟨x4',hL,hRl5⟩:=aZ hF
 refine gB (fun k a w=>∃(x3:Int),mQ K a1 k x3=some x4'∧hs _ [⟨some b1,1,30,2,1,([pB false]++[pS cI ([]:List Int)])⟩] [(0,.vc (pB a0)),(1,.vc (pS cI a1)),(4,.vc (pP (some b1) 0)),(5,.vc (pI .i64 x3))] a w) K (fun a w ⟨_,hF,_⟩=>by cases hF) (fun k a w ⟨x3,hF,hh⟩=>gC ?_ hh) (fun a w hh=>⟨(a1.length:Int),hL,gJ [0] hh⟩)
 rw [mQ.eq_2] at hF
 refine go ?_ ?_
 refine eW hF (fun h10 hF=>?_) (fun h10 hF=>?_)
 ·obtain⟨v11,h12,v13,h14,hF⟩:=wP hF
  refine go ?_ ?_
  refine aJ hF rfl (fun h15 hF=>?_) (fun h15 hF=>?_)
  ·refine iP (aU (aS ?_))
   have hF:=sE h12 hF
   refine go ?_ ?_
   exact aM (fun a w hh=>⟨v11,hF,gJ [0] hh⟩)
  refine cR ?_
  obtain rfl:=pZ hF
  exact qZ Jj6 ⟨x3,hRl5,rfl,rfl⟩ [0]
 refine go ?_ ?_
 refine yC rfl ?_
 refine cR ?_
 obtain rfl:=pZ hF
 exact qZ Jj6 ⟨x3,hRl5,rfl,rfl⟩ [0]
def rC (K:Nat) (a0:aH) (a1:aH) (x37:List Int):Option aH:=
 (eN K (a0.neg != a1.neg) x37).bind fun v45=>some v45
def rR (K:Nat) (a1:aH) (x36:Int) (recl43:(List Int)→Int→Option (List Int)) (x66:List Int) (x72:Int):Option (List Int):=
 (aT (x36+(a1.d.length:Int))).bind fun v75=>(bL x66 v75).bind fun v77=>(oO x66 v75 x72).bind fun x79=>(aT (x36+1)).bind fun v82=>recl43 x79 v82
def gY (K:Nat) (a1:aH) (x36:Int) (v48:Int):Nat→(List Int)→Int→Int→Option ((List Int)×Int)
 |0,_,_,_=>none
 |k+1,x58,x64,x65=>bif(decide (x65<(a1.d.length:Int))) then((bL a1.d x65).bind fun v85=>(aT (x36+x65)).bind fun v87=>(bL x58 v87).bind fun v89=>(aT (v48*v85)).bind fun v91=>(aT (v89+v91)).bind fun v93=>(aT (v93+x64)).bind fun v95=>(zX v95 1000000000).bind fun v97=>(aT (x36+x65)).bind fun v99=>(aT (v97*1000000000)).bind fun v101=>(aT (v95-v101)).bind fun v103=>(bL x58 v99).bind fun v105=>(oO x58 v99 v103).bind fun x107=>(aT (x65+1)).bind fun v110=>gY K a1 x36 v48 k x107 v97 v110) else(some (x58,x64))
def fS (K:Nat) (a0:aH) (a1:aH):Nat→(List Int)→Int→Option (List Int)
 |0,_,_=>none
 |k+1,x30,x36=>bif(decide (x36<(a0.d.length:Int))) then((bL a0.d x36).bind fun v48=>(gY K a1 x36 v48 K x30 0 0).bind fun(x66,x72)=>rR K a1 x36 (fS K a0 a1 k) x66 x72) else(some x30)
def wV (K:Nat) (a0:aH) (a1:aH) (x133:List Int):Option aH:=
 (eN K (a0.neg != a1.neg) x133).bind fun v141=>some v141
def s9 (K:Nat) (a1:aH) (x132:Int) (recl139:(List Int)→Int→Option (List Int)) (x162:List Int) (x168:Int):Option (List Int):=
 (aT (x132+(a1.d.length:Int))).bind fun v171=>(bL x162 v171).bind fun v173=>(oO x162 v171 x168).bind fun x175=>(aT (x132+1)).bind fun v178=>recl139 x175 v178
def nY (K:Nat) (a1:aH) (x132:Int) (v144:Int):Nat→(List Int)→Int→Int→Option ((List Int)×Int)
 |0,_,_,_=>none
 |k+1,x154,x160,x161=>bif(decide (x161<(a1.d.length:Int))) then((bL a1.d x161).bind fun v181=>(aT (x132+x161)).bind fun v183=>(bL x154 v183).bind fun v185=>(aT (v144*v181)).bind fun v187=>(aT (v185+v187)).bind fun v189=>(aT (v189+x160)).bind fun v191=>(zX v191 1000000000).bind fun v193=>(aT (x132+x161)).bind fun v195=>(aT (v193*1000000000)).bind fun v197=>(aT (v191-v197)).bind fun v199=>(bL x154 v195).bind fun v201=>(oO x154 v195 v199).bind fun x203=>(aT (x161+1)).bind fun v206=>nY K a1 x132 v144 k x203 v193 v206) else(some (x154,x160))
def lJ (K:Nat) (a0:aH) (a1:aH):Nat→(List Int)→Int→Option (List Int)
 |0,_,_=>none
 |k+1,x126,x132=>bif(decide (x132<(a0.d.length:Int))) then((bL a0.d x132).bind fun v144=>(nY K a1 x132 v144 K x126 0 0).bind fun(x162,x168)=>s9 K a1 x132 (lJ K a0 a1 k) x162 x168) else(some x126)
def cP (K:Nat) (a0:aH) (a1:aH):Option aH:=
 bif((a0.d.length:Int)==1) then(bif((a1.d.length:Int)==1) then((bL a0.d 0).bind fun v10=>(bL a1.d 0).bind fun v12=>(eY (a0.neg != a1.neg) (wu ((IntKind.u64.wrap v10)*(IntKind.u64.wrap v12)))).bind fun v14=>some v14) else((aT ((a0.d.length:Int)+(a1.d.length:Int))).bind fun v16=>(yJ v16 0).bind fun x18=>(fS K a0 a1 K x18 0).bind fun x37=>rC K a0 a1 x37)) else((aT ((a0.d.length:Int)+(a1.d.length:Int))).bind fun v112=>(yJ v112 0).bind fun x114=>(lJ K a0 a1 K x114 0).bind fun x133=>wV K a0 a1 x133)
theorem gP {K:Nat} {a0:aH} {a1:aH} {r:aH} (hF:cP K a0 a1=some r):Ct Tryz.prog 75 [.va (aH.e a0),.va (aH.e a1)] (.va (aH.e r)):=by
 unfold cP at hF
 refine aG Tryz.func75 rfl (by kernel_rfl) Tryz.ntmps75 rfl (fun w0 M0=>?_)
 refine aK (aR (cC rfl rfl trivial (fun b1=>?_)))
 refine cC rfl rfl trivial (fun b2=>?_)
 refine aO rfl tyZ30 (fun b3=>?_)
 refine go ?_ ?_
 refine dr [0,1,0,4,3,31] 6 0 ?_ (fun bs5 G4=>?_)
 refine go ?_ ?_
 refine eW hF (fun h6 hF=>?_) (fun h6 hF=>?_)
 ·refine go ?_ ?_
  refine aJ hF rfl (fun h7 hF=>?_) (fun h7 hF=>?_)
  ·refine aK ?_
   obtain⟨v10,h11,hF⟩:=aZ hF
   obtain⟨v12,h13,hF⟩:=aZ hF
   obtain⟨v14,h15,hF⟩:=bF hF kO
   refine gT [0,1,0,4,15,0,32,96,224,0,512,1536,3584,8160,16383,32767] 15 1 [.v (.vc (pP (some b1) 0)),.v (.vc (pB a0.neg)),.v (.vc (pP (some b2) 0)),.v (.vc (pB a1.neg)),.v (.vc (pB (a0.neg != a1.neg))),.v (.vc (pS cI a0.d)),.v (.vc (pM (cI.e v10))),.v (.vc (pI .i64 v10)),.v (.vc (pI .u64 (IntKind.u64.wrap v10))),.v (.vc (pS cI a1.d)),.v (.vc (pM (cI.e v12))),.v (.vc (pI .i64 v12)),.v (.vc (pI .u64 (IntKind.u64.wrap v12))),.v (.vc (pI .u64 (wu ((IntKind.u64.wrap v10)*(IntKind.u64.wrap v12))))),.v (.va (aH.e v14))] bC ⟨d0 (iU (off:=0) (k:=0) rfl tyF30_0) zU1,d0 (fX 2 1 rfl rfl rfl rfl (.one tyO4)) zU1,d0 (iU (off:=0) (k:=0) rfl tyF30_0) zU1,d0 (fX 1 1 rfl rfl rfl rfl (.one tyO4)) zU1,⟨rfl,.run (L:=[0]) ⟨fun G8 A=>aCg rfl Tryz.underlying4,trivial⟩ (fun G8=>zU2)⟩,d0 (bB (.inl rfl)) zU1,d0 (aCO rfl tyS22 h11) ⟨rfl,lY _ _,trivial⟩,d0 (aAP 1 rfl rfl (.one tyO3)) zU1,⟨rfl,.run (L:=[0]) ⟨fun G8 A=>aER rfl ⟨_,Tryz.underlying3⟩ Tryz.underlying164,trivial⟩ (fun G8=>zU1)⟩,d0 (bB (.inl rfl)) zU1,d0 (aCO rfl tyS22 h13) ⟨rfl,lY _ _,trivial⟩,d0 (aAP 1 rfl rfl (.one tyO3)) zU1,⟨rfl,.run (L:=[0]) ⟨fun G8 A=>aER rfl ⟨_,Tryz.underlying3⟩ Tryz.underlying164,trivial⟩ (fun G8=>zU1)⟩,d0 (aTx rfl) zU2,d0 (cS rfl h15 rfl) zU2,trivial⟩ (fun bs9 G8=>?_)
   exact cF
  obtain⟨v16,h17,x18,h19,hF⟩:=wP hF
  refine go ?_ ?_
  refine uV (C:=cI) rfl tyS22 rfl tyZ3 rfl h19 (fun b20=>?_)
  refine go ?_ ?_
  refine aS (bV (fun H E=>∃(x37:List Int),rC K a0 a1 x37=some r∧x37.length=x18.length∧H=[hO cI b20 x18.length 3 x18.length x37,⟨some b3,1,30,2,1,([pB false]++[pS cI ([]:List Int)])⟩,⟨some b2,1,30,2,1,(aH.e a1)⟩,⟨some b1,1,30,2,1,(aH.e a0)⟩]∧E=[(2,.vc (pP (some b1) 0)),(3,.vc (pP (some b2) 0)),(4,.vc (pP (some b3) 0)),(7,.vc (pO b20 x18.length x18.length))]) ?_ (fun Jj44=>?_))
  ·rintro _ _ ⟨x37,hF,q41,rfl,rfl⟩
   unfold rC at hF
   refine go ?_ ?_
   refine aQ (aCg rfl Tryz.underlying4) zU2 ?_
   refine lH ?_
   refine zQ 0 [7,98] rfl q41 zU2 rfl ?_
   obtain⟨v45,h46,hF⟩:=bF hF iS
   exact cF
  obtain⟨x37',hL,hRl43⟩:=aZ hF
  refine gB (fun k a w=>∃(x30:List Int),∃(x36:Int),fS K a0 a1 k x30 x36=some x37'∧x30.length=x18.length∧hs _ [hO cI b20 x18.length 3 x18.length x30,⟨some b3,1,30,2,1,([pB false]++[pS cI ([]:List Int)])⟩,⟨some b2,1,30,2,1,(aH.e a1)⟩,⟨some b1,1,30,2,1,(aH.e a0)⟩] [(2,.vc (pP (some b1) 0)),(3,.vc (pP (some b2) 0)),(4,.vc (pP (some b3) 0)),(6,.vc (pS cI a1.d)),(7,.vc (pO b20 x18.length x18.length)),(47,.vc (pS cI a0.d)),(48,.vc (pI .i64 (a0.d.length:Int))),(49,.vc (pI .i64 x36))] a w) K (fun a w ⟨_,_,hF,_,_⟩=>by cases hF) (fun k a w ⟨x30,x36,hF,q34,hh⟩=>gC ?_ hh) (fun a w hh=>⟨x18,0,hL,rfl,gJ [0,1,2,3] hh⟩)
  rw [fS.eq_2] at hF
  refine go ?_ ?_
  refine aJ hF rfl (fun h47 hF=>?_) (fun h47 hF=>?_)
  ·refine go ?_ ?_
   refine aS ?_
   obtain⟨v48,h49,hF⟩:=aZ hF
   refine go ?_ ?_
   refine aS (bV (fun H E=>∃(x66:List Int),∃(x72:Int),rR K a1 x36 (fS K a0 a1 k) x66 x72=some x37'∧x66.length=x18.length∧H=[hO cI b20 x18.length 3 x18.length x66,⟨some b3,1,30,2,1,([pB false]++[pS cI ([]:List Int)])⟩,⟨some b2,1,30,2,1,(aH.e a1)⟩,⟨some b1,1,30,2,1,(aH.e a0)⟩]∧E=[(2,.vc (pP (some b1) 0)),(3,.vc (pP (some b2) 0)),(4,.vc (pP (some b3) 0)),(6,.vc (pS cI a1.d)),(7,.vc (pO b20 x18.length x18.length)),(8,.vc (pI .i64 x36)),(10,.vc (pI .i64 x72)),(47,.vc (pS cI a0.d)),(48,.vc (pI .i64 (a0.d.length:Int))),(49,.vc (pI .i64 x36))]) ?_ (fun Jj74=>?_))
   ·rintro _ _ ⟨x66,x72,hF,q70,rfl,rfl⟩
    unfold rR at hF
    obtain⟨v75,h76,v77,h78,x79,h80,v82,h83,hF⟩:=bn4 hF
    refine go ?_ ?_
    exact aM (fun a w hh=>⟨x79,v82,hF,(bK h80 q70),gJ [0,1,2,3] hh⟩)
   obtain⟨⟨x66',x72'⟩,hL,hRl73⟩:=aZ hF
   refine gB (fun k a w=>∃(x58:List Int),∃(x64:Int),∃(x65:Int),gY K a1 x36 v48 k x58 x64 x65=some (x66',x72')∧x58.length=x18.length∧hs _ [hO cI b20 x18.length 3 x18.length x58,⟨some b3,1,30,2,1,([pB false]++[pS cI ([]:List Int)])⟩,⟨some b2,1,30,2,1,(aH.e a1)⟩,⟨some b1,1,30,2,1,(aH.e a0)⟩] [(2,.vc (pP (some b1) 0)),(3,.vc (pP (some b2) 0)),(4,.vc (pP (some b3) 0)),(6,.vc (pS cI a1.d)),(7,.vc (pO b20 x18.length x18.length)),(8,.vc (pI .i64 x36)),(9,.vc (pI .i64 v48)),(10,.vc (pI .i64 x64)),(47,.vc (pS cI a0.d)),(48,.vc (pI .i64 (a0.d.length:Int))),(49,.vc (pI .i64 x36)),(54,.vc (pS cI a1.d)),(55,.vc (pI .i64 (a1.d.length:Int))),(56,.vc (pI .i64 x65))] a w) K (fun a w ⟨_,_,_,hF,_,_⟩=>by cases hF) (fun k a w ⟨x58,x64,x65,hF,q62,hh⟩=>gC ?_ hh) (fun a w hh=>⟨x30,0,0,hL,q34,gJ [0,1,2,3] hh⟩)
   rw [gY.eq_2] at hF
   refine go ?_ ?_
   refine aJ hF rfl (fun h84 hF=>?_) (fun h84 hF=>?_)
   ·refine go ?_ ?_
    refine aS ?_
    obtain⟨v85,h86,v87,h88,v89,h90,v91,h92,hF⟩:=bn4 hF
    obtain⟨v93,h94,v95,h96,v97,h98,hF⟩:=bn3 hF
    have hF:=sE h88 hF
    obtain⟨v101,h102,v103,h104,hF⟩:=wP hF
    have hF:=sE h90 hF
    obtain⟨x107,h108,v110,h111,hF⟩:=wP hF
    refine go ?_ ?_
    exact aM (fun a w hh=>⟨x107,v97,v110,hF,(bK h108 q62),gJ [0,1,2,3] hh⟩)
   refine cR ?_
   obtain⟨rfl,rfl⟩:=sm2 hF
   exact qZ Jj74 ⟨x58,x64,hRl73,q62,rfl,rfl⟩ [0,1,2,3]
  refine cR ?_
  obtain rfl:=pZ hF
  exact qZ Jj44 ⟨x30,hRl43,q34,rfl,rfl⟩ [0,1,2,3]
 refine go ?_ ?_
 refine yC rfl ?_
 obtain⟨v112,h113,x114,h115,hF⟩:=wP hF
 refine go ?_ ?_
 refine uV (C:=cI) rfl tyS22 rfl tyZ3 rfl h115 (fun b116=>?_)
 refine go ?_ ?_
 refine aS (bV (fun H E=>∃(x133:List Int),wV K a0 a1 x133=some r∧x133.length=x114.length∧H=[hO cI b116 x114.length 3 x114.length x133,⟨some b3,1,30,2,1,([pB false]++[pS cI ([]:List Int)])⟩,⟨some b2,1,30,2,1,(aH.e a1)⟩,⟨some b1,1,30,2,1,(aH.e a0)⟩]∧E=[(2,.vc (pP (some b1) 0)),(3,.vc (pP (some b2) 0)),(4,.vc (pP (some b3) 0)),(7,.vc (pO b116 x114.length x114.length))]) ?_ (fun Jj140=>?_))
 ·rintro _ _ ⟨x133,hF,q137,rfl,rfl⟩
  unfold wV at hF
  refine go ?_ ?_
  refine aQ (aCg rfl Tryz.underlying4) zU2 ?_
  refine lH ?_
  refine zQ 0 [7,98] rfl q137 zU2 rfl ?_
  obtain⟨v141,h142,hF⟩:=bF hF iS
  exact cF
 obtain⟨x133',hL,hRl139⟩:=aZ hF
 refine gB (fun k a w=>∃(x126:List Int),∃(x132:Int),lJ K a0 a1 k x126 x132=some x133'∧x126.length=x114.length∧hs _ [hO cI b116 x114.length 3 x114.length x126,⟨some b3,1,30,2,1,([pB false]++[pS cI ([]:List Int)])⟩,⟨some b2,1,30,2,1,(aH.e a1)⟩,⟨some b1,1,30,2,1,(aH.e a0)⟩] [(2,.vc (pP (some b1) 0)),(3,.vc (pP (some b2) 0)),(4,.vc (pP (some b3) 0)),(6,.vc (pS cI a1.d)),(7,.vc (pO b116 x114.length x114.length)),(47,.vc (pS cI a0.d)),(48,.vc (pI .i64 (a0.d.length:Int))),(49,.vc (pI .i64 x132))] a w) K (fun a w ⟨_,_,hF,_,_⟩=>by cases hF) (fun k a w ⟨x126,x132,hF,q130,hh⟩=>gC ?_ hh) (fun a w hh=>⟨x114,0,hL,rfl,gJ [0,1,2,3] hh⟩)
 rw [lJ.eq_2] at hF
 refine go ?_ ?_
 refine aJ hF rfl (fun h143 hF=>?_) (fun h143 hF=>?_)
 ·refine go ?_ ?_
  refine aS ?_
  obtain⟨v144,h145,hF⟩:=aZ hF
  refine go ?_ ?_
  refine aS (bV (fun H E=>∃(x162:List Int),∃(x168:Int),s9 K a1 x132 (lJ K a0 a1 k) x162 x168=some x133'∧x162.length=x114.length∧H=[hO cI b116 x114.length 3 x114.length x162,⟨some b3,1,30,2,1,([pB false]++[pS cI ([]:List Int)])⟩,⟨some b2,1,30,2,1,(aH.e a1)⟩,⟨some b1,1,30,2,1,(aH.e a0)⟩]∧E=[(2,.vc (pP (some b1) 0)),(3,.vc (pP (some b2) 0)),(4,.vc (pP (some b3) 0)),(6,.vc (pS cI a1.d)),(7,.vc (pO b116 x114.length x114.length)),(8,.vc (pI .i64 x132)),(10,.vc (pI .i64 x168)),(47,.vc (pS cI a0.d)),(48,.vc (pI .i64 (a0.d.length:Int))),(49,.vc (pI .i64 x132))]) ?_ (fun Jj170=>?_))
  ·rintro _ _ ⟨x162,x168,hF,q166,rfl,rfl⟩
   unfold s9 at hF
   obtain⟨v171,h172,v173,h174,x175,h176,v178,h179,hF⟩:=bn4 hF
   refine go ?_ ?_
   exact aM (fun a w hh=>⟨x175,v178,hF,(bK h176 q166),gJ [0,1,2,3] hh⟩)
  obtain⟨⟨x162',x168'⟩,hL,hRl169⟩:=aZ hF
  refine gB (fun k a w=>∃(x154:List Int),∃(x160:Int),∃(x161:Int),nY K a1 x132 v144 k x154 x160 x161=some (x162',x168')∧x154.length=x114.length∧hs _ [hO cI b116 x114.length 3 x114.length x154,⟨some b3,1,30,2,1,([pB false]++[pS cI ([]:List Int)])⟩,⟨some b2,1,30,2,1,(aH.e a1)⟩,⟨some b1,1,30,2,1,(aH.e a0)⟩] [(2,.vc (pP (some b1) 0)),(3,.vc (pP (some b2) 0)),(4,.vc (pP (some b3) 0)),(6,.vc (pS cI a1.d)),(7,.vc (pO b116 x114.length x114.length)),(8,.vc (pI .i64 x132)),(9,.vc (pI .i64 v144)),(10,.vc (pI .i64 x160)),(47,.vc (pS cI a0.d)),(48,.vc (pI .i64 (a0.d.length:Int))),(49,.vc (pI .i64 x132)),(54,.vc (pS cI a1.d)),(55,.vc (pI .i64 (a1.d.length:Int))),(56,.vc (pI .i64 x161))] a w) K (fun a w ⟨_,_,_,hF,_,_⟩=>by cases hF) (fun k a w ⟨x154,x160,x161,hF,q158,hh⟩=>gC ?_ hh) (fun a w hh=>⟨x126,0,0,hL,q130,gJ [0,1,2,3] hh⟩)
  rw [nY.eq_2] at hF
  refine go ?_ ?_
  refine aJ hF rfl (fun h180 hF=>?_) (fun h180 hF=>?_)
  ·refine go ?_ ?_
   refine aS ?_
   obtain⟨v181,h182,v183,h184,v185,h186,v187,h188,hF⟩:=bn4 hF
   obtain⟨v189,h190,v191,h192,v193,h194,hF⟩:=bn3 hF
   have hF:=sE h184 hF
   obtain⟨v197,h198,v199,h200,hF⟩:=wP hF
   have hF:=sE h186 hF
   obtain⟨x203,h204,v206,h207,hF⟩:=wP hF
   refine go ?_ ?_
   exact aM (fun a w hh=>⟨x203,v193,v206,hF,(bK h204 q158),gJ [0,1,2,3] hh⟩)
  refine cR ?_
  obtain⟨rfl,rfl⟩:=sm2 hF
  exact qZ Jj170 ⟨x154,x160,hRl169,q158,rfl,rfl⟩ [0,1,2,3]
 refine cR ?_
 obtain rfl:=pZ hF
 exact qZ Jj140 ⟨x126,hRl139,q130,rfl,rfl⟩ [0,1,2,3]
def qX (K:Nat):Option Int:=
 some 0
def dS (K:Nat) (a0:List Int) (a1:List Int):Nat→Int→Option (LR Int Unit)
 |0,_=>none
 |k+1,x6=>bif(decide (0≤x6)) then((bL a0 x6).bind fun v12=>(bL a1 x6).bind fun v14=>bif(decide (v12<v14)) then(some (.ret (-1))) else((bL a0 x6).bind fun v19=>(bL a1 x6).bind fun v21=>bif(decide (v21<v19)) then(some (.ret 1)) else((aT (x6-1)).bind fun v24=>dS K a0 a1 k v24))) else(some (.go ()))
def cT (K:Nat) (a0:List Int) (a1:List Int):Option Int:=
 bif(decide ((a0.length:Int)<(a1.length:Int))) then(some (-1)) else(bif(decide ((a1.length:Int)<(a0.length:Int))) then(some 1) else((aT ((a0.length:Int)-1)).bind fun v3=>(dS K a0 a1 K v3).bind fun o=>match o with| .ret r=>some r| .go _=>qX K))
theorem gS {K:Nat} {a0:List Int} {a1:List Int} {r:Int} (hF:cT K a0 a1=some r):Ct Tryz.prog 156 [.vc (pS cI a0),.vc (pS cI a1)] (.vc (pI .i64 r)):=by
 unfold cT at hF
 refine aG Tryz.func156 rfl (by kernel_rfl) Tryz.ntmps156 rfl (fun w0 M0=>?_)
 refine go ?_ ?_
 refine aJ hF rfl (fun h1 hF=>?_) (fun h1 hF=>?_)
 ·exact cF
 refine go ?_ ?_
 refine aJ hF rfl (fun h2 hF=>?_) (fun h2 hF=>?_)
 ·exact cF
 obtain⟨v3,h4,hF⟩:=aZ hF
 refine go ?_ ?_
 refine aS (bV (fun H E=>qX K=some r∧H=[]∧E=[]) ?_ (fun Jj8=>?_))
 ·rintro _ _ ⟨hF,rfl,rfl⟩
  unfold qX at hF
  exact cF
 obtain⟨ol7,hL,hRl7⟩:=aZ hF
 refine gB (fun k a w=>∃(x6:Int),dS K a0 a1 k x6=some ol7∧hs _ [] [(0,.vc (pS cI a0)),(1,.vc (pS cI a1)),(5,.vc (pI .i64 x6))] a w) K (fun a w ⟨_,hF,_⟩=>by cases hF) (fun k a w ⟨x6,hF,hh⟩=>gC ?_ hh) (fun a w hh=>⟨v3,hL,gJ [] hh⟩)
 rw [dS.eq_2] at hF
 refine go ?_ ?_
 refine aJ hF rfl (fun h9 hF=>?_) (fun h9 hF=>?_)
 ·refine go ?_ ?_
  refine aS (aK (aK ?_))
  obtain⟨v12,h13,hF⟩:=aZ hF
  obtain⟨v14,h15,hF⟩:=aZ hF
  refine dr [0,0,3,7,0,0,48,112,255] 9 0 ?_ (fun bs11 G10=>?_)
  refine bT (aU (aJ hF rfl (fun h16 hF=>?_) (fun h16 hF=>?_)))
  ·exact cF
  have hF:=sE h13 hF
  have hF:=sE h15 hF
  refine go ?_ ?_
  refine dr [0,0,3,7,0,0,48,112,255] 9 0 ?_ (fun bs18 G17=>?_)
  refine bT (aU (aJ hF rfl (fun h23 hF=>?_) (fun h23 hF=>?_)))
  ·exact cF
  obtain⟨v24,h25,hF⟩:=aZ hF
  refine go ?_ ?_
  exact aM (fun a w hh=>⟨v24,hF,gJ [] hh⟩)
 refine cR ?_
 obtain rfl:=pZ hF
 exact qZ Jj8 ⟨hRl7,rfl,rfl⟩ []
def nD (K:Nat) (a0:aH) (a1:aH):Option Int:=
 bif(a0.neg != a1.neg) then(bif a0.neg then(some (-1)) else(some 1)) else(bif a0.neg then((cT K a1.d a0.d).bind fun v6=>some v6) else((cT K a0.d a1.d).bind fun v8=>some v8))
theorem aBY {K:Nat} {a0:aH} {a1:aH} {r:Int} (hF:nD K a0 a1=some r):Ct Tryz.prog 151 [.va (aH.e a0),.va (aH.e a1)] (.vc (pI .i64 r)):=by
 unfold nD at hF
 refine aG Tryz.func151 rfl (by kernel_rfl) Tryz.ntmps151 rfl (fun w0 M0=>?_)
 refine aK (aR (cC rfl rfl trivial (fun b1=>?_)))
 refine cC rfl rfl trivial (fun b2=>?_)
 refine go ?_ ?_
 refine aQ (aCg rfl Tryz.underlying4) zU2 ?_
 refine bT (aU (aJ hF rfl (fun h3 hF=>?_) (fun h3 hF=>?_)))
 ·refine go ?_ ?_
  refine aJ hF rfl (fun h4 hF=>?_) (fun h4 hF=>?_)
  ·exact cF
  exact cF
 refine go ?_ ?_
 refine aJ hF rfl (fun h5 hF=>?_) (fun h5 hF=>?_)
 ·obtain⟨v6,h7,hF⟩:=bF hF gS
  exact cF
 obtain⟨v8,h9,hF⟩:=bF hF gS
 exact cF
def p6 (K:Nat) (a0:aH):Option Int:=
 (nD K a0 (⟨false,([]:List Int)⟩:aH)).bind fun v2=>some v2
theorem aDl {K:Nat} {a0:aH} {r:Int} (hF:p6 K a0=some r):Ct Tryz.prog 93 [.va (aH.e a0)] (.vc (pI .i64 r)):=by
 unfold p6 at hF
 refine aG Tryz.func93 rfl (by kernel_rfl) Tryz.ntmps93 rfl (fun w0 M0=>?_)
 refine aK (aR (cC rfl rfl trivial (fun b1=>?_)))
 refine go ?_ ?_
 refine aQ (dY (is:=[]) (xs:=[]) (ps:=[]) rfl tyB30 rfl rfl trivial rfl) trivial ?_
 obtain⟨v2,h3,hF⟩:=bF hF aBY
 exact cF
def tG (K:Nat) (x2:List Int) (x28:List Int) (x34:Int):Option (List Int):=
 (bL x28 (x2.length:Int)).bind fun v37=>(oO x28 (x2.length:Int) x34).bind fun x39=>some x39
def dU (K:Nat) (x2:List Int) (x3:List Int):Nat→(List Int)→Int→Int→Option ((List Int)×Int)
 |0,_,_,_=>none
 |k+1,x20,x26,x27=>bif(decide (x27<(x2.length:Int))) then((bL x2 x27).bind fun v43=>(aT (v43+x26)).bind fun v45=>bif(decide (x27<(x3.length:Int))) then((bL x3 x27).bind fun v48=>(aT (v45+v48)).bind fun v50=>bif(decide (1000000000≤v50)) then((aT (v50-1000000000)).bind fun v53=>(bL x20 x27).bind fun v55=>(oO x20 x27 v53).bind fun x57=>(aT (x27+1)).bind fun v60=>dU K x2 x3 k x57 1 v60) else((bL x20 x27).bind fun v62=>(oO x20 x27 v50).bind fun x64=>(aT (x27+1)).bind fun v67=>dU K x2 x3 k x64 0 v67)) else(bif(decide (1000000000≤v45)) then((aT (v45-1000000000)).bind fun v70=>(bL x20 x27).bind fun v72=>(oO x20 x27 v70).bind fun x74=>(aT (x27+1)).bind fun v77=>dU K x2 x3 k x74 1 v77) else((bL x20 x27).bind fun v79=>(oO x20 x27 v45).bind fun x81=>(aT (x27+1)).bind fun v84=>dU K x2 x3 k x81 0 v84))) else(some (x20,x26))
def oW (K:Nat) (x2:List Int) (x3:List Int):Option (List Int):=
 (aT ((x2.length:Int)+1)).bind fun v5=>(yJ v5 0).bind fun x7=>(dU K x2 x3 K x7 0 0).bind fun(x28,x34)=>tG K x2 x28 x34
def qH (K:Nat) (a0:List Int) (a1:List Int):Option (List Int):=
 bif(decide ((a0.length:Int)<(a1.length:Int))) then(oW K a1 a0) else(oW K a0 a1)
theorem aCf {K:Nat} {a0:List Int} {a1:List Int} {r:List Int} (hF:qH K a0 a1=some r):Ct Tryz.prog 152 [.vc (pS cI a0),.vc (pS cI a1)] (.vc (pS cI r)):=by
 unfold qH at hF
 refine aG Tryz.func152 rfl (by kernel_rfl) Tryz.ntmps152 rfl (fun w0 M0=>?_)
 refine aK (aR (aQ (bB (.inr rfl)) ⟨dA cI,trivial⟩ ?_))
 refine bT (aU (aK (xZ (fun H E=>∃(x2:List Int),∃(x3:List Int),oW K x2 x3=some r∧H=[]∧E=[(0,.vc (pS cI x2)),(1,.vc (pS cI x3))]) ?_ (fun Jj4=>?_))))
 ·rintro _ _ ⟨x2,x3,hF,rfl,rfl⟩
  unfold oW at hF
  obtain⟨v5,h6,x7,h8,hF⟩:=wP hF
  refine go ?_ ?_
  refine uV (C:=cI) rfl tyS22 rfl tyZ3 rfl h8 (fun b9=>?_)
  refine go ?_ ?_
  refine aS (bV (fun H E=>∃(x28:List Int),∃(x34:Int),tG K x2 x28 x34=some r∧x28.length=x7.length∧H=[hO cI b9 x7.length 3 x7.length x28]∧E=[(0,.vc (pS cI x2)),(5,.vc (pO b9 x7.length x7.length)),(6,.vc (pI .i64 x34))]) ?_ (fun Jj36=>?_))
  ·rintro _ _ ⟨x28,x34,hF,q32,rfl,rfl⟩
   unfold tG at hF
   obtain⟨v37,h38,x39,h40,hF⟩:=wP hF
   refine go ?_ ?_
   refine sT (sS (aAd 0 [4,5,50,55] rfl (bK h40 q32) ⟨rfl,rfl,rfl,rfl,trivial⟩ rfl ?_))
   obtain rfl:=pZ hF
   exact rY (.inl rfl) Tryz.results152 (.tmp rfl .nil) rfl rfl
  obtain⟨⟨x28',x34'⟩,hL,hRl35⟩:=aZ hF
  refine gB (fun k a w=>∃(x20:List Int),∃(x26:Int),∃(x27:Int),dU K x2 x3 k x20 x26 x27=some (x28',x34')∧x20.length=x7.length∧hs _ [hO cI b9 x7.length 3 x7.length x20] [(0,.vc (pS cI x2)),(1,.vc (pS cI x3)),(5,.vc (pO b9 x7.length x7.length)),(6,.vc (pI .i64 x26)),(21,.vc (pS cI x2)),(22,.vc (pI .i64 (x2.length:Int))),(23,.vc (pI .i64 x27))] a w) K (fun a w ⟨_,_,_,hF,_,_⟩=>by cases hF) (fun k a w ⟨x20,x26,x27,hF,q24,hh⟩=>gC ?_ hh) (fun a w hh=>⟨x7,0,0,hL,rfl,gJ [0] hh⟩)
  rw [dU.eq_2] at hF
  refine go ?_ ?_
  refine aJ hF rfl (fun h42 hF=>?_) (fun h42 hF=>?_)
  ·refine go ?_ ?_
   refine aS ?_
   obtain⟨v43,h44,v45,h46,hF⟩:=wP hF
   refine go ?_ ?_
   refine aJ hF rfl (fun h47 hF=>?_) (fun h47 hF=>?_)
   ·obtain⟨v48,h49,v50,h51,hF⟩:=wP hF
    refine go ?_ ?_
    refine aJ hF rfl (fun h52 hF=>?_) (fun h52 hF=>?_)
    ·obtain⟨v53,h54,v55,h56,x57,h58,v60,h61,hF⟩:=bn4 hF
     refine go ?_ ?_
     exact aM (fun a w hh=>⟨x57,1,v60,hF,(bK h58 q24),gJ [0] hh⟩)
    obtain⟨v62,h63,x64,h65,v67,h68,hF⟩:=bn3 hF
    refine go ?_ ?_
    exact aM (fun a w hh=>⟨x64,0,v67,hF,(bK h65 q24),gJ [0] hh⟩)
   refine go ?_ ?_
   refine aJ hF rfl (fun h69 hF=>?_) (fun h69 hF=>?_)
   ·obtain⟨v70,h71,v72,h73,x74,h75,v77,h78,hF⟩:=bn4 hF
    refine go ?_ ?_
    exact aM (fun a w hh=>⟨x74,1,v77,hF,(bK h75 q24),gJ [0] hh⟩)
   obtain⟨v79,h80,x81,h82,v84,h85,hF⟩:=bn3 hF
   refine go ?_ ?_
   exact aM (fun a w hh=>⟨x81,0,v84,hF,(bK h82 q24),gJ [0] hh⟩)
  refine cR ?_
  obtain⟨rfl,rfl⟩:=sm2 hF
  exact qZ Jj36 ⟨x20,x26,hRl35,q24,rfl,rfl⟩ [0]
 refine go ?_ ?_
 refine aJ hF rfl (fun h86 hF=>?_) (fun h86 hF=>?_)
 ·refine aR (lH ?_)
  refine lH ?_
  refine aDY ?_
  refine aDY ?_
  refine bT ?_
  exact qZ Jj4 ⟨a1,a0,hF,rfl,rfl⟩ []
 refine iP ?_
 exact qZ Jj4 ⟨a0,a1,hF,rfl,rfl⟩ []
def m9 (a0:Int):Option Bool:=
 some (a0 != a0)
theorem yE {a0:Int} {r:Bool} (hF:m9 a0=some r):Ct Tryz.prog 189 [.vc (pI .i64 a0)] (.vc (pB r)):=by
 unfold m9 at hF
 refine aG Tryz.func189 rfl (by kernel_rfl) Tryz.ntmps189 rfl (fun w0 M0=>?_)
 exact cF
def iH (a0:Int) (a1:Int):Option Int:=
 (m9 a0).bind fun v1=>(m9 a1).bind fun v3=>bif v1 then(bif v3 then(some 0) else(some (-1))) else(bif v3 then(some 1) else(bif(decide (a0<a1)) then(some (-1)) else(bif(decide (a1<a0)) then(some 1) else(some 0))))
theorem uS {a0:Int} {a1:Int} {r:Int} (hF:iH a0 a1=some r):Ct Tryz.prog 176 [.vc (pI .i64 a0),.vc (pI .i64 a1)] (.vc (pI .i64 r)):=by
 unfold iH at hF
 refine aG Tryz.func176 rfl (by kernel_rfl) Tryz.ntmps176 rfl (fun w0 M0=>?_)
 obtain⟨v1,h2,hF⟩:=bF hF yE
 obtain⟨v3,h4,hF⟩:=bF hF yE
 refine go ?_ ?_
 refine aJ hF rfl (fun h5 hF=>?_) (fun h5 hF=>?_)
 ·refine go ?_ ?_
  refine aJ hF rfl (fun h6 hF=>?_) (fun h6 hF=>?_)
  ·exact cF
  exact cF
 refine go ?_ ?_
 refine aJ hF rfl (fun h7 hF=>?_) (fun h7 hF=>?_)
 ·exact cF
 refine go ?_ ?_
 refine aJ hF rfl (fun h8 hF=>?_) (fun h8 hF=>?_)
 ·exact cF
 refine go ?_ ?_
 refine aJ hF rfl (fun h9 hF=>?_) (fun h9 hF=>?_)
 ·exact cF
 exact cF
def uW (K:Nat):Option Int:=
 some 0
def fW (K:Nat) (a0:List Int) (a1:List Int):Nat→Int→Option (LR Int Unit)
 |0,_=>none
 |k+1,x7=>bif(decide (0≤x7)) then((bL a0 x7).bind fun v13=>(bL a1 x7).bind fun v15=>bif(v13 != v15) then((bL a0 x7).bind fun v20=>(bL a1 x7).bind fun v22=>(iH v20 v22).bind fun v24=>some (.ret v24)) else((aT (x7-1)).bind fun v26=>fW K a0 a1 k v26)) else(some (.go ()))
def fR (K:Nat) (a0:List Int) (a1:List Int):Option Int:=
 bif((a0.length:Int) != (a1.length:Int)) then((iH (a0.length:Int) (a1.length:Int)).bind fun v2=>some v2) else((aT ((a0.length:Int)-1)).bind fun v4=>(fW K a0 a1 K v4).bind fun o=>match o with| .ret r=>some r| .go _=>uW K)
theorem nV {K:Nat} {a0:List Int} {a1:List Int} {r:Int} (hF:fR K a0 a1=some r):Ct Tryz.prog 153 [.vc (pS cI a0),.vc (pS cI a1)] (.vc (pI .i64 r)):=by
 unfold fR at hF
 refine aG Tryz.func153 rfl (by kernel_rfl) Tryz.ntmps153 rfl (fun w0 M0=>?_)
 refine go ?_ ?_
 refine aJ hF rfl (fun h1 hF=>?_) (fun h1 hF=>?_)
 ·obtain⟨v2,h3,hF⟩:=bF hF uS
  exact cF
 obtain⟨v4,h5,hF⟩:=aZ hF
 refine go ?_ ?_
 refine aS (bV (fun H E=>uW K=some r∧H=[]∧E=[]) ?_ (fun Jj9=>?_))
 ·rintro _ _ ⟨hF,rfl,rfl⟩
  unfold uW at hF
  exact cF
 obtain⟨ol8,hL,hRl8⟩:=aZ hF
 refine gB (fun k a w=>∃(x7:Int),fW K a0 a1 k x7=some ol8∧hs _ [] [(0,.vc (pS cI a0)),(1,.vc (pS cI a1)),(5,.vc (pI .i64 x7))] a w) K (fun a w ⟨_,hF,_⟩=>by cases hF) (fun k a w ⟨x7,hF,hh⟩=>gC ?_ hh) (fun a w hh=>⟨v4,hL,gJ [] hh⟩)
 rw [fW.eq_2] at hF
 refine go ?_ ?_
 refine aJ hF rfl (fun h10 hF=>?_) (fun h10 hF=>?_)
 ·refine go ?_ ?_
  refine aS (aK ?_)
  obtain⟨v13,h14,hF⟩:=aZ hF
  obtain⟨v15,h16,hF⟩:=aZ hF
  refine dr [0,0,3,7,0,0,48,112,255] 9 0 ?_ (fun bs12 G11=>?_)
  refine bT (aU (aJ hF rfl (fun h17 hF=>?_) (fun h17 hF=>?_)))
  ·refine aK ?_
   have hF:=sE h14 hF
   have hF:=sE h16 hF
   obtain⟨v24,h25,hF⟩:=bF hF uS
   refine dr [0,0,3,7,0,0,48,112,255,511] 10 0 ?_ (fun bs19 G18=>?_)
   refine bT (aU ?_)
   exact cF
  obtain⟨v26,h27,hF⟩:=aZ hF
  refine go ?_ ?_
  exact aM (fun a w hh=>⟨v26,hF,gJ [] hh⟩)
 refine cR ?_
 obtain rfl:=pZ hF
 exact qZ Jj9 ⟨hRl8,rfl,rfl⟩ []
def rZ (K:Nat) (x21:List Int):Option (List Int):=
 some x21
def kS (K:Nat) (x20:Int) (recl27:(List Int)→Int→Option (List Int)) (x31:List Int):Option (List Int):=
 (bL x31 x20).bind fun v38=>bif(decide (v38<0)) then((bL x31 x20).bind fun v41=>(aT (v41+1000000000)).bind fun v43=>(bL x31 x20).bind fun v45=>(oO x31 x20 v43).bind fun x47=>(aT (x20+1)).bind fun v50=>(bL x47 v50).bind fun v52=>(aT (v52-1)).bind fun v54=>(bL x47 v50).bind fun v56=>(oO x47 v50 v54).bind fun x58=>(aT (x20+1)).bind fun v61=>recl27 x58 v61) else((aT (x20+1)).bind fun v63=>recl27 x31 v63)
def eM (K:Nat) (a0:List Int) (a1:List Int) (x1:List Int):Nat→(List Int)→Int→Option (List Int)
 |0,_,_=>none
 |k+1,x14,x20=>bif(decide (x20<((cpL x1 a0).length:Int))) then(bif(decide (x20<(a1.length:Int))) then((bL x14 x20).bind fun v68=>(bL a1 x20).bind fun v70=>(aT (v68-v70)).bind fun v72=>(bL x14 x20).bind fun v74=>(oO x14 x20 v72).bind fun x76=>kS K x20 (eM K a0 a1 x1 k) x76) else(kS K x20 (eM K a0 a1 x1 k) x14)) else(some x14)
def mP (K:Nat) (a0:List Int) (a1:List Int):Option (List Int):=
 (yJ (a0.length:Int) 0).bind fun x1=>(eM K a0 a1 x1 K (cpL x1 a0) 0).bind fun x21=>rZ K x21
theorem yZ {K:Nat} {a0:List Int} {a1:List Int} {r:List Int} (hF:mP K a0 a1=some r):Ct Tryz.prog 154 [.vc (pS cI a0),.vc (pS cI a1)] (.vc (pS cI r)):=by
 unfold mP at hF
 refine aG Tryz.func154 rfl (by kernel_rfl) Tryz.ntmps154 rfl (fun w0 M0=>?_)
 refine aK (aR (aQ (bB (.inr rfl)) ⟨dA cI,trivial⟩ ?_))
 obtain⟨x1,h2,hF⟩:=aZ hF
 refine go ?_ ?_
 refine uV (C:=cI) rfl tyS22 rfl tyZ3 rfl h2 (fun b3=>?_)
 refine go ?_ ?_
 refine aQ (t_cp 0 rfl tyS22 rfl rfl rfl) zU2 ?_
 refine go ?_ ?_
 refine aQ (aEd (C:=cI) (xs:=(cpL x1 a0)) (T:=3) rfl tyS22 (aEf rfl)) zU1 ?_
 refine go ?_ ?_
 refine aS (bV (fun H E=>∃(x21:List Int),rZ K x21=some r∧x21.length=x1.length∧H=[hO cI b3 x1.length 3 x1.length x21]∧E=[(5,.vc (pO b3 x1.length x1.length))]) ?_ (fun Jj28=>?_))
 ·rintro _ _ ⟨x21,hF,q25,rfl,rfl⟩
  unfold rZ at hF
  refine go ?_ ?_
  refine sT (sS (aAd 0 [4,5,51] rfl q25 ⟨rfl,rfl,rfl,trivial⟩ rfl ?_))
  obtain rfl:=pZ hF
  exact rY (.inl rfl) Tryz.results154 (.tmp rfl .nil) rfl rfl
 obtain⟨x21',hL,hRl27⟩:=aZ hF
 refine gB (fun k a w=>∃(x14:List Int),∃(x20:Int),eM K a0 a1 x1 k x14 x20=some x21'∧x14.length=x1.length∧hs _ [hO cI b3 x1.length 3 x1.length x14] [(1,.vc (pS cI a1)),(5,.vc (pO b3 x1.length x1.length)),(14,.vc (pI .i64 ((cpL x1 a0).length:Int))),(15,.vc (pI .i64 x20))] a w) K (fun a w ⟨_,_,hF,_,_⟩=>by cases hF) (fun k a w ⟨x14,x20,hF,q18,hh⟩=>gC ?_ hh) (fun a w hh=>⟨(cpL x1 a0),0,hL,(aEf rfl),gJ [0] hh⟩)
 rw [eM.eq_2] at hF
 refine go ?_ ?_
 refine aJ hF rfl (fun h29 hF=>?_) (fun h29 hF=>?_)
 ·refine go ?_ ?_
  refine aS (aK (aR (lH ?_)))
  refine aDY ?_
  refine bT (aU (aK (xZ (fun H E=>∃(x31:List Int),kS K x20 (eM K a0 a1 x1 k) x31=some x21'∧x31.length=x1.length∧H=[hO cI b3 x1.length 3 x1.length x31]∧E=[(1,.vc (pS cI a1)),(5,.vc (pO b3 x1.length x1.length)),(6,.vc (pI .i64 x20)),(14,.vc (pI .i64 ((cpL x1 a0).length:Int))),(15,.vc (pI .i64 x20))]) ?_ (fun Jj37=>?_))))
  ·rintro _ _ ⟨x31,hF,q35,rfl,rfl⟩
   unfold kS at hF
   obtain⟨v38,h39,hF⟩:=aZ hF
   refine go ?_ ?_
   refine aJ hF rfl (fun h40 hF=>?_) (fun h40 hF=>?_)
   ·have hF:=sE h39 hF
    obtain⟨v43,h44,hF⟩:=aZ hF
    have hF:=sE h39 hF
    obtain⟨x47,h48,v50,h51,v52,h53,v54,h55,hF⟩:=bn4 hF
    have hF:=sE h53 hF
    obtain⟨x58,h59,hF⟩:=aZ hF
    have hF:=sE h51 hF
    refine go ?_ ?_
    exact aM (fun a w hh=>⟨x58,v50,hF,(bK h59 (bK h48 q35)),gJ [0] hh⟩)
   obtain⟨v63,h64,hF⟩:=aZ hF
   refine go ?_ ?_
   exact aM (fun a w hh=>⟨x31,v63,hF,q35,gJ [0] hh⟩)
  refine go ?_ ?_
  refine aJ hF rfl (fun h65 hF=>?_) (fun h65 hF=>?_)
  ·obtain⟨v68,h69,hF⟩:=aZ hF
   obtain⟨v70,h71,hF⟩:=aZ hF
   obtain⟨v72,h73,hF⟩:=aZ hF
   have hF:=sE h69 hF
   refine dr [0,0,3,7,0,0,48,112,255,511,1023] 10 1 ?_ (fun bs67 G66=>?_)
   obtain⟨x76,h77,hF⟩:=aZ hF
   refine mR (xV 0 rfl rfl h69 h77 tyO3.s) zU2 ?_
   refine bT ?_
   exact qZ Jj37 ⟨x76,hF,(bK h77 q18),rfl,rfl⟩ [0]
  refine iP ?_
  exact qZ Jj37 ⟨x14,hF,q18,rfl,rfl⟩ [0]
 refine cR ?_
 obtain rfl:=pZ hF
 exact qZ Jj28 ⟨x14,hRl27,q18,rfl,rfl⟩ [0]
def oD (K:Nat) (a0:aH) (a1:aH):Option aH:=
 bif(a0.neg==a1.neg) then((qH K a0.d a1.d).bind fun v7=>(eN K a0.neg v7).bind fun v9=>some v9) else((fR K a0.d a1.d).bind fun v11=>bif(decide (v11<0)) then((mP K a1.d a0.d).bind fun v16=>(eN K a1.neg v16).bind fun v18=>some v18) else((mP K a0.d a1.d).bind fun v22=>(eN K a0.neg v22).bind fun v24=>some v24))
theorem aAq {K:Nat} {a0:aH} {a1:aH} {r:aH} (hF:oD K a0 a1=some r):Ct Tryz.prog 94 [.va (aH.e a0),.va (aH.e a1)] (.va (aH.e r)):=by
 unfold oD at hF
 refine aG Tryz.func94 rfl (by kernel_rfl) Tryz.ntmps94 rfl (fun w0 M0=>?_)
 refine aK (aR (cC rfl rfl trivial (fun b1=>?_)))
 refine cC rfl rfl trivial (fun b2=>?_)
 refine aO rfl tyZ30 (fun b3=>?_)
 refine go ?_ ?_
 refine aS (go ?_ ?_)
 refine aQ (aNK rfl Tryz.underlying4) zU2 ?_
 refine go ?_ ?_
 refine aJ hF rfl (fun h4 hF=>?_) (fun h4 hF=>?_)
 ·refine aK ?_
  obtain⟨v7,h8,hF⟩:=bF hF aCf
  obtain⟨v9,h10,hF⟩:=bF hF iS
  refine dr [0,1,0,4,0,16,60,127,255] 8 1 ?_ (fun bs6 G5=>?_)
  exact cF
 obtain⟨v11,h12,hF⟩:=bF hF nV
 refine go ?_ ?_
 refine aJ hF rfl (fun h13 hF=>?_) (fun h13 hF=>?_)
 ·refine aK ?_
  obtain⟨v16,h17,hF⟩:=bF hF yZ
  obtain⟨v18,h19,hF⟩:=bF hF iS
  refine dr [0,1,0,4,0,16,60,127,255] 8 1 ?_ (fun bs15 G14=>?_)
  exact cF
 obtain⟨v22,h23,hF⟩:=bF hF yZ
 obtain⟨v24,h25,hF⟩:=bF hF iS
 refine go ?_ ?_
 refine dr [0,1,0,4,0,16,60,127,255] 8 1 ?_ (fun bs21 G20=>?_)
 exact cF
def rV (a0:aH):Option aH:=
 bif(!a0.neg) then(some (⟨(decide (0<(a0.d.length:Int))),a0.d⟩:aH)) else(some (⟨false,a0.d⟩:aH))
theorem aAF {a0:aH} {r:aH} (hF:rV a0=some r):Ct Tryz.prog 95 [.va (aH.e a0)] (.va (aH.e r)):=by
 unfold rV at hF
 refine aG Tryz.func95 rfl (by kernel_rfl) Tryz.ntmps95 rfl (fun w0 M0=>?_)
 refine aK (aR (cC rfl rfl trivial (fun b1=>?_)))
 refine aO rfl tyZ30 (fun b2=>?_)
 refine go ?_ ?_
 refine eW hF (fun h3 hF=>?_) (fun h3 hF=>?_)
 ·exact cF
 exact cF
def qM (K:Nat) (a0:aH) (a1:aH) (x25:List Int):Option aH:=
 (bI K (a0.neg != a1.neg) x25).bind fun v33=>some v33
def qN (K:Nat) (a1:aH) (x24:Int) (recl31:(List Int)→Int→Option (List Int)) (x52:List Int) (x58:Int):Option (List Int):=
 (aT (x24+(a1.d.length:Int))).bind fun v61=>(bL x52 v61).bind fun v63=>(oO x52 v61 x58).bind fun x65=>(aT (x24+1)).bind fun v68=>recl31 x65 v68
def gG (K:Nat) (a0:aH) (a1:aH) (x24:Int):Nat→(List Int)→Int→Int→Option ((List Int)×Int)
 |0,_,_,_=>none
 |k+1,x44,x50,x51=>bif(decide (x51<(a1.d.length:Int))) then((aT (x24+x51)).bind fun v73=>(bL x44 v73).bind fun v75=>(bL a0.d x24).bind fun v77=>(bL a1.d x51).bind fun v79=>(aT (v77*v79)).bind fun v81=>(aT (v75+v81)).bind fun v83=>(aT (v83+x50)).bind fun v85=>(aT (x24+x51)).bind fun v87=>(yK v85 1000000000).bind fun v89=>(bL x44 v87).bind fun v91=>(oO x44 v87 v89).bind fun x93=>(zX v85 1000000000).bind fun v96=>(aT (x51+1)).bind fun v98=>gG K a0 a1 x24 k x93 v96 v98) else(some (x44,x50))
def gH (K:Nat) (a0:aH) (a1:aH):Nat→(List Int)→Int→Option (List Int)
 |0,_,_=>none
 |k+1,x18,x24=>bif(decide (x24<(a0.d.length:Int))) then((gG K a0 a1 x24 K x18 0 0).bind fun(x52,x58)=>qN K a1 x24 (gH K a0 a1 k) x52 x58) else(some x18)
def hY (K:Nat) (a0:aH) (a1:aH):Option aH:=
 (aT ((a0.d.length:Int)+(a1.d.length:Int))).bind fun v4=>(yJ v4 0).bind fun x6=>(gH K a0 a1 K x6 0).bind fun x25=>qM K a0 a1 x25
theorem nU {K:Nat} {a0:aH} {a1:aH} {r:aH} (hF:hY K a0 a1=some r):Ct Tryz.prog 109 [.va (aH.e a0),.va (aH.e a1)] (.va (aH.e r)):=by
 unfold hY at hF
 refine aG Tryz.func109 rfl (by kernel_rfl) Tryz.ntmps109 rfl (fun w0 M0=>?_)
 refine aK (aR (cC rfl rfl trivial (fun b1=>?_)))
 refine cC rfl rfl trivial (fun b2=>?_)
 refine aO rfl tyZ30 (fun b3=>?_)
 obtain⟨v4,h5,x6,h7,hF⟩:=wP hF
 refine go ?_ ?_
 refine uV (C:=cI) rfl tyS22 rfl tyZ3 rfl h7 (fun b8=>?_)
 refine go ?_ ?_
 refine aS (bV (fun H E=>∃(x25:List Int),qM K a0 a1 x25=some r∧x25.length=x6.length∧H=[hO cI b8 x6.length 3 x6.length x25,⟨some b3,1,30,2,1,([pB false]++[pS cI ([]:List Int)])⟩,⟨some b2,1,30,2,1,(aH.e a1)⟩,⟨some b1,1,30,2,1,(aH.e a0)⟩]∧E=[(2,.vc (pP (some b1) 0)),(3,.vc (pP (some b2) 0)),(4,.vc (pP (some b3) 0)),(5,.vc (pO b8 x6.length x6.length))]) ?_ (fun Jj32=>?_))
 ·rintro _ _ ⟨x25,hF,q29,rfl,rfl⟩
  unfold qM at hF
  refine go ?_ ?_
  refine aQ (aCg rfl Tryz.underlying4) zU2 ?_
  refine lH ?_
  refine zQ 0 [5,74] rfl q29 zU2 rfl ?_
  obtain⟨v33,h34,hF⟩:=bF hF bW
  exact cF
 obtain⟨x25',hL,hRl31⟩:=aZ hF
 refine gB (fun k a w=>∃(x18:List Int),∃(x24:Int),gH K a0 a1 k x18 x24=some x25'∧x18.length=x6.length∧hs _ [hO cI b8 x6.length 3 x6.length x18,⟨some b3,1,30,2,1,([pB false]++[pS cI ([]:List Int)])⟩,⟨some b2,1,30,2,1,(aH.e a1)⟩,⟨some b1,1,30,2,1,(aH.e a0)⟩] [(2,.vc (pP (some b1) 0)),(3,.vc (pP (some b2) 0)),(4,.vc (pP (some b3) 0)),(5,.vc (pO b8 x6.length x6.length)),(6,.vc (pI .i64 x24))] a w) K (fun a w ⟨_,_,hF,_,_⟩=>by cases hF) (fun k a w ⟨x18,x24,hF,q22,hh⟩=>gC ?_ hh) (fun a w hh=>⟨x6,0,hL,rfl,gJ [0,1,2,3] hh⟩)
 rw [gH.eq_2] at hF
 refine go ?_ ?_
 refine aJ hF rfl (fun h35 hF=>?_) (fun h35 hF=>?_)
 ·refine go ?_ ?_
  refine aS (go ?_ ?_)
  refine aS (bV (fun H E=>∃(x52:List Int),∃(x58:Int),qN K a1 x24 (gH K a0 a1 k) x52 x58=some x25'∧x52.length=x6.length∧H=[hO cI b8 x6.length 3 x6.length x52,⟨some b3,1,30,2,1,([pB false]++[pS cI ([]:List Int)])⟩,⟨some b2,1,30,2,1,(aH.e a1)⟩,⟨some b1,1,30,2,1,(aH.e a0)⟩]∧E=[(2,.vc (pP (some b1) 0)),(3,.vc (pP (some b2) 0)),(4,.vc (pP (some b3) 0)),(5,.vc (pO b8 x6.length x6.length)),(6,.vc (pI .i64 x24)),(7,.vc (pI .i64 x58))]) ?_ (fun Jj60=>?_))
  ·rintro _ _ ⟨x52,x58,hF,q56,rfl,rfl⟩
   unfold qN at hF
   obtain⟨v61,h62,v63,h64,x65,h66,v68,h69,hF⟩:=bn4 hF
   refine go ?_ ?_
   exact aM (fun a w hh=>⟨x65,v68,hF,(bK h66 q56),gJ [0,1,2,3] hh⟩)
  obtain⟨⟨x52',x58'⟩,hL,hRl59⟩:=aZ hF
  refine gB (fun k a w=>∃(x44:List Int),∃(x50:Int),∃(x51:Int),gG K a0 a1 x24 k x44 x50 x51=some (x52',x58')∧x44.length=x6.length∧hs _ [hO cI b8 x6.length 3 x6.length x44,⟨some b3,1,30,2,1,([pB false]++[pS cI ([]:List Int)])⟩,⟨some b2,1,30,2,1,(aH.e a1)⟩,⟨some b1,1,30,2,1,(aH.e a0)⟩] [(2,.vc (pP (some b1) 0)),(3,.vc (pP (some b2) 0)),(4,.vc (pP (some b3) 0)),(5,.vc (pO b8 x6.length x6.length)),(6,.vc (pI .i64 x24)),(7,.vc (pI .i64 x50)),(8,.vc (pI .i64 x51))] a w) K (fun a w ⟨_,_,_,hF,_,_⟩=>by cases hF) (fun k a w ⟨x44,x50,x51,hF,q48,hh⟩=>gC ?_ hh) (fun a w hh=>⟨x18,0,0,hL,q22,gJ [0,1,2,3] hh⟩)
  rw [gG.eq_2] at hF
  refine go ?_ ?_
  refine aJ hF rfl (fun h70 hF=>?_) (fun h70 hF=>?_)
  ·refine go ?_ ?_
   refine aS (aK ?_)
   obtain⟨v73,h74,hF⟩:=aZ hF
   obtain⟨v75,h76,hF⟩:=aZ hF
   obtain⟨v77,h78,hF⟩:=aZ hF
   obtain⟨v79,h80,hF⟩:=aZ hF
   obtain⟨v81,h82,hF⟩:=aZ hF
   obtain⟨v83,h84,hF⟩:=aZ hF
   obtain⟨v85,h86,hF⟩:=aZ hF
   refine dr [0,0,0,6,15,31,0,64,0,448,960,0,2048,0,14336,30720,65472,131071,0,524287,1048575] 21 0 ?_ (fun bs72 G71=>?_)
   have hF:=sE h74 hF
   obtain⟨v89,h90,hF⟩:=aZ hF
   have hF:=sE h76 hF
   obtain⟨x93,h94,v96,h97,v98,h99,hF⟩:=bn3 hF
   refine go ?_ ?_
   exact aM (fun a w hh=>⟨x93,v96,v98,hF,(bK h94 q48),gJ [0,1,2,3] hh⟩)
  refine cR ?_
  obtain⟨rfl,rfl⟩:=sm2 hF
  exact qZ Jj60 ⟨x44,x50,hRl59,q48,rfl,rfl⟩ [0,1,2,3]
 refine cR ?_
 obtain rfl:=pZ hF
 exact qZ Jj32 ⟨x18,hRl31,q22,rfl,rfl⟩ [0,1,2,3]
def dO (a0:List Int) (a1:Int):Option Int:=
 bif(decide (a1<(a0.length:Int))) then((bL a0 a1).bind fun v2=>some v2) else(some 0)
theorem fU {a0:List Int} {a1:Int} {r:Int} (hF:dO a0 a1=some r):Ct Tryz.prog 177 [.vc (pS cI a0),.vc (pI .i64 a1)] (.vc (pI .i64 r)):=by
 unfold dO at hF
 refine aG Tryz.func177 rfl (by kernel_rfl) Tryz.ntmps177 rfl (fun w0 M0=>?_)
 refine go ?_ ?_
 refine aJ hF rfl (fun h1 hF=>?_) (fun h1 hF=>?_)
 ·obtain⟨v2,h3,hF⟩:=aZ hF
  exact cF
 exact cF
def pW (K:Nat) (x19:List Int):Option (List Int):=
 some x19
def cU (K:Nat) (a0:List Int) (a1:List Int):Nat→(List Int)→Int→Int→Option (List Int)
 |0,_,_,_=>none
 |k+1,x11,x17,x18=>bif(decide (x18<(a0.length:Int))) then((dO a0 x18).bind fun v28=>(dO a1 x18).bind fun v30=>(aT (v28+v30)).bind fun v32=>(aT (v32+x17)).bind fun v34=>(yK v34 1000000000).bind fun v36=>(qR x11 [v36]).bind fun x38=>(zX v34 1000000000).bind fun v45=>(aT (x18+1)).bind fun v47=>cU K a0 a1 k x38 v45 v47) else(bif(decide (x18<(a1.length:Int))) then((dO a0 x18).bind fun v50=>(dO a1 x18).bind fun v52=>(aT (v50+v52)).bind fun v54=>(aT (v54+x17)).bind fun v56=>(yK v56 1000000000).bind fun v58=>(qR x11 [v58]).bind fun x60=>(zX v56 1000000000).bind fun v67=>(aT (x18+1)).bind fun v69=>cU K a0 a1 k x60 v67 v69) else(bif(decide (0<x17)) then((dO a0 x18).bind fun v72=>(dO a1 x18).bind fun v74=>(aT (v72+v74)).bind fun v76=>(aT (v76+x17)).bind fun v78=>(yK v78 1000000000).bind fun v80=>(qR x11 [v80]).bind fun x82=>(zX v78 1000000000).bind fun v89=>(aT (x18+1)).bind fun v91=>cU K a0 a1 k x82 v89 v91) else(some x11)))
def qB (K:Nat) (a0:List Int) (a1:List Int):Option (List Int):=
 (cU K a0 a1 K ([]:List Int) 0 0).bind fun x19=>pW K x19
theorem aDn {K:Nat} {a0:List Int} {a1:List Int} {r:List Int} (hF:qB K a0 a1=some r):Ct Tryz.prog 155 [.vc (pS cI a0),.vc (pS cI a1)] (.vc (pS cI r)):=by
 unfold qB at hF
 refine aG Tryz.func155 rfl (by kernel_rfl) Tryz.ntmps155 rfl (fun w0 M0=>?_)
 refine aK (aR (aQ (bB (.inr rfl)) ⟨dA cI,trivial⟩ ?_))
 refine bT (aU (aK (aR (tV cI 3 rfl ?_))))
 refine go ?_ ?_
 refine aS (bV (fun H E=>∃(x19:List Int),∃(b20:Option Nat),∃(c21:Nat),∃(n22:Nat),pW K x19=some r∧x19.length=n22∧H=[hO cI b20 c21 3 n22 x19]∧E=[(5,.vc (pO b20 n22 c21))]) ?_ (fun Jj26=>?_))
 ·rintro _ _ ⟨x19,b20,c21,n22,hF,q23,rfl,rfl⟩
  unfold pW at hF
  refine go ?_ ?_
  refine sT (sS (aAd 0 [4,5,41] rfl q23 ⟨rfl,rfl,rfl,trivial⟩ rfl ?_))
  obtain rfl:=pZ hF
  exact rY (.inl rfl) Tryz.results155 (.tmp rfl .nil) rfl rfl
 obtain⟨x19',hL,hRl25⟩:=aZ hF
 refine gB (fun k a w=>∃(x11:List Int),∃(x17:Int),∃(x18:Int),∃(b12:Option Nat),∃(c13:Nat),∃(n14:Nat),cU K a0 a1 k x11 x17 x18=some x19'∧x11.length=n14∧hs _ [hO cI b12 c13 3 n14 x11] [(0,.vc (pS cI a0)),(1,.vc (pS cI a1)),(5,.vc (pO b12 n14 c13)),(6,.vc (pI .i64 x17)),(7,.vc (pI .i64 x18))] a w) K (fun a w ⟨_,_,_,_,_,_,hF,_,_⟩=>by cases hF) (fun k a w ⟨x11,x17,x18,b12,c13,n14,hF,q15,hh⟩=>gC ?_ hh) (fun a w hh=>⟨([]:List Int),0,0,none,0,0,hL,rfl,gJ [0] hh⟩)
 rw [cU.eq_2] at hF
 refine go ?_ ?_
 refine eW hF (fun h27 hF=>?_) (fun h27 hF=>?_)
 ·refine go ?_ ?_
  refine oU rfl ?_
  refine go ?_ ?_
  refine aS ?_
  obtain⟨v28,h29,hF⟩:=bF hF fU
  obtain⟨v30,h31,hF⟩:=bF hF fU
  obtain⟨v32,h33,v34,h35,v36,h37,hF⟩:=bn3 hF
  refine go ?_ ?_
  refine aQ (oM (C:=cI) (xs:=[.tmp 36]) (ps:=[.vc (pI .i64 v36)]) (zs:=[v36]) rfl tyS22 rfl ⟨⟨trivial,rfl⟩,trivial⟩ rfl) zU1 ?_
  obtain⟨x38,h39,hF⟩:=aZ hF
  refine nH 0 rfl tyS22 rfl rfl q15 rfl rfl h39 (fun b40 c41 H42 e43=>?_)
  cases e43
  obtain⟨v45,h46,v47,h48,hF⟩:=wP hF
  refine go ?_ ?_
  exact aM (fun a w hh=>⟨x38,v45,v47,b40,c41,(n14+[v36].length),hF,(eJ h39 q15),gJ [0] hh⟩)
 refine go ?_ ?_
 refine eW hF (fun h49 hF=>?_) (fun h49 hF=>?_)
 ·refine go ?_ ?_
  refine oU rfl ?_
  refine go ?_ ?_
  refine aS ?_
  obtain⟨v50,h51,hF⟩:=bF hF fU
  obtain⟨v52,h53,hF⟩:=bF hF fU
  obtain⟨v54,h55,v56,h57,v58,h59,hF⟩:=bn3 hF
  refine go ?_ ?_
  refine aQ (oM (C:=cI) (xs:=[.tmp 36]) (ps:=[.vc (pI .i64 v58)]) (zs:=[v58]) rfl tyS22 rfl ⟨⟨trivial,rfl⟩,trivial⟩ rfl) zU1 ?_
  obtain⟨x60,h61,hF⟩:=aZ hF
  refine nH 0 rfl tyS22 rfl rfl q15 rfl rfl h61 (fun b62 c63 H64 e65=>?_)
  cases e65
  obtain⟨v67,h68,v69,h70,hF⟩:=wP hF
  refine go ?_ ?_
  exact aM (fun a w hh=>⟨x60,v67,v69,b62,c63,(n14+[v58].length),hF,(eJ h61 q15),gJ [0] hh⟩)
 refine go ?_ ?_
 refine aJ hF rfl (fun h71 hF=>?_) (fun h71 hF=>?_)
 ·refine go ?_ ?_
  refine aS ?_
  obtain⟨v72,h73,hF⟩:=bF hF fU
  obtain⟨v74,h75,hF⟩:=bF hF fU
  obtain⟨v76,h77,v78,h79,v80,h81,hF⟩:=bn3 hF
  refine go ?_ ?_
  refine aQ (oM (C:=cI) (xs:=[.tmp 36]) (ps:=[.vc (pI .i64 v80)]) (zs:=[v80]) rfl tyS22 rfl ⟨⟨trivial,rfl⟩,trivial⟩ rfl) zU1 ?_
  obtain⟨x82,h83,hF⟩:=aZ hF
  refine nH 0 rfl tyS22 rfl rfl q15 rfl rfl h83 (fun b84 c85 H86 e87=>?_)
  cases e87
  obtain⟨v89,h90,v91,h92,hF⟩:=wP hF
  refine go ?_ ?_
  exact aM (fun a w hh=>⟨x82,v89,v91,b84,c85,(n14+[v80].length),hF,(eJ h83 q15),gJ [0] hh⟩)
 refine cR ?_
 obtain rfl:=pZ hF
 exact qZ Jj26 ⟨x11,b12,c13,n14,hRl25,q15,rfl,rfl⟩ [0]
def oR (K:Nat) (x19:List Int):Option (List Int):=
 some x19
def eA (K:Nat) (a0:List Int) (a1:List Int):Nat→(List Int)→Int→Int→Option (List Int)
 |0,_,_,_=>none
 |k+1,x11,x17,x18=>bif(decide (x18<(a0.length:Int))) then((bL a0 x18).bind fun v30=>(dO a1 x18).bind fun v32=>(aT (v30-v32)).bind fun v34=>(aT (v34-x17)).bind fun v36=>bif(decide (v36<0)) then((aT (v36+1000000000)).bind fun v39=>(qR x11 [v39]).bind fun x41=>(aT (x18+1)).bind fun v48=>eA K a0 a1 k x41 1 v48) else((qR x11 [v36]).bind fun x50=>(aT (x18+1)).bind fun v57=>eA K a0 a1 k x50 0 v57)) else(some x11)
def fH (K:Nat) (a0:List Int) (a1:List Int):Option (List Int):=
 (eA K a0 a1 K ([]:List Int) 0 0).bind fun x19=>oR K x19
theorem oL {K:Nat} {a0:List Int} {a1:List Int} {r:List Int} (hF:fH K a0 a1=some r):Ct Tryz.prog 157 [.vc (pS cI a0),.vc (pS cI a1)] (.vc (pS cI r)):=by
 unfold fH at hF
 refine aG Tryz.func157 rfl (by kernel_rfl) Tryz.ntmps157 rfl (fun w0 M0=>?_)
 refine aK (aR (aQ (bB (.inr rfl)) ⟨dA cI,trivial⟩ ?_))
 refine bT (aU (aK (aR (tV cI 3 rfl ?_))))
 refine go ?_ ?_
 refine aS (bV (fun H E=>∃(x19:List Int),∃(b20:Option Nat),∃(c21:Nat),∃(n22:Nat),oR K x19=some r∧x19.length=n22∧H=[hO cI b20 c21 3 n22 x19]∧E=[(5,.vc (pO b20 n22 c21))]) ?_ (fun Jj26=>?_))
 ·rintro _ _ ⟨x19,b20,c21,n22,hF,q23,rfl,rfl⟩
  unfold oR at hF
  refine go ?_ ?_
  refine sT (sS (aAd 0 [4,5,33] rfl q23 ⟨rfl,rfl,rfl,trivial⟩ rfl ?_))
  obtain rfl:=pZ hF
  exact rY (.inl rfl) Tryz.results157 (.tmp rfl .nil) rfl rfl
 obtain⟨x19',hL,hRl25⟩:=aZ hF
 refine gB (fun k a w=>∃(x11:List Int),∃(x17:Int),∃(x18:Int),∃(b12:Option Nat),∃(c13:Nat),∃(n14:Nat),eA K a0 a1 k x11 x17 x18=some x19'∧x11.length=n14∧hs _ [hO cI b12 c13 3 n14 x11] [(0,.vc (pS cI a0)),(1,.vc (pS cI a1)),(5,.vc (pO b12 n14 c13)),(6,.vc (pI .i64 x17)),(7,.vc (pI .i64 x18))] a w) K (fun a w ⟨_,_,_,_,_,_,hF,_,_⟩=>by cases hF) (fun k a w ⟨x11,x17,x18,b12,c13,n14,hF,q15,hh⟩=>gC ?_ hh) (fun a w hh=>⟨([]:List Int),0,0,none,0,0,hL,rfl,gJ [0] hh⟩)
 rw [eA.eq_2] at hF
 refine go ?_ ?_
 refine aJ hF rfl (fun h27 hF=>?_) (fun h27 hF=>?_)
 ·refine go ?_ ?_
  refine aS (aK ?_)
  obtain⟨v30,h31,hF⟩:=aZ hF
  obtain⟨v32,h33,hF⟩:=bF hF fU
  obtain⟨v34,h35,hF⟩:=aZ hF
  obtain⟨v36,h37,hF⟩:=aZ hF
  refine dr [0,0,3,7,0,0,48,127,0,511,1023] 11 0 ?_ (fun bs29 G28=>?_)
  refine go ?_ ?_
  refine aJ hF rfl (fun h38 hF=>?_) (fun h38 hF=>?_)
  ·obtain⟨v39,h40,hF⟩:=aZ hF
   refine go ?_ ?_
   refine aQ (oM (C:=cI) (xs:=[.tmp 30]) (ps:=[.vc (pI .i64 v39)]) (zs:=[v39]) rfl tyS22 rfl ⟨⟨trivial,rfl⟩,trivial⟩ rfl) zU1 ?_
   obtain⟨x41,h42,hF⟩:=aZ hF
   refine nH 0 rfl tyS22 rfl rfl q15 rfl rfl h42 (fun b43 c44 H45 e46=>?_)
   cases e46
   obtain⟨v48,h49,hF⟩:=aZ hF
   refine go ?_ ?_
   exact aM (fun a w hh=>⟨x41,1,v48,b43,c44,(n14+[v39].length),hF,(eJ h42 q15),gJ [0] hh⟩)
  refine go ?_ ?_
  refine aQ (oM (C:=cI) (xs:=[.tmp 30]) (ps:=[.vc (pI .i64 v36)]) (zs:=[v36]) rfl tyS22 rfl ⟨⟨trivial,rfl⟩,trivial⟩ rfl) zU1 ?_
  obtain⟨x50,h51,hF⟩:=aZ hF
  refine nH 0 rfl tyS22 rfl rfl q15 rfl rfl h51 (fun b52 c53 H54 e55=>?_)
  cases e55
  obtain⟨v57,h58,hF⟩:=aZ hF
  refine go ?_ ?_
  exact aM (fun a w hh=>⟨x50,0,v57,b52,c53,(n14+[v36].length),hF,(eJ h51 q15),gJ [0] hh⟩)
 refine cR ?_
 obtain rfl:=pZ hF
 exact qZ Jj26 ⟨x11,b12,c13,n14,hRl25,q15,rfl,rfl⟩ [0]
def oQ (K:Nat) (a0:aH) (a1:aH):Option aH:=
 bif(a0.neg==a1.neg) then((qB K a0.d a1.d).bind fun v7=>(bI K a0.neg v7).bind fun v9=>some v9) else((cT K a0.d a1.d).bind fun v11=>bif(decide (v11<0)) then((fH K a1.d a0.d).bind fun v16=>(bI K a1.neg v16).bind fun v18=>some v18) else((fH K a0.d a1.d).bind fun v22=>(bI K a0.neg v22).bind fun v24=>some v24))
theorem aAC {K:Nat} {a0:aH} {a1:aH} {r:aH} (hF:oQ K a0 a1=some r):Ct Tryz.prog 111 [.va (aH.e a0),.va (aH.e a1)] (.va (aH.e r)):=by
 unfold oQ at hF
 refine aG Tryz.func111 rfl (by kernel_rfl) Tryz.ntmps111 rfl (fun w0 M0=>?_)
 refine aK (aR (cC rfl rfl trivial (fun b1=>?_)))
 refine cC rfl rfl trivial (fun b2=>?_)
 refine aO rfl tyZ30 (fun b3=>?_)
 refine go ?_ ?_
 refine aQ (aNK rfl Tryz.underlying4) zU2 ?_
 refine bT (aU (aJ hF rfl (fun h4 hF=>?_) (fun h4 hF=>?_)))
 ·refine aK ?_
  obtain⟨v7,h8,hF⟩:=bF hF aDn
  obtain⟨v9,h10,hF⟩:=bF hF bW
  refine dr [0,1,0,4,0,16,60,127,255] 8 1 ?_ (fun bs6 G5=>?_)
  exact cF
 obtain⟨v11,h12,hF⟩:=bF hF gS
 refine go ?_ ?_
 refine aJ hF rfl (fun h13 hF=>?_) (fun h13 hF=>?_)
 ·refine aK ?_
  obtain⟨v16,h17,hF⟩:=bF hF oL
  obtain⟨v18,h19,hF⟩:=bF hF bW
  refine dr [0,1,0,4,0,16,60,127,255] 8 1 ?_ (fun bs15 G14=>?_)
  exact cF
 obtain⟨v22,h23,hF⟩:=bF hF oL
 obtain⟨v24,h25,hF⟩:=bF hF bW
 refine go ?_ ?_
 refine dr [0,1,0,4,0,16,60,127,255] 8 1 ?_ (fun bs21 G20=>?_)
 exact cF
def qW (K:Nat):Option Int:=
 some (-1)
def fK (K:Nat) (a0:List Int) (a1:(Int→Option Bool)):Nat→Int→Option (LR Int Unit)
 |0,_=>none
 |k+1,x2=>bif(decide (x2<(a0.length:Int))) then((bL a0 x2).bind fun v6=>(a1 v6).bind fun v8=>bif v8 then(some (.ret x2)) else((aT (x2+1)).bind fun v11=>fK K a0 a1 k v11)) else(some (.go ()))
def pR (K:Nat) (a0:List Int) (a1:(Int→Option Bool)):Option Int:=
 (fK K a0 a1 K 0).bind fun o=>match o with| .ret r=>some r| .go _=>qW K
theorem aBk {K:Nat} {a0:List Int} {a1:(Int→Option Bool)} {r:Int} (hF:pR K a0 a1=some r):Ct Tryz.prog 185 [.vc (pS cI a0),.vc (pFn Tryz.prog (fun x:Int=>[.vc (pI .i64 x)]) (fun r:Bool=>.vc (pB r)) a1)] (.vc (pI .i64 r)):=by
 unfold pR at hF
 refine aG Tryz.func185 rfl (by kernel_rfl) Tryz.ntmps185 rfl (fun w0 M0=>?_)
 refine go ?_ ?_
 refine aS (bV (fun H E=>qW K=some r∧H=[]∧E=[]) ?_ (fun Jj4=>?_))
 ·rintro _ _ ⟨hF,rfl,rfl⟩
  unfold qW at hF
  exact cF
 obtain⟨ol3,hL,hRl3⟩:=aZ hF
 refine gB (fun k a w=>∃(x2:Int),fK K a0 a1 k x2=some ol3∧hs _ [] [(0,.vc (pS cI a0)),(1,.vc (pFn Tryz.prog (fun x:Int=>[.vc (pI .i64 x)]) (fun r:Bool=>.vc (pB r)) a1)),(7,.vc (pI .i64 (a0.length:Int))),(8,.vc (pI .i64 x2))] a w) K (fun a w ⟨_,hF,_⟩=>by cases hF) (fun k a w ⟨x2,hF,hh⟩=>gC ?_ hh) (fun a w hh=>⟨0,hL,gJ [] hh⟩)
 rw [fK.eq_2] at hF
 refine go ?_ ?_
 refine aJ hF rfl (fun h5 hF=>?_) (fun h5 hF=>?_)
 ·refine go ?_ ?_
  refine aS ?_
  obtain⟨v6,h7,v8,h9,hF⟩:=wP hF
  refine go ?_ ?_
  refine aQ (aC7 (pre:=fun x:Int=>[.vc (pI .i64 x)]) (post:=fun r:Bool=>.vc (pB r)) (x:=v6) (r:=v8) rfl h9 rfl) zU2 ?_
  refine bT (aU (aJ hF rfl (fun h10 hF=>?_) (fun h10 hF=>?_)))
  ·exact cF
  obtain⟨v11,h12,hF⟩:=aZ hF
  refine go ?_ ?_
  exact aM (fun a w hh=>⟨v11,hF,gJ [] hh⟩)
 refine cR ?_
 obtain rfl:=pZ hF
 exact qZ Jj4 ⟨hRl3,rfl,rfl⟩ []
def kI (K:Nat) (a0:List Int) (a1:(Int→Option Bool)):Option Bool:=
 (pR K a0 a1).bind fun v1=>some (decide (0≤v1))
theorem aAM {K:Nat} {a0:List Int} {a1:(Int→Option Bool)} {r:Bool} (hF:kI K a0 a1=some r):Ct Tryz.prog 165 [.vc (pS cI a0),.vc (pFn Tryz.prog (fun x:Int=>[.vc (pI .i64 x)]) (fun r:Bool=>.vc (pB r)) a1)] (.vc (pB r)):=by
 unfold kI at hF
 refine aG Tryz.func165 rfl (by kernel_rfl) Tryz.ntmps165 rfl (fun w0 M0=>?_)
 obtain⟨v1,h2,hF⟩:=bF hF aBk
 exact cF
def kW (a0:Int):Option Bool:=
 bif(decide (a0<0)) then(some true) else(some (decide (1000000000≤a0)))
theorem aDV {a0:Int} {r:Bool} (hF:kW a0=some r):Ct Tryz.prog 166 [.vc (pI .i64 a0)] (.vc (pB r)):=by
 unfold kW at hF
 refine aG Tryz.func166 rfl (by kernel_rfl) Tryz.ntmps166 rfl (fun w0 M0=>?_)
 refine go ?_ ?_
 refine eW hF (fun h1 hF=>?_) (fun h1 hF=>?_)
 ·exact cF
 exact cF
def pD (K:Nat) (a0:aH):Option Bool:=
 (kI K a0.d (kW)).bind fun v2=>bif v2 then(some false) else(bif((a0.d.length:Int)==0) then(bif(!a0.neg) then(some true) else(bif(decide (0<(a0.d.length:Int))) then((aT ((a0.d.length:Int)-1)).bind fun v8=>(bL a0.d v8).bind fun v10=>some (v10 != 0)) else(some false))) else(bif(decide (0<(a0.d.length:Int))) then((aT ((a0.d.length:Int)-1)).bind fun v13=>(bL a0.d v13).bind fun v15=>some (v15 != 0)) else(some false)))
theorem aBv {K:Nat} {a0:aH} {r:Bool} (hF:pD K a0=some r):Ct Tryz.prog 120 [.va (aH.e a0)] (.vc (pB r)):=by
 unfold pD at hF
 refine aG Tryz.func120 rfl (by kernel_rfl) Tryz.ntmps120 rfl (fun w0 M0=>?_)
 refine aK (aR (cC rfl rfl trivial (fun b1=>?_)))
 obtain⟨v2,h3,hF⟩:=bF hF aAM
 refine go ?_ ?_
 refine aQ (cS rfl h3 rfl) ⟨rfl,(aU0 (P:=Tryz.prog) (φ:=(kW)) (pre:=fun x:Int=>[.vc (pI .i64 x)]) (post:=fun r:Bool=>.vc (pB r)) (fun x r h=>aDV h)),trivial⟩ ?_
 refine bT (aU (aJ hF rfl (fun h4 hF=>?_) (fun h4 hF=>?_)))
 ·exact cF
 refine go ?_ ?_
 refine eW hF (fun h5 hF=>?_) (fun h5 hF=>?_)
 ·refine go ?_ ?_
  refine eW hF (fun h6 hF=>?_) (fun h6 hF=>?_)
  ·exact cF
  refine go ?_ ?_
  refine eW hF (fun h7 hF=>?_) (fun h7 hF=>?_)
  ·obtain⟨v8,h9,v10,h11,hF⟩:=wP hF
   exact cF
  exact cF
 refine go ?_ ?_
 refine eW hF (fun h12 hF=>?_) (fun h12 hF=>?_)
 ·obtain⟨v13,h14,v15,h16,hF⟩:=wP hF
  exact cF
 exact cF
def pY (a0:List Int):Option (Int×Bool):=
 bif((a0.length:Int)==0) then(some (0,true)) else(bif((a0.length:Int)==1) then((bL a0 0).bind fun v3=>some (v3,true)) else(bif((a0.length:Int)==2) then((bL a0 1).bind fun v8=>(aT (v8*1000000000)).bind fun v10=>(bL a0 0).bind fun v12=>(aT (v10+v12)).bind fun v14=>some (v14,true)) else(some (0,false))))
theorem xQ {a0:List Int} {r:Int×Bool} (hF:pY a0=some r):Ct Tryz.prog 167 [.vc (pS cI a0)] (.t2 (.vc (pI .i64 r.1)) (.vc (pB r.2))):=by
 unfold pY at hF
 refine aG Tryz.func167 rfl (by kernel_rfl) Tryz.ntmps167 rfl (fun w0 M0=>?_)
 refine go ?_ ?_
 refine aS (go ?_ ?_)
 refine aJ hF rfl (fun h1 hF=>?_) (fun h1 hF=>?_)
 ·exact cF
 refine go ?_ ?_
 refine aJ hF rfl (fun h2 hF=>?_) (fun h2 hF=>?_)
 ·obtain⟨v3,h4,hF⟩:=aZ hF
  exact cF
 refine go ?_ ?_
 refine aJ hF rfl (fun h5 hF=>?_) (fun h5 hF=>?_)
 ·refine aK ?_
  obtain⟨v8,h9,hF⟩:=aZ hF
  obtain⟨v10,h11,hF⟩:=aZ hF
  obtain⟨v12,h13,hF⟩:=aZ hF
  obtain⟨v14,h15,hF⟩:=aZ hF
  refine dr [0,1,3,7,0,16,48,127,255,511] 10 0 ?_ (fun bs7 G6=>?_)
  refine bT (aU ?_)
  exact cF
 exact cF
def sA (K:Nat) (x24:List Int) (x30:Int):Option ((List Int)×Int):=
 some (x24,x30)
def kR (K:Nat) (a0:List Int) (a1:Int):Nat→(List Int)→Int→Int→Option ((List Int)×Int)
 |0,_,_,_=>none
 |k+1,x16,x22,x23=>bif(decide (0≤x23)) then((aT (x22*1000000000)).bind fun v34=>(bL a0 x23).bind fun v36=>(aT (v34+v36)).bind fun v38=>(zX v38 a1).bind fun v42=>(yK v38 a1).bind fun v44=>(bL x16 x23).bind fun v46=>(oO x16 x23 v42).bind fun x48=>(aT (x23-1)).bind fun v52=>kR K a0 a1 k x48 v44 v52) else(some (x16,x22))
def rA (K:Nat) (a0:List Int) (a1:Int):Option ((List Int)×Int):=
 (yJ (a0.length:Int) 0).bind fun x1=>(aT ((a0.length:Int)-1)).bind fun v6=>(kR K a0 a1 K x1 0 v6).bind fun(x24,x30)=>sA K x24 x30
theorem aBi {K:Nat} {a0:List Int} {a1:Int} {r:(List Int)×Int} (hF:rA K a0 a1=some r):Ct Tryz.prog 186 [.vc (pS cI a0),.vc (pI .i64 a1)] (.t2 (.vc (pS cI r.1)) (.vc (pI .i64 r.2))):=by
 unfold rA at hF
 refine aG Tryz.func186 rfl (by kernel_rfl) Tryz.ntmps186 rfl (fun w0 M0=>?_)
 refine aK (aR (aQ (bB (.inr rfl)) ⟨dA cI,trivial⟩ ?_))
 obtain⟨x1,h2,hF⟩:=aZ hF
 refine go ?_ ?_
 refine uV (C:=cI) rfl tyS22 rfl tyZ3 rfl h2 (fun b3=>?_)
 obtain⟨v6,h7,hF⟩:=aZ hF
 refine go ?_ ?_
 refine aS (bV (fun H E=>∃(x24:List Int),∃(x30:Int),sA K x24 x30=some r∧x24.length=x1.length∧H=[hO cI b3 x1.length 3 x1.length x24]∧E=[(6,.vc (pO b3 x1.length x1.length)),(7,.vc (pI .i64 x30))]) ?_ (fun Jj32=>?_))
 ·rintro _ _ ⟨x24,x30,hF,q28,rfl,rfl⟩
  unfold sA at hF
  refine go ?_ ?_
  refine sT (sS (aAd 0 [4,6,36] rfl q28 ⟨rfl,rfl,rfl,trivial⟩ rfl ?_))
  obtain rfl:=pZ hF
  exact rY (.inl rfl) Tryz.results186 (.tmp rfl (.tmp rfl .nil)) rfl rfl
 obtain⟨⟨x24',x30'⟩,hL,hRl31⟩:=aZ hF
 refine gB (fun k a w=>∃(x16:List Int),∃(x22:Int),∃(x23:Int),kR K a0 a1 k x16 x22 x23=some (x24',x30')∧x16.length=x1.length∧hs _ [hO cI b3 x1.length 3 x1.length x16] [(0,.vc (pS cI a0)),(1,.vc (pI .i64 a1)),(6,.vc (pO b3 x1.length x1.length)),(7,.vc (pI .i64 x22)),(8,.vc (pI .i64 x23))] a w) K (fun a w ⟨_,_,_,hF,_,_⟩=>by cases hF) (fun k a w ⟨x16,x22,x23,hF,q20,hh⟩=>gC ?_ hh) (fun a w hh=>⟨x1,0,v6,hL,rfl,gJ [0] hh⟩)
 rw [kR.eq_2] at hF
 refine go ?_ ?_
 refine aJ hF rfl (fun h33 hF=>?_) (fun h33 hF=>?_)
 ·refine go ?_ ?_
  refine aS ?_
  obtain⟨v34,h35,v36,h37,v38,h39,v42,h43,hF⟩:=bn4 hF
  obtain⟨v44,h45,v46,h47,x48,h49,hF⟩:=bn3 hF
  refine go ?_ ?_
  refine sF (HsM [(0,fun G40=>[hO cI b3 x1.length 3 x1.length x16]),(1,fun G40=>[hO cI b3 x1.length 3 x1.length x48])]) [9] [0,0,0,0,12,0,0,96,31,287,1023] 11 0 [.v (.vc (pO b3 x1.length x1.length)),.v (.vc (pI .i64 x23)),.v (.vc (pI .i64 v38)),.v (.vc (pI .i64 a1)),.v (.vc (pI .i64 v42)),.v (.vc (pI .i64 v38)),.v (.vc (pI .i64 a1)),.v (.vc (pI .i64 v44)),.v (.vc (pE b3 x23 cI.n 0)),.g (fun _ _=>.any),.v (.vc (pI .i64 v44))] bC ⟨d1 0 (bB (.inl rfl)) zU1,d1 0 (bB (.inl rfl)) zU1,d1 0 (bB (.inl rfl)) zU1,d1 0 (bB (.inl rfl)) zU1,d1 0 (aGi rfl h43) zU2,⟨rfl,.run (L:=[0,1]) ⟨fun G40 A=>bB (.inl rfl),fun G40 A=>bB (.inl rfl),trivial⟩ (fun G40=>zU1)⟩,⟨rfl,.run (L:=[0,1]) ⟨fun G40 A=>bB (.inl rfl),fun G40 A=>bB (.inl rfl),trivial⟩ (fun G40=>zU1)⟩,⟨rfl,.run (L:=[0,1]) ⟨fun G40 A=>aDx rfl h45,fun G40 A=>aDx rfl h45,trivial⟩ (fun G40=>zU2)⟩,d1 0 (gN (C:=cI) 0 rfl tyS22 rfl q20 (aN h47).1 (aN h47).2.1) zU2,⟨rfl,.hvy [0] ⟨fun G40 A=>aDu (xV 0 rfl rfl h47 h49 tyO3.s),trivial⟩ (fun G40=>zU2)⟩,d1 1 (bB (.inr rfl)) zU1,trivial⟩ (fun bs41 G40=>?_)
  obtain⟨v52,h53,hF⟩:=aZ hF
  refine go ?_ ?_
  exact aM (fun a w hh=>⟨x48,v44,v52,hF,(bK h49 q20),gJ [0] hh⟩)
 refine cR ?_
 obtain⟨rfl,rfl⟩:=sm2 hF
 exact qZ Jj32 ⟨x16,x22,hRl31,q20,rfl,rfl⟩ [0]
def rO (K:Nat) (a0:List Int) (x26:List Int) (x32:Int):Option (List Int):=
 (bL x26 (a0.length:Int)).bind fun v35=>(oO x26 (a0.length:Int) x32).bind fun x37=>some x37
def jW (K:Nat) (a0:List Int) (a1:Int):Nat→(List Int)→Int→Int→Option ((List Int)×Int)
 |0,_,_,_=>none
 |k+1,x18,x24,x25=>bif(decide (x25<(a0.length:Int))) then((bL a0 x25).bind fun v41=>(aT (v41*a1)).bind fun v43=>(aT (v43+x24)).bind fun v45=>(yK v45 1000000000).bind fun v47=>(zX v45 1000000000).bind fun v49=>(bL x18 x25).bind fun v51=>(oO x18 x25 v47).bind fun x53=>(aT (x25+1)).bind fun v56=>jW K a0 a1 k x53 v49 v56) else(some (x18,x24))
def nW (K:Nat) (a0:List Int) (a1:Int):Option (List Int):=
 (aT ((a0.length:Int)+1)).bind fun v3=>(yJ v3 0).bind fun x5=>(jW K a0 a1 K x5 0 0).bind fun(x26,x32)=>rO K a0 x26 x32
theorem aAI {K:Nat} {a0:List Int} {a1:Int} {r:List Int} (hF:nW K a0 a1=some r):CtO Tryz.prog 190 [] [.vc (pS cI a0),.vc (pI .i64 a1)] (fun Ho q=>∃b60 c61 n59,r.length=n59∧Ho=[hO cI b60 c61 3 n59 r]∧q=.vc (pO b60 n59 c61)):=by
 unfold nW at hF
 refine aG Tryz.func190 rfl (by kernel_rfl) Tryz.ntmps190 rfl (fun w0 M0=>?_)
 refine aK (aR (tV cI 3 rfl ?_))
 obtain⟨v3,h4,x5,h6,hF⟩:=wP hF
 refine go ?_ ?_
 refine uV (C:=cI) rfl tyS22 rfl tyZ3 rfl h6 (fun b7=>?_)
 refine go ?_ ?_
 refine aS (bV (fun H E=>∃(x26:List Int),∃(x32:Int),rO K a0 x26 x32=some r∧x26.length=x5.length∧H=[hO cI b7 x5.length 3 x5.length x26]∧E=[(0,.vc (pS cI a0)),(5,.vc (pO b7 x5.length x5.length)),(6,.vc (pI .i64 x32))]) ?_ (fun Jj34=>?_))
 ·rintro _ _ ⟨x26,x32,hF,q30,rfl,rfl⟩
  unfold rO at hF
  obtain⟨v35,h36,x37,h38,hF⟩:=wP hF
  refine go ?_ ?_
  refine sT (sS ?_)
  obtain rfl:=pZ hF
  exact aBR (.inl rfl) Tryz.results190 (.tmp rfl .nil) rfl [0] rfl (by decide) ⟨b7,x5.length,x5.length,(bK h38 q30),rfl,rfl⟩
 obtain⟨⟨x26',x32'⟩,hL,hRl33⟩:=aZ hF
 refine gB (fun k a w=>∃(x18:List Int),∃(x24:Int),∃(x25:Int),jW K a0 a1 k x18 x24 x25=some (x26',x32')∧x18.length=x5.length∧hs _ [hO cI b7 x5.length 3 x5.length x18] [(0,.vc (pS cI a0)),(1,.vc (pI .i64 a1)),(5,.vc (pO b7 x5.length x5.length)),(6,.vc (pI .i64 x24)),(14,.vc (pS cI a0)),(15,.vc (pI .i64 (a0.length:Int))),(16,.vc (pI .i64 x25))] a w) K (fun a w ⟨_,_,_,hF,_,_⟩=>by cases hF) (fun k a w ⟨x18,x24,x25,hF,q22,hh⟩=>gC ?_ hh) (fun a w hh=>⟨x5,0,0,hL,rfl,gJ [0] hh⟩)
 rw [jW.eq_2] at hF
 refine go ?_ ?_
 refine aJ hF rfl (fun h40 hF=>?_) (fun h40 hF=>?_)
 ·refine go ?_ ?_
  refine aS ?_
  obtain⟨v41,h42,v43,h44,v45,h46,v47,h48,hF⟩:=bn4 hF
  obtain⟨v49,h50,v51,h52,x53,h54,v56,h57,hF⟩:=bn4 hF
  refine go ?_ ?_
  exact aM (fun a w hh=>⟨x53,v49,v56,hF,(bK h54 q22),gJ [0] hh⟩)
 refine cR ?_
 obtain⟨rfl,rfl⟩:=sm2 hF
 exact qZ Jj34 ⟨x18,x24,hRl33,q22,rfl,rfl⟩ [0]
theorem aEt {K:Nat} {a0:List Int} {a1:Int} {r:List Int} (hF:nW K a0 a1=some r):Ct Tryz.prog 190 [.vc (pS cI a0),.vc (pI .i64 a1)] (.vc (pS cI r)):=aTy (aAI hF)
def tK (K:Nat) (a1:List Int) (v7:Int) (x60:List Int) (x66:List Int):Option ((List Int)×(List Int)):=
 (slL x66 0 (a1.length:Int)).bind fun x74=>(rA K x74 v7).bind fun v76=>some (x60,v76.1)
def sG (K:Nat) (a1:List Int) (x47:List Int) (x59:Int) (v157:Int) (recl72:(List Int)→(List Int)→Int→Option ((List Int)×(List Int))) (x175:List Int) (x181:Int):Option ((List Int)×(List Int)):=
 (aT (x59+(a1.length:Int))).bind fun v184=>(bL x175 v184).bind fun v186=>(aT (v186+x181)).bind fun v188=>(bL x175 v184).bind fun v190=>(oO x175 v184 v188).bind fun x192=>(bL x47 x59).bind fun v195=>(oO x47 x59 v157).bind fun x197=>(aT (x59-1)).bind fun v200=>recl72 x197 x192 v200
def iW (K:Nat) (a1:List Int) (x17:List Int) (x59:Int):Nat→(List Int)→Int→Int→Option ((List Int)×Int)
 |0,_,_,_=>none
 |k+1,x167,x173,x174=>bif(decide (x174<(a1.length:Int))) then((aT (x174+x59)).bind fun v205=>(bL x167 v205).bind fun v207=>(bL x17 x174).bind fun v209=>(aT (v207+v209)).bind fun v211=>(aT (v211+x173)).bind fun v213=>(aT (x174+x59)).bind fun v215=>(yK v213 1000000000).bind fun v217=>(zX v213 1000000000).bind fun v219=>(bL x167 v215).bind fun v221=>(oO x167 v215 v217).bind fun x223=>(aT (x174+1)).bind fun v226=>iW K a1 x17 x59 k x223 v219 v226) else(some (x167,x173))
def pK (K:Nat) (a1:List Int) (x17:List Int) (x47:List Int) (x59:Int) (x113:Int) (recl72:(List Int)→(List Int)→Int→Option ((List Int)×(List Int))) (x132:List Int) (x138:Int):Option ((List Int)×(List Int)):=
 (aT (x59+(a1.length:Int))).bind fun v141=>(bL x132 v141).bind fun v143=>(aT (v143-x138)).bind fun v145=>(bL x132 v141).bind fun v147=>(oO x132 v141 v145).bind fun x149=>(aT (x59+(a1.length:Int))).bind fun v152=>(bL x149 v152).bind fun v154=>bif(decide (v154<0)) then((aT (x113-1)).bind fun v157=>(iW K a1 x17 x59 K x149 0 0).bind fun(x175,x181)=>sG K a1 x47 x59 v157 recl72 x175 x181) else((bL x47 x59).bind fun v228=>(oO x47 x59 x113).bind fun x230=>(aT (x59-1)).bind fun v233=>recl72 x230 x149 v233)
def fG (K:Nat) (a1:List Int) (x17:List Int) (x59:Int) (x113:Int):Nat→(List Int)→Int→Int→Option ((List Int)×Int)
 |0,_,_,_=>none
 |k+1,x124,x130,x131=>bif(decide (x131<(a1.length:Int))) then((aT (x131+x59)).bind fun v238=>(bL x124 v238).bind fun v240=>(bL x17 x131).bind fun v242=>(aT (x113*v242)).bind fun v244=>(aT (v240-v244)).bind fun v246=>(aT (v246-x130)).bind fun v248=>bif(decide (v248<0)) then((aT (-v248)).bind fun v251=>(aT (v251+1000000000)).bind fun v253=>(aT (v253-1)).bind fun v255=>(zX v255 1000000000).bind fun v257=>(aT (v257*1000000000)).bind fun v259=>(aT (v248+v259)).bind fun v261=>(aT (x131+x59)).bind fun v263=>(bL x124 v263).bind fun v265=>(oO x124 v263 v261).bind fun x267=>(aT (x131+1)).bind fun v270=>fG K a1 x17 x59 x113 k x267 v257 v270) else((aT (x131+x59)).bind fun v272=>(bL x124 v272).bind fun v274=>(oO x124 v272 v248).bind fun x276=>(aT (x131+1)).bind fun v279=>fG K a1 x17 x59 x113 k x276 0 v279)) else(some (x124,x130))
def pG (K:Nat) (a1:List Int) (x17:List Int) (x47:List Int) (x53:List Int) (x59:Int) (recl72:(List Int)→(List Int)→Int→Option ((List Int)×(List Int))) (x113:Int):Option ((List Int)×(List Int)):=
 (fG K a1 x17 x59 x113 K x53 0 0).bind fun(x132,x138)=>pK K a1 x17 x47 x59 x113 recl72 x132 x138
def eK (K:Nat) (a1:List Int) (x17:List Int) (x53:List Int) (x59:Int):Nat→Int→Int→Option Int
 |0,_,_=>none
 |k+1,x111,x112=>bif(decide (1000000000≤x111)) then((aT (x111-1)).bind fun v284=>(aT ((a1.length:Int)-1)).bind fun v286=>(bL x17 v286).bind fun v288=>(aT (x112+v288)).bind fun v290=>bif(decide (1000000000≤v290)) then(some v284) else(eK K a1 x17 x53 x59 k v284 v290)) else((aT ((a1.length:Int)-2)).bind fun v293=>(bL x17 v293).bind fun v295=>(aT (x111*v295)).bind fun v297=>(aT (x112*1000000000)).bind fun v299=>(aT (x59+(a1.length:Int))).bind fun v301=>(aT (v301-2)).bind fun v303=>(bL x53 v303).bind fun v305=>(aT (v299+v305)).bind fun v307=>bif(decide (v307<v297)) then((aT (x111-1)).bind fun v310=>(aT ((a1.length:Int)-1)).bind fun v312=>(bL x17 v312).bind fun v314=>(aT (x112+v314)).bind fun v316=>bif(decide (1000000000≤v316)) then(some v310) else(eK K a1 x17 x53 x59 k v310 v316)) else(some x111))
def eV (K:Nat) (a1:List Int) (x17:List Int):Nat→(List Int)→(List Int)→Int→Option ((List Int)×(List Int))
 |0,_,_,_=>none
 |k+1,x47,x53,x59=>bif(decide (0≤x59)) then((aT (x59+(a1.length:Int))).bind fun v81=>(bL x53 v81).bind fun v83=>(aT (v83*1000000000)).bind fun v85=>(aT (x59+(a1.length:Int))).bind fun v87=>(aT (v87-1)).bind fun v89=>(bL x53 v89).bind fun v91=>(aT (v85+v91)).bind fun v93=>(aT ((a1.length:Int)-1)).bind fun v97=>(bL x17 v97).bind fun v99=>(zX v93 v99).bind fun v101=>(aT ((a1.length:Int)-1)).bind fun v103=>(bL x17 v103).bind fun v105=>(yK v93 v105).bind fun v107=>(eK K a1 x17 x53 x59 K v101 v107).bind fun x113=>pG K a1 x17 x47 x53 x59 (eV K a1 x17 k) x113) else(some (x47,x53))
def uT (K:Nat) (a0:List Int) (a1:List Int):Option ((List Int)×(List Int)):=
 (aT ((a1.length:Int)-1)).bind fun v1=>(bL a1 v1).bind fun v3=>(aT (v3+1)).bind fun v5=>(zX 1000000000 v5).bind fun v7=>(nW K a0 v7).bind fun v11=>(nW K a1 v7).bind fun v15=>(slL v15 0 (a1.length:Int)).bind fun x17=>(aT ((a0.length:Int)-(a1.length:Int))).bind fun v23=>(aT (v23+1)).bind fun v25=>(yJ v25 0).bind fun x27=>(aT ((a0.length:Int)-(a1.length:Int))).bind fun v32=>(eV K a1 x17 K x27 v11 v32).bind fun(x60,x66)=>tK K a1 v7 x60 x66
theorem aFy {K:Nat} {a0:List Int} {a1:List Int} {r:(List Int)×(List Int)} (hF:uT K a0 a1=some r):Ct Tryz.prog 187 [.vc (pS cI a0),.vc (pS cI a1)] (.t2 (.vc (pS cI r.1)) (.vc (pS cI r.2))):=by
 unfold uT at hF
 refine aG Tryz.func187 rfl (by kernel_rfl) Tryz.ntmps187 rfl (fun w0 M0=>?_)
 refine aK (aR (aQ (bB (.inr rfl)) ⟨dA cI,trivial⟩ ?_))
 refine aQ (bB (.inr rfl)) ⟨dA cI,trivial⟩ ?_
 obtain⟨v1,h2,v3,h4,v5,h6,v7,h8,hF⟩:=bn4 hF
 obtain⟨v11,h12,hF⟩:=aZ hF
 obtain⟨v15,h16,hF⟩:=bF hF aEt
 obtain⟨x17,h18,hF⟩:=aZ hF
 refine go ?_ ?_
 refine sF (HsM [(0,fun G9=>[]),(1,fun G9=>[hO cI ((G9 2).1) ((G9 2).2) 3 v11.length v11]),(3,fun G9=>[hO cI ((G9 9).1) ((G9 9).2) 3 v11.length v11])]) [2,9] [0,0,3,0,0,31,0,64,255,63,1023] 11 0 [.v (.vc (pS cI a0)),.v (.vc (pI .i64 v7)),.g (fun b c=>.vc (pO b v11.length c)),.v (.vc (pS cI a1)),.v (.vc (pI .i64 v7)),.v (.vc (pS cI v15)),.v (.vc (pS cI a1)),.v (.vc (pI .i64 (a1.length:Int))),.v (.vc (pS cI x17)),.g (fun b c=>.vc (pO b v11.length c)),.v (.vc (pS cI x17))] bC ⟨d1 0 (bB (.inl rfl)) zU1,d1 0 (bB (.inl rfl)) zU1,⟨rfl,.hvy [0] ⟨fun G9 A=>aMy rfl (aAI h12) rfl,trivial⟩ (fun G9=>zU2)⟩,⟨rfl,.run (L:=[0,1]) ⟨fun G9 A=>bB (.inl rfl),fun G9 A=>bB (.inl rfl),trivial⟩ (fun G9=>zU1)⟩,⟨rfl,.run (L:=[0,1]) ⟨fun G9 A=>bB (.inl rfl),fun G9 A=>bB (.inl rfl),trivial⟩ (fun G9=>zU1)⟩,d1 1 (cS rfl h16 rfl) zU2,⟨rfl,.run (L:=[0,1,3]) ⟨fun G9 A=>bB (.inl rfl),fun G9 A=>bB (.inl rfl),fun G9 A=>bB (.inl rfl),trivial⟩ (fun G9=>zU1)⟩,⟨rfl,.run (L:=[0,1,3]) ⟨fun G9 A=>uN rfl tyS22,fun G9 A=>uN rfl tyS22,fun G9 A=>uN rfl tyS22,trivial⟩ (fun G9=>zU1)⟩,⟨rfl,.run (L:=[1,3]) ⟨fun G9 A=>aIr rfl tyS22 h18,fun G9 A=>aIr rfl tyS22 h18,trivial⟩ (fun G9=>zU2)⟩,⟨rfl,.hvy [1] ⟨fun G9 A=>aR3 ((G9 2).1) ((G9 2).2) (bB (.inr rfl)),trivial⟩ (fun G9=>zU1)⟩,d1 3 (bB (.inr rfl)) zU1,trivial⟩ (fun bs10 G9=>?_)
 obtain⟨v23,h24,v25,h26,x27,h28,hF⟩:=bn3 hF
 refine go ?_ ?_
 refine uV (C:=cI) rfl tyS22 rfl tyZ3 rfl h28 (fun b29=>?_)
 have hF:=sE h24 hF
 refine go ?_ ?_
 refine aS (bV (fun H E=>∃(x60:List Int),∃(x66:List Int),tK K a1 v7 x60 x66=some r∧x60.length=x27.length∧x66.length=v11.length∧H=[hO cI b29 x27.length 3 x27.length x60,hO cI ((G9 9).1) ((G9 9).2) 3 v11.length x66]∧E=[(6,.vc (pI .i64 v7)),(7,.vc (pO ((G9 9).1) v11.length ((G9 9).2))),(9,.vc (pI .i64 (a1.length:Int))),(10,.vc (pO b29 x27.length x27.length))]) ?_ (fun Jj73=>?_))
 ·rintro _ _ ⟨x60,x66,hF,q64,q70,rfl,rfl⟩
  unfold tK at hF
  refine aU (aK (aR (lH ?_)))
  refine lH ?_
  refine zQ 1 [7,213] rfl q70 zU2 rfl ?_
  obtain⟨x74,h75,hF⟩:=aZ hF
  obtain⟨v76,h77,hF⟩:=bF hF aBi
  refine go ?_ ?_
  refine sT (sS (aAd 0 [4,10,220] rfl q64 ⟨rfl,rfl,rfl,trivial⟩ rfl ?_))
  obtain rfl:=pZ hF
  exact rY (.inl rfl) Tryz.results187 (.tmp rfl (.tmp rfl .nil)) rfl rfl
 obtain⟨⟨x60',x66'⟩,hL,hRl72⟩:=aZ hF
 refine gB (fun k a w=>∃(x47:List Int),∃(x53:List Int),∃(x59:Int),eV K a1 x17 k x47 x53 x59=some (x60',x66')∧x47.length=x27.length∧x53.length=v11.length∧hs _ [hO cI b29 x27.length 3 x27.length x47,hO cI ((G9 9).1) ((G9 9).2) 3 v11.length x53] [(6,.vc (pI .i64 v7)),(7,.vc (pO ((G9 9).1) v11.length ((G9 9).2))),(8,.vc (pS cI x17)),(9,.vc (pI .i64 (a1.length:Int))),(10,.vc (pO b29 x27.length x27.length)),(11,.vc (pI .i64 x59))] a w) K (fun a w ⟨_,_,_,hF,_,_,_⟩=>by cases hF) (fun k a w ⟨x47,x53,x59,hF,q51,q57,hh⟩=>gC ?_ hh) (fun a w hh=>⟨x27,v11,v23,hL,rfl,rfl,gJ [0,1] hh⟩)
 rw [eV.eq_2] at hF
 refine go ?_ ?_
 refine aJ hF rfl (fun h78 hF=>?_) (fun h78 hF=>?_)
 ·refine go ?_ ?_
  refine aS (aLR (aK ?_))
  obtain⟨v81,h82,hF⟩:=aZ hF
  obtain⟨v83,h84,hF⟩:=aZ hF
  obtain⟨v85,h86,hF⟩:=aZ hF
  have hF:=sE h82 hF
  obtain⟨v89,h90,hF⟩:=aZ hF
  obtain⟨v91,h92,hF⟩:=aZ hF
  obtain⟨v93,h94,hF⟩:=aZ hF
  refine dr [0,0,0,6,15,31,63,0,0,0,768,1792,3968,8064,16383,32767] 16 0 ?_ (fun bs80 G79=>?_)
  have hF:=sE h2 hF
  obtain⟨v99,h100,v101,h102,hF⟩:=wP hF
  have hF:=sE h2 hF
  have hF:=sE h100 hF
  obtain⟨v107,h108,hF⟩:=aZ hF
  refine go ?_ ?_
  refine dr [0,0,0,4,14,30,63,0,0,0,512,1792,3840,8064,127,32767] 16 0 ?_ (fun bs96 G95=>?_)
  refine go ?_ ?_
  refine aS (bV (fun H E=>∃(x113:Int),pG K a1 x17 x47 x53 x59 (eV K a1 x17 k) x113=some (x60',x66')∧H=[hO cI b29 x27.length 3 x27.length x47,hO cI ((G9 9).1) ((G9 9).2) 3 v11.length x53]∧E=[(6,.vc (pI .i64 v7)),(7,.vc (pO ((G9 9).1) v11.length ((G9 9).2))),(8,.vc (pS cI x17)),(9,.vc (pI .i64 (a1.length:Int))),(10,.vc (pO b29 x27.length x27.length)),(11,.vc (pI .i64 x59)),(13,.vc (pI .i64 x113))]) ?_ (fun Jj115=>?_))
  ·rintro _ _ ⟨x113,hF,rfl,rfl⟩
   unfold pG at hF
   refine go ?_ ?_
   refine aS (bV (fun H E=>∃(x132:List Int),∃(x138:Int),pK K a1 x17 x47 x59 x113 (eV K a1 x17 k) x132 x138=some (x60',x66')∧x132.length=v11.length∧H=[hO cI b29 x27.length 3 x27.length x47,hO cI ((G9 9).1) ((G9 9).2) 3 v11.length x132]∧E=[(6,.vc (pI .i64 v7)),(7,.vc (pO ((G9 9).1) v11.length ((G9 9).2))),(8,.vc (pS cI x17)),(9,.vc (pI .i64 (a1.length:Int))),(10,.vc (pO b29 x27.length x27.length)),(11,.vc (pI .i64 x59)),(13,.vc (pI .i64 x113)),(15,.vc (pI .i64 x138))]) ?_ (fun Jj140=>?_))
   ·rintro _ _ ⟨x132,x138,hF,q136,rfl,rfl⟩
    unfold pK at hF
    have hF:=sE h82 hF
    obtain⟨v143,h144,v145,h146,hF⟩:=wP hF
    have hF:=sE h144 hF
    obtain⟨x149,h150,hF⟩:=aZ hF
    have hF:=sE h82 hF
    obtain⟨v154,h155,hF⟩:=aZ hF
    refine go ?_ ?_
    refine aJ hF rfl (fun h156 hF=>?_) (fun h156 hF=>?_)
    ·obtain⟨v157,h158,hF⟩:=aZ hF
     refine go ?_ ?_
     refine aS (bV (fun H E=>∃(x175:List Int),∃(x181:Int),sG K a1 x47 x59 v157 (eV K a1 x17 k) x175 x181=some (x60',x66')∧x175.length=v11.length∧H=[hO cI b29 x27.length 3 x27.length x47,hO cI ((G9 9).1) ((G9 9).2) 3 v11.length x175]∧E=[(6,.vc (pI .i64 v7)),(7,.vc (pO ((G9 9).1) v11.length ((G9 9).2))),(8,.vc (pS cI x17)),(9,.vc (pI .i64 (a1.length:Int))),(10,.vc (pO b29 x27.length x27.length)),(11,.vc (pI .i64 x59)),(13,.vc (pI .i64 v157)),(15,.vc (pI .i64 x181))]) ?_ (fun Jj183=>?_))
     ·rintro _ _ ⟨x175,x181,hF,q179,rfl,rfl⟩
      unfold sG at hF
      have hF:=sE h82 hF
      obtain⟨v186,h187,v188,h189,hF⟩:=wP hF
      have hF:=sE h187 hF
      obtain⟨x192,h193,v195,h196,x197,h198,v200,h201,hF⟩:=bn4 hF
      refine go ?_ ?_
      exact aM (fun a w hh=>⟨x197,x192,v200,hF,(bK h198 q51),(bK h193 q179),gJ [0,1] hh⟩)
     obtain⟨⟨x175',x181'⟩,hL,hRl182⟩:=aZ hF
     refine gB (fun k a w=>∃(x167:List Int),∃(x173:Int),∃(x174:Int),iW K a1 x17 x59 k x167 x173 x174=some (x175',x181')∧x167.length=v11.length∧hs _ [hO cI b29 x27.length 3 x27.length x47,hO cI ((G9 9).1) ((G9 9).2) 3 v11.length x167] [(6,.vc (pI .i64 v7)),(7,.vc (pO ((G9 9).1) v11.length ((G9 9).2))),(8,.vc (pS cI x17)),(9,.vc (pI .i64 (a1.length:Int))),(10,.vc (pO b29 x27.length x27.length)),(11,.vc (pI .i64 x59)),(13,.vc (pI .i64 v157)),(15,.vc (pI .i64 x173)),(172,.vc (pI .i64 (a1.length:Int))),(173,.vc (pI .i64 x174))] a w) K (fun a w ⟨_,_,_,hF,_,_⟩=>by cases hF) (fun k a w ⟨x167,x173,x174,hF,q171,hh⟩=>gC ?_ hh) (fun a w hh=>⟨x149,0,0,hL,(bK h150 q136),gJ [0,1] hh⟩)
     rw [iW.eq_2] at hF
     refine go ?_ ?_
     refine aJ hF rfl (fun h202 hF=>?_) (fun h202 hF=>?_)
     ·refine go ?_ ?_
      refine aS ?_
      obtain⟨v205,h206,v207,h208,v209,h210,v211,h212,hF⟩:=bn4 hF
      obtain⟨v213,h214,hF⟩:=aZ hF
      refine go ?_ ?_
      refine dr [0,0,0,6,15,31,0,0,192,448,1023,0,4095,8191] 14 0 ?_ (fun bs204 G203=>?_)
      have hF:=sE h206 hF
      obtain⟨v217,h218,v219,h220,hF⟩:=wP hF
      have hF:=sE h208 hF
      obtain⟨x223,h224,v226,h227,hF⟩:=wP hF
      refine go ?_ ?_
      exact aM (fun a w hh=>⟨x223,v219,v226,hF,(bK h224 q171),gJ [0,1] hh⟩)
     refine cR ?_
     obtain⟨rfl,rfl⟩:=sm2 hF
     exact qZ Jj183 ⟨x167,x173,hRl182,q171,rfl,rfl⟩ [0,1]
    obtain⟨v228,h229,x230,h231,v233,h234,hF⟩:=bn3 hF
    refine go ?_ ?_
    exact aM (fun a w hh=>⟨x230,x149,v233,hF,(bK h231 q51),(bK h150 q136),gJ [0,1] hh⟩)
   obtain⟨⟨x132',x138'⟩,hL,hRl139⟩:=aZ hF
   refine gB (fun k a w=>∃(x124:List Int),∃(x130:Int),∃(x131:Int),fG K a1 x17 x59 x113 k x124 x130 x131=some (x132',x138')∧x124.length=v11.length∧hs _ [hO cI b29 x27.length 3 x27.length x47,hO cI ((G9 9).1) ((G9 9).2) 3 v11.length x124] [(6,.vc (pI .i64 v7)),(7,.vc (pO ((G9 9).1) v11.length ((G9 9).2))),(8,.vc (pS cI x17)),(9,.vc (pI .i64 (a1.length:Int))),(10,.vc (pO b29 x27.length x27.length)),(11,.vc (pI .i64 x59)),(13,.vc (pI .i64 x113)),(15,.vc (pI .i64 x130)),(117,.vc (pI .i64 (a1.length:Int))),(118,.vc (pI .i64 x131))] a w) K (fun a w ⟨_,_,_,hF,_,_⟩=>by cases hF) (fun k a w ⟨x124,x130,x131,hF,q128,hh⟩=>gC ?_ hh) (fun a w hh=>⟨x53,0,0,hL,q57,gJ [0,1] hh⟩)
   rw [fG.eq_2] at hF
   refine go ?_ ?_
   refine aJ hF rfl (fun h235 hF=>?_) (fun h235 hF=>?_)
   ·refine go ?_ ?_
    refine aS ?_
    obtain⟨v238,h239,v240,h241,v242,h243,v244,h245,hF⟩:=bn4 hF
    obtain⟨v246,h247,v248,h249,hF⟩:=wP hF
    refine go ?_ ?_
    refine dr [0,0,0,6,15,31,0,0,0,384,896,1984,4095,0,16383,32767] 16 0 ?_ (fun bs237 G236=>?_)
    refine go ?_ ?_
    refine aJ hF rfl (fun h250 hF=>?_) (fun h250 hF=>?_)
    ·obtain⟨v251,h252,v253,h254,v255,h256,v257,h258,hF⟩:=bn4 hF
     obtain⟨v259,h260,v261,h262,hF⟩:=wP hF
     have hF:=sE h239 hF
     have hF:=sE h241 hF
     obtain⟨x267,h268,v270,h271,hF⟩:=wP hF
     refine go ?_ ?_
     exact aM (fun a w hh=>⟨x267,v257,v270,hF,(bK h268 q128),gJ [0,1] hh⟩)
    have hF:=sE h239 hF
    have hF:=sE h241 hF
    obtain⟨x276,h277,v279,h280,hF⟩:=wP hF
    refine go ?_ ?_
    exact aM (fun a w hh=>⟨x276,0,v279,hF,(bK h277 q128),gJ [0,1] hh⟩)
   refine cR ?_
   obtain⟨rfl,rfl⟩:=sm2 hF
   exact qZ Jj140 ⟨x124,x130,hRl139,q128,rfl,rfl⟩ [0,1]
  obtain⟨x113',hL,hRl114⟩:=aZ hF
  refine gB (fun k a w=>∃(x111:Int),∃(x112:Int),eK K a1 x17 x53 x59 k x111 x112=some x113'∧hs _ [hO cI b29 x27.length 3 x27.length x47,hO cI ((G9 9).1) ((G9 9).2) 3 v11.length x53] [(6,.vc (pI .i64 v7)),(7,.vc (pO ((G9 9).1) v11.length ((G9 9).2))),(8,.vc (pS cI x17)),(9,.vc (pI .i64 (a1.length:Int))),(10,.vc (pO b29 x27.length x27.length)),(11,.vc (pI .i64 x59)),(13,.vc (pI .i64 x111)),(14,.vc (pI .i64 x112))] a w) K (fun a w ⟨_,_,hF,_⟩=>by cases hF) (fun k a w ⟨x111,x112,hF,hh⟩=>gC ?_ hh) (fun a w hh=>⟨v101,v107,hL,gJ [0,1] hh⟩)
  rw [eK.eq_2] at hF
  refine aK (aK ?_)
  rcases Bool.eq_false_or_eq_true (decide (1000000000≤x111)) with h283|h283
  ·have hF:=aAU h283 hF
   refine drb [0,1,3,7,7,7,39,119,247,511,7,1031,7,7,7,24583,57351,126983,258055,523271,1048575,2097151] 22 0 ?_ (fun bs282 G281=>?_)
   refine bT (aU (oU rfl ?_))
   refine iP (aU (aS ?_))
   obtain⟨v284,h285,hF⟩:=aZ hF
   have hF:=sE h2 hF
   have hF:=sE h100 hF
   obtain⟨v290,h291,hF⟩:=aZ hF
   refine go ?_ ?_
   refine aJ hF rfl (fun h292 hF=>?_) (fun h292 hF=>?_)
   ·refine cR ?_
    obtain rfl:=pZ hF
    exact qZ Jj115 ⟨v284,hRl114,rfl,rfl⟩ [0,1]
   refine iP (aA6 ?_)
   exact aM (fun a w hh=>⟨v284,v290,hF,gJ [0,1] hh⟩)
  have hF:=aA2 h283 hF
  obtain⟨v293,h294,hF⟩:=aZ hF
  obtain⟨v295,h296,hF⟩:=aZ hF
  obtain⟨v297,h298,hF⟩:=aZ hF
  obtain⟨v299,h300,hF⟩:=aZ hF
  have hF:=sE h82 hF
  obtain⟨v303,h304,hF⟩:=aZ hF
  obtain⟨v305,h306,hF⟩:=aZ hF
  obtain⟨v307,h308,hF⟩:=aZ hF
  refine drb [0,1,3,7,7,7,39,119,247,511,7,1031,7,7,7,24583,57351,126983,258055,523271,1048575,2097151] 22 0 ?_ (fun bs282 G281=>?_)
  refine bT (aU (aJ hF rfl (fun h309 hF=>?_) (fun h309 hF=>?_)))
  ·refine iP (aU (aS ?_))
   obtain⟨v310,h311,hF⟩:=aZ hF
   have hF:=sE h2 hF
   have hF:=sE h100 hF
   obtain⟨v316,h317,hF⟩:=aZ hF
   refine go ?_ ?_
   refine aJ hF rfl (fun h318 hF=>?_) (fun h318 hF=>?_)
   ·refine cR ?_
    obtain rfl:=pZ hF
    exact qZ Jj115 ⟨v310,hRl114,rfl,rfl⟩ [0,1]
   refine iP (aA6 ?_)
   exact aM (fun a w hh=>⟨v310,v316,hF,gJ [0,1] hh⟩)
  refine cR ?_
  obtain rfl:=pZ hF
  exact qZ Jj115 ⟨x111,hRl114,rfl,rfl⟩ [0,1]
 refine cR ?_
 obtain⟨rfl,rfl⟩:=sm2 hF
 exact qZ Jj73 ⟨x47,x53,hRl72,q51,q57,rfl,rfl⟩ [0,1]
def mM (K:Nat) (a0:List Int) (a1:List Int):Option (aH×aH):=
 (fR K a0 a1).bind fun v5=>bif(decide (v5<0)) then((eN K false a0).bind fun v8=>some ((⟨false,([]:List Int)⟩:aH),v8)) else(bif((a1.length:Int)==1) then((bL a1 0).bind fun v11=>(rA K a0 v11).bind fun v13=>(eN K false v13.1).bind fun v15=>(eY false (IntKind.u64.wrap v13.2)).bind fun v17=>some (v15,v17)) else((uT K a0 a1).bind fun v19=>(eN K false v19.1).bind fun v21=>(eN K false v19.2).bind fun v23=>some (v21,v23)))
def nP (K:Nat) (a0:List Int) (a1:List Int):Option (aH×aH):=
 (pY a0).bind fun v25=>bif v25.2 then((pY a1).bind fun v28=>bif v28.2 then((zX v25.1 v28.1).bind fun v33=>(eY false (IntKind.u64.wrap v33)).bind fun v35=>(yK v25.1 v28.1).bind fun v37=>(eY false (IntKind.u64.wrap v37)).bind fun v39=>some (v35,v39)) else(mM K a0 a1)) else(mM K a0 a1)
theorem xY {K:Nat} {a0:List Int} {a1:List Int} {r:aH×aH} (hF:nP K a0 a1=some r):Ct Tryz.prog 168 [.vc (pS cI a0),.vc (pS cI a1)] (.t2 (.va (aH.e r.1)) (.va (aH.e r.2))):=by
 unfold nP at hF
 refine aG Tryz.func168 rfl (by kernel_rfl) Tryz.ntmps168 rfl (fun w0 M0=>?_)
 refine aK (aR (aO rfl tyZ30 (fun b1=>?_)))
 refine aO rfl tyZ30 (fun b2=>?_)
 refine bT (aU (aK (xZ (fun H E=>mM K a0 a1=some r∧H=[⟨some b2,1,30,2,1,([pB false]++[pS cI ([]:List Int)])⟩,⟨some b1,1,30,2,1,([pB false]++[pS cI ([]:List Int)])⟩]∧E=[(0,.vc (pS cI a0)),(1,.vc (pS cI a1)),(4,.vc (pP (some b1) 0)),(5,.vc (pP (some b2) 0))]) ?_ (fun Jj4=>?_))))
 ·rintro _ _ ⟨hF,rfl,rfl⟩
  unfold mM at hF
  obtain⟨v5,h6,hF⟩:=bF hF nV
  refine go ?_ ?_
  refine aJ hF rfl (fun h7 hF=>?_) (fun h7 hF=>?_)
  ·refine aK (aR (aQ (dY (is:=[]) (xs:=[]) (ps:=[]) rfl tyB30 rfl rfl trivial rfl) trivial ?_))
   obtain⟨v8,h9,hF⟩:=bF hF iS
   exact cF
  refine go ?_ ?_
  refine aJ hF rfl (fun h10 hF=>?_) (fun h10 hF=>?_)
  ·obtain⟨v11,h12,hF⟩:=aZ hF
   obtain⟨v13,h14,hF⟩:=bF hF aBi
   obtain⟨v15,h16,hF⟩:=bF hF iS
   refine go ?_ ?_
   refine aQ (aER rfl ⟨_,Tryz.underlying3⟩ Tryz.underlying164) zU1 ?_
   obtain⟨v17,h18,hF⟩:=bF hF kO
   exact cF
  obtain⟨v19,h20,hF⟩:=bF hF aFy
  obtain⟨v21,h22,hF⟩:=bF hF iS
  obtain⟨v23,h24,hF⟩:=bF hF iS
  exact cF
 obtain⟨v25,h26,hF⟩:=bF hF xQ
 refine go ?_ ?_
 refine aJ hF rfl (fun h27 hF=>?_) (fun h27 hF=>?_)
 ·obtain⟨v28,h29,hF⟩:=bF hF xQ
  refine go ?_ ?_
  refine aJ hF rfl (fun h30 hF=>?_) (fun h30 hF=>?_)
  ·refine aK ?_
   obtain⟨v33,h34,hF⟩:=aZ hF
   obtain⟨v35,h36,hF⟩:=bF hF kO
   obtain⟨v37,h38,hF⟩:=aZ hF
   obtain⟨v39,h40,hF⟩:=bF hF kO
   refine gT [0,0,3,7,15,0,0,96,224,511,1023,2047] 10 2 [.v (.vc (pI .i64 v25.1)),.v (.vc (pI .i64 v28.1)),.v (.vc (pI .i64 v33)),.v (.vc (pI .u64 (IntKind.u64.wrap v33))),.v (.va (aH.e v35)),.v (.vc (pI .i64 v25.1)),.v (.vc (pI .i64 v28.1)),.v (.vc (pI .i64 v37)),.v (.vc (pI .u64 (IntKind.u64.wrap v37))),.v (.va (aH.e v39))] bC ⟨d0 (bB (.inl rfl)) zU1,d0 (bB (.inl rfl)) zU1,d0 (aGi rfl h34) zU2,⟨rfl,.run (L:=[0]) ⟨fun G31 A=>aER rfl ⟨_,Tryz.underlying3⟩ Tryz.underlying164,trivial⟩ (fun G31=>zU1)⟩,d0 (cS rfl h36 rfl) ⟨k_B _,rfl,trivial⟩,d0 (bB (.inl rfl)) zU1,d0 (bB (.inl rfl)) zU1,d0 (aDx rfl h38) zU2,⟨rfl,.run (L:=[0]) ⟨fun G31 A=>aER rfl ⟨_,Tryz.underlying3⟩ Tryz.underlying164,trivial⟩ (fun G31=>zU1)⟩,d0 (cS rfl h40 rfl) ⟨k_B _,rfl,trivial⟩,trivial⟩ (fun bs32 G31=>?_)
   exact cF
  refine iP ?_
  exact qZ Jj4 ⟨hF,rfl,rfl⟩ [0,1]
 refine iP ?_
 exact qZ Jj4 ⟨hF,rfl,rfl⟩ [0,1]
def xU (K:Nat) (x14:aH):Option aH:=
 some x14
def uB (K:Nat) (x28:Int):Option (LR aH aH):=
 (eY false (IntKind.u64.wrap x28)).bind fun v31=>some (.ret v31)
def kT (K:Nat):Nat→Int→Int→Option Int
 |0,_,_=>none
 |k+1,x26,x27=>bif(decide (0<x27)) then((yK x26 x27).bind fun v36=>kT K k x27 v36) else(some x26)
def jD (K:Nat):Nat→aH→aH→Option (LR aH aH)
 |0,_,_=>none
 |k+1,x12,x13=>bif(decide (0<(x13.d.length:Int))) then((pY x12.d).bind fun v18=>(pY x13.d).bind fun v20=>bif v18.2 then(bif v20.2 then((kT K K v18.1 v20.1).bind fun x28=>uB K x28) else((nP K x12.d x13.d).bind fun v38=>jD K k x13 v38.2)) else((nP K x12.d x13.d).bind fun v44=>jD K k x13 v44.2)) else(some (.go x12))
def tQ (K:Nat) (a0:aH) (a1:aH):Option aH:=
 (eN K false a0.d).bind fun v6=>(eN K false a1.d).bind fun v8=>(jD K K v6 v8).bind fun o=>match o with| .ret r=>some r| .go x14=>xU K x14
theorem aCM {K:Nat} {a0:aH} {a1:aH} {r:aH} (hF:tQ K a0 a1=some r):Ct Tryz.prog 122 [.va (aH.e a0),.va (aH.e a1)] (.va (aH.e r)):=by
 unfold tQ at hF
 refine aG Tryz.func122 rfl (by kernel_rfl) Tryz.ntmps122 rfl (fun w0 M0=>?_)
 refine aK (aR (cC rfl rfl trivial (fun b1=>?_)))
 refine cC rfl rfl trivial (fun b2=>?_)
 refine aO rfl tyZ30 (fun b3=>?_)
 obtain⟨v6,h7,hF⟩:=bF hF iS
 obtain⟨v8,h9,hF⟩:=bF hF iS
 refine go ?_ ?_
 refine dr [0,1,3,0,8,31,0,0,255,511] 8 2 ?_ (fun bs5 G4=>?_)
 refine go ?_ ?_
 refine aS (bV (fun H E=>∃(x14:aH),xU K x14=some r∧H=[⟨some (bs5 6),1,30,2,1,(aH.e x14)⟩,⟨some b3,1,30,2,1,([pB false]++[pS cI ([]:List Int)])⟩]∧E=[(4,.vc (pP (some b3) 0)),(5,.vc (pP (some (bs5 6)) 0))]) ?_ (fun Jj16=>?_))
 ·rintro _ _ ⟨x14,hF,rfl,rfl⟩
  unfold xU at hF
  exact cF
 obtain⟨ol15,hL,hRl15⟩:=aZ hF
 refine gB (fun k a w=>∃(x12:aH),∃(x13:aH),jD K k x12 x13=some ol15∧hs _ [⟨some (bs5 6),1,30,2,1,(aH.e x12)⟩,⟨some (bs5 7),1,30,2,1,(aH.e x13)⟩,⟨some b3,1,30,2,1,([pB false]++[pS cI ([]:List Int)])⟩] [(4,.vc (pP (some b3) 0)),(5,.vc (pP (some (bs5 6)) 0)),(6,.vc (pP (some (bs5 7)) 0))] a w) K (fun a w ⟨_,_,hF,_⟩=>by cases hF) (fun k a w ⟨x12,x13,hF,hh⟩=>gC ?_ hh) (fun a w hh=>⟨v6,v8,hL,gJ [0,1,2] hh⟩)
 rw [jD.eq_2] at hF
 refine go ?_ ?_
 refine aJ hF rfl (fun h17 hF=>?_) (fun h17 hF=>?_)
 ·refine iP (aU (aS ?_))
  obtain⟨v18,h19,hF⟩:=bF hF xQ
  obtain⟨v20,h21,hF⟩:=bF hF xQ
  refine go ?_ ?_
  refine eW hF (fun h22 hF=>?_) (fun h22 hF=>?_)
  ·refine go ?_ ?_
   refine aJ hF rfl (fun h23 hF=>?_) (fun h23 hF=>?_)
   ·refine aK (aS (bV (fun H E=>∃(x28:Int),uB K x28=some ol15∧H=[⟨some b3,1,30,2,1,([pB false]++[pS cI ([]:List Int)])⟩]∧E=[(4,.vc (pP (some b3) 0)),(7,.vc (pI .i64 x28))]) ?_ (fun Jj30=>?_)))
    ·rintro _ _ ⟨x28,hF,rfl,rfl⟩
     unfold uB at hF
     refine go ?_ ?_
     refine aQ (aER rfl ⟨_,Tryz.underlying3⟩ Tryz.underlying164) zU1 ?_
     obtain⟨v31,h32,hF⟩:=bF hF kO
     exact cF
    obtain⟨x28',hL,hRl29⟩:=aZ hF
    refine gB (fun k a w=>∃(x26:Int),∃(x27:Int),kT K k x26 x27=some x28'∧hs _ [⟨some b3,1,30,2,1,([pB false]++[pS cI ([]:List Int)])⟩] [(4,.vc (pP (some b3) 0)),(7,.vc (pI .i64 x26)),(9,.vc (pI .i64 x27))] a w) K (fun a w ⟨_,_,hF,_⟩=>by cases hF) (fun k a w ⟨x26,x27,hF,hh⟩=>gC ?_ hh) (fun a w hh=>⟨v18.1,v20.1,hL,gJ [2] hh⟩)
    rw [kT.eq_2] at hF
    refine go ?_ ?_
    refine aJ hF rfl (fun h33 hF=>?_) (fun h33 hF=>?_)
    ·refine iP (aU (aS ?_))
     obtain⟨v36,h37,hF⟩:=aZ hF
     refine dr [0,0,0,6,3,31] 6 0 ?_ (fun bs35 G34=>?_)
     refine bT (aA6 ?_)
     exact aM (fun a w hh=>⟨x27,v36,hF,gJ [0] hh⟩)
    refine cR ?_
    obtain rfl:=pZ hF
    exact qZ Jj30 ⟨x26,hRl29,rfl,rfl⟩ [0]
   obtain⟨v38,h39,hF⟩:=bF hF xY
   refine go ?_ ?_
   refine aO rfl tyZ30 (fun b40=>?_)
   refine aO rfl tyZ30 (fun b41=>?_)
   refine go ?_ ?_
   refine sF (HsM [(0,fun G42=>[⟨some b41,1,30,2,1,(aH.e v38.2)⟩,⟨some b40,1,30,2,1,(aH.e v38.1)⟩,⟨some (bs5 6),1,30,2,1,(aH.e x12)⟩,⟨some (bs5 7),1,30,2,1,(aH.e x13)⟩,⟨some b3,1,30,2,1,([pB false]++[pS cI ([]:List Int)])⟩]),(1,fun G42=>[⟨some b41,1,30,2,1,(aH.e v38.2)⟩,⟨some b40,1,30,2,1,(aH.e v38.1)⟩,⟨some (bs5 6),1,30,2,1,(aH.e x13)⟩,⟨some (bs5 7),1,30,2,1,(aH.e x13)⟩,⟨some b3,1,30,2,1,([pB false]++[pS cI ([]:List Int)])⟩])]) [2] [0,0,1,7] 3 1 [.v (.va (aH.e x13)),.v (.va (aH.e v38.2)),.g (fun _ _=>.any)] bC ⟨d1 0 (fX 3 2 rfl rfl rfl rfl (.agg tyA30)) zU1,⟨rfl,.run (L:=[0,1]) ⟨fun G42 A=>fX 0 2 rfl rfl rfl rfl (.agg tyA30),fun G42 A=>fX 0 2 rfl rfl rfl rfl (.agg tyA30),trivial⟩ (fun G42=>zU1)⟩,⟨rfl,.hvy [0] ⟨fun G42 A=>aDu (t_s 2 rfl rfl rfl tyA30.s),trivial⟩ (fun G42=>zU2)⟩,trivial⟩ (fun bs43 G42=>?_)
   refine go ?_ ?_
   exact aM (fun a w hh=>⟨x13,v38.2,hF,gJ [2,3,4] hh⟩)
  refine go ?_ ?_
  refine yC rfl ?_
  obtain⟨v44,h45,hF⟩:=bF hF xY
  refine go ?_ ?_
  refine aO rfl tyZ30 (fun b46=>?_)
  refine aO rfl tyZ30 (fun b47=>?_)
  refine go ?_ ?_
  refine sF (HsM [(0,fun G48=>[⟨some b47,1,30,2,1,(aH.e v44.2)⟩,⟨some b46,1,30,2,1,(aH.e v44.1)⟩,⟨some (bs5 6),1,30,2,1,(aH.e x12)⟩,⟨some (bs5 7),1,30,2,1,(aH.e x13)⟩,⟨some b3,1,30,2,1,([pB false]++[pS cI ([]:List Int)])⟩]),(1,fun G48=>[⟨some b47,1,30,2,1,(aH.e v44.2)⟩,⟨some b46,1,30,2,1,(aH.e v44.1)⟩,⟨some (bs5 6),1,30,2,1,(aH.e x13)⟩,⟨some (bs5 7),1,30,2,1,(aH.e x13)⟩,⟨some b3,1,30,2,1,([pB false]++[pS cI ([]:List Int)])⟩])]) [2] [0,0,1,7] 3 1 [.v (.va (aH.e x13)),.v (.va (aH.e v44.2)),.g (fun _ _=>.any)] bC ⟨d1 0 (fX 3 2 rfl rfl rfl rfl (.agg tyA30)) zU1,⟨rfl,.run (L:=[0,1]) ⟨fun G48 A=>fX 0 2 rfl rfl rfl rfl (.agg tyA30),fun G48 A=>fX 0 2 rfl rfl rfl rfl (.agg tyA30),trivial⟩ (fun G48=>zU1)⟩,⟨rfl,.hvy [0] ⟨fun G48 A=>aDu (t_s 2 rfl rfl rfl tyA30.s),trivial⟩ (fun G48=>zU2)⟩,trivial⟩ (fun bs49 G48=>?_)
  refine go ?_ ?_
  exact aM (fun a w hh=>⟨x13,v44.2,hF,gJ [2,3,4] hh⟩)
 refine cR ?_
 obtain rfl:=pZ hF
 exact qZ Jj16 ⟨x12,hRl15,rfl,rfl⟩ [0,2]
def fY (a0:List Int):Option Int:=
 (dO a0 1).bind fun v1=>(aT (v1*1000000000)).bind fun v3=>(dO a0 0).bind fun v5=>(aT (v3+v5)).bind fun v7=>some v7
theorem mO {a0:List Int} {r:Int} (hF:fY a0=some r):Ct Tryz.prog 171 [.vc (pS cI a0)] (.vc (pI .i64 r)):=by
 unfold fY at hF
 refine aG Tryz.func171 rfl (by kernel_rfl) Tryz.ntmps171 rfl (fun w0 M0=>?_)
 obtain⟨v1,h2,hF⟩:=bF hF fU
 obtain⟨v3,h4,hF⟩:=aZ hF
 obtain⟨v5,h6,hF⟩:=bF hF fU
 obtain⟨v7,h8,hF⟩:=aZ hF
 exact cF
def iX (K:Nat) (a0:List Int) (a1:Int):Option (List Int):=
 (bI K false a0).bind fun v1=>(gU K a1).bind fun v3=>(hY K v1 v3).bind fun v5=>some v5.d
theorem rF {K:Nat} {a0:List Int} {a1:Int} {r:List Int} (hF:iX K a0 a1=some r):Ct Tryz.prog 188 [.vc (pS cI a0),.vc (pI .i64 a1)] (.vc (pS cI r)):=by
 unfold iX at hF
 refine aG Tryz.func188 rfl (by kernel_rfl) Tryz.ntmps188 rfl (fun w0 M0=>?_)
 refine aK (aR (aQ (bB (.inr rfl)) ⟨dA cI,trivial⟩ ?_))
 obtain⟨v1,h2,hF⟩:=bF hF bW
 obtain⟨v3,h4,hF⟩:=bF hF l5
 obtain⟨v5,h6,hF⟩:=bF hF nU
 refine go ?_ ?_
 refine aO rfl tyZ30 (fun b7=>?_)
 exact cF
def kJ (K:Nat) (x46:List Int) (x52:List Int):Option ((List Int)×(List Int)):=
 some (x46,x52)
def iI (K:Nat) (a1:List Int) (x38:List Int) (x45:Int) (v68:aH) (recl53:(List Int)→(List Int)→Int→Option ((List Int)×(List Int))) (x78:Int):Option ((List Int)×(List Int)):=
 (iX K a1 x78).bind fun v81=>(fH K v68.d v81).bind fun v83=>(bI K false v83).bind fun v85=>(bL x38 x45).bind fun v88=>(oO x38 x45 x78).bind fun x90=>(aT (x45-1)).bind fun v93=>recl53 x90 v85.d v93
def bZ (K:Nat) (a1:List Int) (v68:aH):Nat→Int→Int→Option Int
 |0,_,_=>none
 |k+1,x76,x77=>bif(decide (x76<x77)) then((aT (x76+x77)).bind fun v96=>(aT (v96+1)).bind fun v98=>(zX v98 2).bind fun v100=>(iX K a1 v100).bind fun v102=>(cT K v102 v68.d).bind fun v104=>bif(decide (v104≤0)) then(bZ K a1 v68 k v100 x77) else((aT (v100-1)).bind fun v107=>bZ K a1 v68 k x76 v107)) else(some x76)
def fJ (K:Nat) (a1:List Int) (x38:List Int) (x45:Int) (v68:aH) (recl53:(List Int)→(List Int)→Int→Option ((List Int)×(List Int))) (x72:Int):Option ((List Int)×(List Int)):=
 (bZ K a1 v68 K 0 x72).bind fun x78=>iI K a1 x38 x45 v68 recl53 x78
def bN (K:Nat) (a0:List Int) (a1:List Int):Nat→(List Int)→(List Int)→Int→Option ((List Int)×(List Int))
 |0,_,_,_=>none
 |k+1,x38,x44,x45=>bif(decide (0≤x45)) then((bL a0 x45).bind fun v56=>(qR [v56] x44).bind fun x61=>(bI K false x61).bind fun v68=>(cT K v68.d a1).bind fun v109=>bif(decide (v109<0)) then(fJ K a1 x38 x45 v68 (bN K a0 a1 k) 0) else(fJ K a1 x38 x45 v68 (bN K a0 a1 k) 999999999)) else(some (x38,x44))
def qA (K:Nat) (x135:List Int) (x141:List Int):Option ((List Int)×(List Int)):=
 some (x135,x141)
def mD (K:Nat) (a1:List Int) (x127:List Int) (x134:Int) (v157:aH) (recl142:(List Int)→(List Int)→Int→Option ((List Int)×(List Int))) (x167:Int):Option ((List Int)×(List Int)):=
 (iX K a1 x167).bind fun v170=>(fH K v157.d v170).bind fun v172=>(bI K false v172).bind fun v174=>(bL x127 x134).bind fun v177=>(oO x127 x134 x167).bind fun x179=>(aT (x134-1)).bind fun v182=>recl142 x179 v174.d v182
def eZ (K:Nat) (a1:List Int) (v157:aH):Nat→Int→Int→Option Int
 |0,_,_=>none
 |k+1,x165,x166=>bif(decide (x165<x166)) then((aT (x165+x166)).bind fun v185=>(aT (v185+1)).bind fun v187=>(zX v187 2).bind fun v189=>(iX K a1 v189).bind fun v191=>(cT K v191 v157.d).bind fun v193=>bif(decide (v193≤0)) then(eZ K a1 v157 k v189 x166) else((aT (v189-1)).bind fun v196=>eZ K a1 v157 k x165 v196)) else(some x165)
def jS (K:Nat) (a1:List Int) (x127:List Int) (x134:Int) (v157:aH) (recl142:(List Int)→(List Int)→Int→Option ((List Int)×(List Int))) (x161:Int):Option ((List Int)×(List Int)):=
 (eZ K a1 v157 K 0 x161).bind fun x167=>mD K a1 x127 x134 v157 recl142 x167
def cZ (K:Nat) (a0:List Int) (a1:List Int):Nat→(List Int)→(List Int)→Int→Option ((List Int)×(List Int))
 |0,_,_,_=>none
 |k+1,x127,x133,x134=>bif(decide (0≤x134)) then((bL a0 x134).bind fun v145=>(qR [v145] x133).bind fun x150=>(bI K false x150).bind fun v157=>(cT K v157.d a1).bind fun v198=>bif(decide (v198<0)) then(jS K a1 x127 x134 v157 (cZ K a0 a1 k) 0) else(jS K a1 x127 x134 v157 (cZ K a0 a1 k) 999999999)) else(some (x127,x133))
def iY (K:Nat) (a0:List Int) (a1:List Int):Option ((List Int)×(List Int)):=
 bif(decide ((a0.length:Int)≤2)) then(bif(decide ((a1.length:Int)≤2)) then((fY a0).bind fun v3=>(fY a1).bind fun v5=>(zX v3 v5).bind fun v7=>(gU K v7).bind fun v9=>(fY a0).bind fun v12=>(fY a1).bind fun v14=>(yK v12 v14).bind fun v16=>(gU K v16).bind fun v18=>some (v9.d,v18.d)) else((yJ (a0.length:Int) 0).bind fun x23=>(aT ((a0.length:Int)-1)).bind fun v28=>(bN K a0 a1 K x23 [] v28).bind fun(x46,x52)=>kJ K x46 x52)) else((yJ (a0.length:Int) 0).bind fun x112=>(aT ((a0.length:Int)-1)).bind fun v117=>(cZ K a0 a1 K x112 [] v117).bind fun(x135,x141)=>qA K x135 x141)
theorem aCa {K:Nat} {a0:List Int} {a1:List Int} {r:(List Int)×(List Int)} (hF:iY K a0 a1=some r):Ct Tryz.prog 172 [.vc (pS cI a0),.vc (pS cI a1)] (.t2 (.vc (pS cI r.1)) (.vc (pS cI r.2))):=by
 unfold iY at hF
 refine aG Tryz.func172 rfl (by kernel_rfl) Tryz.ntmps172 rfl (fun w0 M0=>?_)
 refine aK (aR (aQ (bB (.inr rfl)) ⟨dA cI,trivial⟩ ?_))
 refine aQ (bB (.inr rfl)) ⟨dA cI,trivial⟩ ?_
 refine go ?_ ?_
 refine eW hF (fun h1 hF=>?_) (fun h1 hF=>?_)
 ·refine go ?_ ?_
  refine aJ hF rfl (fun h2 hF=>?_) (fun h2 hF=>?_)
  ·obtain⟨v3,h4,hF⟩:=bF hF mO
   obtain⟨v5,h6,hF⟩:=bF hF mO
   obtain⟨v7,h8,hF⟩:=aZ hF
   obtain⟨v9,h10,hF⟩:=bF hF l5
   refine go ?_ ?_
   refine aO rfl tyZ30 (fun b11=>?_)
   obtain⟨v12,h13,hF⟩:=bF hF mO
   obtain⟨v14,h15,hF⟩:=bF hF mO
   obtain⟨v16,h17,hF⟩:=aZ hF
   obtain⟨v18,h19,hF⟩:=bF hF l5
   refine go ?_ ?_
   refine aO rfl tyZ30 (fun b20=>?_)
   refine go ?_ ?_
   refine dr [0,1,0,4,3,31] 6 0 ?_ (fun bs22 G21=>?_)
   refine bT (aU ?_)
   exact cF
  obtain⟨x23,h24,hF⟩:=aZ hF
  refine go ?_ ?_
  refine uV (C:=cI) rfl tyS22 rfl tyZ3 rfl h24 (fun b25=>?_)
  refine go ?_ ?_
  refine aQ (bB (.inr rfl)) ⟨dA cI,trivial⟩ ?_
  obtain⟨v28,h29,hF⟩:=aZ hF
  refine go ?_ ?_
  refine aS (bV (fun H E=>∃(x46:List Int),∃(x52:List Int),kJ K x46 x52=some r∧x46.length=x23.length∧H=[hO cI b25 x23.length 3 x23.length x46]∧E=[(8,.vc (pO b25 x23.length x23.length)),(9,.vc (pS cI x52))]) ?_ (fun Jj54=>?_))
  ·rintro _ _ ⟨x46,x52,hF,q50,rfl,rfl⟩
   unfold kJ at hF
   refine go ?_ ?_
   refine sT (sS (aAd 0 [4,8,93] rfl q50 ⟨rfl,rfl,rfl,trivial⟩ rfl ?_))
   obtain rfl:=pZ hF
   exact rY (.inl rfl) Tryz.results172 (.tmp rfl (.tmp rfl .nil)) rfl rfl
  obtain⟨⟨x46',x52'⟩,hL,hRl53⟩:=aZ hF
  refine gB (fun k a w=>∃(x38:List Int),∃(x44:List Int),∃(x45:Int),bN K a0 a1 k x38 x44 x45=some (x46',x52')∧x38.length=x23.length∧hs _ [hO cI b25 x23.length 3 x23.length x38] [(0,.vc (pS cI a0)),(1,.vc (pS cI a1)),(8,.vc (pO b25 x23.length x23.length)),(9,.vc (pS cI x44)),(10,.vc (pI .i64 x45))] a w) K (fun a w ⟨_,_,_,hF,_,_⟩=>by cases hF) (fun k a w ⟨x38,x44,x45,hF,q42,hh⟩=>gC ?_ hh) (fun a w hh=>⟨x23,[],v28,hL,rfl,gJ [0] hh⟩)
  rw [bN.eq_2] at hF
  refine go ?_ ?_
  refine aJ hF rfl (fun h55 hF=>?_) (fun h55 hF=>?_)
  ·refine go ?_ ?_
   refine aS ?_
   obtain⟨v56,h57,hF⟩:=aZ hF
   refine go ?_ ?_
   refine aKY (aI9 (C:=cI) (xs:=[.tmp 53]) (ps:=[.vc (pI .i64 v56)]) (zs:=[v56]) rfl tyS22 rfl ⟨⟨trivial,rfl⟩,trivial⟩ rfl) zU1 (fun b58 _=>?_)
   refine lH ?_
   obtain⟨x61,h62,hF⟩:=aZ hF
   refine nH 0 rfl tyS22 rfl rfl rfl rfl rfl h62 (fun b63 c64 H65 e66=>?_)
   cases e66
   refine zQ 0 [56] rfl (eJ h62 rfl) zU1 rfl ?_
   obtain⟨v68,h69,hF⟩:=bF hF bW
   refine aQ (cS rfl h69 rfl) ⟨k_B _,rfl,trivial⟩ ?_
   refine aO rfl tyZ30 (fun b70=>?_)
   refine mR (t_s 0 rfl rfl rfl tyA30.s) zU2 ?_
   refine bT (aU (aK (aR (aQ (iU (off:=0) (k:=1) rfl tyF30_1) zU1 ?_))))
   refine aQ (fX 0 1 rfl rfl rfl rfl (.one tyO22)) zU1 ?_
   refine aDY ?_
   refine bT (aU (aK (aR (aQ (bB (.inr rfl)) ⟨lY _ _,trivial⟩ ?_))))
   refine bT (aU (aK (aR (aQ (bB (.inr rfl)) ⟨lY _ _,trivial⟩ ?_))))
   refine bT (aU (aK (xZ (fun H E=>∃(x72:Int),fJ K a1 x38 x45 v68 (bN K a0 a1 k) x72=some (x46',x52')∧H=[hO cI b25 x23.length 3 x23.length x38]∧E=[(0,.vc (pS cI a0)),(1,.vc (pS cI a1)),(8,.vc (pO b25 x23.length x23.length)),(9,.vc (pS cI v68.d)),(10,.vc (pI .i64 x45)),(12,.vc (pI .i64 0)),(13,.vc (pI .i64 x72))]) ?_ (fun Jj73=>?_))))
   ·rintro _ _ ⟨x72,hF,rfl,rfl⟩
    unfold fJ at hF
    refine aK (aS (bV (fun H E=>∃(x78:Int),iI K a1 x38 x45 v68 (bN K a0 a1 k) x78=some (x46',x52')∧H=[hO cI b25 x23.length 3 x23.length x38]∧E=[(0,.vc (pS cI a0)),(1,.vc (pS cI a1)),(8,.vc (pO b25 x23.length x23.length)),(9,.vc (pS cI v68.d)),(10,.vc (pI .i64 x45)),(12,.vc (pI .i64 x78))]) ?_ (fun Jj80=>?_)))
    ·rintro _ _ ⟨x78,hF,rfl,rfl⟩
     unfold iI at hF
     obtain⟨v81,h82,hF⟩:=bF hF rF
     obtain⟨v83,h84,hF⟩:=bF hF oL
     obtain⟨v85,h86,hF⟩:=bF hF bW
     refine go ?_ ?_
     refine aO rfl tyZ30 (fun b87=>?_)
     obtain⟨v88,h89,x90,h91,v93,h94,hF⟩:=bn3 hF
     refine go ?_ ?_
     exact aM (fun a w hh=>⟨x90,v85.d,v93,hF,(bK h91 q42),gJ [1] hh⟩)
    obtain⟨x78',hL,hRl79⟩:=aZ hF
    refine gB (fun k a w=>∃(x76:Int),∃(x77:Int),bZ K a1 v68 k x76 x77=some x78'∧hs _ [hO cI b25 x23.length 3 x23.length x38] [(0,.vc (pS cI a0)),(1,.vc (pS cI a1)),(8,.vc (pO b25 x23.length x23.length)),(9,.vc (pS cI v68.d)),(10,.vc (pI .i64 x45)),(12,.vc (pI .i64 x76)),(13,.vc (pI .i64 x77))] a w) K (fun a w ⟨_,_,hF,_⟩=>by cases hF) (fun k a w ⟨x76,x77,hF,hh⟩=>gC ?_ hh) (fun a w hh=>⟨0,x72,hL,gJ [0] hh⟩)
    rw [bZ.eq_2] at hF
    refine go ?_ ?_
    refine aJ hF rfl (fun h95 hF=>?_) (fun h95 hF=>?_)
    ·refine iP (aU (aS ?_))
     obtain⟨v96,h97,v98,h99,v100,h101,hF⟩:=bn3 hF
     obtain⟨v102,h103,hF⟩:=bF hF rF
     obtain⟨v104,h105,hF⟩:=bF hF gS
     refine go ?_ ?_
     refine aJ hF rfl (fun h106 hF=>?_) (fun h106 hF=>?_)
     ·refine go ?_ ?_
      exact aM (fun a w hh=>⟨v100,x77,hF,gJ [0] hh⟩)
     obtain⟨v107,h108,hF⟩:=aZ hF
     refine go ?_ ?_
     exact aM (fun a w hh=>⟨x76,v107,hF,gJ [0] hh⟩)
    refine cR ?_
    obtain rfl:=pZ hF
    exact qZ Jj80 ⟨x76,hRl79,rfl,rfl⟩ [0]
   obtain⟨v109,h110,hF⟩:=bF hF gS
   refine go ?_ ?_
   refine aJ hF rfl (fun h111 hF=>?_) (fun h111 hF=>?_)
   ·refine aR (aQ (bB (.inr rfl)) ⟨lY _ _,trivial⟩ ?_)
    refine bT ?_
    exact qZ Jj73 ⟨0,hF,rfl,rfl⟩ [1]
   refine iP ?_
   exact qZ Jj73 ⟨999999999,hF,rfl,rfl⟩ [1]
  refine cR ?_
  obtain⟨rfl,rfl⟩:=sm2 hF
  exact qZ Jj54 ⟨x38,x44,hRl53,q42,rfl,rfl⟩ [0]
 refine go ?_ ?_
 refine yC rfl ?_
 obtain⟨x112,h113,hF⟩:=aZ hF
 refine go ?_ ?_
 refine uV (C:=cI) rfl tyS22 rfl tyZ3 rfl h113 (fun b114=>?_)
 refine go ?_ ?_
 refine aQ (bB (.inr rfl)) ⟨dA cI,trivial⟩ ?_
 obtain⟨v117,h118,hF⟩:=aZ hF
 refine go ?_ ?_
 refine aS (bV (fun H E=>∃(x135:List Int),∃(x141:List Int),qA K x135 x141=some r∧x135.length=x112.length∧H=[hO cI b114 x112.length 3 x112.length x135]∧E=[(8,.vc (pO b114 x112.length x112.length)),(9,.vc (pS cI x141))]) ?_ (fun Jj143=>?_))
 ·rintro _ _ ⟨x135,x141,hF,q139,rfl,rfl⟩
  unfold qA at hF
  refine go ?_ ?_
  refine sT (sS (aAd 0 [4,8,93] rfl q139 ⟨rfl,rfl,rfl,trivial⟩ rfl ?_))
  obtain rfl:=pZ hF
  exact rY (.inl rfl) Tryz.results172 (.tmp rfl (.tmp rfl .nil)) rfl rfl
 obtain⟨⟨x135',x141'⟩,hL,hRl142⟩:=aZ hF
 refine gB (fun k a w=>∃(x127:List Int),∃(x133:List Int),∃(x134:Int),cZ K a0 a1 k x127 x133 x134=some (x135',x141')∧x127.length=x112.length∧hs _ [hO cI b114 x112.length 3 x112.length x127] [(0,.vc (pS cI a0)),(1,.vc (pS cI a1)),(8,.vc (pO b114 x112.length x112.length)),(9,.vc (pS cI x133)),(10,.vc (pI .i64 x134))] a w) K (fun a w ⟨_,_,_,hF,_,_⟩=>by cases hF) (fun k a w ⟨x127,x133,x134,hF,q131,hh⟩=>gC ?_ hh) (fun a w hh=>⟨x112,[],v117,hL,rfl,gJ [0] hh⟩)
 rw [cZ.eq_2] at hF
 refine go ?_ ?_
 refine aJ hF rfl (fun h144 hF=>?_) (fun h144 hF=>?_)
 ·refine go ?_ ?_
  refine aS ?_
  obtain⟨v145,h146,hF⟩:=aZ hF
  refine go ?_ ?_
  refine aKY (aI9 (C:=cI) (xs:=[.tmp 53]) (ps:=[.vc (pI .i64 v145)]) (zs:=[v145]) rfl tyS22 rfl ⟨⟨trivial,rfl⟩,trivial⟩ rfl) zU1 (fun b147 _=>?_)
  refine lH ?_
  obtain⟨x150,h151,hF⟩:=aZ hF
  refine nH 0 rfl tyS22 rfl rfl rfl rfl rfl h151 (fun b152 c153 H154 e155=>?_)
  cases e155
  refine zQ 0 [56] rfl (eJ h151 rfl) zU1 rfl ?_
  obtain⟨v157,h158,hF⟩:=bF hF bW
  refine aQ (cS rfl h158 rfl) ⟨k_B _,rfl,trivial⟩ ?_
  refine aO rfl tyZ30 (fun b159=>?_)
  refine mR (t_s 0 rfl rfl rfl tyA30.s) zU2 ?_
  refine bT (aU (aK (aR (aQ (iU (off:=0) (k:=1) rfl tyF30_1) zU1 ?_))))
  refine aQ (fX 0 1 rfl rfl rfl rfl (.one tyO22)) zU1 ?_
  refine aDY ?_
  refine bT (aU (aK (aR (aQ (bB (.inr rfl)) ⟨lY _ _,trivial⟩ ?_))))
  refine bT (aU (aK (aR (aQ (bB (.inr rfl)) ⟨lY _ _,trivial⟩ ?_))))
  refine bT (aU (aK (xZ (fun H E=>∃(x161:Int),jS K a1 x127 x134 v157 (cZ K a0 a1 k) x161=some (x135',x141')∧H=[hO cI b114 x112.length 3 x112.length x127]∧E=[(0,.vc (pS cI a0)),(1,.vc (pS cI a1)),(8,.vc (pO b114 x112.length x112.length)),(9,.vc (pS cI v157.d)),(10,.vc (pI .i64 x134)),(12,.vc (pI .i64 0)),(13,.vc (pI .i64 x161))]) ?_ (fun Jj162=>?_))))
  ·rintro _ _ ⟨x161,hF,rfl,rfl⟩
   unfold jS at hF
   refine aK (aS (bV (fun H E=>∃(x167:Int),mD K a1 x127 x134 v157 (cZ K a0 a1 k) x167=some (x135',x141')∧H=[hO cI b114 x112.length 3 x112.length x127]∧E=[(0,.vc (pS cI a0)),(1,.vc (pS cI a1)),(8,.vc (pO b114 x112.length x112.length)),(9,.vc (pS cI v157.d)),(10,.vc (pI .i64 x134)),(12,.vc (pI .i64 x167))]) ?_ (fun Jj169=>?_)))
   ·rintro _ _ ⟨x167,hF,rfl,rfl⟩
    unfold mD at hF
    obtain⟨v170,h171,hF⟩:=bF hF rF
    obtain⟨v172,h173,hF⟩:=bF hF oL
    obtain⟨v174,h175,hF⟩:=bF hF bW
    refine go ?_ ?_
    refine aO rfl tyZ30 (fun b176=>?_)
    obtain⟨v177,h178,x179,h180,v182,h183,hF⟩:=bn3 hF
    refine go ?_ ?_
    exact aM (fun a w hh=>⟨x179,v174.d,v182,hF,(bK h180 q131),gJ [1] hh⟩)
   obtain⟨x167',hL,hRl168⟩:=aZ hF
   refine gB (fun k a w=>∃(x165:Int),∃(x166:Int),eZ K a1 v157 k x165 x166=some x167'∧hs _ [hO cI b114 x112.length 3 x112.length x127] [(0,.vc (pS cI a0)),(1,.vc (pS cI a1)),(8,.vc (pO b114 x112.length x112.length)),(9,.vc (pS cI v157.d)),(10,.vc (pI .i64 x134)),(12,.vc (pI .i64 x165)),(13,.vc (pI .i64 x166))] a w) K (fun a w ⟨_,_,hF,_⟩=>by cases hF) (fun k a w ⟨x165,x166,hF,hh⟩=>gC ?_ hh) (fun a w hh=>⟨0,x161,hL,gJ [0] hh⟩)
   rw [eZ.eq_2] at hF
   refine go ?_ ?_
   refine aJ hF rfl (fun h184 hF=>?_) (fun h184 hF=>?_)
   ·refine iP (aU (aS ?_))
    obtain⟨v185,h186,v187,h188,v189,h190,hF⟩:=bn3 hF
    obtain⟨v191,h192,hF⟩:=bF hF rF
    obtain⟨v193,h194,hF⟩:=bF hF gS
    refine go ?_ ?_
    refine aJ hF rfl (fun h195 hF=>?_) (fun h195 hF=>?_)
    ·refine go ?_ ?_
     exact aM (fun a w hh=>⟨v189,x166,hF,gJ [0] hh⟩)
    obtain⟨v196,h197,hF⟩:=aZ hF
    refine go ?_ ?_
    exact aM (fun a w hh=>⟨x165,v196,hF,gJ [0] hh⟩)
   refine cR ?_
   obtain rfl:=pZ hF
   exact qZ Jj169 ⟨x165,hRl168,rfl,rfl⟩ [0]
  obtain⟨v198,h199,hF⟩:=bF hF gS
  refine go ?_ ?_
  refine aJ hF rfl (fun h200 hF=>?_) (fun h200 hF=>?_)
  ·refine aR (aQ (bB (.inr rfl)) ⟨lY _ _,trivial⟩ ?_)
   refine bT ?_
   exact qZ Jj162 ⟨0,hF,rfl,rfl⟩ [1]
  refine iP ?_
  exact qZ Jj162 ⟨999999999,hF,rfl,rfl⟩ [1]
 refine cR ?_
 obtain⟨rfl,rfl⟩:=sm2 hF
 exact qZ Jj143 ⟨x127,x133,hRl142,q131,rfl,rfl⟩ [0]
def kV (K:Nat) (a0:aH) (a1:aH):Option (aH×aH):=
 bif((a1.d.length:Int)==0) then(some ((⟨false,([]:List Int)⟩:aH),(⟨false,([]:List Int)⟩:aH))) else((iY K a0.d a1.d).bind fun v6=>(bI K (a0.neg != a1.neg) v6.1).bind fun v8=>(bI K false v6.2).bind fun v11=>bif a0.neg then(bif(decide (0<(v11.d.length:Int))) then((bI K (a0.neg != a1.neg) [1]).bind fun v18=>(oQ K v8 v18).bind fun v20=>(fH K a1.d v11.d).bind fun v22=>(bI K false v22).bind fun v24=>some (v20,v24)) else(some (v8,v11))) else(some (v8,v11)))
theorem sZ {K:Nat} {a0:aH} {a1:aH} {r:aH×aH} (hF:kV K a0 a1=some r):Ct Tryz.prog 133 [.va (aH.e a0),.va (aH.e a1)] (.t2 (.va (aH.e r.1)) (.va (aH.e r.2))):=by
 unfold kV at hF
 refine aG Tryz.func133 rfl (by kernel_rfl) Tryz.ntmps133 rfl (fun w0 M0=>?_)
 refine aK (aR (cC rfl rfl trivial (fun b1=>?_)))
 refine cC rfl rfl trivial (fun b2=>?_)
 refine aO rfl tyZ30 (fun b3=>?_)
 refine aO rfl tyZ30 (fun b4=>?_)
 refine go ?_ ?_
 refine aJ hF rfl (fun h5 hF=>?_) (fun h5 hF=>?_)
 ·refine aK (aR (aQ (dY (is:=[]) (xs:=[]) (ps:=[]) rfl tyB30 rfl rfl trivial rfl) trivial ?_))
  refine aQ (dY (is:=[]) (xs:=[]) (ps:=[]) rfl tyB30 rfl rfl trivial rfl) trivial ?_
  exact cF
 obtain⟨v6,h7,hF⟩:=bF hF aCa
 refine go ?_ ?_
 refine aQ (aCg rfl Tryz.underlying4) zU2 ?_
 refine lH ?_
 obtain⟨v8,h9,hF⟩:=bF hF bW
 refine aQ (cS rfl h9 rfl) zU2 ?_
 refine aO rfl tyZ30 (fun b10=>?_)
 obtain⟨v11,h12,hF⟩:=bF hF bW
 refine go ?_ ?_
 refine aO rfl tyZ30 (fun b13=>?_)
 refine go ?_ ?_
 refine eW hF (fun h14 hF=>?_) (fun h14 hF=>?_)
 ·refine go ?_ ?_
  refine aJ hF rfl (fun h15 hF=>?_) (fun h15 hF=>?_)
  ·refine aK ?_
   obtain⟨v18,h19,hF⟩:=bF hF bW
   obtain⟨v20,h21,hF⟩:=bF hF aAC
   refine gT [0,0,2,0,8,30,0,126,255,511] 9 1 [.v (.va (aH.e v8)),.v (.vc (pP (some b1) 0)),.v (.vc (pB a0.neg)),.v (.vc (pP (some b2) 0)),.v (.vc (pB a1.neg)),.v (.vc (pB (a0.neg != a1.neg))),.v (.vc (pS cI [1])),.v (.va (aH.e v18)),.v (.va (aH.e v20))] bC ⟨d0 (fX 1 2 rfl rfl rfl rfl (.agg tyA30)) zU1,d0 (iU (off:=0) (k:=0) rfl tyF30_0) zU1,d0 (fX 5 1 rfl rfl rfl rfl (.one tyO4)) zU1,d0 (iU (off:=0) (k:=0) rfl tyF30_0) zU1,d0 (fX 4 1 rfl rfl rfl rfl (.one tyO4)) zU1,⟨rfl,.run (L:=[0]) ⟨fun G16 A=>aCg rfl Tryz.underlying4,trivial⟩ (fun G16=>zU2)⟩,d0 (oM (C:=cI) (xs:=[.const (.int .i64 (1))]) (ps:=[.vc (pI .i64 1)]) (zs:=[1]) rfl tyS22 rfl ⟨⟨trivial,rfl⟩,trivial⟩ rfl) ⟨lY _ _,trivial⟩,d0 (cS rfl h19 rfl) zU2,d0 (cS rfl h21 rfl) zU2,trivial⟩ (fun bs17 G16=>?_)
   obtain⟨v22,h23,hF⟩:=bF hF oL
   obtain⟨v24,h25,hF⟩:=bF hF bW
   refine go ?_ ?_
   refine sF (HsM [(0,fun G26=>[⟨some b13,1,30,2,1,(aH.e v24)⟩,⟨some b10,1,30,2,1,(aH.e v20)⟩,⟨some b4,1,30,2,1,([pB false]++[pS cI ([]:List Int)])⟩,⟨some b3,1,30,2,1,([pB false]++[pS cI ([]:List Int)])⟩,⟨some b2,1,30,2,1,(aH.e a1)⟩,⟨some b1,1,30,2,1,(aH.e a0)⟩]),(1,fun G26=>[⟨some b13,1,30,2,1,(aH.e v24)⟩,⟨some b10,1,30,2,1,(aH.e v20)⟩,⟨some b4,1,30,2,1,([pB false]++[pS cI ([]:List Int)])⟩,⟨some b3,1,30,2,1,(aH.e v20)⟩,⟨some b2,1,30,2,1,(aH.e a1)⟩,⟨some b1,1,30,2,1,(aH.e a0)⟩])]) [2] [0,0,1,7] 3 1 [.v (.va (aH.e v20)),.v (.va (aH.e v24)),.g (fun _ _=>.any)] bC ⟨d1 0 (fX 1 2 rfl rfl rfl rfl (.agg tyA30)) zU1,⟨rfl,.run (L:=[0,1]) ⟨fun G26 A=>fX 0 2 rfl rfl rfl rfl (.agg tyA30),fun G26 A=>fX 0 2 rfl rfl rfl rfl (.agg tyA30),trivial⟩ (fun G26=>zU1)⟩,⟨rfl,.hvy [0] ⟨fun G26 A=>aDu (t_s 3 rfl rfl rfl tyA30.s),trivial⟩ (fun G26=>zU2)⟩,trivial⟩ (fun bs27 G26=>?_)
   exact cF
  refine go ?_ ?_
  refine sF (HsM [(0,fun G28=>[⟨some b13,1,30,2,1,(aH.e v11)⟩,⟨some b10,1,30,2,1,(aH.e v8)⟩,⟨some b4,1,30,2,1,([pB false]++[pS cI ([]:List Int)])⟩,⟨some b3,1,30,2,1,([pB false]++[pS cI ([]:List Int)])⟩,⟨some b2,1,30,2,1,(aH.e a1)⟩,⟨some b1,1,30,2,1,(aH.e a0)⟩]),(1,fun G28=>[⟨some b13,1,30,2,1,(aH.e v11)⟩,⟨some b10,1,30,2,1,(aH.e v8)⟩,⟨some b4,1,30,2,1,([pB false]++[pS cI ([]:List Int)])⟩,⟨some b3,1,30,2,1,(aH.e v8)⟩,⟨some b2,1,30,2,1,(aH.e a1)⟩,⟨some b1,1,30,2,1,(aH.e a0)⟩])]) [2] [0,0,1,7] 3 1 [.v (.va (aH.e v8)),.v (.va (aH.e v11)),.g (fun _ _=>.any)] bC ⟨d1 0 (fX 1 2 rfl rfl rfl rfl (.agg tyA30)) zU1,⟨rfl,.run (L:=[0,1]) ⟨fun G28 A=>fX 0 2 rfl rfl rfl rfl (.agg tyA30),fun G28 A=>fX 0 2 rfl rfl rfl rfl (.agg tyA30),trivial⟩ (fun G28=>zU1)⟩,⟨rfl,.hvy [0] ⟨fun G28 A=>aDu (t_s 3 rfl rfl rfl tyA30.s),trivial⟩ (fun G28=>zU2)⟩,trivial⟩ (fun bs29 G28=>?_)
  exact cF
 refine go ?_ ?_
 refine yC rfl ?_
 refine go ?_ ?_
 refine sF (HsM [(0,fun G30=>[⟨some b13,1,30,2,1,(aH.e v11)⟩,⟨some b10,1,30,2,1,(aH.e v8)⟩,⟨some b4,1,30,2,1,([pB false]++[pS cI ([]:List Int)])⟩,⟨some b3,1,30,2,1,([pB false]++[pS cI ([]:List Int)])⟩,⟨some b2,1,30,2,1,(aH.e a1)⟩,⟨some b1,1,30,2,1,(aH.e a0)⟩]),(1,fun G30=>[⟨some b13,1,30,2,1,(aH.e v11)⟩,⟨some b10,1,30,2,1,(aH.e v8)⟩,⟨some b4,1,30,2,1,([pB false]++[pS cI ([]:List Int)])⟩,⟨some b3,1,30,2,1,(aH.e v8)⟩,⟨some b2,1,30,2,1,(aH.e a1)⟩,⟨some b1,1,30,2,1,(aH.e a0)⟩])]) [2] [0,0,1,7] 3 1 [.v (.va (aH.e v8)),.v (.va (aH.e v11)),.g (fun _ _=>.any)] bC ⟨d1 0 (fX 1 2 rfl rfl rfl rfl (.agg tyA30)) zU1,⟨rfl,.run (L:=[0,1]) ⟨fun G30 A=>fX 0 2 rfl rfl rfl rfl (.agg tyA30),fun G30 A=>fX 0 2 rfl rfl rfl rfl (.agg tyA30),trivial⟩ (fun G30=>zU1)⟩,⟨rfl,.hvy [0] ⟨fun G30 A=>aDu (t_s 3 rfl rfl rfl tyA30.s),trivial⟩ (fun G30=>zU2)⟩,trivial⟩ (fun bs31 G30=>?_)
 exact cF
def t6 (K:Nat) (x14:aH):Option aH:=
 some x14
def qK (K:Nat) (x28:Int):Option (LR aH aH):=
 (gU K x28).bind fun v31=>some (.ret v31)
def gE (K:Nat):Nat→Int→Int→Option Int
 |0,_,_=>none
 |k+1,x26,x27=>bif(decide (0<x27)) then((yK x26 x27).bind fun v34=>gE K k x27 v34) else(some x26)
def fC (K:Nat):Nat→aH→aH→Option (LR aH aH)
 |0,_,_=>none
 |k+1,x12,x13=>bif(decide (0<(x12.d.length:Int))) then(bif(decide ((x13.d.length:Int)≤2)) then(bif(decide ((x12.d.length:Int)≤2)) then((fY x13.d).bind fun v20=>(fY x12.d).bind fun v22=>(gE K K v20 v22).bind fun x28=>qK K x28) else((kV K x13 x12).bind fun v36=>fC K k v36.2 x12)) else((kV K x13 x12).bind fun v40=>fC K k v40.2 x12)) else(some (.go x13))
def rD (K:Nat) (a0:aH) (a1:aH):Option aH:=
 (bI K false a0.d).bind fun v4=>(bI K false a1.d).bind fun v7=>(fC K K v7 v4).bind fun o=>match o with| .ret r=>some r| .go x14=>t6 K x14
theorem aDN {K:Nat} {a0:aH} {a1:aH} {r:aH} (hF:rD K a0 a1=some r):Ct Tryz.prog 128 [.va (aH.e a0),.va (aH.e a1)] (.va (aH.e r)):=by
 unfold rD at hF
 refine aG Tryz.func128 rfl (by kernel_rfl) Tryz.ntmps128 rfl (fun w0 M0=>?_)
 refine aK (aR (cC rfl rfl trivial (fun b1=>?_)))
 refine cC rfl rfl trivial (fun b2=>?_)
 refine aO rfl tyZ30 (fun b3=>?_)
 obtain⟨v4,h5,hF⟩:=bF hF bW
 refine go ?_ ?_
 refine aO rfl tyZ30 (fun b6=>?_)
 obtain⟨v7,h8,hF⟩:=bF hF bW
 refine go ?_ ?_
 refine aO rfl tyZ30 (fun b9=>?_)
 refine go ?_ ?_
 refine aS (bV (fun H E=>∃(x14:aH),t6 K x14=some r∧H=[⟨some b6,1,30,2,1,(aH.e x14)⟩,⟨some b3,1,30,2,1,([pB false]++[pS cI ([]:List Int)])⟩]∧E=[(4,.vc (pP (some b3) 0)),(5,.vc (pP (some b6) 0))]) ?_ (fun Jj16=>?_))
 ·rintro _ _ ⟨x14,hF,rfl,rfl⟩
  unfold t6 at hF
  exact cF
 obtain⟨ol15,hL,hRl15⟩:=aZ hF
 refine gB (fun k a w=>∃(x12:aH),∃(x13:aH),fC K k x12 x13=some ol15∧hs _ [⟨some b9,1,30,2,1,(aH.e x12)⟩,⟨some b6,1,30,2,1,(aH.e x13)⟩,⟨some b3,1,30,2,1,([pB false]++[pS cI ([]:List Int)])⟩] [(4,.vc (pP (some b3) 0)),(5,.vc (pP (some b6) 0)),(6,.vc (pP (some b9) 0))] a w) K (fun a w ⟨_,_,hF,_⟩=>by cases hF) (fun k a w ⟨x12,x13,hF,hh⟩=>gC ?_ hh) (fun a w hh=>⟨v7,v4,hL,gJ [0,1,2] hh⟩)
 rw [fC.eq_2] at hF
 refine go ?_ ?_
 refine aJ hF rfl (fun h17 hF=>?_) (fun h17 hF=>?_)
 ·refine iP (aU (aS (go ?_ ?_)))
  refine eW hF (fun h18 hF=>?_) (fun h18 hF=>?_)
  ·refine go ?_ ?_
   refine aJ hF rfl (fun h19 hF=>?_) (fun h19 hF=>?_)
   ·obtain⟨v20,h21,hF⟩:=bF hF mO
    obtain⟨v22,h23,hF⟩:=bF hF mO
    refine go ?_ ?_
    refine aS (bV (fun H E=>∃(x28:Int),qK K x28=some ol15∧H=[⟨some b3,1,30,2,1,([pB false]++[pS cI ([]:List Int)])⟩]∧E=[(4,.vc (pP (some b3) 0)),(7,.vc (pI .i64 x28))]) ?_ (fun Jj30=>?_))
    ·rintro _ _ ⟨x28,hF,rfl,rfl⟩
     unfold qK at hF
     obtain⟨v31,h32,hF⟩:=bF hF l5
     exact cF
    obtain⟨x28',hL,hRl29⟩:=aZ hF
    refine gB (fun k a w=>∃(x26:Int),∃(x27:Int),gE K k x26 x27=some x28'∧hs _ [⟨some b3,1,30,2,1,([pB false]++[pS cI ([]:List Int)])⟩] [(4,.vc (pP (some b3) 0)),(7,.vc (pI .i64 x26)),(8,.vc (pI .i64 x27))] a w) K (fun a w ⟨_,_,hF,_⟩=>by cases hF) (fun k a w ⟨x26,x27,hF,hh⟩=>gC ?_ hh) (fun a w hh=>⟨v20,v22,hL,gJ [2] hh⟩)
    rw [gE.eq_2] at hF
    refine go ?_ ?_
    refine aJ hF rfl (fun h33 hF=>?_) (fun h33 hF=>?_)
    ·refine iP (aU (aS ?_))
     obtain⟨v34,h35,hF⟩:=aZ hF
     refine go ?_ ?_
     exact aM (fun a w hh=>⟨x27,v34,hF,gJ [0] hh⟩)
    refine cR ?_
    obtain rfl:=pZ hF
    exact qZ Jj30 ⟨x26,hRl29,rfl,rfl⟩ [0]
   obtain⟨v36,h37,hF⟩:=bF hF sZ
   refine go ?_ ?_
   refine aO rfl tyZ30 (fun b38=>?_)
   refine aO rfl tyZ30 (fun b39=>?_)
   refine go ?_ ?_
   exact aM (fun a w hh=>⟨v36.2,x12,hF,gJ [2,3,4] hh⟩)
  refine go ?_ ?_
  refine yC rfl ?_
  obtain⟨v40,h41,hF⟩:=bF hF sZ
  refine go ?_ ?_
  refine aO rfl tyZ30 (fun b42=>?_)
  refine aO rfl tyZ30 (fun b43=>?_)
  refine go ?_ ?_
  exact aM (fun a w hh=>⟨v40.2,x12,hF,gJ [2,3,4] hh⟩)
 refine cR ?_
 obtain rfl:=pZ hF
 exact qZ Jj16 ⟨x13,hRl15,rfl,rfl⟩ [1,2]
def oP (K:Nat) (a0:aH):Option aH:=
 (bI K (!a0.neg) a0.d).bind fun v3=>some v3
theorem aAu {K:Nat} {a0:aH} {r:aH} (hF:oP K a0=some r):Ct Tryz.prog 134 [.va (aH.e a0)] (.va (aH.e r)):=by
 unfold oP at hF
 refine aG Tryz.func134 rfl (by kernel_rfl) Tryz.ntmps134 rfl (fun w0 M0=>?_)
 refine aK (aR (cC rfl rfl trivial (fun b1=>?_)))
 refine aO rfl tyZ30 (fun b2=>?_)
 obtain⟨v3,h4,hF⟩:=bF hF bW
 exact cF
def mB (K:Nat) (a0:aH) (a1:aH) (x11:aH) (x12:aH):Option (aH×aH):=
 bif(a0.neg != a1.neg) then(some ((⟨(decide (0<(x12.d.length:Int))),x12.d⟩:aH),x11)) else(some ((⟨false,x12.d⟩:aH),x11))
def tT (K:Nat) (a0:aH) (a1:aH):Option (aH×aH):=
 bif((a1.d.length:Int)==0) then(some ((⟨false,([]:List Int)⟩:aH),(⟨false,([]:List Int)⟩:aH))) else((nP K a0.d a1.d).bind fun v6=>bif a0.neg then(bif(decide (0<(v6.2.d.length:Int))) then((qH K v6.1.d [1]).bind fun v21=>(eN K false v21).bind fun v23=>(mP K a1.d v6.2.d).bind fun v25=>(eN K false v25).bind fun v27=>mB K a0 a1 v27 v23) else(mB K a0 a1 v6.2 v6.1)) else(mB K a0 a1 v6.2 v6.1))
theorem aCt {K:Nat} {a0:aH} {a1:aH} {r:aH×aH} (hF:tT K a0 a1=some r):Ct Tryz.prog 138 [.va (aH.e a0),.va (aH.e a1)] (.t2 (.va (aH.e r.1)) (.va (aH.e r.2))):=by
 unfold tT at hF
 refine aG Tryz.func138 rfl (by kernel_rfl) Tryz.ntmps138 rfl (fun w0 M0=>?_)
 refine aK (aR (cC rfl rfl trivial (fun b1=>?_)))
 refine cC rfl rfl trivial (fun b2=>?_)
 refine aO rfl tyZ30 (fun b3=>?_)
 refine aO rfl tyZ30 (fun b4=>?_)
 refine go ?_ ?_
 refine aJ hF rfl (fun h5 hF=>?_) (fun h5 hF=>?_)
 ·refine aK (aR (aQ (dY (is:=[]) (xs:=[]) (ps:=[]) rfl tyB30 rfl rfl trivial rfl) trivial ?_))
  refine aQ (dY (is:=[]) (xs:=[]) (ps:=[]) rfl tyB30 rfl rfl trivial rfl) trivial ?_
  exact cF
 obtain⟨v6,h7,hF⟩:=bF hF xY
 refine go ?_ ?_
 refine aO rfl tyZ30 (fun b8=>?_)
 refine aO rfl tyZ30 (fun b9=>?_)
 refine mR (t_s 1 rfl rfl rfl tyA30.s) zU2 ?_
 refine mR (t_s 0 rfl rfl rfl tyA30.s) zU2 ?_
 refine bT (aU (aK (xZ (fun H E=>∃(x11:aH),∃(x12:aH),mB K a0 a1 x11 x12=some r∧H=[⟨some b9,1,30,2,1,(aH.e x11)⟩,⟨some b8,1,30,2,1,(aH.e x12)⟩,⟨some b4,1,30,2,1,([pB false]++[pS cI ([]:List Int)])⟩,⟨some b3,1,30,2,1,([pB false]++[pS cI ([]:List Int)])⟩,⟨some b2,1,30,2,1,(aH.e a1)⟩,⟨some b1,1,30,2,1,(aH.e a0)⟩]∧E=[(2,.vc (pP (some b1) 0)),(3,.vc (pP (some b2) 0)),(4,.vc (pP (some b3) 0)),(5,.vc (pP (some b4) 0)),(6,.vc (pP (some b8) 0)),(7,.vc (pP (some b9) 0))]) ?_ (fun Jj13=>?_))))
 ·rintro _ _ ⟨x11,x12,hF,rfl,rfl⟩
  unfold mB at hF
  refine go ?_ ?_
  refine aQ (aCg rfl Tryz.underlying4) zU2 ?_
  refine lH ?_
  refine eW hF (fun h14 hF=>?_) (fun h14 hF=>?_)
  ·refine go ?_ ?_
   refine sF (HsM [(0,fun G15=>[⟨some b9,1,30,2,1,(aH.e x11)⟩,⟨some b8,1,30,2,1,([pB (decide (0<(x12.d.length:Int)))]++[pS cI x12.d])⟩,⟨some b4,1,30,2,1,([pB false]++[pS cI ([]:List Int)])⟩,⟨some b3,1,30,2,1,([pB false]++[pS cI ([]:List Int)])⟩,⟨some b2,1,30,2,1,(aH.e a1)⟩,⟨some b1,1,30,2,1,(aH.e a0)⟩]),(1,fun G15=>[⟨some b9,1,30,2,1,(aH.e x11)⟩,⟨some b8,1,30,2,1,([pB (decide (0<(x12.d.length:Int)))]++[pS cI x12.d])⟩,⟨some b4,1,30,2,1,([pB false]++[pS cI ([]:List Int)])⟩,⟨some b3,1,30,2,1,([pB (decide (0<(x12.d.length:Int)))]++[pS cI x12.d])⟩,⟨some b2,1,30,2,1,(aH.e a1)⟩,⟨some b1,1,30,2,1,(aH.e a0)⟩])]) [2] [0,0,1,7] 3 1 [.v (.va ([pB (decide (0<(x12.d.length:Int)))]++[pS cI x12.d])),.v (.va (aH.e x11)),.g (fun _ _=>.any)] bC ⟨d1 0 (fX 1 2 rfl rfl rfl rfl (.agg tyA30)) zU1,⟨rfl,.run (L:=[0,1]) ⟨fun G15 A=>fX 0 2 rfl rfl rfl rfl (.agg tyA30),fun G15 A=>fX 0 2 rfl rfl rfl rfl (.agg tyA30),trivial⟩ (fun G15=>zU1)⟩,⟨rfl,.hvy [0] ⟨fun G15 A=>aDu (t_s 3 rfl rfl rfl tyA30.s),trivial⟩ (fun G15=>zU2)⟩,trivial⟩ (fun bs16 G15=>?_)
   exact cF
  refine go ?_ ?_
  refine sF (HsM [(0,fun G17=>[⟨some b9,1,30,2,1,(aH.e x11)⟩,⟨some b8,1,30,2,1,([pB false]++[pS cI x12.d])⟩,⟨some b4,1,30,2,1,([pB false]++[pS cI ([]:List Int)])⟩,⟨some b3,1,30,2,1,([pB false]++[pS cI ([]:List Int)])⟩,⟨some b2,1,30,2,1,(aH.e a1)⟩,⟨some b1,1,30,2,1,(aH.e a0)⟩]),(1,fun G17=>[⟨some b9,1,30,2,1,(aH.e x11)⟩,⟨some b8,1,30,2,1,([pB false]++[pS cI x12.d])⟩,⟨some b4,1,30,2,1,([pB false]++[pS cI ([]:List Int)])⟩,⟨some b3,1,30,2,1,([pB false]++[pS cI x12.d])⟩,⟨some b2,1,30,2,1,(aH.e a1)⟩,⟨some b1,1,30,2,1,(aH.e a0)⟩])]) [2] [0,0,1,7] 3 1 [.v (.va ([pB false]++[pS cI x12.d])),.v (.va (aH.e x11)),.g (fun _ _=>.any)] bC ⟨d1 0 (fX 1 2 rfl rfl rfl rfl (.agg tyA30)) zU1,⟨rfl,.run (L:=[0,1]) ⟨fun G17 A=>fX 0 2 rfl rfl rfl rfl (.agg tyA30),fun G17 A=>fX 0 2 rfl rfl rfl rfl (.agg tyA30),trivial⟩ (fun G17=>zU1)⟩,⟨rfl,.hvy [0] ⟨fun G17 A=>aDu (t_s 3 rfl rfl rfl tyA30.s),trivial⟩ (fun G17=>zU2)⟩,trivial⟩ (fun bs18 G17=>?_)
  exact cF
 refine go ?_ ?_
 refine eW hF (fun h19 hF=>?_) (fun h19 hF=>?_)
 ·refine go ?_ ?_
  refine aJ hF rfl (fun h20 hF=>?_) (fun h20 hF=>?_)
  ·refine go ?_ ?_
   refine aQ (oM (C:=cI) (xs:=[.const (.int .i64 (1))]) (ps:=[.vc (pI .i64 1)]) (zs:=[1]) rfl tyS22 rfl ⟨⟨trivial,rfl⟩,trivial⟩ rfl) ⟨lY _ _,trivial⟩ ?_
   obtain⟨v21,h22,hF⟩:=bF hF aCf
   refine aQ (cS rfl h22 rfl) zU2 ?_
   obtain⟨v23,h24,hF⟩:=bF hF iS
   refine aQ (cS rfl h24 rfl) ⟨k_B _,rfl,trivial⟩ ?_
   refine mR (t_s 1 rfl rfl rfl tyA30.s) zU2 ?_
   refine bT (aU (aR (aQ (iU (off:=0) (k:=1) rfl tyF30_1) zU1 ?_)))
   refine aQ (fX 4 1 rfl rfl rfl rfl (.one tyO22)) zU1 ?_
   refine aQ (iU (off:=0) (k:=1) rfl tyF30_1) zU1 ?_
   refine aQ (fX 0 1 rfl rfl rfl rfl (.one tyO22)) zU1 ?_
   obtain⟨v25,h26,hF⟩:=bF hF yZ
   refine aQ (cS rfl h26 rfl) zU2 ?_
   obtain⟨v27,h28,hF⟩:=bF hF iS
   refine aQ (cS rfl h28 rfl) ⟨k_B _,rfl,trivial⟩ ?_
   refine mR (t_s 0 rfl rfl rfl tyA30.s) zU2 ?_
   refine bT ?_
   exact qZ Jj13 ⟨v27,v23,hF,rfl,rfl⟩ [0,1,2,3,4,5]
  refine iP ?_
  exact qZ Jj13 ⟨v6.2,v6.1,hF,rfl,rfl⟩ [0,1,2,3,4,5]
 refine go ?_ ?_
 refine yC rfl ?_
 refine iP ?_
 exact qZ Jj13 ⟨v6.2,v6.1,hF,rfl,rfl⟩ [0,1,2,3,4,5]
def t5 (K:Nat):Option Bool:=
 some true
def gF (K:Nat) (a0:aH) (a1:aH):Nat→Int→Option (LR Bool Unit)
 |0,_=>none
 |k+1,x6=>bif(decide (x6<(a0.d.length:Int))) then((bL a0.d x6).bind fun v12=>(bL a1.d x6).bind fun v14=>bif(v12 != v14) then(some (.ret false)) else((aT (x6+1)).bind fun v17=>gF K a0 a1 k v17)) else(some (.go ()))
def nQ (K:Nat) (a0:aH) (a1:aH):Option Bool:=
 bif(a0.neg != a1.neg) then(some false) else(bif((a0.d.length:Int) != (a1.d.length:Int)) then(some false) else((gF K a0 a1 K 0).bind fun o=>match o with| .ret r=>some r| .go _=>t5 K))
theorem aAc {K:Nat} {a0:aH} {a1:aH} {r:Bool} (hF:nQ K a0 a1=some r):Ct Tryz.prog 148 [.va (aH.e a0),.va (aH.e a1)] (.vc (pB r)):=by
 unfold nQ at hF
 refine aG Tryz.func148 rfl (by kernel_rfl) Tryz.ntmps148 rfl (fun w0 M0=>?_)
 refine aK (aR (cC rfl rfl trivial (fun b1=>?_)))
 refine cC rfl rfl trivial (fun b2=>?_)
 refine go ?_ ?_
 refine aQ (aCg rfl Tryz.underlying4) zU2 ?_
 refine lH ?_
 refine eW hF (fun h3 hF=>?_) (fun h3 hF=>?_)
 ·refine go ?_ ?_
  refine oU rfl ?_
  exact cF
 refine go ?_ ?_
 refine aJ hF rfl (fun h4 hF=>?_) (fun h4 hF=>?_)
 ·exact cF
 refine go ?_ ?_
 refine aS (bV (fun H E=>t5 K=some r∧H=[]∧E=[]) ?_ (fun Jj8=>?_))
 ·rintro _ _ ⟨hF,rfl,rfl⟩
  unfold t5 at hF
  exact cF
 obtain⟨ol7,hL,hRl7⟩:=aZ hF
 refine gB (fun k a w=>∃(x6:Int),gF K a0 a1 k x6=some ol7∧hs _ [⟨some b2,1,30,2,1,(aH.e a1)⟩,⟨some b1,1,30,2,1,(aH.e a0)⟩] [(2,.vc (pP (some b1) 0)),(3,.vc (pP (some b2) 0)),(5,.vc (pI .i64 x6))] a w) K (fun a w ⟨_,hF,_⟩=>by cases hF) (fun k a w ⟨x6,hF,hh⟩=>gC ?_ hh) (fun a w hh=>⟨0,hL,gJ [0,1] hh⟩)
 rw [gF.eq_2] at hF
 refine go ?_ ?_
 refine aJ hF rfl (fun h9 hF=>?_) (fun h9 hF=>?_)
 ·refine go ?_ ?_
  refine aS (aK ?_)
  obtain⟨v12,h13,hF⟩:=aZ hF
  obtain⟨v14,h15,hF⟩:=aZ hF
  refine dr [0,1,0,7,15,0,32,0,224,480,1023] 11 0 ?_ (fun bs11 G10=>?_)
  refine bT (aU (aJ hF rfl (fun h16 hF=>?_) (fun h16 hF=>?_)))
  ·exact cF
  obtain⟨v17,h18,hF⟩:=aZ hF
  refine go ?_ ?_
  exact aM (fun a w hh=>⟨v17,hF,gJ [0,1] hh⟩)
 refine cR ?_
 obtain rfl:=pZ hF
 exact qZ Jj8 ⟨hRl7,rfl,rfl⟩ []
def mG (a0:Int):Option aH:=
 bif(decide (a0<0)) then((eY (decide (a0<0)) (wu (-(IntKind.u64.wrap a0)))).bind fun v3=>some v3) else((eY (decide (a0<0)) (IntKind.u64.wrap a0)).bind fun v5=>some v5)
theorem rT {a0:Int} {r:aH} (hF:mG a0=some r):Ct Tryz.prog 150 [.vc (pI .i64 a0)] (.va (aH.e r)):=by
 unfold mG at hF
 refine aG Tryz.func150 rfl (by kernel_rfl) Tryz.ntmps150 rfl (fun w0 M0=>?_)
 refine aK (aR (aO rfl tyZ30 (fun b1=>?_)))
 refine go ?_ ?_
 refine aQ (aER rfl ⟨_,Tryz.underlying3⟩ Tryz.underlying164) zU1 ?_
 refine go ?_ ?_
 refine aJ hF rfl (fun h2 hF=>?_) (fun h2 hF=>?_)
 ·refine aR (lH ?_)
  refine aQ (aTf rfl) zU1 ?_
  obtain⟨v3,h4,hF⟩:=bF hF kO
  exact cF
 obtain⟨v5,h6,hF⟩:=bF hF kO
 exact cF
def mH (K:Nat) (a0:aH) (a1:aH):Option Int:=
 bif(a0.neg != a1.neg) then(bif a0.neg then(some (-1)) else(bif(a0.neg != a1.neg) then(some 1) else(bif a0.neg then((fR K a1.d a0.d).bind fun v7=>some v7) else((fR K a0.d a1.d).bind fun v9=>some v9)))) else(bif(a0.neg != a1.neg) then(some 1) else(bif a0.neg then((fR K a1.d a0.d).bind fun v13=>some v13) else((fR K a0.d a1.d).bind fun v15=>some v15)))
theorem wW {K:Nat} {a0:aH} {a1:aH} {r:Int} (hF:mH K a0 a1=some r):Ct Tryz.prog 169 [.va (aH.e a0),.va (aH.e a1)] (.vc (pI .i64 r)):=by
 unfold mH at hF
 refine aG Tryz.func169 rfl (by kernel_rfl) Tryz.ntmps169 rfl (fun w0 M0=>?_)
 refine aK (aR (cC rfl rfl trivial (fun b1=>?_)))
 refine cC rfl rfl trivial (fun b2=>?_)
 refine go ?_ ?_
 refine aS (go ?_ ?_)
 refine aQ (aCg rfl Tryz.underlying4) zU2 ?_
 refine lH ?_
 refine eW hF (fun h3 hF=>?_) (fun h3 hF=>?_)
 ·refine go ?_ ?_
  refine aJ hF rfl (fun h4 hF=>?_) (fun h4 hF=>?_)
  ·exact cF
  refine go ?_ ?_
  refine aQ (aCg rfl Tryz.underlying4) zU2 ?_
  refine go ?_ ?_
  refine aJ hF rfl (fun h5 hF=>?_) (fun h5 hF=>?_)
  ·exact cF
  refine go ?_ ?_
  refine aJ hF rfl (fun h6 hF=>?_) (fun h6 hF=>?_)
  ·obtain⟨v7,h8,hF⟩:=bF hF nV
   exact cF
  obtain⟨v9,h10,hF⟩:=bF hF nV
  exact cF
 refine go ?_ ?_
 refine yC rfl ?_
 refine go ?_ ?_
 refine aQ (aCg rfl Tryz.underlying4) zU2 ?_
 refine go ?_ ?_
 refine aJ hF rfl (fun h11 hF=>?_) (fun h11 hF=>?_)
 ·exact cF
 refine go ?_ ?_
 refine aJ hF rfl (fun h12 hF=>?_) (fun h12 hF=>?_)
 ·obtain⟨v13,h14,hF⟩:=bF hF nV
  exact cF
 obtain⟨v15,h16,hF⟩:=bF hF nV
 exact cF
end Go.Proofs.YtldhbdgfpjoamaaGreat
set_option linter.unusedVariables false
set_option maxRecDepth 100000
namespace Go.Proofs.YtldhbdgfpjoamaaGreat
end Go.Proofs.YtldhbdgfpjoamaaGreat
set_option linter.unusedVariables false
namespace Go.Proofs.YtldhbdgfpjoamaaGreat
theorem ckN {n m:Nat} {x:Int} (h:x=n) (hn:n≤9000000000000000000):aT x=some (n:Int):=by
 subst h;exact k5 ⟨by omega,by omega⟩
theorem bD {k n:Nat} (h:n<k):∃k',k=k'+1∧n≤k':=⟨k-1,by omega,by omega⟩
theorem aCP {u:List Int} {i:Nat} {v:Int} (h:Dr u 0 i) (hl:i<u.length) (h0:0≤v) (h1:v<1000000000):Dr (u.set i v) 0 (i+1):=fun t ht=>by
 by_cases e:t=i
 ·subst e;rw [Nat.zero_add,eI hl];exact⟨h0,h1⟩
 ·rw [fF (by omega)];exact h t (by omega)
def mkG (neg:Bool) (n:Nat):aH:=if n=0 then⟨false,[]⟩ else⟨neg,cO n⟩
theorem oA (n:Nat):mkG false n=Z n:=by
 unfold mkG Z
 by_cases h:n=0
 ·subst h;simp [aAV]
 ·rw [if_neg h];simp
theorem aLp (n:Nat):mkG true n=Z (-n):=by
 unfold mkG Z
 by_cases h:n=0
 ·subst h;simp [aAV]
 ·rw [if_neg h];simp;omega
theorem vG (b:Bool) (n:Nat):mkG b n=Z (if b then -(n:Int) else n):=by
 cases b
 ·simpa using oA n
 ·simpa using aLp n
theorem aSd (u:List Int):∀(n:Nat),n≤u.length→n≤9000000000000→∃m:Nat,m≤n∧(∀i,m≤i→i<n→u.getD i 0=0)∧(m=0∨u.getD (m-1) 0≠0)∧∀K k,n<k→mQ K u k n=some (m:Int)
 |0,_,_=>⟨0,Nat.le_refl _,fun i _ h=>by omega,.inl rfl,fun K k hk=>by
   obtain⟨k',rfl,_⟩:=bD hk
   simp [mQ]⟩
 |n+1,h,hL=>by
  have e1:aT (((n+1:Nat):Int)-1)=some (n:Int):=ckN (m:=0) (by omega) (by omega)
  have e2:decide (0<((n+1:Nat):Int))=true:=decide_eq_true (by omega)
  have e3:=dK (xs:=u) (i:=n) (by omega)
  by_cases h0:u.getD n 0=0
  ·obtain⟨m,h1,h2,h3,h4⟩:=aSd u n (by omega) (by omega)
   refine⟨m,by omega,fun i a b=>?_,h3,fun K k hk=>?_⟩
   ·by_cases e:i=n
    ·subst e;exact h0
    ·exact h2 i a (by omega)
   ·obtain⟨k',rfl,hk'⟩:=bD hk
    simp only [mQ,e1,e2,e3,h0,cA,oB,beq_self_eq_true]
    exact h4 K k' (by omega)
  ·refine⟨n+1,by omega,fun i a b=>by omega,.inr (by simpa using h0),fun K k hk=>?_⟩
   obtain⟨k',rfl,hk'⟩:=bD hk
   have e4:(u.getD n 0==0)=false:=by simpa using h0
   simp only [mQ,e1,e2,e3,e4,cA,bU,oB]
theorem aVb {u:List Int} (hd:lW u) {m:Nat} (h1:m≤u.length) (h2:∀i,m≤i→i<u.length→u.getD i 0=0) (h3:m=0∨u.getD (m-1) 0≠0):u.take m=cO (vD u).toNat∧(m=0↔vD u=0):=by
 have hg:∀i,i<m→(u.take m).getD i 0=u.getD i 0:=fun i hi=>by
  simp only [List.getD_eq_getElem?_getD,List.getElem?_take];rw [if_pos hi]
 have hl:(u.take m).length=m:=by simp;omega
 have hok:lW (u.take m):=fun i=>by
  rcases Nat.lt_or_ge i m with h|h
  ·rw [hg i h];exact hd i
  ·rw [wE (by omega)];omega
 have hv:vD (u.take m)=vD u:=by
  unfold vD
  rw [hl]
  obtain⟨c,hc⟩:=Nat.exists_eq_add_of_le h1
  rw [hc,yN,aFJ (j:=0+m) (fun i hi=>h2 _ (by omega) (by omega))]
  rw [aEE (v:=u) (k:=0) (fun i hi=>by rw [Nat.zero_add];exact hg i hi)]
  simp
 have ht:Top (u.take m):=by
  rcases h3 with h|h
  ·subst h;exact .inl (by simp)
  ·by_cases h0:m=0
   ·subst h0;exact .inl (by simp)
   ·refine .inr ?_
    rw [hl,hg _ (by omega)];exact h
 have:=aQw hok ht
 rw [hv] at this
 refine⟨this.symm,fun h=>?_,fun h=>?_⟩
 ·subst h
  rw [←hv];simp;rfl
 ·rw [h] at this
  simp only [Int.toNat_zero,aAV] at this
  have:(u.take m).length=0:=by rw [←this];rfl
  omega
theorem z5 (neg:Bool) {u:List Int} (hd:lW u) (hL:u.length≤9000000000000):Ev (fun K=>eN K neg u) (mkG neg (vD u).toNat):=by
 obtain⟨m,h1,h2,h3,h4⟩:=aSd u u.length (Nat.le_refl _) hL
 obtain⟨h5,h6⟩:=aVb hd h1 h2 h3
 have hn:=hd.nonneg
 refine⟨u.length+1,fun K hK=>?_⟩
 simp only [eN,h4 K K (by omega),oB,wT]
 unfold mkG
 by_cases h0:m=0
 ·have e:((m:Int)==0)=true:=by simp [h0]
  rw [e,cA,if_pos (by have:=h6.1 h0;omega)]
 ·have e:((m:Int)==0)=false:=by simp [h0]
  rw [e,bU,aIe h1,oB,if_neg (by intro h;exact h0 (h6.2 (by omega))),h5]
theorem aC3 {out a b:List Int} {i:Nat} {c c' v:Int} (hl:i<out.length) (hI:W out 0 i+c*PB i=W a 0 i+W b 0 i) (hv:v+1000000000*c'=a.getD i 0+b.getD i 0+c):
  W (out.set i v) 0 (i+1)+c'*PB (i+1)=W a 0 (i+1)+W b 0 (i+1):=by
 rw [d7,d7,d7,Nat.zero_add,eI hl,z8 (.inr (by omega))]
 simp only [PB]
 grind
theorem aCn {a b:List Int} (ha:lW a) (hb:lW b) (hab:b.length≤a.length) (hL:a.length≤9000000000000):∀(t i:Nat) (out:List Int) (c:Int),i+t=a.length→out.length=a.length+1→Dr out 0 i→0≤c→c≤1→W out 0 i+c*PB i=W a 0 i+W b 0 i→
  ∃out' c',out'.length=a.length+1∧Dr out' 0 a.length∧0≤c'∧c'≤1∧W out' 0 a.length+c'*PB a.length=W a 0 a.length+W b 0 a.length∧∀K k,t<k→dU K a b k out c (i:Int)=some (out',c')
 |0,i,out,c,hi,ho,hD,hc0,hc1,hI=>by
  have:i=a.length:=by omega
  subst this
  refine⟨out,c,ho,hD,hc0,hc1,hI,fun K k hk=>?_⟩
  obtain⟨k',rfl,_⟩:=bD hk
  simp [dU]
 |t+1,i,out,c,hi,ho,hD,hc0,hc1,hI=>by
  have ha':=ha i
  have hb':=hb i
  have e1:decide ((i:Int)<(a.length:Int))=true:=decide_eq_true (by omega)
  have e2:=dK (xs:=a) (i:=i) (by omega)
  have e3:aT ((i:Int)+1)=some ((i+1:Nat):Int):=ckN (m:=0) (by omega) (by omega)
  have e4:=dK (xs:=out) (i:=i) (by omega)
  have e5:∀v,oO out (i:Int) v=some (out.set i v):=fun v=>uA (by omega)
  have e6:aT (a.getD i 0+c)=some (a.getD i 0+c):=k5 (by omega)
  have e7:aT (a.getD i 0+c+b.getD i 0)=some (a.getD i 0+c+b.getD i 0):=k5 (by omega)
  have e8:aT (a.getD i 0+c+b.getD i 0-1000000000)=some (a.getD i 0+c+b.getD i 0-1000000000):=k5 (by omega)
  have e9:aT (a.getD i 0+c-1000000000)=some (a.getD i 0+c-1000000000):=k5 (by omega)
  by_cases hbl:i<b.length
  ·have f1:decide ((i:Int)<(b.length:Int))=true:=decide_eq_true (by omega)
   have f2:=dK (xs:=b) (i:=i) hbl
   by_cases hs:1000000000≤a.getD i 0+c+b.getD i 0
   ·obtain⟨o,d,h1,h2,h3,h4,h5,h6⟩:=aCn ha hb hab hL t (i+1) (out.set i (a.getD i 0+c+b.getD i 0-1000000000)) 1 (by omega) (by simpa using ho) (aCP hD (by omega) (by omega) (by omega)) (by omega) (by omega) (aC3 (by omega) hI (by omega))
    refine⟨o,d,h1,h2,h3,h4,h5,fun K k hk=>?_⟩
    obtain⟨k',rfl,_⟩:=bD hk
    simp only [dU,e1,e2,e3,e4,e5,e6,e7,e8,f1,f2,decide_eq_true hs,cA,oB]
    exact h6 K k' (by omega)
   ·obtain⟨o,d,h1,h2,h3,h4,h5,h6⟩:=aCn ha hb hab hL t (i+1) (out.set i (a.getD i 0+c+b.getD i 0)) 0 (by omega) (by simpa using ho) (aCP hD (by omega) (by omega) (by omega)) (by omega) (by omega) (aC3 (by omega) hI (by omega))
    refine⟨o,d,h1,h2,h3,h4,h5,fun K k hk=>?_⟩
    obtain⟨k',rfl,_⟩:=bD hk
    simp only [dU,e1,e2,e3,e4,e5,e6,e7,f1,f2,decide_eq_false hs,cA,bU,oB]
    exact h6 K k' (by omega)
  ·have f1:decide ((i:Int)<(b.length:Int))=false:=decide_eq_false (by omega)
   have f2:b.getD i 0=0:=wE (by omega)
   by_cases hs:1000000000≤a.getD i 0+c
   ·obtain⟨o,d,h1,h2,h3,h4,h5,h6⟩:=aCn ha hb hab hL t (i+1) (out.set i (a.getD i 0+c-1000000000)) 1 (by omega) (by simpa using ho) (aCP hD (by omega) (by omega) (by omega)) (by omega) (by omega) (aC3 (by omega) hI (by omega))
    refine⟨o,d,h1,h2,h3,h4,h5,fun K k hk=>?_⟩
    obtain⟨k',rfl,_⟩:=bD hk
    simp only [dU,e1,e2,e3,e4,e5,e6,e9,f1,decide_eq_true hs,cA,bU,oB]
    exact h6 K k' (by omega)
   ·obtain⟨o,d,h1,h2,h3,h4,h5,h6⟩:=aCn ha hb hab hL t (i+1) (out.set i (a.getD i 0+c)) 0 (by omega) (by simpa using ho) (aCP hD (by omega) (by omega) (by omega)) (by omega) (by omega) (aC3 (by omega) hI (by omega))
    refine⟨o,d,h1,h2,h3,h4,h5,fun K k hk=>?_⟩
    obtain⟨k',rfl,_⟩:=bD hk
    simp only [dU,e1,e2,e3,e4,e5,e6,f1,decide_eq_false hs,cA,bU,oB]
    exact h6 K k' (by omega)
theorem aIT (n j m:Nat):Dr (List.replicate n 0) j m:=fun i _=>by
 simp only [List.getD_eq_getElem?_getD,List.getElem?_replicate];split<;>simp
theorem aMM {a b:List Int} (ha:lW a) (hb:lW b) (hab:b.length≤a.length) (hL:a.length≤60000000000):∃r,lW r∧r.length=a.length+1∧vD r=vD a+vD b∧Ev (fun K=>oW K a b) r:=by
 obtain⟨o,c,h1,h2,h3,h4,h5,h6⟩:=aCn ha hb hab (by omega) a.length 0 (List.replicate (a.length+1) 0) 0 (by omega) (by simp) (aIT _ _ _) (by omega) (by omega) (by simp [W])
 have e1:aT ((a.length:Int)+1)=some ((a.length+1:Nat):Int):=ckN (m:=0) (by omega) (by omega)
 have e2:yJ ((a.length+1:Nat):Int) (0:Int)=some (List.replicate (a.length+1) 0):=aBV (by omega)
 refine⟨o.set a.length c,Dr.ok ?_,by simpa using h1,?_,⟨a.length+1,fun K hK=>?_⟩⟩
 ·rw [show(o.set a.length c).length=a.length+1 by simpa using h1]
  exact aCP h2 (by omega) (by omega) (by omega)
 ·unfold vD
  rw [show(o.set a.length c).length=a.length+1 by simpa using h1,d7,Nat.zero_add,eI (by omega),z8 (.inr (by omega)),h5,aBI hab]
 ·have h6':=h6 K K (by omega)
  simp only [Int.natCast_zero] at h6'
  simp only [oW,e1,e2,oB,h6',tG,dK (xs:=o) (i:=a.length) (by omega),uA (xs:=o) (i:=a.length) (v:=c) (by omega)]
theorem aJv {a b:List Int} (ha:lW a) (hb:lW b) (hL:a.length≤60000000000) (hM:b.length≤60000000000):∃r,lW r∧r.length≤max a.length b.length+1∧vD r=vD a+vD b∧Ev (fun K=>qH K a b) r:=by
 by_cases h:a.length<b.length
 ·obtain⟨r,h1,h2,h3,h4⟩:=aMM hb ha (by omega) hM
  refine⟨r,h1,by omega,by omega,h4.congr fun K=>?_⟩
  simp only [qH,show decide ((a.length:Int)<(b.length:Int))=true from decide_eq_true (by omega),cA]
 ·obtain⟨r,h1,h2,h3,h4⟩:=aMM ha hb (by omega) hL
  refine⟨r,h1,by omega,by omega,h4.congr fun K=>?_⟩
  simp only [qH,show decide ((a.length:Int)<(b.length:Int))=false from decide_eq_false (by omega),bU]
end Go.Proofs.YtldhbdgfpjoamaaGreat
set_option linter.unusedVariables false
namespace Go.Proofs.YtldhbdgfpjoamaaGreat
theorem dT {p:Prop} [Decidable p] (h:p):decide p=true:=decide_eq_true h
theorem dF {p:Prop} [Decidable p] (h:¬p):decide p=false:=decide_eq_false h
theorem nT {x y:Int} (h:x≠y):(x != y)=true:=bne_iff_ne.2 h
theorem nF {x y:Int} (h:x=y):(x != y)=false:=by subst h;exact bne_self_eq_false x
theorem qT {x y:Int} (h:x=y):(x==y)=true:=beq_iff_eq.2 h
theorem qF {x y:Int} (h:x≠y):(x==y)=false:=beq_false_of_ne h
theorem aPx {u:List Int} {k n:Nat} {v:Int} (h:k<n) (hl:k<u.length):W (u.set k v) 0 n=W u 0 n+(v-u.getD k 0)*PB k:=by
 obtain⟨c,rfl⟩:=Nat.exists_eq_add_of_le h
 rw [yN,yN,d7,d7,Nat.zero_add,eI hl,z8 (.inr (by omega)),z8 (.inl (by omega))]
 grind
theorem aQE {n:Nat} {a:List Int} (h:n=a.length):cpL (List.replicate n 0) a=a:=by
 subst h;simp [cpL]
theorem aE9 {a b x1:List Int} (ha:lW a) (hb:lW b) (hbl:b.length≤a.length) (hv:vD b≤vD a) (hL:a.length≤9000000000000) (hx:(cpL x1 a).length=a.length):∀(t i:Nat) (out:List Int),i+t=a.length→out.length=a.length→Dr out 0 i→
  (∀s,i<s→out.getD s 0=a.getD s 0)→a.getD i 0-1≤out.getD i 0→out.getD i 0≤a.getD i 0→W out 0 a.length+W b 0 i=vD a→
  ∃r,r.length=a.length∧lW r∧vD r=vD a-vD b∧∀K k,t<k→eM K a b x1 k out (i:Int)=some r
 |0,i,out,hi,ho,hD,hs,h1,h2,hW=>by
  have:i=a.length:=by omega
  subst this
  refine⟨out,ho,Dr.ok (by rwa [ho]),?_,fun K k hk=>?_⟩
  ·unfold vD
   rw [ho]
   rw [aBI hbl] at hW
   have e1:vD b=W b 0 b.length:=rfl
   have e2:vD a=W a 0 a.length:=rfl
   omega
  ·obtain⟨k',rfl,_⟩:=bD hk
   simp [eM,hx]
 |t+1,i,out,hi,ho,hD,hs,h1,h2,hW=>by
  have ha':=ha i
  have hb':=hb i
  have e1:decide ((i:Int)<((cpL x1 a).length:Int))=true:=dT (by omega)
  have e3:aT ((i:Int)+1)=some ((i+1:Nat):Int):=ckN (m:=0) (by omega) (by omega)
  have key:∀o:List Int,o.length=a.length→Dr o 0 i→(∀s,i<s→o.getD s 0=a.getD s 0)→o.getD i 0=out.getD i 0-b.getD i 0→W o 0 a.length+W b 0 (i+1)=vD a→
    ∃r,r.length=a.length∧lW r∧vD r=vD a-vD b∧∀K k,t≤k→t<k→kS K (i:Int) (eM K a b x1 k) o=some r:=by
   intro o hlo hDo hso hoi hWo
   have e2:=dK (xs:=o) (i:=i) (by omega)
   by_cases hneg:o.getD i 0<0
   ·have e4:aT (o.getD i 0+1000000000)=some (o.getD i 0+1000000000):=k5 (by omega)
    have hlt:i+1<a.length:=by
     rcases Nat.lt_or_ge (i+1) a.length with h|h
     ·exact h
     ·exfalso
      have hia:a.length=i+1:=by omega
      have w1:=(aB4 hDo).2
      rw [hia] at hWo
      rw [d7,Nat.zero_add] at hWo
      have w2:vD b=W b 0 (i+1):=by rw [aBI (n:=i+1) (by omega)]
      have hp:=sP i
      have:o.getD i 0*PB i≤(-1)*PB i:=Int.mul_le_mul_of_nonneg_right (by omega) (by omega)
      have hbn:=hb.nonneg
      omega
    have e5:oO o (i:Int) (o.getD i 0+1000000000)=some (o.set i (o.getD i 0+1000000000)):=uA (by omega)
    have e6:bL (o.set i (o.getD i 0+1000000000)) ((i+1:Nat):Int)=some (a.getD (i+1) 0):=by
     rw [dK (by simp;omega),fF (by omega),hso _ (by omega)]
    have ha2:=ha (i+1)
    have e7:aT (a.getD (i+1) 0-1)=some (a.getD (i+1) 0-1):=k5 (by omega)
    have e8:oO (o.set i (o.getD i 0+1000000000)) ((i+1:Nat):Int) (a.getD (i+1) 0-1)=some ((o.set i (o.getD i 0+1000000000)).set (i+1) (a.getD (i+1) 0-1)):=uA (by simp;omega)
    obtain⟨r,g1,g2,g3,g4⟩:=aE9 ha hb hbl hv hL hx t (i+1) ((o.set i (o.getD i 0+1000000000)).set (i+1) (a.getD (i+1) 0-1)) (by omega) (by simpa using hlo)
     (fun s hs'=>by
      rw [fF (by omega)]
      exact aCP hDo (by omega) (by omega) (by omega) s hs')
     (fun s hs'=>by rw [fF (by omega),fF (by omega),hso s (by omega)])
     (by rw [eI (by simp;omega)];omega) (by rw [eI (by simp;omega)];omega)
     (by
      rw [aPx (k:=i+1) (by omega) (by simp;omega),aPx (k:=i) (by omega) (by omega),fF (by omega),hso (i+1) (by omega)]
      simp only [PB] at *
      have:o.getD i 0+1000000000-o.getD i 0=1000000000:=by omega
      rw [this]
      have:a.getD (i+1) 0-1-a.getD (i+1) 0=-1:=by omega
      rw [this]
      omega)
    refine⟨r,g1,g2,g3,fun K k hk hk'=>?_⟩
    simp only [kS,e2,e3,e4,e5,e6,e7,e8,dT hneg,cA,oB]
    exact g4 K k hk'
   ·obtain⟨r,g1,g2,g3,g4⟩:=aE9 ha hb hbl hv hL hx t (i+1) o (by omega) hlo (fun s hs'=>by
      by_cases e:s=i
      ·subst e;rw [Nat.zero_add];omega
      ·exact hDo s (by omega)) (fun s hs'=>hso s (by omega)) (by rw [hso _ (by omega)];omega) (by rw [hso _ (by omega)];omega) hWo
    refine⟨r,g1,g2,g3,fun K k hk hk'=>?_⟩
    simp only [kS,e2,e3,dF hneg,bU,oB]
    exact g4 K k hk'
  by_cases hib:i<b.length
  ·have f1:decide ((i:Int)<(b.length:Int))=true:=dT (by omega)
   have f2:=dK (xs:=b) (i:=i) hib
   have f3:=dK (xs:=out) (i:=i) (by omega)
   have f4:aT (out.getD i 0-b.getD i 0)=some (out.getD i 0-b.getD i 0):=k5 (by omega)
   have f5:oO out (i:Int) (out.getD i 0-b.getD i 0)=some (out.set i (out.getD i 0-b.getD i 0)):=uA (by omega)
   obtain⟨r,g1,g2,g3,g4⟩:=key (out.set i (out.getD i 0-b.getD i 0)) (by simpa using ho) (fun s hs'=>by rw [fF (by omega)];exact hD s hs') (fun s hs'=>by rw [fF (by omega)];exact hs s hs') (eI (by omega)) (by
    rw [aPx (by omega) (by omega),d7,Nat.zero_add]
    have:(out.getD i 0-b.getD i 0-out.getD i 0)=- b.getD i 0:=by omega
    rw [this,Int.neg_mul]
    omega)
   refine⟨r,g1,g2,g3,fun K k hk=>?_⟩
   obtain⟨k',rfl,_⟩:=bD hk
   simp only [eM,e1,f1,f2,f3,f4,f5,cA,oB]
   exact g4 K k' (by omega) (by omega)
  ·have f1:decide ((i:Int)<(b.length:Int))=false:=dF (by omega)
   have f2:b.getD i 0=0:=wE (by omega)
   obtain⟨r,g1,g2,g3,g4⟩:=key out ho hD hs (by omega) (by rw [d7,Nat.zero_add,f2];omega)
   refine⟨r,g1,g2,g3,fun K k hk=>?_⟩
   obtain⟨k',rfl,_⟩:=bD hk
   simp only [eM,e1,f1,cA,bU]
   exact g4 K k' (by omega) (by omega)
theorem aFh {a b:List Int} (ha:lW a) (hb:lW b) (hbl:b.length≤a.length) (hv:vD b≤vD a) (hL:a.length≤60000000000):
  ∃r,r.length=a.length∧lW r∧vD r=vD a-vD b∧Ev (fun K=>mP K a b) r:=by
 have e1:yJ (a.length:Int) (0:Int)=some (List.replicate a.length 0):=aBV (by omega)
 have e2:cpL (List.replicate a.length 0) a=a:=aQE rfl
 obtain⟨r,g1,g2,g3,g4⟩:=aE9 (x1:=List.replicate a.length 0) ha hb hbl hv (by omega) (by rw [e2]) a.length 0 a (by omega) rfl (fun s h=>by omega) (fun s h=>rfl) (by omega) (by omega) (by simp [W])
 refine⟨r,g1,g2,g3,⟨a.length+1,fun K hK=>?_⟩⟩
 have h:=g4 K K (by omega)
 simp only [Int.natCast_zero] at h
 simp only [mP,e1,e2,oB,h,rZ]
theorem aIV (x y:Int):iH x y=some (if x<y then -1 else if y<x then 1 else 0):=by
 unfold iH m9
 have e1:(x != x)=false:=by simp
 have e2:(y != y)=false:=by simp
 simp only [e1,e2,oB,bU]
 by_cases h:x<y
 ·rw [dT h,cA,if_pos h]
 ·rw [dF h,bU,if_neg h]
  by_cases h2:y<x
  ·rw [dT h2,cA,if_pos h2]
  ·rw [dF h2,bU,if_neg h2]
theorem aLV {u v:List Int} {n:Nat} (hu:lW u) (hv:lW v) (h:u.getD n 0<v.getD n 0):W u 0 (n+1)<W v 0 (n+1):=by
 rw [d7,d7,Nat.zero_add]
 have h1:=(aB4 (hu.dr 0 n)).2
 have h2:=(aB4 (hv.dr 0 n)).1
 have hp:=sP n
 have:(u.getD n 0+1)*PB n≤v.getD n 0*PB n:=Int.mul_le_mul_of_nonneg_right (by omega) (by omega)
 rw [Int.add_mul] at this
 omega
def w6 (x y:Int):Int:=if x<y then -1 else if y<x then 1 else 0
theorem aF6 {u v:List Int} (hu:lW u) (hv:lW v) (hl:u.length=v.length) (hL:u.length≤9000000000000):∀(j:Nat),j≤u.length→∀K k,j<k→
  fW K u v k ((j:Int)-1)=some (if W u 0 j<W v 0 j then .ret (-1) else if W v 0 j<W u 0 j then .ret 1 else .go ())
 |0,_,K,k,hk=>by
  obtain⟨k',rfl,_⟩:=bD hk
  simp [fW,W]
 |j+1,hj,K,k,hk=>by
  obtain⟨k',rfl,hk'⟩:=bD hk
  have e0:((j+1:Nat):Int)-1=(j:Int):=by omega
  have e1:decide (0≤(j:Int))=true:=dT (by omega)
  have e2:=dK (xs:=u) (i:=j) (by omega)
  have e3:=dK (xs:=v) (i:=j) (by omega)
  rw [e0]
  rcases Int.lt_trichotomy (u.getD j 0) (v.getD j 0) with h|h|h
  ·have:=aLV hu hv h
   have e4:(u.getD j 0 != v.getD j 0)=true:=nT (by omega)
   simp only [fW,e1,e2,e3,e4,cA,oB,aIV]
   rw [if_pos h,if_pos this]
  ·have e4:(u.getD j 0 != v.getD j 0)=false:=nF h
   have e5:aT ((j:Int)-1)=some ((j:Int)-1):=k5 (by omega)
   have ih:=aF6 hu hv hl hL j (by omega) K k' (by omega)
   have c1:(W u 0 (j+1)<W v 0 (j+1))↔(W u 0 j<W v 0 j):=by rw [d7,d7,Nat.zero_add,h];omega
   have c2:(W v 0 (j+1)<W u 0 (j+1))↔(W v 0 j<W u 0 j):=by rw [d7,d7,Nat.zero_add,h];omega
   simp only [fW,e1,e2,e3,e4,e5,cA,bU,oB,c1,c2]
   exact ih
  ·have:=aLV hv hu h
   have e4:(u.getD j 0 != v.getD j 0)=true:=nT (by omega)
   simp only [fW,e1,e2,e3,e4,cA,oB,aIV]
   rw [if_neg (by omega),if_pos h,if_neg (by omega),if_pos this]
theorem aIS {u v:List Int} (hu:lW u) (hv:lW v) (tv:Top v) (h:u.length<v.length):vD u<vD v:=by
 have h1:=hu.lt
 have h2:=tv.pos hv (by intro e;subst e;simp at h)
 have h3:=aD5 (a:=u.length) (b:=v.length-1) (by omega)
 omega
theorem aAY {u v:List Int} (hu:lW u) (hv:lW v) (tu:Top u) (tv:Top v) (hL:u.length≤9000000000000):Ev (fun K=>fR K u v) (w6 (vD u) (vD v)):=by
 refine⟨u.length+1,fun K hK=>?_⟩
 by_cases h:u.length=v.length
 ·have e1:((u.length:Int) != (v.length:Int))=false:=nF (by omega)
  have e2:aT ((u.length:Int)-1)=some ((u.length:Int)-1):=k5 (by omega)
  have e3:=aF6 hu hv h hL u.length (Nat.le_refl _) K K (by omega)
  simp only [fR,e1,e2,e3,bU,oB]
  unfold w6 vD
  rw [←h]
  by_cases h1:W u 0 u.length<W v 0 u.length
  ·rw [if_pos h1,if_pos h1]
  ·rw [if_neg h1,if_neg h1]
   by_cases h2:W v 0 u.length<W u 0 u.length
   ·rw [if_pos h2,if_pos h2]
   ·rw [if_neg h2,if_neg h2];rfl
 ·have e1:((u.length:Int) != (v.length:Int))=true:=nT (by omega)
  simp only [fR,e1,cA,oB,aIV]
  unfold w6
  rcases Nat.lt_or_ge u.length v.length with h1|h1
  ·have:=aIS hu hv tv h1
   rw [if_pos (by omega),if_pos this]
  ·have:=aIS hv hu tu (by omega)
   rw [if_neg (by omega),if_pos (by omega),if_neg (by omega),if_pos this]
theorem aGL {x y:Int} (h1:0≤x) (h2:x<1000000000) (h3:0≤y) (h4:y<1000000000):0≤x*y∧x*y≤999999998000000001:=by
 refine⟨Int.mul_nonneg h1 h3,?_⟩
 have:x*y≤999999999*999999999:=Int.mul_le_mul (by omega) (by omega) h3 (by omega)
 omega
theorem W1 (u:List Int) (j:Nat):W u j 1=u.getD j 0:=by simp [W,PB]
theorem W2 (u:List Int) (j:Nat):W u j 2=u.getD j 0+u.getD (j+1) 0*1000000000:=by simp [W,PB]
theorem vD0:vD []=0:=rfl
theorem vD1 (a:Int):vD [a]=a:=by show W _ 0 1=a;rw [W1];rfl
theorem vD2 (a b:Int):vD [a,b]=a+b*1000000000:=by show W _ 0 2=_;rw [W2];rfl
theorem aCU {u:List Int} (hu:lW u):pY u=some (if u.length≤2 then(vD u,true) else(0,false)):=by
 unfold pY
 have h0:=hu 0
 have h1:=hu 1
 match u,hu with
 |[],_=>simp [vD0]
 |[a],_=>
  have e:=dK (xs:=[a]) (i:=0) (by simp)
  simp only [Int.natCast_zero] at e
  simp [e,vD1]
 |[a,b],_=>
  simp at h0 h1
  have e:=dK (xs:=[a,b]) (i:=0) (by simp)
  have e':=dK (xs:=[a,b]) (i:=1) (by simp)
  simp only [Int.natCast_zero,Int.natCast_one] at e e'
  have f1:aT (b*1000000000)=some (b*1000000000):=k5 (by omega)
  have f2:aT (b*1000000000+a)=some (b*1000000000+a):=k5 (by omega)
  simp [e,e',vD2,f1,f2]
  omega
 |a::b::c::t,_=>
  have e1:(((a::b::c::t).length:Int)==0)=false:=qF (by simp;omega)
  have e2:(((a::b::c::t).length:Int)==1)=false:=qF (by simp;omega)
  have e3:(((a::b::c::t).length:Int)==2)=false:=qF (by simp;omega)
  simp only [e1,e2,e3,bU]
  rw [if_neg (by simp)]
theorem aSu {x:Int} (h0:0≤x) (h1:x≤18446744073709551615):wu x=x:=IntWalk.u64_in x ⟨h0,h1⟩
theorem aRB {x y:Int} (h0:0≤x) (h1:0<y) (h2:x≤18446744073709551615):uq x y=some (x/y):=by
 unfold uq
 rw [if_neg (by omega),Int.tdiv_eq_ediv_of_nonneg h0]
 have a:=Int.ediv_nonneg h0 (Int.le_of_lt h1)
 have b:=Int.ediv_le_self y h0
 rw [aSu a (by omega)]
theorem aMx {n:Nat} (h0:n≠0) (h:n<1000000000):cO n=[(n:Int)]:=by
 rw [yB h0,show n/1000000000=0 by omega,aAV,show n%1000000000=n by omega]
theorem tD (neg:Bool) {n:Nat} (h:n≤18446744073709551615):eY neg (n:Int)=some (mkG neg n):=by
 unfold eY mkG
 have i64:∀x:Int,0≤x→x≤9223372036854775807→IntKind.i64.wrap x=x:=fun x a b=>IntWalk.i64_in x ⟨by omega,b⟩
 by_cases h0:n=0
 ·subst h0;simp
 ·have e0:((n:Int)==0)=false:=qF (by omega)
  rw [e0,bU,if_neg h0]
  by_cases h1:n<1000000000
  ·rw [dT (by omega),cA,aMx h0 h1,i64 _ (by omega) (by omega)]
  ·rw [dF (by omega),bU,yB h0]
   have q1:uq (n:Int) 1000000000=some ((n:Int)/1000000000):=aRB (by omega) (by omega) (by omega)
   have r1:yK (n:Int) 1000000000=some ((n:Int)%1000000000):=mT (by omega) (by omega)
   by_cases h2:n<1000000000000000000
   ·rw [dT (by omega),cA]
    simp only [q1,r1,oB]
    rw [aMx (n:=n/1000000000) (by omega) (by omega),i64 _ (by omega) (by omega),i64 _ (by omega) (by omega)]
    simp
   ·rw [dF (by omega),bU]
    have q2:uq ((n:Int)/1000000000) 1000000000=some ((n:Int)/1000000000/1000000000):=aRB (by omega) (by omega) (by omega)
    have r2:yK ((n:Int)/1000000000) 1000000000=some ((n:Int)/1000000000%1000000000):=mT (by omega) (by omega)
    simp only [q1,r1,q2,r2,oB]
    rw [yB (n:=n/1000000000) (by omega),aMx (n:=n/1000000000/1000000000) (by omega) (by omega),i64 _ (by omega) (by omega),i64 _ (by omega) (by omega),i64 _ (by omega) (by omega)]
    simp
theorem aGR {n:Int} (h:-9223372036854775808≤n∧n≤9223372036854775807):mG n=some (Z n):=by
 unfold mG
 by_cases h0:n<0
 ·rw [dT h0,cA]
  have e1:wu (-(IntKind.u64.wrap n))=((-n).toNat:Int):=by
   show IntKind.u64.wrap (-(IntKind.u64.wrap n))=_
   simp only [IntKind.wrap,IntKind.bits,IntKind.signed]
   simp
   omega
  rw [e1,tD _ (by omega),oB,aLp]
  congr 2;omega
 ·rw [dF h0,bU]
  have e1:IntKind.u64.wrap n=((n.toNat:Nat):Int):=by rw [IntWalk.u64_in n (by omega)];omega
  rw [e1,tD _ (by omega),oB,oA]
  congr 2;omega
theorem Z_d (x:Int):(Z x).d=cO x.natAbs:=rfl
theorem wI (x:Int):(Z x).neg=decide (x<0):=rfl
theorem sY (x:Int):(Z x).d.length=dl x.natAbs:=rfl
theorem aOm (x:Int):uY (Z x)=some x.sign:=by
 unfold uY
 rw [wI,sY]
 by_cases h:x<0
 ·rw [dT h,cA,Int.sign_eq_neg_one_of_neg h]
 ·rw [dF h,bU]
  by_cases h0:x=0
  ·subst h0;rw [show Int.natAbs 0=0 from rfl,yH];rfl
  ·have:dl x.natAbs≠0:=by rw [Ne,xX];omega
   have e:((dl x.natAbs:Int)==0)=false:=qF (by omega)
   rw [e,bU,Int.sign_eq_one_of_pos (by omega)]
theorem aLU (x:Int):rV (Z x)=some (Z (-x)):=by
 unfold rV
 rw [wI,sY,Z_d]
 unfold Z
 rw [Int.natAbs_neg]
 by_cases h:x<0
 ·have:dl x.natAbs≠0:=by rw [Ne,xX];omega
  rw [dT h,dF (p:=-x<0) (by omega)];rfl
 ·rw [dF h]
  simp only [Bool.not_false,cA]
  congr 2
  by_cases h0:x=0
  ·subst h0;rw [show Int.natAbs 0=0 from rfl,yH];rfl
  ·have:dl x.natAbs≠0:=by rw [Ne,xX];omega
   rw [dT (by omega),dT (by omega)]
theorem aLA {x y:Int} (hx:dl x.natAbs≤50000000000) (hy:dl y.natAbs≤50000000000):Ev (fun K=>oD K (Z x) (Z y)) (Z (x+y)):=by
 have dx:=cM x.natAbs
 have dy:=cM y.natAbs
 have vx:=dW x.natAbs
 have vy:=dW y.natAbs
 have tx:=oN x.natAbs
 have ty:=oN y.natAbs
 have lx:(cO x.natAbs).length≤50000000000:=hx
 have ly:(cO y.natAbs).length≤50000000000:=hy
 unfold oD
 simp only [Z_d,wI]
 by_cases hs:(decide (x<0)==decide (y<0))=true
 ·simp only [hs,cA]
  obtain⟨r,h1,h2,h3,h4⟩:=aJv dx dy (by omega) (by omega)
  have h5:=z5 (decide (x<0)) h1 (by omega)
  refine Ev.bind h4 (Ev.bind h5 ?_)
  rw [vG]
  have hs':(x<0)↔(y<0):=by simpa using hs
  have:(if decide (x<0)=true then -(((vD r).toNat:Nat):Int) else(((vD r).toNat:Nat):Int))=x+y:=by
   by_cases h:x<0
   ·rw [if_pos (by simpa using h)];omega
   ·rw [if_neg (by simpa using h)];omega
  rw [this]
  exact Ev.pure _
 ·simp only [Bool.not_eq_true] at hs
  simp only [hs,bU]
  have hs':¬((x<0)↔(y<0)):=by simpa using hs
  refine Ev.bind (aAY dx dy tx ty (by omega)) ?_
  rw [vx,vy]
  unfold w6
  by_cases hlt:x.natAbs<y.natAbs
  ·have hle:(cO x.natAbs).length≤(cO y.natAbs).length:=rL (by omega)
   obtain⟨r,h1,h2,h3,h4⟩:=aFh dy dx hle (by omega) (by omega)
   have h5:=z5 (decide (y<0)) h2 (by omega)
   rw [if_pos (by omega)]
   refine Ev.congr (g:=fun K=>(mP K (cO y.natAbs) (cO x.natAbs)).bind fun v16=>(eN K (decide (y<0)) v16).bind fun v18=>some v18) ?_ (fun K=>rfl)
   refine Ev.bind h4 (Ev.bind h5 ?_)
   rw [vG]
   have:(if decide (y<0)=true then -(((vD r).toNat:Nat):Int) else(((vD r).toNat:Nat):Int))=x+y:=by
    by_cases h:y<0
    ·rw [if_pos (by simpa using h)];omega
    ·rw [if_neg (by simpa using h)];omega
   rw [this]
   exact Ev.pure _
  ·have hle:(cO y.natAbs).length≤(cO x.natAbs).length:=rL (by omega)
   obtain⟨r,h1,h2,h3,h4⟩:=aFh dx dy hle (by omega) (by omega)
   have h5:=z5 (decide (x<0)) h2 (by omega)
   have hc:decide ((if(x.natAbs:Int)<y.natAbs then(-1:Int) else if(y.natAbs:Int)<x.natAbs then 1 else 0)<0)=false:=by
    rw [if_neg (by omega)]
    split<;>rfl
   simp only [hc,bU]
   refine Ev.bind h4 (Ev.bind h5 ?_)
   rw [vG]
   have:(if decide (x<0)=true then -(((vD r).toNat:Nat):Int) else(((vD r).toNat:Nat):Int))=x+y:=by
    by_cases h:x<0
    ·rw [if_pos (by simpa using h)];omega
    ·rw [if_neg (by simpa using h)];omega
   rw [this]
   exact Ev.pure _
end Go.Proofs.YtldhbdgfpjoamaaGreat
set_option linter.unusedVariables false
namespace Go.Proofs.YtldhbdgfpjoamaaGreat
theorem aOG {v:Int} (h:0≤v):0≤v/1000000000∧0≤v%1000000000∧v%1000000000<1000000000∧v%1000000000+1000000000*(v/1000000000)=v:=by omega
theorem aJr {out a:List Int} {i:Nat} {c c' k v:Int} (hl:i<out.length) (hI:W out 0 i+c*PB i=k*W a 0 i) (hv:v+1000000000*c'=a.getD i 0*k+c):
  W (out.set i v) 0 (i+1)+c'*PB (i+1)=k*W a 0 (i+1):=by
 rw [d7,d7,Nat.zero_add,eI hl,z8 (.inr (by omega))]
 simp only [PB]
 grind
theorem aGA {a:List Int} {f:Int} (ha:lW a) (hf0:0≤f) (hf1:f<1000000000) (hL:a.length≤9000000000000):∀(t i:Nat) (out:List Int) (c:Int),i+t=a.length→out.length=a.length+1→Dr out 0 i→0≤c→c<1000000000→W out 0 i+c*PB i=f*W a 0 i→
  ∃out' c',out'.length=a.length+1∧Dr out' 0 a.length∧0≤c'∧c'<1000000000∧W out' 0 a.length+c'*PB a.length=f*vD a∧∀K k,t<k→jW K a f k out c (i:Int)=some (out',c')
 |0,i,out,c,hi,ho,hD,hc0,hc1,hI=>by
  have:i=a.length:=by omega
  subst this
  refine⟨out,c,ho,hD,hc0,hc1,hI,fun K k hk=>?_⟩
  obtain⟨k',rfl,_⟩:=bD hk
  simp [jW]
 |t+1,i,out,c,hi,ho,hD,hc0,hc1,hI=>by
  have ha':=ha i
  have hm:=aGL ha'.1 ha'.2 hf0 hf1
  obtain⟨d1,d2,d3,d4⟩:=aOG (v:=a.getD i 0*f+c) (by omega)
  have e1:decide ((i:Int)<(a.length:Int))=true:=dT (by omega)
  have e2:=dK (xs:=a) (i:=i) (by omega)
  have e3:aT ((i:Int)+1)=some ((i+1:Nat):Int):=ckN (m:=0) (by omega) (by omega)
  have e4:=dK (xs:=out) (i:=i) (by omega)
  have e5:∀v,oO out (i:Int) v=some (out.set i v):=fun v=>uA (by omega)
  have e6:aT (a.getD i 0*f)=some (a.getD i 0*f):=k5 (by omega)
  have e7:aT (a.getD i 0*f+c)=some (a.getD i 0*f+c):=k5 (by omega)
  have e8:yK (a.getD i 0*f+c) 1000000000=some ((a.getD i 0*f+c)%1000000000):=mT (by omega) (by omega)
  have e9:zX (a.getD i 0*f+c) 1000000000=some ((a.getD i 0*f+c)/1000000000):=tF (by omega) (by omega) (by omega)
  obtain⟨o,d,h1,h2,h3,h4,h5,h6⟩:=aGA ha hf0 hf1 hL t (i+1) (out.set i ((a.getD i 0*f+c)%1000000000)) ((a.getD i 0*f+c)/1000000000) (by omega) (by simpa using ho) (aCP hD (by omega) (by omega) (by omega)) (by omega) (by omega) (aJr (by omega) hI (by omega))
  refine⟨o,d,h1,h2,h3,h4,h5,fun K k hk=>?_⟩
  obtain⟨k',rfl,_⟩:=bD hk
  simp only [jW,e1,e2,e3,e4,e5,e6,e7,e8,e9,cA,oB]
  exact h6 K k' (by omega)
theorem aF9 {a:List Int} {f:Int} (ha:lW a) (hf0:0≤f) (hf1:f<1000000000) (hL:a.length≤60000000000):∃r,r.length=a.length+1∧lW r∧vD r=f*vD a∧Ev (fun K=>nW K a f) r:=by
 obtain⟨o,c,h1,h2,h3,h4,h5,h6⟩:=aGA ha hf0 hf1 (by omega) a.length 0 (List.replicate (a.length+1) 0) 0 (by omega) (by simp) (aIT _ _ _) (by omega) (by omega) (by simp [W])
 have e1:aT ((a.length:Int)+1)=some ((a.length+1:Nat):Int):=ckN (m:=0) (by omega) (by omega)
 have e2:yJ ((a.length+1:Nat):Int) (0:Int)=some (List.replicate (a.length+1) 0):=aBV (by omega)
 refine⟨o.set a.length c,by simpa using h1,Dr.ok ?_,?_,⟨a.length+1,fun K hK=>?_⟩⟩
 ·rw [show(o.set a.length c).length=a.length+1 by simpa using h1]
  exact aCP h2 (by omega) (by omega) (by omega)
 ·unfold vD at h5 ⊢
  rw [show(o.set a.length c).length=a.length+1 by simpa using h1,d7,Nat.zero_add,eI (by omega),z8 (.inr (by omega)),h5]
 ·have h6':=h6 K K (by omega)
  simp only [Int.natCast_zero] at h6'
  simp only [nW,e1,e2,oB,h6',rO,dK (xs:=o) (i:=a.length) (by omega),uA (xs:=o) (i:=a.length) (v:=c) (by omega)]
theorem aDM (u:List Int) (j n:Nat):W u j (n+1)=u.getD j 0+1000000000*W u (j+1) n:=by
 rw [Nat.add_comm n 1,yN,W1,show PB 1=1000000000 from by decide]
theorem aHc {a:List Int} {b:Int} (ha:lW a) (hb0:0<b) (hb1:b<1000000000) (hL:a.length≤9000000000000):∀(j:Nat) (q:List Int) (r:Int),j≤a.length→q.length=a.length→Dr q j (a.length-j)→0≤r→r<b→W a j (a.length-j)=b*W q j (a.length-j)+r→
  ∃q' r',q'.length=a.length∧lW q'∧0≤r'∧r'<b∧vD a=b*vD q'+r'∧∀K k,j<k→kR K a b k q r ((j:Int)-1)=some (q',r')
 |0,q,r,hj,hq,hD,hr0,hr1,hI=>by
  refine⟨q,r,hq,Dr.ok (by rw [hq];simpa using hD),hr0,hr1,?_,fun K k hk=>?_⟩
  ·simp only [Nat.sub_zero] at hI
   unfold vD
   rw [hq];exact hI
  ·obtain⟨k',rfl,_⟩:=bD hk
   simp [kR]
 |j+1,q,r,hj,hq,hD,hr0,hr1,hI=>by
  have ha':=ha j
  have e0:((j+1:Nat):Int)-1=(j:Int):=by omega
  have e1:decide (0≤(j:Int))=true:=dT (by omega)
  have e2:=dK (xs:=a) (i:=j) (by omega)
  have e3:aT ((j:Int)-1)=some ((j:Int)-1):=k5 (by omega)
  have e4:=dK (xs:=q) (i:=j) (by omega)
  have e5:∀v,oO q (j:Int) v=some (q.set j v):=fun v=>uA (by omega)
  have e6:aT (r*1000000000)=some (r*1000000000):=k5 (by omega)
  have e7:aT (r*1000000000+a.getD j 0)=some (r*1000000000+a.getD j 0):=k5 (by omega)
  have e8:yK (r*1000000000+a.getD j 0) b=some ((r*1000000000+a.getD j 0)%b):=mT (by omega) hb0
  have e9:zX (r*1000000000+a.getD j 0) b=some ((r*1000000000+a.getD j 0)/b):=tF (by omega) hb0 (by omega)
  have hq0:0≤(r*1000000000+a.getD j 0)/b:=Int.ediv_nonneg (by omega) (by omega)
  have hq1:(r*1000000000+a.getD j 0)/b<1000000000:=Int.ediv_lt_of_lt_mul hb0 (by
   have:(r+1)*1000000000≤b*1000000000:=Int.mul_le_mul_of_nonneg_right (by omega) (by omega)
   rw [Int.mul_comm 1000000000 b]
   omega)
  have hm0:=Int.emod_nonneg (r*1000000000+a.getD j 0) (show b≠0 by omega)
  have hm1:=Int.emod_lt_of_pos (r*1000000000+a.getD j 0) hb0
  have hdm:=Int.mul_ediv_add_emod (r*1000000000+a.getD j 0) b
  have es:a.length-j=(a.length-(j+1))+1:=by omega
  obtain⟨q',r',h1,h2,h3,h4,h5,h6⟩:=aHc ha hb0 hb1 hL j (q.set j ((r*1000000000+a.getD j 0)/b)) ((r*1000000000+a.getD j 0)%b) (by omega) (by simpa using hq)
   (fun i hi=>by
    by_cases e:i=0
    ·subst e;rw [Nat.add_zero,eI (by omega)];exact⟨hq0,hq1⟩
    ·rw [fF (by omega)]
     have:=hD (i-1) (by omega)
     rwa [show j+1+(i-1)=j+i by omega] at this) hm0 hm1 (by
    rw [es,aDM,aDM,eI (by omega),z8 (.inl (by omega)),hI]
    grind)
  refine⟨q',r',h1,h2,h3,h4,h5,fun K k hk=>?_⟩
  obtain⟨k',rfl,_⟩:=bD hk
  rw [e0]
  simp only [kR,e1,e2,e3,e4,e5,e6,e7,e8,e9,cA,oB]
  exact h6 K k' (by omega)
theorem aH0 {a:List Int} {b:Int} (ha:lW a) (hb0:0<b) (hb1:b<1000000000) (hL:a.length≤60000000000):∃q r,q.length=a.length∧lW q∧vD q=vD a/b∧r=vD a%b∧Ev (fun K=>rA K a b) (q,r):=by
 obtain⟨q,r,h1,h2,h3,h4,h5,h6⟩:=aHc ha hb0 hb1 (by omega) a.length (List.replicate a.length 0) 0 (Nat.le_refl _) (by simp) (aIT _ _ _) (by omega) hb0 (by simp [W])
 have e1:yJ (a.length:Int) (0:Int)=some (List.replicate a.length 0):=aBV (by omega)
 have e2:aT ((a.length:Int)-1)=some ((a.length:Int)-1):=k5 (by omega)
 refine⟨q,r,h1,h2,?_,?_,⟨a.length+1,fun K hK=>?_⟩⟩
 ·rw [h5,Int.add_comm,Int.add_mul_ediv_left _ _ (by omega),Int.ediv_eq_zero_of_lt h3 h4,Int.zero_add]
 ·rw [h5,Int.add_comm,Int.add_mul_emod_self_left,Int.emod_eq_of_lt h3 h4]
 ·have h6':=h6 K K (by omega)
  simp only [rA,e1,e2,oB,h6',sA]
theorem aPs {out o0 b:List Int} {i k:Nat} {c c' f v:Int} (hl:i+k<out.length) (hI:W out i k+c*PB k=W o0 i k+f*W b 0 k) (hv:v+1000000000*c'=o0.getD (i+k) 0+f*b.getD k 0+c):
  W (out.set (i+k) v) i (k+1)+c'*PB (k+1)=W o0 i (k+1)+f*W b 0 (k+1):=by
 rw [d7,d7,d7,eI hl,z8 (.inr (by omega)),Nat.zero_add]
 simp only [PB]
 grind
structure aIc (o0 b:List Int) (i:Nat) (f:Int) (out:List Int) (c:Int) (k:Nat):Prop where
 len:out.length=o0.length
 ok:lW out
 c0:0≤c
 c1:c<1000000000
 same:∀s,s<i∨i+k≤s→out.getD s 0=o0.getD s 0
 val:W out i k+c*PB k=W o0 i k+f*W b 0 k
theorem lW.set {u:List Int} {i:Nat} {v:Int} (h:lW u) (h0:0≤v) (h1:v<1000000000):lW (u.set i v):=fun t=>by
 rw [aBD];split
 ·exact⟨h0,h1⟩
 ·exact h t
theorem aIc.step {o0 b out:List Int} {i k:Nat} {f c:Int} (h:aIc o0 b i f out c k) (hl:i+k<o0.length) (hf0:0≤f) (hf1:f<1000000000) (hb:lW b):
  0≤out.getD (i+k) 0+f*b.getD k 0+c∧out.getD (i+k) 0+f*b.getD k 0+c≤999999999999999999∧0≤f*b.getD k 0∧f*b.getD k 0≤999999998000000001∧0≤out.getD (i+k) 0∧out.getD (i+k) 0<1000000000∧
  aIc o0 b i f (out.set (i+k) ((out.getD (i+k) 0+f*b.getD k 0+c)%1000000000)) ((out.getD (i+k) 0+f*b.getD k 0+c)/1000000000) (k+1):=by
 have hb':=hb k
 have hm:=aGL hf0 hf1 hb'.1 hb'.2
 have ho:=h.ok (i+k)
 have c0:=h.c0
 have c1:=h.c1
 obtain⟨d1,d2,d3,d4⟩:=aOG (v:=out.getD (i+k) 0+f*b.getD k 0+c) (by omega)
 have he:=h.same (i+k) (.inr (Nat.le_refl _))
 refine⟨by omega,by omega,hm.1,hm.2,ho.1,ho.2,by simpa using h.len,h.ok.set d2 d3,d1,by omega,fun s hs=>?_,by exact aPs (by have:=h.len;omega) h.val (by omega)⟩
 rw [fF (by omega)]
 exact h.same s (by omega)
theorem aMj {o0:List Int} {y:aH} {i:Nat} {f:Int} (hb:lW y.d) (hf0:0≤f) (hf1:f<1000000000) (hl:i+y.d.length≤o0.length) (hL:o0.length≤9000000000000):∀(t k:Nat) (out:List Int) (c:Int),k+t=y.d.length→aIc o0 y.d i f out c k→
  ∃out' c',aIc o0 y.d i f out' c' y.d.length∧∀K n,t<n→gY K y (i:Int) f n out c (k:Int)=some (out',c')
 |0,k,out,c,hk,hP=>by
  have:k=y.d.length:=by omega
  subst this
  refine⟨out,c,hP,fun K n hn=>?_⟩
  obtain⟨n',rfl,_⟩:=bD hn
  simp [gY]
 |t+1,k,out,c,hk,hP=>by
  obtain⟨g1,g2,g3,g4,g5,g6,g7⟩:=hP.step (by omega) hf0 hf1 hb
  have c0:=hP.c0
  have c1:=hP.c1
  have hlo:=hP.len
  generalize hv:out.getD (i+k) 0+f*y.d.getD k 0+c=v at *
  have e1:decide ((k:Int)<(y.d.length:Int))=true:=dT (by omega)
  have e2:=dK (xs:=y.d) (i:=k) (by omega)
  have e3:aT ((k:Int)+1)=some ((k+1:Nat):Int):=ckN (m:=0) (by omega) (by omega)
  have e4:aT ((i:Int)+(k:Int))=some ((i+k:Nat):Int):=ckN (m:=0) (by omega) (by omega)
  have e5:=dK (xs:=out) (i:=i+k) (by omega)
  have e6:aT (f*y.d.getD k 0)=some (f*y.d.getD k 0):=k5 (by omega)
  have e7:aT (out.getD (i+k) 0+f*y.d.getD k 0)=some (out.getD (i+k) 0+f*y.d.getD k 0):=k5 (by omega)
  have e8:aT (out.getD (i+k) 0+f*y.d.getD k 0+c)=some v:=by rw [hv];exact k5 (by omega)
  have e9:zX v 1000000000=some (v/1000000000):=tF (by omega) (by omega) (by omega)
  have e10:aT (v/1000000000*1000000000)=some (v/1000000000*1000000000):=k5 (by omega)
  have e11:aT (v-v/1000000000*1000000000)=some (v%1000000000):=by
   rw [show v-v/1000000000*1000000000=v%1000000000 by omega];exact k5 (by omega)
  have e12:oO out ((i+k:Nat):Int) (v%1000000000)=some (out.set (i+k) (v%1000000000)):=uA (by omega)
  obtain⟨o,d,h1,h2⟩:=aMj hb hf0 hf1 hl hL t (k+1) _ _ (by omega) g7
  refine⟨o,d,h1,fun K n hn=>?_⟩
  obtain⟨n',rfl,_⟩:=bD hn
  simp only [gY,e1,e2,e3,e4,e5,e6,e7,e8,e9,e10,e11,e12,cA,oB]
  exact h2 K n' (by omega)
structure aEO (a b out:List Int) (i:Nat):Prop where
 len:out.length=a.length+b.length
 ok:lW out
 zero:∀s,i+b.length≤s→out.getD s 0=0
 val:W out 0 (i+b.length)=W a 0 i*vD b
theorem aEO.start (a b:List Int):aEO a b (List.replicate (a.length+b.length) 0) 0 where
 len:=by simp
 ok:=fun i=>by simp only [List.getD_eq_getElem?_getD,List.getElem?_replicate];split<;>simp
 zero:=fun s _=>by simp only [List.getD_eq_getElem?_getD,List.getElem?_replicate];split<;>simp
 val:=by
  rw [aFJ]
  ·simp [W]
  ·intro i _;simp only [List.getD_eq_getElem?_getD,List.getElem?_replicate];split<;>simp
theorem aEO.row {a b out:List Int} {i:Nat} (h:aEO a b out i):aIc out b i (a.getD i 0) out 0 0 where
 len:=rfl
 ok:=h.ok
 c0:=Int.le_refl _
 c1:=by decide
 same:=fun _ _=>rfl
 val:=by simp [W]
theorem aEO.next {a b out out':List Int} {i:Nat} {c:Int} (h:aEO a b out i) (hi:i<a.length) (hr:aIc out b i (a.getD i 0) out' c b.length):aEO a b (out'.set (i+b.length) c) (i+1) where
 len:=by simpa using hr.len.trans h.len
 ok:=hr.ok.set hr.c0 hr.c1
 zero:=fun s hs=>by
  rw [fF (by omega),hr.same s (by omega)]
  exact h.zero s (by omega)
 val:=by
  have hlen:=hr.len.trans h.len
  rw [show i+1+b.length=(i+b.length)+1 by omega,d7,Nat.zero_add,eI (by omega),z8 (.inr (by omega)),yN,d7,Nat.zero_add]
  have h1:=hr.val
  have h2:=h.val
  rw [yN,Nat.zero_add] at h2
  have h3:W out' 0 i=W out 0 i:=aEE fun s hs=>by
   rw [Nat.zero_add];exact hr.same s (.inl hs)
  rw [h3,aCy]
  unfold vD at *
  grind
theorem aMP {x y:aH} (ha:lW x.d) (hb:lW y.d) (hL:x.d.length+y.d.length≤9000000000000):∀(t i:Nat) (out:List Int),i+t=x.d.length→aEO x.d y.d out i→
  ∃out',aEO x.d y.d out' x.d.length∧wQ (fun K k=>fS K x y k out (i:Int)) out'
 |0,i,out,hi,hP=>by
  have:i=x.d.length:=by omega
  subst this
  refine⟨out,hP,wQ.of 1 fun K n hn=>?_⟩
  obtain⟨n',rfl,_⟩:=bD (n:=0) hn
  simp [fS]
 |t+1,i,out,hi,hP=>by
  have ha':=ha i
  have hlo:=hP.len
  obtain⟨o,c,h1,h2⟩:=aMj hb ha'.1 ha'.2 (by omega) (by omega) y.d.length 0 out 0 (by omega) hP.row
  have hlo2:=h1.len
  obtain⟨r,h3,h4⟩:=aMP ha hb hL t (i+1) _ (by omega) (hP.next (by omega) h1)
  refine⟨r,h3,wQ.step ?_⟩
  have e1:decide ((i:Int)<(x.d.length:Int))=true:=dT (by omega)
  have e2:=dK (xs:=x.d) (i:=i) (by omega)
  have e3:aT ((i:Int)+1)=some ((i+1:Nat):Int):=ckN (m:=0) (by omega) (by omega)
  have e4:aT ((i:Int)+(y.d.length:Int))=some ((i+y.d.length:Nat):Int):=ckN (m:=0) (by omega) (by omega)
  have e5:=dK (xs:=o) (i:=i+y.d.length) (by omega)
  have e6:oO o ((i+y.d.length:Nat):Int) c=some (o.set (i+y.d.length) c):=uA (by omega)
  simp only [fS,e1,e2,cA,oB]
  refine wQ.bind (x:=(o,c)) (f:=fun K=>gY K y (i:Int) (x.d.getD i 0) K out 0 0) ⟨y.d.length+1,fun K hK=>h2 K K (by omega)⟩ ?_
  simp only [rR,e3,e4,e5,e6,oB]
  exact h4
theorem aIb (x y:Int):(if(decide (x<0) != decide (y<0))=true then -((x.natAbs:Int)*y.natAbs) else(x.natAbs:Int)*y.natAbs)=x*y:=by
 by_cases hx:x<0<;>by_cases hy:y<0
 ·rw [dT hx,dT hy,show(x.natAbs:Int)=-x by omega,show(y.natAbs:Int)=-y by omega];simp [Int.neg_mul_neg]
 ·rw [dT hx,dF hy,show(x.natAbs:Int)=-x by omega,show(y.natAbs:Int)=y by omega];simp [Int.neg_mul]
 ·rw [dF hx,dT hy,show(x.natAbs:Int)=x by omega,show(y.natAbs:Int)=-y by omega];simp [Int.mul_neg]
 ·rw [dF hx,dF hy,show(x.natAbs:Int)=x by omega,show(y.natAbs:Int)=y by omega];simp
theorem aPp {x y:Int} (hL:dl x.natAbs+dl y.natAbs≤60000000000):Ev (fun K=>(aT (((Z x).d.length:Int)+((Z y).d.length:Int))).bind fun v16=>(yJ v16 0).bind fun x18=>(fS K (Z x) (Z y) K x18 0).bind fun x37=>rC K (Z x) (Z y) x37) (Z (x*y)):=by
 have dx:=cM x.natAbs
 have dy:=cM y.natAbs
 have lx:(cO x.natAbs).length=dl x.natAbs:=rfl
 have ly:(cO y.natAbs).length=dl y.natAbs:=rfl
 obtain⟨r,h1,h2⟩:=aMP (x:=Z x) (y:=Z y) dx dy (by rw [sY,sY];omega) (Z x).d.length 0 _ (by omega) (aEO.start _ _)
 have e1:aT (((Z x).d.length:Int)+((Z y).d.length:Int))=some (((Z x).d.length+(Z y).d.length:Nat):Int):=ckN (m:=0) (by omega) (by rw [sY,sY];omega)
 have e2:yJ (((Z x).d.length+(Z y).d.length:Nat):Int) (0:Int)=some (List.replicate ((Z x).d.length+(Z y).d.length) 0):=aBV (by rw [sY,sY];omega)
 simp only [e1,e2,oB]
 refine Ev.bind h2.ev ?_
 have h3:=z5 ((Z x).neg != (Z y).neg) h1.ok (by rw [h1.len,sY,sY];omega)
 unfold rC
 refine Ev.bind h3 ?_
 have hv:vD r=x.natAbs*y.natAbs:=by
  have:=h1.val
  rw [←h1.len] at this
  have vx:=dW x.natAbs
  have vy:=dW y.natAbs
  unfold vD at *
  rw [this]
  show W (cO x.natAbs) 0 (cO x.natAbs).length*W (cO y.natAbs) 0 (cO y.natAbs).length=_
  rw [vx,vy]
 rw [vG,wI,wI,hv]
 have:(if(decide (x<0) != decide (y<0))=true then -((((x.natAbs:Int)*y.natAbs).toNat:Nat):Int) else((((x.natAbs:Int)*y.natAbs).toNat:Nat):Int))=x*y:=by
  have h0:0≤(x.natAbs:Int)*y.natAbs:=Int.mul_nonneg (by omega) (by omega)
  rw [Int.toNat_of_nonneg h0]
  exact aIb x y
 rw [this]
 exact Ev.pure _
theorem aHU (K:Nat) (y:aH) (x v:Int):∀(k:Nat) (s:List Int) (c i:Int),nY K y x v k s c i=gY K y x v k s c i
 |0,_,_,_=>rfl
 |k+1,s,c,i=>by simp only [nY,gY,aHU K y x v k]
theorem aHu (K:Nat) (x y:aH):∀(k:Nat) (s:List Int) (i:Int),lJ K x y k s i=fS K x y k s i
 |0,_,_=>rfl
 |k+1,s,i=>by simp only [lJ,fS,s9,rR,aHU,aHu K x y k]
theorem aCL {n:Nat} (h:(cO n).length=1):(cO n).getD 0 0=n∧n<1000000000:=by
 have h1:=dW n
 unfold vD at h1
 rw [h,W1] at h1
 have:=cM n 0
 omega
theorem aAW {x y:Int} (hL:dl x.natAbs+dl y.natAbs≤60000000000):Ev (fun K=>cP K (Z x) (Z y)) (Z (x*y)):=by
 have hc:=aPp hL
 unfold cP
 by_cases h1:(Z x).d.length=1
 ·have e1:(((Z x).d.length:Int)==1)=true:=qT (by omega)
  simp only [e1,cA]
  by_cases h2:(Z y).d.length=1
  ·have e2:(((Z y).d.length:Int)==1)=true:=qT (by omega)
   obtain⟨a1,a2⟩:=aCL h1
   obtain⟨b1,b2⟩:=aCL h2
   have r1:=dK (xs:=(Z x).d) (i:=0) (by omega)
   have r2:=dK (xs:=(Z y).d) (i:=0) (by omega)
   simp only [Int.natCast_zero] at r1 r2
   rw [Z_d] at r1 r2
   rw [a1] at r1
   rw [b1] at r2
   have hb:=aGL (x:=(x.natAbs:Int)) (y:=(y.natAbs:Int)) (by omega) (by omega) (by omega) (by omega)
   have e3:wu (IntKind.u64.wrap (x.natAbs:Int)*IntKind.u64.wrap (y.natAbs:Int))=((x.natAbs*y.natAbs:Nat):Int):=by
    rw [IntWalk.u64_in _ ⟨by omega,by omega⟩,IntWalk.u64_in _ ⟨by omega,by omega⟩,aSu hb.1 (by omega),Int.natCast_mul]
   have hb':x.natAbs*y.natAbs≤18446744073709551615:=by
    have:((x.natAbs*y.natAbs:Nat):Int)=x.natAbs*y.natAbs:=Int.natCast_mul _ _
    omega
   refine Ev.of fun K=>?_
   rw [Z_d] at e2
   simp only [e2,cA,r1,r2,Z_d,wI,oB,e3,tD _ hb']
   rw [vG]
   congr 2
   rw [Int.natCast_mul]
   exact aIb x y
  ·have e2:(((Z y).d.length:Int)==1)=false:=qF (by omega)
   simp only [e2,bU]
   exact hc
 ·have e1:(((Z x).d.length:Int)==1)=false:=qF (by omega)
  simp only [e1,bU,aHu]
  exact hc
end Go.Proofs.YtldhbdgfpjoamaaGreat
