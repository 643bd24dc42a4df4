/- Texts of the proof, part 2: K15 I1 IZ P2 P3 P4. -/
import Derived.Test.YtolfcbpgmfbgmaaGreatProg
import Derived.KernelRfl
import Derived.IntWalk
import Derived.Test.YtolfcbpgmfbgmaaGreatZ1
set_option linter.unusedSimpArgs false
set_option linter.unusedVariables false
namespace Go.Proofs.YtolfcbpgmfbgmaaGreat
structure GC (S:Sx) (c:Code) (κ:Kt) (H:List HA) (E:qI) (Q:Prop):Prop where
 h:Q→WC S c κ H E
structure GX (S:Sx) (e:Exit) (κ:Kt) (H:List HA) (E:qI) (Q:Prop):Prop where
 h:Q→WX S e κ H E
structure GL (S:Sx) (ops:Array Oper) (κ:Kt) (l:List Oper) (H:List HA) (E:qI) (Q:Prop):Prop where
 h:Q→WL S ops κ l H E
inductive D:Prop→Prop→Prop
 |mk {P Q:Prop} (h:Q→P):D P Q
theorem D.h {P Q:Prop} (h:D P Q):Q→P:=by cases h;assumption
section
variable {S:Sx} {κ:Kt} {H:List HA} {E:qI} {Q:Prop}
theorem sC {c:Code} (k:GC S c κ H E Q):D (WC S c κ H E) Q:=⟨k.h⟩
theorem sX {e:Exit} (k:GX S e κ H E Q):D (WX S e κ H E) Q:=⟨k.h⟩
theorem sL {ops:Array Oper} {l:List Oper} (k:GL S ops κ l H E Q):D (WL S ops κ l H E) Q:=⟨k.h⟩
theorem eC {c:Code}:GC S c κ H E (WC S c κ H E):=⟨fun q=>q⟩
theorem eX {e:Exit}:GX S e κ H E (WX S e κ H E):=⟨fun q=>q⟩
theorem eL {ops:Array Oper} {l:List Oper}:GL S ops κ l H E (WL S ops κ l H E):=⟨fun q=>q⟩
theorem aOI {x y:Code} (k:GC S x (.seq y κ) H E Q):GC S (.seq x y) κ H E Q:=⟨fun q=>aD (k.h q)⟩
theorem aNv {y:Code} (k:GC S y κ H E Q):GX S .normal (.seq y κ) H E Q:=⟨fun q=>aH (k.h q)⟩
theorem aMQ (k:GX S .normal κ H E Q):GC S .skip κ H E Q:=⟨fun q=>fN (k.h q)⟩
theorem aKy {l:Nat} (k:GX S .normal κ H E Q):GC S (.label l) κ H E Q:=⟨fun q=>aOi (k.h q)⟩
theorem aNh {id:Nat} (k:GX S .normal κ H E Q):GX S .normal (.blk id κ) H E Q:=⟨fun q=>aBc (k.h q)⟩
theorem aKd {c:Code} (k:GC S c (.sc κ) H E Q):GC S (.scope c) κ H E Q:=⟨fun q=>aJP (k.h q)⟩
theorem aOY (k:GX S .normal κ H E Q):GX S .normal (.sc κ) H E Q:=⟨fun q=>aR5 (k.h q)⟩
theorem aOX {id:Nat} {l:List Oper} (k:GL S l.toArray κ l H E Q):GC S (.region id l.toArray false) κ H E Q:=⟨fun q=>aI (k.h q)⟩
theorem aOP {ops:Array Oper} (k:GX S .normal κ H E Q):GL S ops κ [] H E Q:=⟨fun q=>aU (k.h q)⟩
end
def ev (E:qI):Operand→Option VP
 | .tmp d=>iE E d
 | .const (.int k n)=>some (.vc (pI k n))
 | .const (.bool b)=>some (.vc (pB b))
 |_=>none
theorem dA {E:qI}:∀{x:Operand} {p:VP},ev E x=some p→aFa E x p
 | .tmp d,p,h=>h
 | .const (.int k n),p,h=>by cases h;exact p6 k n
 | .const (.bool b),p,h=>by cases h;exact k_B b
def evs (E:qI):List Operand→Option (List VP)
 |[]=>some []
 |x::l=>(ev E x).bind fun p=>(evs E l).bind fun ps=>some (p::ps)
theorem aGw {E:qI}:∀{l:List Operand} {ps:List VP},evs E l=some ps→wF E (l.zip ps)∧l.length=ps.length
 |[],ps,h=>by cases h;exact⟨trivial,rfl⟩
 |x::l,ps,h=>by
  obtain⟨p,h1,h⟩:=Option.bind_eq_some_iff.1 h
  obtain⟨qs,h2,h⟩:=Option.bind_eq_some_iff.1 h
  cases h
  exact⟨⟨dA h1,(aGw h2).1⟩,congrArg (·+1) (aGw h2).2⟩
theorem xC {k:Nat} {l qs:List CP} (h:tB k l=some qs):qs.length=k:=(aAp h).2
inductive gN:List HA→Option Nat→HA→Prop
 |a {e:HA} {H:List HA} {β:Option Nat} (h:e.β=β):gN (e::H) β e
 |b {e x:HA} {H:List HA} {β:Option Nat} (h:gN H β e):gN (x::H) β e
theorem gN.at {H:List HA} {β:Option Nat} {e:HA} (h:gN H β e):∃i:Nat,H[i]?=some e∧e.β=β:=by
 induction h with
 |a h=>exact⟨0,rfl,h⟩
 |b _ ih=>obtain⟨i,h1,h2⟩:=ih;exact⟨i+1,by simpa using h1,h2⟩
inductive yG:List HA→Option Nat→HA→HA→List HA→Prop
 |a {e e':HA} {H:List HA} {β:Option Nat} (h:e.β=β):yG (e::H) β e e' (e'::H)
 |b {e e' x:HA} {H H':List HA} {β:Option Nat} (h:yG H β e e' H'):yG (x::H) β e e' (x::H')
theorem yG.at {H H':List HA} {β:Option Nat} {e e':HA} (h:yG H β e e' H'):∃i:Nat,H[i]?=some e∧e.β=β∧yD H i e'=some H':=by
 induction h with
 |a h=>exact⟨0,rfl,h,rfl⟩
 |@b e e' x H H' β _ ih=>
  obtain⟨i,h1,h2,h3⟩:=ih
  exact⟨i+1,by simpa using h1,h2,by simp only [yD,h3]⟩
inductive cU (ops:Array Oper) (E:qI):Option (Nat×Bool)→Prop
 |p:cU ops E none
 |g {j dj:Nat} {b:Bool} {og:Oper} (hj:ops[j]?=some og) (hdj:og.dst=some dj) (hl:iE E dj=some (.vc (pB b))):cU ops E (some (j,b))
theorem tY {α β γ:Type} {a:Option α} {b:α→Option β} {f:α→β→Option γ} {r:γ} (h:(a.bind fun x=>(b x).bind fun y=>f x y)=some r):∃x,a=some x∧∃y,b x=some y∧f x y=some r:=by
 obtain⟨x,h1,h⟩:=aP h
 exact⟨x,h1,aP h⟩
theorem bn3 {α β γ δ:Type} {a:Option α} {b:α→Option β} {c:α→β→Option γ} {f:α→β→γ→Option δ} {r:δ} (h:(a.bind fun x=>(b x).bind fun y=>(c x y).bind fun z=>f x y z)=some r):∃x,a=some x∧∃y,b x=some y∧∃z,c x y=some z∧f x y z=some r:=by
 obtain⟨x,h1,h⟩:=aP h
 exact⟨x,h1,tY h⟩
theorem bn4 {α β γ δ ε:Type} {a:Option α} {b:α→Option β} {c:α→β→Option γ} {d:α→β→γ→Option δ} {f:α→β→γ→δ→Option ε} {r:ε} (h:(a.bind fun x=>(b x).bind fun y=>(c x y).bind fun z=>(d x y z).bind fun t=>f x y z t)=some r):∃x,a=some x∧∃y,b x=some y∧∃z,c x y=some z∧∃t,d x y z=some t∧f x y z t=some r:=by
 obtain⟨x,h1,h⟩:=aP h
 exact⟨x,h1,bn3 h⟩
theorem tX {α β:Type} {o:Option α} {f:α→Option β} {v:α} {r:β} (h:o=some v) (k:o.bind f=some r):f v=some r:=by rw [h] at k;exact k
theorem bC {α β:Type} {o:Option α} {f:α→Option β} {q:β} {C:α→Prop} (h:o.bind f=some q) (c:∀{r:α},o=some r→C r):∃v,C v∧f v=some q:=by
 obtain⟨v,h1,h⟩:=aP h
 exact⟨v,c h1,h⟩
section
variable {S:Sx} {κ:Kt} {H H':List HA} {E:qI} {ops:Array Oper} {rest:List Oper} {Q:Prop} {ty:TypeId} {pos:String} {af:Array Edge} {g:Option (Nat×Bool)} {d:Nat}
theorem kE {op:Op} {ins:List (Operand×VP)} {out:VP} (t:Tr S ⟨some d,op,ty,pos,af,g⟩ H H' ins out) (hi:wF E ins) (hg:cU ops E g) (hN:Nat.blt d S.N=true) (k:GL S ops κ rest H' ((d,out)::E) Q):GL S ops κ (⟨some d,op,ty,pos,af,g⟩::rest) H E Q:=by
 refine⟨fun q=>?_⟩
 cases hg with
 |p=>exact aG t hi (k.h q) rfl rfl hN
 |g hj hdj hl=>exact uX t hi (k.h q) rfl hj hdj hl rfl hN
theorem b_n {op:Op} {j dj:Nat} {b b':Bool} {og:Oper} (hj:ops[j]?=some og) (hdj:og.dst=some dj) (hl:iE E dj=some (.vc (pB b'))) (hb:(b' != b)=true) (hN:Nat.blt d S.N=true) (k:GL S ops κ rest H ((d,.un)::E) Q):GL S ops κ (⟨some d,op,ty,pos,af,some (j,b)⟩::rest) H E Q:=⟨fun q=>aAU (k.h q) rfl hj hdj hl hb rfl hN⟩
theorem b_u {op:Op} {j dj:Nat} {b:Bool} {og:Oper} (hj:ops[j]?=some og) (hdj:og.dst=some dj) (hl:iE E dj=some .un) (hN:Nat.blt d S.N=true) (k:GL S ops κ rest H ((d,.un)::E) Q):GL S ops κ (⟨some d,op,ty,pos,af,some (j,b)⟩::rest) H E Q:=⟨fun q=>aRL (k.h q) rfl hj hdj hl rfl hN⟩
end
class Mix (P:Program):Prop where
 h:P.follows .mixedOrders=true
def sG (l:List Oper) (ms:List Nat) (E:qI) (outs:List Ou) (G:Gh) (i:Nat):Operand→Option VP
 | .tmp d=>y4 l ms E outs G i d
 | .const (.int k n)=>some (.vc (pI k n))
 | .const (.bool b)=>some (.vc (pB b))
 |_=>none
theorem bL {l:List Oper} {ms:List Nat} {E:qI} {outs:List Ou} {G:Gh} {i:Nat}:∀{x:Operand} {p:VP},sG l ms E outs G i x=some p→aOV l ms E outs G i x p
 | .tmp d,p,h=>h
 | .const (.int k n),p,h=>by cases h;exact p6 k n
 | .const (.bool b),p,h=>by cases h;exact k_B b
def aQr (l:List Oper) (ms:List Nat) (E:qI) (outs:List Ou) (G:Gh) (i:Nat):List Operand→Option (List VP)
 |[]=>some []
 |x::r=>(sG l ms E outs G i x).bind fun p=>(aQr l ms E outs G i r).bind fun ps=>some (p::ps)
theorem aEd {l:List Oper} {ms:List Nat} {E:qI} {outs:List Ou} {G:Gh} {i:Nat}:∀{r:List Operand} {ps:List VP},aQr l ms E outs G i r=some ps→aEl l ms E outs G i (r.zip ps)∧r.length=ps.length
 |[],ps,h=>by cases h;exact⟨trivial,rfl⟩
 |x::r,ps,h=>by
  obtain⟨p,h1,h⟩:=Option.bind_eq_some_iff.1 h
  obtain⟨qs,h2,h⟩:=Option.bind_eq_some_iff.1 h
  cases h
  exact⟨⟨bL h1,(aEd h2).1⟩,congrArg (·+1) (aEd h2).2⟩
theorem gN.app {H A:List HA} {β:Option Nat} {e:HA} (h:gN H β e):gN (H++A) β e:=by
 induction h with
 |a h=>exact .a h
 |b _ ih=>exact .b ih
inductive GD (l:List Oper) (ms:List Nat) (E:qI) (outs:List Ou) (i:Nat):Option (Nat×Bool)→Prop
 |p:GD l ms E outs i none
 |g {j d:Nat} {b:Bool} (hd:(l[j]?).bind (·.dst)=some d) (hl:∀G,y4 l ms E outs G i d=some (.vc (pB b))):GD l ms E outs i (some (j,b))
structure DN (S:Sx) (H:List HA) (l0:List Oper) (ms:List Nat) (E:qI) (outs:List Ou) (n i:Nat) (l:List Oper) (r:List Ou):Prop where
 h:aGI S (fun _ _=>H) [] l0 ms E outs i l r
 len:r.length=n
section
variable {S:Sx} {H:List HA} {l0 l:List Oper} {ms:List Nat} {E:qI} {outs r:List Ou} {n i d:Nat} {ty:TypeId} {pos:String} {af:Array Edge} {g:Option (Nat×Bool)}
theorem aPE (hr:r=[]):DN S H l0 ms E outs 0 i l r:=by subst hr;exact⟨by cases l<;>trivial,rfl⟩
theorem aGK {o:Oper} {q:Ou} (h1:o.dst.all (Nat.blt · S.N)=true) (h2:DOp S (fun _ _=>H) [] l0 ms E outs i o q) (k:DN S H l0 ms E outs n (i+1) l r):DN S H l0 ms E outs (n+1) i (o::l) (q::r):=⟨⟨⟨h1,h2⟩,k.h⟩,congrArg (·+1) k.len⟩
theorem gU {op:Op} {ins:List (Operand×VP)} {out:VP} (t:∀A,Tr S ⟨some d,op,ty,pos,af,g⟩ (H++A) (H++A) ins out) (hs:∀G,aEl l0 ms E outs G i ins) (hN:Nat.blt d S.N=true) (hg:GD l0 ms E outs i g) (h1:k9 ms [] i [0]=true) {r0:List Ou} (hr:r0=.v out::r) (k:DN S H l0 ms E outs n (i+1) l r):DN S H l0 ms E outs (n+1) i (⟨some d,op,ty,pos,af,g⟩::l) r0:=by
 subst hr
 refine aGK hN ?_ k
 cases hg with
 |p=>exact .run (L:=[0]) (ins:=fun _=>ins) ⟨fun _ A=>t A,trivial⟩ hs rfl h1 rfl
 |g hd hl=>exact .runG (L:=[0]) (ins:=fun _=>ins) ⟨fun _ A=>t A,trivial⟩ hs rfl hd hl h1 rfl
theorem e_n {r0:List Ou} {op:Op} {j dj:Nat} {b b':Bool} (hd:(l0[j]?).bind (·.dst)=some dj) (hl:∀G,y4 l0 ms E outs G i dj=some (.vc (pB b'))) (hb:(b' != b)=true) (hN:Nat.blt d S.N=true) (hr:r0=.v .un::r) (k:DN S H l0 ms E outs n (i+1) l r):DN S H l0 ms E outs (n+1) i (⟨some d,op,ty,pos,af,some (j,b)⟩::l) r0:=hr▸aGK hN (.skipN rfl hd hl hb rfl) k
theorem e_u {r0:List Ou} {op:Op} {j dj:Nat} {b:Bool} (hd:(l0[j]?).bind (·.dst)=some dj) (hl:∀G,y4 l0 ms E outs G i dj=some .un) (hN:Nat.blt d S.N=true) (hr:r0=.v .un::r) (k:DN S H l0 ms E outs n (i+1) l r):DN S H l0 ms E outs (n+1) i (⟨some d,op,ty,pos,af,some (j,b)⟩::l) r0:=hr▸aGK hN (.skipU rfl hd hl rfl) k
end
section
variable {S:Sx} {κ:Kt} {H H':List HA} {E:qI} {ops:Array Oper} {rest:List Oper} {Q:Prop} {ty:TypeId} {pos:String} {af:Array Edge} {g:Option (Nat×Bool)} {d:Nat} {l0 l:List Oper} {ms:List Nat} {outs ro:List Ou} {n i:Nat}
theorem aSe {x:Operand} {p:VP} (hx:ev E x=some p) (hN:Nat.blt d S.N=true) (hg:cU ops E g) (k:GL S ops κ rest H ((d,p)::E) Q):GL S ops κ (⟨some d,.move x,ty,pos,af,g⟩::rest) H E Q:=
 kE (aM (.inl rfl)) ⟨dA hx,trivial⟩ hg hN k
theorem aQZ {x:Operand} {p:VP} (hx:∀G,sG l0 ms E outs G i x=some p) (hN:Nat.blt d S.N=true) (hg:GD l0 ms E outs i g) (h1:k9 ms [] i [0]=true) {r0:List Ou} (hr:r0=.v (p)::ro) (kk:DN S H l0 ms E outs n (i+1) l ro):DN S H l0 ms E outs (n+1) i (⟨some d,.move x,ty,pos,af,g⟩::l) r0:=
 gU (fun A=>aM (.inl rfl)) (fun G=>⟨bL (hx G),trivial⟩) hN hg h1 hr kk
theorem aRV {x:Operand} {b:Bool} {w:Bool} (hx:∀G,sG l0 ms E outs G i x=some (.vc (pB b))) (hN:Nat.blt d S.N=true) (hg:GD l0 ms E outs i g) (h1:k9 ms [] i [0]=true) (hb:b=w) {r0:List Ou} (hr:r0=.v (.vc (pB w))::ro) (kk:DN S H l0 ms E outs n (i+1) l ro):DN S H l0 ms E outs (n+1) i (⟨some d,.move x,ty,pos,af,g⟩::l) r0:=
 gU (fun A=>mE (aM (.inl rfl)) hb) (fun G=>⟨bL (hx G),trivial⟩) hN hg h1 hr kk
theorem aRM {x:Operand} {p:VP} (hx:ev E x=some p) (hN:Nat.blt d S.N=true) (hg:cU ops E g) (k:GL S ops κ rest H ((d,p)::E) Q):GL S ops κ (⟨some d,.assign x,ty,pos,af,g⟩::rest) H E Q:=
 kE (aM (.inr rfl)) ⟨dA hx,trivial⟩ hg hN k
theorem aQ4 {x:Operand} {p:VP} (hx:∀G,sG l0 ms E outs G i x=some p) (hN:Nat.blt d S.N=true) (hg:GD l0 ms E outs i g) (h1:k9 ms [] i [0]=true) {r0:List Ou} (hr:r0=.v (p)::ro) (kk:DN S H l0 ms E outs n (i+1) l ro):DN S H l0 ms E outs (n+1) i (⟨some d,.assign x,ty,pos,af,g⟩::l) r0:=
 gU (fun A=>aM (.inr rfl)) (fun G=>⟨bL (hx G),trivial⟩) hN hg h1 hr kk
theorem aRg {x:Operand} {b:Bool} {w:Bool} (hx:∀G,sG l0 ms E outs G i x=some (.vc (pB b))) (hN:Nat.blt d S.N=true) (hg:GD l0 ms E outs i g) (h1:k9 ms [] i [0]=true) (hb:b=w) {r0:List Ou} (hr:r0=.v (.vc (pB w))::ro) (kk:DN S H l0 ms E outs n (i+1) l ro):DN S H l0 ms E outs (n+1) i (⟨some d,.assign x,ty,pos,af,g⟩::l) r0:=
 gU (fun A=>mE (aM (.inr rfl)) hb) (fun G=>⟨bL (hx G),trivial⟩) hN hg h1 hr kk
theorem aQM {α:Type} {C:Cd α} {t e bytes:Nat} {x y:Operand} {xs:List α} {j:Int} {z:α} {k:IntKind} (hx:ev E x=some (.vc (pS C xs))) (hy:ev E y=some (.vc (pI k j))) (ht:TyS S.P t e C.n bytes) (hN:Nat.blt d S.N=true) (hg:cU ops E g) (hj:bK xs j=some z) (k:GL S ops κ rest H ((d,.vc (pM (C.e z)))::E) Q):GL S ops κ (⟨some d,.indexAddr t x y,ty,pos,af,g⟩::rest) H E Q:=
 kE (aDu rfl ht hj) ⟨dA hx,dA hy,trivial⟩ hg hN k
theorem aRt {α:Type} {C:Cd α} {t e bytes:Nat} {x y:Operand} {xs:List α} {j:Int} {z:α} {k:IntKind} (hx:∀G,sG l0 ms E outs G i x=some (.vc (pS C xs))) (hy:∀G,sG l0 ms E outs G i y=some (.vc (pI k j))) (ht:TyS S.P t e C.n bytes) (hN:Nat.blt d S.N=true) (hg:GD l0 ms E outs i g) (h1:k9 ms [] i [0]=true) (hj:bK xs j=some z) {r0:List Ou} (hr:r0=.v (.vc (pM (C.e z)))::ro) (kk:DN S H l0 ms E outs n (i+1) l ro):DN S H l0 ms E outs (n+1) i (⟨some d,.indexAddr t x y,ty,pos,af,g⟩::l) r0:=
 gU (fun A=>aDu rfl ht hj) (fun G=>⟨bL (hx G),bL (hy G),trivial⟩) hN hg h1 hr kk
theorem aPt {s f k:Nat} {x:Operand} {ps:List CP} (hx:ev E x=some (.vc (pM ps))) (hf:TyF S.P s f k) (hN:Nat.blt d S.N=true) (hg:cU ops E g) (k:GL S ops κ rest H ((d,.vc (pM (ps.drop k)))::E) Q):GL S ops κ (⟨some d,.fieldAddr s x f,ty,pos,af,g⟩::rest) H E Q:=
 kE (aLL rfl hf) ⟨dA hx,trivial⟩ hg hN k
theorem aO7 {s f k:Nat} {x:Operand} {ps:List CP} (hx:∀G,sG l0 ms E outs G i x=some (.vc (pM ps))) (hf:TyF S.P s f k) (hN:Nat.blt d S.N=true) (hg:GD l0 ms E outs i g) (h1:k9 ms [] i [0]=true) {r0:List Ou} (hr:r0=.v (.vc (pM (ps.drop k)))::ro) (kk:DN S H l0 ms E outs n (i+1) l ro):DN S H l0 ms E outs (n+1) i (⟨some d,.fieldAddr s x f,ty,pos,af,g⟩::l) r0:=
 gU (fun A=>aLL rfl hf) (fun G=>⟨bL (hx G),trivial⟩) hN hg h1 hr kk
theorem aRo {s f off k:Nat} {x:Operand} {β:Option Nat} (hx:ev E x=some (.vc (pP β off))) (hf:TyF S.P s f k) (hN:Nat.blt d S.N=true) (hg:cU ops E g) (k:GL S ops κ rest H ((d,.vc (pP β (off+k)))::E) Q):GL S ops κ (⟨some d,.fieldAddr s x f,ty,pos,af,g⟩::rest) H E Q:=
 kE (f7 rfl hf) ⟨dA hx,trivial⟩ hg hN k
theorem aRz {s f off k:Nat} {x:Operand} {β:Option Nat} (hx:∀G,sG l0 ms E outs G i x=some (.vc (pP β off))) (hf:TyF S.P s f k) (hN:Nat.blt d S.N=true) (hg:GD l0 ms E outs i g) (h1:k9 ms [] i [0]=true) {r0:List Ou} (hr:r0=.v (.vc (pP β (off+k)))::ro) (kk:DN S H l0 ms E outs n (i+1) l ro):DN S H l0 ms E outs (n+1) i (⟨some d,.fieldAddr s x f,ty,pos,af,g⟩::l) r0:=
 gU (fun A=>f7 rfl hf) (fun G=>⟨bL (hx G),trivial⟩) hN hg h1 hr kk
theorem aO3 {s f n off k:Nat} {x:Operand} {β:Option Nat} {j:Int} (hx:ev E x=some (.vc (pE β j n off))) (hf:TyF S.P s f k) (hN:Nat.blt d S.N=true) (hg:cU ops E g) (k:GL S ops κ rest H ((d,.vc (pE β j n (off+k)))::E) Q):GL S ops κ (⟨some d,.fieldAddr s x f,ty,pos,af,g⟩::rest) H E Q:=
 kE (aOS rfl hf) ⟨dA hx,trivial⟩ hg hN k
theorem aOK {s f n off k:Nat} {x:Operand} {β:Option Nat} {j:Int} (hx:∀G,sG l0 ms E outs G i x=some (.vc (pE β j n off))) (hf:TyF S.P s f k) (hN:Nat.blt d S.N=true) (hg:GD l0 ms E outs i g) (h1:k9 ms [] i [0]=true) {r0:List Ou} (hr:r0=.v (.vc (pE β j n (off+k)))::ro) (kk:DN S H l0 ms E outs n (i+1) l ro):DN S H l0 ms E outs (n+1) i (⟨some d,.fieldAddr s x f,ty,pos,af,g⟩::l) r0:=
 gU (fun A=>aOS rfl hf) (fun G=>⟨bL (hx G),trivial⟩) hN hg h1 hr kk
theorem aOF {t:Nat} {x:Operand} {ps:List CP} {q:CP} (hx:ev E x=some (.vc (pM ps))) (ht:Ty1 S.P t) (hq:tB 1 ps=some [q]) (hN:Nat.blt d S.N=true) (hg:cU ops E g) (k:GL S ops κ rest H ((d,.vc q)::E) Q):GL S ops κ (⟨some d,.load t x,ty,pos,af,g⟩::rest) H E Q:=
 kE (aBh 1 rfl hq (.one ht)) ⟨dA hx,trivial⟩ hg hN k
theorem aPx {t:Nat} {x:Operand} {ps:List CP} {q:CP} (hx:∀G,sG l0 ms E outs G i x=some (.vc (pM ps))) (ht:Ty1 S.P t) (hq:tB 1 ps=some [q]) (hN:Nat.blt d S.N=true) (hg:GD l0 ms E outs i g) (h1:k9 ms [] i [0]=true) {r0:List Ou} (hr:r0=.v (.vc q)::ro) (kk:DN S H l0 ms E outs n (i+1) l ro):DN S H l0 ms E outs (n+1) i (⟨some d,.load t x,ty,pos,af,g⟩::l) r0:=
 gU (fun A=>aBh 1 rfl hq (.one ht)) (fun G=>⟨bL (hx G),trivial⟩) hN hg h1 hr kk
theorem aPA {t q:Nat} {x:Operand} {ps qs:List CP} (hx:ev E x=some (.vc (pM ps))) (ht:TyA S.P t q) (hq:tB q ps=some qs) (hN:Nat.blt d S.N=true) (hg:cU ops E g) (k:GL S ops κ rest H ((d,.va qs)::E) Q):GL S ops κ (⟨some d,.load t x,ty,pos,af,g⟩::rest) H E Q:=
 kE (aBh q rfl hq (.agg ht (xC hq))) ⟨dA hx,trivial⟩ hg hN k
theorem aOz {t q:Nat} {x:Operand} {ps qs:List CP} (hx:∀G,sG l0 ms E outs G i x=some (.vc (pM ps))) (ht:TyA S.P t q) (hq:tB q ps=some qs) (hN:Nat.blt d S.N=true) (hg:GD l0 ms E outs i g) (h1:k9 ms [] i [0]=true) {r0:List Ou} (hr:r0=.v (.va qs)::ro) (kk:DN S H l0 ms E outs n (i+1) l ro):DN S H l0 ms E outs (n+1) i (⟨some d,.load t x,ty,pos,af,g⟩::l) r0:=
 gU (fun A=>aBh q rfl hq (.agg ht (xC hq))) (fun G=>⟨bL (hx G),trivial⟩) hN hg h1 hr kk
theorem aR4 {t off:Nat} {x:Operand} {β:Option Nat} {e:HA} {q:CP} (hx:ev E x=some (.vc (pP β off))) (ht:Ty1 S.P t) (hi:gN H β e) (hq:tB 1 (e.ps.drop off)=some [q]) (hN:Nat.blt d S.N=true) (hg:cU ops E g) (k:GL S ops κ rest H ((d,.vc q)::E) Q):GL S ops κ (⟨some d,.load t x,ty,pos,af,g⟩::rest) H E Q:=by
 obtain⟨i,hi1,hi2⟩:=hi.at
 exact kE (fF i 1 rfl hi1 hi2 hq (.one ht)) ⟨dA hx,trivial⟩ hg hN k
theorem aRT {t off:Nat} {x:Operand} {β:Option Nat} {e:HA} {q:CP} (hx:∀G,sG l0 ms E outs G i x=some (.vc (pP β off))) (ht:Ty1 S.P t) (hi:gN H β e) (hq:tB 1 (e.ps.drop off)=some [q]) (hN:Nat.blt d S.N=true) (hg:GD l0 ms E outs i g) (h1:k9 ms [] i [0]=true) {r0:List Ou} (hr:r0=.v (.vc q)::ro) (kk:DN S H l0 ms E outs n (i+1) l ro):DN S H l0 ms E outs (n+1) i (⟨some d,.load t x,ty,pos,af,g⟩::l) r0:=by
 refine gU (ins:=[(x,(.vc (pP β off)))]) (fun A=>?_) (fun G=>⟨bL (hx G),trivial⟩) hN hg h1 hr kk
 obtain⟨i,hi1,hi2⟩:=(hi.app (A:=A)).at
 exact fF i 1 rfl hi1 hi2 hq (.one ht)
theorem aQ7 {t m off:Nat} {x:Operand} {β:Option Nat} {e:HA} {qs:List CP} (hx:ev E x=some (.vc (pP β off))) (ht:TyA S.P t m) (hi:gN H β e) (hq:tB m (e.ps.drop off)=some qs) (hN:Nat.blt d S.N=true) (hg:cU ops E g) (k:GL S ops κ rest H ((d,.va qs)::E) Q):GL S ops κ (⟨some d,.load t x,ty,pos,af,g⟩::rest) H E Q:=by
 obtain⟨i,hi1,hi2⟩:=hi.at
 exact kE (fF i m rfl hi1 hi2 hq (.agg ht (xC hq))) ⟨dA hx,trivial⟩ hg hN k
theorem aQ9 {t m off:Nat} {x:Operand} {β:Option Nat} {e:HA} {qs:List CP} (hx:∀G,sG l0 ms E outs G i x=some (.vc (pP β off))) (ht:TyA S.P t m) (hi:gN H β e) (hq:tB m (e.ps.drop off)=some qs) (hN:Nat.blt d S.N=true) (hg:GD l0 ms E outs i g) (h1:k9 ms [] i [0]=true) {r0:List Ou} (hr:r0=.v (.va qs)::ro) (kk:DN S H l0 ms E outs n (i+1) l ro):DN S H l0 ms E outs (n+1) i (⟨some d,.load t x,ty,pos,af,g⟩::l) r0:=by
 refine gU (ins:=[(x,(.vc (pP β off)))]) (fun A=>?_) (fun G=>⟨bL (hx G),trivial⟩) hN hg h1 hr kk
 obtain⟨i,hi1,hi2⟩:=(hi.app (A:=A)).at
 exact fF i m rfl hi1 hi2 hq (.agg ht (xC hq))
theorem aON {α:Type} {C:Cd α} {xs:List α} {β:Option Nat} {c T n1:Nat} {t e bytes:Nat} {x y:Operand} {j:Int} {k:IntKind} {z:α} (hx:ev E x=some (.vc (pO β n1 c))) (hy:ev E y=some (.vc (pI k j))) (hi:gN H β (hO C β c T n1 xs)) (hn:xs.length=n1) (ht:TyS S.P t e C.n bytes) (hN:Nat.blt d S.N=true) (hg:cU ops E g) (hj:bK xs j=some z) (k:GL S ops κ rest H ((d,.vc (pE β j C.n 0))::E) Q):GL S ops κ (⟨some d,.indexAddr t x y,ty,pos,af,g⟩::rest) H E Q:=by
 obtain⟨i,hi1,hi2⟩:=hi.at
 exact kE (d7 i rfl ht hi1 hn (aC hj).1 (aC hj).2.1) ⟨dA hx,dA hy,trivial⟩ hg hN k
theorem aO5 {α:Type} {C:Cd α} {xs:List α} {β:Option Nat} {c T n1:Nat} {t e bytes:Nat} {x y:Operand} {j:Int} {k:IntKind} {z:α} (hx:∀G,sG l0 ms E outs G i x=some (.vc (pO β n1 c))) (hy:∀G,sG l0 ms E outs G i y=some (.vc (pI k j))) (hi:gN H β (hO C β c T n1 xs)) (hn:xs.length=n1) (ht:TyS S.P t e C.n bytes) (hN:Nat.blt d S.N=true) (hg:GD l0 ms E outs i g) (h1:k9 ms [] i [0]=true) (hj:bK xs j=some z) {r0:List Ou} (hr:r0=.v (.vc (pE β j C.n 0))::ro) (kk:DN S H l0 ms E outs n (i+1) l ro):DN S H l0 ms E outs (n+1) i (⟨some d,.indexAddr t x y,ty,pos,af,g⟩::l) r0:=by
 refine gU (ins:=[(x,(.vc (pO β n1 c))),(y,(.vc (pI k j)))]) (fun A=>?_) (fun G=>⟨bL (hx G),bL (hy G),trivial⟩) hN hg h1 hr kk
 obtain⟨i,hi1,hi2⟩:=(hi.app (A:=A)).at
 exact d7 i rfl ht hi1 hn (aC hj).1 (aC hj).2.1
theorem aPw {α:Type} {C:Cd α} {xs:List α} {β:Option Nat} {c T n1:Nat} {t e k bytes:Nat} {x:Operand} (hx:ev E x=some (.vc (pO β n1 c))) (hi:gN H β (hO C β c T n1 xs)) (hn:xs.length=n1) (ht:TyS S.P t e k bytes) (hN:Nat.blt d S.N=true) (hg:cU ops E g) (k:GL S ops κ rest H ((d,.vc (pI .i64 xs.length))::E) Q):GL S ops κ (⟨some d,.call {callee:=.builtin .len,args:=#[x],argTypes:=#[t]},ty,pos,af,g⟩::rest) H E Q:=by
 obtain⟨i,hi1,hi2⟩:=hi.at
 exact kE (aBx (C:=C) (T:=T) rfl ht hn) ⟨dA hx,trivial⟩ hg hN k
theorem aOA {α:Type} {C:Cd α} {xs:List α} {β:Option Nat} {c T n1:Nat} {t e k bytes:Nat} {x:Operand} (hx:∀G,sG l0 ms E outs G i x=some (.vc (pO β n1 c))) (hi:gN H β (hO C β c T n1 xs)) (hn:xs.length=n1) (ht:TyS S.P t e k bytes) (hN:Nat.blt d S.N=true) (hg:GD l0 ms E outs i g) (h1:k9 ms [] i [0]=true) {r0:List Ou} (hr:r0=.v (.vc (pI .i64 xs.length))::ro) (kk:DN S H l0 ms E outs n (i+1) l ro):DN S H l0 ms E outs (n+1) i (⟨some d,.call {callee:=.builtin .len,args:=#[x],argTypes:=#[t]},ty,pos,af,g⟩::l) r0:=by
 refine gU (ins:=[(x,(.vc (pO β n1 c)))]) (fun A=>?_) (fun G=>⟨bL (hx G),trivial⟩) hN hg h1 hr kk
 obtain⟨i,hi1,hi2⟩:=(hi.app (A:=A)).at
 exact aBx (C:=C) (T:=T) rfl ht hn
theorem aLX {α:Type} {C:Cd α} {xs:List α} {β:Option Nat} {c T n1:Nat} {t off m:Nat} {x:Operand} {j:Int} {z:α} {q:CP} (hx:ev E x=some (.vc (pE β j m off))) (hi:gN H β (hO C β c T n1 xs)) (hm:C.n=m) (hj:bK xs j=some z) (ht:Ty1 S.P t) (hq:tB 1 ((C.e z).drop off)=some [q]) (hC:Nat.ble (off+1) C.n=true) (hN:Nat.blt d S.N=true) (hg:cU ops E g) (k:GL S ops κ rest H ((d,.vc q)::E) Q):GL S ops κ (⟨some d,.load t x,ty,pos,af,g⟩::rest) H E Q:=by
 subst hm;obtain⟨i,hi1,hi2⟩:=hi.at
 exact kE (iC (k:=1) i rfl hi1 hj hq (.one ht) hC) ⟨dA hx,trivial⟩ hg hN k
theorem aMv {α:Type} {C:Cd α} {xs:List α} {β:Option Nat} {c T n1:Nat} {t off m:Nat} {x:Operand} {j:Int} {z:α} {q:CP} (hx:∀G,sG l0 ms E outs G i x=some (.vc (pE β j m off))) (hi:gN H β (hO C β c T n1 xs)) (hm:C.n=m) (hj:bK xs j=some z) (ht:Ty1 S.P t) (hq:tB 1 ((C.e z).drop off)=some [q]) (hC:Nat.ble (off+1) C.n=true) (hN:Nat.blt d S.N=true) (hg:GD l0 ms E outs i g) (h1:k9 ms [] i [0]=true) {r0:List Ou} (hr:r0=.v (.vc q)::ro) (kk:DN S H l0 ms E outs n (i+1) l ro):DN S H l0 ms E outs (n+1) i (⟨some d,.load t x,ty,pos,af,g⟩::l) r0:=by
 subst hm;refine gU (ins:=[(x,(.vc (pE β j C.n off)))]) (fun A=>?_) (fun G=>⟨bL (hx G),trivial⟩) hN hg h1 hr kk
 obtain⟨i,hi1,hi2⟩:=(hi.app (A:=A)).at
 exact iC (k:=1) i rfl hi1 hj hq (.one ht) hC
theorem aNp {α:Type} {C:Cd α} {xs:List α} {β:Option Nat} {c T n1:Nat} {t off m u:Nat} {x:Operand} {j:Int} {z:α} {qs:List CP} (hx:ev E x=some (.vc (pE β j m off))) (hi:gN H β (hO C β c T n1 xs)) (hm:C.n=m) (hj:bK xs j=some z) (ht:TyA S.P t u) (hq:tB u ((C.e z).drop off)=some qs) (hC:Nat.ble (off+u) C.n=true) (hN:Nat.blt d S.N=true) (hg:cU ops E g) (k:GL S ops κ rest H ((d,.va qs)::E) Q):GL S ops κ (⟨some d,.load t x,ty,pos,af,g⟩::rest) H E Q:=by
 subst hm;obtain⟨i,hi1,hi2⟩:=hi.at
 exact kE (iC (k:=u) i rfl hi1 hj hq (.agg ht (xC hq)) hC) ⟨dA hx,trivial⟩ hg hN k
theorem aNz {α:Type} {C:Cd α} {xs:List α} {β:Option Nat} {c T n1:Nat} {t off m u:Nat} {x:Operand} {j:Int} {z:α} {qs:List CP} (hx:∀G,sG l0 ms E outs G i x=some (.vc (pE β j m off))) (hi:gN H β (hO C β c T n1 xs)) (hm:C.n=m) (hj:bK xs j=some z) (ht:TyA S.P t u) (hq:tB u ((C.e z).drop off)=some qs) (hC:Nat.ble (off+u) C.n=true) (hN:Nat.blt d S.N=true) (hg:GD l0 ms E outs i g) (h1:k9 ms [] i [0]=true) {r0:List Ou} (hr:r0=.v (.va qs)::ro) (kk:DN S H l0 ms E outs n (i+1) l ro):DN S H l0 ms E outs (n+1) i (⟨some d,.load t x,ty,pos,af,g⟩::l) r0:=by
 subst hm;refine gU (ins:=[(x,(.vc (pE β j C.n off)))]) (fun A=>?_) (fun G=>⟨bL (hx G),trivial⟩) hN hg h1 hr kk
 obtain⟨i,hi1,hi2⟩:=(hi.app (A:=A)).at
 exact iC (k:=u) i rfl hi1 hj hq (.agg ht (xC hq)) hC
theorem ty1s {P:Program} {t:Nat} [h:Ty1 P t]:(P.info? t).map (·.size)=some 1:=h.s
theorem tyAs {P:Program} {t k:Nat} [h:TyA P t k]:(P.info? t).map (·.size)=some k:=h.s
theorem aKb {α:Type} {C:Cd α} {xs zs:List α} {β:Option Nat} {c T n1:Nat} {t off m u:Nat} {x y:Operand} {j:Int} {z z':α} {p:VP} (hx:ev E x=some (.vc (pE β j m off))) (hy:ev E y=some p) (hi:gN H β (hO C β c T n1 xs)) (hm:C.n=m) (hj:bK xs j=some z) (hs:pN xs j z'=some zs) (hT:(S.P.info? t).map (·.size)=some u) (hr:yG H β (hO C β c T n1 xs) (hO C β c T n1 zs) H') (hp:p.flat) (hk:p.cells.length=u) (hq:wN (C.e z) off p.cells=some (C.e z')) (k:GL S ops κ rest H' E Q):GL S ops κ (⟨none,.store t x y,ty,pos,af,none⟩::rest) H E Q:=by
 obtain⟨i,h1,h2,h3⟩:=hr.at
 subst hm
 exact⟨fun q=>kY (xM i rfl h1 hj hs hT hp hk hq h3) ⟨dA hx,dA hy,trivial⟩ (k.h q) rfl rfl⟩
theorem aR6 {α:Type} {C:Cd α} {xs:List α} {t e q bytes:Nat} {x:Operand} (hx:ev E x=some (.vc (pS C xs))) (ht:TyS S.P t e q bytes) (hN:Nat.blt d S.N=true) (hg:cU ops E g) (k:GL S ops κ rest H ((d,.vc (pI .i64 xs.length))::E) Q):GL S ops κ (⟨some d,.call {callee:=.builtin .len,args:=#[x],argTypes:=#[t]},ty,pos,af,g⟩::rest) H E Q:=
 kE (aHt rfl ht) ⟨dA hx,trivial⟩ hg hN k
theorem aRF {α:Type} {C:Cd α} {xs:List α} {t e q bytes:Nat} {x:Operand} (hx:∀G,sG l0 ms E outs G i x=some (.vc (pS C xs))) (ht:TyS S.P t e q bytes) (hN:Nat.blt d S.N=true) (hg:GD l0 ms E outs i g) (h1:k9 ms [] i [0]=true) {r0:List Ou} (hr:r0=.v (.vc (pI .i64 xs.length))::ro) (kk:DN S H l0 ms E outs n (i+1) l ro):DN S H l0 ms E outs (n+1) i (⟨some d,.call {callee:=.builtin .len,args:=#[x],argTypes:=#[t]},ty,pos,af,g⟩::l) r0:=
 gU (fun A=>aHt rfl ht) (fun G=>⟨bL (hx G),trivial⟩) hN hg h1 hr kk
theorem aQL {T T':Nat} {x y:Operand} {u v:Int} {k:IntKind} (hx:ev E x=some (.vc (pI k u))) (hy:ev E y=some (.vc (pI k v))) (hN:Nat.blt d S.N=true) (hg:cU ops E g) (k:GL S ops κ rest H ((d,.vc (pB (decide (u<v))))::E) Q):GL S ops κ (⟨some d,.binOp .lss T x y T',ty,pos,af,g⟩::rest) H E Q:=
 kE (aHf rfl) ⟨dA hx,dA hy,trivial⟩ hg hN k
theorem aRE {T T':Nat} {x y:Operand} {u v:Int} {k:IntKind} (hx:∀G,sG l0 ms E outs G i x=some (.vc (pI k u))) (hy:∀G,sG l0 ms E outs G i y=some (.vc (pI k v))) (hN:Nat.blt d S.N=true) (hg:GD l0 ms E outs i g) (h1:k9 ms [] i [0]=true) {r0:List Ou} (hr:r0=.v (.vc (pB (decide (u<v))))::ro) (kk:DN S H l0 ms E outs n (i+1) l ro):DN S H l0 ms E outs (n+1) i (⟨some d,.binOp .lss T x y T',ty,pos,af,g⟩::l) r0:=
 gU (fun A=>aHf rfl) (fun G=>⟨bL (hx G),bL (hy G),trivial⟩) hN hg h1 hr kk
theorem aRu {T T':Nat} {x y:Operand} {u v:Int} {k:IntKind} {w:Bool} (hx:∀G,sG l0 ms E outs G i x=some (.vc (pI k u))) (hy:∀G,sG l0 ms E outs G i y=some (.vc (pI k v))) (hN:Nat.blt d S.N=true) (hg:GD l0 ms E outs i g) (h1:k9 ms [] i [0]=true) (hb:(decide (u<v))=w) {r0:List Ou} (hr:r0=.v (.vc (pB w))::ro) (kk:DN S H l0 ms E outs n (i+1) l ro):DN S H l0 ms E outs (n+1) i (⟨some d,.binOp .lss T x y T',ty,pos,af,g⟩::l) r0:=
 gU (fun A=>mE (aHf rfl) hb) (fun G=>⟨bL (hx G),bL (hy G),trivial⟩) hN hg h1 hr kk
theorem aQ8 {T T':Nat} {x y:Operand} {u v:Int} {k:IntKind} (hx:ev E x=some (.vc (pI k u))) (hy:ev E y=some (.vc (pI k v))) (hN:Nat.blt d S.N=true) (hg:cU ops E g) (k:GL S ops κ rest H ((d,.vc (pB (u==v)))::E) Q):GL S ops κ (⟨some d,.binOp .eql T x y T',ty,pos,af,g⟩::rest) H E Q:=
 kE (aOy rfl) ⟨dA hx,dA hy,trivial⟩ hg hN k
theorem aQX {T T':Nat} {x y:Operand} {u v:Int} {k:IntKind} (hx:∀G,sG l0 ms E outs G i x=some (.vc (pI k u))) (hy:∀G,sG l0 ms E outs G i y=some (.vc (pI k v))) (hN:Nat.blt d S.N=true) (hg:GD l0 ms E outs i g) (h1:k9 ms [] i [0]=true) {r0:List Ou} (hr:r0=.v (.vc (pB (u==v)))::ro) (kk:DN S H l0 ms E outs n (i+1) l ro):DN S H l0 ms E outs (n+1) i (⟨some d,.binOp .eql T x y T',ty,pos,af,g⟩::l) r0:=
 gU (fun A=>aOy rfl) (fun G=>⟨bL (hx G),bL (hy G),trivial⟩) hN hg h1 hr kk
theorem aQ5 {T T':Nat} {x y:Operand} {u v:Int} {k:IntKind} {w:Bool} (hx:∀G,sG l0 ms E outs G i x=some (.vc (pI k u))) (hy:∀G,sG l0 ms E outs G i y=some (.vc (pI k v))) (hN:Nat.blt d S.N=true) (hg:GD l0 ms E outs i g) (h1:k9 ms [] i [0]=true) (hb:(u==v)=w) {r0:List Ou} (hr:r0=.v (.vc (pB w))::ro) (kk:DN S H l0 ms E outs n (i+1) l ro):DN S H l0 ms E outs (n+1) i (⟨some d,.binOp .eql T x y T',ty,pos,af,g⟩::l) r0:=
 gU (fun A=>mE (aOy rfl) hb) (fun G=>⟨bL (hx G),bL (hy G),trivial⟩) hN hg h1 hr kk
theorem aRB {T T':Nat} {x y:Operand} {u v:Int} {k:IntKind} (hx:ev E x=some (.vc (pI k u))) (hy:ev E y=some (.vc (pI k v))) (hN:Nat.blt d S.N=true) (hg:cU ops E g) (k:GL S ops κ rest H ((d,.vc (pB (u != v)))::E) Q):GL S ops κ (⟨some d,.binOp .neq T x y T',ty,pos,af,g⟩::rest) H E Q:=
 kE (aL0 rfl) ⟨dA hx,dA hy,trivial⟩ hg hN k
theorem aQP {T T':Nat} {x y:Operand} {u v:Int} {k:IntKind} (hx:∀G,sG l0 ms E outs G i x=some (.vc (pI k u))) (hy:∀G,sG l0 ms E outs G i y=some (.vc (pI k v))) (hN:Nat.blt d S.N=true) (hg:GD l0 ms E outs i g) (h1:k9 ms [] i [0]=true) {r0:List Ou} (hr:r0=.v (.vc (pB (u != v)))::ro) (kk:DN S H l0 ms E outs n (i+1) l ro):DN S H l0 ms E outs (n+1) i (⟨some d,.binOp .neq T x y T',ty,pos,af,g⟩::l) r0:=
 gU (fun A=>aL0 rfl) (fun G=>⟨bL (hx G),bL (hy G),trivial⟩) hN hg h1 hr kk
theorem aSd {T T':Nat} {x y:Operand} {u v:Int} {k:IntKind} {w:Bool} (hx:∀G,sG l0 ms E outs G i x=some (.vc (pI k u))) (hy:∀G,sG l0 ms E outs G i y=some (.vc (pI k v))) (hN:Nat.blt d S.N=true) (hg:GD l0 ms E outs i g) (h1:k9 ms [] i [0]=true) (hb:(u != v)=w) {r0:List Ou} (hr:r0=.v (.vc (pB w))::ro) (kk:DN S H l0 ms E outs n (i+1) l ro):DN S H l0 ms E outs (n+1) i (⟨some d,.binOp .neq T x y T',ty,pos,af,g⟩::l) r0:=
 gU (fun A=>mE (aL0 rfl) hb) (fun G=>⟨bL (hx G),bL (hy G),trivial⟩) hN hg h1 hr kk
theorem aQ0 {T T':Nat} {x y:Operand} {u v:Int} {k:IntKind} (hx:ev E x=some (.vc (pI k u))) (hy:ev E y=some (.vc (pI k v))) (hN:Nat.blt d S.N=true) (hg:cU ops E g) (k:GL S ops κ rest H ((d,.vc (pB (decide (u≤v))))::E) Q):GL S ops κ (⟨some d,.binOp .leq T x y T',ty,pos,af,g⟩::rest) H E Q:=
 kE (aNV rfl) ⟨dA hx,dA hy,trivial⟩ hg hN k
theorem aRP {T T':Nat} {x y:Operand} {u v:Int} {k:IntKind} (hx:∀G,sG l0 ms E outs G i x=some (.vc (pI k u))) (hy:∀G,sG l0 ms E outs G i y=some (.vc (pI k v))) (hN:Nat.blt d S.N=true) (hg:GD l0 ms E outs i g) (h1:k9 ms [] i [0]=true) {r0:List Ou} (hr:r0=.v (.vc (pB (decide (u≤v))))::ro) (kk:DN S H l0 ms E outs n (i+1) l ro):DN S H l0 ms E outs (n+1) i (⟨some d,.binOp .leq T x y T',ty,pos,af,g⟩::l) r0:=
 gU (fun A=>aNV rfl) (fun G=>⟨bL (hx G),bL (hy G),trivial⟩) hN hg h1 hr kk
theorem aRO {T T':Nat} {x y:Operand} {u v:Int} {k:IntKind} {w:Bool} (hx:∀G,sG l0 ms E outs G i x=some (.vc (pI k u))) (hy:∀G,sG l0 ms E outs G i y=some (.vc (pI k v))) (hN:Nat.blt d S.N=true) (hg:GD l0 ms E outs i g) (h1:k9 ms [] i [0]=true) (hb:(decide (u≤v))=w) {r0:List Ou} (hr:r0=.v (.vc (pB w))::ro) (kk:DN S H l0 ms E outs n (i+1) l ro):DN S H l0 ms E outs (n+1) i (⟨some d,.binOp .leq T x y T',ty,pos,af,g⟩::l) r0:=
 gU (fun A=>mE (aNV rfl) hb) (fun G=>⟨bL (hx G),bL (hy G),trivial⟩) hN hg h1 hr kk
theorem aRC {T T':Nat} {x y:Operand} {u v:Int} {k:IntKind} (hx:ev E x=some (.vc (pI k u))) (hy:ev E y=some (.vc (pI k v))) (hN:Nat.blt d S.N=true) (hg:cU ops E g) (k:GL S ops κ rest H ((d,.vc (pB (decide (v<u))))::E) Q):GL S ops κ (⟨some d,.binOp .gtr T x y T',ty,pos,af,g⟩::rest) H E Q:=
 kE (aK9 rfl) ⟨dA hx,dA hy,trivial⟩ hg hN k
theorem aSg {T T':Nat} {x y:Operand} {u v:Int} {k:IntKind} (hx:∀G,sG l0 ms E outs G i x=some (.vc (pI k u))) (hy:∀G,sG l0 ms E outs G i y=some (.vc (pI k v))) (hN:Nat.blt d S.N=true) (hg:GD l0 ms E outs i g) (h1:k9 ms [] i [0]=true) {r0:List Ou} (hr:r0=.v (.vc (pB (decide (v<u))))::ro) (kk:DN S H l0 ms E outs n (i+1) l ro):DN S H l0 ms E outs (n+1) i (⟨some d,.binOp .gtr T x y T',ty,pos,af,g⟩::l) r0:=
 gU (fun A=>aK9 rfl) (fun G=>⟨bL (hx G),bL (hy G),trivial⟩) hN hg h1 hr kk
theorem aQ6 {T T':Nat} {x y:Operand} {u v:Int} {k:IntKind} {w:Bool} (hx:∀G,sG l0 ms E outs G i x=some (.vc (pI k u))) (hy:∀G,sG l0 ms E outs G i y=some (.vc (pI k v))) (hN:Nat.blt d S.N=true) (hg:GD l0 ms E outs i g) (h1:k9 ms [] i [0]=true) (hb:(decide (v<u))=w) {r0:List Ou} (hr:r0=.v (.vc (pB w))::ro) (kk:DN S H l0 ms E outs n (i+1) l ro):DN S H l0 ms E outs (n+1) i (⟨some d,.binOp .gtr T x y T',ty,pos,af,g⟩::l) r0:=
 gU (fun A=>mE (aK9 rfl) hb) (fun G=>⟨bL (hx G),bL (hy G),trivial⟩) hN hg h1 hr kk
theorem aSf {T T':Nat} {x y:Operand} {u v:Int} {k:IntKind} (hx:ev E x=some (.vc (pI k u))) (hy:ev E y=some (.vc (pI k v))) (hN:Nat.blt d S.N=true) (hg:cU ops E g) (k:GL S ops κ rest H ((d,.vc (pB (decide (v≤u))))::E) Q):GL S ops κ (⟨some d,.binOp .geq T x y T',ty,pos,af,g⟩::rest) H E Q:=
 kE (aQq rfl) ⟨dA hx,dA hy,trivial⟩ hg hN k
theorem aRv {T T':Nat} {x y:Operand} {u v:Int} {k:IntKind} (hx:∀G,sG l0 ms E outs G i x=some (.vc (pI k u))) (hy:∀G,sG l0 ms E outs G i y=some (.vc (pI k v))) (hN:Nat.blt d S.N=true) (hg:GD l0 ms E outs i g) (h1:k9 ms [] i [0]=true) {r0:List Ou} (hr:r0=.v (.vc (pB (decide (v≤u))))::ro) (kk:DN S H l0 ms E outs n (i+1) l ro):DN S H l0 ms E outs (n+1) i (⟨some d,.binOp .geq T x y T',ty,pos,af,g⟩::l) r0:=
 gU (fun A=>aQq rfl) (fun G=>⟨bL (hx G),bL (hy G),trivial⟩) hN hg h1 hr kk
theorem aRA {T T':Nat} {x y:Operand} {u v:Int} {k:IntKind} {w:Bool} (hx:∀G,sG l0 ms E outs G i x=some (.vc (pI k u))) (hy:∀G,sG l0 ms E outs G i y=some (.vc (pI k v))) (hN:Nat.blt d S.N=true) (hg:GD l0 ms E outs i g) (h1:k9 ms [] i [0]=true) (hb:(decide (v≤u))=w) {r0:List Ou} (hr:r0=.v (.vc (pB w))::ro) (kk:DN S H l0 ms E outs n (i+1) l ro):DN S H l0 ms E outs (n+1) i (⟨some d,.binOp .geq T x y T',ty,pos,af,g⟩::l) r0:=
 gU (fun A=>mE (aQq rfl) hb) (fun G=>⟨bL (hx G),bL (hy G),trivial⟩) hN hg h1 hr kk
theorem aO9 {T T':Nat} {x y:Operand} {u v r:Int} (hx:ev E x=some (.vc (pI .i64 u))) (hy:ev E y=some (.vc (pI .i64 v))) (hN:Nat.blt d S.N=true) (hg:cU ops E g) (h:aQ (u+v)=some r) (k:GL S ops κ rest H ((d,.vc (pI .i64 r))::E) Q):GL S ops κ (⟨some d,.binOp .add T x y T',ty,pos,af,g⟩::rest) H E Q:=
 kE (xQ rfl h) ⟨dA hx,dA hy,trivial⟩ hg hN k
theorem aPr {T T':Nat} {x y:Operand} {u v r:Int} (hx:∀G,sG l0 ms E outs G i x=some (.vc (pI .i64 u))) (hy:∀G,sG l0 ms E outs G i y=some (.vc (pI .i64 v))) (hN:Nat.blt d S.N=true) (hg:GD l0 ms E outs i g) (h1:k9 ms [] i [0]=true) (h:aQ (u+v)=some r) {r0:List Ou} (hr:r0=.v (.vc (pI .i64 r))::ro) (kk:DN S H l0 ms E outs n (i+1) l ro):DN S H l0 ms E outs (n+1) i (⟨some d,.binOp .add T x y T',ty,pos,af,g⟩::l) r0:=
 gU (fun A=>xQ rfl h) (fun G=>⟨bL (hx G),bL (hy G),trivial⟩) hN hg h1 hr kk
theorem aPd {T T':Nat} {x y:Operand} {u v r:Int} (hx:ev E x=some (.vc (pI .i64 u))) (hy:ev E y=some (.vc (pI .i64 v))) (hN:Nat.blt d S.N=true) (hg:cU ops E g) (h:aQ (u-v)=some r) (k:GL S ops κ rest H ((d,.vc (pI .i64 r))::E) Q):GL S ops κ (⟨some d,.binOp .sub T x y T',ty,pos,af,g⟩::rest) H E Q:=
 kE (aMd rfl h) ⟨dA hx,dA hy,trivial⟩ hg hN k
theorem aPo {T T':Nat} {x y:Operand} {u v r:Int} (hx:∀G,sG l0 ms E outs G i x=some (.vc (pI .i64 u))) (hy:∀G,sG l0 ms E outs G i y=some (.vc (pI .i64 v))) (hN:Nat.blt d S.N=true) (hg:GD l0 ms E outs i g) (h1:k9 ms [] i [0]=true) (h:aQ (u-v)=some r) {r0:List Ou} (hr:r0=.v (.vc (pI .i64 r))::ro) (kk:DN S H l0 ms E outs n (i+1) l ro):DN S H l0 ms E outs (n+1) i (⟨some d,.binOp .sub T x y T',ty,pos,af,g⟩::l) r0:=
 gU (fun A=>aMd rfl h) (fun G=>⟨bL (hx G),bL (hy G),trivial⟩) hN hg h1 hr kk
theorem aPi {T T':Nat} {x y:Operand} {u v r:Int} (hx:ev E x=some (.vc (pI .i64 u))) (hy:ev E y=some (.vc (pI .i64 v))) (hN:Nat.blt d S.N=true) (hg:cU ops E g) (h:aQ (u*v)=some r) (k:GL S ops κ rest H ((d,.vc (pI .i64 r))::E) Q):GL S ops κ (⟨some d,.binOp .mul T x y T',ty,pos,af,g⟩::rest) H E Q:=
 kE (aE1 rfl h) ⟨dA hx,dA hy,trivial⟩ hg hN k
theorem aOE {T T':Nat} {x y:Operand} {u v r:Int} (hx:∀G,sG l0 ms E outs G i x=some (.vc (pI .i64 u))) (hy:∀G,sG l0 ms E outs G i y=some (.vc (pI .i64 v))) (hN:Nat.blt d S.N=true) (hg:GD l0 ms E outs i g) (h1:k9 ms [] i [0]=true) (h:aQ (u*v)=some r) {r0:List Ou} (hr:r0=.v (.vc (pI .i64 r))::ro) (kk:DN S H l0 ms E outs n (i+1) l ro):DN S H l0 ms E outs (n+1) i (⟨some d,.binOp .mul T x y T',ty,pos,af,g⟩::l) r0:=
 gU (fun A=>aE1 rfl h) (fun G=>⟨bL (hx G),bL (hy G),trivial⟩) hN hg h1 hr kk
theorem aOD {T T':Nat} {x y:Operand} {u v r:Int} (hx:ev E x=some (.vc (pI .i64 u))) (hy:ev E y=some (.vc (pI .i64 v))) (hN:Nat.blt d S.N=true) (hg:cU ops E g) (h:chq u v=some r) (k:GL S ops κ rest H ((d,.vc (pI .i64 r))::E) Q):GL S ops κ (⟨some d,.binOp .quo T x y T',ty,pos,af,g⟩::rest) H E Q:=
 kE (aJE rfl h) ⟨dA hx,dA hy,trivial⟩ hg hN k
theorem aPB {T T':Nat} {x y:Operand} {u v r:Int} (hx:∀G,sG l0 ms E outs G i x=some (.vc (pI .i64 u))) (hy:∀G,sG l0 ms E outs G i y=some (.vc (pI .i64 v))) (hN:Nat.blt d S.N=true) (hg:GD l0 ms E outs i g) (h1:k9 ms [] i [0]=true) (h:chq u v=some r) {r0:List Ou} (hr:r0=.v (.vc (pI .i64 r))::ro) (kk:DN S H l0 ms E outs n (i+1) l ro):DN S H l0 ms E outs (n+1) i (⟨some d,.binOp .quo T x y T',ty,pos,af,g⟩::l) r0:=
 gU (fun A=>aJE rfl h) (fun G=>⟨bL (hx G),bL (hy G),trivial⟩) hN hg h1 hr kk
theorem aPn {T T':Nat} {x y:Operand} {u v r:Int} {k:IntKind} (hx:ev E x=some (.vc (pI k u))) (hy:ev E y=some (.vc (pI k v))) (hN:Nat.blt d S.N=true) (hg:cU ops E g) (h:zX u v=some r) (k:GL S ops κ rest H ((d,.vc (pI k r))::E) Q):GL S ops κ (⟨some d,.binOp .rem T x y T',ty,pos,af,g⟩::rest) H E Q:=
 kE (aFV rfl h) ⟨dA hx,dA hy,trivial⟩ hg hN k
theorem aPH {T T':Nat} {x y:Operand} {u v r:Int} {k:IntKind} (hx:∀G,sG l0 ms E outs G i x=some (.vc (pI k u))) (hy:∀G,sG l0 ms E outs G i y=some (.vc (pI k v))) (hN:Nat.blt d S.N=true) (hg:GD l0 ms E outs i g) (h1:k9 ms [] i [0]=true) (h:zX u v=some r) {r0:List Ou} (hr:r0=.v (.vc (pI k r))::ro) (kk:DN S H l0 ms E outs n (i+1) l ro):DN S H l0 ms E outs (n+1) i (⟨some d,.binOp .rem T x y T',ty,pos,af,g⟩::l) r0:=
 gU (fun A=>aFV rfl h) (fun G=>⟨bL (hx G),bL (hy G),trivial⟩) hN hg h1 hr kk
theorem aO8 {T:Nat} {x:Operand} {u:Bool} (hx:ev E x=some (.vc (pB u))) (hN:Nat.blt d S.N=true) (hg:cU ops E g) (k:GL S ops κ rest H ((d,.vc (pB (!u)))::E) Q):GL S ops κ (⟨some d,.unOp .not T x,ty,pos,af,g⟩::rest) H E Q:=
 kE (aJJ rfl) ⟨dA hx,trivial⟩ hg hN k
theorem aO6 {T:Nat} {x:Operand} {u:Bool} (hx:∀G,sG l0 ms E outs G i x=some (.vc (pB u))) (hN:Nat.blt d S.N=true) (hg:GD l0 ms E outs i g) (h1:k9 ms [] i [0]=true) {r0:List Ou} (hr:r0=.v (.vc (pB (!u)))::ro) (kk:DN S H l0 ms E outs n (i+1) l ro):DN S H l0 ms E outs (n+1) i (⟨some d,.unOp .not T x,ty,pos,af,g⟩::l) r0:=
 gU (fun A=>aJJ rfl) (fun G=>⟨bL (hx G),trivial⟩) hN hg h1 hr kk
theorem aPS {T:Nat} {x:Operand} {u:Bool} {w:Bool} (hx:∀G,sG l0 ms E outs G i x=some (.vc (pB u))) (hN:Nat.blt d S.N=true) (hg:GD l0 ms E outs i g) (h1:k9 ms [] i [0]=true) (hb:(!u)=w) {r0:List Ou} (hr:r0=.v (.vc (pB w))::ro) (kk:DN S H l0 ms E outs n (i+1) l ro):DN S H l0 ms E outs (n+1) i (⟨some d,.unOp .not T x,ty,pos,af,g⟩::l) r0:=
 gU (fun A=>mE (aJJ rfl) hb) (fun G=>⟨bL (hx G),trivial⟩) hN hg h1 hr kk
theorem aOJ {T:Nat} {x:Operand} {u r:Int} (hx:ev E x=some (.vc (pI .i64 u))) (hN:Nat.blt d S.N=true) (hg:cU ops E g) (h:aQ (-u)=some r) (k:GL S ops κ rest H ((d,.vc (pI .i64 r))::E) Q):GL S ops κ (⟨some d,.unOp .neg T x,ty,pos,af,g⟩::rest) H E Q:=
 kE (aPh rfl h) ⟨dA hx,trivial⟩ hg hN k
theorem aPG {T:Nat} {x:Operand} {u r:Int} (hx:∀G,sG l0 ms E outs G i x=some (.vc (pI .i64 u))) (hN:Nat.blt d S.N=true) (hg:GD l0 ms E outs i g) (h1:k9 ms [] i [0]=true) (h:aQ (-u)=some r) {r0:List Ou} (hr:r0=.v (.vc (pI .i64 r))::ro) (kk:DN S H l0 ms E outs n (i+1) l ro):DN S H l0 ms E outs (n+1) i (⟨some d,.unOp .neg T x,ty,pos,af,g⟩::l) r0:=
 gU (fun A=>aPh rfl h) (fun G=>⟨bL (hx G),trivial⟩) hN hg h1 hr kk
theorem aO2 {x:Operand} {p q:VP} (hx:ev E x=some (.t2 p q)) (hN:Nat.blt d S.N=true) (hg:cU ops E g) (k:GL S ops κ rest H ((d,p)::E) Q):GL S ops κ (⟨some d,.extract x 0,ty,pos,af,g⟩::rest) H E Q:=
 kE (aHc rfl) ⟨dA hx,trivial⟩ hg hN k
theorem aPp {x:Operand} {p q:VP} (hx:∀G,sG l0 ms E outs G i x=some (.t2 p q)) (hN:Nat.blt d S.N=true) (hg:GD l0 ms E outs i g) (h1:k9 ms [] i [0]=true) {r0:List Ou} (hr:r0=.v (p)::ro) (kk:DN S H l0 ms E outs n (i+1) l ro):DN S H l0 ms E outs (n+1) i (⟨some d,.extract x 0,ty,pos,af,g⟩::l) r0:=
 gU (fun A=>aHc rfl) (fun G=>⟨bL (hx G),trivial⟩) hN hg h1 hr kk
theorem aPs {x:Operand} {p q:VP} (hx:ev E x=some (.t2 p q)) (hN:Nat.blt d S.N=true) (hg:cU ops E g) (k:GL S ops κ rest H ((d,q)::E) Q):GL S ops κ (⟨some d,.extract x 1,ty,pos,af,g⟩::rest) H E Q:=
 kE (aGU rfl) ⟨dA hx,trivial⟩ hg hN k
theorem aPI {x:Operand} {p q:VP} (hx:∀G,sG l0 ms E outs G i x=some (.t2 p q)) (hN:Nat.blt d S.N=true) (hg:GD l0 ms E outs i g) (h1:k9 ms [] i [0]=true) {r0:List Ou} (hr:r0=.v (q)::ro) (kk:DN S H l0 ms E outs n (i+1) l ro):DN S H l0 ms E outs (n+1) i (⟨some d,.extract x 1,ty,pos,af,g⟩::l) r0:=
 gU (fun A=>aGU rfl) (fun G=>⟨bL (hx G),trivial⟩) hN hg h1 hr kk
theorem aPj {x:Operand} {p q r:VP} (hx:ev E x=some (.t3 p q r)) (hN:Nat.blt d S.N=true) (hg:cU ops E g) (k:GL S ops κ rest H ((d,p)::E) Q):GL S ops κ (⟨some d,.extract x 0,ty,pos,af,g⟩::rest) H E Q:=
 kE (aKw rfl) ⟨dA hx,trivial⟩ hg hN k
theorem aO0 {x:Operand} {p q r:VP} (hx:∀G,sG l0 ms E outs G i x=some (.t3 p q r)) (hN:Nat.blt d S.N=true) (hg:GD l0 ms E outs i g) (h1:k9 ms [] i [0]=true) {r0:List Ou} (hr:r0=.v (p)::ro) (kk:DN S H l0 ms E outs n (i+1) l ro):DN S H l0 ms E outs (n+1) i (⟨some d,.extract x 0,ty,pos,af,g⟩::l) r0:=
 gU (fun A=>aKw rfl) (fun G=>⟨bL (hx G),trivial⟩) hN hg h1 hr kk
theorem aOW {x:Operand} {p q r:VP} (hx:ev E x=some (.t3 p q r)) (hN:Nat.blt d S.N=true) (hg:cU ops E g) (k:GL S ops κ rest H ((d,q)::E) Q):GL S ops κ (⟨some d,.extract x 1,ty,pos,af,g⟩::rest) H E Q:=
 kE (aJv rfl) ⟨dA hx,trivial⟩ hg hN k
theorem aOT {x:Operand} {p q r:VP} (hx:∀G,sG l0 ms E outs G i x=some (.t3 p q r)) (hN:Nat.blt d S.N=true) (hg:GD l0 ms E outs i g) (h1:k9 ms [] i [0]=true) {r0:List Ou} (hr:r0=.v (q)::ro) (kk:DN S H l0 ms E outs n (i+1) l ro):DN S H l0 ms E outs (n+1) i (⟨some d,.extract x 1,ty,pos,af,g⟩::l) r0:=
 gU (fun A=>aJv rfl) (fun G=>⟨bL (hx G),trivial⟩) hN hg h1 hr kk
theorem aOB {x:Operand} {p q r:VP} (hx:ev E x=some (.t3 p q r)) (hN:Nat.blt d S.N=true) (hg:cU ops E g) (k:GL S ops κ rest H ((d,r)::E) Q):GL S ops κ (⟨some d,.extract x 2,ty,pos,af,g⟩::rest) H E Q:=
 kE (aKj rfl) ⟨dA hx,trivial⟩ hg hN k
theorem aOG {x:Operand} {p q r:VP} (hx:∀G,sG l0 ms E outs G i x=some (.t3 p q r)) (hN:Nat.blt d S.N=true) (hg:GD l0 ms E outs i g) (h1:k9 ms [] i [0]=true) {r0:List Ou} (hr:r0=.v (r)::ro) (kk:DN S H l0 ms E outs n (i+1) l ro):DN S H l0 ms E outs (n+1) i (⟨some d,.extract x 2,ty,pos,af,g⟩::l) r0:=
 gU (fun A=>aKj rfl) (fun G=>⟨bL (hx G),trivial⟩) hN hg h1 hr kk
theorem aRc {x y:Operand} {u v:Int} {ts:Array TypeId} (hx:ev E x=some (.vc (pI .i64 u))) (hy:ev E y=some (.vc (pI .i64 v))) (hN:Nat.blt d S.N=true) (hg:cU ops E g) (k:GL S ops κ rest H ((d,.vc (pI .i64 (min u v)))::E) Q):GL S ops κ (⟨some d,.call {callee:=.builtin .min,args:=#[x,y],argTypes:=ts},ty,pos,af,g⟩::rest) H E Q:=
 kE (aPC rfl) ⟨dA hx,dA hy,trivial⟩ hg hN k
theorem aRm {x y:Operand} {u v:Int} {ts:Array TypeId} (hx:∀G,sG l0 ms E outs G i x=some (.vc (pI .i64 u))) (hy:∀G,sG l0 ms E outs G i y=some (.vc (pI .i64 v))) (hN:Nat.blt d S.N=true) (hg:GD l0 ms E outs i g) (h1:k9 ms [] i [0]=true) {r0:List Ou} (hr:r0=.v (.vc (pI .i64 (min u v)))::ro) (kk:DN S H l0 ms E outs n (i+1) l ro):DN S H l0 ms E outs (n+1) i (⟨some d,.call {callee:=.builtin .min,args:=#[x,y],argTypes:=ts},ty,pos,af,g⟩::l) r0:=
 gU (fun A=>aPC rfl) (fun G=>⟨bL (hx G),bL (hy G),trivial⟩) hN hg h1 hr kk
theorem aRk {x y:Operand} {u v:Int} {ts:Array TypeId} (hx:ev E x=some (.vc (pI .i64 u))) (hy:ev E y=some (.vc (pI .i64 v))) (hN:Nat.blt d S.N=true) (hg:cU ops E g) (k:GL S ops κ rest H ((d,.vc (pI .i64 (max u v)))::E) Q):GL S ops κ (⟨some d,.call {callee:=.builtin .max,args:=#[x,y],argTypes:=ts},ty,pos,af,g⟩::rest) H E Q:=
 kE (aOH rfl) ⟨dA hx,dA hy,trivial⟩ hg hN k
theorem aRU {x y:Operand} {u v:Int} {ts:Array TypeId} (hx:∀G,sG l0 ms E outs G i x=some (.vc (pI .i64 u))) (hy:∀G,sG l0 ms E outs G i y=some (.vc (pI .i64 v))) (hN:Nat.blt d S.N=true) (hg:GD l0 ms E outs i g) (h1:k9 ms [] i [0]=true) {r0:List Ou} (hr:r0=.v (.vc (pI .i64 (max u v)))::ro) (kk:DN S H l0 ms E outs n (i+1) l ro):DN S H l0 ms E outs (n+1) i (⟨some d,.call {callee:=.builtin .max,args:=#[x,y],argTypes:=ts},ty,pos,af,g⟩::l) r0:=
 gU (fun A=>aOH rfl) (fun G=>⟨bL (hx G),bL (hy G),trivial⟩) hN hg h1 hr kk
theorem aR0 {α:Type} {C:Cd α} {xs zs:List α} {t e bytes:Nat} {x y:Operand} {hi:Int} {k:IntKind} (hx:ev E x=some (.vc (pS C xs))) (hy:ev E y=some (.vc (pI k hi))) (ht:TyS S.P t e C.n bytes) (hN:Nat.blt d S.N=true) (hg:cU ops E g) (h:slL xs 0 hi=some zs) (k:GL S ops κ rest H ((d,.vc (pS C zs))::E) Q):GL S ops κ (⟨some d,.slice t x none (some y) none,ty,pos,af,g⟩::rest) H E Q:=
 kE (aDP rfl ht h) ⟨dA hx,dA hy,trivial⟩ hg hN k
theorem aRN {α:Type} {C:Cd α} {xs zs:List α} {t e bytes:Nat} {x y:Operand} {hi:Int} {k:IntKind} (hx:∀G,sG l0 ms E outs G i x=some (.vc (pS C xs))) (hy:∀G,sG l0 ms E outs G i y=some (.vc (pI k hi))) (ht:TyS S.P t e C.n bytes) (hN:Nat.blt d S.N=true) (hg:GD l0 ms E outs i g) (h1:k9 ms [] i [0]=true) (h:slL xs 0 hi=some zs) {r0:List Ou} (hr:r0=.v (.vc (pS C zs))::ro) (kk:DN S H l0 ms E outs n (i+1) l ro):DN S H l0 ms E outs (n+1) i (⟨some d,.slice t x none (some y) none,ty,pos,af,g⟩::l) r0:=
 gU (fun A=>aDP rfl ht h) (fun G=>⟨bL (hx G),bL (hy G),trivial⟩) hN hg h1 hr kk
theorem aRp {α:Type} {C:Cd α} {xs zs:List α} {t e bytes:Nat} {x y:Operand} {lo:Int} {k:IntKind} (hx:ev E x=some (.vc (pS C xs))) (hy:ev E y=some (.vc (pI k lo))) (ht:TyS S.P t e C.n bytes) (hN:Nat.blt d S.N=true) (hg:cU ops E g) (h:slL xs lo xs.length=some zs) (k:GL S ops κ rest H ((d,.vc (pS C zs))::E) Q):GL S ops κ (⟨some d,.slice t x (some y) none none,ty,pos,af,g⟩::rest) H E Q:=
 kE (aMz rfl ht h) ⟨dA hx,dA hy,trivial⟩ hg hN k
theorem aRK {α:Type} {C:Cd α} {xs zs:List α} {t e bytes:Nat} {x y:Operand} {lo:Int} {k:IntKind} (hx:∀G,sG l0 ms E outs G i x=some (.vc (pS C xs))) (hy:∀G,sG l0 ms E outs G i y=some (.vc (pI k lo))) (ht:TyS S.P t e C.n bytes) (hN:Nat.blt d S.N=true) (hg:GD l0 ms E outs i g) (h1:k9 ms [] i [0]=true) (h:slL xs lo xs.length=some zs) {r0:List Ou} (hr:r0=.v (.vc (pS C zs))::ro) (kk:DN S H l0 ms E outs n (i+1) l ro):DN S H l0 ms E outs (n+1) i (⟨some d,.slice t x (some y) none none,ty,pos,af,g⟩::l) r0:=
 gU (fun A=>aMz rfl ht h) (fun G=>⟨bL (hx G),bL (hy G),trivial⟩) hN hg h1 hr kk
theorem aOM {α:Type} {C:Cd α} {xs zs:List α} {t e bytes:Nat} {x y z:Operand} {lo hi:Int} {k k2:IntKind} (hx:ev E x=some (.vc (pS C xs))) (hy:ev E y=some (.vc (pI k lo))) (hz:ev E z=some (.vc (pI k2 hi))) (ht:TyS S.P t e C.n bytes) (hN:Nat.blt d S.N=true) (hg:cU ops E g) (h:slL xs lo hi=some zs) (k:GL S ops κ rest H ((d,.vc (pS C zs))::E) Q):GL S ops κ (⟨some d,.slice t x (some y) (some z) none,ty,pos,af,g⟩::rest) H E Q:=
 kE (aJx rfl ht h) ⟨dA hx,dA hy,dA hz,trivial⟩ hg hN k
theorem aOR {α:Type} {C:Cd α} {xs zs:List α} {t e bytes:Nat} {x y z:Operand} {lo hi:Int} {k k2:IntKind} (hx:∀G,sG l0 ms E outs G i x=some (.vc (pS C xs))) (hy:∀G,sG l0 ms E outs G i y=some (.vc (pI k lo))) (hz:∀G,sG l0 ms E outs G i z=some (.vc (pI k2 hi))) (ht:TyS S.P t e C.n bytes) (hN:Nat.blt d S.N=true) (hg:GD l0 ms E outs i g) (h1:k9 ms [] i [0]=true) (h:slL xs lo hi=some zs) {r0:List Ou} (hr:r0=.v (.vc (pS C zs))::ro) (kk:DN S H l0 ms E outs n (i+1) l ro):DN S H l0 ms E outs (n+1) i (⟨some d,.slice t x (some y) (some z) none,ty,pos,af,g⟩::l) r0:=
 gU (fun A=>aJx rfl ht h) (fun G=>⟨bL (hx G),bL (hy G),bL (hz G),trivial⟩) hN hg h1 hr kk
theorem aSa {c x y:Operand} {p:VP} (hc:ev E c=some (.vc (pB true))) (hx:ev E x=some p) (hN:Nat.blt d S.N=true) (hg:cU ops E g) (k:GL S ops κ rest H ((d,p)::E) Q):GL S ops κ (⟨some d,.pick c x y,ty,pos,af,g⟩::rest) H E Q:=
 kE (wE rfl) ⟨dA hc,dA hx,trivial⟩ hg hN k
theorem aRs {c x y:Operand} {p:VP} (hc:∀G,sG l0 ms E outs G i c=some (.vc (pB true))) (hx:∀G,sG l0 ms E outs G i x=some p) (hN:Nat.blt d S.N=true) (hg:GD l0 ms E outs i g) (h1:k9 ms [] i [0]=true) {r0:List Ou} (hr:r0=.v (p)::ro) (kk:DN S H l0 ms E outs n (i+1) l ro):DN S H l0 ms E outs (n+1) i (⟨some d,.pick c x y,ty,pos,af,g⟩::l) r0:=
 gU (fun A=>wE rfl) (fun G=>⟨bL (hc G),bL (hx G),trivial⟩) hN hg h1 hr kk
theorem aRI {c x y:Operand} {p:VP} (hc:ev E c=some (.vc (pB false))) (hy:ev E y=some p) (hN:Nat.blt d S.N=true) (hg:cU ops E g) (k:GL S ops κ rest H ((d,p)::E) Q):GL S ops κ (⟨some d,.pick c x y,ty,pos,af,g⟩::rest) H E Q:=
 kE (aAQ rfl) ⟨dA hc,dA hy,trivial⟩ hg hN k
theorem aQV {c x y:Operand} {p:VP} (hc:∀G,sG l0 ms E outs G i c=some (.vc (pB false))) (hy:∀G,sG l0 ms E outs G i y=some p) (hN:Nat.blt d S.N=true) (hg:GD l0 ms E outs i g) (h1:k9 ms [] i [0]=true) {r0:List Ou} (hr:r0=.v (p)::ro) (kk:DN S H l0 ms E outs n (i+1) l ro):DN S H l0 ms E outs (n+1) i (⟨some d,.pick c x y,ty,pos,af,g⟩::l) r0:=
 gU (fun A=>aAQ rfl) (fun G=>⟨bL (hc G),bL (hy G),trivial⟩) hN hg h1 hr kk
theorem aQT {x:Operand} {β:Option Nat} {off:Nat} (hx:ev E x=some (.vc (pP β off))) (hN:Nat.blt d S.N=true) (hg:cU ops E g) (k:GL S ops κ rest H ((d,.vc (pP β off))::E) Q):GL S ops κ (⟨some d,.nilCheck x,ty,pos,af,g⟩::rest) H E Q:=
 kE (qX rfl) ⟨dA hx,trivial⟩ hg hN k
theorem aQN {x:Operand} {β:Option Nat} {off:Nat} (hx:∀G,sG l0 ms E outs G i x=some (.vc (pP β off))) (hN:Nat.blt d S.N=true) (hg:GD l0 ms E outs i g) (h1:k9 ms [] i [0]=true) {r0:List Ou} (hr:r0=.v (.vc (pP β off))::ro) (kk:DN S H l0 ms E outs n (i+1) l ro):DN S H l0 ms E outs (n+1) i (⟨some d,.nilCheck x,ty,pos,af,g⟩::l) r0:=
 gU (fun A=>qX rfl) (fun G=>⟨bL (hx G),trivial⟩) hN hg h1 hr kk
theorem aPl {x:Operand} {β:Option Nat} {j:Int} {n f:Nat} (hx:ev E x=some (.vc (pE β j n f))) (hN:Nat.blt d S.N=true) (hg:cU ops E g) (k:GL S ops κ rest H ((d,.vc (pE β j n f))::E) Q):GL S ops κ (⟨some d,.nilCheck x,ty,pos,af,g⟩::rest) H E Q:=
 kE (aL2 rfl) ⟨dA hx,trivial⟩ hg hN k
theorem aOU {x:Operand} {β:Option Nat} {j:Int} {n f:Nat} (hx:∀G,sG l0 ms E outs G i x=some (.vc (pE β j n f))) (hN:Nat.blt d S.N=true) (hg:GD l0 ms E outs i g) (h1:k9 ms [] i [0]=true) {r0:List Ou} (hr:r0=.v (.vc (pE β j n f))::ro) (kk:DN S H l0 ms E outs n (i+1) l ro):DN S H l0 ms E outs (n+1) i (⟨some d,.nilCheck x,ty,pos,af,g⟩::l) r0:=
 gU (fun A=>aL2 rfl) (fun G=>⟨bL (hx G),trivial⟩) hN hg h1 hr kk
theorem aPy {x:Operand} {ps:List CP} (hx:ev E x=some (.vc (pM ps))) (hN:Nat.blt d S.N=true) (hg:cU ops E g) (k:GL S ops κ rest H ((d,.vc (pM ps))::E) Q):GL S ops κ (⟨some d,.nilCheck x,ty,pos,af,g⟩::rest) H E Q:=
 kE (aLv rfl) ⟨dA hx,trivial⟩ hg hN k
theorem aPg {x:Operand} {ps:List CP} (hx:∀G,sG l0 ms E outs G i x=some (.vc (pM ps))) (hN:Nat.blt d S.N=true) (hg:GD l0 ms E outs i g) (h1:k9 ms [] i [0]=true) {r0:List Ou} (hr:r0=.v (.vc (pM ps))::ro) (kk:DN S H l0 ms E outs n (i+1) l ro):DN S H l0 ms E outs (n+1) i (⟨some d,.nilCheck x,ty,pos,af,g⟩::l) r0:=
 gU (fun A=>aLv rfl) (fun G=>⟨bL (hx G),trivial⟩) hN hg h1 hr kk
theorem aNl {f:Nat} {xs:List Operand} {ps:List VP} {post:VP} {ts:Array TypeId} (he:evs E xs=some ps) (hN:Nat.blt d S.N=true) (hg:cU ops E g) (c:Ct S.P f ps post) (k:GL S ops κ rest H ((d,post)::E) Q):GL S ops κ (⟨some d,.call {callee:=.value (.func f),args:=xs.toArray,argTypes:=ts},ty,pos,af,g⟩::rest) H E Q:=
 kE (bJ rfl c (aGw he).2) (aGw he).1 hg hN k
theorem aPc {T:Nat} {zs:List CP} (hz:TyZ S.P T zs) (hN:Nat.blt d S.N=true) {r0:List Ou} (hr:r0=.a T zs::ro) (k:DN S H l0 ms E outs n (i+1) l ro):DN S H l0 ms E outs (n+1) i (⟨some d,.alloc T,ty,pos,af,none⟩::l) r0:=by
 subst hr
 exact aGK hN (.alc hz rfl rfl rfl) k
theorem aL5 {f:Nat} {xs:List Operand} {ps:List VP} {post:VP} {ts:Array TypeId} (he:∀G,aQr l0 ms E outs G i xs=some ps) (hN:Nat.blt d S.N=true) (hg:GD l0 ms E outs i g) (h1:k9 ms [] i [0]=true) (c:Ct S.P f ps post) {r0:List Ou} (hr:r0=.v post::ro) (k:DN S H l0 ms E outs n (i+1) l ro):DN S H l0 ms E outs (n+1) i (⟨some d,.call {callee:=.value (.func f),args:=xs.toArray,argTypes:=ts},ty,pos,af,g⟩::l) r0:=
 gU (fun A=>bJ rfl c (aEd (he fun _=>(none,0))).2) (fun G=>(aEd (he G)).1) hN hg h1 hr k
theorem aR8 {t off:Nat} {x y:Operand} {β:Option Nat} {e:HA} {p:VP} {ps:List CP} (hx:ev E x=some (.vc (pP β off))) (hy:ev E y=some p) (ht:Ty1 S.P t) (hi:yG H β e ⟨e.β,e.c,e.T,e.sz,e.n,ps⟩ H') (hp:p.flat) (hk:p.cells.length=1) (hq:wN e.ps off p.cells=some ps) (k:GL S ops κ rest H' E Q):GL S ops κ (⟨none,.store t x y,ty,pos,af,none⟩::rest) H E Q:=by
 obtain⟨i,h1,h2,h3⟩:=hi.at
 exact⟨fun q=>kY (t_s i rfl h1 h2 ht.s hp hk hq h3) ⟨dA hx,dA hy,trivial⟩ (k.h q) rfl rfl⟩
theorem aRR {t off r:Nat} {x y:Operand} {β:Option Nat} {e:HA} {p:VP} {ps:List CP} (hx:ev E x=some (.vc (pP β off))) (hy:ev E y=some p) (ht:TyA S.P t r) (hi:yG H β e ⟨e.β,e.c,e.T,e.sz,e.n,ps⟩ H') (hp:p.flat) (hk:p.cells.length=r) (hq:wN e.ps off p.cells=some ps) (k:GL S ops κ rest H' E Q):GL S ops κ (⟨none,.store t x y,ty,pos,af,none⟩::rest) H E Q:=by
 obtain⟨i,h1,h2,h3⟩:=hi.at
 exact⟨fun q=>kY (t_s i rfl h1 h2 ht.s hp hk hq h3) ⟨dA hx,dA hy,trivial⟩ (k.h q) rfl rfl⟩
theorem dr {id:Nat} (ms:List Nat) (m n:Nat) (outs:List Ou) (k:∀bs G,WL S l.toArray κ (l.drop outs.length) (aDa bs 0 outs++H) (aC6 bs G 0 l outs++E)) (hops:DN S H l ms E outs m 0 l outs:=by
 repeat (first
  |(apply aQZ;exact fun _=>rfl;exact rfl;(first|exact GD.p|exact GD.g rfl (fun _=>rfl));exact rfl;exact rfl)
  |(apply aQ4;exact fun _=>rfl;exact rfl;(first|exact GD.p|exact GD.g rfl (fun _=>rfl));exact rfl;exact rfl)
  |(apply e_n;exact rfl;exact fun _=>rfl;exact rfl;exact rfl;exact rfl)
  |(apply aRt;exact fun _=>rfl;exact fun _=>rfl;exact inferInstance;exact rfl;(first|exact GD.p|exact GD.g rfl (fun _=>rfl));exact rfl;(with_reducible assumption);exact rfl)
  |(apply aO7;exact fun _=>rfl;exact inferInstance;exact rfl;(first|exact GD.p|exact GD.g rfl (fun _=>rfl));exact rfl;exact rfl)
  |(apply aRz;exact fun _=>rfl;exact inferInstance;exact rfl;(first|exact GD.p|exact GD.g rfl (fun _=>rfl));exact rfl;exact rfl)
  |(apply aOK;exact fun _=>rfl;exact inferInstance;exact rfl;(first|exact GD.p|exact GD.g rfl (fun _=>rfl));exact rfl;exact rfl)
  |(apply aPx;exact fun _=>rfl;exact inferInstance;exact rfl;exact rfl;(first|exact GD.p|exact GD.g rfl (fun _=>rfl));exact rfl;exact rfl)
  |(apply aOz;exact fun _=>rfl;exact inferInstance;exact rfl;exact rfl;(first|exact GD.p|exact GD.g rfl (fun _=>rfl));exact rfl;exact rfl)
  |(apply aRT;exact fun _=>rfl;exact inferInstance;(repeat (first|exact gN.a rfl|apply gN.b));exact rfl;exact rfl;(first|exact GD.p|exact GD.g rfl (fun _=>rfl));exact rfl;exact rfl)
  |(apply aQ9;exact fun _=>rfl;exact inferInstance;(repeat (first|exact gN.a rfl|apply gN.b));exact rfl;exact rfl;(first|exact GD.p|exact GD.g rfl (fun _=>rfl));exact rfl;exact rfl)
  |(apply aO5;exact fun _=>rfl;exact fun _=>rfl;(repeat (first|exact gN.a rfl|apply gN.b));(first|exact rfl|with_reducible assumption|exact bG (by with_reducible assumption) (by first|with_reducible assumption|exact rfl));exact inferInstance;exact rfl;(first|exact GD.p|exact GD.g rfl (fun _=>rfl));exact rfl;(with_reducible assumption);exact rfl)
  |(apply aOA;exact fun _=>rfl;(repeat (first|exact gN.a rfl|apply gN.b));(first|exact rfl|with_reducible assumption|exact bG (by with_reducible assumption) (by first|with_reducible assumption|exact rfl));exact inferInstance;exact rfl;(first|exact GD.p|exact GD.g rfl (fun _=>rfl));exact rfl;exact rfl)
  |(apply aMv;exact fun _=>rfl;(repeat (first|exact gN.a rfl|apply gN.b));exact rfl;(with_reducible assumption);exact inferInstance;exact rfl;exact rfl;exact rfl;(first|exact GD.p|exact GD.g rfl (fun _=>rfl));exact rfl;exact rfl)
  |(apply aNz;exact fun _=>rfl;(repeat (first|exact gN.a rfl|apply gN.b));exact rfl;(with_reducible assumption);exact inferInstance;exact rfl;exact rfl;exact rfl;(first|exact GD.p|exact GD.g rfl (fun _=>rfl));exact rfl;exact rfl)
  |(apply aRF;exact fun _=>rfl;exact inferInstance;exact rfl;(first|exact GD.p|exact GD.g rfl (fun _=>rfl));exact rfl;exact rfl)
  |(apply aRE;exact fun _=>rfl;exact fun _=>rfl;exact rfl;(first|exact GD.p|exact GD.g rfl (fun _=>rfl));exact rfl;exact rfl)
  |(apply aQX;exact fun _=>rfl;exact fun _=>rfl;exact rfl;(first|exact GD.p|exact GD.g rfl (fun _=>rfl));exact rfl;exact rfl)
  |(apply aQP;exact fun _=>rfl;exact fun _=>rfl;exact rfl;(first|exact GD.p|exact GD.g rfl (fun _=>rfl));exact rfl;exact rfl)
  |(apply aRP;exact fun _=>rfl;exact fun _=>rfl;exact rfl;(first|exact GD.p|exact GD.g rfl (fun _=>rfl));exact rfl;exact rfl)
  |(apply aSg;exact fun _=>rfl;exact fun _=>rfl;exact rfl;(first|exact GD.p|exact GD.g rfl (fun _=>rfl));exact rfl;exact rfl)
  |(apply aRv;exact fun _=>rfl;exact fun _=>rfl;exact rfl;(first|exact GD.p|exact GD.g rfl (fun _=>rfl));exact rfl;exact rfl)
  |(apply aPr;exact fun _=>rfl;exact fun _=>rfl;exact rfl;(first|exact GD.p|exact GD.g rfl (fun _=>rfl));exact rfl;(with_reducible assumption);exact rfl)
  |(apply aPo;exact fun _=>rfl;exact fun _=>rfl;exact rfl;(first|exact GD.p|exact GD.g rfl (fun _=>rfl));exact rfl;(with_reducible assumption);exact rfl)
  |(apply aOE;exact fun _=>rfl;exact fun _=>rfl;exact rfl;(first|exact GD.p|exact GD.g rfl (fun _=>rfl));exact rfl;(with_reducible assumption);exact rfl)
  |(apply aPB;exact fun _=>rfl;exact fun _=>rfl;exact rfl;(first|exact GD.p|exact GD.g rfl (fun _=>rfl));exact rfl;(with_reducible assumption);exact rfl)
  |(apply aPH;exact fun _=>rfl;exact fun _=>rfl;exact rfl;(first|exact GD.p|exact GD.g rfl (fun _=>rfl));exact rfl;(with_reducible assumption);exact rfl)
  |(apply aO6;exact fun _=>rfl;exact rfl;(first|exact GD.p|exact GD.g rfl (fun _=>rfl));exact rfl;exact rfl)
  |(apply aPG;exact fun _=>rfl;exact rfl;(first|exact GD.p|exact GD.g rfl (fun _=>rfl));exact rfl;(with_reducible assumption);exact rfl)
  |(apply aPp;exact fun _=>rfl;exact rfl;(first|exact GD.p|exact GD.g rfl (fun _=>rfl));exact rfl;exact rfl)
  |(apply aPI;exact fun _=>rfl;exact rfl;(first|exact GD.p|exact GD.g rfl (fun _=>rfl));exact rfl;exact rfl)
  |(apply aO0;exact fun _=>rfl;exact rfl;(first|exact GD.p|exact GD.g rfl (fun _=>rfl));exact rfl;exact rfl)
  |(apply aOT;exact fun _=>rfl;exact rfl;(first|exact GD.p|exact GD.g rfl (fun _=>rfl));exact rfl;exact rfl)
  |(apply aOG;exact fun _=>rfl;exact rfl;(first|exact GD.p|exact GD.g rfl (fun _=>rfl));exact rfl;exact rfl)
  |(apply aRm;exact fun _=>rfl;exact fun _=>rfl;exact rfl;(first|exact GD.p|exact GD.g rfl (fun _=>rfl));exact rfl;exact rfl)
  |(apply aRU;exact fun _=>rfl;exact fun _=>rfl;exact rfl;(first|exact GD.p|exact GD.g rfl (fun _=>rfl));exact rfl;exact rfl)
  |(apply aRN;exact fun _=>rfl;exact fun _=>rfl;exact inferInstance;exact rfl;(first|exact GD.p|exact GD.g rfl (fun _=>rfl));exact rfl;(with_reducible assumption);exact rfl)
  |(apply aRK;exact fun _=>rfl;exact fun _=>rfl;exact inferInstance;exact rfl;(first|exact GD.p|exact GD.g rfl (fun _=>rfl));exact rfl;(with_reducible assumption);exact rfl)
  |(apply aOR;exact fun _=>rfl;exact fun _=>rfl;exact fun _=>rfl;exact inferInstance;exact rfl;(first|exact GD.p|exact GD.g rfl (fun _=>rfl));exact rfl;(with_reducible assumption);exact rfl)
  |(apply aRs;exact fun _=>rfl;exact fun _=>rfl;exact rfl;(first|exact GD.p|exact GD.g rfl (fun _=>rfl));exact rfl;exact rfl)
  |(apply aQV;exact fun _=>rfl;exact fun _=>rfl;exact rfl;(first|exact GD.p|exact GD.g rfl (fun _=>rfl));exact rfl;exact rfl)
  |(apply aQN;exact fun _=>rfl;exact rfl;(first|exact GD.p|exact GD.g rfl (fun _=>rfl));exact rfl;exact rfl)
  |(apply aOU;exact fun _=>rfl;exact rfl;(first|exact GD.p|exact GD.g rfl (fun _=>rfl));exact rfl;exact rfl)
  |(apply aPg;exact fun _=>rfl;exact rfl;(first|exact GD.p|exact GD.g rfl (fun _=>rfl));exact rfl;exact rfl)
  |(apply aL5;exact fun _=>rfl;exact rfl;(first|exact GD.p|exact GD.g rfl (fun _=>rfl));exact rfl;assumption;exact rfl)
  |(apply aPc;exact inferInstance;exact rfl;exact rfl)
  |(apply e_u;exact rfl;exact fun _=>rfl;exact rfl;exact rfl)
  |(apply aPE;exact rfl))) (hx:Mix S.P:=by infer_instance)
  (hm:aB5 ms l ms=true:=by kernel_rfl) (hb:xI l 0=true:=by kernel_rfl) (hq:aAZ l=true:=by kernel_rfl) (hm2:Nat.beq l.length (m+n)=true:=by kernel_rfl) (ht:aB8 l ms m n=true:=by kernel_rfl):WC S (.region id l.toArray true) κ H E:=
 iV ms m n outs hx.h hops.h k hm hb hq (by rw [hops.len];simp) hm2 ht
theorem drb {id:Nat} (ms:List Nat) (m n:Nat) (outs:List Ou) (k:∀bs G,WL S l.toArray κ (l.drop outs.length) (aDa bs 0 outs++H) (aC6 bs G 0 l outs++E)) (hops:DN S H l ms E outs m 0 l outs:=by
 repeat (first
  |(apply aRV;exact fun _=>rfl;exact rfl;(first|exact GD.p|exact GD.g rfl (fun _=>rfl));exact rfl;(with_reducible assumption);exact rfl)
  |(apply aRg;exact fun _=>rfl;exact rfl;(first|exact GD.p|exact GD.g rfl (fun _=>rfl));exact rfl;(with_reducible assumption);exact rfl)
  |(apply aRu;exact fun _=>rfl;exact fun _=>rfl;exact rfl;(first|exact GD.p|exact GD.g rfl (fun _=>rfl));exact rfl;(with_reducible assumption);exact rfl)
  |(apply aQ5;exact fun _=>rfl;exact fun _=>rfl;exact rfl;(first|exact GD.p|exact GD.g rfl (fun _=>rfl));exact rfl;(with_reducible assumption);exact rfl)
  |(apply aSd;exact fun _=>rfl;exact fun _=>rfl;exact rfl;(first|exact GD.p|exact GD.g rfl (fun _=>rfl));exact rfl;(with_reducible assumption);exact rfl)
  |(apply aRO;exact fun _=>rfl;exact fun _=>rfl;exact rfl;(first|exact GD.p|exact GD.g rfl (fun _=>rfl));exact rfl;(with_reducible assumption);exact rfl)
  |(apply aQ6;exact fun _=>rfl;exact fun _=>rfl;exact rfl;(first|exact GD.p|exact GD.g rfl (fun _=>rfl));exact rfl;(with_reducible assumption);exact rfl)
  |(apply aRA;exact fun _=>rfl;exact fun _=>rfl;exact rfl;(first|exact GD.p|exact GD.g rfl (fun _=>rfl));exact rfl;(with_reducible assumption);exact rfl)
  |(apply aPS;exact fun _=>rfl;exact rfl;(first|exact GD.p|exact GD.g rfl (fun _=>rfl));exact rfl;(with_reducible assumption);exact rfl)
  |(apply aQZ;exact fun _=>rfl;exact rfl;(first|exact GD.p|exact GD.g rfl (fun _=>rfl));exact rfl;exact rfl)
  |(apply aQ4;exact fun _=>rfl;exact rfl;(first|exact GD.p|exact GD.g rfl (fun _=>rfl));exact rfl;exact rfl)
  |(apply e_n;exact rfl;exact fun _=>rfl;exact rfl;exact rfl;exact rfl)
  |(apply aRt;exact fun _=>rfl;exact fun _=>rfl;exact inferInstance;exact rfl;(first|exact GD.p|exact GD.g rfl (fun _=>rfl));exact rfl;(with_reducible assumption);exact rfl)
  |(apply aO7;exact fun _=>rfl;exact inferInstance;exact rfl;(first|exact GD.p|exact GD.g rfl (fun _=>rfl));exact rfl;exact rfl)
  |(apply aRz;exact fun _=>rfl;exact inferInstance;exact rfl;(first|exact GD.p|exact GD.g rfl (fun _=>rfl));exact rfl;exact rfl)
  |(apply aOK;exact fun _=>rfl;exact inferInstance;exact rfl;(first|exact GD.p|exact GD.g rfl (fun _=>rfl));exact rfl;exact rfl)
  |(apply aPx;exact fun _=>rfl;exact inferInstance;exact rfl;exact rfl;(first|exact GD.p|exact GD.g rfl (fun _=>rfl));exact rfl;exact rfl)
  |(apply aOz;exact fun _=>rfl;exact inferInstance;exact rfl;exact rfl;(first|exact GD.p|exact GD.g rfl (fun _=>rfl));exact rfl;exact rfl)
  |(apply aRT;exact fun _=>rfl;exact inferInstance;(repeat (first|exact gN.a rfl|apply gN.b));exact rfl;exact rfl;(first|exact GD.p|exact GD.g rfl (fun _=>rfl));exact rfl;exact rfl)
  |(apply aQ9;exact fun _=>rfl;exact inferInstance;(repeat (first|exact gN.a rfl|apply gN.b));exact rfl;exact rfl;(first|exact GD.p|exact GD.g rfl (fun _=>rfl));exact rfl;exact rfl)
  |(apply aO5;exact fun _=>rfl;exact fun _=>rfl;(repeat (first|exact gN.a rfl|apply gN.b));(first|exact rfl|with_reducible assumption|exact bG (by with_reducible assumption) (by first|with_reducible assumption|exact rfl));exact inferInstance;exact rfl;(first|exact GD.p|exact GD.g rfl (fun _=>rfl));exact rfl;(with_reducible assumption);exact rfl)
  |(apply aOA;exact fun _=>rfl;(repeat (first|exact gN.a rfl|apply gN.b));(first|exact rfl|with_reducible assumption|exact bG (by with_reducible assumption) (by first|with_reducible assumption|exact rfl));exact inferInstance;exact rfl;(first|exact GD.p|exact GD.g rfl (fun _=>rfl));exact rfl;exact rfl)
  |(apply aMv;exact fun _=>rfl;(repeat (first|exact gN.a rfl|apply gN.b));exact rfl;(with_reducible assumption);exact inferInstance;exact rfl;exact rfl;exact rfl;(first|exact GD.p|exact GD.g rfl (fun _=>rfl));exact rfl;exact rfl)
  |(apply aNz;exact fun _=>rfl;(repeat (first|exact gN.a rfl|apply gN.b));exact rfl;(with_reducible assumption);exact inferInstance;exact rfl;exact rfl;exact rfl;(first|exact GD.p|exact GD.g rfl (fun _=>rfl));exact rfl;exact rfl)
  |(apply aRF;exact fun _=>rfl;exact inferInstance;exact rfl;(first|exact GD.p|exact GD.g rfl (fun _=>rfl));exact rfl;exact rfl)
  |(apply aRE;exact fun _=>rfl;exact fun _=>rfl;exact rfl;(first|exact GD.p|exact GD.g rfl (fun _=>rfl));exact rfl;exact rfl)
  |(apply aQX;exact fun _=>rfl;exact fun _=>rfl;exact rfl;(first|exact GD.p|exact GD.g rfl (fun _=>rfl));exact rfl;exact rfl)
  |(apply aQP;exact fun _=>rfl;exact fun _=>rfl;exact rfl;(first|exact GD.p|exact GD.g rfl (fun _=>rfl));exact rfl;exact rfl)
  |(apply aRP;exact fun _=>rfl;exact fun _=>rfl;exact rfl;(first|exact GD.p|exact GD.g rfl (fun _=>rfl));exact rfl;exact rfl)
  |(apply aSg;exact fun _=>rfl;exact fun _=>rfl;exact rfl;(first|exact GD.p|exact GD.g rfl (fun _=>rfl));exact rfl;exact rfl)
  |(apply aRv;exact fun _=>rfl;exact fun _=>rfl;exact rfl;(first|exact GD.p|exact GD.g rfl (fun _=>rfl));exact rfl;exact rfl)
  |(apply aPr;exact fun _=>rfl;exact fun _=>rfl;exact rfl;(first|exact GD.p|exact GD.g rfl (fun _=>rfl));exact rfl;(with_reducible assumption);exact rfl)
  |(apply aPo;exact fun _=>rfl;exact fun _=>rfl;exact rfl;(first|exact GD.p|exact GD.g rfl (fun _=>rfl));exact rfl;(with_reducible assumption);exact rfl)
  |(apply aOE;exact fun _=>rfl;exact fun _=>rfl;exact rfl;(first|exact GD.p|exact GD.g rfl (fun _=>rfl));exact rfl;(with_reducible assumption);exact rfl)
  |(apply aPB;exact fun _=>rfl;exact fun _=>rfl;exact rfl;(first|exact GD.p|exact GD.g rfl (fun _=>rfl));exact rfl;(with_reducible assumption);exact rfl)
  |(apply aPH;exact fun _=>rfl;exact fun _=>rfl;exact rfl;(first|exact GD.p|exact GD.g rfl (fun _=>rfl));exact rfl;(with_reducible assumption);exact rfl)
  |(apply aO6;exact fun _=>rfl;exact rfl;(first|exact GD.p|exact GD.g rfl (fun _=>rfl));exact rfl;exact rfl)
  |(apply aPG;exact fun _=>rfl;exact rfl;(first|exact GD.p|exact GD.g rfl (fun _=>rfl));exact rfl;(with_reducible assumption);exact rfl)
  |(apply aPp;exact fun _=>rfl;exact rfl;(first|exact GD.p|exact GD.g rfl (fun _=>rfl));exact rfl;exact rfl)
  |(apply aPI;exact fun _=>rfl;exact rfl;(first|exact GD.p|exact GD.g rfl (fun _=>rfl));exact rfl;exact rfl)
  |(apply aO0;exact fun _=>rfl;exact rfl;(first|exact GD.p|exact GD.g rfl (fun _=>rfl));exact rfl;exact rfl)
  |(apply aOT;exact fun _=>rfl;exact rfl;(first|exact GD.p|exact GD.g rfl (fun _=>rfl));exact rfl;exact rfl)
  |(apply aOG;exact fun _=>rfl;exact rfl;(first|exact GD.p|exact GD.g rfl (fun _=>rfl));exact rfl;exact rfl)
  |(apply aRm;exact fun _=>rfl;exact fun _=>rfl;exact rfl;(first|exact GD.p|exact GD.g rfl (fun _=>rfl));exact rfl;exact rfl)
  |(apply aRU;exact fun _=>rfl;exact fun _=>rfl;exact rfl;(first|exact GD.p|exact GD.g rfl (fun _=>rfl));exact rfl;exact rfl)
  |(apply aRN;exact fun _=>rfl;exact fun _=>rfl;exact inferInstance;exact rfl;(first|exact GD.p|exact GD.g rfl (fun _=>rfl));exact rfl;(with_reducible assumption);exact rfl)
  |(apply aRK;exact fun _=>rfl;exact fun _=>rfl;exact inferInstance;exact rfl;(first|exact GD.p|exact GD.g rfl (fun _=>rfl));exact rfl;(with_reducible assumption);exact rfl)
  |(apply aOR;exact fun _=>rfl;exact fun _=>rfl;exact fun _=>rfl;exact inferInstance;exact rfl;(first|exact GD.p|exact GD.g rfl (fun _=>rfl));exact rfl;(with_reducible assumption);exact rfl)
  |(apply aRs;exact fun _=>rfl;exact fun _=>rfl;exact rfl;(first|exact GD.p|exact GD.g rfl (fun _=>rfl));exact rfl;exact rfl)
  |(apply aQV;exact fun _=>rfl;exact fun _=>rfl;exact rfl;(first|exact GD.p|exact GD.g rfl (fun _=>rfl));exact rfl;exact rfl)
  |(apply aQN;exact fun _=>rfl;exact rfl;(first|exact GD.p|exact GD.g rfl (fun _=>rfl));exact rfl;exact rfl)
  |(apply aOU;exact fun _=>rfl;exact rfl;(first|exact GD.p|exact GD.g rfl (fun _=>rfl));exact rfl;exact rfl)
  |(apply aPg;exact fun _=>rfl;exact rfl;(first|exact GD.p|exact GD.g rfl (fun _=>rfl));exact rfl;exact rfl)
  |(apply aL5;exact fun _=>rfl;exact rfl;(first|exact GD.p|exact GD.g rfl (fun _=>rfl));exact rfl;assumption;exact rfl)
  |(apply aPc;exact inferInstance;exact rfl;exact rfl)
  |(apply e_u;exact rfl;exact fun _=>rfl;exact rfl;exact rfl)
  |(apply aPE;exact rfl))) (hx:Mix S.P:=by infer_instance)
  (hm:aB5 ms l ms=true:=by kernel_rfl) (hb:xI l 0=true:=by kernel_rfl) (hq:aAZ l=true:=by kernel_rfl) (hm2:Nat.beq l.length (m+n)=true:=by kernel_rfl) (ht:aB8 l ms m n=true:=by kernel_rfl):WC S (.region id l.toArray true) κ H E:=
 iV ms m n outs hx.h hops.h k hm hb hq (by rw [hops.len];simp) hm2 ht
theorem go {P:Prop} (Q:Prop) (k:Q) (h:D P Q:=by
 first
  |with_reducible refine sL ?_
  |with_reducible refine sC ?_
  |with_reducible refine sX ?_
 repeat (first
  |(apply aOP)
  |(apply aNv)
  |(apply aOX)
  |(apply aOI)
  |(apply aSe;exact rfl;exact rfl;(first|exact cU.p|exact cU.g rfl rfl rfl))
  |(apply aRM;exact rfl;exact rfl;(first|exact cU.p|exact cU.g rfl rfl rfl))
  |(apply b_n;exact rfl;exact rfl;exact rfl;exact rfl;exact rfl)
  |(apply aQM;exact rfl;exact rfl;exact inferInstance;exact rfl;(first|exact cU.p|exact cU.g rfl rfl rfl);(with_reducible assumption))
  |(apply aPt;exact rfl;exact inferInstance;exact rfl;(first|exact cU.p|exact cU.g rfl rfl rfl))
  |(apply aRo;exact rfl;exact inferInstance;exact rfl;(first|exact cU.p|exact cU.g rfl rfl rfl))
  |(apply aO3;exact rfl;exact inferInstance;exact rfl;(first|exact cU.p|exact cU.g rfl rfl rfl))
  |(apply aOF;exact rfl;exact inferInstance;exact rfl;exact rfl;(first|exact cU.p|exact cU.g rfl rfl rfl))
  |(apply aPA;exact rfl;exact inferInstance;exact rfl;exact rfl;(first|exact cU.p|exact cU.g rfl rfl rfl))
  |(apply aR4;exact rfl;exact inferInstance;(repeat (first|exact gN.a rfl|apply gN.b));exact rfl;exact rfl;(first|exact cU.p|exact cU.g rfl rfl rfl))
  |(apply aQ7;exact rfl;exact inferInstance;(repeat (first|exact gN.a rfl|apply gN.b));exact rfl;exact rfl;(first|exact cU.p|exact cU.g rfl rfl rfl))
  |(apply aON;exact rfl;exact rfl;(repeat (first|exact gN.a rfl|apply gN.b));(first|exact rfl|with_reducible assumption|exact bG (by with_reducible assumption) (by first|with_reducible assumption|exact rfl));exact inferInstance;exact rfl;(first|exact cU.p|exact cU.g rfl rfl rfl);(with_reducible assumption))
  |(apply aPw;exact rfl;(repeat (first|exact gN.a rfl|apply gN.b));(first|exact rfl|with_reducible assumption|exact bG (by with_reducible assumption) (by first|with_reducible assumption|exact rfl));exact inferInstance;exact rfl;(first|exact cU.p|exact cU.g rfl rfl rfl))
  |(apply aLX;exact rfl;(repeat (first|exact gN.a rfl|apply gN.b));exact rfl;(with_reducible assumption);exact inferInstance;exact rfl;exact rfl;exact rfl;(first|exact cU.p|exact cU.g rfl rfl rfl))
  |(apply aNp;exact rfl;(repeat (first|exact gN.a rfl|apply gN.b));exact rfl;(with_reducible assumption);exact inferInstance;exact rfl;exact rfl;exact rfl;(first|exact cU.p|exact cU.g rfl rfl rfl))
  |(apply aR6;exact rfl;exact inferInstance;exact rfl;(first|exact cU.p|exact cU.g rfl rfl rfl))
  |(apply aQL;exact rfl;exact rfl;exact rfl;(first|exact cU.p|exact cU.g rfl rfl rfl))
  |(apply aQ8;exact rfl;exact rfl;exact rfl;(first|exact cU.p|exact cU.g rfl rfl rfl))
  |(apply aRB;exact rfl;exact rfl;exact rfl;(first|exact cU.p|exact cU.g rfl rfl rfl))
  |(apply aQ0;exact rfl;exact rfl;exact rfl;(first|exact cU.p|exact cU.g rfl rfl rfl))
  |(apply aRC;exact rfl;exact rfl;exact rfl;(first|exact cU.p|exact cU.g rfl rfl rfl))
  |(apply aSf;exact rfl;exact rfl;exact rfl;(first|exact cU.p|exact cU.g rfl rfl rfl))
  |(apply aO9;exact rfl;exact rfl;exact rfl;(first|exact cU.p|exact cU.g rfl rfl rfl);(with_reducible assumption))
  |(apply aPd;exact rfl;exact rfl;exact rfl;(first|exact cU.p|exact cU.g rfl rfl rfl);(with_reducible assumption))
  |(apply aPi;exact rfl;exact rfl;exact rfl;(first|exact cU.p|exact cU.g rfl rfl rfl);(with_reducible assumption))
  |(apply aOD;exact rfl;exact rfl;exact rfl;(first|exact cU.p|exact cU.g rfl rfl rfl);(with_reducible assumption))
  |(apply aPn;exact rfl;exact rfl;exact rfl;(first|exact cU.p|exact cU.g rfl rfl rfl);(with_reducible assumption))
  |(apply aO8;exact rfl;exact rfl;(first|exact cU.p|exact cU.g rfl rfl rfl))
  |(apply aOJ;exact rfl;exact rfl;(first|exact cU.p|exact cU.g rfl rfl rfl);(with_reducible assumption))
  |(apply aO2;exact rfl;exact rfl;(first|exact cU.p|exact cU.g rfl rfl rfl))
  |(apply aPs;exact rfl;exact rfl;(first|exact cU.p|exact cU.g rfl rfl rfl))
  |(apply aPj;exact rfl;exact rfl;(first|exact cU.p|exact cU.g rfl rfl rfl))
  |(apply aOW;exact rfl;exact rfl;(first|exact cU.p|exact cU.g rfl rfl rfl))
  |(apply aOB;exact rfl;exact rfl;(first|exact cU.p|exact cU.g rfl rfl rfl))
  |(apply aRc;exact rfl;exact rfl;exact rfl;(first|exact cU.p|exact cU.g rfl rfl rfl))
  |(apply aRk;exact rfl;exact rfl;exact rfl;(first|exact cU.p|exact cU.g rfl rfl rfl))
  |(apply aR0;exact rfl;exact rfl;exact inferInstance;exact rfl;(first|exact cU.p|exact cU.g rfl rfl rfl);(with_reducible assumption))
  |(apply aRp;exact rfl;exact rfl;exact inferInstance;exact rfl;(first|exact cU.p|exact cU.g rfl rfl rfl);(with_reducible assumption))
  |(apply aOM;exact rfl;exact rfl;exact rfl;exact inferInstance;exact rfl;(first|exact cU.p|exact cU.g rfl rfl rfl);(with_reducible assumption))
  |(apply aSa;exact rfl;exact rfl;exact rfl;(first|exact cU.p|exact cU.g rfl rfl rfl))
  |(apply aRI;exact rfl;exact rfl;exact rfl;(first|exact cU.p|exact cU.g rfl rfl rfl))
  |(apply aQT;exact rfl;exact rfl;(first|exact cU.p|exact cU.g rfl rfl rfl))
  |(apply aPl;exact rfl;exact rfl;(first|exact cU.p|exact cU.g rfl rfl rfl))
  |(apply aPy;exact rfl;exact rfl;(first|exact cU.p|exact cU.g rfl rfl rfl))
  |(apply aNl;exact rfl;exact rfl;(first|exact cU.p|exact cU.g rfl rfl rfl);assumption)
  |(apply aR8;exact rfl;exact rfl;exact inferInstance;(repeat (first|exact yG.a rfl|apply yG.b));exact trivial;exact rfl;exact rfl)
  |(apply aRR;exact rfl;exact rfl;exact inferInstance;(repeat (first|exact yG.a rfl|apply yG.b));exact trivial;exact rfl;exact rfl)
  |(apply aKb;exact rfl;exact rfl;(repeat (first|exact gN.a rfl|apply gN.b));exact rfl;(with_reducible assumption);(with_reducible assumption);exact ty1s;(repeat (first|exact yG.a rfl|apply yG.b));exact trivial;exact rfl;exact rfl)
  |(apply aKb;exact rfl;exact rfl;(repeat (first|exact gN.a rfl|apply gN.b));exact rfl;(with_reducible assumption);(with_reducible assumption);exact tyAs;(repeat (first|exact yG.a rfl|apply yG.b));exact trivial;exact rfl;exact rfl)
  |(apply b_u;exact rfl;exact rfl;exact rfl;exact rfl)
  |(apply aMQ)
  |(apply aNh)
  |(apply aKy)
  |(apply aKd)
  |(apply aOY))
 first
  |exact eL
  |exact eC
  |exact eX):P:=h.h k
theorem rv_1 {t T off:Nat} {β:Option Nat} {e:HA} {q:CP} {rs:List ResultVar} {ps:List VP} (h:iE E t=some (.vc (pP β off))) (ht:Ty1 S.P T) (hi:gN H β e) (hq:tB 1 (e.ps.drop off)=some [q]) (kk:RVs S H E rs ps):RVs S H E (.cell t T::rs) (.vc q::ps):=by
 obtain⟨i,h1,h2⟩:=hi.at
 exact vY i 1 h h1 h2 hq (.one ht) kk
theorem rv_A {t T off k:Nat} {β:Option Nat} {e:HA} {qs:List CP} {rs:List ResultVar} {ps:List VP} (h:iE E t=some (.vc (pP β off))) (ht:TyA S.P T k) (hi:gN H β e) (hq:tB k (e.ps.drop off)=some qs) (kk:RVs S H E rs ps):RVs S H E (.cell t T::rs) (.va qs::ps):=by
 obtain⟨i,h1,h2⟩:=hi.at
 exact vY i k h h1 h2 hq (.agg ht (xC hq)) kk
theorem aSb {P:Program} {fn:Func} {w0:World} {M0:iB} {B:List Nat} {post:VP} {N:NX} {rs:List ResultVar} {ps:List VP} (hk:κ.to .ret=(.ret,.base (aEB P fn (Rp P w0 M0 B (fun Ho q=>Ho=[]∧q=post))))) (hrs:fn.results=rs.toArray) (hv:RVs ⟨P,w0,M0,B,N⟩ H E rs ps) (hl:Nat.ble ps.length 4=true) (hpost:aI9 ps=post) (hfr:∀D,N.fr D→w0.heap.size≤D∧M0 D=none):GC ⟨P,w0,M0,B,N⟩ .ret κ H E Q:=
 ⟨fun _=>fY (fZ (by rw [hk];exact jL (.inl rfl) hrs hv hl hpost hfr))⟩
theorem bQ {P:Prop} (h:D P True:=by
 first
  |with_reducible refine sL ?_
  |with_reducible refine sC ?_
  |with_reducible refine sX ?_
 repeat (first
  |(apply aOP)
  |(apply aNv)
  |(apply aOX)
  |(apply aOI)
  |(apply aSe;exact rfl;exact rfl;(first|exact cU.p|exact cU.g rfl rfl rfl))
  |(apply aRM;exact rfl;exact rfl;(first|exact cU.p|exact cU.g rfl rfl rfl))
  |(apply b_n;exact rfl;exact rfl;exact rfl;exact rfl;exact rfl)
  |(apply aQM;exact rfl;exact rfl;exact inferInstance;exact rfl;(first|exact cU.p|exact cU.g rfl rfl rfl);(with_reducible assumption))
  |(apply aPt;exact rfl;exact inferInstance;exact rfl;(first|exact cU.p|exact cU.g rfl rfl rfl))
  |(apply aRo;exact rfl;exact inferInstance;exact rfl;(first|exact cU.p|exact cU.g rfl rfl rfl))
  |(apply aO3;exact rfl;exact inferInstance;exact rfl;(first|exact cU.p|exact cU.g rfl rfl rfl))
  |(apply aOF;exact rfl;exact inferInstance;exact rfl;exact rfl;(first|exact cU.p|exact cU.g rfl rfl rfl))
  |(apply aPA;exact rfl;exact inferInstance;exact rfl;exact rfl;(first|exact cU.p|exact cU.g rfl rfl rfl))
  |(apply aR4;exact rfl;exact inferInstance;(repeat (first|exact gN.a rfl|apply gN.b));exact rfl;exact rfl;(first|exact cU.p|exact cU.g rfl rfl rfl))
  |(apply aQ7;exact rfl;exact inferInstance;(repeat (first|exact gN.a rfl|apply gN.b));exact rfl;exact rfl;(first|exact cU.p|exact cU.g rfl rfl rfl))
  |(apply aON;exact rfl;exact rfl;(repeat (first|exact gN.a rfl|apply gN.b));(first|exact rfl|with_reducible assumption|exact bG (by with_reducible assumption) (by first|with_reducible assumption|exact rfl));exact inferInstance;exact rfl;(first|exact cU.p|exact cU.g rfl rfl rfl);(with_reducible assumption))
  |(apply aPw;exact rfl;(repeat (first|exact gN.a rfl|apply gN.b));(first|exact rfl|with_reducible assumption|exact bG (by with_reducible assumption) (by first|with_reducible assumption|exact rfl));exact inferInstance;exact rfl;(first|exact cU.p|exact cU.g rfl rfl rfl))
  |(apply aLX;exact rfl;(repeat (first|exact gN.a rfl|apply gN.b));exact rfl;(with_reducible assumption);exact inferInstance;exact rfl;exact rfl;exact rfl;(first|exact cU.p|exact cU.g rfl rfl rfl))
  |(apply aNp;exact rfl;(repeat (first|exact gN.a rfl|apply gN.b));exact rfl;(with_reducible assumption);exact inferInstance;exact rfl;exact rfl;exact rfl;(first|exact cU.p|exact cU.g rfl rfl rfl))
  |(apply aR6;exact rfl;exact inferInstance;exact rfl;(first|exact cU.p|exact cU.g rfl rfl rfl))
  |(apply aQL;exact rfl;exact rfl;exact rfl;(first|exact cU.p|exact cU.g rfl rfl rfl))
  |(apply aQ8;exact rfl;exact rfl;exact rfl;(first|exact cU.p|exact cU.g rfl rfl rfl))
  |(apply aRB;exact rfl;exact rfl;exact rfl;(first|exact cU.p|exact cU.g rfl rfl rfl))
  |(apply aQ0;exact rfl;exact rfl;exact rfl;(first|exact cU.p|exact cU.g rfl rfl rfl))
  |(apply aRC;exact rfl;exact rfl;exact rfl;(first|exact cU.p|exact cU.g rfl rfl rfl))
  |(apply aSf;exact rfl;exact rfl;exact rfl;(first|exact cU.p|exact cU.g rfl rfl rfl))
  |(apply aO9;exact rfl;exact rfl;exact rfl;(first|exact cU.p|exact cU.g rfl rfl rfl);(with_reducible assumption))
  |(apply aPd;exact rfl;exact rfl;exact rfl;(first|exact cU.p|exact cU.g rfl rfl rfl);(with_reducible assumption))
  |(apply aPi;exact rfl;exact rfl;exact rfl;(first|exact cU.p|exact cU.g rfl rfl rfl);(with_reducible assumption))
  |(apply aOD;exact rfl;exact rfl;exact rfl;(first|exact cU.p|exact cU.g rfl rfl rfl);(with_reducible assumption))
  |(apply aPn;exact rfl;exact rfl;exact rfl;(first|exact cU.p|exact cU.g rfl rfl rfl);(with_reducible assumption))
  |(apply aO8;exact rfl;exact rfl;(first|exact cU.p|exact cU.g rfl rfl rfl))
  |(apply aOJ;exact rfl;exact rfl;(first|exact cU.p|exact cU.g rfl rfl rfl);(with_reducible assumption))
  |(apply aO2;exact rfl;exact rfl;(first|exact cU.p|exact cU.g rfl rfl rfl))
  |(apply aPs;exact rfl;exact rfl;(first|exact cU.p|exact cU.g rfl rfl rfl))
  |(apply aPj;exact rfl;exact rfl;(first|exact cU.p|exact cU.g rfl rfl rfl))
  |(apply aOW;exact rfl;exact rfl;(first|exact cU.p|exact cU.g rfl rfl rfl))
  |(apply aOB;exact rfl;exact rfl;(first|exact cU.p|exact cU.g rfl rfl rfl))
  |(apply aRc;exact rfl;exact rfl;exact rfl;(first|exact cU.p|exact cU.g rfl rfl rfl))
  |(apply aRk;exact rfl;exact rfl;exact rfl;(first|exact cU.p|exact cU.g rfl rfl rfl))
  |(apply aR0;exact rfl;exact rfl;exact inferInstance;exact rfl;(first|exact cU.p|exact cU.g rfl rfl rfl);(with_reducible assumption))
  |(apply aRp;exact rfl;exact rfl;exact inferInstance;exact rfl;(first|exact cU.p|exact cU.g rfl rfl rfl);(with_reducible assumption))
  |(apply aOM;exact rfl;exact rfl;exact rfl;exact inferInstance;exact rfl;(first|exact cU.p|exact cU.g rfl rfl rfl);(with_reducible assumption))
  |(apply aSa;exact rfl;exact rfl;exact rfl;(first|exact cU.p|exact cU.g rfl rfl rfl))
  |(apply aRI;exact rfl;exact rfl;exact rfl;(first|exact cU.p|exact cU.g rfl rfl rfl))
  |(apply aQT;exact rfl;exact rfl;(first|exact cU.p|exact cU.g rfl rfl rfl))
  |(apply aPl;exact rfl;exact rfl;(first|exact cU.p|exact cU.g rfl rfl rfl))
  |(apply aPy;exact rfl;exact rfl;(first|exact cU.p|exact cU.g rfl rfl rfl))
  |(apply aNl;exact rfl;exact rfl;(first|exact cU.p|exact cU.g rfl rfl rfl);assumption)
  |(apply aR8;exact rfl;exact rfl;exact inferInstance;(repeat (first|exact yG.a rfl|apply yG.b));exact trivial;exact rfl;exact rfl)
  |(apply aRR;exact rfl;exact rfl;exact inferInstance;(repeat (first|exact yG.a rfl|apply yG.b));exact trivial;exact rfl;exact rfl)
  |(apply aKb;exact rfl;exact rfl;(repeat (first|exact gN.a rfl|apply gN.b));exact rfl;(with_reducible assumption);(with_reducible assumption);exact ty1s;(repeat (first|exact yG.a rfl|apply yG.b));exact trivial;exact rfl;exact rfl)
  |(apply aKb;exact rfl;exact rfl;(repeat (first|exact gN.a rfl|apply gN.b));exact rfl;(with_reducible assumption);(with_reducible assumption);exact tyAs;(repeat (first|exact yG.a rfl|apply yG.b));exact trivial;exact rfl;exact rfl)
  |(apply b_u;exact rfl;exact rfl;exact rfl;exact rfl)
  |(apply aMQ)
  |(apply aNh)
  |(apply aKy)
  |(apply aKd)
  |(apply aOY))
 repeat (cases(by with_reducible assumption:some _=some _))
 apply aSb
 ·exact rfl
 ·exact rfl
 ·repeat (first
   |exact RVs.nil
   |(apply RVs.tmp;exact rfl)
   |(apply rv_A;exact rfl;exact inferInstance;(repeat (first|exact gN.a rfl|apply gN.b));exact rfl)
   |(apply rv_1;exact rfl;exact inferInstance;(repeat (first|exact gN.a rfl|apply gN.b));exact rfl))
 ·exact rfl
 ·exact rfl
 ·exact fun _ h=>h):P:=h.h trivial
theorem iF {E':qI} (l:List Nat) {a:Act} {w:World} (h:hs S H E a w) (hp:cA H l=some H':=by exact rfl) (hl:l.Nodup:=by decide) (hE:aEI E E':=by repeat (first|exact trivial|refine⟨rfl,?_⟩)):hs S H' E' a w:=xD l hp hl hE h
theorem rO {PJ:List HA→qI→Prop} {E':qI} (J:∀H E,PJ H E→WX S .normal κ H E) (h:PJ H' E') (l:List Nat) (hp:cA H l=some H':=by exact rfl) (hE:aEI E E':=by repeat (first|exact trivial|refine⟨rfl,?_⟩)) (hl:l.Nodup:=by decide):WX S .normal κ H E:=aC3 J h l hp hE hl
theorem aE {α:Type} {A B:Option α} {r:α} {t:Nat} {b:Bool} {x y:Code} (hF:(bif b then A else B)=some r) (ht:iE E t=some (.vc (pB b))) (hx:b=true→A=some r→WC S x κ H E) (hy:b=false→B=some r→WC S y κ H E):WC S (.cond (.tmp t) x y) κ H E:=
 aFw ht (fun h=>hx h (rY h hF)) (fun h=>hy h (p8 h hF))
theorem dV {α:Type} {A B:Option α} {r:α} {d:Nat} {c:Bool} (hF:(bif c then A else B)=some r) (ht:c=true→A=some r→WL S ops κ rest H ((d,.vc (pB true))::E)) (hf:c=false→B=some r→WL S ops κ rest H ((d,.vc (pB false))::E)):WL S ops κ rest H ((d,.vc (pB c))::E):=
 aIF (fun h=>ht h (rY h hF)) (fun h=>hf h (p8 h hF))
end
end Go.Proofs.YtolfcbpgmfbgmaaGreat
set_option linter.unusedVariables false
set_option maxRecDepth 100000
namespace Go.Proofs.YtolfcbpgmfbgmaaGreat
theorem aY:Tryz.prog.follows .mixedOrders=true:=by kernel_rfl
instance Tryz_mix:Mix Tryz.prog:=⟨aY⟩
instance tyA40:TyA Tryz.prog 40 2:=mkA Tryz.underlying40 rfl (by kernel_rfl)
theorem tyB40:TyB Tryz.prog 40 [(0,1),(1,1)] ([pB false]++[pS cI ([]:List Int)]):=mkB (z:=.agg #[.bool false,.slice none 0 0]) (by kernel_rfl) Tryz.underlying40 (by kernel_rfl) (fun M=>bD.app (show bD M [pB false] [.bool false] from zU1) (show bD M [pS cI ([]:List Int)] [.slice none 0 0] from⟨eI cI M,trivial⟩))
instance tyF40_0:TyF Tryz.prog 40 0 0:=mkF (ft:=4) (k:=0) Tryz.underlying40 rfl rfl rfl (by kernel_rfl)
instance tyF40_1:TyF Tryz.prog 40 1 1:=mkF (ft:=22) (k:=0) Tryz.underlying40 rfl rfl rfl (by kernel_rfl)
instance tyO22:Ty1 Tryz.prog 22:=mk1 Tryz.underlying22 rfl (by kernel_rfl)
instance tyO3:Ty1 Tryz.prog 3:=mk1 Tryz.underlying3 rfl (by kernel_rfl)
instance tyO4:Ty1 Tryz.prog 4:=mk1 Tryz.underlying4 rfl (by kernel_rfl)
instance tyS22:TyS Tryz.prog 22 3 1 8:=mkS (z:=.int .i64 0) (k:=0) Tryz.underlying22 (by kernel_rfl) rfl
instance tyZ3:TyZ Tryz.prog 3 [pI .i64 0]:=mkZ (z:=.int .i64 0) (k:=1) (by kernel_rfl) rfl (fun M=>show bD M [pI .i64 0] [.int .i64 0] from zU1)
instance tyZ40:TyZ Tryz.prog 40 ([pB false]++[pS cI ([]:List Int)]):=mkZ (z:=.agg #[.bool false,.slice none 0 0]) (k:=2) (by kernel_rfl) rfl (fun M=>bD.app (show bD M [pB false] [.bool false] from zU1) (show bD M [pS cI ([]:List Int)] [.slice none 0 0] from⟨eI cI M,trivial⟩))
def n5 (K:Nat) (a0:Bool) (a1:List Int) (x4:Int):Option aB:=
 bif(x4==0) then(some (⟨false,([]:List Int)⟩:aB)) else((slL a1 0 x4).bind fun x8=>some (⟨a0,x8⟩:aB))
def eV (K:Nat) (a1:List Int):Nat→Int→Option Int
 |0,_=>none
 |k+1,x3=>bif(decide (0<x3)) then((aQ (x3-1)).bind fun v11=>(bK a1 (max v11 0)).bind fun v13=>bif(v13==0) then((aQ (x3-1)).bind fun v16=>eV K a1 k v16) else(some x3)) else(some x3)
def aW (K:Nat) (a0:Bool) (a1:List Int):Option aB:=
 (eV K a1 K (a1.length:Int)).bind fun x4=>n5 K a0 a1 x4
theorem bI {K:Nat} {a0:Bool} {a1:List Int} {r:aB} (hF:aW K a0 a1=some r):Ct Tryz.prog 94 [.vc (pB a0),.vc (pS cI a1)] (.va (aB.e r)):=by
 unfold aW at hF
 refine aA Tryz.func94 rfl (by kernel_rfl) Tryz.ntmps94 rfl (fun w0 M0=>?_)
 refine aD (aI (aK rfl tyZ40 (fun b1=>?_)))
 refine go ?_ ?_
 refine aJ (aX (fun H E=>∃(x4:Int),n5 K a0 a1 x4=some r∧H=[⟨some b1,1,40,2,1,([pB false]++[pS cI ([]:List Int)])⟩]∧E=[(0,.vc (pB a0)),(1,.vc (pS cI a1)),(4,.vc (pP (some b1) 0)),(5,.vc (pI .i64 x4))]) ?_ (fun Jj6=>?_))
 ·rintro _ _ ⟨x4,hF,rfl,rfl⟩
  unfold n5 at hF
  refine go ?_ ?_
  refine aE hF rfl (fun h7 hF=>?_) (fun h7 hF=>?_)
  ·refine aD (aI (aG (gH (is:=[]) (xs:=[]) (ps:=[]) rfl tyB40 rfl rfl trivial rfl) trivial ?_))
   exact bQ
  obtain⟨x8,h9,hF⟩:=aP hF
  refine go ?_ ?_
  refine aG (gH (is:=[0,1]) (xs:=[.tmp 24,.tmp 27]) (ps:=[.vc (pB a0),.vc (pS cI x8)]) rfl tyB40 rfl rfl ⟨trivial,trivial,trivial⟩ rfl) zU2 ?_
  exact bQ
 obtain⟨x4',hL,hRl5⟩:=aP hF
 refine dQ (fun k a w=>∃(x3:Int),eV K a1 k x3=some x4'∧hs _ [⟨some b1,1,40,2,1,([pB false]++[pS cI ([]:List Int)])⟩] [(0,.vc (pB a0)),(1,.vc (pS cI a1)),(4,.vc (pP (some b1) 0)),(5,.vc (pI .i64 x3))] a w) K (fun a w ⟨_,hF,_⟩=>by cases hF) (fun k a w ⟨x3,hF,hh⟩=>dP ?_ hh) (fun a w hh=>⟨(a1.length:Int),hL,iF [0] hh⟩)
 rw [eV.eq_2] at hF
 refine go ?_ ?_
 refine dV hF (fun h10 hF=>?_) (fun h10 hF=>?_)
 ·obtain⟨v11,h12,v13,h14,hF⟩:=tY hF
  refine go ?_ ?_
  refine aE hF rfl (fun h15 hF=>?_) (fun h15 hF=>?_)
  ·refine fN (aH (aJ ?_))
   have hF:=tX h12 hF
   refine go ?_ ?_
   exact aF (fun a w hh=>⟨v11,hF,iF [0] hh⟩)
  refine bH ?_
  obtain rfl:=iD hF
  exact rO Jj6 ⟨x3,hRl5,rfl,rfl⟩ [0]
 refine go ?_ ?_
 refine vM rfl ?_
 refine bH ?_
 obtain rfl:=iD hF
 exact rO Jj6 ⟨x3,hRl5,rfl,rfl⟩ [0]
def pR (K:Nat) (a0:aB) (a1:aB) (x25:List Int):Option aB:=
 (aW K (a0.neg != a1.neg) x25).bind fun v33=>some v33
def pZ (K:Nat) (a1:aB) (x24:Int) (recl31:(List Int)→Int→Option (List Int)) (x52:List Int) (x58:Int):Option (List Int):=
 (aQ (x24+(a1.d.length:Int))).bind fun v61=>(bK x52 v61).bind fun v63=>(pN x52 v61 x58).bind fun x65=>(aQ (x24+1)).bind fun v68=>recl31 x65 v68
def gD (K:Nat) (a0:aB) (a1:aB) (x24:Int):Nat→(List Int)→Int→Int→Option ((List Int)×Int)
 |0,_,_,_=>none
 |k+1,x44,x50,x51=>bif(decide (x51<(a1.d.length:Int))) then((aQ (x24+x51)).bind fun v73=>(bK x44 v73).bind fun v75=>(bK a0.d x24).bind fun v77=>(bK a1.d x51).bind fun v79=>(aQ (v77*v79)).bind fun v81=>(aQ (v75+v81)).bind fun v83=>(aQ (v83+x50)).bind fun v85=>(aQ (x24+x51)).bind fun v87=>(zX v85 1000000000).bind fun v89=>(bK x44 v87).bind fun v91=>(pN x44 v87 v89).bind fun x93=>(chq v85 1000000000).bind fun v96=>(aQ (x51+1)).bind fun v98=>gD K a0 a1 x24 k x93 v96 v98) else(some (x44,x50))
def gE (K:Nat) (a0:aB) (a1:aB):Nat→(List Int)→Int→Option (List Int)
 |0,_,_=>none
 |k+1,x18,x24=>bif(decide (x24<(a0.d.length:Int))) then((gD K a0 a1 x24 K x18 0 0).bind fun(x52,x58)=>pZ K a1 x24 (gE K a0 a1 k) x52 x58) else(some x18)
def gQ (K:Nat) (a0:aB) (a1:aB):Option aB:=
 (aQ ((a0.d.length:Int)+(a1.d.length:Int))).bind fun v4=>(y5 v4 0).bind fun x6=>(gE K a0 a1 K x6 0).bind fun x25=>pR K a0 a1 x25
theorem mO {K:Nat} {a0:aB} {a1:aB} {r:aB} (hF:gQ K a0 a1=some r):Ct Tryz.prog 58 [.va (aB.e a0),.va (aB.e a1)] (.va (aB.e r)):=by
 unfold gQ at hF
 refine aA Tryz.func58 rfl (by kernel_rfl) Tryz.ntmps58 rfl (fun w0 M0=>?_)
 refine aD (aI (cP rfl rfl trivial (fun b1=>?_)))
 refine cP rfl rfl trivial (fun b2=>?_)
 refine aK rfl tyZ40 (fun b3=>?_)
 obtain⟨v4,h5,x6,h7,hF⟩:=tY hF
 refine go ?_ ?_
 refine o7 (C:=cI) rfl tyS22 rfl tyZ3 rfl h7 (fun b8=>?_)
 refine go ?_ ?_
 refine aJ (aX (fun H E=>∃(x25:List Int),pR K a0 a1 x25=some r∧x25.length=x6.length∧H=[hO cI b8 x6.length 3 x6.length x25,⟨some b3,1,40,2,1,([pB false]++[pS cI ([]:List Int)])⟩,⟨some b2,1,40,2,1,(aB.e a1)⟩,⟨some b1,1,40,2,1,(aB.e a0)⟩]∧E=[(2,.vc (pP (some b1) 0)),(3,.vc (pP (some b2) 0)),(4,.vc (pP (some b3) 0)),(5,.vc (pO b8 x6.length x6.length))]) ?_ (fun Jj32=>?_))
 ·rintro _ _ ⟨x25,hF,q29,rfl,rfl⟩
  unfold pR at hF
  refine go ?_ ?_
  refine aG (aBe rfl Tryz.underlying4) zU2 ?_
  refine fI ?_
  refine vX 0 [5,74] rfl q29 zU2 rfl ?_
  obtain⟨v33,h34,hF⟩:=bC hF bI
  exact bQ
 obtain⟨x25',hL,hRl31⟩:=aP hF
 refine dQ (fun k a w=>∃(x18:List Int),∃(x24:Int),gE K a0 a1 k x18 x24=some x25'∧x18.length=x6.length∧hs _ [hO cI b8 x6.length 3 x6.length x18,⟨some b3,1,40,2,1,([pB false]++[pS cI ([]:List Int)])⟩,⟨some b2,1,40,2,1,(aB.e a1)⟩,⟨some b1,1,40,2,1,(aB.e a0)⟩] [(2,.vc (pP (some b1) 0)),(3,.vc (pP (some b2) 0)),(4,.vc (pP (some b3) 0)),(5,.vc (pO b8 x6.length x6.length)),(6,.vc (pI .i64 x24))] a w) K (fun a w ⟨_,_,hF,_,_⟩=>by cases hF) (fun k a w ⟨x18,x24,hF,q22,hh⟩=>dP ?_ hh) (fun a w hh=>⟨x6,0,hL,rfl,iF [0,1,2,3] hh⟩)
 rw [gE.eq_2] at hF
 refine go ?_ ?_
 refine aE hF rfl (fun h35 hF=>?_) (fun h35 hF=>?_)
 ·refine go ?_ ?_
  refine aJ (go ?_ ?_)
  refine aJ (aX (fun H E=>∃(x52:List Int),∃(x58:Int),pZ K a1 x24 (gE K a0 a1 k) x52 x58=some x25'∧x52.length=x6.length∧H=[hO cI b8 x6.length 3 x6.length x52,⟨some b3,1,40,2,1,([pB false]++[pS cI ([]:List Int)])⟩,⟨some b2,1,40,2,1,(aB.e a1)⟩,⟨some b1,1,40,2,1,(aB.e a0)⟩]∧E=[(2,.vc (pP (some b1) 0)),(3,.vc (pP (some b2) 0)),(4,.vc (pP (some b3) 0)),(5,.vc (pO b8 x6.length x6.length)),(6,.vc (pI .i64 x24)),(7,.vc (pI .i64 x58))]) ?_ (fun Jj60=>?_))
  ·rintro _ _ ⟨x52,x58,hF,q56,rfl,rfl⟩
   unfold pZ at hF
   obtain⟨v61,h62,v63,h64,x65,h66,v68,h69,hF⟩:=bn4 hF
   refine go ?_ ?_
   exact aF (fun a w hh=>⟨x65,v68,hF,(bG h66 q56),iF [0,1,2,3] hh⟩)
  obtain⟨⟨x52',x58'⟩,hL,hRl59⟩:=aP hF
  refine dQ (fun k a w=>∃(x44:List Int),∃(x50:Int),∃(x51:Int),gD K a0 a1 x24 k x44 x50 x51=some (x52',x58')∧x44.length=x6.length∧hs _ [hO cI b8 x6.length 3 x6.length x44,⟨some b3,1,40,2,1,([pB false]++[pS cI ([]:List Int)])⟩,⟨some b2,1,40,2,1,(aB.e a1)⟩,⟨some b1,1,40,2,1,(aB.e a0)⟩] [(2,.vc (pP (some b1) 0)),(3,.vc (pP (some b2) 0)),(4,.vc (pP (some b3) 0)),(5,.vc (pO b8 x6.length x6.length)),(6,.vc (pI .i64 x24)),(7,.vc (pI .i64 x50)),(8,.vc (pI .i64 x51))] a w) K (fun a w ⟨_,_,_,hF,_,_⟩=>by cases hF) (fun k a w ⟨x44,x50,x51,hF,q48,hh⟩=>dP ?_ hh) (fun a w hh=>⟨x18,0,0,hL,q22,iF [0,1,2,3] hh⟩)
  rw [gD.eq_2] at hF
  refine go ?_ ?_
  refine aE hF rfl (fun h70 hF=>?_) (fun h70 hF=>?_)
  ·refine go ?_ ?_
   refine aJ (aD ?_)
   obtain⟨v73,h74,hF⟩:=aP hF
   obtain⟨v75,h76,hF⟩:=aP hF
   obtain⟨v77,h78,hF⟩:=aP hF
   obtain⟨v79,h80,hF⟩:=aP hF
   obtain⟨v81,h82,hF⟩:=aP hF
   obtain⟨v83,h84,hF⟩:=aP hF
   obtain⟨v85,h86,hF⟩:=aP hF
   refine dr [0,0,0,6,15,31,0,64,0,448,960,0,2048,0,14336,30720,65472,131071,0,524287,1048575] 21 0 ?_ (fun bs72 G71=>?_)
   have hF:=tX h74 hF
   obtain⟨v89,h90,hF⟩:=aP hF
   have hF:=tX h76 hF
   obtain⟨x93,h94,v96,h97,v98,h99,hF⟩:=bn3 hF
   refine go ?_ ?_
   exact aF (fun a w hh=>⟨x93,v96,v98,hF,(bG h94 q48),iF [0,1,2,3] hh⟩)
  refine bH ?_
  obtain⟨rfl,rfl⟩:=sm2 hF
  exact rO Jj60 ⟨x44,x50,hRl59,q48,rfl,rfl⟩ [0,1,2,3]
 refine bH ?_
 obtain rfl:=iD hF
 exact rO Jj32 ⟨x18,hRl31,q22,rfl,rfl⟩ [0,1,2,3]
def cO (a0:List Int) (a1:Int):Option Int:=
 bif(decide (a1<(a0.length:Int))) then((bK a0 a1).bind fun v2=>some v2) else(some 0)
theorem fR {a0:List Int} {a1:Int} {r:Int} (hF:cO a0 a1=some r):Ct Tryz.prog 140 [.vc (pS cI a0),.vc (pI .i64 a1)] (.vc (pI .i64 r)):=by
 unfold cO at hF
 refine aA Tryz.func140 rfl (by kernel_rfl) Tryz.ntmps140 rfl (fun w0 M0=>?_)
 refine go ?_ ?_
 refine aE hF rfl (fun h1 hF=>?_) (fun h1 hF=>?_)
 ·obtain⟨v2,h3,hF⟩:=aP hF
  exact bQ
 exact bQ
def oP (K:Nat) (x19:List Int):Option (List Int):=
 some x19
def bR (K:Nat) (a0:List Int) (a1:List Int):Nat→(List Int)→Int→Int→Option (List Int)
 |0,_,_,_=>none
 |k+1,x11,x17,x18=>bif(decide (x18<(a0.length:Int))) then((cO a0 x18).bind fun v28=>(cO a1 x18).bind fun v30=>(aQ (v28+v30)).bind fun v32=>(aQ (v32+x17)).bind fun v34=>(zX v34 1000000000).bind fun v36=>(rM x11 [v36]).bind fun x38=>(chq v34 1000000000).bind fun v45=>(aQ (x18+1)).bind fun v47=>bR K a0 a1 k x38 v45 v47) else(bif(decide (x18<(a1.length:Int))) then((cO a0 x18).bind fun v50=>(cO a1 x18).bind fun v52=>(aQ (v50+v52)).bind fun v54=>(aQ (v54+x17)).bind fun v56=>(zX v56 1000000000).bind fun v58=>(rM x11 [v58]).bind fun x60=>(chq v56 1000000000).bind fun v67=>(aQ (x18+1)).bind fun v69=>bR K a0 a1 k x60 v67 v69) else(bif(decide (0<x17)) then((cO a0 x18).bind fun v72=>(cO a1 x18).bind fun v74=>(aQ (v72+v74)).bind fun v76=>(aQ (v76+x17)).bind fun v78=>(zX v78 1000000000).bind fun v80=>(rM x11 [v80]).bind fun x82=>(chq v78 1000000000).bind fun v89=>(aQ (x18+1)).bind fun v91=>bR K a0 a1 k x82 v89 v91) else(some x11)))
def pD (K:Nat) (a0:List Int) (a1:List Int):Option (List Int):=
 (bR K a0 a1 K ([]:List Int) 0 0).bind fun x19=>oP K x19
theorem aB0 {K:Nat} {a0:List Int} {a1:List Int} {r:List Int} (hF:pD K a0 a1=some r):Ct Tryz.prog 98 [.vc (pS cI a0),.vc (pS cI a1)] (.vc (pS cI r)):=by
 unfold pD at hF
 refine aA Tryz.func98 rfl (by kernel_rfl) Tryz.ntmps98 rfl (fun w0 M0=>?_)
 refine aD (aI (aG (aM (.inr rfl)) ⟨eI cI,trivial⟩ ?_))
 refine aU (aH (aD (aI (qE cI 3 rfl ?_))))
 refine go ?_ ?_
 refine aJ (aX (fun H E=>∃(x19:List Int),∃(b20:Option Nat),∃(c21:Nat),∃(n22:Nat),oP K x19=some r∧x19.length=n22∧H=[hO cI b20 c21 3 n22 x19]∧E=[(5,.vc (pO b20 n22 c21))]) ?_ (fun Jj26=>?_))
 ·rintro _ _ ⟨x19,b20,c21,n22,hF,q23,rfl,rfl⟩
  unfold oP at hF
  refine go ?_ ?_
  refine fY (fZ (tC 0 [4,5,41] rfl q23 ⟨rfl,rfl,rfl,trivial⟩ rfl ?_))
  obtain rfl:=iD hF
  exact jL (.inl rfl) Tryz.results98 (.tmp rfl .nil) rfl rfl
 obtain⟨x19',hL,hRl25⟩:=aP hF
 refine dQ (fun k a w=>∃(x11:List Int),∃(x17:Int),∃(x18:Int),∃(b12:Option Nat),∃(c13:Nat),∃(n14:Nat),bR K a0 a1 k x11 x17 x18=some x19'∧x11.length=n14∧hs _ [hO cI b12 c13 3 n14 x11] [(0,.vc (pS cI a0)),(1,.vc (pS cI a1)),(5,.vc (pO b12 n14 c13)),(6,.vc (pI .i64 x17)),(7,.vc (pI .i64 x18))] a w) K (fun a w ⟨_,_,_,_,_,_,hF,_,_⟩=>by cases hF) (fun k a w ⟨x11,x17,x18,b12,c13,n14,hF,q15,hh⟩=>dP ?_ hh) (fun a w hh=>⟨([]:List Int),0,0,none,0,0,hL,rfl,iF [0] hh⟩)
 rw [bR.eq_2] at hF
 refine go ?_ ?_
 refine dV hF (fun h27 hF=>?_) (fun h27 hF=>?_)
 ·refine go ?_ ?_
  refine jS rfl ?_
  refine go ?_ ?_
  refine aJ ?_
  obtain⟨v28,h29,hF⟩:=bC hF fR
  obtain⟨v30,h31,hF⟩:=bC hF fR
  obtain⟨v32,h33,v34,h35,v36,h37,hF⟩:=bn3 hF
  refine go ?_ ?_
  refine aG (gG (C:=cI) (xs:=[.tmp 36]) (ps:=[.vc (pI .i64 v36)]) (zs:=[v36]) rfl tyS22 rfl ⟨⟨trivial,rfl⟩,trivial⟩ rfl) zU1 ?_
  obtain⟨x38,h39,hF⟩:=aP hF
  refine mN 0 rfl tyS22 rfl rfl q15 rfl rfl h39 (fun b40 c41 H42 e43=>?_)
  cases e43
  obtain⟨v45,h46,v47,h48,hF⟩:=tY hF
  refine go ?_ ?_
  exact aF (fun a w hh=>⟨x38,v45,v47,b40,c41,(n14+[v36].length),hF,(cX h39 q15),iF [0] hh⟩)
 refine go ?_ ?_
 refine dV hF (fun h49 hF=>?_) (fun h49 hF=>?_)
 ·refine go ?_ ?_
  refine jS rfl ?_
  refine go ?_ ?_
  refine aJ ?_
  obtain⟨v50,h51,hF⟩:=bC hF fR
  obtain⟨v52,h53,hF⟩:=bC hF fR
  obtain⟨v54,h55,v56,h57,v58,h59,hF⟩:=bn3 hF
  refine go ?_ ?_
  refine aG (gG (C:=cI) (xs:=[.tmp 36]) (ps:=[.vc (pI .i64 v58)]) (zs:=[v58]) rfl tyS22 rfl ⟨⟨trivial,rfl⟩,trivial⟩ rfl) zU1 ?_
  obtain⟨x60,h61,hF⟩:=aP hF
  refine mN 0 rfl tyS22 rfl rfl q15 rfl rfl h61 (fun b62 c63 H64 e65=>?_)
  cases e65
  obtain⟨v67,h68,v69,h70,hF⟩:=tY hF
  refine go ?_ ?_
  exact aF (fun a w hh=>⟨x60,v67,v69,b62,c63,(n14+[v58].length),hF,(cX h61 q15),iF [0] hh⟩)
 refine go ?_ ?_
 refine aE hF rfl (fun h71 hF=>?_) (fun h71 hF=>?_)
 ·refine go ?_ ?_
  refine aJ ?_
  obtain⟨v72,h73,hF⟩:=bC hF fR
  obtain⟨v74,h75,hF⟩:=bC hF fR
  obtain⟨v76,h77,v78,h79,v80,h81,hF⟩:=bn3 hF
  refine go ?_ ?_
  refine aG (gG (C:=cI) (xs:=[.tmp 36]) (ps:=[.vc (pI .i64 v80)]) (zs:=[v80]) rfl tyS22 rfl ⟨⟨trivial,rfl⟩,trivial⟩ rfl) zU1 ?_
  obtain⟨x82,h83,hF⟩:=aP hF
  refine mN 0 rfl tyS22 rfl rfl q15 rfl rfl h83 (fun b84 c85 H86 e87=>?_)
  cases e87
  obtain⟨v89,h90,v91,h92,hF⟩:=tY hF
  refine go ?_ ?_
  exact aF (fun a w hh=>⟨x82,v89,v91,b84,c85,(n14+[v80].length),hF,(cX h83 q15),iF [0] hh⟩)
 refine bH ?_
 obtain rfl:=iD hF
 exact rO Jj26 ⟨x11,b12,c13,n14,hRl25,q15,rfl,rfl⟩ [0]
def p9 (K:Nat):Option Int:=
 some 0
def cS (K:Nat) (a0:List Int) (a1:List Int):Nat→Int→Option (LR Int Unit)
 |0,_=>none
 |k+1,x6=>bif(decide (0≤x6)) then((bK a0 x6).bind fun v12=>(bK a1 x6).bind fun v14=>bif(decide (v12<v14)) then(some (.ret (-1))) else((bK a0 x6).bind fun v19=>(bK a1 x6).bind fun v21=>bif(decide (v21<v19)) then(some (.ret 1)) else((aQ (x6-1)).bind fun v24=>cS K a0 a1 k v24))) else(some (.go ()))
def cJ (K:Nat) (a0:List Int) (a1:List Int):Option Int:=
 bif(decide ((a0.length:Int)<(a1.length:Int))) then(some (-1)) else(bif(decide ((a1.length:Int)<(a0.length:Int))) then(some 1) else((aQ ((a0.length:Int)-1)).bind fun v3=>(cS K a0 a1 K v3).bind fun o=>match o with| .ret r=>some r| .go _=>p9 K))
theorem lB {K:Nat} {a0:List Int} {a1:List Int} {r:Int} (hF:cJ K a0 a1=some r):Ct Tryz.prog 99 [.vc (pS cI a0),.vc (pS cI a1)] (.vc (pI .i64 r)):=by
 unfold cJ at hF
 refine aA Tryz.func99 rfl (by kernel_rfl) Tryz.ntmps99 rfl (fun w0 M0=>?_)
 refine go ?_ ?_
 refine aE hF rfl (fun h1 hF=>?_) (fun h1 hF=>?_)
 ·exact bQ
 refine go ?_ ?_
 refine aE hF rfl (fun h2 hF=>?_) (fun h2 hF=>?_)
 ·exact bQ
 obtain⟨v3,h4,hF⟩:=aP hF
 refine go ?_ ?_
 refine aJ (aX (fun H E=>p9 K=some r∧H=[]∧E=[]) ?_ (fun Jj8=>?_))
 ·rintro _ _ ⟨hF,rfl,rfl⟩
  unfold p9 at hF
  exact bQ
 obtain⟨ol7,hL,hRl7⟩:=aP hF
 refine dQ (fun k a w=>∃(x6:Int),cS K a0 a1 k x6=some ol7∧hs _ [] [(0,.vc (pS cI a0)),(1,.vc (pS cI a1)),(5,.vc (pI .i64 x6))] a w) K (fun a w ⟨_,hF,_⟩=>by cases hF) (fun k a w ⟨x6,hF,hh⟩=>dP ?_ hh) (fun a w hh=>⟨v3,hL,iF [] hh⟩)
 rw [cS.eq_2] at hF
 refine go ?_ ?_
 refine aE hF rfl (fun h9 hF=>?_) (fun h9 hF=>?_)
 ·refine go ?_ ?_
  refine aJ (aD (aD ?_))
  obtain⟨v12,h13,hF⟩:=aP hF
  obtain⟨v14,h15,hF⟩:=aP hF
  refine dr [0,0,3,7,0,0,48,112,255] 9 0 ?_ (fun bs11 G10=>?_)
  refine aU (aH (aE hF rfl (fun h16 hF=>?_) (fun h16 hF=>?_)))
  ·exact bQ
  have hF:=tX h13 hF
  have hF:=tX h15 hF
  refine go ?_ ?_
  refine dr [0,0,3,7,0,0,48,112,255] 9 0 ?_ (fun bs18 G17=>?_)
  refine aU (aH (aE hF rfl (fun h23 hF=>?_) (fun h23 hF=>?_)))
  ·exact bQ
  obtain⟨v24,h25,hF⟩:=aP hF
  refine go ?_ ?_
  exact aF (fun a w hh=>⟨v24,hF,iF [] hh⟩)
 refine bH ?_
 obtain rfl:=iD hF
 exact rO Jj8 ⟨hRl7,rfl,rfl⟩ []
def nO (K:Nat) (x19:List Int):Option (List Int):=
 some x19
def dH (K:Nat) (a0:List Int) (a1:List Int):Nat→(List Int)→Int→Int→Option (List Int)
 |0,_,_,_=>none
 |k+1,x11,x17,x18=>bif(decide (x18<(a0.length:Int))) then((bK a0 x18).bind fun v30=>(cO a1 x18).bind fun v32=>(aQ (v30-v32)).bind fun v34=>(aQ (v34-x17)).bind fun v36=>bif(decide (v36<0)) then((aQ (v36+1000000000)).bind fun v39=>(rM x11 [v39]).bind fun x41=>(aQ (x18+1)).bind fun v48=>dH K a0 a1 k x41 1 v48) else((rM x11 [v36]).bind fun x50=>(aQ (x18+1)).bind fun v57=>dH K a0 a1 k x50 0 v57)) else(some x11)
def fC (K:Nat) (a0:List Int) (a1:List Int):Option (List Int):=
 (dH K a0 a1 K ([]:List Int) 0 0).bind fun x19=>nO K x19
theorem nK {K:Nat} {a0:List Int} {a1:List Int} {r:List Int} (hF:fC K a0 a1=some r):Ct Tryz.prog 100 [.vc (pS cI a0),.vc (pS cI a1)] (.vc (pS cI r)):=by
 unfold fC at hF
 refine aA Tryz.func100 rfl (by kernel_rfl) Tryz.ntmps100 rfl (fun w0 M0=>?_)
 refine aD (aI (aG (aM (.inr rfl)) ⟨eI cI,trivial⟩ ?_))
 refine aU (aH (aD (aI (qE cI 3 rfl ?_))))
 refine go ?_ ?_
 refine aJ (aX (fun H E=>∃(x19:List Int),∃(b20:Option Nat),∃(c21:Nat),∃(n22:Nat),nO K x19=some r∧x19.length=n22∧H=[hO cI b20 c21 3 n22 x19]∧E=[(5,.vc (pO b20 n22 c21))]) ?_ (fun Jj26=>?_))
 ·rintro _ _ ⟨x19,b20,c21,n22,hF,q23,rfl,rfl⟩
  unfold nO at hF
  refine go ?_ ?_
  refine fY (fZ (tC 0 [4,5,33] rfl q23 ⟨rfl,rfl,rfl,trivial⟩ rfl ?_))
  obtain rfl:=iD hF
  exact jL (.inl rfl) Tryz.results100 (.tmp rfl .nil) rfl rfl
 obtain⟨x19',hL,hRl25⟩:=aP hF
 refine dQ (fun k a w=>∃(x11:List Int),∃(x17:Int),∃(x18:Int),∃(b12:Option Nat),∃(c13:Nat),∃(n14:Nat),dH K a0 a1 k x11 x17 x18=some x19'∧x11.length=n14∧hs _ [hO cI b12 c13 3 n14 x11] [(0,.vc (pS cI a0)),(1,.vc (pS cI a1)),(5,.vc (pO b12 n14 c13)),(6,.vc (pI .i64 x17)),(7,.vc (pI .i64 x18))] a w) K (fun a w ⟨_,_,_,_,_,_,hF,_,_⟩=>by cases hF) (fun k a w ⟨x11,x17,x18,b12,c13,n14,hF,q15,hh⟩=>dP ?_ hh) (fun a w hh=>⟨([]:List Int),0,0,none,0,0,hL,rfl,iF [0] hh⟩)
 rw [dH.eq_2] at hF
 refine go ?_ ?_
 refine aE hF rfl (fun h27 hF=>?_) (fun h27 hF=>?_)
 ·refine go ?_ ?_
  refine aJ (aD ?_)
  obtain⟨v30,h31,hF⟩:=aP hF
  obtain⟨v32,h33,hF⟩:=bC hF fR
  obtain⟨v34,h35,hF⟩:=aP hF
  obtain⟨v36,h37,hF⟩:=aP hF
  refine dr [0,0,3,7,0,0,48,127,0,511,1023] 11 0 ?_ (fun bs29 G28=>?_)
  refine go ?_ ?_
  refine aE hF rfl (fun h38 hF=>?_) (fun h38 hF=>?_)
  ·obtain⟨v39,h40,hF⟩:=aP hF
   refine go ?_ ?_
   refine aG (gG (C:=cI) (xs:=[.tmp 30]) (ps:=[.vc (pI .i64 v39)]) (zs:=[v39]) rfl tyS22 rfl ⟨⟨trivial,rfl⟩,trivial⟩ rfl) zU1 ?_
   obtain⟨x41,h42,hF⟩:=aP hF
   refine mN 0 rfl tyS22 rfl rfl q15 rfl rfl h42 (fun b43 c44 H45 e46=>?_)
   cases e46
   obtain⟨v48,h49,hF⟩:=aP hF
   refine go ?_ ?_
   exact aF (fun a w hh=>⟨x41,1,v48,b43,c44,(n14+[v39].length),hF,(cX h42 q15),iF [0] hh⟩)
  refine go ?_ ?_
  refine aG (gG (C:=cI) (xs:=[.tmp 30]) (ps:=[.vc (pI .i64 v36)]) (zs:=[v36]) rfl tyS22 rfl ⟨⟨trivial,rfl⟩,trivial⟩ rfl) zU1 ?_
  obtain⟨x50,h51,hF⟩:=aP hF
  refine mN 0 rfl tyS22 rfl rfl q15 rfl rfl h51 (fun b52 c53 H54 e55=>?_)
  cases e55
  obtain⟨v57,h58,hF⟩:=aP hF
  refine go ?_ ?_
  exact aF (fun a w hh=>⟨x50,0,v57,b52,c53,(n14+[v36].length),hF,(cX h51 q15),iF [0] hh⟩)
 refine bH ?_
 obtain rfl:=iD hF
 exact rO Jj26 ⟨x11,b12,c13,n14,hRl25,q15,rfl,rfl⟩ [0]
def nZ (K:Nat) (a0:aB) (a1:aB):Option aB:=
 bif(a0.neg==a1.neg) then((pD K a0.d a1.d).bind fun v7=>(aW K a0.neg v7).bind fun v9=>some v9) else((cJ K a0.d a1.d).bind fun v11=>bif(decide (v11<0)) then((fC K a1.d a0.d).bind fun v16=>(aW K a1.neg v16).bind fun v18=>some v18) else((fC K a0.d a1.d).bind fun v22=>(aW K a0.neg v22).bind fun v24=>some v24))
theorem yT {K:Nat} {a0:aB} {a1:aB} {r:aB} (hF:nZ K a0 a1=some r):Ct Tryz.prog 61 [.va (aB.e a0),.va (aB.e a1)] (.va (aB.e r)):=by
 unfold nZ at hF
 refine aA Tryz.func61 rfl (by kernel_rfl) Tryz.ntmps61 rfl (fun w0 M0=>?_)
 refine aD (aI (cP rfl rfl trivial (fun b1=>?_)))
 refine cP rfl rfl trivial (fun b2=>?_)
 refine aK rfl tyZ40 (fun b3=>?_)
 refine go ?_ ?_
 refine aG (aLs rfl Tryz.underlying4) zU2 ?_
 refine aU (aH (aE hF rfl (fun h4 hF=>?_) (fun h4 hF=>?_)))
 ·refine aD ?_
  obtain⟨v7,h8,hF⟩:=bC hF aB0
  obtain⟨v9,h10,hF⟩:=bC hF bI
  refine dr [0,1,0,4,0,16,60,127,255] 8 1 ?_ (fun bs6 G5=>?_)
  exact bQ
 obtain⟨v11,h12,hF⟩:=bC hF lB
 refine go ?_ ?_
 refine aE hF rfl (fun h13 hF=>?_) (fun h13 hF=>?_)
 ·refine aD ?_
  obtain⟨v16,h17,hF⟩:=bC hF nK
  obtain⟨v18,h19,hF⟩:=bC hF bI
  refine dr [0,1,0,4,0,16,60,127,255] 8 1 ?_ (fun bs15 G14=>?_)
  exact bQ
 obtain⟨v22,h23,hF⟩:=bC hF nK
 obtain⟨v24,h25,hF⟩:=bC hF bI
 refine go ?_ ?_
 refine dr [0,1,0,4,0,16,60,127,255] 8 1 ?_ (fun bs21 G20=>?_)
 exact bQ
def qM (K:Nat) (a0:Int) (x18:List Int):Option aB:=
 (aW K (decide (a0<0)) x18).bind fun v26=>some v26
def cZ (K:Nat):Nat→(List Int)→Int→Option (List Int)
 |0,_,_=>none
 |k+1,x11,x17=>bif(x17 != 0) then((zX x17 1000000000).bind fun v29=>bif(decide (v29<0)) then((aQ (-v29)).bind fun v32=>(rM x11 [v32]).bind fun x34=>(chq x17 1000000000).bind fun v41=>cZ K k x34 v41) else((rM x11 [v29]).bind fun x43=>(chq x17 1000000000).bind fun v50=>cZ K k x43 v50)) else(some x11)
def gI (K:Nat) (a0:Int):Option aB:=
 (cZ K K ([]:List Int) a0).bind fun x18=>qM K a0 x18
theorem lR {K:Nat} {a0:Int} {r:aB} (hF:gI K a0=some r):Ct Tryz.prog 62 [.vc (pI .i64 a0)] (.va (aB.e r)):=by
 unfold gI at hF
 refine aA Tryz.func62 rfl (by kernel_rfl) Tryz.ntmps62 rfl (fun w0 M0=>?_)
 refine aD (aI (aK rfl tyZ40 (fun b1=>?_)))
 refine aU (aH (aD (aI (qE cI 3 rfl ?_))))
 refine go ?_ ?_
 refine aJ (aX (fun H E=>∃(x18:List Int),∃(b19:Option Nat),∃(c20:Nat),∃(n21:Nat),qM K a0 x18=some r∧x18.length=n21∧H=[hO cI b19 c20 3 n21 x18,⟨some b1,1,40,2,1,([pB false]++[pS cI ([]:List Int)])⟩]∧E=[(2,.vc (pP (some b1) 0)),(3,.vc (pO b19 n21 c20)),(4,.vc (pB (decide (a0<0))))]) ?_ (fun Jj25=>?_))
 ·rintro _ _ ⟨x18,b19,c20,n21,hF,q22,rfl,rfl⟩
  unfold qM at hF
  refine aH (aD (aI (fI ?_)))
  refine fI ?_
  refine vX 0 [3,23] rfl q22 zU2 rfl ?_
  obtain⟨v26,h27,hF⟩:=bC hF bI
  exact bQ
 obtain⟨x18',hL,hRl24⟩:=aP hF
 refine dQ (fun k a w=>∃(x11:List Int),∃(x17:Int),∃(b12:Option Nat),∃(c13:Nat),∃(n14:Nat),cZ K k x11 x17=some x18'∧x11.length=n14∧hs _ [hO cI b12 c13 3 n14 x11,⟨some b1,1,40,2,1,([pB false]++[pS cI ([]:List Int)])⟩] [(0,.vc (pI .i64 x17)),(2,.vc (pP (some b1) 0)),(3,.vc (pO b12 n14 c13)),(4,.vc (pB (decide (a0<0))))] a w) K (fun a w ⟨_,_,_,_,_,hF,_,_⟩=>by cases hF) (fun k a w ⟨x11,x17,b12,c13,n14,hF,q15,hh⟩=>dP ?_ hh) (fun a w hh=>⟨([]:List Int),a0,none,0,0,hL,rfl,iF [0,1] hh⟩)
 rw [cZ.eq_2] at hF
 refine go ?_ ?_
 refine aE hF rfl (fun h28 hF=>?_) (fun h28 hF=>?_)
 ·refine fN (aH (aJ ?_))
  obtain⟨v29,h30,hF⟩:=aP hF
  refine go ?_ ?_
  refine aE hF rfl (fun h31 hF=>?_) (fun h31 hF=>?_)
  ·obtain⟨v32,h33,hF⟩:=aP hF
   refine go ?_ ?_
   refine aG (gG (C:=cI) (xs:=[.tmp 17]) (ps:=[.vc (pI .i64 v32)]) (zs:=[v32]) rfl tyS22 rfl ⟨⟨trivial,rfl⟩,trivial⟩ rfl) zU1 ?_
   obtain⟨x34,h35,hF⟩:=aP hF
   refine mN 0 rfl tyS22 rfl rfl q15 rfl rfl h35 (fun b36 c37 H38 e39=>?_)
   cases e39
   obtain⟨v41,h42,hF⟩:=aP hF
   refine go ?_ ?_
   exact aF (fun a w hh=>⟨x34,v41,b36,c37,(n14+[v32].length),hF,(cX h35 q15),iF [0,1] hh⟩)
  refine go ?_ ?_
  refine aG (gG (C:=cI) (xs:=[.tmp 17]) (ps:=[.vc (pI .i64 v29)]) (zs:=[v29]) rfl tyS22 rfl ⟨⟨trivial,rfl⟩,trivial⟩ rfl) zU1 ?_
  obtain⟨x43,h44,hF⟩:=aP hF
  refine mN 0 rfl tyS22 rfl rfl q15 rfl rfl h44 (fun b45 c46 H47 e48=>?_)
  cases e48
  obtain⟨v50,h51,hF⟩:=aP hF
  refine go ?_ ?_
  exact aF (fun a w hh=>⟨x43,v50,b45,c46,(n14+[v29].length),hF,(cX h44 q15),iF [0,1] hh⟩)
 refine bH ?_
 obtain rfl:=iD hF
 exact rO Jj25 ⟨x11,b12,c13,n14,hRl24,q15,rfl,rfl⟩ [0,1]
def lZ (K:Nat) (a0:aB):Option aB:=
 (aW K (!a0.neg) a0.d).bind fun v3=>some v3
theorem vF {K:Nat} {a0:aB} {r:aB} (hF:lZ K a0=some r):Ct Tryz.prog 84 [.va (aB.e a0)] (.va (aB.e r)):=by
 unfold lZ at hF
 refine aA Tryz.func84 rfl (by kernel_rfl) Tryz.ntmps84 rfl (fun w0 M0=>?_)
 refine aD (aI (cP rfl rfl trivial (fun b1=>?_)))
 refine aK rfl tyZ40 (fun b2=>?_)
 obtain⟨v3,h4,hF⟩:=bC hF bI
 exact bQ
def eM (a0:Bool) (a1:Int):Option aB:=
 bif(a1==0) then(some (⟨false,([]:List Int)⟩:aB)) else(bif(decide (a1<1000000000)) then(some (⟨a0,[(IntKind.i64.wrap a1)]⟩:aB)) else(bif(decide (a1<1000000000000000000)) then((zX a1 1000000000).bind fun v5=>(uq a1 1000000000).bind fun v7=>some (⟨a0,[(IntKind.i64.wrap v5),(IntKind.i64.wrap v7)]⟩:aB)) else((zX a1 1000000000).bind fun v9=>(uq a1 1000000000).bind fun v11=>(zX v11 1000000000).bind fun v13=>(uq a1 1000000000).bind fun v15=>(uq v15 1000000000).bind fun v17=>some (⟨a0,[(IntKind.i64.wrap v9),(IntKind.i64.wrap v13),(IntKind.i64.wrap v17)]⟩:aB))))
theorem jV {a0:Bool} {a1:Int} {r:aB} (hF:eM a0 a1=some r):Ct Tryz.prog 134 [.vc (pB a0),.vc (pI .u64 a1)] (.va (aB.e r)):=by
 unfold eM at hF
 refine aA Tryz.func134 rfl (by kernel_rfl) Tryz.ntmps134 rfl (fun w0 M0=>?_)
 refine aD (aI (aK rfl tyZ40 (fun b1=>?_)))
 refine go ?_ ?_
 refine aJ (go ?_ ?_)
 refine aE hF rfl (fun h2 hF=>?_) (fun h2 hF=>?_)
 ·refine aD (aI (aG (gH (is:=[]) (xs:=[]) (ps:=[]) rfl tyB40 rfl rfl trivial rfl) trivial ?_))
  exact bQ
 refine go ?_ ?_
 refine aE hF rfl (fun h3 hF=>?_) (fun h3 hF=>?_)
 ·refine go ?_ ?_
  refine aG (aDq rfl ⟨_,Tryz.underlying131⟩ Tryz.underlying3) zU1 ?_
  refine aG (gG (C:=cI) (xs:=[.tmp 14]) (ps:=[.vc (pI .i64 (IntKind.i64.wrap a1))]) (zs:=[(IntKind.i64.wrap a1)]) rfl tyS22 rfl ⟨⟨trivial,rfl⟩,trivial⟩ rfl) zU1 ?_
  refine aG (gH (is:=[0,1]) (xs:=[.tmp 12,.tmp 15]) (ps:=[.vc (pB a0),.vc (pS cI [(IntKind.i64.wrap a1)])]) rfl tyB40 rfl rfl ⟨trivial,trivial,trivial⟩ rfl) zU2 ?_
  exact bQ
 refine go ?_ ?_
 refine aE hF rfl (fun h4 hF=>?_) (fun h4 hF=>?_)
 ·obtain⟨v5,h6,hF⟩:=aP hF
  refine go ?_ ?_
  refine aG (aDq rfl ⟨_,Tryz.underlying131⟩ Tryz.underlying3) zU1 ?_
  refine fI ?_
  obtain⟨v7,h8,hF⟩:=aP hF
  refine aG (aG3 rfl h8) ⟨rfl,p6 _ _,trivial⟩ ?_
  refine aG (aDq rfl ⟨_,Tryz.underlying131⟩ Tryz.underlying3) zU1 ?_
  refine aG (gG (C:=cI) (xs:=[.tmp 23,.tmp 26]) (ps:=[.vc (pI .i64 (IntKind.i64.wrap v5)),.vc (pI .i64 (IntKind.i64.wrap v7))]) (zs:=[(IntKind.i64.wrap v5),(IntKind.i64.wrap v7)]) rfl tyS22 rfl ⟨⟨trivial,rfl⟩,⟨trivial,rfl⟩,trivial⟩ rfl) zU2 ?_
  refine aG (gH (is:=[0,1]) (xs:=[.tmp 20,.tmp 27]) (ps:=[.vc (pB a0),.vc (pS cI [(IntKind.i64.wrap v5),(IntKind.i64.wrap v7)])]) rfl tyB40 rfl rfl ⟨trivial,trivial,trivial⟩ rfl) zU2 ?_
  exact bQ
 obtain⟨v9,h10,hF⟩:=aP hF
 refine go ?_ ?_
 refine aG (aDq rfl ⟨_,Tryz.underlying131⟩ Tryz.underlying3) zU1 ?_
 refine fI ?_
 obtain⟨v11,h12,hF⟩:=aP hF
 refine aG (aG3 rfl h12) ⟨rfl,p6 _ _,trivial⟩ ?_
 obtain⟨v13,h14,hF⟩:=aP hF
 refine aG (aFV rfl h14) ⟨rfl,p6 _ _,trivial⟩ ?_
 refine aG (aDq rfl ⟨_,Tryz.underlying131⟩ Tryz.underlying3) zU1 ?_
 refine fI ?_
 have hF:=tX h12 hF
 refine aG (aG3 rfl h12) ⟨rfl,p6 _ _,trivial⟩ ?_
 obtain⟨v17,h18,hF⟩:=aP hF
 refine aG (aG3 rfl h18) ⟨rfl,p6 _ _,trivial⟩ ?_
 refine aG (aDq rfl ⟨_,Tryz.underlying131⟩ Tryz.underlying3) zU1 ?_
 refine aG (gG (C:=cI) (xs:=[.tmp 32,.tmp 36,.tmp 40]) (ps:=[.vc (pI .i64 (IntKind.i64.wrap v9)),.vc (pI .i64 (IntKind.i64.wrap v13)),.vc (pI .i64 (IntKind.i64.wrap v17))]) (zs:=[(IntKind.i64.wrap v9),(IntKind.i64.wrap v13),(IntKind.i64.wrap v17)]) rfl tyS22 rfl ⟨⟨trivial,rfl⟩,⟨trivial,rfl⟩,⟨trivial,rfl⟩,trivial⟩ rfl) ⟨rfl,rfl,rfl,trivial⟩ ?_
 refine aG (gH (is:=[0,1]) (xs:=[.tmp 29,.tmp 41]) (ps:=[.vc (pB a0),.vc (pS cI [(IntKind.i64.wrap v9),(IntKind.i64.wrap v13),(IntKind.i64.wrap v17)])]) rfl tyB40 rfl rfl ⟨trivial,trivial,trivial⟩ rfl) zU2 ?_
 exact bQ
def lS (a0:Int):Option aB:=
 bif(decide (a0<0)) then((eM (decide (a0<0)) (wu (-(IntKind.u64.wrap a0)))).bind fun v3=>some v3) else((eM (decide (a0<0)) (IntKind.u64.wrap a0)).bind fun v5=>some v5)
theorem rK {a0:Int} {r:aB} (hF:lS a0=some r):Ct Tryz.prog 86 [.vc (pI .i64 a0)] (.va (aB.e r)):=by
 unfold lS at hF
 refine aA Tryz.func86 rfl (by kernel_rfl) Tryz.ntmps86 rfl (fun w0 M0=>?_)
 refine aD (aI (aK rfl tyZ40 (fun b1=>?_)))
 refine go ?_ ?_
 refine aG (aDq rfl ⟨_,Tryz.underlying3⟩ Tryz.underlying131) zU1 ?_
 refine go ?_ ?_
 refine aE hF rfl (fun h2 hF=>?_) (fun h2 hF=>?_)
 ·refine aI (fI ?_)
  refine aG (aP1 rfl) zU1 ?_
  obtain⟨v3,h4,hF⟩:=bC hF jV
  exact bQ
 obtain⟨v5,h6,hF⟩:=bC hF jV
 exact bQ
def t8 (a0:aB):Option Int:=
 bif a0.neg then(some (-1)) else(bif((a0.d.length:Int)==0) then(some 0) else(some 1))
theorem aDZ {a0:aB} {r:Int} (hF:t8 a0=some r):Ct Tryz.prog 88 [.va (aB.e a0)] (.vc (pI .i64 r)):=by
 unfold t8 at hF
 refine aA Tryz.func88 rfl (by kernel_rfl) Tryz.ntmps88 rfl (fun w0 M0=>?_)
 refine aD (aI (cP rfl rfl trivial (fun b1=>?_)))
 refine go ?_ ?_
 refine aJ (go ?_ ?_)
 refine aE hF rfl (fun h2 hF=>?_) (fun h2 hF=>?_)
 ·exact bQ
 refine go ?_ ?_
 refine aE hF rfl (fun h3 hF=>?_) (fun h3 hF=>?_)
 ·exact bQ
 exact bQ
def tL (K:Nat):Option Bool:=
 some true
def gF (K:Nat) (a0:aB) (a1:aB):Nat→Int→Option (LR Bool Unit)
 |0,_=>none
 |k+1,x6=>bif(decide (x6<(a0.d.length:Int))) then((bK a0.d x6).bind fun v12=>(bK a1.d x6).bind fun v14=>bif(v12 != v14) then(some (.ret false)) else((aQ (x6+1)).bind fun v17=>gF K a0 a1 k v17)) else(some (.go ()))
def mU (K:Nat) (a0:aB) (a1:aB):Option Bool:=
 bif(a0.neg != a1.neg) then(some false) else(bif((a0.d.length:Int) != (a1.d.length:Int)) then(some false) else((gF K a0 a1 K 0).bind fun o=>match o with| .ret r=>some r| .go _=>tL K))
theorem xY {K:Nat} {a0:aB} {a1:aB} {r:Bool} (hF:mU K a0 a1=some r):Ct Tryz.prog 92 [.va (aB.e a0),.va (aB.e a1)] (.vc (pB r)):=by
 unfold mU at hF
 refine aA Tryz.func92 rfl (by kernel_rfl) Tryz.ntmps92 rfl (fun w0 M0=>?_)
 refine aD (aI (cP rfl rfl trivial (fun b1=>?_)))
 refine cP rfl rfl trivial (fun b2=>?_)
 refine go ?_ ?_
 refine aG (aBe rfl Tryz.underlying4) zU2 ?_
 refine fI ?_
 refine dV hF (fun h3 hF=>?_) (fun h3 hF=>?_)
 ·refine go ?_ ?_
  refine jS rfl ?_
  exact bQ
 refine go ?_ ?_
 refine aE hF rfl (fun h4 hF=>?_) (fun h4 hF=>?_)
 ·exact bQ
 refine go ?_ ?_
 refine aJ (aX (fun H E=>tL K=some r∧H=[]∧E=[]) ?_ (fun Jj8=>?_))
 ·rintro _ _ ⟨hF,rfl,rfl⟩
  unfold tL at hF
  exact bQ
 obtain⟨ol7,hL,hRl7⟩:=aP hF
 refine dQ (fun k a w=>∃(x6:Int),gF K a0 a1 k x6=some ol7∧hs _ [⟨some b2,1,40,2,1,(aB.e a1)⟩,⟨some b1,1,40,2,1,(aB.e a0)⟩] [(2,.vc (pP (some b1) 0)),(3,.vc (pP (some b2) 0)),(5,.vc (pI .i64 x6))] a w) K (fun a w ⟨_,hF,_⟩=>by cases hF) (fun k a w ⟨x6,hF,hh⟩=>dP ?_ hh) (fun a w hh=>⟨0,hL,iF [0,1] hh⟩)
 rw [gF.eq_2] at hF
 refine go ?_ ?_
 refine aE hF rfl (fun h9 hF=>?_) (fun h9 hF=>?_)
 ·refine go ?_ ?_
  refine aJ (aD ?_)
  obtain⟨v12,h13,hF⟩:=aP hF
  obtain⟨v14,h15,hF⟩:=aP hF
  refine dr [0,1,0,7,15,0,32,0,224,480,1023] 11 0 ?_ (fun bs11 G10=>?_)
  refine aU (aH (aE hF rfl (fun h16 hF=>?_) (fun h16 hF=>?_)))
  ·exact bQ
  obtain⟨v17,h18,hF⟩:=aP hF
  refine go ?_ ?_
  exact aF (fun a w hh=>⟨v17,hF,iF [0,1] hh⟩)
 refine bH ?_
 obtain rfl:=iD hF
 exact rO Jj8 ⟨hRl7,rfl,rfl⟩ []
def fU (a0:List Int):Option Int:=
 (cO a0 1).bind fun v1=>(aQ (v1*1000000000)).bind fun v3=>(cO a0 0).bind fun v5=>(aQ (v3+v5)).bind fun v7=>some v7
theorem l7 {a0:List Int} {r:Int} (hF:fU a0=some r):Ct Tryz.prog 138 [.vc (pS cI a0)] (.vc (pI .i64 r)):=by
 unfold fU at hF
 refine aA Tryz.func138 rfl (by kernel_rfl) Tryz.ntmps138 rfl (fun w0 M0=>?_)
 obtain⟨v1,h2,hF⟩:=bC hF fR
 obtain⟨v3,h4,hF⟩:=aP hF
 obtain⟨v5,h6,hF⟩:=bC hF fR
 obtain⟨v7,h8,hF⟩:=aP hF
 exact bQ
def iM (K:Nat) (a0:List Int) (a1:Int):Option (List Int):=
 (aW K false a0).bind fun v1=>(gI K a1).bind fun v3=>(gQ K v1 v3).bind fun v5=>some v5.d
theorem qZ {K:Nat} {a0:List Int} {a1:Int} {r:List Int} (hF:iM K a0 a1=some r):Ct Tryz.prog 165 [.vc (pS cI a0),.vc (pI .i64 a1)] (.vc (pS cI r)):=by
 unfold iM at hF
 refine aA Tryz.func165 rfl (by kernel_rfl) Tryz.ntmps165 rfl (fun w0 M0=>?_)
 refine aD (aI (aG (aM (.inr rfl)) ⟨eI cI,trivial⟩ ?_))
 obtain⟨v1,h2,hF⟩:=bC hF bI
 obtain⟨v3,h4,hF⟩:=bC hF lR
 obtain⟨v5,h6,hF⟩:=bC hF mO
 refine go ?_ ?_
 refine aK rfl tyZ40 (fun b7=>?_)
 exact bQ
def jR (K:Nat) (x46:List Int) (x52:List Int):Option ((List Int)×(List Int)):=
 some (x46,x52)
def gW (K:Nat) (a1:List Int) (x38:List Int) (x45:Int) (v68:aB) (recl53:(List Int)→(List Int)→Int→Option ((List Int)×(List Int))) (x78:Int):Option ((List Int)×(List Int)):=
 (iM K a1 x78).bind fun v81=>(fC K v68.d v81).bind fun v83=>(aW K false v83).bind fun v85=>(bK x38 x45).bind fun v88=>(pN x38 x45 x78).bind fun x90=>(aQ (x45-1)).bind fun v93=>recl53 x90 v85.d v93
def bM (K:Nat) (a1:List Int) (v68:aB):Nat→Int→Int→Option Int
 |0,_,_=>none
 |k+1,x76,x77=>bif(decide (x76<x77)) then((aQ (x76+x77)).bind fun v96=>(aQ (v96+1)).bind fun v98=>(chq v98 2).bind fun v100=>(iM K a1 v100).bind fun v102=>(cJ K v102 v68.d).bind fun v104=>bif(decide (v104≤0)) then(bM K a1 v68 k v100 x77) else((aQ (v100-1)).bind fun v107=>bM K a1 v68 k x76 v107)) else(some x76)
def fG (K:Nat) (a1:List Int) (x38:List Int) (x45:Int) (v68:aB) (recl53:(List Int)→(List Int)→Int→Option ((List Int)×(List Int))) (x72:Int):Option ((List Int)×(List Int)):=
 (bM K a1 v68 K 0 x72).bind fun x78=>gW K a1 x38 x45 v68 recl53 x78
def bE (K:Nat) (a0:List Int) (a1:List Int):Nat→(List Int)→(List Int)→Int→Option ((List Int)×(List Int))
 |0,_,_,_=>none
 |k+1,x38,x44,x45=>bif(decide (0≤x45)) then((bK a0 x45).bind fun v56=>(rM [v56] x44).bind fun x61=>(aW K false x61).bind fun v68=>(cJ K v68.d a1).bind fun v109=>bif(decide (v109<0)) then(fG K a1 x38 x45 v68 (bE K a0 a1 k) 0) else(fG K a1 x38 x45 v68 (bE K a0 a1 k) 999999999)) else(some (x38,x44))
def pL (K:Nat) (x135:List Int) (x141:List Int):Option ((List Int)×(List Int)):=
 some (x135,x141)
def lY (K:Nat) (a1:List Int) (x127:List Int) (x134:Int) (v157:aB) (recl142:(List Int)→(List Int)→Int→Option ((List Int)×(List Int))) (x167:Int):Option ((List Int)×(List Int)):=
 (iM K a1 x167).bind fun v170=>(fC K v157.d v170).bind fun v172=>(aW K false v172).bind fun v174=>(bK x127 x134).bind fun v177=>(pN x127 x134 x167).bind fun x179=>(aQ (x134-1)).bind fun v182=>recl142 x179 v174.d v182
def eS (K:Nat) (a1:List Int) (v157:aB):Nat→Int→Int→Option Int
 |0,_,_=>none
 |k+1,x165,x166=>bif(decide (x165<x166)) then((aQ (x165+x166)).bind fun v185=>(aQ (v185+1)).bind fun v187=>(chq v187 2).bind fun v189=>(iM K a1 v189).bind fun v191=>(cJ K v191 v157.d).bind fun v193=>bif(decide (v193≤0)) then(eS K a1 v157 k v189 x166) else((aQ (v189-1)).bind fun v196=>eS K a1 v157 k x165 v196)) else(some x165)
def jK (K:Nat) (a1:List Int) (x127:List Int) (x134:Int) (v157:aB) (recl142:(List Int)→(List Int)→Int→Option ((List Int)×(List Int))) (x161:Int):Option ((List Int)×(List Int)):=
 (eS K a1 v157 K 0 x161).bind fun x167=>lY K a1 x127 x134 v157 recl142 x167
def bX (K:Nat) (a0:List Int) (a1:List Int):Nat→(List Int)→(List Int)→Int→Option ((List Int)×(List Int))
 |0,_,_,_=>none
 |k+1,x127,x133,x134=>bif(decide (0≤x134)) then((bK a0 x134).bind fun v145=>(rM [v145] x133).bind fun x150=>(aW K false x150).bind fun v157=>(cJ K v157.d a1).bind fun v198=>bif(decide (v198<0)) then(jK K a1 x127 x134 v157 (bX K a0 a1 k) 0) else(jK K a1 x127 x134 v157 (bX K a0 a1 k) 999999999)) else(some (x127,x133))
def iN (K:Nat) (a0:List Int) (a1:List Int):Option ((List Int)×(List Int)):=
 bif(decide ((a0.length:Int)≤2)) then(bif(decide ((a1.length:Int)≤2)) then((fU a0).bind fun v3=>(fU a1).bind fun v5=>(chq v3 v5).bind fun v7=>(gI K v7).bind fun v9=>(fU a0).bind fun v12=>(fU a1).bind fun v14=>(zX v12 v14).bind fun v16=>(gI K v16).bind fun v18=>some (v9.d,v18.d)) else((y5 (a0.length:Int) 0).bind fun x23=>(aQ ((a0.length:Int)-1)).bind fun v28=>(bE K a0 a1 K x23 [] v28).bind fun(x46,x52)=>jR K x46 x52)) else((y5 (a0.length:Int) 0).bind fun x112=>(aQ ((a0.length:Int)-1)).bind fun v117=>(bX K a0 a1 K x112 [] v117).bind fun(x135,x141)=>pL K x135 x141)
theorem aAP {K:Nat} {a0:List Int} {a1:List Int} {r:(List Int)×(List Int)} (hF:iN K a0 a1=some r):Ct Tryz.prog 139 [.vc (pS cI a0),.vc (pS cI a1)] (.t2 (.vc (pS cI r.1)) (.vc (pS cI r.2))):=by
 unfold iN at hF
 refine aA Tryz.func139 rfl (by kernel_rfl) Tryz.ntmps139 rfl (fun w0 M0=>?_)
 refine aD (aI (aG (aM (.inr rfl)) ⟨eI cI,trivial⟩ ?_))
 refine aG (aM (.inr rfl)) ⟨eI cI,trivial⟩ ?_
 refine go ?_ ?_
 refine dV hF (fun h1 hF=>?_) (fun h1 hF=>?_)
 ·refine go ?_ ?_
  refine aE hF rfl (fun h2 hF=>?_) (fun h2 hF=>?_)
  ·obtain⟨v3,h4,hF⟩:=bC hF l7
   obtain⟨v5,h6,hF⟩:=bC hF l7
   obtain⟨v7,h8,hF⟩:=aP hF
   obtain⟨v9,h10,hF⟩:=bC hF lR
   refine go ?_ ?_
   refine aK rfl tyZ40 (fun b11=>?_)
   obtain⟨v12,h13,hF⟩:=bC hF l7
   obtain⟨v14,h15,hF⟩:=bC hF l7
   obtain⟨v16,h17,hF⟩:=aP hF
   obtain⟨v18,h19,hF⟩:=bC hF lR
   refine go ?_ ?_
   refine aK rfl tyZ40 (fun b20=>?_)
   refine go ?_ ?_
   refine dr [0,1,0,4,3,31] 6 0 ?_ (fun bs22 G21=>?_)
   refine aU (aH ?_)
   exact bQ
  obtain⟨x23,h24,hF⟩:=aP hF
  refine go ?_ ?_
  refine o7 (C:=cI) rfl tyS22 rfl tyZ3 rfl h24 (fun b25=>?_)
  refine go ?_ ?_
  refine aG (aM (.inr rfl)) ⟨eI cI,trivial⟩ ?_
  obtain⟨v28,h29,hF⟩:=aP hF
  refine go ?_ ?_
  refine aJ (aX (fun H E=>∃(x46:List Int),∃(x52:List Int),jR K x46 x52=some r∧x46.length=x23.length∧H=[hO cI b25 x23.length 3 x23.length x46]∧E=[(8,.vc (pO b25 x23.length x23.length)),(9,.vc (pS cI x52))]) ?_ (fun Jj54=>?_))
  ·rintro _ _ ⟨x46,x52,hF,q50,rfl,rfl⟩
   unfold jR at hF
   refine go ?_ ?_
   refine fY (fZ (tC 0 [4,8,93] rfl q50 ⟨rfl,rfl,rfl,trivial⟩ rfl ?_))
   obtain rfl:=iD hF
   exact jL (.inl rfl) Tryz.results139 (.tmp rfl (.tmp rfl .nil)) rfl rfl
  obtain⟨⟨x46',x52'⟩,hL,hRl53⟩:=aP hF
  refine dQ (fun k a w=>∃(x38:List Int),∃(x44:List Int),∃(x45:Int),bE K a0 a1 k x38 x44 x45=some (x46',x52')∧x38.length=x23.length∧hs _ [hO cI b25 x23.length 3 x23.length x38] [(0,.vc (pS cI a0)),(1,.vc (pS cI a1)),(8,.vc (pO b25 x23.length x23.length)),(9,.vc (pS cI x44)),(10,.vc (pI .i64 x45))] a w) K (fun a w ⟨_,_,_,hF,_,_⟩=>by cases hF) (fun k a w ⟨x38,x44,x45,hF,q42,hh⟩=>dP ?_ hh) (fun a w hh=>⟨x23,[],v28,hL,rfl,iF [0] hh⟩)
  rw [bE.eq_2] at hF
  refine go ?_ ?_
  refine aE hF rfl (fun h55 hF=>?_) (fun h55 hF=>?_)
  ·refine go ?_ ?_
   refine aJ ?_
   obtain⟨v56,h57,hF⟩:=aP hF
   refine go ?_ ?_
   refine aMg (aJY (C:=cI) (xs:=[.tmp 53]) (ps:=[.vc (pI .i64 v56)]) (zs:=[v56]) rfl tyS22 rfl ⟨⟨trivial,rfl⟩,trivial⟩ rfl) zU1 (fun b58 _=>?_)
   refine fI ?_
   obtain⟨x61,h62,hF⟩:=aP hF
   refine mN 0 rfl tyS22 rfl rfl rfl rfl rfl h62 (fun b63 c64 H65 e66=>?_)
   cases e66
   refine vX 0 [56] rfl (cX h62 rfl) zU1 rfl ?_
   obtain⟨v68,h69,hF⟩:=bC hF bI
   refine aG (bJ rfl h69 rfl) ⟨k_B _,rfl,trivial⟩ ?_
   refine aK rfl tyZ40 (fun b70=>?_)
   refine kY (t_s 0 rfl rfl rfl tyA40.s) zU2 ?_
   refine aU (aH (aD (aI (aG (f7 (off:=0) (k:=1) rfl tyF40_1) zU1 ?_))))
   refine aG (fF 0 1 rfl rfl rfl rfl (.one tyO22)) zU1 ?_
   refine yK ?_
   refine aU (aH (aD (aI (aG (aM (.inr rfl)) ⟨p6 _ _,trivial⟩ ?_))))
   refine aU (aH (aD (aI (aG (aM (.inr rfl)) ⟨p6 _ _,trivial⟩ ?_))))
   refine aU (aH (aD (yP (fun H E=>∃(x72:Int),fG K a1 x38 x45 v68 (bE K a0 a1 k) x72=some (x46',x52')∧H=[hO cI b25 x23.length 3 x23.length x38]∧E=[(0,.vc (pS cI a0)),(1,.vc (pS cI a1)),(8,.vc (pO b25 x23.length x23.length)),(9,.vc (pS cI v68.d)),(10,.vc (pI .i64 x45)),(12,.vc (pI .i64 0)),(13,.vc (pI .i64 x72))]) ?_ (fun Jj73=>?_))))
   ·rintro _ _ ⟨x72,hF,rfl,rfl⟩
    unfold fG at hF
    refine aD (aJ (aX (fun H E=>∃(x78:Int),gW K a1 x38 x45 v68 (bE K a0 a1 k) x78=some (x46',x52')∧H=[hO cI b25 x23.length 3 x23.length x38]∧E=[(0,.vc (pS cI a0)),(1,.vc (pS cI a1)),(8,.vc (pO b25 x23.length x23.length)),(9,.vc (pS cI v68.d)),(10,.vc (pI .i64 x45)),(12,.vc (pI .i64 x78))]) ?_ (fun Jj80=>?_)))
    ·rintro _ _ ⟨x78,hF,rfl,rfl⟩
     unfold gW at hF
     obtain⟨v81,h82,hF⟩:=bC hF qZ
     obtain⟨v83,h84,hF⟩:=bC hF nK
     obtain⟨v85,h86,hF⟩:=bC hF bI
     refine go ?_ ?_
     refine aK rfl tyZ40 (fun b87=>?_)
     obtain⟨v88,h89,x90,h91,v93,h94,hF⟩:=bn3 hF
     refine go ?_ ?_
     exact aF (fun a w hh=>⟨x90,v85.d,v93,hF,(bG h91 q42),iF [1] hh⟩)
    obtain⟨x78',hL,hRl79⟩:=aP hF
    refine dQ (fun k a w=>∃(x76:Int),∃(x77:Int),bM K a1 v68 k x76 x77=some x78'∧hs _ [hO cI b25 x23.length 3 x23.length x38] [(0,.vc (pS cI a0)),(1,.vc (pS cI a1)),(8,.vc (pO b25 x23.length x23.length)),(9,.vc (pS cI v68.d)),(10,.vc (pI .i64 x45)),(12,.vc (pI .i64 x76)),(13,.vc (pI .i64 x77))] a w) K (fun a w ⟨_,_,hF,_⟩=>by cases hF) (fun k a w ⟨x76,x77,hF,hh⟩=>dP ?_ hh) (fun a w hh=>⟨0,x72,hL,iF [0] hh⟩)
    rw [bM.eq_2] at hF
    refine go ?_ ?_
    refine aE hF rfl (fun h95 hF=>?_) (fun h95 hF=>?_)
    ·refine fN (aH (aJ ?_))
     obtain⟨v96,h97,v98,h99,v100,h101,hF⟩:=bn3 hF
     obtain⟨v102,h103,hF⟩:=bC hF qZ
     obtain⟨v104,h105,hF⟩:=bC hF lB
     refine go ?_ ?_
     refine aE hF rfl (fun h106 hF=>?_) (fun h106 hF=>?_)
     ·refine go ?_ ?_
      exact aF (fun a w hh=>⟨v100,x77,hF,iF [0] hh⟩)
     obtain⟨v107,h108,hF⟩:=aP hF
     refine go ?_ ?_
     exact aF (fun a w hh=>⟨x76,v107,hF,iF [0] hh⟩)
    refine bH ?_
    obtain rfl:=iD hF
    exact rO Jj80 ⟨x76,hRl79,rfl,rfl⟩ [0]
   obtain⟨v109,h110,hF⟩:=bC hF lB
   refine go ?_ ?_
   refine aE hF rfl (fun h111 hF=>?_) (fun h111 hF=>?_)
   ·refine aI (aG (aM (.inr rfl)) ⟨p6 _ _,trivial⟩ ?_)
    refine aU ?_
    exact rO Jj73 ⟨0,hF,rfl,rfl⟩ [1]
   refine fN ?_
   exact rO Jj73 ⟨999999999,hF,rfl,rfl⟩ [1]
  refine bH ?_
  obtain⟨rfl,rfl⟩:=sm2 hF
  exact rO Jj54 ⟨x38,x44,hRl53,q42,rfl,rfl⟩ [0]
 refine go ?_ ?_
 refine vM rfl ?_
 obtain⟨x112,h113,hF⟩:=aP hF
 refine go ?_ ?_
 refine o7 (C:=cI) rfl tyS22 rfl tyZ3 rfl h113 (fun b114=>?_)
 refine go ?_ ?_
 refine aG (aM (.inr rfl)) ⟨eI cI,trivial⟩ ?_
 obtain⟨v117,h118,hF⟩:=aP hF
 refine go ?_ ?_
 refine aJ (aX (fun H E=>∃(x135:List Int),∃(x141:List Int),pL K x135 x141=some r∧x135.length=x112.length∧H=[hO cI b114 x112.length 3 x112.length x135]∧E=[(8,.vc (pO b114 x112.length x112.length)),(9,.vc (pS cI x141))]) ?_ (fun Jj143=>?_))
 ·rintro _ _ ⟨x135,x141,hF,q139,rfl,rfl⟩
  unfold pL at hF
  refine go ?_ ?_
  refine fY (fZ (tC 0 [4,8,93] rfl q139 ⟨rfl,rfl,rfl,trivial⟩ rfl ?_))
  obtain rfl:=iD hF
  exact jL (.inl rfl) Tryz.results139 (.tmp rfl (.tmp rfl .nil)) rfl rfl
 obtain⟨⟨x135',x141'⟩,hL,hRl142⟩:=aP hF
 refine dQ (fun k a w=>∃(x127:List Int),∃(x133:List Int),∃(x134:Int),bX K a0 a1 k x127 x133 x134=some (x135',x141')∧x127.length=x112.length∧hs _ [hO cI b114 x112.length 3 x112.length x127] [(0,.vc (pS cI a0)),(1,.vc (pS cI a1)),(8,.vc (pO b114 x112.length x112.length)),(9,.vc (pS cI x133)),(10,.vc (pI .i64 x134))] a w) K (fun a w ⟨_,_,_,hF,_,_⟩=>by cases hF) (fun k a w ⟨x127,x133,x134,hF,q131,hh⟩=>dP ?_ hh) (fun a w hh=>⟨x112,[],v117,hL,rfl,iF [0] hh⟩)
 rw [bX.eq_2] at hF
 refine go ?_ ?_
 refine aE hF rfl (fun h144 hF=>?_) (fun h144 hF=>?_)
 ·refine go ?_ ?_
  refine aJ ?_
  obtain⟨v145,h146,hF⟩:=aP hF
  refine go ?_ ?_
  refine aMg (aJY (C:=cI) (xs:=[.tmp 53]) (ps:=[.vc (pI .i64 v145)]) (zs:=[v145]) rfl tyS22 rfl ⟨⟨trivial,rfl⟩,trivial⟩ rfl) zU1 (fun b147 _=>?_)
  refine fI ?_
  obtain⟨x150,h151,hF⟩:=aP hF
  refine mN 0 rfl tyS22 rfl rfl rfl rfl rfl h151 (fun b152 c153 H154 e155=>?_)
  cases e155
  refine vX 0 [56] rfl (cX h151 rfl) zU1 rfl ?_
  obtain⟨v157,h158,hF⟩:=bC hF bI
  refine aG (bJ rfl h158 rfl) ⟨k_B _,rfl,trivial⟩ ?_
  refine aK rfl tyZ40 (fun b159=>?_)
  refine kY (t_s 0 rfl rfl rfl tyA40.s) zU2 ?_
  refine aU (aH (aD (aI (aG (f7 (off:=0) (k:=1) rfl tyF40_1) zU1 ?_))))
  refine aG (fF 0 1 rfl rfl rfl rfl (.one tyO22)) zU1 ?_
  refine yK ?_
  refine aU (aH (aD (aI (aG (aM (.inr rfl)) ⟨p6 _ _,trivial⟩ ?_))))
  refine aU (aH (aD (aI (aG (aM (.inr rfl)) ⟨p6 _ _,trivial⟩ ?_))))
  refine aU (aH (aD (yP (fun H E=>∃(x161:Int),jK K a1 x127 x134 v157 (bX K a0 a1 k) x161=some (x135',x141')∧H=[hO cI b114 x112.length 3 x112.length x127]∧E=[(0,.vc (pS cI a0)),(1,.vc (pS cI a1)),(8,.vc (pO b114 x112.length x112.length)),(9,.vc (pS cI v157.d)),(10,.vc (pI .i64 x134)),(12,.vc (pI .i64 0)),(13,.vc (pI .i64 x161))]) ?_ (fun Jj162=>?_))))
  ·rintro _ _ ⟨x161,hF,rfl,rfl⟩
   unfold jK at hF
   refine aD (aJ (aX (fun H E=>∃(x167:Int),lY K a1 x127 x134 v157 (bX K a0 a1 k) x167=some (x135',x141')∧H=[hO cI b114 x112.length 3 x112.length x127]∧E=[(0,.vc (pS cI a0)),(1,.vc (pS cI a1)),(8,.vc (pO b114 x112.length x112.length)),(9,.vc (pS cI v157.d)),(10,.vc (pI .i64 x134)),(12,.vc (pI .i64 x167))]) ?_ (fun Jj169=>?_)))
   ·rintro _ _ ⟨x167,hF,rfl,rfl⟩
    unfold lY at hF
    obtain⟨v170,h171,hF⟩:=bC hF qZ
    obtain⟨v172,h173,hF⟩:=bC hF nK
    obtain⟨v174,h175,hF⟩:=bC hF bI
    refine go ?_ ?_
    refine aK rfl tyZ40 (fun b176=>?_)
    obtain⟨v177,h178,x179,h180,v182,h183,hF⟩:=bn3 hF
    refine go ?_ ?_
    exact aF (fun a w hh=>⟨x179,v174.d,v182,hF,(bG h180 q131),iF [1] hh⟩)
   obtain⟨x167',hL,hRl168⟩:=aP hF
   refine dQ (fun k a w=>∃(x165:Int),∃(x166:Int),eS K a1 v157 k x165 x166=some x167'∧hs _ [hO cI b114 x112.length 3 x112.length x127] [(0,.vc (pS cI a0)),(1,.vc (pS cI a1)),(8,.vc (pO b114 x112.length x112.length)),(9,.vc (pS cI v157.d)),(10,.vc (pI .i64 x134)),(12,.vc (pI .i64 x165)),(13,.vc (pI .i64 x166))] a w) K (fun a w ⟨_,_,hF,_⟩=>by cases hF) (fun k a w ⟨x165,x166,hF,hh⟩=>dP ?_ hh) (fun a w hh=>⟨0,x161,hL,iF [0] hh⟩)
   rw [eS.eq_2] at hF
   refine go ?_ ?_
   refine aE hF rfl (fun h184 hF=>?_) (fun h184 hF=>?_)
   ·refine fN (aH (aJ ?_))
    obtain⟨v185,h186,v187,h188,v189,h190,hF⟩:=bn3 hF
    obtain⟨v191,h192,hF⟩:=bC hF qZ
    obtain⟨v193,h194,hF⟩:=bC hF lB
    refine go ?_ ?_
    refine aE hF rfl (fun h195 hF=>?_) (fun h195 hF=>?_)
    ·refine go ?_ ?_
     exact aF (fun a w hh=>⟨v189,x166,hF,iF [0] hh⟩)
    obtain⟨v196,h197,hF⟩:=aP hF
    refine go ?_ ?_
    exact aF (fun a w hh=>⟨x165,v196,hF,iF [0] hh⟩)
   refine bH ?_
   obtain rfl:=iD hF
   exact rO Jj169 ⟨x165,hRl168,rfl,rfl⟩ [0]
  obtain⟨v198,h199,hF⟩:=bC hF lB
  refine go ?_ ?_
  refine aE hF rfl (fun h200 hF=>?_) (fun h200 hF=>?_)
  ·refine aI (aG (aM (.inr rfl)) ⟨p6 _ _,trivial⟩ ?_)
   refine aU ?_
   exact rO Jj162 ⟨0,hF,rfl,rfl⟩ [1]
  refine fN ?_
  exact rO Jj162 ⟨999999999,hF,rfl,rfl⟩ [1]
 refine bH ?_
 obtain⟨rfl,rfl⟩:=sm2 hF
 exact rO Jj143 ⟨x127,x133,hRl142,q131,rfl,rfl⟩ [0]
def kC (K:Nat) (a0:aB) (a1:aB):Option (aB×aB):=
 bif((a1.d.length:Int)==0) then(some ((⟨false,([]:List Int)⟩:aB),(⟨false,([]:List Int)⟩:aB))) else((iN K a0.d a1.d).bind fun v6=>(aW K (a0.neg != a1.neg) v6.1).bind fun v8=>(aW K false v6.2).bind fun v11=>bif a0.neg then(bif(decide (0<(v11.d.length:Int))) then((aW K (a0.neg != a1.neg) [1]).bind fun v18=>(nZ K v8 v18).bind fun v20=>(fC K a1.d v11.d).bind fun v22=>(aW K false v22).bind fun v24=>some (v20,v24)) else(some (v8,v11))) else(some (v8,v11)))
theorem sZ {K:Nat} {a0:aB} {a1:aB} {r:aB×aB} (hF:kC K a0 a1=some r):Ct Tryz.prog 96 [.va (aB.e a0),.va (aB.e a1)] (.t2 (.va (aB.e r.1)) (.va (aB.e r.2))):=by
 unfold kC at hF
 refine aA Tryz.func96 rfl (by kernel_rfl) Tryz.ntmps96 rfl (fun w0 M0=>?_)
 refine aD (aI (cP rfl rfl trivial (fun b1=>?_)))
 refine cP rfl rfl trivial (fun b2=>?_)
 refine aK rfl tyZ40 (fun b3=>?_)
 refine aK rfl tyZ40 (fun b4=>?_)
 refine go ?_ ?_
 refine aE hF rfl (fun h5 hF=>?_) (fun h5 hF=>?_)
 ·refine aD (aI (aG (gH (is:=[]) (xs:=[]) (ps:=[]) rfl tyB40 rfl rfl trivial rfl) trivial ?_))
  refine aG (gH (is:=[]) (xs:=[]) (ps:=[]) rfl tyB40 rfl rfl trivial rfl) trivial ?_
  exact bQ
 obtain⟨v6,h7,hF⟩:=bC hF aAP
 refine go ?_ ?_
 refine aG (aBe rfl Tryz.underlying4) zU2 ?_
 refine fI ?_
 obtain⟨v8,h9,hF⟩:=bC hF bI
 refine aG (bJ rfl h9 rfl) zU2 ?_
 refine aK rfl tyZ40 (fun b10=>?_)
 obtain⟨v11,h12,hF⟩:=bC hF bI
 refine go ?_ ?_
 refine aK rfl tyZ40 (fun b13=>?_)
 refine go ?_ ?_
 refine dV hF (fun h14 hF=>?_) (fun h14 hF=>?_)
 ·refine go ?_ ?_
  refine aE hF rfl (fun h15 hF=>?_) (fun h15 hF=>?_)
  ·refine aD ?_
   obtain⟨v18,h19,hF⟩:=bC hF bI
   obtain⟨v20,h21,hF⟩:=bC hF yT
   refine iV [0,0,2,0,8,30,0,126,255,511] 9 1 [.v (.va (aB.e v8)),.v (.vc (pP (some b1) 0)),.v (.vc (pB a0.neg)),.v (.vc (pP (some b2) 0)),.v (.vc (pB a1.neg)),.v (.vc (pB (a0.neg != a1.neg))),.v (.vc (pS cI [1])),.v (.va (aB.e v18)),.v (.va (aB.e v20))] aY ⟨d0 (fF 1 2 rfl rfl rfl rfl (.agg tyA40)) zU1,d0 (f7 (off:=0) (k:=0) rfl tyF40_0) zU1,d0 (fF 5 1 rfl rfl rfl rfl (.one tyO4)) zU1,d0 (f7 (off:=0) (k:=0) rfl tyF40_0) zU1,d0 (fF 4 1 rfl rfl rfl rfl (.one tyO4)) zU1,⟨rfl,.run (L:=[0]) ⟨fun G16 A=>aBe rfl Tryz.underlying4,trivial⟩ (fun G16=>zU2)⟩,d0 (gG (C:=cI) (xs:=[.const (.int .i64 (1))]) (ps:=[.vc (pI .i64 1)]) (zs:=[1]) rfl tyS22 rfl ⟨⟨trivial,rfl⟩,trivial⟩ rfl) ⟨p6 _ _,trivial⟩,d0 (bJ rfl h19 rfl) zU2,d0 (bJ rfl h21 rfl) zU2,trivial⟩ (fun bs17 G16=>?_)
   obtain⟨v22,h23,hF⟩:=bC hF nK
   obtain⟨v24,h25,hF⟩:=bC hF bI
   refine go ?_ ?_
   refine rR (HsM [(0,fun G26=>[⟨some b13,1,40,2,1,(aB.e v24)⟩,⟨some b10,1,40,2,1,(aB.e v20)⟩,⟨some b4,1,40,2,1,([pB false]++[pS cI ([]:List Int)])⟩,⟨some b3,1,40,2,1,([pB false]++[pS cI ([]:List Int)])⟩,⟨some b2,1,40,2,1,(aB.e a1)⟩,⟨some b1,1,40,2,1,(aB.e a0)⟩]),(1,fun G26=>[⟨some b13,1,40,2,1,(aB.e v24)⟩,⟨some b10,1,40,2,1,(aB.e v20)⟩,⟨some b4,1,40,2,1,([pB false]++[pS cI ([]:List Int)])⟩,⟨some b3,1,40,2,1,(aB.e v20)⟩,⟨some b2,1,40,2,1,(aB.e a1)⟩,⟨some b1,1,40,2,1,(aB.e a0)⟩])]) [2] [0,0,1,7] 3 1 [.v (.va (aB.e v20)),.v (.va (aB.e v24)),.g (fun _ _=>.any)] aY ⟨d1 0 (fF 1 2 rfl rfl rfl rfl (.agg tyA40)) zU1,⟨rfl,.run (L:=[0,1]) ⟨fun G26 A=>fF 0 2 rfl rfl rfl rfl (.agg tyA40),fun G26 A=>fF 0 2 rfl rfl rfl rfl (.agg tyA40),trivial⟩ (fun G26=>zU1)⟩,⟨rfl,.hvy [0] ⟨fun G26 A=>aB7 (t_s 3 rfl rfl rfl tyA40.s),trivial⟩ (fun G26=>zU2)⟩,trivial⟩ (fun bs27 G26=>?_)
   exact bQ
  refine go ?_ ?_
  refine rR (HsM [(0,fun G28=>[⟨some b13,1,40,2,1,(aB.e v11)⟩,⟨some b10,1,40,2,1,(aB.e v8)⟩,⟨some b4,1,40,2,1,([pB false]++[pS cI ([]:List Int)])⟩,⟨some b3,1,40,2,1,([pB false]++[pS cI ([]:List Int)])⟩,⟨some b2,1,40,2,1,(aB.e a1)⟩,⟨some b1,1,40,2,1,(aB.e a0)⟩]),(1,fun G28=>[⟨some b13,1,40,2,1,(aB.e v11)⟩,⟨some b10,1,40,2,1,(aB.e v8)⟩,⟨some b4,1,40,2,1,([pB false]++[pS cI ([]:List Int)])⟩,⟨some b3,1,40,2,1,(aB.e v8)⟩,⟨some b2,1,40,2,1,(aB.e a1)⟩,⟨some b1,1,40,2,1,(aB.e a0)⟩])]) [2] [0,0,1,7] 3 1 [.v (.va (aB.e v8)),.v (.va (aB.e v11)),.g (fun _ _=>.any)] aY ⟨d1 0 (fF 1 2 rfl rfl rfl rfl (.agg tyA40)) zU1,⟨rfl,.run (L:=[0,1]) ⟨fun G28 A=>fF 0 2 rfl rfl rfl rfl (.agg tyA40),fun G28 A=>fF 0 2 rfl rfl rfl rfl (.agg tyA40),trivial⟩ (fun G28=>zU1)⟩,⟨rfl,.hvy [0] ⟨fun G28 A=>aB7 (t_s 3 rfl rfl rfl tyA40.s),trivial⟩ (fun G28=>zU2)⟩,trivial⟩ (fun bs29 G28=>?_)
  exact bQ
 refine go ?_ ?_
 refine vM rfl ?_
 refine go ?_ ?_
 refine rR (HsM [(0,fun G30=>[⟨some b13,1,40,2,1,(aB.e v11)⟩,⟨some b10,1,40,2,1,(aB.e v8)⟩,⟨some b4,1,40,2,1,([pB false]++[pS cI ([]:List Int)])⟩,⟨some b3,1,40,2,1,([pB false]++[pS cI ([]:List Int)])⟩,⟨some b2,1,40,2,1,(aB.e a1)⟩,⟨some b1,1,40,2,1,(aB.e a0)⟩]),(1,fun G30=>[⟨some b13,1,40,2,1,(aB.e v11)⟩,⟨some b10,1,40,2,1,(aB.e v8)⟩,⟨some b4,1,40,2,1,([pB false]++[pS cI ([]:List Int)])⟩,⟨some b3,1,40,2,1,(aB.e v8)⟩,⟨some b2,1,40,2,1,(aB.e a1)⟩,⟨some b1,1,40,2,1,(aB.e a0)⟩])]) [2] [0,0,1,7] 3 1 [.v (.va (aB.e v8)),.v (.va (aB.e v11)),.g (fun _ _=>.any)] aY ⟨d1 0 (fF 1 2 rfl rfl rfl rfl (.agg tyA40)) zU1,⟨rfl,.run (L:=[0,1]) ⟨fun G30 A=>fF 0 2 rfl rfl rfl rfl (.agg tyA40),fun G30 A=>fF 0 2 rfl rfl rfl rfl (.agg tyA40),trivial⟩ (fun G30=>zU1)⟩,⟨rfl,.hvy [0] ⟨fun G30 A=>aB7 (t_s 3 rfl rfl rfl tyA40.s),trivial⟩ (fun G30=>zU2)⟩,trivial⟩ (fun bs31 G30=>?_)
 exact bQ
def tJ (K:Nat) (x14:aB):Option aB:=
 some x14
def pQ (K:Nat) (x28:Int):Option (LR aB aB):=
 (gI K x28).bind fun v31=>some (.ret v31)
def gB (K:Nat):Nat→Int→Int→Option Int
 |0,_,_=>none
 |k+1,x26,x27=>bif(decide (0<x27)) then((zX x26 x27).bind fun v34=>gB K k x27 v34) else(some x26)
def eU (K:Nat):Nat→aB→aB→Option (LR aB aB)
 |0,_,_=>none
 |k+1,x12,x13=>bif(decide (0<(x12.d.length:Int))) then(bif(decide ((x13.d.length:Int)≤2)) then(bif(decide ((x12.d.length:Int)≤2)) then((fU x13.d).bind fun v20=>(fU x12.d).bind fun v22=>(gB K K v20 v22).bind fun x28=>pQ K x28) else((kC K x13 x12).bind fun v36=>eU K k v36.2 x12)) else((kC K x13 x12).bind fun v40=>eU K k v40.2 x12)) else(some (.go x13))
def qQ (K:Nat) (a0:aB) (a1:aB):Option aB:=
 (aW K false a0.d).bind fun v4=>(aW K false a1.d).bind fun v7=>(eU K K v7 v4).bind fun o=>match o with| .ret r=>some r| .go x14=>tJ K x14
theorem aCv {K:Nat} {a0:aB} {a1:aB} {r:aB} (hF:qQ K a0 a1=some r):Ct Tryz.prog 95 [.va (aB.e a0),.va (aB.e a1)] (.va (aB.e r)):=by
 unfold qQ at hF
 refine aA Tryz.func95 rfl (by kernel_rfl) Tryz.ntmps95 rfl (fun w0 M0=>?_)
 refine aD (aI (cP rfl rfl trivial (fun b1=>?_)))
 refine cP rfl rfl trivial (fun b2=>?_)
 refine aK rfl tyZ40 (fun b3=>?_)
 obtain⟨v4,h5,hF⟩:=bC hF bI
 refine go ?_ ?_
 refine aK rfl tyZ40 (fun b6=>?_)
 obtain⟨v7,h8,hF⟩:=bC hF bI
 refine go ?_ ?_
 refine aK rfl tyZ40 (fun b9=>?_)
 refine go ?_ ?_
 refine aJ (aX (fun H E=>∃(x14:aB),tJ K x14=some r∧H=[⟨some b6,1,40,2,1,(aB.e x14)⟩,⟨some b3,1,40,2,1,([pB false]++[pS cI ([]:List Int)])⟩]∧E=[(4,.vc (pP (some b3) 0)),(5,.vc (pP (some b6) 0))]) ?_ (fun Jj16=>?_))
 ·rintro _ _ ⟨x14,hF,rfl,rfl⟩
  unfold tJ at hF
  exact bQ
 obtain⟨ol15,hL,hRl15⟩:=aP hF
 refine dQ (fun k a w=>∃(x12:aB),∃(x13:aB),eU K k x12 x13=some ol15∧hs _ [⟨some b9,1,40,2,1,(aB.e x12)⟩,⟨some b6,1,40,2,1,(aB.e x13)⟩,⟨some b3,1,40,2,1,([pB false]++[pS cI ([]:List Int)])⟩] [(4,.vc (pP (some b3) 0)),(5,.vc (pP (some b6) 0)),(6,.vc (pP (some b9) 0))] a w) K (fun a w ⟨_,_,hF,_⟩=>by cases hF) (fun k a w ⟨x12,x13,hF,hh⟩=>dP ?_ hh) (fun a w hh=>⟨v7,v4,hL,iF [0,1,2] hh⟩)
 rw [eU.eq_2] at hF
 refine go ?_ ?_
 refine aE hF rfl (fun h17 hF=>?_) (fun h17 hF=>?_)
 ·refine fN (aH (aJ (go ?_ ?_)))
  refine dV hF (fun h18 hF=>?_) (fun h18 hF=>?_)
  ·refine go ?_ ?_
   refine aE hF rfl (fun h19 hF=>?_) (fun h19 hF=>?_)
   ·obtain⟨v20,h21,hF⟩:=bC hF l7
    obtain⟨v22,h23,hF⟩:=bC hF l7
    refine go ?_ ?_
    refine aJ (aX (fun H E=>∃(x28:Int),pQ K x28=some ol15∧H=[⟨some b3,1,40,2,1,([pB false]++[pS cI ([]:List Int)])⟩]∧E=[(4,.vc (pP (some b3) 0)),(7,.vc (pI .i64 x28))]) ?_ (fun Jj30=>?_))
    ·rintro _ _ ⟨x28,hF,rfl,rfl⟩
     unfold pQ at hF
     obtain⟨v31,h32,hF⟩:=bC hF lR
     exact bQ
    obtain⟨x28',hL,hRl29⟩:=aP hF
    refine dQ (fun k a w=>∃(x26:Int),∃(x27:Int),gB K k x26 x27=some x28'∧hs _ [⟨some b3,1,40,2,1,([pB false]++[pS cI ([]:List Int)])⟩] [(4,.vc (pP (some b3) 0)),(7,.vc (pI .i64 x26)),(8,.vc (pI .i64 x27))] a w) K (fun a w ⟨_,_,hF,_⟩=>by cases hF) (fun k a w ⟨x26,x27,hF,hh⟩=>dP ?_ hh) (fun a w hh=>⟨v20,v22,hL,iF [2] hh⟩)
    rw [gB.eq_2] at hF
    refine go ?_ ?_
    refine aE hF rfl (fun h33 hF=>?_) (fun h33 hF=>?_)
    ·refine fN (aH (aJ ?_))
     obtain⟨v34,h35,hF⟩:=aP hF
     refine go ?_ ?_
     exact aF (fun a w hh=>⟨x27,v34,hF,iF [0] hh⟩)
    refine bH ?_
    obtain rfl:=iD hF
    exact rO Jj30 ⟨x26,hRl29,rfl,rfl⟩ [0]
   obtain⟨v36,h37,hF⟩:=bC hF sZ
   refine go ?_ ?_
   refine aK rfl tyZ40 (fun b38=>?_)
   refine aK rfl tyZ40 (fun b39=>?_)
   refine go ?_ ?_
   exact aF (fun a w hh=>⟨v36.2,x12,hF,iF [2,3,4] hh⟩)
  refine go ?_ ?_
  refine vM rfl ?_
  obtain⟨v40,h41,hF⟩:=bC hF sZ
  refine go ?_ ?_
  refine aK rfl tyZ40 (fun b42=>?_)
  refine aK rfl tyZ40 (fun b43=>?_)
  refine go ?_ ?_
  exact aF (fun a w hh=>⟨v40.2,x12,hF,iF [2,3,4] hh⟩)
 refine bH ?_
 obtain rfl:=iD hF
 exact rO Jj16 ⟨x13,hRl15,rfl,rfl⟩ [1,2]
def rJ (a0:aB):Option aB:=
 bif(!a0.neg) then(some (⟨(decide (0<(a0.d.length:Int))),a0.d⟩:aB)) else(some (⟨false,a0.d⟩:aB))
theorem yV {a0:aB} {r:aB} (hF:rJ a0=some r):Ct Tryz.prog 109 [.va (aB.e a0)] (.va (aB.e r)):=by
 unfold rJ at hF
 refine aA Tryz.func109 rfl (by kernel_rfl) Tryz.ntmps109 rfl (fun w0 M0=>?_)
 refine aD (aI (cP rfl rfl trivial (fun b1=>?_)))
 refine aK rfl tyZ40 (fun b2=>?_)
 refine go ?_ ?_
 refine dV hF (fun h3 hF=>?_) (fun h3 hF=>?_)
 ·exact bQ
 exact bQ
def u9 (K:Nat) (a0:Bool) (a1:List Int) (x4:Int):Option aB:=
 bif(x4==0) then(some (⟨false,([]:List Int)⟩:aB)) else((slL a1 0 x4).bind fun x8=>some (⟨a0,x8⟩:aB))
def l9 (K:Nat) (a1:List Int):Nat→Int→Option Int
 |0,_=>none
 |k+1,x3=>bif(decide (0<x3)) then((aQ (x3-1)).bind fun v11=>(bK a1 v11).bind fun v13=>bif(v13==0) then((aQ (x3-1)).bind fun v16=>l9 K a1 k v16) else(some x3)) else(some x3)
def dY (K:Nat) (a0:Bool) (a1:List Int):Option aB:=
 (l9 K a1 K (a1.length:Int)).bind fun x4=>u9 K a0 a1 x4
theorem iJ {K:Nat} {a0:Bool} {a1:List Int} {r:aB} (hF:dY K a0 a1=some r):Ct Tryz.prog 155 [.vc (pB a0),.vc (pS cI a1)] (.va (aB.e r)):=by
 unfold dY at hF
 refine aA Tryz.func155 rfl (by kernel_rfl) Tryz.ntmps155 rfl (fun w0 M0=>?_)
 refine aD (aI (aK rfl tyZ40 (fun b1=>?_)))
 refine go ?_ ?_
 refine aJ (aX (fun H E=>∃(x4:Int),u9 K a0 a1 x4=some r∧H=[⟨some b1,1,40,2,1,([pB false]++[pS cI ([]:List Int)])⟩]∧E=[(0,.vc (pB a0)),(1,.vc (pS cI a1)),(4,.vc (pP (some b1) 0)),(5,.vc (pI .i64 x4))]) ?_ (fun Jj6=>?_))
 ·rintro _ _ ⟨x4,hF,rfl,rfl⟩
  unfold u9 at hF
  refine go ?_ ?_
  refine aE hF rfl (fun h7 hF=>?_) (fun h7 hF=>?_)
  ·refine aD (aI (aG (gH (is:=[]) (xs:=[]) (ps:=[]) rfl tyB40 rfl rfl trivial rfl) trivial ?_))
   exact bQ
  obtain⟨x8,h9,hF⟩:=aP hF
  refine go ?_ ?_
  refine aG (aOk rfl tyS22 h9) ⟨rfl,rfl,rfl,trivial⟩ ?_
  refine aG (gH (is:=[0,1]) (xs:=[.tmp 23,.tmp 27]) (ps:=[.vc (pB a0),.vc (pS cI x8)]) rfl tyB40 rfl rfl ⟨trivial,trivial,trivial⟩ rfl) zU2 ?_
  exact bQ
 obtain⟨x4',hL,hRl5⟩:=aP hF
 refine dQ (fun k a w=>∃(x3:Int),l9 K a1 k x3=some x4'∧hs _ [⟨some b1,1,40,2,1,([pB false]++[pS cI ([]:List Int)])⟩] [(0,.vc (pB a0)),(1,.vc (pS cI a1)),(4,.vc (pP (some b1) 0)),(5,.vc (pI .i64 x3))] a w) K (fun a w ⟨_,hF,_⟩=>by cases hF) (fun k a w ⟨x3,hF,hh⟩=>dP ?_ hh) (fun a w hh=>⟨(a1.length:Int),hL,iF [0] hh⟩)
 rw [l9.eq_2] at hF
 refine go ?_ ?_
 refine dV hF (fun h10 hF=>?_) (fun h10 hF=>?_)
 ·obtain⟨v11,h12,v13,h14,hF⟩:=tY hF
  refine go ?_ ?_
  refine aE hF rfl (fun h15 hF=>?_) (fun h15 hF=>?_)
  ·refine fN (aH (aJ ?_))
   have hF:=tX h12 hF
   refine go ?_ ?_
   exact aF (fun a w hh=>⟨v11,hF,iF [0] hh⟩)
  refine bH ?_
  obtain rfl:=iD hF
  exact rO Jj6 ⟨x3,hRl5,rfl,rfl⟩ [0]
 refine go ?_ ?_
 refine vM rfl ?_
 refine bH ?_
 obtain rfl:=iD hF
 exact rO Jj6 ⟨x3,hRl5,rfl,rfl⟩ [0]
def sR (K:Nat) (x2:List Int) (x28:List Int) (x34:Int):Option (List Int):=
 (bK x28 (x2.length:Int)).bind fun v37=>(pN x28 (x2.length:Int) x34).bind fun x39=>some x39
def cV (K:Nat) (x2:List Int) (x3:List Int):Nat→(List Int)→Int→Int→Option ((List Int)×Int)
 |0,_,_,_=>none
 |k+1,x20,x26,x27=>bif(decide (x27<(x2.length:Int))) then((bK x2 x27).bind fun v43=>(aQ (v43+x26)).bind fun v45=>bif(decide (x27<(x3.length:Int))) then((bK x3 x27).bind fun v48=>(aQ (v45+v48)).bind fun v50=>bif(decide (1000000000≤v50)) then((aQ (v50-1000000000)).bind fun v53=>(bK x20 x27).bind fun v55=>(pN x20 x27 v53).bind fun x57=>(aQ (x27+1)).bind fun v60=>cV K x2 x3 k x57 1 v60) else((bK x20 x27).bind fun v62=>(pN x20 x27 v50).bind fun x64=>(aQ (x27+1)).bind fun v67=>cV K x2 x3 k x64 0 v67)) else(bif(decide (1000000000≤v45)) then((aQ (v45-1000000000)).bind fun v70=>(bK x20 x27).bind fun v72=>(pN x20 x27 v70).bind fun x74=>(aQ (x27+1)).bind fun v77=>cV K x2 x3 k x74 1 v77) else((bK x20 x27).bind fun v79=>(pN x20 x27 v45).bind fun x81=>(aQ (x27+1)).bind fun v84=>cV K x2 x3 k x81 0 v84))) else(some (x20,x26))
def nU (K:Nat) (x2:List Int) (x3:List Int):Option (List Int):=
 (aQ ((x2.length:Int)+1)).bind fun v5=>(y5 v5 0).bind fun x7=>(cV K x2 x3 K x7 0 0).bind fun(x28,x34)=>sR K x2 x28 x34
def o9 (K:Nat) (a0:List Int) (a1:List Int):Option (List Int):=
 bif(decide ((a0.length:Int)<(a1.length:Int))) then(nU K a1 a0) else(nU K a0 a1)
theorem aAW {K:Nat} {a0:List Int} {a1:List Int} {r:List Int} (hF:o9 K a0 a1=some r):Ct Tryz.prog 156 [.vc (pS cI a0),.vc (pS cI a1)] (.vc (pS cI r)):=by
 unfold o9 at hF
 refine aA Tryz.func156 rfl (by kernel_rfl) Tryz.ntmps156 rfl (fun w0 M0=>?_)
 refine aD (aI (aG (aM (.inr rfl)) ⟨eI cI,trivial⟩ ?_))
 refine aU (aH (aD (yP (fun H E=>∃(x2:List Int),∃(x3:List Int),nU K x2 x3=some r∧H=[]∧E=[(0,.vc (pS cI x2)),(1,.vc (pS cI x3))]) ?_ (fun Jj4=>?_))))
 ·rintro _ _ ⟨x2,x3,hF,rfl,rfl⟩
  unfold nU at hF
  obtain⟨v5,h6,x7,h8,hF⟩:=tY hF
  refine go ?_ ?_
  refine o7 (C:=cI) rfl tyS22 rfl tyZ3 rfl h8 (fun b9=>?_)
  refine go ?_ ?_
  refine aJ (aX (fun H E=>∃(x28:List Int),∃(x34:Int),sR K x2 x28 x34=some r∧x28.length=x7.length∧H=[hO cI b9 x7.length 3 x7.length x28]∧E=[(0,.vc (pS cI x2)),(5,.vc (pO b9 x7.length x7.length)),(6,.vc (pI .i64 x34))]) ?_ (fun Jj36=>?_))
  ·rintro _ _ ⟨x28,x34,hF,q32,rfl,rfl⟩
   unfold sR at hF
   obtain⟨v37,h38,x39,h40,hF⟩:=tY hF
   refine go ?_ ?_
   refine fY (fZ (tC 0 [4,5,50,55] rfl (bG h40 q32) ⟨rfl,rfl,rfl,rfl,trivial⟩ rfl ?_))
   obtain rfl:=iD hF
   exact jL (.inl rfl) Tryz.results156 (.tmp rfl .nil) rfl rfl
  obtain⟨⟨x28',x34'⟩,hL,hRl35⟩:=aP hF
  refine dQ (fun k a w=>∃(x20:List Int),∃(x26:Int),∃(x27:Int),cV K x2 x3 k x20 x26 x27=some (x28',x34')∧x20.length=x7.length∧hs _ [hO cI b9 x7.length 3 x7.length x20] [(0,.vc (pS cI x2)),(1,.vc (pS cI x3)),(5,.vc (pO b9 x7.length x7.length)),(6,.vc (pI .i64 x26)),(21,.vc (pS cI x2)),(22,.vc (pI .i64 (x2.length:Int))),(23,.vc (pI .i64 x27))] a w) K (fun a w ⟨_,_,_,hF,_,_⟩=>by cases hF) (fun k a w ⟨x20,x26,x27,hF,q24,hh⟩=>dP ?_ hh) (fun a w hh=>⟨x7,0,0,hL,rfl,iF [0] hh⟩)
  rw [cV.eq_2] at hF
  refine go ?_ ?_
  refine aE hF rfl (fun h42 hF=>?_) (fun h42 hF=>?_)
  ·refine go ?_ ?_
   refine aJ ?_
   obtain⟨v43,h44,v45,h46,hF⟩:=tY hF
   refine go ?_ ?_
   refine aE hF rfl (fun h47 hF=>?_) (fun h47 hF=>?_)
   ·obtain⟨v48,h49,v50,h51,hF⟩:=tY hF
    refine go ?_ ?_
    refine aE hF rfl (fun h52 hF=>?_) (fun h52 hF=>?_)
    ·obtain⟨v53,h54,v55,h56,x57,h58,v60,h61,hF⟩:=bn4 hF
     refine go ?_ ?_
     exact aF (fun a w hh=>⟨x57,1,v60,hF,(bG h58 q24),iF [0] hh⟩)
    obtain⟨v62,h63,x64,h65,v67,h68,hF⟩:=bn3 hF
    refine go ?_ ?_
    exact aF (fun a w hh=>⟨x64,0,v67,hF,(bG h65 q24),iF [0] hh⟩)
   refine go ?_ ?_
   refine aE hF rfl (fun h69 hF=>?_) (fun h69 hF=>?_)
   ·obtain⟨v70,h71,v72,h73,x74,h75,v77,h78,hF⟩:=bn4 hF
    refine go ?_ ?_
    exact aF (fun a w hh=>⟨x74,1,v77,hF,(bG h75 q24),iF [0] hh⟩)
   obtain⟨v79,h80,x81,h82,v84,h85,hF⟩:=bn3 hF
   refine go ?_ ?_
   exact aF (fun a w hh=>⟨x81,0,v84,hF,(bG h82 q24),iF [0] hh⟩)
  refine bH ?_
  obtain⟨rfl,rfl⟩:=sm2 hF
  exact rO Jj36 ⟨x20,x26,hRl35,q24,rfl,rfl⟩ [0]
 refine go ?_ ?_
 refine aE hF rfl (fun h86 hF=>?_) (fun h86 hF=>?_)
 ·refine aI (fI ?_)
  refine fI ?_
  refine yK ?_
  refine yK ?_
  refine aU ?_
  exact rO Jj4 ⟨a1,a0,hF,rfl,rfl⟩ []
 refine fN ?_
 exact rO Jj4 ⟨a0,a1,hF,rfl,rfl⟩ []
def mI (a0:Int):Option Bool:=
 some (a0 != a0)
theorem wA {a0:Int} {r:Bool} (hF:mI a0=some r):Ct Tryz.prog 174 [.vc (pI .i64 a0)] (.vc (pB r)):=by
 unfold mI at hF
 refine aA Tryz.func174 rfl (by kernel_rfl) Tryz.ntmps174 rfl (fun w0 M0=>?_)
 exact bQ
def gX (a0:Int) (a1:Int):Option Int:=
 (mI a0).bind fun v1=>(mI a1).bind fun v3=>bif v1 then(bif v3 then(some 0) else(some (-1))) else(bif v3 then(some 1) else(bif(decide (a0<a1)) then(some (-1)) else(bif(decide (a1<a0)) then(some 1) else(some 0))))
theorem uA {a0:Int} {a1:Int} {r:Int} (hF:gX a0 a1=some r):Ct Tryz.prog 170 [.vc (pI .i64 a0),.vc (pI .i64 a1)] (.vc (pI .i64 r)):=by
 unfold gX at hF
 refine aA Tryz.func170 rfl (by kernel_rfl) Tryz.ntmps170 rfl (fun w0 M0=>?_)
 obtain⟨v1,h2,hF⟩:=bC hF wA
 obtain⟨v3,h4,hF⟩:=bC hF wA
 refine go ?_ ?_
 refine aE hF rfl (fun h5 hF=>?_) (fun h5 hF=>?_)
 ·refine go ?_ ?_
  refine aE hF rfl (fun h6 hF=>?_) (fun h6 hF=>?_)
  ·exact bQ
  exact bQ
 refine go ?_ ?_
 refine aE hF rfl (fun h7 hF=>?_) (fun h7 hF=>?_)
 ·exact bQ
 refine go ?_ ?_
 refine aE hF rfl (fun h8 hF=>?_) (fun h8 hF=>?_)
 ·exact bQ
 refine go ?_ ?_
 refine aE hF rfl (fun h9 hF=>?_) (fun h9 hF=>?_)
 ·exact bQ
 exact bQ
def t7 (K:Nat):Option Int:=
 some 0
def fS (K:Nat) (a0:List Int) (a1:List Int):Nat→Int→Option (LR Int Unit)
 |0,_=>none
 |k+1,x7=>bif(decide (0≤x7)) then((bK a0 x7).bind fun v13=>(bK a1 x7).bind fun v15=>bif(v13 != v15) then((bK a0 x7).bind fun v20=>(bK a1 x7).bind fun v22=>(gX v20 v22).bind fun v24=>some (.ret v24)) else((aQ (x7-1)).bind fun v26=>fS K a0 a1 k v26)) else(some (.go ()))
def fJ (K:Nat) (a0:List Int) (a1:List Int):Option Int:=
 bif((a0.length:Int) != (a1.length:Int)) then((gX (a0.length:Int) (a1.length:Int)).bind fun v2=>some v2) else((aQ ((a0.length:Int)-1)).bind fun v4=>(fS K a0 a1 K v4).bind fun o=>match o with| .ret r=>some r| .go _=>t7 K)
theorem mP {K:Nat} {a0:List Int} {a1:List Int} {r:Int} (hF:fJ K a0 a1=some r):Ct Tryz.prog 157 [.vc (pS cI a0),.vc (pS cI a1)] (.vc (pI .i64 r)):=by
 unfold fJ at hF
 refine aA Tryz.func157 rfl (by kernel_rfl) Tryz.ntmps157 rfl (fun w0 M0=>?_)
 refine go ?_ ?_
 refine aE hF rfl (fun h1 hF=>?_) (fun h1 hF=>?_)
 ·obtain⟨v2,h3,hF⟩:=bC hF uA
  exact bQ
 obtain⟨v4,h5,hF⟩:=aP hF
 refine go ?_ ?_
 refine aJ (aX (fun H E=>t7 K=some r∧H=[]∧E=[]) ?_ (fun Jj9=>?_))
 ·rintro _ _ ⟨hF,rfl,rfl⟩
  unfold t7 at hF
  exact bQ
 obtain⟨ol8,hL,hRl8⟩:=aP hF
 refine dQ (fun k a w=>∃(x7:Int),fS K a0 a1 k x7=some ol8∧hs _ [] [(0,.vc (pS cI a0)),(1,.vc (pS cI a1)),(5,.vc (pI .i64 x7))] a w) K (fun a w ⟨_,hF,_⟩=>by cases hF) (fun k a w ⟨x7,hF,hh⟩=>dP ?_ hh) (fun a w hh=>⟨v4,hL,iF [] hh⟩)
 rw [fS.eq_2] at hF
 refine go ?_ ?_
 refine aE hF rfl (fun h10 hF=>?_) (fun h10 hF=>?_)
 ·refine go ?_ ?_
  refine aJ (aD ?_)
  obtain⟨v13,h14,hF⟩:=aP hF
  obtain⟨v15,h16,hF⟩:=aP hF
  refine dr [0,0,3,7,0,0,48,112,255] 9 0 ?_ (fun bs12 G11=>?_)
  refine aU (aH (aE hF rfl (fun h17 hF=>?_) (fun h17 hF=>?_)))
  ·refine aD ?_
   have hF:=tX h14 hF
   have hF:=tX h16 hF
   obtain⟨v24,h25,hF⟩:=bC hF uA
   refine dr [0,0,3,7,0,0,48,112,255,511] 10 0 ?_ (fun bs19 G18=>?_)
   refine aU (aH ?_)
   exact bQ
  obtain⟨v26,h27,hF⟩:=aP hF
  refine go ?_ ?_
  exact aF (fun a w hh=>⟨v26,hF,iF [] hh⟩)
 refine bH ?_
 obtain rfl:=iD hF
 exact rO Jj9 ⟨hRl8,rfl,rfl⟩ []
def rV (K:Nat) (x21:List Int):Option (List Int):=
 some x21
def jW (K:Nat) (x20:Int) (recl27:(List Int)→Int→Option (List Int)) (x31:List Int):Option (List Int):=
 (bK x31 x20).bind fun v38=>bif(decide (v38<0)) then((bK x31 x20).bind fun v41=>(aQ (v41+1000000000)).bind fun v43=>(bK x31 x20).bind fun v45=>(pN x31 x20 v43).bind fun x47=>(aQ (x20+1)).bind fun v50=>(bK x47 v50).bind fun v52=>(aQ (v52-1)).bind fun v54=>(bK x47 v50).bind fun v56=>(pN x47 v50 v54).bind fun x58=>(aQ (x20+1)).bind fun v61=>recl27 x58 v61) else((aQ (x20+1)).bind fun v63=>recl27 x31 v63)
def dS (K:Nat) (a0:List Int) (a1:List Int) (x1:List Int):Nat→(List Int)→Int→Option (List Int)
 |0,_,_=>none
 |k+1,x14,x20=>bif(decide (x20<((cpL x1 a0).length:Int))) then(bif(decide (x20<(a1.length:Int))) then((bK x14 x20).bind fun v68=>(bK a1 x20).bind fun v70=>(aQ (v68-v70)).bind fun v72=>(bK x14 x20).bind fun v74=>(pN x14 x20 v72).bind fun x76=>jW K x20 (dS K a0 a1 x1 k) x76) else(jW K x20 (dS K a0 a1 x1 k) x14)) else(some x14)
def mA (K:Nat) (a0:List Int) (a1:List Int):Option (List Int):=
 (y5 (a0.length:Int) 0).bind fun x1=>(dS K a0 a1 x1 K (cpL x1 a0) 0).bind fun x21=>rV K x21
theorem w4 {K:Nat} {a0:List Int} {a1:List Int} {r:List Int} (hF:mA K a0 a1=some r):Ct Tryz.prog 158 [.vc (pS cI a0),.vc (pS cI a1)] (.vc (pS cI r)):=by
 unfold mA at hF
 refine aA Tryz.func158 rfl (by kernel_rfl) Tryz.ntmps158 rfl (fun w0 M0=>?_)
 refine aD (aI (aG (aM (.inr rfl)) ⟨eI cI,trivial⟩ ?_))
 obtain⟨x1,h2,hF⟩:=aP hF
 refine go ?_ ?_
 refine o7 (C:=cI) rfl tyS22 rfl tyZ3 rfl h2 (fun b3=>?_)
 refine go ?_ ?_
 refine aG (t_cp 0 rfl tyS22 rfl rfl rfl) zU2 ?_
 refine go ?_ ?_
 refine aG (aBx (C:=cI) (xs:=(cpL x1 a0)) (T:=3) rfl tyS22 (aDb rfl)) zU1 ?_
 refine go ?_ ?_
 refine aJ (aX (fun H E=>∃(x21:List Int),rV K x21=some r∧x21.length=x1.length∧H=[hO cI b3 x1.length 3 x1.length x21]∧E=[(5,.vc (pO b3 x1.length x1.length))]) ?_ (fun Jj28=>?_))
 ·rintro _ _ ⟨x21,hF,q25,rfl,rfl⟩
  unfold rV at hF
  refine go ?_ ?_
  refine fY (fZ (tC 0 [4,5,51] rfl q25 ⟨rfl,rfl,rfl,trivial⟩ rfl ?_))
  obtain rfl:=iD hF
  exact jL (.inl rfl) Tryz.results158 (.tmp rfl .nil) rfl rfl
 obtain⟨x21',hL,hRl27⟩:=aP hF
 refine dQ (fun k a w=>∃(x14:List Int),∃(x20:Int),dS K a0 a1 x1 k x14 x20=some x21'∧x14.length=x1.length∧hs _ [hO cI b3 x1.length 3 x1.length x14] [(1,.vc (pS cI a1)),(5,.vc (pO b3 x1.length x1.length)),(14,.vc (pI .i64 ((cpL x1 a0).length:Int))),(15,.vc (pI .i64 x20))] a w) K (fun a w ⟨_,_,hF,_,_⟩=>by cases hF) (fun k a w ⟨x14,x20,hF,q18,hh⟩=>dP ?_ hh) (fun a w hh=>⟨(cpL x1 a0),0,hL,(aDb rfl),iF [0] hh⟩)
 rw [dS.eq_2] at hF
 refine go ?_ ?_
 refine aE hF rfl (fun h29 hF=>?_) (fun h29 hF=>?_)
 ·refine go ?_ ?_
  refine aJ (aD (aI (fI ?_)))
  refine yK ?_
  refine aU (aH (aD (yP (fun H E=>∃(x31:List Int),jW K x20 (dS K a0 a1 x1 k) x31=some x21'∧x31.length=x1.length∧H=[hO cI b3 x1.length 3 x1.length x31]∧E=[(1,.vc (pS cI a1)),(5,.vc (pO b3 x1.length x1.length)),(6,.vc (pI .i64 x20)),(14,.vc (pI .i64 ((cpL x1 a0).length:Int))),(15,.vc (pI .i64 x20))]) ?_ (fun Jj37=>?_))))
  ·rintro _ _ ⟨x31,hF,q35,rfl,rfl⟩
   unfold jW at hF
   obtain⟨v38,h39,hF⟩:=aP hF
   refine go ?_ ?_
   refine aE hF rfl (fun h40 hF=>?_) (fun h40 hF=>?_)
   ·have hF:=tX h39 hF
    obtain⟨v43,h44,hF⟩:=aP hF
    have hF:=tX h39 hF
    obtain⟨x47,h48,v50,h51,v52,h53,v54,h55,hF⟩:=bn4 hF
    have hF:=tX h53 hF
    obtain⟨x58,h59,hF⟩:=aP hF
    have hF:=tX h51 hF
    refine go ?_ ?_
    exact aF (fun a w hh=>⟨x58,v50,hF,(bG h59 (bG h48 q35)),iF [0] hh⟩)
   obtain⟨v63,h64,hF⟩:=aP hF
   refine go ?_ ?_
   exact aF (fun a w hh=>⟨x31,v63,hF,q35,iF [0] hh⟩)
  refine go ?_ ?_
  refine aE hF rfl (fun h65 hF=>?_) (fun h65 hF=>?_)
  ·obtain⟨v68,h69,hF⟩:=aP hF
   obtain⟨v70,h71,hF⟩:=aP hF
   obtain⟨v72,h73,hF⟩:=aP hF
   have hF:=tX h69 hF
   refine dr [0,0,3,7,0,0,48,112,255,511,1023] 10 1 ?_ (fun bs67 G66=>?_)
   obtain⟨x76,h77,hF⟩:=aP hF
   refine kY (xM 0 rfl rfl h69 h77 tyO3.s) zU2 ?_
   refine aU ?_
   exact rO Jj37 ⟨x76,hF,(bG h77 q18),rfl,rfl⟩ [0]
  refine fN ?_
  exact rO Jj37 ⟨x14,hF,q18,rfl,rfl⟩ [0]
 refine bH ?_
 obtain rfl:=iD hF
 exact rO Jj28 ⟨x14,hRl27,q18,rfl,rfl⟩ [0]
def mY (K:Nat) (a0:aB) (a1:aB):Option aB:=
 bif(a0.neg==a1.neg) then((o9 K a0.d a1.d).bind fun v7=>(dY K a0.neg v7).bind fun v9=>some v9) else((fJ K a0.d a1.d).bind fun v11=>bif(decide (v11<0)) then((mA K a1.d a0.d).bind fun v16=>(dY K a1.neg v16).bind fun v18=>some v18) else((mA K a0.d a1.d).bind fun v22=>(dY K a0.neg v22).bind fun v24=>some v24))
theorem yQ {K:Nat} {a0:aB} {a1:aB} {r:aB} (hF:mY K a0 a1=some r):Ct Tryz.prog 122 [.va (aB.e a0),.va (aB.e a1)] (.va (aB.e r)):=by
 unfold mY at hF
 refine aA Tryz.func122 rfl (by kernel_rfl) Tryz.ntmps122 rfl (fun w0 M0=>?_)
 refine aD (aI (cP rfl rfl trivial (fun b1=>?_)))
 refine cP rfl rfl trivial (fun b2=>?_)
 refine aK rfl tyZ40 (fun b3=>?_)
 refine go ?_ ?_
 refine aJ (go ?_ ?_)
 refine aG (aLs rfl Tryz.underlying4) zU2 ?_
 refine go ?_ ?_
 refine aE hF rfl (fun h4 hF=>?_) (fun h4 hF=>?_)
 ·refine aD ?_
  obtain⟨v7,h8,hF⟩:=bC hF aAW
  obtain⟨v9,h10,hF⟩:=bC hF iJ
  refine dr [0,1,0,4,0,16,60,127,255] 8 1 ?_ (fun bs6 G5=>?_)
  exact bQ
 obtain⟨v11,h12,hF⟩:=bC hF mP
 refine go ?_ ?_
 refine aE hF rfl (fun h13 hF=>?_) (fun h13 hF=>?_)
 ·refine aD ?_
  obtain⟨v16,h17,hF⟩:=bC hF w4
  obtain⟨v18,h19,hF⟩:=bC hF iJ
  refine dr [0,1,0,4,0,16,60,127,255] 8 1 ?_ (fun bs15 G14=>?_)
  exact bQ
 obtain⟨v22,h23,hF⟩:=bC hF w4
 obtain⟨v24,h25,hF⟩:=bC hF iJ
 refine go ?_ ?_
 refine dr [0,1,0,4,0,16,60,127,255] 8 1 ?_ (fun bs21 G20=>?_)
 exact bQ
def qW (K:Nat) (a0:aB) (a1:aB) (x37:List Int):Option aB:=
 (dY K (a0.neg != a1.neg) x37).bind fun v45=>some v45
def qP (K:Nat) (a1:aB) (x36:Int) (recl43:(List Int)→Int→Option (List Int)) (x66:List Int) (x72:Int):Option (List Int):=
 (aQ (x36+(a1.d.length:Int))).bind fun v75=>(bK x66 v75).bind fun v77=>(pN x66 v75 x72).bind fun x79=>(aQ (x36+1)).bind fun v82=>recl43 x79 v82
def gR (K:Nat) (a1:aB) (x36:Int) (v48:Int):Nat→(List Int)→Int→Int→Option ((List Int)×Int)
 |0,_,_,_=>none
 |k+1,x58,x64,x65=>bif(decide (x65<(a1.d.length:Int))) then((bK a1.d x65).bind fun v85=>(aQ (x36+x65)).bind fun v87=>(bK x58 v87).bind fun v89=>(aQ (v48*v85)).bind fun v91=>(aQ (v89+v91)).bind fun v93=>(aQ (v93+x64)).bind fun v95=>(chq v95 1000000000).bind fun v97=>(aQ (x36+x65)).bind fun v99=>(aQ (v97*1000000000)).bind fun v101=>(aQ (v95-v101)).bind fun v103=>(bK x58 v99).bind fun v105=>(pN x58 v99 v103).bind fun x107=>(aQ (x65+1)).bind fun v110=>gR K a1 x36 v48 k x107 v97 v110) else(some (x58,x64))
def fQ (K:Nat) (a0:aB) (a1:aB):Nat→(List Int)→Int→Option (List Int)
 |0,_,_=>none
 |k+1,x30,x36=>bif(decide (x36<(a0.d.length:Int))) then((bK a0.d x36).bind fun v48=>(gR K a1 x36 v48 K x30 0 0).bind fun(x66,x72)=>qP K a1 x36 (fQ K a0 a1 k) x66 x72) else(some x30)
def vH (K:Nat) (a0:aB) (a1:aB) (x133:List Int):Option aB:=
 (dY K (a0.neg != a1.neg) x133).bind fun v141=>some v141
def sS (K:Nat) (a1:aB) (x132:Int) (recl139:(List Int)→Int→Option (List Int)) (x162:List Int) (x168:Int):Option (List Int):=
 (aQ (x132+(a1.d.length:Int))).bind fun v171=>(bK x162 v171).bind fun v173=>(pN x162 v171 x168).bind fun x175=>(aQ (x132+1)).bind fun v178=>recl139 x175 v178
def mV (K:Nat) (a1:aB) (x132:Int) (v144:Int):Nat→(List Int)→Int→Int→Option ((List Int)×Int)
 |0,_,_,_=>none
 |k+1,x154,x160,x161=>bif(decide (x161<(a1.d.length:Int))) then((bK a1.d x161).bind fun v181=>(aQ (x132+x161)).bind fun v183=>(bK x154 v183).bind fun v185=>(aQ (v144*v181)).bind fun v187=>(aQ (v185+v187)).bind fun v189=>(aQ (v189+x160)).bind fun v191=>(chq v191 1000000000).bind fun v193=>(aQ (x132+x161)).bind fun v195=>(aQ (v193*1000000000)).bind fun v197=>(aQ (v191-v197)).bind fun v199=>(bK x154 v195).bind fun v201=>(pN x154 v195 v199).bind fun x203=>(aQ (x161+1)).bind fun v206=>mV K a1 x132 v144 k x203 v193 v206) else(some (x154,x160))
def kS (K:Nat) (a0:aB) (a1:aB):Nat→(List Int)→Int→Option (List Int)
 |0,_,_=>none
 |k+1,x126,x132=>bif(decide (x132<(a0.d.length:Int))) then((bK a0.d x132).bind fun v144=>(mV K a1 x132 v144 K x126 0 0).bind fun(x162,x168)=>sS K a1 x132 (kS K a0 a1 k) x162 x168) else(some x126)
def bO (K:Nat) (a0:aB) (a1:aB):Option aB:=
 bif((a0.d.length:Int)==1) then(bif((a1.d.length:Int)==1) then((bK a0.d 0).bind fun v10=>(bK a1.d 0).bind fun v12=>(eM (a0.neg != a1.neg) (wu ((IntKind.u64.wrap v10)*(IntKind.u64.wrap v12)))).bind fun v14=>some v14) else((aQ ((a0.d.length:Int)+(a1.d.length:Int))).bind fun v16=>(y5 v16 0).bind fun x18=>(fQ K a0 a1 K x18 0).bind fun x37=>qW K a0 a1 x37)) else((aQ ((a0.d.length:Int)+(a1.d.length:Int))).bind fun v112=>(y5 v112 0).bind fun x114=>(kS K a0 a1 K x114 0).bind fun x133=>vH K a0 a1 x133)
theorem gK {K:Nat} {a0:aB} {a1:aB} {r:aB} (hF:bO K a0 a1=some r):Ct Tryz.prog 124 [.va (aB.e a0),.va (aB.e a1)] (.va (aB.e r)):=by
 unfold bO at hF
 refine aA Tryz.func124 rfl (by kernel_rfl) Tryz.ntmps124 rfl (fun w0 M0=>?_)
 refine aD (aI (cP rfl rfl trivial (fun b1=>?_)))
 refine cP rfl rfl trivial (fun b2=>?_)
 refine aK rfl tyZ40 (fun b3=>?_)
 refine go ?_ ?_
 refine dr [0,1,0,4,3,31] 6 0 ?_ (fun bs5 G4=>?_)
 refine go ?_ ?_
 refine dV hF (fun h6 hF=>?_) (fun h6 hF=>?_)
 ·refine go ?_ ?_
  refine aE hF rfl (fun h7 hF=>?_) (fun h7 hF=>?_)
  ·refine aD ?_
   obtain⟨v10,h11,hF⟩:=aP hF
   obtain⟨v12,h13,hF⟩:=aP hF
   obtain⟨v14,h15,hF⟩:=bC hF jV
   refine iV [0,1,0,4,15,0,32,96,224,0,512,1536,3584,8160,16383,32767] 15 1 [.v (.vc (pP (some b1) 0)),.v (.vc (pB a0.neg)),.v (.vc (pP (some b2) 0)),.v (.vc (pB a1.neg)),.v (.vc (pB (a0.neg != a1.neg))),.v (.vc (pS cI a0.d)),.v (.vc (pM (cI.e v10))),.v (.vc (pI .i64 v10)),.v (.vc (pI .u64 (IntKind.u64.wrap v10))),.v (.vc (pS cI a1.d)),.v (.vc (pM (cI.e v12))),.v (.vc (pI .i64 v12)),.v (.vc (pI .u64 (IntKind.u64.wrap v12))),.v (.vc (pI .u64 (wu ((IntKind.u64.wrap v10)*(IntKind.u64.wrap v12))))),.v (.va (aB.e v14))] aY ⟨d0 (f7 (off:=0) (k:=0) rfl tyF40_0) zU1,d0 (fF 2 1 rfl rfl rfl rfl (.one tyO4)) zU1,d0 (f7 (off:=0) (k:=0) rfl tyF40_0) zU1,d0 (fF 1 1 rfl rfl rfl rfl (.one tyO4)) zU1,⟨rfl,.run (L:=[0]) ⟨fun G8 A=>aBe rfl Tryz.underlying4,trivial⟩ (fun G8=>zU2)⟩,d0 (aM (.inl rfl)) zU1,d0 (aDu rfl tyS22 h11) ⟨rfl,p6 _ _,trivial⟩,d0 (aBh 1 rfl rfl (.one tyO3)) zU1,⟨rfl,.run (L:=[0]) ⟨fun G8 A=>aDq rfl ⟨_,Tryz.underlying3⟩ Tryz.underlying131,trivial⟩ (fun G8=>zU1)⟩,d0 (aM (.inl rfl)) zU1,d0 (aDu rfl tyS22 h13) ⟨rfl,p6 _ _,trivial⟩,d0 (aBh 1 rfl rfl (.one tyO3)) zU1,⟨rfl,.run (L:=[0]) ⟨fun G8 A=>aDq rfl ⟨_,Tryz.underlying3⟩ Tryz.underlying131,trivial⟩ (fun G8=>zU1)⟩,d0 (aPZ rfl) zU2,d0 (bJ rfl h15 rfl) zU2,trivial⟩ (fun bs9 G8=>?_)
   exact bQ
  obtain⟨v16,h17,x18,h19,hF⟩:=tY hF
  refine go ?_ ?_
  refine o7 (C:=cI) rfl tyS22 rfl tyZ3 rfl h19 (fun b20=>?_)
  refine go ?_ ?_
  refine aJ (aX (fun H E=>∃(x37:List Int),qW K a0 a1 x37=some r∧x37.length=x18.length∧H=[hO cI b20 x18.length 3 x18.length x37,⟨some b3,1,40,2,1,([pB false]++[pS cI ([]:List Int)])⟩,⟨some b2,1,40,2,1,(aB.e a1)⟩,⟨some b1,1,40,2,1,(aB.e a0)⟩]∧E=[(2,.vc (pP (some b1) 0)),(3,.vc (pP (some b2) 0)),(4,.vc (pP (some b3) 0)),(7,.vc (pO b20 x18.length x18.length))]) ?_ (fun Jj44=>?_))
  ·rintro _ _ ⟨x37,hF,q41,rfl,rfl⟩
   unfold qW at hF
   refine go ?_ ?_
   refine aG (aBe rfl Tryz.underlying4) zU2 ?_
   refine fI ?_
   refine vX 0 [7,98] rfl q41 zU2 rfl ?_
   obtain⟨v45,h46,hF⟩:=bC hF iJ
   exact bQ
  obtain⟨x37',hL,hRl43⟩:=aP hF
  refine dQ (fun k a w=>∃(x30:List Int),∃(x36:Int),fQ K a0 a1 k x30 x36=some x37'∧x30.length=x18.length∧hs _ [hO cI b20 x18.length 3 x18.length x30,⟨some b3,1,40,2,1,([pB false]++[pS cI ([]:List Int)])⟩,⟨some b2,1,40,2,1,(aB.e a1)⟩,⟨some b1,1,40,2,1,(aB.e a0)⟩] [(2,.vc (pP (some b1) 0)),(3,.vc (pP (some b2) 0)),(4,.vc (pP (some b3) 0)),(6,.vc (pS cI a1.d)),(7,.vc (pO b20 x18.length x18.length)),(47,.vc (pS cI a0.d)),(48,.vc (pI .i64 (a0.d.length:Int))),(49,.vc (pI .i64 x36))] a w) K (fun a w ⟨_,_,hF,_,_⟩=>by cases hF) (fun k a w ⟨x30,x36,hF,q34,hh⟩=>dP ?_ hh) (fun a w hh=>⟨x18,0,hL,rfl,iF [0,1,2,3] hh⟩)
  rw [fQ.eq_2] at hF
  refine go ?_ ?_
  refine aE hF rfl (fun h47 hF=>?_) (fun h47 hF=>?_)
  ·refine go ?_ ?_
   refine aJ ?_
   obtain⟨v48,h49,hF⟩:=aP hF
   refine go ?_ ?_
   refine aJ (aX (fun H E=>∃(x66:List Int),∃(x72:Int),qP K a1 x36 (fQ K a0 a1 k) x66 x72=some x37'∧x66.length=x18.length∧H=[hO cI b20 x18.length 3 x18.length x66,⟨some b3,1,40,2,1,([pB false]++[pS cI ([]:List Int)])⟩,⟨some b2,1,40,2,1,(aB.e a1)⟩,⟨some b1,1,40,2,1,(aB.e a0)⟩]∧E=[(2,.vc (pP (some b1) 0)),(3,.vc (pP (some b2) 0)),(4,.vc (pP (some b3) 0)),(6,.vc (pS cI a1.d)),(7,.vc (pO b20 x18.length x18.length)),(8,.vc (pI .i64 x36)),(10,.vc (pI .i64 x72)),(47,.vc (pS cI a0.d)),(48,.vc (pI .i64 (a0.d.length:Int))),(49,.vc (pI .i64 x36))]) ?_ (fun Jj74=>?_))
   ·rintro _ _ ⟨x66,x72,hF,q70,rfl,rfl⟩
    unfold qP at hF
    obtain⟨v75,h76,v77,h78,x79,h80,v82,h83,hF⟩:=bn4 hF
    refine go ?_ ?_
    exact aF (fun a w hh=>⟨x79,v82,hF,(bG h80 q70),iF [0,1,2,3] hh⟩)
   obtain⟨⟨x66',x72'⟩,hL,hRl73⟩:=aP hF
   refine dQ (fun k a w=>∃(x58:List Int),∃(x64:Int),∃(x65:Int),gR K a1 x36 v48 k x58 x64 x65=some (x66',x72')∧x58.length=x18.length∧hs _ [hO cI b20 x18.length 3 x18.length x58,⟨some b3,1,40,2,1,([pB false]++[pS cI ([]:List Int)])⟩,⟨some b2,1,40,2,1,(aB.e a1)⟩,⟨some b1,1,40,2,1,(aB.e a0)⟩] [(2,.vc (pP (some b1) 0)),(3,.vc (pP (some b2) 0)),(4,.vc (pP (some b3) 0)),(6,.vc (pS cI a1.d)),(7,.vc (pO b20 x18.length x18.length)),(8,.vc (pI .i64 x36)),(9,.vc (pI .i64 v48)),(10,.vc (pI .i64 x64)),(47,.vc (pS cI a0.d)),(48,.vc (pI .i64 (a0.d.length:Int))),(49,.vc (pI .i64 x36)),(54,.vc (pS cI a1.d)),(55,.vc (pI .i64 (a1.d.length:Int))),(56,.vc (pI .i64 x65))] a w) K (fun a w ⟨_,_,_,hF,_,_⟩=>by cases hF) (fun k a w ⟨x58,x64,x65,hF,q62,hh⟩=>dP ?_ hh) (fun a w hh=>⟨x30,0,0,hL,q34,iF [0,1,2,3] hh⟩)
   rw [gR.eq_2] at hF
   refine go ?_ ?_
   refine aE hF rfl (fun h84 hF=>?_) (fun h84 hF=>?_)
   ·refine go ?_ ?_
    refine aJ ?_
    obtain⟨v85,h86,v87,h88,v89,h90,v91,h92,hF⟩:=bn4 hF
    obtain⟨v93,h94,v95,h96,v97,h98,hF⟩:=bn3 hF
    have hF:=tX h88 hF
    obtain⟨v101,h102,v103,h104,hF⟩:=tY hF
    have hF:=tX h90 hF
    obtain⟨x107,h108,v110,h111,hF⟩:=tY hF
    refine go ?_ ?_
    exact aF (fun a w hh=>⟨x107,v97,v110,hF,(bG h108 q62),iF [0,1,2,3] hh⟩)
   refine bH ?_
   obtain⟨rfl,rfl⟩:=sm2 hF
   exact rO Jj74 ⟨x58,x64,hRl73,q62,rfl,rfl⟩ [0,1,2,3]
  refine bH ?_
  obtain rfl:=iD hF
  exact rO Jj44 ⟨x30,hRl43,q34,rfl,rfl⟩ [0,1,2,3]
 refine go ?_ ?_
 refine vM rfl ?_
 obtain⟨v112,h113,x114,h115,hF⟩:=tY hF
 refine go ?_ ?_
 refine o7 (C:=cI) rfl tyS22 rfl tyZ3 rfl h115 (fun b116=>?_)
 refine go ?_ ?_
 refine aJ (aX (fun H E=>∃(x133:List Int),vH K a0 a1 x133=some r∧x133.length=x114.length∧H=[hO cI b116 x114.length 3 x114.length x133,⟨some b3,1,40,2,1,([pB false]++[pS cI ([]:List Int)])⟩,⟨some b2,1,40,2,1,(aB.e a1)⟩,⟨some b1,1,40,2,1,(aB.e a0)⟩]∧E=[(2,.vc (pP (some b1) 0)),(3,.vc (pP (some b2) 0)),(4,.vc (pP (some b3) 0)),(7,.vc (pO b116 x114.length x114.length))]) ?_ (fun Jj140=>?_))
 ·rintro _ _ ⟨x133,hF,q137,rfl,rfl⟩
  unfold vH at hF
  refine go ?_ ?_
  refine aG (aBe rfl Tryz.underlying4) zU2 ?_
  refine fI ?_
  refine vX 0 [7,98] rfl q137 zU2 rfl ?_
  obtain⟨v141,h142,hF⟩:=bC hF iJ
  exact bQ
 obtain⟨x133',hL,hRl139⟩:=aP hF
 refine dQ (fun k a w=>∃(x126:List Int),∃(x132:Int),kS K a0 a1 k x126 x132=some x133'∧x126.length=x114.length∧hs _ [hO cI b116 x114.length 3 x114.length x126,⟨some b3,1,40,2,1,([pB false]++[pS cI ([]:List Int)])⟩,⟨some b2,1,40,2,1,(aB.e a1)⟩,⟨some b1,1,40,2,1,(aB.e a0)⟩] [(2,.vc (pP (some b1) 0)),(3,.vc (pP (some b2) 0)),(4,.vc (pP (some b3) 0)),(6,.vc (pS cI a1.d)),(7,.vc (pO b116 x114.length x114.length)),(47,.vc (pS cI a0.d)),(48,.vc (pI .i64 (a0.d.length:Int))),(49,.vc (pI .i64 x132))] a w) K (fun a w ⟨_,_,hF,_,_⟩=>by cases hF) (fun k a w ⟨x126,x132,hF,q130,hh⟩=>dP ?_ hh) (fun a w hh=>⟨x114,0,hL,rfl,iF [0,1,2,3] hh⟩)
 rw [kS.eq_2] at hF
 refine go ?_ ?_
 refine aE hF rfl (fun h143 hF=>?_) (fun h143 hF=>?_)
 ·refine go ?_ ?_
  refine aJ ?_
  obtain⟨v144,h145,hF⟩:=aP hF
  refine go ?_ ?_
  refine aJ (aX (fun H E=>∃(x162:List Int),∃(x168:Int),sS K a1 x132 (kS K a0 a1 k) x162 x168=some x133'∧x162.length=x114.length∧H=[hO cI b116 x114.length 3 x114.length x162,⟨some b3,1,40,2,1,([pB false]++[pS cI ([]:List Int)])⟩,⟨some b2,1,40,2,1,(aB.e a1)⟩,⟨some b1,1,40,2,1,(aB.e a0)⟩]∧E=[(2,.vc (pP (some b1) 0)),(3,.vc (pP (some b2) 0)),(4,.vc (pP (some b3) 0)),(6,.vc (pS cI a1.d)),(7,.vc (pO b116 x114.length x114.length)),(8,.vc (pI .i64 x132)),(10,.vc (pI .i64 x168)),(47,.vc (pS cI a0.d)),(48,.vc (pI .i64 (a0.d.length:Int))),(49,.vc (pI .i64 x132))]) ?_ (fun Jj170=>?_))
  ·rintro _ _ ⟨x162,x168,hF,q166,rfl,rfl⟩
   unfold sS at hF
   obtain⟨v171,h172,v173,h174,x175,h176,v178,h179,hF⟩:=bn4 hF
   refine go ?_ ?_
   exact aF (fun a w hh=>⟨x175,v178,hF,(bG h176 q166),iF [0,1,2,3] hh⟩)
  obtain⟨⟨x162',x168'⟩,hL,hRl169⟩:=aP hF
  refine dQ (fun k a w=>∃(x154:List Int),∃(x160:Int),∃(x161:Int),mV K a1 x132 v144 k x154 x160 x161=some (x162',x168')∧x154.length=x114.length∧hs _ [hO cI b116 x114.length 3 x114.length x154,⟨some b3,1,40,2,1,([pB false]++[pS cI ([]:List Int)])⟩,⟨some b2,1,40,2,1,(aB.e a1)⟩,⟨some b1,1,40,2,1,(aB.e a0)⟩] [(2,.vc (pP (some b1) 0)),(3,.vc (pP (some b2) 0)),(4,.vc (pP (some b3) 0)),(6,.vc (pS cI a1.d)),(7,.vc (pO b116 x114.length x114.length)),(8,.vc (pI .i64 x132)),(9,.vc (pI .i64 v144)),(10,.vc (pI .i64 x160)),(47,.vc (pS cI a0.d)),(48,.vc (pI .i64 (a0.d.length:Int))),(49,.vc (pI .i64 x132)),(54,.vc (pS cI a1.d)),(55,.vc (pI .i64 (a1.d.length:Int))),(56,.vc (pI .i64 x161))] a w) K (fun a w ⟨_,_,_,hF,_,_⟩=>by cases hF) (fun k a w ⟨x154,x160,x161,hF,q158,hh⟩=>dP ?_ hh) (fun a w hh=>⟨x126,0,0,hL,q130,iF [0,1,2,3] hh⟩)
  rw [mV.eq_2] at hF
  refine go ?_ ?_
  refine aE hF rfl (fun h180 hF=>?_) (fun h180 hF=>?_)
  ·refine go ?_ ?_
   refine aJ ?_
   obtain⟨v181,h182,v183,h184,v185,h186,v187,h188,hF⟩:=bn4 hF
   obtain⟨v189,h190,v191,h192,v193,h194,hF⟩:=bn3 hF
   have hF:=tX h184 hF
   obtain⟨v197,h198,v199,h200,hF⟩:=tY hF
   have hF:=tX h186 hF
   obtain⟨x203,h204,v206,h207,hF⟩:=tY hF
   refine go ?_ ?_
   exact aF (fun a w hh=>⟨x203,v193,v206,hF,(bG h204 q158),iF [0,1,2,3] hh⟩)
  refine bH ?_
  obtain⟨rfl,rfl⟩:=sm2 hF
  exact rO Jj170 ⟨x154,x160,hRl169,q158,rfl,rfl⟩ [0,1,2,3]
 refine bH ?_
 obtain rfl:=iD hF
 exact rO Jj140 ⟨x126,hRl139,q130,rfl,rfl⟩ [0,1,2,3]
def oW (a0:List Int):Option (Int×Bool):=
 bif((a0.length:Int)==0) then(some (0,true)) else(bif((a0.length:Int)==1) then((bK a0 0).bind fun v3=>some (v3,true)) else(bif((a0.length:Int)==2) then((bK a0 1).bind fun v8=>(aQ (v8*1000000000)).bind fun v10=>(bK a0 0).bind fun v12=>(aQ (v10+v12)).bind fun v14=>some (v14,true)) else(some (0,false))))
theorem wJ {a0:List Int} {r:Int×Bool} (hF:oW a0=some r):Ct Tryz.prog 161 [.vc (pS cI a0)] (.t2 (.vc (pI .i64 r.1)) (.vc (pB r.2))):=by
 unfold oW at hF
 refine aA Tryz.func161 rfl (by kernel_rfl) Tryz.ntmps161 rfl (fun w0 M0=>?_)
 refine go ?_ ?_
 refine aJ (go ?_ ?_)
 refine aE hF rfl (fun h1 hF=>?_) (fun h1 hF=>?_)
 ·exact bQ
 refine go ?_ ?_
 refine aE hF rfl (fun h2 hF=>?_) (fun h2 hF=>?_)
 ·obtain⟨v3,h4,hF⟩:=aP hF
  exact bQ
 refine go ?_ ?_
 refine aE hF rfl (fun h5 hF=>?_) (fun h5 hF=>?_)
 ·refine aD ?_
  obtain⟨v8,h9,hF⟩:=aP hF
  obtain⟨v10,h11,hF⟩:=aP hF
  obtain⟨v12,h13,hF⟩:=aP hF
  obtain⟨v14,h15,hF⟩:=aP hF
  refine dr [0,1,3,7,0,16,48,127,255,511] 10 0 ?_ (fun bs7 G6=>?_)
  refine aU (aH ?_)
  exact bQ
 exact bQ
def rT (K:Nat) (x24:List Int) (x30:Int):Option ((List Int)×Int):=
 some (x24,x30)
def jT (K:Nat) (a0:List Int) (a1:Int):Nat→(List Int)→Int→Int→Option ((List Int)×Int)
 |0,_,_,_=>none
 |k+1,x16,x22,x23=>bif(decide (0≤x23)) then((aQ (x22*1000000000)).bind fun v34=>(bK a0 x23).bind fun v36=>(aQ (v34+v36)).bind fun v38=>(chq v38 a1).bind fun v42=>(zX v38 a1).bind fun v44=>(bK x16 x23).bind fun v46=>(pN x16 x23 v42).bind fun x48=>(aQ (x23-1)).bind fun v52=>jT K a0 a1 k x48 v44 v52) else(some (x16,x22))
def qG (K:Nat) (a0:List Int) (a1:Int):Option ((List Int)×Int):=
 (y5 (a0.length:Int) 0).bind fun x1=>(aQ ((a0.length:Int)-1)).bind fun v6=>(jT K a0 a1 K x1 0 v6).bind fun(x24,x30)=>rT K x24 x30
theorem aAo {K:Nat} {a0:List Int} {a1:Int} {r:(List Int)×Int} (hF:qG K a0 a1=some r):Ct Tryz.prog 171 [.vc (pS cI a0),.vc (pI .i64 a1)] (.t2 (.vc (pS cI r.1)) (.vc (pI .i64 r.2))):=by
 unfold qG at hF
 refine aA Tryz.func171 rfl (by kernel_rfl) Tryz.ntmps171 rfl (fun w0 M0=>?_)
 refine aD (aI (aG (aM (.inr rfl)) ⟨eI cI,trivial⟩ ?_))
 obtain⟨x1,h2,hF⟩:=aP hF
 refine go ?_ ?_
 refine o7 (C:=cI) rfl tyS22 rfl tyZ3 rfl h2 (fun b3=>?_)
 obtain⟨v6,h7,hF⟩:=aP hF
 refine go ?_ ?_
 refine aJ (aX (fun H E=>∃(x24:List Int),∃(x30:Int),rT K x24 x30=some r∧x24.length=x1.length∧H=[hO cI b3 x1.length 3 x1.length x24]∧E=[(6,.vc (pO b3 x1.length x1.length)),(7,.vc (pI .i64 x30))]) ?_ (fun Jj32=>?_))
 ·rintro _ _ ⟨x24,x30,hF,q28,rfl,rfl⟩
  unfold rT at hF
  refine go ?_ ?_
  refine fY (fZ (tC 0 [4,6,36] rfl q28 ⟨rfl,rfl,rfl,trivial⟩ rfl ?_))
  obtain rfl:=iD hF
  exact jL (.inl rfl) Tryz.results171 (.tmp rfl (.tmp rfl .nil)) rfl rfl
 obtain⟨⟨x24',x30'⟩,hL,hRl31⟩:=aP hF
 refine dQ (fun k a w=>∃(x16:List Int),∃(x22:Int),∃(x23:Int),jT K a0 a1 k x16 x22 x23=some (x24',x30')∧x16.length=x1.length∧hs _ [hO cI b3 x1.length 3 x1.length x16] [(0,.vc (pS cI a0)),(1,.vc (pI .i64 a1)),(6,.vc (pO b3 x1.length x1.length)),(7,.vc (pI .i64 x22)),(8,.vc (pI .i64 x23))] a w) K (fun a w ⟨_,_,_,hF,_,_⟩=>by cases hF) (fun k a w ⟨x16,x22,x23,hF,q20,hh⟩=>dP ?_ hh) (fun a w hh=>⟨x1,0,v6,hL,rfl,iF [0] hh⟩)
 rw [jT.eq_2] at hF
 refine go ?_ ?_
 refine aE hF rfl (fun h33 hF=>?_) (fun h33 hF=>?_)
 ·refine go ?_ ?_
  refine aJ ?_
  obtain⟨v34,h35,v36,h37,v38,h39,v42,h43,hF⟩:=bn4 hF
  obtain⟨v44,h45,v46,h47,x48,h49,hF⟩:=bn3 hF
  refine go ?_ ?_
  refine rR (HsM [(0,fun G40=>[hO cI b3 x1.length 3 x1.length x16]),(1,fun G40=>[hO cI b3 x1.length 3 x1.length x48])]) [9] [0,0,0,0,12,0,0,96,31,287,1023] 11 0 [.v (.vc (pO b3 x1.length x1.length)),.v (.vc (pI .i64 x23)),.v (.vc (pI .i64 v38)),.v (.vc (pI .i64 a1)),.v (.vc (pI .i64 v42)),.v (.vc (pI .i64 v38)),.v (.vc (pI .i64 a1)),.v (.vc (pI .i64 v44)),.v (.vc (pE b3 x23 cI.n 0)),.g (fun _ _=>.any),.v (.vc (pI .i64 v44))] aY ⟨d1 0 (aM (.inl rfl)) zU1,d1 0 (aM (.inl rfl)) zU1,d1 0 (aM (.inl rfl)) zU1,d1 0 (aM (.inl rfl)) zU1,d1 0 (aJE rfl h43) zU2,⟨rfl,.run (L:=[0,1]) ⟨fun G40 A=>aM (.inl rfl),fun G40 A=>aM (.inl rfl),trivial⟩ (fun G40=>zU1)⟩,⟨rfl,.run (L:=[0,1]) ⟨fun G40 A=>aM (.inl rfl),fun G40 A=>aM (.inl rfl),trivial⟩ (fun G40=>zU1)⟩,⟨rfl,.run (L:=[0,1]) ⟨fun G40 A=>aFV rfl h45,fun G40 A=>aFV rfl h45,trivial⟩ (fun G40=>zU2)⟩,d1 0 (d7 (C:=cI) 0 rfl tyS22 rfl q20 (aC h47).1 (aC h47).2.1) zU2,⟨rfl,.hvy [0] ⟨fun G40 A=>aB7 (xM 0 rfl rfl h47 h49 tyO3.s),trivial⟩ (fun G40=>zU2)⟩,d1 1 (aM (.inr rfl)) zU1,trivial⟩ (fun bs41 G40=>?_)
  obtain⟨v52,h53,hF⟩:=aP hF
  refine go ?_ ?_
  exact aF (fun a w hh=>⟨x48,v44,v52,hF,(bG h49 q20),iF [0] hh⟩)
 refine bH ?_
 obtain⟨rfl,rfl⟩:=sm2 hF
 exact rO Jj32 ⟨x16,x22,hRl31,q20,rfl,rfl⟩ [0]
def qS (K:Nat) (a0:List Int) (x26:List Int) (x32:Int):Option (List Int):=
 (bK x26 (a0.length:Int)).bind fun v35=>(pN x26 (a0.length:Int) x32).bind fun x37=>some x37
def jB (K:Nat) (a0:List Int) (a1:Int):Nat→(List Int)→Int→Int→Option ((List Int)×Int)
 |0,_,_,_=>none
 |k+1,x18,x24,x25=>bif(decide (x25<(a0.length:Int))) then((bK a0 x25).bind fun v41=>(aQ (v41*a1)).bind fun v43=>(aQ (v43+x24)).bind fun v45=>(zX v45 1000000000).bind fun v47=>(chq v45 1000000000).bind fun v49=>(bK x18 x25).bind fun v51=>(pN x18 x25 v47).bind fun x53=>(aQ (x25+1)).bind fun v56=>jB K a0 a1 k x53 v49 v56) else(some (x18,x24))
def mQ (K:Nat) (a0:List Int) (a1:Int):Option (List Int):=
 (aQ ((a0.length:Int)+1)).bind fun v3=>(y5 v3 0).bind fun x5=>(jB K a0 a1 K x5 0 0).bind fun(x26,x32)=>qS K a0 x26 x32
theorem yY {K:Nat} {a0:List Int} {a1:Int} {r:List Int} (hF:mQ K a0 a1=some r):CtO Tryz.prog 175 [] [.vc (pS cI a0),.vc (pI .i64 a1)] (fun Ho q=>∃b60 c61 n59,r.length=n59∧Ho=[hO cI b60 c61 3 n59 r]∧q=.vc (pO b60 n59 c61)):=by
 unfold mQ at hF
 refine aA Tryz.func175 rfl (by kernel_rfl) Tryz.ntmps175 rfl (fun w0 M0=>?_)
 refine aD (aI (qE cI 3 rfl ?_))
 obtain⟨v3,h4,x5,h6,hF⟩:=tY hF
 refine go ?_ ?_
 refine o7 (C:=cI) rfl tyS22 rfl tyZ3 rfl h6 (fun b7=>?_)
 refine go ?_ ?_
 refine aJ (aX (fun H E=>∃(x26:List Int),∃(x32:Int),qS K a0 x26 x32=some r∧x26.length=x5.length∧H=[hO cI b7 x5.length 3 x5.length x26]∧E=[(0,.vc (pS cI a0)),(5,.vc (pO b7 x5.length x5.length)),(6,.vc (pI .i64 x32))]) ?_ (fun Jj34=>?_))
 ·rintro _ _ ⟨x26,x32,hF,q30,rfl,rfl⟩
  unfold qS at hF
  obtain⟨v35,h36,x37,h38,hF⟩:=tY hF
  refine go ?_ ?_
  refine fY (fZ ?_)
  obtain rfl:=iD hF
  exact aCn (.inl rfl) Tryz.results175 (.tmp rfl .nil) rfl [0] rfl (by decide) ⟨b7,x5.length,x5.length,(bG h38 q30),rfl,rfl⟩
 obtain⟨⟨x26',x32'⟩,hL,hRl33⟩:=aP hF
 refine dQ (fun k a w=>∃(x18:List Int),∃(x24:Int),∃(x25:Int),jB K a0 a1 k x18 x24 x25=some (x26',x32')∧x18.length=x5.length∧hs _ [hO cI b7 x5.length 3 x5.length x18] [(0,.vc (pS cI a0)),(1,.vc (pI .i64 a1)),(5,.vc (pO b7 x5.length x5.length)),(6,.vc (pI .i64 x24)),(14,.vc (pS cI a0)),(15,.vc (pI .i64 (a0.length:Int))),(16,.vc (pI .i64 x25))] a w) K (fun a w ⟨_,_,_,hF,_,_⟩=>by cases hF) (fun k a w ⟨x18,x24,x25,hF,q22,hh⟩=>dP ?_ hh) (fun a w hh=>⟨x5,0,0,hL,rfl,iF [0] hh⟩)
 rw [jB.eq_2] at hF
 refine go ?_ ?_
 refine aE hF rfl (fun h40 hF=>?_) (fun h40 hF=>?_)
 ·refine go ?_ ?_
  refine aJ ?_
  obtain⟨v41,h42,v43,h44,v45,h46,v47,h48,hF⟩:=bn4 hF
  obtain⟨v49,h50,v51,h52,x53,h54,v56,h57,hF⟩:=bn4 hF
  refine go ?_ ?_
  exact aF (fun a w hh=>⟨x53,v49,v56,hF,(bG h54 q22),iF [0] hh⟩)
 refine bH ?_
 obtain⟨rfl,rfl⟩:=sm2 hF
 exact rO Jj34 ⟨x18,x24,hRl33,q22,rfl,rfl⟩ [0]
theorem aCR {K:Nat} {a0:List Int} {a1:Int} {r:List Int} (hF:mQ K a0 a1=some r):Ct Tryz.prog 175 [.vc (pS cI a0),.vc (pI .i64 a1)] (.vc (pS cI r)):=aNa (yY hF)
def sT (K:Nat) (a1:List Int) (v7:Int) (x60:List Int) (x66:List Int):Option ((List Int)×(List Int)):=
 (slL x66 0 (a1.length:Int)).bind fun x74=>(qG K x74 v7).bind fun v76=>some (x60,v76.1)
def rU (K:Nat) (a1:List Int) (x47:List Int) (x59:Int) (v157:Int) (recl72:(List Int)→(List Int)→Int→Option ((List Int)×(List Int))) (x175:List Int) (x181:Int):Option ((List Int)×(List Int)):=
 (aQ (x59+(a1.length:Int))).bind fun v184=>(bK x175 v184).bind fun v186=>(aQ (v186+x181)).bind fun v188=>(bK x175 v184).bind fun v190=>(pN x175 v184 v188).bind fun x192=>(bK x47 x59).bind fun v195=>(pN x47 x59 v157).bind fun x197=>(aQ (x59-1)).bind fun v200=>recl72 x197 x192 v200
def iL (K:Nat) (a1:List Int) (x17:List Int) (x59:Int):Nat→(List Int)→Int→Int→Option ((List Int)×Int)
 |0,_,_,_=>none
 |k+1,x167,x173,x174=>bif(decide (x174<(a1.length:Int))) then((aQ (x174+x59)).bind fun v205=>(bK x167 v205).bind fun v207=>(bK x17 x174).bind fun v209=>(aQ (v207+v209)).bind fun v211=>(aQ (v211+x173)).bind fun v213=>(aQ (x174+x59)).bind fun v215=>(zX v213 1000000000).bind fun v217=>(chq v213 1000000000).bind fun v219=>(bK x167 v215).bind fun v221=>(pN x167 v215 v217).bind fun x223=>(aQ (x174+1)).bind fun v226=>iL K a1 x17 x59 k x223 v219 v226) else(some (x167,x173))
def oJ (K:Nat) (a1:List Int) (x17:List Int) (x47:List Int) (x59:Int) (x113:Int) (recl72:(List Int)→(List Int)→Int→Option ((List Int)×(List Int))) (x132:List Int) (x138:Int):Option ((List Int)×(List Int)):=
 (aQ (x59+(a1.length:Int))).bind fun v141=>(bK x132 v141).bind fun v143=>(aQ (v143-x138)).bind fun v145=>(bK x132 v141).bind fun v147=>(pN x132 v141 v145).bind fun x149=>(aQ (x59+(a1.length:Int))).bind fun v152=>(bK x149 v152).bind fun v154=>bif(decide (v154<0)) then((aQ (x113-1)).bind fun v157=>(iL K a1 x17 x59 K x149 0 0).bind fun(x175,x181)=>rU K a1 x47 x59 v157 recl72 x175 x181) else((bK x47 x59).bind fun v228=>(pN x47 x59 x113).bind fun x230=>(aQ (x59-1)).bind fun v233=>recl72 x230 x149 v233)
def fB (K:Nat) (a1:List Int) (x17:List Int) (x59:Int) (x113:Int):Nat→(List Int)→Int→Int→Option ((List Int)×Int)
 |0,_,_,_=>none
 |k+1,x124,x130,x131=>bif(decide (x131<(a1.length:Int))) then((aQ (x131+x59)).bind fun v238=>(bK x124 v238).bind fun v240=>(bK x17 x131).bind fun v242=>(aQ (x113*v242)).bind fun v244=>(aQ (v240-v244)).bind fun v246=>(aQ (v246-x130)).bind fun v248=>bif(decide (v248<0)) then((aQ (-v248)).bind fun v251=>(aQ (v251+1000000000)).bind fun v253=>(aQ (v253-1)).bind fun v255=>(chq v255 1000000000).bind fun v257=>(aQ (v257*1000000000)).bind fun v259=>(aQ (v248+v259)).bind fun v261=>(aQ (x131+x59)).bind fun v263=>(bK x124 v263).bind fun v265=>(pN x124 v263 v261).bind fun x267=>(aQ (x131+1)).bind fun v270=>fB K a1 x17 x59 x113 k x267 v257 v270) else((aQ (x131+x59)).bind fun v272=>(bK x124 v272).bind fun v274=>(pN x124 v272 v248).bind fun x276=>(aQ (x131+1)).bind fun v279=>fB K a1 x17 x59 x113 k x276 0 v279)) else(some (x124,x130))
def oK (K:Nat) (a1:List Int) (x17:List Int) (x47:List Int) (x53:List Int) (x59:Int) (recl72:(List Int)→(List Int)→Int→Option ((List Int)×(List Int))) (x113:Int):Option ((List Int)×(List Int)):=
 (fB K a1 x17 x59 x113 K x53 0 0).bind fun(x132,x138)=>oJ K a1 x17 x47 x59 x113 recl72 x132 x138
def dU (K:Nat) (a1:List Int) (x17:List Int) (x53:List Int) (x59:Int):Nat→Int→Int→Option Int
 |0,_,_=>none
 |k+1,x111,x112=>bif(decide (1000000000≤x111)) then((aQ (x111-1)).bind fun v284=>(aQ ((a1.length:Int)-1)).bind fun v286=>(bK x17 v286).bind fun v288=>(aQ (x112+v288)).bind fun v290=>bif(decide (1000000000≤v290)) then(some v284) else(dU K a1 x17 x53 x59 k v284 v290)) else((aQ ((a1.length:Int)-2)).bind fun v293=>(bK x17 v293).bind fun v295=>(aQ (x111*v295)).bind fun v297=>(aQ (x112*1000000000)).bind fun v299=>(aQ (x59+(a1.length:Int))).bind fun v301=>(aQ (v301-2)).bind fun v303=>(bK x53 v303).bind fun v305=>(aQ (v299+v305)).bind fun v307=>bif(decide (v307<v297)) then((aQ (x111-1)).bind fun v310=>(aQ ((a1.length:Int)-1)).bind fun v312=>(bK x17 v312).bind fun v314=>(aQ (x112+v314)).bind fun v316=>bif(decide (1000000000≤v316)) then(some v310) else(dU K a1 x17 x53 x59 k v310 v316)) else(some x111))
def eK (K:Nat) (a1:List Int) (x17:List Int):Nat→(List Int)→(List Int)→Int→Option ((List Int)×(List Int))
 |0,_,_,_=>none
 |k+1,x47,x53,x59=>bif(decide (0≤x59)) then((aQ (x59+(a1.length:Int))).bind fun v81=>(bK x53 v81).bind fun v83=>(aQ (v83*1000000000)).bind fun v85=>(aQ (x59+(a1.length:Int))).bind fun v87=>(aQ (v87-1)).bind fun v89=>(bK x53 v89).bind fun v91=>(aQ (v85+v91)).bind fun v93=>(aQ ((a1.length:Int)-1)).bind fun v97=>(bK x17 v97).bind fun v99=>(chq v93 v99).bind fun v101=>(aQ ((a1.length:Int)-1)).bind fun v103=>(bK x17 v103).bind fun v105=>(zX v93 v105).bind fun v107=>(dU K a1 x17 x53 x59 K v101 v107).bind fun x113=>oK K a1 x17 x47 x53 x59 (eK K a1 x17 k) x113) else(some (x47,x53))
def uC (K:Nat) (a0:List Int) (a1:List Int):Option ((List Int)×(List Int)):=
 (aQ ((a1.length:Int)-1)).bind fun v1=>(bK a1 v1).bind fun v3=>(aQ (v3+1)).bind fun v5=>(chq 1000000000 v5).bind fun v7=>(mQ K a0 v7).bind fun v11=>(mQ K a1 v7).bind fun v15=>(slL v15 0 (a1.length:Int)).bind fun x17=>(aQ ((a0.length:Int)-(a1.length:Int))).bind fun v23=>(aQ (v23+1)).bind fun v25=>(y5 v25 0).bind fun x27=>(aQ ((a0.length:Int)-(a1.length:Int))).bind fun v32=>(eK K a1 x17 K x27 v11 v32).bind fun(x60,x66)=>sT K a1 v7 x60 x66
theorem aD1 {K:Nat} {a0:List Int} {a1:List Int} {r:(List Int)×(List Int)} (hF:uC K a0 a1=some r):Ct Tryz.prog 172 [.vc (pS cI a0),.vc (pS cI a1)] (.t2 (.vc (pS cI r.1)) (.vc (pS cI r.2))):=by
 unfold uC at hF
 refine aA Tryz.func172 rfl (by kernel_rfl) Tryz.ntmps172 rfl (fun w0 M0=>?_)
 refine aD (aI (aG (aM (.inr rfl)) ⟨eI cI,trivial⟩ ?_))
 refine aG (aM (.inr rfl)) ⟨eI cI,trivial⟩ ?_
 obtain⟨v1,h2,v3,h4,v5,h6,v7,h8,hF⟩:=bn4 hF
 obtain⟨v11,h12,hF⟩:=aP hF
 obtain⟨v15,h16,hF⟩:=bC hF aCR
 obtain⟨x17,h18,hF⟩:=aP hF
 refine go ?_ ?_
 refine rR (HsM [(0,fun G9=>[]),(1,fun G9=>[hO cI ((G9 2).1) ((G9 2).2) 3 v11.length v11]),(3,fun G9=>[hO cI ((G9 9).1) ((G9 9).2) 3 v11.length v11])]) [2,9] [0,0,3,0,0,31,0,64,255,63,1023] 11 0 [.v (.vc (pS cI a0)),.v (.vc (pI .i64 v7)),.g (fun b c=>.vc (pO b v11.length c)),.v (.vc (pS cI a1)),.v (.vc (pI .i64 v7)),.v (.vc (pS cI v15)),.v (.vc (pS cI a1)),.v (.vc (pI .i64 (a1.length:Int))),.v (.vc (pS cI x17)),.g (fun b c=>.vc (pO b v11.length c)),.v (.vc (pS cI x17))] aY ⟨d1 0 (aM (.inl rfl)) zU1,d1 0 (aM (.inl rfl)) zU1,⟨rfl,.hvy [0] ⟨fun G9 A=>aGF rfl (yY h12) rfl,trivial⟩ (fun G9=>zU2)⟩,⟨rfl,.run (L:=[0,1]) ⟨fun G9 A=>aM (.inl rfl),fun G9 A=>aM (.inl rfl),trivial⟩ (fun G9=>zU1)⟩,⟨rfl,.run (L:=[0,1]) ⟨fun G9 A=>aM (.inl rfl),fun G9 A=>aM (.inl rfl),trivial⟩ (fun G9=>zU1)⟩,d1 1 (bJ rfl h16 rfl) zU2,⟨rfl,.run (L:=[0,1,3]) ⟨fun G9 A=>aM (.inl rfl),fun G9 A=>aM (.inl rfl),fun G9 A=>aM (.inl rfl),trivial⟩ (fun G9=>zU1)⟩,⟨rfl,.run (L:=[0,1,3]) ⟨fun G9 A=>aHt rfl tyS22,fun G9 A=>aHt rfl tyS22,fun G9 A=>aHt rfl tyS22,trivial⟩ (fun G9=>zU1)⟩,⟨rfl,.run (L:=[1,3]) ⟨fun G9 A=>aDP rfl tyS22 h18,fun G9 A=>aDP rfl tyS22 h18,trivial⟩ (fun G9=>zU2)⟩,⟨rfl,.hvy [1] ⟨fun G9 A=>aHv ((G9 2).1) ((G9 2).2) (aM (.inr rfl)),trivial⟩ (fun G9=>zU1)⟩,d1 3 (aM (.inr rfl)) zU1,trivial⟩ (fun bs10 G9=>?_)
 obtain⟨v23,h24,v25,h26,x27,h28,hF⟩:=bn3 hF
 refine go ?_ ?_
 refine o7 (C:=cI) rfl tyS22 rfl tyZ3 rfl h28 (fun b29=>?_)
 have hF:=tX h24 hF
 refine go ?_ ?_
 refine aJ (aX (fun H E=>∃(x60:List Int),∃(x66:List Int),sT K a1 v7 x60 x66=some r∧x60.length=x27.length∧x66.length=v11.length∧H=[hO cI b29 x27.length 3 x27.length x60,hO cI ((G9 9).1) ((G9 9).2) 3 v11.length x66]∧E=[(6,.vc (pI .i64 v7)),(7,.vc (pO ((G9 9).1) v11.length ((G9 9).2))),(9,.vc (pI .i64 (a1.length:Int))),(10,.vc (pO b29 x27.length x27.length))]) ?_ (fun Jj73=>?_))
 ·rintro _ _ ⟨x60,x66,hF,q64,q70,rfl,rfl⟩
  unfold sT at hF
  refine aH (aD (aI (fI ?_)))
  refine fI ?_
  refine vX 1 [7,213] rfl q70 zU2 rfl ?_
  obtain⟨x74,h75,hF⟩:=aP hF
  obtain⟨v76,h77,hF⟩:=bC hF aAo
  refine go ?_ ?_
  refine fY (fZ (tC 0 [4,10,220] rfl q64 ⟨rfl,rfl,rfl,trivial⟩ rfl ?_))
  obtain rfl:=iD hF
  exact jL (.inl rfl) Tryz.results172 (.tmp rfl (.tmp rfl .nil)) rfl rfl
 obtain⟨⟨x60',x66'⟩,hL,hRl72⟩:=aP hF
 refine dQ (fun k a w=>∃(x47:List Int),∃(x53:List Int),∃(x59:Int),eK K a1 x17 k x47 x53 x59=some (x60',x66')∧x47.length=x27.length∧x53.length=v11.length∧hs _ [hO cI b29 x27.length 3 x27.length x47,hO cI ((G9 9).1) ((G9 9).2) 3 v11.length x53] [(6,.vc (pI .i64 v7)),(7,.vc (pO ((G9 9).1) v11.length ((G9 9).2))),(8,.vc (pS cI x17)),(9,.vc (pI .i64 (a1.length:Int))),(10,.vc (pO b29 x27.length x27.length)),(11,.vc (pI .i64 x59))] a w) K (fun a w ⟨_,_,_,hF,_,_,_⟩=>by cases hF) (fun k a w ⟨x47,x53,x59,hF,q51,q57,hh⟩=>dP ?_ hh) (fun a w hh=>⟨x27,v11,v23,hL,rfl,rfl,iF [0,1] hh⟩)
 rw [eK.eq_2] at hF
 refine go ?_ ?_
 refine aE hF rfl (fun h78 hF=>?_) (fun h78 hF=>?_)
 ·refine go ?_ ?_
  refine aJ (aJP (aD ?_))
  obtain⟨v81,h82,hF⟩:=aP hF
  obtain⟨v83,h84,hF⟩:=aP hF
  obtain⟨v85,h86,hF⟩:=aP hF
  have hF:=tX h82 hF
  obtain⟨v89,h90,hF⟩:=aP hF
  obtain⟨v91,h92,hF⟩:=aP hF
  obtain⟨v93,h94,hF⟩:=aP hF
  refine dr [0,0,0,6,15,31,63,0,0,0,768,1792,3968,8064,16383,32767] 16 0 ?_ (fun bs80 G79=>?_)
  have hF:=tX h2 hF
  obtain⟨v99,h100,v101,h102,hF⟩:=tY hF
  have hF:=tX h2 hF
  have hF:=tX h100 hF
  obtain⟨v107,h108,hF⟩:=aP hF
  refine go ?_ ?_
  refine dr [0,0,0,4,14,30,63,0,0,0,512,1792,3840,8064,127,32767] 16 0 ?_ (fun bs96 G95=>?_)
  refine go ?_ ?_
  refine aJ (aX (fun H E=>∃(x113:Int),oK K a1 x17 x47 x53 x59 (eK K a1 x17 k) x113=some (x60',x66')∧H=[hO cI b29 x27.length 3 x27.length x47,hO cI ((G9 9).1) ((G9 9).2) 3 v11.length x53]∧E=[(6,.vc (pI .i64 v7)),(7,.vc (pO ((G9 9).1) v11.length ((G9 9).2))),(8,.vc (pS cI x17)),(9,.vc (pI .i64 (a1.length:Int))),(10,.vc (pO b29 x27.length x27.length)),(11,.vc (pI .i64 x59)),(13,.vc (pI .i64 x113))]) ?_ (fun Jj115=>?_))
  ·rintro _ _ ⟨x113,hF,rfl,rfl⟩
   unfold oK at hF
   refine go ?_ ?_
   refine aJ (aX (fun H E=>∃(x132:List Int),∃(x138:Int),oJ K a1 x17 x47 x59 x113 (eK K a1 x17 k) x132 x138=some (x60',x66')∧x132.length=v11.length∧H=[hO cI b29 x27.length 3 x27.length x47,hO cI ((G9 9).1) ((G9 9).2) 3 v11.length x132]∧E=[(6,.vc (pI .i64 v7)),(7,.vc (pO ((G9 9).1) v11.length ((G9 9).2))),(8,.vc (pS cI x17)),(9,.vc (pI .i64 (a1.length:Int))),(10,.vc (pO b29 x27.length x27.length)),(11,.vc (pI .i64 x59)),(13,.vc (pI .i64 x113)),(15,.vc (pI .i64 x138))]) ?_ (fun Jj140=>?_))
   ·rintro _ _ ⟨x132,x138,hF,q136,rfl,rfl⟩
    unfold oJ at hF
    have hF:=tX h82 hF
    obtain⟨v143,h144,v145,h146,hF⟩:=tY hF
    have hF:=tX h144 hF
    obtain⟨x149,h150,hF⟩:=aP hF
    have hF:=tX h82 hF
    obtain⟨v154,h155,hF⟩:=aP hF
    refine go ?_ ?_
    refine aE hF rfl (fun h156 hF=>?_) (fun h156 hF=>?_)
    ·obtain⟨v157,h158,hF⟩:=aP hF
     refine go ?_ ?_
     refine aJ (aX (fun H E=>∃(x175:List Int),∃(x181:Int),rU K a1 x47 x59 v157 (eK K a1 x17 k) x175 x181=some (x60',x66')∧x175.length=v11.length∧H=[hO cI b29 x27.length 3 x27.length x47,hO cI ((G9 9).1) ((G9 9).2) 3 v11.length x175]∧E=[(6,.vc (pI .i64 v7)),(7,.vc (pO ((G9 9).1) v11.length ((G9 9).2))),(8,.vc (pS cI x17)),(9,.vc (pI .i64 (a1.length:Int))),(10,.vc (pO b29 x27.length x27.length)),(11,.vc (pI .i64 x59)),(13,.vc (pI .i64 v157)),(15,.vc (pI .i64 x181))]) ?_ (fun Jj183=>?_))
     ·rintro _ _ ⟨x175,x181,hF,q179,rfl,rfl⟩
      unfold rU at hF
      have hF:=tX h82 hF
      obtain⟨v186,h187,v188,h189,hF⟩:=tY hF
      have hF:=tX h187 hF
      obtain⟨x192,h193,v195,h196,x197,h198,v200,h201,hF⟩:=bn4 hF
      refine go ?_ ?_
      exact aF (fun a w hh=>⟨x197,x192,v200,hF,(bG h198 q51),(bG h193 q179),iF [0,1] hh⟩)
     obtain⟨⟨x175',x181'⟩,hL,hRl182⟩:=aP hF
     refine dQ (fun k a w=>∃(x167:List Int),∃(x173:Int),∃(x174:Int),iL K a1 x17 x59 k x167 x173 x174=some (x175',x181')∧x167.length=v11.length∧hs _ [hO cI b29 x27.length 3 x27.length x47,hO cI ((G9 9).1) ((G9 9).2) 3 v11.length x167] [(6,.vc (pI .i64 v7)),(7,.vc (pO ((G9 9).1) v11.length ((G9 9).2))),(8,.vc (pS cI x17)),(9,.vc (pI .i64 (a1.length:Int))),(10,.vc (pO b29 x27.length x27.length)),(11,.vc (pI .i64 x59)),(13,.vc (pI .i64 v157)),(15,.vc (pI .i64 x173)),(172,.vc (pI .i64 (a1.length:Int))),(173,.vc (pI .i64 x174))] a w) K (fun a w ⟨_,_,_,hF,_,_⟩=>by cases hF) (fun k a w ⟨x167,x173,x174,hF,q171,hh⟩=>dP ?_ hh) (fun a w hh=>⟨x149,0,0,hL,(bG h150 q136),iF [0,1] hh⟩)
     rw [iL.eq_2] at hF
     refine go ?_ ?_
     refine aE hF rfl (fun h202 hF=>?_) (fun h202 hF=>?_)
     ·refine go ?_ ?_
      refine aJ ?_
      obtain⟨v205,h206,v207,h208,v209,h210,v211,h212,hF⟩:=bn4 hF
      obtain⟨v213,h214,hF⟩:=aP hF
      refine go ?_ ?_
      refine dr [0,0,0,6,15,31,0,0,192,448,1023,0,4095,8191] 14 0 ?_ (fun bs204 G203=>?_)
      have hF:=tX h206 hF
      obtain⟨v217,h218,v219,h220,hF⟩:=tY hF
      have hF:=tX h208 hF
      obtain⟨x223,h224,v226,h227,hF⟩:=tY hF
      refine go ?_ ?_
      exact aF (fun a w hh=>⟨x223,v219,v226,hF,(bG h224 q171),iF [0,1] hh⟩)
     refine bH ?_
     obtain⟨rfl,rfl⟩:=sm2 hF
     exact rO Jj183 ⟨x167,x173,hRl182,q171,rfl,rfl⟩ [0,1]
    obtain⟨v228,h229,x230,h231,v233,h234,hF⟩:=bn3 hF
    refine go ?_ ?_
    exact aF (fun a w hh=>⟨x230,x149,v233,hF,(bG h231 q51),(bG h150 q136),iF [0,1] hh⟩)
   obtain⟨⟨x132',x138'⟩,hL,hRl139⟩:=aP hF
   refine dQ (fun k a w=>∃(x124:List Int),∃(x130:Int),∃(x131:Int),fB K a1 x17 x59 x113 k x124 x130 x131=some (x132',x138')∧x124.length=v11.length∧hs _ [hO cI b29 x27.length 3 x27.length x47,hO cI ((G9 9).1) ((G9 9).2) 3 v11.length x124] [(6,.vc (pI .i64 v7)),(7,.vc (pO ((G9 9).1) v11.length ((G9 9).2))),(8,.vc (pS cI x17)),(9,.vc (pI .i64 (a1.length:Int))),(10,.vc (pO b29 x27.length x27.length)),(11,.vc (pI .i64 x59)),(13,.vc (pI .i64 x113)),(15,.vc (pI .i64 x130)),(117,.vc (pI .i64 (a1.length:Int))),(118,.vc (pI .i64 x131))] a w) K (fun a w ⟨_,_,_,hF,_,_⟩=>by cases hF) (fun k a w ⟨x124,x130,x131,hF,q128,hh⟩=>dP ?_ hh) (fun a w hh=>⟨x53,0,0,hL,q57,iF [0,1] hh⟩)
   rw [fB.eq_2] at hF
   refine go ?_ ?_
   refine aE hF rfl (fun h235 hF=>?_) (fun h235 hF=>?_)
   ·refine go ?_ ?_
    refine aJ ?_
    obtain⟨v238,h239,v240,h241,v242,h243,v244,h245,hF⟩:=bn4 hF
    obtain⟨v246,h247,v248,h249,hF⟩:=tY hF
    refine go ?_ ?_
    refine dr [0,0,0,6,15,31,0,0,0,384,896,1984,4095,0,16383,32767] 16 0 ?_ (fun bs237 G236=>?_)
    refine go ?_ ?_
    refine aE hF rfl (fun h250 hF=>?_) (fun h250 hF=>?_)
    ·obtain⟨v251,h252,v253,h254,v255,h256,v257,h258,hF⟩:=bn4 hF
     obtain⟨v259,h260,v261,h262,hF⟩:=tY hF
     have hF:=tX h239 hF
     have hF:=tX h241 hF
     obtain⟨x267,h268,v270,h271,hF⟩:=tY hF
     refine go ?_ ?_
     exact aF (fun a w hh=>⟨x267,v257,v270,hF,(bG h268 q128),iF [0,1] hh⟩)
    have hF:=tX h239 hF
    have hF:=tX h241 hF
    obtain⟨x276,h277,v279,h280,hF⟩:=tY hF
    refine go ?_ ?_
    exact aF (fun a w hh=>⟨x276,0,v279,hF,(bG h277 q128),iF [0,1] hh⟩)
   refine bH ?_
   obtain⟨rfl,rfl⟩:=sm2 hF
   exact rO Jj140 ⟨x124,x130,hRl139,q128,rfl,rfl⟩ [0,1]
  obtain⟨x113',hL,hRl114⟩:=aP hF
  refine dQ (fun k a w=>∃(x111:Int),∃(x112:Int),dU K a1 x17 x53 x59 k x111 x112=some x113'∧hs _ [hO cI b29 x27.length 3 x27.length x47,hO cI ((G9 9).1) ((G9 9).2) 3 v11.length x53] [(6,.vc (pI .i64 v7)),(7,.vc (pO ((G9 9).1) v11.length ((G9 9).2))),(8,.vc (pS cI x17)),(9,.vc (pI .i64 (a1.length:Int))),(10,.vc (pO b29 x27.length x27.length)),(11,.vc (pI .i64 x59)),(13,.vc (pI .i64 x111)),(14,.vc (pI .i64 x112))] a w) K (fun a w ⟨_,_,hF,_⟩=>by cases hF) (fun k a w ⟨x111,x112,hF,hh⟩=>dP ?_ hh) (fun a w hh=>⟨v101,v107,hL,iF [0,1] hh⟩)
  rw [dU.eq_2] at hF
  refine aD (aD ?_)
  rcases Bool.eq_false_or_eq_true (decide (1000000000≤x111)) with h283|h283
  ·have hF:=rY h283 hF
   refine drb [0,1,3,7,7,7,39,119,247,511,7,1031,7,7,7,24583,57351,126983,258055,523271,1048575,2097151] 22 0 ?_ (fun bs282 G281=>?_)
   refine aU (aH (jS rfl ?_))
   refine fN (aH (aJ ?_))
   obtain⟨v284,h285,hF⟩:=aP hF
   have hF:=tX h2 hF
   have hF:=tX h100 hF
   obtain⟨v290,h291,hF⟩:=aP hF
   refine go ?_ ?_
   refine aE hF rfl (fun h292 hF=>?_) (fun h292 hF=>?_)
   ·refine bH ?_
    obtain rfl:=iD hF
    exact rO Jj115 ⟨v284,hRl114,rfl,rfl⟩ [0,1]
   refine fN (aBc ?_)
   exact aF (fun a w hh=>⟨v284,v290,hF,iF [0,1] hh⟩)
  have hF:=p8 h283 hF
  obtain⟨v293,h294,hF⟩:=aP hF
  obtain⟨v295,h296,hF⟩:=aP hF
  obtain⟨v297,h298,hF⟩:=aP hF
  obtain⟨v299,h300,hF⟩:=aP hF
  have hF:=tX h82 hF
  obtain⟨v303,h304,hF⟩:=aP hF
  obtain⟨v305,h306,hF⟩:=aP hF
  obtain⟨v307,h308,hF⟩:=aP hF
  refine drb [0,1,3,7,7,7,39,119,247,511,7,1031,7,7,7,24583,57351,126983,258055,523271,1048575,2097151] 22 0 ?_ (fun bs282 G281=>?_)
  refine aU (aH (aE hF rfl (fun h309 hF=>?_) (fun h309 hF=>?_)))
  ·refine fN (aH (aJ ?_))
   obtain⟨v310,h311,hF⟩:=aP hF
   have hF:=tX h2 hF
   have hF:=tX h100 hF
   obtain⟨v316,h317,hF⟩:=aP hF
   refine go ?_ ?_
   refine aE hF rfl (fun h318 hF=>?_) (fun h318 hF=>?_)
   ·refine bH ?_
    obtain rfl:=iD hF
    exact rO Jj115 ⟨v310,hRl114,rfl,rfl⟩ [0,1]
   refine fN (aBc ?_)
   exact aF (fun a w hh=>⟨v310,v316,hF,iF [0,1] hh⟩)
  refine bH ?_
  obtain rfl:=iD hF
  exact rO Jj115 ⟨x111,hRl114,rfl,rfl⟩ [0,1]
 refine bH ?_
 obtain⟨rfl,rfl⟩:=sm2 hF
 exact rO Jj73 ⟨x47,x53,hRl72,q51,q57,rfl,rfl⟩ [0,1]
def l5 (K:Nat) (a0:List Int) (a1:List Int):Option (aB×aB):=
 (fJ K a0 a1).bind fun v5=>bif(decide (v5<0)) then((dY K false a0).bind fun v8=>some ((⟨false,([]:List Int)⟩:aB),v8)) else(bif((a1.length:Int)==1) then((bK a1 0).bind fun v11=>(qG K a0 v11).bind fun v13=>(dY K false v13.1).bind fun v15=>(eM false (IntKind.u64.wrap v13.2)).bind fun v17=>some (v15,v17)) else((uC K a0 a1).bind fun v19=>(dY K false v19.1).bind fun v21=>(dY K false v19.2).bind fun v23=>some (v21,v23)))
def mS (K:Nat) (a0:List Int) (a1:List Int):Option (aB×aB):=
 (oW a0).bind fun v25=>bif v25.2 then((oW a1).bind fun v28=>bif v28.2 then((chq v25.1 v28.1).bind fun v33=>(eM false (IntKind.u64.wrap v33)).bind fun v35=>(zX v25.1 v28.1).bind fun v37=>(eM false (IntKind.u64.wrap v37)).bind fun v39=>some (v35,v39)) else(l5 K a0 a1)) else(l5 K a0 a1)
theorem wH {K:Nat} {a0:List Int} {a1:List Int} {r:aB×aB} (hF:mS K a0 a1=some r):Ct Tryz.prog 162 [.vc (pS cI a0),.vc (pS cI a1)] (.t2 (.va (aB.e r.1)) (.va (aB.e r.2))):=by
 unfold mS at hF
 refine aA Tryz.func162 rfl (by kernel_rfl) Tryz.ntmps162 rfl (fun w0 M0=>?_)
 refine aD (aI (aK rfl tyZ40 (fun b1=>?_)))
 refine aK rfl tyZ40 (fun b2=>?_)
 refine aU (aH (aD (yP (fun H E=>l5 K a0 a1=some r∧H=[⟨some b2,1,40,2,1,([pB false]++[pS cI ([]:List Int)])⟩,⟨some b1,1,40,2,1,([pB false]++[pS cI ([]:List Int)])⟩]∧E=[(0,.vc (pS cI a0)),(1,.vc (pS cI a1)),(4,.vc (pP (some b1) 0)),(5,.vc (pP (some b2) 0))]) ?_ (fun Jj4=>?_))))
 ·rintro _ _ ⟨hF,rfl,rfl⟩
  unfold l5 at hF
  obtain⟨v5,h6,hF⟩:=bC hF mP
  refine go ?_ ?_
  refine aE hF rfl (fun h7 hF=>?_) (fun h7 hF=>?_)
  ·refine aD (aI (aG (gH (is:=[]) (xs:=[]) (ps:=[]) rfl tyB40 rfl rfl trivial rfl) trivial ?_))
   obtain⟨v8,h9,hF⟩:=bC hF iJ
   exact bQ
  refine go ?_ ?_
  refine aE hF rfl (fun h10 hF=>?_) (fun h10 hF=>?_)
  ·obtain⟨v11,h12,hF⟩:=aP hF
   obtain⟨v13,h14,hF⟩:=bC hF aAo
   obtain⟨v15,h16,hF⟩:=bC hF iJ
   refine go ?_ ?_
   refine aG (aDq rfl ⟨_,Tryz.underlying3⟩ Tryz.underlying131) zU1 ?_
   obtain⟨v17,h18,hF⟩:=bC hF jV
   exact bQ
  obtain⟨v19,h20,hF⟩:=bC hF aD1
  obtain⟨v21,h22,hF⟩:=bC hF iJ
  obtain⟨v23,h24,hF⟩:=bC hF iJ
  exact bQ
 obtain⟨v25,h26,hF⟩:=bC hF wJ
 refine go ?_ ?_
 refine aE hF rfl (fun h27 hF=>?_) (fun h27 hF=>?_)
 ·obtain⟨v28,h29,hF⟩:=bC hF wJ
  refine go ?_ ?_
  refine aE hF rfl (fun h30 hF=>?_) (fun h30 hF=>?_)
  ·refine aD ?_
   obtain⟨v33,h34,hF⟩:=aP hF
   obtain⟨v35,h36,hF⟩:=bC hF jV
   obtain⟨v37,h38,hF⟩:=aP hF
   obtain⟨v39,h40,hF⟩:=bC hF jV
   refine iV [0,0,3,7,15,0,0,96,224,511,1023,2047] 10 2 [.v (.vc (pI .i64 v25.1)),.v (.vc (pI .i64 v28.1)),.v (.vc (pI .i64 v33)),.v (.vc (pI .u64 (IntKind.u64.wrap v33))),.v (.va (aB.e v35)),.v (.vc (pI .i64 v25.1)),.v (.vc (pI .i64 v28.1)),.v (.vc (pI .i64 v37)),.v (.vc (pI .u64 (IntKind.u64.wrap v37))),.v (.va (aB.e v39))] aY ⟨d0 (aM (.inl rfl)) zU1,d0 (aM (.inl rfl)) zU1,d0 (aJE rfl h34) zU2,⟨rfl,.run (L:=[0]) ⟨fun G31 A=>aDq rfl ⟨_,Tryz.underlying3⟩ Tryz.underlying131,trivial⟩ (fun G31=>zU1)⟩,d0 (bJ rfl h36 rfl) ⟨k_B _,rfl,trivial⟩,d0 (aM (.inl rfl)) zU1,d0 (aM (.inl rfl)) zU1,d0 (aFV rfl h38) zU2,⟨rfl,.run (L:=[0]) ⟨fun G31 A=>aDq rfl ⟨_,Tryz.underlying3⟩ Tryz.underlying131,trivial⟩ (fun G31=>zU1)⟩,d0 (bJ rfl h40 rfl) ⟨k_B _,rfl,trivial⟩,trivial⟩ (fun bs32 G31=>?_)
   exact bQ
  refine fN ?_
  exact rO Jj4 ⟨hF,rfl,rfl⟩ [0,1]
 refine fN ?_
 exact rO Jj4 ⟨hF,rfl,rfl⟩ [0,1]
def vW (K:Nat) (x14:aB):Option aB:=
 some x14
def tV (K:Nat) (x28:Int):Option (LR aB aB):=
 (eM false (IntKind.u64.wrap x28)).bind fun v31=>some (.ret v31)
def kA (K:Nat):Nat→Int→Int→Option Int
 |0,_,_=>none
 |k+1,x26,x27=>bif(decide (0<x27)) then((zX x26 x27).bind fun v36=>kA K k x27 v36) else(some x26)
def iU (K:Nat):Nat→aB→aB→Option (LR aB aB)
 |0,_,_=>none
 |k+1,x12,x13=>bif(decide (0<(x13.d.length:Int))) then((oW x12.d).bind fun v18=>(oW x13.d).bind fun v20=>bif v18.2 then(bif v20.2 then((kA K K v18.1 v20.1).bind fun x28=>tV K x28) else((mS K x12.d x13.d).bind fun v38=>iU K k x13 v38.2)) else((mS K x12.d x13.d).bind fun v44=>iU K k x13 v44.2)) else(some (.go x12))
def tD (K:Nat) (a0:aB) (a1:aB):Option aB:=
 (dY K false a0.d).bind fun v6=>(dY K false a1.d).bind fun v8=>(iU K K v6 v8).bind fun o=>match o with| .ret r=>some r| .go x14=>vW K x14
theorem aBk {K:Nat} {a0:aB} {a1:aB} {r:aB} (hF:tD K a0 a1=some r):Ct Tryz.prog 131 [.va (aB.e a0),.va (aB.e a1)] (.va (aB.e r)):=by
 unfold tD at hF
 refine aA Tryz.func131 rfl (by kernel_rfl) Tryz.ntmps131 rfl (fun w0 M0=>?_)
 refine aD (aI (cP rfl rfl trivial (fun b1=>?_)))
 refine cP rfl rfl trivial (fun b2=>?_)
 refine aK rfl tyZ40 (fun b3=>?_)
 obtain⟨v6,h7,hF⟩:=bC hF iJ
 obtain⟨v8,h9,hF⟩:=bC hF iJ
 refine go ?_ ?_
 refine dr [0,1,3,0,8,31,0,0,255,511] 8 2 ?_ (fun bs5 G4=>?_)
 refine go ?_ ?_
 refine aJ (aX (fun H E=>∃(x14:aB),vW K x14=some r∧H=[⟨some (bs5 6),1,40,2,1,(aB.e x14)⟩,⟨some b3,1,40,2,1,([pB false]++[pS cI ([]:List Int)])⟩]∧E=[(4,.vc (pP (some b3) 0)),(5,.vc (pP (some (bs5 6)) 0))]) ?_ (fun Jj16=>?_))
 ·rintro _ _ ⟨x14,hF,rfl,rfl⟩
  unfold vW at hF
  exact bQ
 obtain⟨ol15,hL,hRl15⟩:=aP hF
 refine dQ (fun k a w=>∃(x12:aB),∃(x13:aB),iU K k x12 x13=some ol15∧hs _ [⟨some (bs5 6),1,40,2,1,(aB.e x12)⟩,⟨some (bs5 7),1,40,2,1,(aB.e x13)⟩,⟨some b3,1,40,2,1,([pB false]++[pS cI ([]:List Int)])⟩] [(4,.vc (pP (some b3) 0)),(5,.vc (pP (some (bs5 6)) 0)),(6,.vc (pP (some (bs5 7)) 0))] a w) K (fun a w ⟨_,_,hF,_⟩=>by cases hF) (fun k a w ⟨x12,x13,hF,hh⟩=>dP ?_ hh) (fun a w hh=>⟨v6,v8,hL,iF [0,1,2] hh⟩)
 rw [iU.eq_2] at hF
 refine go ?_ ?_
 refine aE hF rfl (fun h17 hF=>?_) (fun h17 hF=>?_)
 ·refine fN (aH (aJ ?_))
  obtain⟨v18,h19,hF⟩:=bC hF wJ
  obtain⟨v20,h21,hF⟩:=bC hF wJ
  refine go ?_ ?_
  refine dV hF (fun h22 hF=>?_) (fun h22 hF=>?_)
  ·refine go ?_ ?_
   refine aE hF rfl (fun h23 hF=>?_) (fun h23 hF=>?_)
   ·refine aD (aJ (aX (fun H E=>∃(x28:Int),tV K x28=some ol15∧H=[⟨some b3,1,40,2,1,([pB false]++[pS cI ([]:List Int)])⟩]∧E=[(4,.vc (pP (some b3) 0)),(7,.vc (pI .i64 x28))]) ?_ (fun Jj30=>?_)))
    ·rintro _ _ ⟨x28,hF,rfl,rfl⟩
     unfold tV at hF
     refine go ?_ ?_
     refine aG (aDq rfl ⟨_,Tryz.underlying3⟩ Tryz.underlying131) zU1 ?_
     obtain⟨v31,h32,hF⟩:=bC hF jV
     exact bQ
    obtain⟨x28',hL,hRl29⟩:=aP hF
    refine dQ (fun k a w=>∃(x26:Int),∃(x27:Int),kA K k x26 x27=some x28'∧hs _ [⟨some b3,1,40,2,1,([pB false]++[pS cI ([]:List Int)])⟩] [(4,.vc (pP (some b3) 0)),(7,.vc (pI .i64 x26)),(9,.vc (pI .i64 x27))] a w) K (fun a w ⟨_,_,hF,_⟩=>by cases hF) (fun k a w ⟨x26,x27,hF,hh⟩=>dP ?_ hh) (fun a w hh=>⟨v18.1,v20.1,hL,iF [2] hh⟩)
    rw [kA.eq_2] at hF
    refine go ?_ ?_
    refine aE hF rfl (fun h33 hF=>?_) (fun h33 hF=>?_)
    ·refine fN (aH (aJ ?_))
     obtain⟨v36,h37,hF⟩:=aP hF
     refine dr [0,0,0,6,3,31] 6 0 ?_ (fun bs35 G34=>?_)
     refine aU (aBc ?_)
     exact aF (fun a w hh=>⟨x27,v36,hF,iF [0] hh⟩)
    refine bH ?_
    obtain rfl:=iD hF
    exact rO Jj30 ⟨x26,hRl29,rfl,rfl⟩ [0]
   obtain⟨v38,h39,hF⟩:=bC hF wH
   refine go ?_ ?_
   refine aK rfl tyZ40 (fun b40=>?_)
   refine aK rfl tyZ40 (fun b41=>?_)
   refine go ?_ ?_
   refine rR (HsM [(0,fun G42=>[⟨some b41,1,40,2,1,(aB.e v38.2)⟩,⟨some b40,1,40,2,1,(aB.e v38.1)⟩,⟨some (bs5 6),1,40,2,1,(aB.e x12)⟩,⟨some (bs5 7),1,40,2,1,(aB.e x13)⟩,⟨some b3,1,40,2,1,([pB false]++[pS cI ([]:List Int)])⟩]),(1,fun G42=>[⟨some b41,1,40,2,1,(aB.e v38.2)⟩,⟨some b40,1,40,2,1,(aB.e v38.1)⟩,⟨some (bs5 6),1,40,2,1,(aB.e x13)⟩,⟨some (bs5 7),1,40,2,1,(aB.e x13)⟩,⟨some b3,1,40,2,1,([pB false]++[pS cI ([]:List Int)])⟩])]) [2] [0,0,1,7] 3 1 [.v (.va (aB.e x13)),.v (.va (aB.e v38.2)),.g (fun _ _=>.any)] aY ⟨d1 0 (fF 3 2 rfl rfl rfl rfl (.agg tyA40)) zU1,⟨rfl,.run (L:=[0,1]) ⟨fun G42 A=>fF 0 2 rfl rfl rfl rfl (.agg tyA40),fun G42 A=>fF 0 2 rfl rfl rfl rfl (.agg tyA40),trivial⟩ (fun G42=>zU1)⟩,⟨rfl,.hvy [0] ⟨fun G42 A=>aB7 (t_s 2 rfl rfl rfl tyA40.s),trivial⟩ (fun G42=>zU2)⟩,trivial⟩ (fun bs43 G42=>?_)
   refine go ?_ ?_
   exact aF (fun a w hh=>⟨x13,v38.2,hF,iF [2,3,4] hh⟩)
  refine go ?_ ?_
  refine vM rfl ?_
  obtain⟨v44,h45,hF⟩:=bC hF wH
  refine go ?_ ?_
  refine aK rfl tyZ40 (fun b46=>?_)
  refine aK rfl tyZ40 (fun b47=>?_)
  refine go ?_ ?_
  refine rR (HsM [(0,fun G48=>[⟨some b47,1,40,2,1,(aB.e v44.2)⟩,⟨some b46,1,40,2,1,(aB.e v44.1)⟩,⟨some (bs5 6),1,40,2,1,(aB.e x12)⟩,⟨some (bs5 7),1,40,2,1,(aB.e x13)⟩,⟨some b3,1,40,2,1,([pB false]++[pS cI ([]:List Int)])⟩]),(1,fun G48=>[⟨some b47,1,40,2,1,(aB.e v44.2)⟩,⟨some b46,1,40,2,1,(aB.e v44.1)⟩,⟨some (bs5 6),1,40,2,1,(aB.e x13)⟩,⟨some (bs5 7),1,40,2,1,(aB.e x13)⟩,⟨some b3,1,40,2,1,([pB false]++[pS cI ([]:List Int)])⟩])]) [2] [0,0,1,7] 3 1 [.v (.va (aB.e x13)),.v (.va (aB.e v44.2)),.g (fun _ _=>.any)] aY ⟨d1 0 (fF 3 2 rfl rfl rfl rfl (.agg tyA40)) zU1,⟨rfl,.run (L:=[0,1]) ⟨fun G48 A=>fF 0 2 rfl rfl rfl rfl (.agg tyA40),fun G48 A=>fF 0 2 rfl rfl rfl rfl (.agg tyA40),trivial⟩ (fun G48=>zU1)⟩,⟨rfl,.hvy [0] ⟨fun G48 A=>aB7 (t_s 2 rfl rfl rfl tyA40.s),trivial⟩ (fun G48=>zU2)⟩,trivial⟩ (fun bs49 G48=>?_)
  refine go ?_ ?_
  exact aF (fun a w hh=>⟨x13,v44.2,hF,iF [2,3,4] hh⟩)
 refine bH ?_
 obtain rfl:=iD hF
 exact rO Jj16 ⟨x12,hRl15,rfl,rfl⟩ [0,2]
def lT (K:Nat) (a0:aB) (a1:aB) (x11:aB) (x12:aB):Option (aB×aB):=
 bif(a0.neg != a1.neg) then(some ((⟨(decide (0<(x12.d.length:Int))),x12.d⟩:aB),x11)) else(some ((⟨false,x12.d⟩:aB),x11))
def tE (K:Nat) (a0:aB) (a1:aB):Option (aB×aB):=
 bif((a1.d.length:Int)==0) then(some ((⟨false,([]:List Int)⟩:aB),(⟨false,([]:List Int)⟩:aB))) else((mS K a0.d a1.d).bind fun v6=>bif a0.neg then(bif(decide (0<(v6.2.d.length:Int))) then((o9 K v6.1.d [1]).bind fun v21=>(dY K false v21).bind fun v23=>(mA K a1.d v6.2.d).bind fun v25=>(dY K false v25).bind fun v27=>lT K a0 a1 v27 v23) else(lT K a0 a1 v6.2 v6.1)) else(lT K a0 a1 v6.2 v6.1))
theorem aBo {K:Nat} {a0:aB} {a1:aB} {r:aB×aB} (hF:tE K a0 a1=some r):Ct Tryz.prog 133 [.va (aB.e a0),.va (aB.e a1)] (.t2 (.va (aB.e r.1)) (.va (aB.e r.2))):=by
 unfold tE at hF
 refine aA Tryz.func133 rfl (by kernel_rfl) Tryz.ntmps133 rfl (fun w0 M0=>?_)
 refine aD (aI (cP rfl rfl trivial (fun b1=>?_)))
 refine cP rfl rfl trivial (fun b2=>?_)
 refine aK rfl tyZ40 (fun b3=>?_)
 refine aK rfl tyZ40 (fun b4=>?_)
 refine go ?_ ?_
 refine aE hF rfl (fun h5 hF=>?_) (fun h5 hF=>?_)
 ·refine aD (aI (aG (gH (is:=[]) (xs:=[]) (ps:=[]) rfl tyB40 rfl rfl trivial rfl) trivial ?_))
  refine aG (gH (is:=[]) (xs:=[]) (ps:=[]) rfl tyB40 rfl rfl trivial rfl) trivial ?_
  exact bQ
 obtain⟨v6,h7,hF⟩:=bC hF wH
 refine go ?_ ?_
 refine aK rfl tyZ40 (fun b8=>?_)
 refine aK rfl tyZ40 (fun b9=>?_)
 refine kY (t_s 1 rfl rfl rfl tyA40.s) zU2 ?_
 refine kY (t_s 0 rfl rfl rfl tyA40.s) zU2 ?_
 refine aU (aH (aD (yP (fun H E=>∃(x11:aB),∃(x12:aB),lT K a0 a1 x11 x12=some r∧H=[⟨some b9,1,40,2,1,(aB.e x11)⟩,⟨some b8,1,40,2,1,(aB.e x12)⟩,⟨some b4,1,40,2,1,([pB false]++[pS cI ([]:List Int)])⟩,⟨some b3,1,40,2,1,([pB false]++[pS cI ([]:List Int)])⟩,⟨some b2,1,40,2,1,(aB.e a1)⟩,⟨some b1,1,40,2,1,(aB.e a0)⟩]∧E=[(2,.vc (pP (some b1) 0)),(3,.vc (pP (some b2) 0)),(4,.vc (pP (some b3) 0)),(5,.vc (pP (some b4) 0)),(6,.vc (pP (some b8) 0)),(7,.vc (pP (some b9) 0))]) ?_ (fun Jj13=>?_))))
 ·rintro _ _ ⟨x11,x12,hF,rfl,rfl⟩
  unfold lT at hF
  refine go ?_ ?_
  refine aG (aBe rfl Tryz.underlying4) zU2 ?_
  refine fI ?_
  refine dV hF (fun h14 hF=>?_) (fun h14 hF=>?_)
  ·refine go ?_ ?_
   refine rR (HsM [(0,fun G15=>[⟨some b9,1,40,2,1,(aB.e x11)⟩,⟨some b8,1,40,2,1,([pB (decide (0<(x12.d.length:Int)))]++[pS cI x12.d])⟩,⟨some b4,1,40,2,1,([pB false]++[pS cI ([]:List Int)])⟩,⟨some b3,1,40,2,1,([pB false]++[pS cI ([]:List Int)])⟩,⟨some b2,1,40,2,1,(aB.e a1)⟩,⟨some b1,1,40,2,1,(aB.e a0)⟩]),(1,fun G15=>[⟨some b9,1,40,2,1,(aB.e x11)⟩,⟨some b8,1,40,2,1,([pB (decide (0<(x12.d.length:Int)))]++[pS cI x12.d])⟩,⟨some b4,1,40,2,1,([pB false]++[pS cI ([]:List Int)])⟩,⟨some b3,1,40,2,1,([pB (decide (0<(x12.d.length:Int)))]++[pS cI x12.d])⟩,⟨some b2,1,40,2,1,(aB.e a1)⟩,⟨some b1,1,40,2,1,(aB.e a0)⟩])]) [2] [0,0,1,7] 3 1 [.v (.va ([pB (decide (0<(x12.d.length:Int)))]++[pS cI x12.d])),.v (.va (aB.e x11)),.g (fun _ _=>.any)] aY ⟨d1 0 (fF 1 2 rfl rfl rfl rfl (.agg tyA40)) zU1,⟨rfl,.run (L:=[0,1]) ⟨fun G15 A=>fF 0 2 rfl rfl rfl rfl (.agg tyA40),fun G15 A=>fF 0 2 rfl rfl rfl rfl (.agg tyA40),trivial⟩ (fun G15=>zU1)⟩,⟨rfl,.hvy [0] ⟨fun G15 A=>aB7 (t_s 3 rfl rfl rfl tyA40.s),trivial⟩ (fun G15=>zU2)⟩,trivial⟩ (fun bs16 G15=>?_)
   exact bQ
  refine go ?_ ?_
  refine rR (HsM [(0,fun G17=>[⟨some b9,1,40,2,1,(aB.e x11)⟩,⟨some b8,1,40,2,1,([pB false]++[pS cI x12.d])⟩,⟨some b4,1,40,2,1,([pB false]++[pS cI ([]:List Int)])⟩,⟨some b3,1,40,2,1,([pB false]++[pS cI ([]:List Int)])⟩,⟨some b2,1,40,2,1,(aB.e a1)⟩,⟨some b1,1,40,2,1,(aB.e a0)⟩]),(1,fun G17=>[⟨some b9,1,40,2,1,(aB.e x11)⟩,⟨some b8,1,40,2,1,([pB false]++[pS cI x12.d])⟩,⟨some b4,1,40,2,1,([pB false]++[pS cI ([]:List Int)])⟩,⟨some b3,1,40,2,1,([pB false]++[pS cI x12.d])⟩,⟨some b2,1,40,2,1,(aB.e a1)⟩,⟨some b1,1,40,2,1,(aB.e a0)⟩])]) [2] [0,0,1,7] 3 1 [.v (.va ([pB false]++[pS cI x12.d])),.v (.va (aB.e x11)),.g (fun _ _=>.any)] aY ⟨d1 0 (fF 1 2 rfl rfl rfl rfl (.agg tyA40)) zU1,⟨rfl,.run (L:=[0,1]) ⟨fun G17 A=>fF 0 2 rfl rfl rfl rfl (.agg tyA40),fun G17 A=>fF 0 2 rfl rfl rfl rfl (.agg tyA40),trivial⟩ (fun G17=>zU1)⟩,⟨rfl,.hvy [0] ⟨fun G17 A=>aB7 (t_s 3 rfl rfl rfl tyA40.s),trivial⟩ (fun G17=>zU2)⟩,trivial⟩ (fun bs18 G17=>?_)
  exact bQ
 refine go ?_ ?_
 refine dV hF (fun h19 hF=>?_) (fun h19 hF=>?_)
 ·refine go ?_ ?_
  refine aE hF rfl (fun h20 hF=>?_) (fun h20 hF=>?_)
  ·refine go ?_ ?_
   refine aG (gG (C:=cI) (xs:=[.const (.int .i64 (1))]) (ps:=[.vc (pI .i64 1)]) (zs:=[1]) rfl tyS22 rfl ⟨⟨trivial,rfl⟩,trivial⟩ rfl) ⟨p6 _ _,trivial⟩ ?_
   obtain⟨v21,h22,hF⟩:=bC hF aAW
   refine aG (bJ rfl h22 rfl) zU2 ?_
   obtain⟨v23,h24,hF⟩:=bC hF iJ
   refine aG (bJ rfl h24 rfl) ⟨k_B _,rfl,trivial⟩ ?_
   refine kY (t_s 1 rfl rfl rfl tyA40.s) zU2 ?_
   refine aU (aH (aI (aG (f7 (off:=0) (k:=1) rfl tyF40_1) zU1 ?_)))
   refine aG (fF 4 1 rfl rfl rfl rfl (.one tyO22)) zU1 ?_
   refine aG (f7 (off:=0) (k:=1) rfl tyF40_1) zU1 ?_
   refine aG (fF 0 1 rfl rfl rfl rfl (.one tyO22)) zU1 ?_
   obtain⟨v25,h26,hF⟩:=bC hF w4
   refine aG (bJ rfl h26 rfl) zU2 ?_
   obtain⟨v27,h28,hF⟩:=bC hF iJ
   refine aG (bJ rfl h28 rfl) ⟨k_B _,rfl,trivial⟩ ?_
   refine kY (t_s 0 rfl rfl rfl tyA40.s) zU2 ?_
   refine aU ?_
   exact rO Jj13 ⟨v27,v23,hF,rfl,rfl⟩ [0,1,2,3,4,5]
  refine fN ?_
  exact rO Jj13 ⟨v6.2,v6.1,hF,rfl,rfl⟩ [0,1,2,3,4,5]
 refine go ?_ ?_
 refine vM rfl ?_
 refine fN ?_
 exact rO Jj13 ⟨v6.2,v6.1,hF,rfl,rfl⟩ [0,1,2,3,4,5]
def lU (K:Nat) (a0:aB) (a1:aB):Option Int:=
 bif(a0.neg != a1.neg) then(bif a0.neg then(some (-1)) else(bif(a0.neg != a1.neg) then(some 1) else(bif a0.neg then((fJ K a1.d a0.d).bind fun v7=>some v7) else((fJ K a0.d a1.d).bind fun v9=>some v9)))) else(bif(a0.neg != a1.neg) then(some 1) else(bif a0.neg then((fJ K a1.d a0.d).bind fun v13=>some v13) else((fJ K a0.d a1.d).bind fun v15=>some v15)))
theorem vK {K:Nat} {a0:aB} {a1:aB} {r:Int} (hF:lU K a0 a1=some r):Ct Tryz.prog 135 [.va (aB.e a0),.va (aB.e a1)] (.vc (pI .i64 r)):=by
 unfold lU at hF
 refine aA Tryz.func135 rfl (by kernel_rfl) Tryz.ntmps135 rfl (fun w0 M0=>?_)
 refine aD (aI (cP rfl rfl trivial (fun b1=>?_)))
 refine cP rfl rfl trivial (fun b2=>?_)
 refine go ?_ ?_
 refine aJ (go ?_ ?_)
 refine aG (aBe rfl Tryz.underlying4) zU2 ?_
 refine fI ?_
 refine dV hF (fun h3 hF=>?_) (fun h3 hF=>?_)
 ·refine go ?_ ?_
  refine aE hF rfl (fun h4 hF=>?_) (fun h4 hF=>?_)
  ·exact bQ
  refine go ?_ ?_
  refine aG (aBe rfl Tryz.underlying4) zU2 ?_
  refine go ?_ ?_
  refine aE hF rfl (fun h5 hF=>?_) (fun h5 hF=>?_)
  ·exact bQ
  refine go ?_ ?_
  refine aE hF rfl (fun h6 hF=>?_) (fun h6 hF=>?_)
  ·obtain⟨v7,h8,hF⟩:=bC hF mP
   exact bQ
  obtain⟨v9,h10,hF⟩:=bC hF mP
  exact bQ
 refine go ?_ ?_
 refine vM rfl ?_
 refine go ?_ ?_
 refine aG (aBe rfl Tryz.underlying4) zU2 ?_
 refine go ?_ ?_
 refine aE hF rfl (fun h11 hF=>?_) (fun h11 hF=>?_)
 ·exact bQ
 refine go ?_ ?_
 refine aE hF rfl (fun h12 hF=>?_) (fun h12 hF=>?_)
 ·obtain⟨v13,h14,hF⟩:=bC hF mP
  exact bQ
 obtain⟨v15,h16,hF⟩:=bC hF mP
 exact bQ
def qB (K:Nat):Option Int:=
 some (-1)
def fE (K:Nat) (a0:List Int) (a1:(Int→Option Bool)):Nat→Int→Option (LR Int Unit)
 |0,_=>none
 |k+1,x2=>bif(decide (x2<(a0.length:Int))) then((bK a0 x2).bind fun v6=>(a1 v6).bind fun v8=>bif v8 then(some (.ret x2)) else((aQ (x2+1)).bind fun v11=>fE K a0 a1 k v11)) else(some (.go ()))
def oL (K:Nat) (a0:List Int) (a1:(Int→Option Bool)):Option Int:=
 (fE K a0 a1 K 0).bind fun o=>match o with| .ret r=>some r| .go _=>qB K
theorem aAj {K:Nat} {a0:List Int} {a1:(Int→Option Bool)} {r:Int} (hF:oL K a0 a1=some r):Ct Tryz.prog 173 [.vc (pS cI a0),.vc (pFn Tryz.prog (fun x:Int=>[.vc (pI .i64 x)]) (fun r:Bool=>.vc (pB r)) a1)] (.vc (pI .i64 r)):=by
 unfold oL at hF
 refine aA Tryz.func173 rfl (by kernel_rfl) Tryz.ntmps173 rfl (fun w0 M0=>?_)
 refine go ?_ ?_
 refine aJ (aX (fun H E=>qB K=some r∧H=[]∧E=[]) ?_ (fun Jj4=>?_))
 ·rintro _ _ ⟨hF,rfl,rfl⟩
  unfold qB at hF
  exact bQ
 obtain⟨ol3,hL,hRl3⟩:=aP hF
 refine dQ (fun k a w=>∃(x2:Int),fE K a0 a1 k x2=some ol3∧hs _ [] [(0,.vc (pS cI a0)),(1,.vc (pFn Tryz.prog (fun x:Int=>[.vc (pI .i64 x)]) (fun r:Bool=>.vc (pB r)) a1)),(7,.vc (pI .i64 (a0.length:Int))),(8,.vc (pI .i64 x2))] a w) K (fun a w ⟨_,hF,_⟩=>by cases hF) (fun k a w ⟨x2,hF,hh⟩=>dP ?_ hh) (fun a w hh=>⟨0,hL,iF [] hh⟩)
 rw [fE.eq_2] at hF
 refine go ?_ ?_
 refine aE hF rfl (fun h5 hF=>?_) (fun h5 hF=>?_)
 ·refine go ?_ ?_
  refine aJ ?_
  obtain⟨v6,h7,v8,h9,hF⟩:=tY hF
  refine go ?_ ?_
  refine aG (aCF (pre:=fun x:Int=>[.vc (pI .i64 x)]) (post:=fun r:Bool=>.vc (pB r)) (x:=v6) (r:=v8) rfl h9 rfl) zU2 ?_
  refine aU (aH (aE hF rfl (fun h10 hF=>?_) (fun h10 hF=>?_)))
  ·exact bQ
  obtain⟨v11,h12,hF⟩:=aP hF
  refine go ?_ ?_
  exact aF (fun a w hh=>⟨v11,hF,iF [] hh⟩)
 refine bH ?_
 obtain rfl:=iD hF
 exact rO Jj4 ⟨hRl3,rfl,rfl⟩ []
def jP (K:Nat) (a0:List Int) (a1:(Int→Option Bool)):Option Bool:=
 (oL K a0 a1).bind fun v1=>some (decide (0≤v1))
theorem yW {K:Nat} {a0:List Int} {a1:(Int→Option Bool)} {r:Bool} (hF:jP K a0 a1=some r):Ct Tryz.prog 163 [.vc (pS cI a0),.vc (pFn Tryz.prog (fun x:Int=>[.vc (pI .i64 x)]) (fun r:Bool=>.vc (pB r)) a1)] (.vc (pB r)):=by
 unfold jP at hF
 refine aA Tryz.func163 rfl (by kernel_rfl) Tryz.ntmps163 rfl (fun w0 M0=>?_)
 obtain⟨v1,h2,hF⟩:=bC hF aAj
 exact bQ
def kD (a0:Int):Option Bool:=
 bif(decide (a0<0)) then(some true) else(some (decide (1000000000≤a0)))
theorem aCp {a0:Int} {r:Bool} (hF:kD a0=some r):Ct Tryz.prog 164 [.vc (pI .i64 a0)] (.vc (pB r)):=by
 unfold kD at hF
 refine aA Tryz.func164 rfl (by kernel_rfl) Tryz.ntmps164 rfl (fun w0 M0=>?_)
 refine go ?_ ?_
 refine dV hF (fun h1 hF=>?_) (fun h1 hF=>?_)
 ·exact bQ
 exact bQ
def oE (K:Nat) (a0:aB):Option Bool:=
 (jP K a0.d (kD)).bind fun v2=>bif v2 then(some false) else(bif((a0.d.length:Int)==0) then(bif(!a0.neg) then(some true) else(bif(decide (0<(a0.d.length:Int))) then((aQ ((a0.d.length:Int)-1)).bind fun v8=>(bK a0.d v8).bind fun v10=>some (v10 != 0)) else(some false))) else(bif(decide (0<(a0.d.length:Int))) then((aQ ((a0.d.length:Int)-1)).bind fun v13=>(bK a0.d v13).bind fun v15=>some (v15 != 0)) else(some false)))
theorem aAf {K:Nat} {a0:aB} {r:Bool} (hF:oE K a0=some r):Ct Tryz.prog 137 [.va (aB.e a0)] (.vc (pB r)):=by
 unfold oE at hF
 refine aA Tryz.func137 rfl (by kernel_rfl) Tryz.ntmps137 rfl (fun w0 M0=>?_)
 refine aD (aI (cP rfl rfl trivial (fun b1=>?_)))
 obtain⟨v2,h3,hF⟩:=bC hF yW
 refine go ?_ ?_
 refine aG (bJ rfl h3 rfl) ⟨rfl,(aQK (P:=Tryz.prog) (φ:=(kD)) (pre:=fun x:Int=>[.vc (pI .i64 x)]) (post:=fun r:Bool=>.vc (pB r)) (fun x r h=>aCp h)),trivial⟩ ?_
 refine aU (aH (aE hF rfl (fun h4 hF=>?_) (fun h4 hF=>?_)))
 ·exact bQ
 refine go ?_ ?_
 refine dV hF (fun h5 hF=>?_) (fun h5 hF=>?_)
 ·refine go ?_ ?_
  refine dV hF (fun h6 hF=>?_) (fun h6 hF=>?_)
  ·exact bQ
  refine go ?_ ?_
  refine dV hF (fun h7 hF=>?_) (fun h7 hF=>?_)
  ·obtain⟨v8,h9,v10,h11,hF⟩:=tY hF
   exact bQ
  exact bQ
 refine go ?_ ?_
 refine dV hF (fun h12 hF=>?_) (fun h12 hF=>?_)
 ·obtain⟨v13,h14,v15,h16,hF⟩:=tY hF
  exact bQ
 exact bQ
end Go.Proofs.YtolfcbpgmfbgmaaGreat
set_option linter.unusedVariables false
set_option maxRecDepth 100000
namespace Go.Proofs.YtolfcbpgmfbgmaaGreat
end Go.Proofs.YtolfcbpgmfbgmaaGreat
set_option linter.unusedVariables false
namespace Go.Proofs.YtolfcbpgmfbgmaaGreat
theorem zH {n m:Nat} {x:Int} (h:x=n) (hn:n≤9000000000000000000):aQ x=some (n:Int):=by
 subst h;exact oX ⟨by omega,by omega⟩
theorem bB {k n:Nat} (h:n<k):∃k',k=k'+1∧n≤k':=⟨k-1,by omega,by omega⟩
theorem aBn {u:List Int} {i:Nat} {v:Int} (h:Dr u 0 i) (hl:i<u.length) (h0:0≤v) (h1:v<1000000000):Dr (u.set i v) 0 (i+1):=fun t ht=>by
 by_cases e:t=i
 ·subst e;rw [Nat.zero_add,dN hl];exact⟨h0,h1⟩
 ·rw [eW (by omega)];exact h t (by omega)
def mkG (neg:Bool) (n:Nat):aB:=if n=0 then⟨false,[]⟩ else⟨neg,bP n⟩
theorem nX (n:Nat):mkG false n=Z n:=by
 unfold mkG Z
 by_cases h:n=0
 ·subst h;simp [zO]
 ·rw [if_neg h];simp
theorem aJR (n:Nat):mkG true n=Z (-n):=by
 unfold mkG Z
 by_cases h:n=0
 ·subst h;simp [zO]
 ·rw [if_neg h];simp;omega
theorem uH (b:Bool) (n:Nat):mkG b n=Z (if b then -(n:Int) else n):=by
 cases b
 ·simpa using nX n
 ·simpa using aJR n
theorem aPu (u:List Int):∀(n:Nat),n≤u.length→n≤9000000000000→∃m:Nat,m≤n∧(∀i,m≤i→i<n→u.getD i 0=0)∧(m=0∨u.getD (m-1) 0≠0)∧∀K k,n<k→l9 K u k n=some (m:Int)
 |0,_,_=>⟨0,Nat.le_refl _,fun i _ h=>by omega,.inl rfl,fun K k hk=>by
   obtain⟨k',rfl,_⟩:=bB hk
   simp [l9]⟩
 |n+1,h,hL=>by
  have e1:aQ (((n+1:Nat):Int)-1)=some (n:Int):=zH (m:=0) (by omega) (by omega)
  have e2:decide (0<((n+1:Nat):Int))=true:=decide_eq_true (by omega)
  have e3:=cF (xs:=u) (i:=n) (by omega)
  by_cases h0:u.getD n 0=0
  ·obtain⟨m,h1,h2,h3,h4⟩:=aPu u n (by omega) (by omega)
   refine⟨m,by omega,fun i a b=>?_,h3,fun K k hk=>?_⟩
   ·by_cases e:i=n
    ·subst e;exact h0
    ·exact h2 i a (by omega)
   ·obtain⟨k',rfl,hk'⟩:=bB hk
    simp only [l9,e1,e2,e3,h0,bY,oB,beq_self_eq_true]
    exact h4 K k' (by omega)
  ·refine⟨n+1,by omega,fun i a b=>by omega,.inr (by simpa using h0),fun K k hk=>?_⟩
   obtain⟨k',rfl,hk'⟩:=bB hk
   have e4:(u.getD n 0==0)=false:=by simpa using h0
   simp only [l9,e1,e2,e3,e4,bY,bU,oB]
theorem aR7 {u:List Int} (hd:lG u) {m:Nat} (h1:m≤u.length) (h2:∀i,m≤i→i<u.length→u.getD i 0=0) (h3:m=0∨u.getD (m-1) 0≠0):u.take m=bP (vD u).toNat∧(m=0↔vD u=0):=by
 have hg:∀i,i<m→(u.take m).getD i 0=u.getD i 0:=fun i hi=>by
  simp only [List.getD_eq_getElem?_getD,List.getElem?_take];rw [if_pos hi]
 have hl:(u.take m).length=m:=by simp;omega
 have hok:lG (u.take m):=fun i=>by
  rcases Nat.lt_or_ge i m with h|h
  ·rw [hg i h];exact hd i
  ·rw [uU (by omega)];omega
 have hv:vD (u.take m)=vD u:=by
  unfold vD
  rw [hl]
  obtain⟨c,hc⟩:=Nat.exists_eq_add_of_le h1
  rw [hc,wS,aEc (j:=0+m) (fun i hi=>h2 _ (by omega) (by omega))]
  rw [aCN (v:=u) (k:=0) (fun i hi=>by rw [Nat.zero_add];exact hg i hi)]
  simp
 have ht:Top (u.take m):=by
  rcases h3 with h|h
  ·subst h;exact .inl (by simp)
  ·by_cases h0:m=0
   ·subst h0;exact .inl (by simp)
   ·refine .inr ?_
    rw [hl,hg _ (by omega)];exact h
 have:=aNT hok ht
 rw [hv] at this
 refine⟨this.symm,fun h=>?_,fun h=>?_⟩
 ·subst h
  rw [←hv];simp;rfl
 ·rw [h] at this
  simp only [Int.toNat_zero,zO] at this
  have:(u.take m).length=0:=by rw [←this];rfl
  omega
theorem xT (neg:Bool) {u:List Int} (hd:lG u) (hL:u.length≤9000000000000):Ev (fun K=>dY K neg u) (mkG neg (vD u).toNat):=by
 obtain⟨m,h1,h2,h3,h4⟩:=aPu u u.length (Nat.le_refl _) hL
 obtain⟨h5,h6⟩:=aR7 hd h1 h2 h3
 have hn:=hd.nonneg
 refine⟨u.length+1,fun K hK=>?_⟩
 simp only [dY,h4 K K (by omega),oB,u9]
 unfold mkG
 by_cases h0:m=0
 ·have e:((m:Int)==0)=true:=by simp [h0]
  rw [e,bY,if_pos (by have:=h6.1 h0;omega)]
 ·have e:((m:Int)==0)=false:=by simp [h0]
  rw [e,bU,aGo h1,oB,if_neg (by intro h;exact h0 (h6.2 (by omega))),h5]
theorem aBC {out a b:List Int} {i:Nat} {c c' v:Int} (hl:i<out.length) (hI:W out 0 i+c*PB i=W a 0 i+W b 0 i) (hv:v+1000000000*c'=a.getD i 0+b.getD i 0+c):
  W (out.set i v) 0 (i+1)+c'*PB (i+1)=W a 0 (i+1)+W b 0 (i+1):=by
 rw [dG,dG,dG,Nat.zero_add,dN hl,xZ (.inr (by omega))]
 simp only [PB]
 grind
theorem aBg {a b:List Int} (ha:lG a) (hb:lG b) (hab:b.length≤a.length) (hL:a.length≤9000000000000):∀(t i:Nat) (out:List Int) (c:Int),i+t=a.length→out.length=a.length+1→Dr out 0 i→0≤c→c≤1→W out 0 i+c*PB i=W a 0 i+W b 0 i→
  ∃out' c',out'.length=a.length+1∧Dr out' 0 a.length∧0≤c'∧c'≤1∧W out' 0 a.length+c'*PB a.length=W a 0 a.length+W b 0 a.length∧∀K k,t<k→cV K a b k out c (i:Int)=some (out',c')
 |0,i,out,c,hi,ho,hD,hc0,hc1,hI=>by
  have:i=a.length:=by omega
  subst this
  refine⟨out,c,ho,hD,hc0,hc1,hI,fun K k hk=>?_⟩
  obtain⟨k',rfl,_⟩:=bB hk
  simp [cV]
 |t+1,i,out,c,hi,ho,hD,hc0,hc1,hI=>by
  have ha':=ha i
  have hb':=hb i
  have e1:decide ((i:Int)<(a.length:Int))=true:=decide_eq_true (by omega)
  have e2:=cF (xs:=a) (i:=i) (by omega)
  have e3:aQ ((i:Int)+1)=some ((i+1:Nat):Int):=zH (m:=0) (by omega) (by omega)
  have e4:=cF (xs:=out) (i:=i) (by omega)
  have e5:∀v,pN out (i:Int) v=some (out.set i v):=fun v=>tI (by omega)
  have e6:aQ (a.getD i 0+c)=some (a.getD i 0+c):=oX (by omega)
  have e7:aQ (a.getD i 0+c+b.getD i 0)=some (a.getD i 0+c+b.getD i 0):=oX (by omega)
  have e8:aQ (a.getD i 0+c+b.getD i 0-1000000000)=some (a.getD i 0+c+b.getD i 0-1000000000):=oX (by omega)
  have e9:aQ (a.getD i 0+c-1000000000)=some (a.getD i 0+c-1000000000):=oX (by omega)
  by_cases hbl:i<b.length
  ·have f1:decide ((i:Int)<(b.length:Int))=true:=decide_eq_true (by omega)
   have f2:=cF (xs:=b) (i:=i) hbl
   by_cases hs:1000000000≤a.getD i 0+c+b.getD i 0
   ·obtain⟨o,d,h1,h2,h3,h4,h5,h6⟩:=aBg ha hb hab hL t (i+1) (out.set i (a.getD i 0+c+b.getD i 0-1000000000)) 1 (by omega) (by simpa using ho) (aBn hD (by omega) (by omega) (by omega)) (by omega) (by omega) (aBC (by omega) hI (by omega))
    refine⟨o,d,h1,h2,h3,h4,h5,fun K k hk=>?_⟩
    obtain⟨k',rfl,_⟩:=bB hk
    simp only [cV,e1,e2,e3,e4,e5,e6,e7,e8,f1,f2,decide_eq_true hs,bY,oB]
    exact h6 K k' (by omega)
   ·obtain⟨o,d,h1,h2,h3,h4,h5,h6⟩:=aBg ha hb hab hL t (i+1) (out.set i (a.getD i 0+c+b.getD i 0)) 0 (by omega) (by simpa using ho) (aBn hD (by omega) (by omega) (by omega)) (by omega) (by omega) (aBC (by omega) hI (by omega))
    refine⟨o,d,h1,h2,h3,h4,h5,fun K k hk=>?_⟩
    obtain⟨k',rfl,_⟩:=bB hk
    simp only [cV,e1,e2,e3,e4,e5,e6,e7,f1,f2,decide_eq_false hs,bY,bU,oB]
    exact h6 K k' (by omega)
  ·have f1:decide ((i:Int)<(b.length:Int))=false:=decide_eq_false (by omega)
   have f2:b.getD i 0=0:=uU (by omega)
   by_cases hs:1000000000≤a.getD i 0+c
   ·obtain⟨o,d,h1,h2,h3,h4,h5,h6⟩:=aBg ha hb hab hL t (i+1) (out.set i (a.getD i 0+c-1000000000)) 1 (by omega) (by simpa using ho) (aBn hD (by omega) (by omega) (by omega)) (by omega) (by omega) (aBC (by omega) hI (by omega))
    refine⟨o,d,h1,h2,h3,h4,h5,fun K k hk=>?_⟩
    obtain⟨k',rfl,_⟩:=bB hk
    simp only [cV,e1,e2,e3,e4,e5,e6,e9,f1,decide_eq_true hs,bY,bU,oB]
    exact h6 K k' (by omega)
   ·obtain⟨o,d,h1,h2,h3,h4,h5,h6⟩:=aBg ha hb hab hL t (i+1) (out.set i (a.getD i 0+c)) 0 (by omega) (by simpa using ho) (aBn hD (by omega) (by omega) (by omega)) (by omega) (by omega) (aBC (by omega) hI (by omega))
    refine⟨o,d,h1,h2,h3,h4,h5,fun K k hk=>?_⟩
    obtain⟨k',rfl,_⟩:=bB hk
    simp only [cV,e1,e2,e3,e4,e5,e6,f1,decide_eq_false hs,bY,bU,oB]
    exact h6 K k' (by omega)
theorem aGQ (n j m:Nat):Dr (List.replicate n 0) j m:=fun i _=>by
 simp only [List.getD_eq_getElem?_getD,List.getElem?_replicate];split<;>simp
theorem aKE {a b:List Int} (ha:lG a) (hb:lG b) (hab:b.length≤a.length) (hL:a.length≤60000000000):∃r,lG r∧r.length=a.length+1∧vD r=vD a+vD b∧Ev (fun K=>nU K a b) r:=by
 obtain⟨o,c,h1,h2,h3,h4,h5,h6⟩:=aBg ha hb hab (by omega) a.length 0 (List.replicate (a.length+1) 0) 0 (by omega) (by simp) (aGQ _ _ _) (by omega) (by omega) (by simp [W])
 have e1:aQ ((a.length:Int)+1)=some ((a.length+1:Nat):Int):=zH (m:=0) (by omega) (by omega)
 have e2:y5 ((a.length+1:Nat):Int) (0:Int)=some (List.replicate (a.length+1) 0):=aAG (by omega)
 refine⟨o.set a.length c,Dr.ok ?_,by simpa using h1,?_,⟨a.length+1,fun K hK=>?_⟩⟩
 ·rw [show(o.set a.length c).length=a.length+1 by simpa using h1]
  exact aBn h2 (by omega) (by omega) (by omega)
 ·unfold vD
  rw [show(o.set a.length c).length=a.length+1 by simpa using h1,dG,Nat.zero_add,dN (by omega),xZ (.inr (by omega)),h5,aAT hab]
 ·have h6':=h6 K K (by omega)
  simp only [Int.natCast_zero] at h6'
  simp only [nU,e1,e2,oB,h6',sR,cF (xs:=o) (i:=a.length) (by omega),tI (xs:=o) (i:=a.length) (v:=c) (by omega)]
theorem aHy {a b:List Int} (ha:lG a) (hb:lG b) (hL:a.length≤60000000000) (hM:b.length≤60000000000):∃r,lG r∧r.length≤max a.length b.length+1∧vD r=vD a+vD b∧Ev (fun K=>o9 K a b) r:=by
 by_cases h:a.length<b.length
 ·obtain⟨r,h1,h2,h3,h4⟩:=aKE hb ha (by omega) hM
  refine⟨r,h1,by omega,by omega,h4.congr fun K=>?_⟩
  simp only [o9,show decide ((a.length:Int)<(b.length:Int))=true from decide_eq_true (by omega),bY]
 ·obtain⟨r,h1,h2,h3,h4⟩:=aKE ha hb (by omega) hL
  refine⟨r,h1,by omega,by omega,h4.congr fun K=>?_⟩
  simp only [o9,show decide ((a.length:Int)<(b.length:Int))=false from decide_eq_false (by omega),bU]
end Go.Proofs.YtolfcbpgmfbgmaaGreat
set_option linter.unusedVariables false
namespace Go.Proofs.YtolfcbpgmfbgmaaGreat
theorem dT {p:Prop} [Decidable p] (h:p):decide p=true:=decide_eq_true h
theorem dF {p:Prop} [Decidable p] (h:¬p):decide p=false:=decide_eq_false h
theorem nT {x y:Int} (h:x≠y):(x != y)=true:=bne_iff_ne.2 h
theorem nF {x y:Int} (h:x=y):(x != y)=false:=by subst h;exact bne_self_eq_false x
theorem qT {x y:Int} (h:x=y):(x==y)=true:=beq_iff_eq.2 h
theorem qF {x y:Int} (h:x≠y):(x==y)=false:=beq_false_of_ne h
theorem aNn {u:List Int} {k n:Nat} {v:Int} (h:k<n) (hl:k<u.length):W (u.set k v) 0 n=W u 0 n+(v-u.getD k 0)*PB k:=by
 obtain⟨c,rfl⟩:=Nat.exists_eq_add_of_le h
 rw [wS,wS,dG,dG,Nat.zero_add,dN hl,xZ (.inr (by omega)),xZ (.inl (by omega))]
 grind
theorem aNU {n:Nat} {a:List Int} (h:n=a.length):cpL (List.replicate n 0) a=a:=by
 subst h;simp [cpL]
theorem aDj {a b x1:List Int} (ha:lG a) (hb:lG b) (hbl:b.length≤a.length) (hv:vD b≤vD a) (hL:a.length≤9000000000000) (hx:(cpL x1 a).length=a.length):∀(t i:Nat) (out:List Int),i+t=a.length→out.length=a.length→Dr out 0 i→
  (∀s,i<s→out.getD s 0=a.getD s 0)→a.getD i 0-1≤out.getD i 0→out.getD i 0≤a.getD i 0→W out 0 a.length+W b 0 i=vD a→
  ∃r,r.length=a.length∧lG r∧vD r=vD a-vD b∧∀K k,t<k→dS K a b x1 k out (i:Int)=some r
 |0,i,out,hi,ho,hD,hs,h1,h2,hW=>by
  have:i=a.length:=by omega
  subst this
  refine⟨out,ho,Dr.ok (by rwa [ho]),?_,fun K k hk=>?_⟩
  ·unfold vD
   rw [ho]
   rw [aAT hbl] at hW
   have e1:vD b=W b 0 b.length:=rfl
   have e2:vD a=W a 0 a.length:=rfl
   omega
  ·obtain⟨k',rfl,_⟩:=bB hk
   simp [dS,hx]
 |t+1,i,out,hi,ho,hD,hs,h1,h2,hW=>by
  have ha':=ha i
  have hb':=hb i
  have e1:decide ((i:Int)<((cpL x1 a).length:Int))=true:=dT (by omega)
  have e3:aQ ((i:Int)+1)=some ((i+1:Nat):Int):=zH (m:=0) (by omega) (by omega)
  have key:∀o:List Int,o.length=a.length→Dr o 0 i→(∀s,i<s→o.getD s 0=a.getD s 0)→o.getD i 0=out.getD i 0-b.getD i 0→W o 0 a.length+W b 0 (i+1)=vD a→
    ∃r,r.length=a.length∧lG r∧vD r=vD a-vD b∧∀K k,t≤k→t<k→jW K (i:Int) (dS K a b x1 k) o=some r:=by
   intro o hlo hDo hso hoi hWo
   have e2:=cF (xs:=o) (i:=i) (by omega)
   by_cases hneg:o.getD i 0<0
   ·have e4:aQ (o.getD i 0+1000000000)=some (o.getD i 0+1000000000):=oX (by omega)
    have hlt:i+1<a.length:=by
     rcases Nat.lt_or_ge (i+1) a.length with h|h
     ·exact h
     ·exfalso
      have hia:a.length=i+1:=by omega
      have w1:=(aAD hDo).2
      rw [hia] at hWo
      rw [dG,Nat.zero_add] at hWo
      have w2:vD b=W b 0 (i+1):=by rw [aAT (n:=i+1) (by omega)]
      have hp:=rX i
      have:o.getD i 0*PB i≤(-1)*PB i:=Int.mul_le_mul_of_nonneg_right (by omega) (by omega)
      have hbn:=hb.nonneg
      omega
    have e5:pN o (i:Int) (o.getD i 0+1000000000)=some (o.set i (o.getD i 0+1000000000)):=tI (by omega)
    have e6:bK (o.set i (o.getD i 0+1000000000)) ((i+1:Nat):Int)=some (a.getD (i+1) 0):=by
     rw [cF (by simp;omega),eW (by omega),hso _ (by omega)]
    have ha2:=ha (i+1)
    have e7:aQ (a.getD (i+1) 0-1)=some (a.getD (i+1) 0-1):=oX (by omega)
    have e8:pN (o.set i (o.getD i 0+1000000000)) ((i+1:Nat):Int) (a.getD (i+1) 0-1)=some ((o.set i (o.getD i 0+1000000000)).set (i+1) (a.getD (i+1) 0-1)):=tI (by simp;omega)
    obtain⟨r,g1,g2,g3,g4⟩:=aDj ha hb hbl hv hL hx t (i+1) ((o.set i (o.getD i 0+1000000000)).set (i+1) (a.getD (i+1) 0-1)) (by omega) (by simpa using hlo)
     (fun s hs'=>by
      rw [eW (by omega)]
      exact aBn hDo (by omega) (by omega) (by omega) s hs')
     (fun s hs'=>by rw [eW (by omega),eW (by omega),hso s (by omega)])
     (by rw [dN (by simp;omega)];omega) (by rw [dN (by simp;omega)];omega)
     (by
      rw [aNn (k:=i+1) (by omega) (by simp;omega),aNn (k:=i) (by omega) (by omega),eW (by omega),hso (i+1) (by omega)]
      simp only [PB] at *
      have:o.getD i 0+1000000000-o.getD i 0=1000000000:=by omega
      rw [this]
      have:a.getD (i+1) 0-1-a.getD (i+1) 0=-1:=by omega
      rw [this]
      omega)
    refine⟨r,g1,g2,g3,fun K k hk hk'=>?_⟩
    simp only [jW,e2,e3,e4,e5,e6,e7,e8,dT hneg,bY,oB]
    exact g4 K k hk'
   ·obtain⟨r,g1,g2,g3,g4⟩:=aDj ha hb hbl hv hL hx t (i+1) o (by omega) hlo (fun s hs'=>by
      by_cases e:s=i
      ·subst e;rw [Nat.zero_add];omega
      ·exact hDo s (by omega)) (fun s hs'=>hso s (by omega)) (by rw [hso _ (by omega)];omega) (by rw [hso _ (by omega)];omega) hWo
    refine⟨r,g1,g2,g3,fun K k hk hk'=>?_⟩
    simp only [jW,e2,e3,dF hneg,bU,oB]
    exact g4 K k hk'
  by_cases hib:i<b.length
  ·have f1:decide ((i:Int)<(b.length:Int))=true:=dT (by omega)
   have f2:=cF (xs:=b) (i:=i) hib
   have f3:=cF (xs:=out) (i:=i) (by omega)
   have f4:aQ (out.getD i 0-b.getD i 0)=some (out.getD i 0-b.getD i 0):=oX (by omega)
   have f5:pN out (i:Int) (out.getD i 0-b.getD i 0)=some (out.set i (out.getD i 0-b.getD i 0)):=tI (by omega)
   obtain⟨r,g1,g2,g3,g4⟩:=key (out.set i (out.getD i 0-b.getD i 0)) (by simpa using ho) (fun s hs'=>by rw [eW (by omega)];exact hD s hs') (fun s hs'=>by rw [eW (by omega)];exact hs s hs') (dN (by omega)) (by
    rw [aNn (by omega) (by omega),dG,Nat.zero_add]
    have:(out.getD i 0-b.getD i 0-out.getD i 0)=- b.getD i 0:=by omega
    rw [this,Int.neg_mul]
    omega)
   refine⟨r,g1,g2,g3,fun K k hk=>?_⟩
   obtain⟨k',rfl,_⟩:=bB hk
   simp only [dS,e1,f1,f2,f3,f4,f5,bY,oB]
   exact g4 K k' (by omega) (by omega)
  ·have f1:decide ((i:Int)<(b.length:Int))=false:=dF (by omega)
   have f2:b.getD i 0=0:=uU (by omega)
   obtain⟨r,g1,g2,g3,g4⟩:=key out ho hD hs (by omega) (by rw [dG,Nat.zero_add,f2];omega)
   refine⟨r,g1,g2,g3,fun K k hk=>?_⟩
   obtain⟨k',rfl,_⟩:=bB hk
   simp only [dS,e1,f1,bY,bU]
   exact g4 K k' (by omega) (by omega)
theorem aDM {a b:List Int} (ha:lG a) (hb:lG b) (hbl:b.length≤a.length) (hv:vD b≤vD a) (hL:a.length≤60000000000):
  ∃r,r.length=a.length∧lG r∧vD r=vD a-vD b∧Ev (fun K=>mA K a b) r:=by
 have e1:y5 (a.length:Int) (0:Int)=some (List.replicate a.length 0):=aAG (by omega)
 have e2:cpL (List.replicate a.length 0) a=a:=aNU rfl
 obtain⟨r,g1,g2,g3,g4⟩:=aDj (x1:=List.replicate a.length 0) ha hb hbl hv (by omega) (by rw [e2]) a.length 0 a (by omega) rfl (fun s h=>by omega) (fun s h=>rfl) (by omega) (by omega) (by simp [W])
 refine⟨r,g1,g2,g3,⟨a.length+1,fun K hK=>?_⟩⟩
 have h:=g4 K K (by omega)
 simp only [Int.natCast_zero] at h
 simp only [mA,e1,e2,oB,h,rV]
theorem aGg (x y:Int):gX x y=some (if x<y then -1 else if y<x then 1 else 0):=by
 unfold gX mI
 have e1:(x != x)=false:=by simp
 have e2:(y != y)=false:=by simp
 simp only [e1,e2,oB,bU]
 by_cases h:x<y
 ·rw [dT h,bY,if_pos h]
 ·rw [dF h,bU,if_neg h]
  by_cases h2:y<x
  ·rw [dT h2,bY,if_pos h2]
  ·rw [dF h2,bU,if_neg h2]
theorem aKG {u v:List Int} {n:Nat} (hu:lG u) (hv:lG v) (h:u.getD n 0<v.getD n 0):W u 0 (n+1)<W v 0 (n+1):=by
 rw [dG,dG,Nat.zero_add]
 have h1:=(aAD (hu.dr 0 n)).2
 have h2:=(aAD (hv.dr 0 n)).1
 have hp:=rX n
 have:(u.getD n 0+1)*PB n≤v.getD n 0*PB n:=Int.mul_le_mul_of_nonneg_right (by omega) (by omega)
 rw [Int.add_mul] at this
 omega
def yU (x y:Int):Int:=if x<y then -1 else if y<x then 1 else 0
theorem aE6 {u v:List Int} (hu:lG u) (hv:lG v) (hl:u.length=v.length) (hL:u.length≤9000000000000):∀(j:Nat),j≤u.length→∀K k,j<k→
  fS K u v k ((j:Int)-1)=some (if W u 0 j<W v 0 j then .ret (-1) else if W v 0 j<W u 0 j then .ret 1 else .go ())
 |0,_,K,k,hk=>by
  obtain⟨k',rfl,_⟩:=bB hk
  simp [fS,W]
 |j+1,hj,K,k,hk=>by
  obtain⟨k',rfl,hk'⟩:=bB hk
  have e0:((j+1:Nat):Int)-1=(j:Int):=by omega
  have e1:decide (0≤(j:Int))=true:=dT (by omega)
  have e2:=cF (xs:=u) (i:=j) (by omega)
  have e3:=cF (xs:=v) (i:=j) (by omega)
  rw [e0]
  rcases Int.lt_trichotomy (u.getD j 0) (v.getD j 0) with h|h|h
  ·have:=aKG hu hv h
   have e4:(u.getD j 0 != v.getD j 0)=true:=nT (by omega)
   simp only [fS,e1,e2,e3,e4,bY,oB,aGg]
   rw [if_pos h,if_pos this]
  ·have e4:(u.getD j 0 != v.getD j 0)=false:=nF h
   have e5:aQ ((j:Int)-1)=some ((j:Int)-1):=oX (by omega)
   have ih:=aE6 hu hv hl hL j (by omega) K k' (by omega)
   have c1:(W u 0 (j+1)<W v 0 (j+1))↔(W u 0 j<W v 0 j):=by rw [dG,dG,Nat.zero_add,h];omega
   have c2:(W v 0 (j+1)<W u 0 (j+1))↔(W v 0 j<W u 0 j):=by rw [dG,dG,Nat.zero_add,h];omega
   simp only [fS,e1,e2,e3,e4,e5,bY,bU,oB,c1,c2]
   exact ih
  ·have:=aKG hv hu h
   have e4:(u.getD j 0 != v.getD j 0)=true:=nT (by omega)
   simp only [fS,e1,e2,e3,e4,bY,oB,aGg]
   rw [if_neg (by omega),if_pos h,if_neg (by omega),if_pos this]
theorem aGE {u v:List Int} (hu:lG u) (hv:lG v) (tv:Top v) (h:u.length<v.length):vD u<vD v:=by
 have h1:=hu.lt
 have h2:=tv.pos hv (by intro e;subst e;simp at h)
 have h3:=aCG (a:=u.length) (b:=v.length-1) (by omega)
 omega
theorem zP {u v:List Int} (hu:lG u) (hv:lG v) (tu:Top u) (tv:Top v) (hL:u.length≤9000000000000):Ev (fun K=>fJ K u v) (yU (vD u) (vD v)):=by
 refine⟨u.length+1,fun K hK=>?_⟩
 by_cases h:u.length=v.length
 ·have e1:((u.length:Int) != (v.length:Int))=false:=nF (by omega)
  have e2:aQ ((u.length:Int)-1)=some ((u.length:Int)-1):=oX (by omega)
  have e3:=aE6 hu hv h hL u.length (Nat.le_refl _) K K (by omega)
  simp only [fJ,e1,e2,e3,bU,oB]
  unfold yU vD
  rw [←h]
  by_cases h1:W u 0 u.length<W v 0 u.length
  ·rw [if_pos h1,if_pos h1]
  ·rw [if_neg h1,if_neg h1]
   by_cases h2:W v 0 u.length<W u 0 u.length
   ·rw [if_pos h2,if_pos h2]
   ·rw [if_neg h2,if_neg h2];rfl
 ·have e1:((u.length:Int) != (v.length:Int))=true:=nT (by omega)
  simp only [fJ,e1,bY,oB,aGg]
  unfold yU
  rcases Nat.lt_or_ge u.length v.length with h1|h1
  ·have:=aGE hu hv tv h1
   rw [if_pos (by omega),if_pos this]
  ·have:=aGE hv hu tu (by omega)
   rw [if_neg (by omega),if_pos (by omega),if_neg (by omega),if_pos this]
theorem aEV {x y:Int} (h1:0≤x) (h2:x<1000000000) (h3:0≤y) (h4:y<1000000000):0≤x*y∧x*y≤999999998000000001:=by
 refine⟨Int.mul_nonneg h1 h3,?_⟩
 have:x*y≤999999999*999999999:=Int.mul_le_mul (by omega) (by omega) h3 (by omega)
 omega
theorem W1 (u:List Int) (j:Nat):W u j 1=u.getD j 0:=by simp [W,PB]
theorem W2 (u:List Int) (j:Nat):W u j 2=u.getD j 0+u.getD (j+1) 0*1000000000:=by simp [W,PB]
theorem vD0:vD []=0:=rfl
theorem vD1 (a:Int):vD [a]=a:=by show W _ 0 1=a;rw [W1];rfl
theorem vD2 (a b:Int):vD [a,b]=a+b*1000000000:=by show W _ 0 2=_;rw [W2];rfl
theorem aBS {u:List Int} (hu:lG u):oW u=some (if u.length≤2 then(vD u,true) else(0,false)):=by
 unfold oW
 have h0:=hu 0
 have h1:=hu 1
 match u,hu with
 |[],_=>simp [vD0]
 |[a],_=>
  have e:=cF (xs:=[a]) (i:=0) (by simp)
  simp only [Int.natCast_zero] at e
  simp [e,vD1]
 |[a,b],_=>
  simp at h0 h1
  have e:=cF (xs:=[a,b]) (i:=0) (by simp)
  have e':=cF (xs:=[a,b]) (i:=1) (by simp)
  simp only [Int.natCast_zero,Int.natCast_one] at e e'
  have f1:aQ (b*1000000000)=some (b*1000000000):=oX (by omega)
  have f2:aQ (b*1000000000+a)=some (b*1000000000+a):=oX (by omega)
  simp [e,e',vD2,f1,f2]
  omega
 |a::b::c::t,_=>
  have e1:(((a::b::c::t).length:Int)==0)=false:=qF (by simp;omega)
  have e2:(((a::b::c::t).length:Int)==1)=false:=qF (by simp;omega)
  have e3:(((a::b::c::t).length:Int)==2)=false:=qF (by simp;omega)
  simp only [e1,e2,e3,bU]
  rw [if_neg (by simp)]
theorem aPv {x:Int} (h0:0≤x) (h1:x≤18446744073709551615):wu x=x:=IntWalk.u64_in x ⟨h0,h1⟩
theorem aPm {x y:Int} (h0:0≤x) (h1:0<y) (h2:x≤18446744073709551615):uq x y=some (x/y):=by
 unfold uq
 rw [if_neg (by omega),Int.tdiv_eq_ediv_of_nonneg h0]
 have a:=Int.ediv_nonneg h0 (Int.le_of_lt h1)
 have b:=Int.ediv_le_self y h0
 rw [aPv a (by omega)]
theorem aJy {n:Nat} (h0:n≠0) (h:n<1000000000):bP n=[(n:Int)]:=by
 rw [v0 h0,show n/1000000000=0 by omega,zO,show n%1000000000=n by omega]
theorem sI (neg:Bool) {n:Nat} (h:n≤18446744073709551615):eM neg (n:Int)=some (mkG neg n):=by
 unfold eM mkG
 have i64:∀x:Int,0≤x→x≤9223372036854775807→IntKind.i64.wrap x=x:=fun x a b=>IntWalk.i64_in x ⟨by omega,b⟩
 by_cases h0:n=0
 ·subst h0;simp
 ·have e0:((n:Int)==0)=false:=qF (by omega)
  rw [e0,bU,if_neg h0]
  by_cases h1:n<1000000000
  ·rw [dT (by omega),bY,aJy h0 h1,i64 _ (by omega) (by omega)]
  ·rw [dF (by omega),bU,v0 h0]
   have q1:uq (n:Int) 1000000000=some ((n:Int)/1000000000):=aPm (by omega) (by omega) (by omega)
   have r1:zX (n:Int) 1000000000=some ((n:Int)%1000000000):=tG (by omega) (by omega)
   by_cases h2:n<1000000000000000000
   ·rw [dT (by omega),bY]
    simp only [q1,r1,oB]
    rw [aJy (n:=n/1000000000) (by omega) (by omega),i64 _ (by omega) (by omega),i64 _ (by omega) (by omega)]
    simp
   ·rw [dF (by omega),bU]
    have q2:uq ((n:Int)/1000000000) 1000000000=some ((n:Int)/1000000000/1000000000):=aPm (by omega) (by omega) (by omega)
    have r2:zX ((n:Int)/1000000000) 1000000000=some ((n:Int)/1000000000%1000000000):=tG (by omega) (by omega)
    simp only [q1,r1,q2,r2,oB]
    rw [v0 (n:=n/1000000000) (by omega),aJy (n:=n/1000000000/1000000000) (by omega) (by omega),i64 _ (by omega) (by omega),i64 _ (by omega) (by omega),i64 _ (by omega) (by omega)]
    simp
theorem aEp {n:Int} (h:-9223372036854775808≤n∧n≤9223372036854775807):lS n=some (Z n):=by
 unfold lS
 by_cases h0:n<0
 ·rw [dT h0,bY]
  have e1:wu (-(IntKind.u64.wrap n))=((-n).toNat:Int):=by
   show IntKind.u64.wrap (-(IntKind.u64.wrap n))=_
   simp only [IntKind.wrap,IntKind.bits,IntKind.signed]
   simp
   omega
  rw [e1,sI _ (by omega),oB,aJR]
  congr 2;omega
 ·rw [dF h0,bU]
  have e1:IntKind.u64.wrap n=((n.toNat:Nat):Int):=by rw [IntWalk.u64_in n (by omega)];omega
  rw [e1,sI _ (by omega),oB,nX]
  congr 2;omega
theorem Z_d (x:Int):(Z x).d=bP x.natAbs:=rfl
theorem vP (x:Int):(Z x).neg=decide (x<0):=rfl
theorem sH (x:Int):(Z x).d.length=dl x.natAbs:=rfl
theorem aMp (x:Int):t8 (Z x)=some x.sign:=by
 unfold t8
 rw [vP,sH]
 by_cases h:x<0
 ·rw [dT h,bY,Int.sign_eq_neg_one_of_neg h]
 ·rw [dF h,bU]
  by_cases h0:x=0
  ·subst h0;rw [show Int.natAbs 0=0 from rfl,xF];rfl
  ·have:dl x.natAbs≠0:=by rw [Ne,wG];omega
   have e:((dl x.natAbs:Int)==0)=false:=qF (by omega)
   rw [e,bU,Int.sign_eq_one_of_pos (by omega)]
theorem aKh (x:Int):rJ (Z x)=some (Z (-x)):=by
 unfold rJ
 rw [vP,sH,Z_d]
 unfold Z
 rw [Int.natAbs_neg]
 by_cases h:x<0
 ·have:dl x.natAbs≠0:=by rw [Ne,wG];omega
  rw [dT h,dF (p:=-x<0) (by omega)];rfl
 ·rw [dF h]
  simp only [Bool.not_false,bY]
  congr 2
  by_cases h0:x=0
  ·subst h0;rw [show Int.natAbs 0=0 from rfl,xF];rfl
  ·have:dl x.natAbs≠0:=by rw [Ne,wG];omega
   rw [dT (by omega),dT (by omega)]
theorem aJQ {x y:Int} (hx:dl x.natAbs≤50000000000) (hy:dl y.natAbs≤50000000000):Ev (fun K=>mY K (Z x) (Z y)) (Z (x+y)):=by
 have dx:=bT x.natAbs
 have dy:=bT y.natAbs
 have vx:=dR x.natAbs
 have vy:=dR y.natAbs
 have tx:=o8 x.natAbs
 have ty:=o8 y.natAbs
 have lx:(bP x.natAbs).length≤50000000000:=hx
 have ly:(bP y.natAbs).length≤50000000000:=hy
 unfold mY
 simp only [Z_d,vP]
 by_cases hs:(decide (x<0)==decide (y<0))=true
 ·simp only [hs,bY]
  obtain⟨r,h1,h2,h3,h4⟩:=aHy dx dy (by omega) (by omega)
  have h5:=xT (decide (x<0)) h1 (by omega)
  refine Ev.bind h4 (Ev.bind h5 ?_)
  rw [uH]
  have hs':(x<0)↔(y<0):=by simpa using hs
  have:(if decide (x<0)=true then -(((vD r).toNat:Nat):Int) else(((vD r).toNat:Nat):Int))=x+y:=by
   by_cases h:x<0
   ·rw [if_pos (by simpa using h)];omega
   ·rw [if_neg (by simpa using h)];omega
  rw [this]
  exact Ev.pure _
 ·simp only [Bool.not_eq_true] at hs
  simp only [hs,bU]
  have hs':¬((x<0)↔(y<0)):=by simpa using hs
  refine Ev.bind (zP dx dy tx ty (by omega)) ?_
  rw [vx,vy]
  unfold yU
  by_cases hlt:x.natAbs<y.natAbs
  ·have hle:(bP x.natAbs).length≤(bP y.natAbs).length:=q0 (by omega)
   obtain⟨r,h1,h2,h3,h4⟩:=aDM dy dx hle (by omega) (by omega)
   have h5:=xT (decide (y<0)) h2 (by omega)
   rw [if_pos (by omega)]
   refine Ev.congr (g:=fun K=>(mA K (bP y.natAbs) (bP x.natAbs)).bind fun v16=>(dY K (decide (y<0)) v16).bind fun v18=>some v18) ?_ (fun K=>rfl)
   refine Ev.bind h4 (Ev.bind h5 ?_)
   rw [uH]
   have:(if decide (y<0)=true then -(((vD r).toNat:Nat):Int) else(((vD r).toNat:Nat):Int))=x+y:=by
    by_cases h:y<0
    ·rw [if_pos (by simpa using h)];omega
    ·rw [if_neg (by simpa using h)];omega
   rw [this]
   exact Ev.pure _
  ·have hle:(bP y.natAbs).length≤(bP x.natAbs).length:=q0 (by omega)
   obtain⟨r,h1,h2,h3,h4⟩:=aDM dx dy hle (by omega) (by omega)
   have h5:=xT (decide (x<0)) h2 (by omega)
   have hc:decide ((if(x.natAbs:Int)<y.natAbs then(-1:Int) else if(y.natAbs:Int)<x.natAbs then 1 else 0)<0)=false:=by
    rw [if_neg (by omega)]
    split<;>rfl
   simp only [hc,bU]
   refine Ev.bind h4 (Ev.bind h5 ?_)
   rw [uH]
   have:(if decide (x<0)=true then -(((vD r).toNat:Nat):Int) else(((vD r).toNat:Nat):Int))=x+y:=by
    by_cases h:x<0
    ·rw [if_pos (by simpa using h)];omega
    ·rw [if_neg (by simpa using h)];omega
   rw [this]
   exact Ev.pure _
end Go.Proofs.YtolfcbpgmfbgmaaGreat
set_option linter.unusedVariables false
namespace Go.Proofs.YtolfcbpgmfbgmaaGreat
theorem aLP {v:Int} (h:0≤v):0≤v/1000000000∧0≤v%1000000000∧v%1000000000<1000000000∧v%1000000000+1000000000*(v/1000000000)=v:=by omega
theorem aHZ {out a:List Int} {i:Nat} {c c' k v:Int} (hl:i<out.length) (hI:W out 0 i+c*PB i=k*W a 0 i) (hv:v+1000000000*c'=a.getD i 0*k+c):
  W (out.set i v) 0 (i+1)+c'*PB (i+1)=k*W a 0 (i+1):=by
 rw [dG,dG,Nat.zero_add,dN hl,xZ (.inr (by omega))]
 simp only [PB]
 grind
theorem aFd {a:List Int} {f:Int} (ha:lG a) (hf0:0≤f) (hf1:f<1000000000) (hL:a.length≤9000000000000):∀(t i:Nat) (out:List Int) (c:Int),i+t=a.length→out.length=a.length+1→Dr out 0 i→0≤c→c<1000000000→W out 0 i+c*PB i=f*W a 0 i→
  ∃out' c',out'.length=a.length+1∧Dr out' 0 a.length∧0≤c'∧c'<1000000000∧W out' 0 a.length+c'*PB a.length=f*vD a∧∀K k,t<k→jB K a f k out c (i:Int)=some (out',c')
 |0,i,out,c,hi,ho,hD,hc0,hc1,hI=>by
  have:i=a.length:=by omega
  subst this
  refine⟨out,c,ho,hD,hc0,hc1,hI,fun K k hk=>?_⟩
  obtain⟨k',rfl,_⟩:=bB hk
  simp [jB]
 |t+1,i,out,c,hi,ho,hD,hc0,hc1,hI=>by
  have ha':=ha i
  have hm:=aEV ha'.1 ha'.2 hf0 hf1
  obtain⟨d1,d2,d3,d4⟩:=aLP (v:=a.getD i 0*f+c) (by omega)
  have e1:decide ((i:Int)<(a.length:Int))=true:=dT (by omega)
  have e2:=cF (xs:=a) (i:=i) (by omega)
  have e3:aQ ((i:Int)+1)=some ((i+1:Nat):Int):=zH (m:=0) (by omega) (by omega)
  have e4:=cF (xs:=out) (i:=i) (by omega)
  have e5:∀v,pN out (i:Int) v=some (out.set i v):=fun v=>tI (by omega)
  have e6:aQ (a.getD i 0*f)=some (a.getD i 0*f):=oX (by omega)
  have e7:aQ (a.getD i 0*f+c)=some (a.getD i 0*f+c):=oX (by omega)
  have e8:zX (a.getD i 0*f+c) 1000000000=some ((a.getD i 0*f+c)%1000000000):=tG (by omega) (by omega)
  have e9:chq (a.getD i 0*f+c) 1000000000=some ((a.getD i 0*f+c)/1000000000):=wB (by omega) (by omega) (by omega)
  obtain⟨o,d,h1,h2,h3,h4,h5,h6⟩:=aFd ha hf0 hf1 hL t (i+1) (out.set i ((a.getD i 0*f+c)%1000000000)) ((a.getD i 0*f+c)/1000000000) (by omega) (by simpa using ho) (aBn hD (by omega) (by omega) (by omega)) (by omega) (by omega) (aHZ (by omega) hI (by omega))
  refine⟨o,d,h1,h2,h3,h4,h5,fun K k hk=>?_⟩
  obtain⟨k',rfl,_⟩:=bB hk
  simp only [jB,e1,e2,e3,e4,e5,e6,e7,e8,e9,bY,oB]
  exact h6 K k' (by omega)
theorem aEP {a:List Int} {f:Int} (ha:lG a) (hf0:0≤f) (hf1:f<1000000000) (hL:a.length≤60000000000):∃r,r.length=a.length+1∧lG r∧vD r=f*vD a∧Ev (fun K=>mQ K a f) r:=by
 obtain⟨o,c,h1,h2,h3,h4,h5,h6⟩:=aFd ha hf0 hf1 (by omega) a.length 0 (List.replicate (a.length+1) 0) 0 (by omega) (by simp) (aGQ _ _ _) (by omega) (by omega) (by simp [W])
 have e1:aQ ((a.length:Int)+1)=some ((a.length+1:Nat):Int):=zH (m:=0) (by omega) (by omega)
 have e2:y5 ((a.length+1:Nat):Int) (0:Int)=some (List.replicate (a.length+1) 0):=aAG (by omega)
 refine⟨o.set a.length c,by simpa using h1,Dr.ok ?_,?_,⟨a.length+1,fun K hK=>?_⟩⟩
 ·rw [show(o.set a.length c).length=a.length+1 by simpa using h1]
  exact aBn h2 (by omega) (by omega) (by omega)
 ·unfold vD at h5 ⊢
  rw [show(o.set a.length c).length=a.length+1 by simpa using h1,dG,Nat.zero_add,dN (by omega),xZ (.inr (by omega)),h5]
 ·have h6':=h6 K K (by omega)
  simp only [Int.natCast_zero] at h6'
  simp only [mQ,e1,e2,oB,h6',qS,cF (xs:=o) (i:=a.length) (by omega),tI (xs:=o) (i:=a.length) (v:=c) (by omega)]
theorem aCC (u:List Int) (j n:Nat):W u j (n+1)=u.getD j 0+1000000000*W u (j+1) n:=by
 rw [Nat.add_comm n 1,wS,W1,show PB 1=1000000000 from by decide]
theorem aF8 {a:List Int} {b:Int} (ha:lG a) (hb0:0<b) (hb1:b<1000000000) (hL:a.length≤9000000000000):∀(j:Nat) (q:List Int) (r:Int),j≤a.length→q.length=a.length→Dr q j (a.length-j)→0≤r→r<b→W a j (a.length-j)=b*W q j (a.length-j)+r→
  ∃q' r',q'.length=a.length∧lG q'∧0≤r'∧r'<b∧vD a=b*vD q'+r'∧∀K k,j<k→jT K a b k q r ((j:Int)-1)=some (q',r')
 |0,q,r,hj,hq,hD,hr0,hr1,hI=>by
  refine⟨q,r,hq,Dr.ok (by rw [hq];simpa using hD),hr0,hr1,?_,fun K k hk=>?_⟩
  ·simp only [Nat.sub_zero] at hI
   unfold vD
   rw [hq];exact hI
  ·obtain⟨k',rfl,_⟩:=bB hk
   simp [jT]
 |j+1,q,r,hj,hq,hD,hr0,hr1,hI=>by
  have ha':=ha j
  have e0:((j+1:Nat):Int)-1=(j:Int):=by omega
  have e1:decide (0≤(j:Int))=true:=dT (by omega)
  have e2:=cF (xs:=a) (i:=j) (by omega)
  have e3:aQ ((j:Int)-1)=some ((j:Int)-1):=oX (by omega)
  have e4:=cF (xs:=q) (i:=j) (by omega)
  have e5:∀v,pN q (j:Int) v=some (q.set j v):=fun v=>tI (by omega)
  have e6:aQ (r*1000000000)=some (r*1000000000):=oX (by omega)
  have e7:aQ (r*1000000000+a.getD j 0)=some (r*1000000000+a.getD j 0):=oX (by omega)
  have e8:zX (r*1000000000+a.getD j 0) b=some ((r*1000000000+a.getD j 0)%b):=tG (by omega) hb0
  have e9:chq (r*1000000000+a.getD j 0) b=some ((r*1000000000+a.getD j 0)/b):=wB (by omega) hb0 (by omega)
  have hq0:0≤(r*1000000000+a.getD j 0)/b:=Int.ediv_nonneg (by omega) (by omega)
  have hq1:(r*1000000000+a.getD j 0)/b<1000000000:=Int.ediv_lt_of_lt_mul hb0 (by
   have:(r+1)*1000000000≤b*1000000000:=Int.mul_le_mul_of_nonneg_right (by omega) (by omega)
   rw [Int.mul_comm 1000000000 b]
   omega)
  have hm0:=Int.emod_nonneg (r*1000000000+a.getD j 0) (show b≠0 by omega)
  have hm1:=Int.emod_lt_of_pos (r*1000000000+a.getD j 0) hb0
  have hdm:=Int.mul_ediv_add_emod (r*1000000000+a.getD j 0) b
  have es:a.length-j=(a.length-(j+1))+1:=by omega
  obtain⟨q',r',h1,h2,h3,h4,h5,h6⟩:=aF8 ha hb0 hb1 hL j (q.set j ((r*1000000000+a.getD j 0)/b)) ((r*1000000000+a.getD j 0)%b) (by omega) (by simpa using hq)
   (fun i hi=>by
    by_cases e:i=0
    ·subst e;rw [Nat.add_zero,dN (by omega)];exact⟨hq0,hq1⟩
    ·rw [eW (by omega)]
     have:=hD (i-1) (by omega)
     rwa [show j+1+(i-1)=j+i by omega] at this) hm0 hm1 (by
    rw [es,aCC,aCC,dN (by omega),xZ (.inl (by omega)),hI]
    grind)
  refine⟨q',r',h1,h2,h3,h4,h5,fun K k hk=>?_⟩
  obtain⟨k',rfl,_⟩:=bB hk
  rw [e0]
  simp only [jT,e1,e2,e3,e4,e5,e6,e7,e8,e9,bY,oB]
  exact h6 K k' (by omega)
theorem aF0 {a:List Int} {b:Int} (ha:lG a) (hb0:0<b) (hb1:b<1000000000) (hL:a.length≤60000000000):∃q r,q.length=a.length∧lG q∧vD q=vD a/b∧r=vD a%b∧Ev (fun K=>qG K a b) (q,r):=by
 obtain⟨q,r,h1,h2,h3,h4,h5,h6⟩:=aF8 ha hb0 hb1 (by omega) a.length (List.replicate a.length 0) 0 (Nat.le_refl _) (by simp) (aGQ _ _ _) (by omega) hb0 (by simp [W])
 have e1:y5 (a.length:Int) (0:Int)=some (List.replicate a.length 0):=aAG (by omega)
 have e2:aQ ((a.length:Int)-1)=some ((a.length:Int)-1):=oX (by omega)
 refine⟨q,r,h1,h2,?_,?_,⟨a.length+1,fun K hK=>?_⟩⟩
 ·rw [h5,Int.add_comm,Int.add_mul_ediv_left _ _ (by omega),Int.ediv_eq_zero_of_lt h3 h4,Int.zero_add]
 ·rw [h5,Int.add_comm,Int.add_mul_emod_self_left,Int.emod_eq_of_lt h3 h4]
 ·have h6':=h6 K K (by omega)
  simp only [qG,e1,e2,oB,h6',rT]
theorem aNm {out o0 b:List Int} {i k:Nat} {c c' f v:Int} (hl:i+k<out.length) (hI:W out i k+c*PB k=W o0 i k+f*W b 0 k) (hv:v+1000000000*c'=o0.getD (i+k) 0+f*b.getD k 0+c):
  W (out.set (i+k) v) i (k+1)+c'*PB (k+1)=W o0 i (k+1)+f*W b 0 (k+1):=by
 rw [dG,dG,dG,dN hl,xZ (.inr (by omega)),Nat.zero_add]
 simp only [PB]
 grind
structure aGq (o0 b:List Int) (i:Nat) (f:Int) (out:List Int) (c:Int) (k:Nat):Prop where
 len:out.length=o0.length
 ok:lG out
 c0:0≤c
 c1:c<1000000000
 same:∀s,s<i∨i+k≤s→out.getD s 0=o0.getD s 0
 val:W out i k+c*PB k=W o0 i k+f*W b 0 k
theorem lG.set {u:List Int} {i:Nat} {v:Int} (h:lG u) (h0:0≤v) (h1:v<1000000000):lG (u.set i v):=fun t=>by
 rw [aAa];split
 ·exact⟨h0,h1⟩
 ·exact h t
theorem aGq.step {o0 b out:List Int} {i k:Nat} {f c:Int} (h:aGq o0 b i f out c k) (hl:i+k<o0.length) (hf0:0≤f) (hf1:f<1000000000) (hb:lG b):
  0≤out.getD (i+k) 0+f*b.getD k 0+c∧out.getD (i+k) 0+f*b.getD k 0+c≤999999999999999999∧0≤f*b.getD k 0∧f*b.getD k 0≤999999998000000001∧0≤out.getD (i+k) 0∧out.getD (i+k) 0<1000000000∧
  aGq o0 b i f (out.set (i+k) ((out.getD (i+k) 0+f*b.getD k 0+c)%1000000000)) ((out.getD (i+k) 0+f*b.getD k 0+c)/1000000000) (k+1):=by
 have hb':=hb k
 have hm:=aEV hf0 hf1 hb'.1 hb'.2
 have ho:=h.ok (i+k)
 have c0:=h.c0
 have c1:=h.c1
 obtain⟨d1,d2,d3,d4⟩:=aLP (v:=out.getD (i+k) 0+f*b.getD k 0+c) (by omega)
 have he:=h.same (i+k) (.inr (Nat.le_refl _))
 refine⟨by omega,by omega,hm.1,hm.2,ho.1,ho.2,by simpa using h.len,h.ok.set d2 d3,d1,by omega,fun s hs=>?_,by exact aNm (by have:=h.len;omega) h.val (by omega)⟩
 rw [eW (by omega)]
 exact h.same s (by omega)
theorem aJK {o0:List Int} {y:aB} {i:Nat} {f:Int} (hb:lG y.d) (hf0:0≤f) (hf1:f<1000000000) (hl:i+y.d.length≤o0.length) (hL:o0.length≤9000000000000):∀(t k:Nat) (out:List Int) (c:Int),k+t=y.d.length→aGq o0 y.d i f out c k→
  ∃out' c',aGq o0 y.d i f out' c' y.d.length∧∀K n,t<n→gR K y (i:Int) f n out c (k:Int)=some (out',c')
 |0,k,out,c,hk,hP=>by
  have:k=y.d.length:=by omega
  subst this
  refine⟨out,c,hP,fun K n hn=>?_⟩
  obtain⟨n',rfl,_⟩:=bB hn
  simp [gR]
 |t+1,k,out,c,hk,hP=>by
  obtain⟨g1,g2,g3,g4,g5,g6,g7⟩:=hP.step (by omega) hf0 hf1 hb
  have c0:=hP.c0
  have c1:=hP.c1
  have hlo:=hP.len
  generalize hv:out.getD (i+k) 0+f*y.d.getD k 0+c=v at *
  have e1:decide ((k:Int)<(y.d.length:Int))=true:=dT (by omega)
  have e2:=cF (xs:=y.d) (i:=k) (by omega)
  have e3:aQ ((k:Int)+1)=some ((k+1:Nat):Int):=zH (m:=0) (by omega) (by omega)
  have e4:aQ ((i:Int)+(k:Int))=some ((i+k:Nat):Int):=zH (m:=0) (by omega) (by omega)
  have e5:=cF (xs:=out) (i:=i+k) (by omega)
  have e6:aQ (f*y.d.getD k 0)=some (f*y.d.getD k 0):=oX (by omega)
  have e7:aQ (out.getD (i+k) 0+f*y.d.getD k 0)=some (out.getD (i+k) 0+f*y.d.getD k 0):=oX (by omega)
  have e8:aQ (out.getD (i+k) 0+f*y.d.getD k 0+c)=some v:=by rw [hv];exact oX (by omega)
  have e9:chq v 1000000000=some (v/1000000000):=wB (by omega) (by omega) (by omega)
  have e10:aQ (v/1000000000*1000000000)=some (v/1000000000*1000000000):=oX (by omega)
  have e11:aQ (v-v/1000000000*1000000000)=some (v%1000000000):=by
   rw [show v-v/1000000000*1000000000=v%1000000000 by omega];exact oX (by omega)
  have e12:pN out ((i+k:Nat):Int) (v%1000000000)=some (out.set (i+k) (v%1000000000)):=tI (by omega)
  obtain⟨o,d,h1,h2⟩:=aJK hb hf0 hf1 hl hL t (k+1) _ _ (by omega) g7
  refine⟨o,d,h1,fun K n hn=>?_⟩
  obtain⟨n',rfl,_⟩:=bB hn
  simp only [gR,e1,e2,e3,e4,e5,e6,e7,e8,e9,e10,e11,e12,bY,oB]
  exact h2 K n' (by omega)
structure aDo (a b out:List Int) (i:Nat):Prop where
 len:out.length=a.length+b.length
 ok:lG out
 zero:∀s,i+b.length≤s→out.getD s 0=0
 val:W out 0 (i+b.length)=W a 0 i*vD b
theorem aDo.start (a b:List Int):aDo a b (List.replicate (a.length+b.length) 0) 0 where
 len:=by simp
 ok:=fun i=>by simp only [List.getD_eq_getElem?_getD,List.getElem?_replicate];split<;>simp
 zero:=fun s _=>by simp only [List.getD_eq_getElem?_getD,List.getElem?_replicate];split<;>simp
 val:=by
  rw [aEc]
  ·simp [W]
  ·intro i _;simp only [List.getD_eq_getElem?_getD,List.getElem?_replicate];split<;>simp
theorem aDo.row {a b out:List Int} {i:Nat} (h:aDo a b out i):aGq out b i (a.getD i 0) out 0 0 where
 len:=rfl
 ok:=h.ok
 c0:=Int.le_refl _
 c1:=by decide
 same:=fun _ _=>rfl
 val:=by simp [W]
theorem aDo.next {a b out out':List Int} {i:Nat} {c:Int} (h:aDo a b out i) (hi:i<a.length) (hr:aGq out b i (a.getD i 0) out' c b.length):aDo a b (out'.set (i+b.length) c) (i+1) where
 len:=by simpa using hr.len.trans h.len
 ok:=hr.ok.set hr.c0 hr.c1
 zero:=fun s hs=>by
  rw [eW (by omega),hr.same s (by omega)]
  exact h.zero s (by omega)
 val:=by
  have hlen:=hr.len.trans h.len
  rw [show i+1+b.length=(i+b.length)+1 by omega,dG,Nat.zero_add,dN (by omega),xZ (.inr (by omega)),wS,dG,Nat.zero_add]
  have h1:=hr.val
  have h2:=h.val
  rw [wS,Nat.zero_add] at h2
  have h3:W out' 0 i=W out 0 i:=aCN fun s hs=>by
   rw [Nat.zero_add];exact hr.same s (.inl hs)
  rw [h3,aBw]
  unfold vD at *
  grind
theorem aKg {x y:aB} (ha:lG x.d) (hb:lG y.d) (hL:x.d.length+y.d.length≤9000000000000):∀(t i:Nat) (out:List Int),i+t=x.d.length→aDo x.d y.d out i→
  ∃out',aDo x.d y.d out' x.d.length∧vB (fun K k=>fQ K x y k out (i:Int)) out'
 |0,i,out,hi,hP=>by
  have:i=x.d.length:=by omega
  subst this
  refine⟨out,hP,vB.of 1 fun K n hn=>?_⟩
  obtain⟨n',rfl,_⟩:=bB (n:=0) hn
  simp [fQ]
 |t+1,i,out,hi,hP=>by
  have ha':=ha i
  have hlo:=hP.len
  obtain⟨o,c,h1,h2⟩:=aJK hb ha'.1 ha'.2 (by omega) (by omega) y.d.length 0 out 0 (by omega) hP.row
  have hlo2:=h1.len
  obtain⟨r,h3,h4⟩:=aKg ha hb hL t (i+1) _ (by omega) (hP.next (by omega) h1)
  refine⟨r,h3,vB.step ?_⟩
  have e1:decide ((i:Int)<(x.d.length:Int))=true:=dT (by omega)
  have e2:=cF (xs:=x.d) (i:=i) (by omega)
  have e3:aQ ((i:Int)+1)=some ((i+1:Nat):Int):=zH (m:=0) (by omega) (by omega)
  have e4:aQ ((i:Int)+(y.d.length:Int))=some ((i+y.d.length:Nat):Int):=zH (m:=0) (by omega) (by omega)
  have e5:=cF (xs:=o) (i:=i+y.d.length) (by omega)
  have e6:pN o ((i+y.d.length:Nat):Int) c=some (o.set (i+y.d.length) c):=tI (by omega)
  simp only [fQ,e1,e2,bY,oB]
  refine vB.bind (x:=(o,c)) (f:=fun K=>gR K y (i:Int) (x.d.getD i 0) K out 0 0) ⟨y.d.length+1,fun K hK=>h2 K K (by omega)⟩ ?_
  simp only [qP,e3,e4,e5,e6,oB]
  exact h4
theorem aG2 (x y:Int):(if(decide (x<0) != decide (y<0))=true then -((x.natAbs:Int)*y.natAbs) else(x.natAbs:Int)*y.natAbs)=x*y:=by
 by_cases hx:x<0<;>by_cases hy:y<0
 ·rw [dT hx,dT hy,show(x.natAbs:Int)=-x by omega,show(y.natAbs:Int)=-y by omega];simp [Int.neg_mul_neg]
 ·rw [dT hx,dF hy,show(x.natAbs:Int)=-x by omega,show(y.natAbs:Int)=y by omega];simp [Int.neg_mul]
 ·rw [dF hx,dT hy,show(x.natAbs:Int)=x by omega,show(y.natAbs:Int)=-y by omega];simp [Int.mul_neg]
 ·rw [dF hx,dF hy,show(x.natAbs:Int)=x by omega,show(y.natAbs:Int)=y by omega];simp
theorem aM3 {x y:Int} (hL:dl x.natAbs+dl y.natAbs≤60000000000):Ev (fun K=>(aQ (((Z x).d.length:Int)+((Z y).d.length:Int))).bind fun v16=>(y5 v16 0).bind fun x18=>(fQ K (Z x) (Z y) K x18 0).bind fun x37=>qW K (Z x) (Z y) x37) (Z (x*y)):=by
 have dx:=bT x.natAbs
 have dy:=bT y.natAbs
 have lx:(bP x.natAbs).length=dl x.natAbs:=rfl
 have ly:(bP y.natAbs).length=dl y.natAbs:=rfl
 obtain⟨r,h1,h2⟩:=aKg (x:=Z x) (y:=Z y) dx dy (by rw [sH,sH];omega) (Z x).d.length 0 _ (by omega) (aDo.start _ _)
 have e1:aQ (((Z x).d.length:Int)+((Z y).d.length:Int))=some (((Z x).d.length+(Z y).d.length:Nat):Int):=zH (m:=0) (by omega) (by rw [sH,sH];omega)
 have e2:y5 (((Z x).d.length+(Z y).d.length:Nat):Int) (0:Int)=some (List.replicate ((Z x).d.length+(Z y).d.length) 0):=aAG (by rw [sH,sH];omega)
 simp only [e1,e2,oB]
 refine Ev.bind h2.ev ?_
 have h3:=xT ((Z x).neg != (Z y).neg) h1.ok (by rw [h1.len,sH,sH];omega)
 unfold qW
 refine Ev.bind h3 ?_
 have hv:vD r=x.natAbs*y.natAbs:=by
  have:=h1.val
  rw [←h1.len] at this
  have vx:=dR x.natAbs
  have vy:=dR y.natAbs
  unfold vD at *
  rw [this]
  show W (bP x.natAbs) 0 (bP x.natAbs).length*W (bP y.natAbs) 0 (bP y.natAbs).length=_
  rw [vx,vy]
 rw [uH,vP,vP,hv]
 have:(if(decide (x<0) != decide (y<0))=true then -((((x.natAbs:Int)*y.natAbs).toNat:Nat):Int) else((((x.natAbs:Int)*y.natAbs).toNat:Nat):Int))=x*y:=by
  have h0:0≤(x.natAbs:Int)*y.natAbs:=Int.mul_nonneg (by omega) (by omega)
  rw [Int.toNat_of_nonneg h0]
  exact aG2 x y
 rw [this]
 exact Ev.pure _
theorem aFJ (K:Nat) (y:aB) (x v:Int):∀(k:Nat) (s:List Int) (c i:Int),mV K y x v k s c i=gR K y x v k s c i
 |0,_,_,_=>rfl
 |k+1,s,c,i=>by simp only [mV,gR,aFJ K y x v k]
theorem aFT (K:Nat) (x y:aB):∀(k:Nat) (s:List Int) (i:Int),kS K x y k s i=fQ K x y k s i
 |0,_,_=>rfl
 |k+1,s,i=>by simp only [kS,fQ,sS,qP,aFJ,aFT K x y k]
theorem aBi {n:Nat} (h:(bP n).length=1):(bP n).getD 0 0=n∧n<1000000000:=by
 have h1:=dR n
 unfold vD at h1
 rw [h,W1] at h1
 have:=bT n 0
 omega
theorem zL {x y:Int} (hL:dl x.natAbs+dl y.natAbs≤60000000000):Ev (fun K=>bO K (Z x) (Z y)) (Z (x*y)):=by
 have hc:=aM3 hL
 unfold bO
 by_cases h1:(Z x).d.length=1
 ·have e1:(((Z x).d.length:Int)==1)=true:=qT (by omega)
  simp only [e1,bY]
  by_cases h2:(Z y).d.length=1
  ·have e2:(((Z y).d.length:Int)==1)=true:=qT (by omega)
   obtain⟨a1,a2⟩:=aBi h1
   obtain⟨b1,b2⟩:=aBi h2
   have r1:=cF (xs:=(Z x).d) (i:=0) (by omega)
   have r2:=cF (xs:=(Z y).d) (i:=0) (by omega)
   simp only [Int.natCast_zero] at r1 r2
   rw [Z_d] at r1 r2
   rw [a1] at r1
   rw [b1] at r2
   have hb:=aEV (x:=(x.natAbs:Int)) (y:=(y.natAbs:Int)) (by omega) (by omega) (by omega) (by omega)
   have e3:wu (IntKind.u64.wrap (x.natAbs:Int)*IntKind.u64.wrap (y.natAbs:Int))=((x.natAbs*y.natAbs:Nat):Int):=by
    rw [IntWalk.u64_in _ ⟨by omega,by omega⟩,IntWalk.u64_in _ ⟨by omega,by omega⟩,aPv hb.1 (by omega),Int.natCast_mul]
   have hb':x.natAbs*y.natAbs≤18446744073709551615:=by
    have:((x.natAbs*y.natAbs:Nat):Int)=x.natAbs*y.natAbs:=Int.natCast_mul _ _
    omega
   refine Ev.of fun K=>?_
   rw [Z_d] at e2
   simp only [e2,bY,r1,r2,Z_d,vP,oB,e3,sI _ hb']
   rw [uH]
   congr 2
   rw [Int.natCast_mul]
   exact aG2 x y
  ·have e2:(((Z y).d.length:Int)==1)=false:=qF (by omega)
   simp only [e2,bU]
   exact hc
 ·have e1:(((Z x).d.length:Int)==1)=false:=qF (by omega)
  simp only [e1,bU,aFT]
  exact hc
end Go.Proofs.YtolfcbpgmfbgmaaGreat
