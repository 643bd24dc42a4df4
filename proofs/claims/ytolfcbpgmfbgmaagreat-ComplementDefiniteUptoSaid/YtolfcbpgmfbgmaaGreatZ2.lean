/- Texts of the proof, part 2: K15 I1 IZ P2 P3 P4 P5. -/
import Derived.Test.YtolfcbpgmfbgmaaGreatProg
import Derived.KernelRfl
import Derived.IntWalk
import Derived.Test.YtolfcbpgmfbgmaaGreatZ1
set_option linter.unusedSimpArgs false
set_option linter.unusedVariables false
namespace Go.Proofs.YtolfcbpgmfbgmaaGreat
structure GC (S:Sx) (c:Code) (κ:Kt) (H:List HA) (E:sB) (Q:Prop):Prop where
 h:Q→WC S c κ H E
structure GX (S:Sx) (e:Exit) (κ:Kt) (H:List HA) (E:sB) (Q:Prop):Prop where
 h:Q→WX S e κ H E
structure GL (S:Sx) (ops:Array Oper) (κ:Kt) (l:List Oper) (H:List HA) (E:sB) (Q:Prop):Prop where
 h:Q→WL S ops κ l H E
inductive D:Prop→Prop→Prop
 |mk {P Q:Prop} (h:Q→P):D P Q
theorem D.h{P Q:Prop}(h:D P Q):Q→P:=by cases h;assumption
section
variable {S:Sx} {κ:Kt} {H:List HA} {E:sB} {Q:Prop}
theorem sC{c:Code}(k:GC S c κ H E Q):D (WC S c κ H E) Q:=⟨k.h⟩
theorem sX{e:Exit}(k:GX S e κ H E Q):D (WX S e κ H E) Q:=⟨k.h⟩
theorem sL{ops:Array Oper}{l:List Oper}(k:GL S ops κ l H E Q):D (WL S ops κ l H E) Q:=⟨k.h⟩
theorem eC{c:Code}:GC S c κ H E (WC S c κ H E):=⟨fun q=>q⟩
theorem eX{e:Exit}:GX S e κ H E (WX S e κ H E):=⟨fun q=>q⟩
theorem eL{ops:Array Oper}{l:List Oper}:GL S ops κ l H E (WL S ops κ l H E):=⟨fun q=>q⟩
theorem aSZ{x y:Code}(k:GC S x (.seq y κ) H E Q):GC S (.seq x y) κ H E Q:=⟨fun q=>aE (k.h q)⟩
theorem aPd{y:Code}(k:GC S y κ H E Q):GX S .normal (.seq y κ) H E Q:=⟨fun q=>aH (k.h q)⟩
theorem aOg(k:GX S .normal κ H E Q):GC S .skip κ H E Q:=⟨fun q=>fB (k.h q)⟩
theorem aNe{l:Nat}(k:GX S .normal κ H E Q):GC S (.label l) κ H E Q:=⟨fun q=>aRI (k.h q)⟩
theorem aPC{id:Nat}(k:GX S .normal κ H E Q):GX S .normal (.blk id κ) H E Q:=⟨fun q=>aB7 (k.h q)⟩
theorem aMA{c:Code}(k:GC S c (.sc κ) H E Q):GC S (.scope c) κ H E Q:=⟨fun q=>aMp (k.h q)⟩
theorem aSW(k:GX S .normal κ H E Q):GX S .normal (.sc κ) H E Q:=⟨fun q=>aWm (k.h q)⟩
theorem aSH{id:Nat}{l:List Oper}(k:GL S l.toArray κ l H E Q):GC S (.region id l.toArray false) κ H E Q:=⟨fun q=>aJ (k.h q)⟩
theorem aTr{ops:Array Oper}(k:GX S .normal κ H E Q):GL S ops κ [] H E Q:=⟨fun q=>aX (k.h q)⟩
end
def ev(E:sB):Operand→Option VP
 | .tmp d=>jS E d
 | .const (.int k n)=>some (.vc (pI k n))
 | .const (.bool b)=>some (.vc (pB b))
 |_=>none
theorem eA{E:sB}:∀{x:Operand} {p:VP},ev E x=some p→aGB E x p
 | .tmp d,p,h=>h
 | .const (.int k n),p,h=>by cases h;exact rT k n
 | .const (.bool b),p,h=>by cases h;exact k_B b
def evs(E:sB):List Operand→Option (List VP)
 |[]=>some []
 |x::l=>(ev E x).bind fun p=>(evs E l).bind fun ps=>some (p::ps)
theorem aH9{E:sB}:∀{l:List Operand} {ps:List VP},evs E l=some ps→xG E (l.zip ps)∧l.length=ps.length
 |[],ps,h=>by cases h;exact⟨trivial,rfl⟩
 |x::l,ps,h=>by
  obtain⟨p,f,h⟩:=Option.bind_eq_some_iff.1 h;obtain⟨qs,e,h⟩:=Option.bind_eq_some_iff.1 h;cases h;exact⟨⟨eA f,(aH9 e).1⟩,congrArg (·+1) (aH9 e).2⟩
theorem yL{k:Nat}{l qs:List CP}(h:uQ k l=some qs):qs.length=k:=(aBl h).2
inductive iX:List HA→Option Nat→HA→Prop
 |a {e:HA} {H:List HA} {β:Option Nat} (h:e.β=β):iX (e::H) β e
 |b {e x:HA} {H:List HA} {β:Option Nat} (h:iX H β e):iX (x::H) β e
theorem iX.at{H:List HA}{β:Option Nat}{e:HA}(h:iX H β e):∃i:Nat,H[i]?=some e∧e.β=β:=by
 induction h with
 |a h=>exact⟨0,rfl,h⟩
 |b _ ih=>obtain⟨i,f,j⟩:=ih;exact⟨i+1,by simpa using f,j⟩
inductive z7:List HA→Option Nat→HA→HA→List HA→Prop
 |a {e e':HA} {H:List HA} {β:Option Nat} (h:e.β=β):z7 (e::H) β e e' (e'::H)
 |b {e e' x:HA} {H H':List HA} {β:Option Nat} (h:z7 H β e e' H'):z7 (x::H) β e e' (x::H')
theorem z7.at{H H':List HA}{β:Option Nat}{e f:HA}(h:z7 H β e f H'):∃i:Nat,H[i]?=some e∧e.β=β∧zX H i f=some H':=by
 induction h with
 |a h=>exact⟨0,rfl,h,rfl⟩
 |@b e f x H H' β _ ih=>
  obtain⟨i,j,k,q⟩:=ih;exact⟨i+1,by simpa using j,k,by simp only[zX,q]⟩
inductive dR (ops:Array Oper) (E:sB):Option (Nat×Bool)→Prop
 |p:dR ops E none
 |g {j dj:Nat} {b:Bool} {og:Oper} (hj:ops[j]?=some og) (hdj:og.dst=some dj) (hl:jS E dj=some (.vc (pB b))):dR ops E (some (j,b))
theorem u5{α β γ:Type}{a:Option α}{b:α→Option β}{f:α→β→Option γ}{r:γ}(h:(a.bind fun x=>(b x).bind fun y=>f x y)=some r):∃x,a=some x∧∃y,b x=some y∧f x y=some r:=by
 obtain⟨x,e,h⟩:=aR h;exact⟨x,e,aR h⟩
theorem bn3{α β γ δ:Type}{a:Option α}{b:α→Option β}{c:α→β→Option γ}{f:α→β→γ→Option δ}{r:δ}(h:(a.bind fun x=>(b x).bind fun y=>(c x y).bind fun z=>f x y z)=some r):∃x,a=some x∧∃y,b x=some y∧∃z,c x y=some z∧f x y z=some r:=by
 obtain⟨x,e,h⟩:=aR h;exact⟨x,e,u5 h⟩
theorem bn4{α β γ δ ε:Type}{a:Option α}{b:α→Option β}{c:α→β→Option γ}{d:α→β→γ→Option δ}{f:α→β→γ→δ→Option ε}{r:ε}(h:(a.bind fun x=>(b x).bind fun y=>(c x y).bind fun z=>(d x y z).bind fun t=>f x y z t)=some r):∃x,a=some x∧∃y,b x=some y∧∃z,c x y=some z∧∃t,d x y z=some t∧f x y z t=some r:=by
 obtain⟨x,e,h⟩:=aR h;exact⟨x,e,bn3 h⟩
theorem uS{α β:Type}{o:Option α}{f:α→Option β}{v:α}{r:β}(h:o=some v)(k:o.bind f=some r):f v=some r:=by rw[h]at k;exact k
theorem bE{α β:Type}{o:Option α}{f:α→Option β}{q:β}{C:α→Prop}(h:o.bind f=some q)(c:∀{r:α},o=some r→C r):∃v,C v∧f v=some q:=by
 obtain⟨v,e,h⟩:=aR h;exact⟨v,c e,h⟩
section
variable {S:Sx} {κ:Kt} {H H':List HA} {E:sB} {ops:Array Oper} {rest:List Oper} {Q:Prop} {ty:TypeId} {pos:String} {af:Array Edge} {g:Option (Nat×Bool)} {d:Nat}
theorem lZ{op:Op}{ins:List (Operand×VP)}{out:VP}(t:Tr S ⟨some d,op,ty,pos,af,g⟩ H H' ins out)(e:xG E ins)(j:dR ops E g)(f:Nat.blt d S.N=true)(k:GL S ops κ rest H' ((d,out)::E) Q):GL S ops κ (⟨some d,op,ty,pos,af,g⟩::rest) H E Q:=by
 refine⟨fun q=>?_⟩;cases j with
 |p=>exact aG t e (k.h q) rfl rfl f
 |g s hdj u=>exact wS t e (k.h q) rfl s hdj u rfl f
theorem b_n{op:Op}{j dj:Nat}{b b':Bool}{og:Oper}(e:ops[j]?=some og)(hdj:og.dst=some dj)(f:jS E dj=some (.vc (pB b')))(hb:(b' != b)=true)(s:Nat.blt d S.N=true)(k:GL S ops κ rest H ((d,.un)::E) Q):GL S ops κ (⟨some d,op,ty,pos,af,some (j,b)⟩::rest) H E Q:=⟨fun q=>aBU (k.h q) rfl e hdj f hb rfl s⟩
theorem b_u{op:Op}{j dj:Nat}{b:Bool}{og:Oper}(e:ops[j]?=some og)(hdj:og.dst=some dj)(f:jS E dj=some .un)(s:Nat.blt d S.N=true)(k:GL S ops κ rest H ((d,.un)::E) Q):GL S ops κ (⟨some d,op,ty,pos,af,some (j,b)⟩::rest) H E Q:=⟨fun q=>aWt (k.h q) rfl e hdj f rfl s⟩
end
class Mix (P:Program):Prop where
 h:P.follows .mixedOrders=true
def t0(l:List Oper)(ms:List Nat)(E:sB)(outs:List Ou)(G:Gh)(i:Nat):Operand→Option VP
 | .tmp d=>aAr l ms E outs G i d
 | .const (.int k n)=>some (.vc (pI k n))
 | .const (.bool b)=>some (.vc (pB b))
 |_=>none
theorem bP{l:List Oper}{ms:List Nat}{E:sB}{outs:List Ou}{G:Gh}{i:Nat}:∀{x:Operand} {p:VP},t0 l ms E outs G i x=some p→aS5 l ms E outs G i x p
 | .tmp d,p,h=>h
 | .const (.int k n),p,h=>by cases h;exact rT k n
 | .const (.bool b),p,h=>by cases h;exact k_B b
def aUM(l:List Oper)(ms:List Nat)(E:sB)(outs:List Ou)(G:Gh)(i:Nat):List Operand→Option (List VP)
 |[]=>some []
 |x::r=>(t0 l ms E outs G i x).bind fun p=>(aUM l ms E outs G i r).bind fun ps=>some (p::ps)
theorem aFH{l:List Oper}{ms:List Nat}{E:sB}{outs:List Ou}{G:Gh}{i:Nat}:∀{r:List Operand} {ps:List VP},aUM l ms E outs G i r=some ps→aGJ l ms E outs G i (r.zip ps)∧r.length=ps.length
 |[],ps,h=>by cases h;exact⟨trivial,rfl⟩
 |x::r,ps,h=>by
  obtain⟨p,f,h⟩:=Option.bind_eq_some_iff.1 h;obtain⟨qs,e,h⟩:=Option.bind_eq_some_iff.1 h;cases h;exact⟨⟨bP f,(aFH e).1⟩,congrArg (·+1) (aFH e).2⟩
theorem iX.app{H A:List HA}{β:Option Nat}{e:HA}(h:iX H β e):iX (H++A) β e:=by
 induction h with
 |a h=>exact .a h
 |b _ ih=>exact .b ih
inductive GD (l:List Oper) (ms:List Nat) (E:sB) (outs:List Ou) (i:Nat):Option (Nat×Bool)→Prop
 |p:GD l ms E outs i none
 |g {j d:Nat} {b:Bool} (hd:(l[j]?).bind (·.dst)=some d) (hl:∀G,aAr l ms E outs G i d=some (.vc (pB b))):GD l ms E outs i (some (j,b))
structure DN (S:Sx) (H:List HA) (l0:List Oper) (ms:List Nat) (E:sB) (outs:List Ou) (n i:Nat) (l:List Oper) (r:List Ou):Prop where
 h:aH5 S (fun _ _=>H) [] l0 ms E outs i l r
 len:r.length=n
section
variable {S:Sx} {H:List HA} {l0 l:List Oper} {ms:List Nat} {E:sB} {outs r:List Ou} {n i d:Nat} {ty:TypeId} {pos:String} {af:Array Edge} {g:Option (Nat×Bool)}
theorem aS0(hr:r=[]):DN S H l0 ms E outs 0 i l r:=by subst hr;exact⟨by cases l<;>trivial,rfl⟩
theorem aH8{o:Oper}{q:Ou}(e:o.dst.all (Nat.blt · S.N)=true)(f:DOp S (fun _ _=>H) [] l0 ms E outs i o q)(k:DN S H l0 ms E outs n (i+1) l r):DN S H l0 ms E outs (n+1) i (o::l) (q::r):=⟨⟨⟨e,f⟩,k.h⟩,congrArg (·+1) k.len⟩
theorem jG{op:Op}{ins:List (Operand×VP)}{out:VP}(t:∀A,Tr S ⟨some d,op,ty,pos,af,g⟩ (H++A) (H++A) ins out)(hs:∀G,aGJ l0 ms E outs G i ins)(h:Nat.blt d S.N=true)(j:GD l0 ms E outs i g)(e:mQ ms [] i [0]=true){f:List Ou}(hr:f=.v out::r)(k:DN S H l0 ms E outs n (i+1) l r):DN S H l0 ms E outs (n+1) i (⟨some d,op,ty,pos,af,g⟩::l) f:=by
 subst hr;refine aH8 h ?_ k;cases j with
 |p=>exact .run (L:=[0]) (ins:=fun _=>ins) ⟨fun _ A=>t A,trivial⟩ hs rfl e rfl
 |g q s=>exact .runG (L:=[0]) (ins:=fun _=>ins) ⟨fun _ A=>t A,trivial⟩ hs rfl q s e rfl
theorem e_n{e:List Ou}{op:Op}{j dj:Nat}{b b':Bool}(f:(l0[j]?).bind (·.dst)=some dj)(h:∀G,aAr l0 ms E outs G i dj=some (.vc (pB b')))(hb:(b' != b)=true)(q:Nat.blt d S.N=true)(hr:e=.v .un::r)(k:DN S H l0 ms E outs n (i+1) l r):DN S H l0 ms E outs (n+1) i (⟨some d,op,ty,pos,af,some (j,b)⟩::l) e:=hr▸aH8 q (.skipN rfl f h hb rfl) k
theorem e_u{e:List Ou}{op:Op}{j dj:Nat}{b:Bool}(f:(l0[j]?).bind (·.dst)=some dj)(h:∀G,aAr l0 ms E outs G i dj=some .un)(q:Nat.blt d S.N=true)(hr:e=.v .un::r)(k:DN S H l0 ms E outs n (i+1) l r):DN S H l0 ms E outs (n+1) i (⟨some d,op,ty,pos,af,some (j,b)⟩::l) e:=hr▸aH8 q (.skipU rfl f h rfl) k
end
section
variable {S:Sx} {κ:Kt} {H H':List HA} {E:sB} {ops:Array Oper} {rest:List Oper} {Q:Prop} {ty:TypeId} {pos:String} {af:Array Edge} {g:Option (Nat×Bool)} {d:Nat} {l0 l:List Oper} {ms:List Nat} {outs ro:List Ou} {n i:Nat}
theorem aWw{x:Operand}{p:VP}(e:ev E x=some p)(f:Nat.blt d S.N=true)(h:dR ops E g)(k:GL S ops κ rest H ((d,p)::E) Q):GL S ops κ (⟨some d,.move x,ty,pos,af,g⟩::rest) H E Q:=
 lZ (aP (.inl rfl)) ⟨eA e,trivial⟩ h f k
theorem aVD{x:Operand}{p:VP}(f:∀G,t0 l0 ms E outs G i x=some p)(h:Nat.blt d S.N=true)(j:GD l0 ms E outs i g)(k:mQ ms [] i [0]=true){e:List Ou}(hr:e=.v (p)::ro)(kk:DN S H l0 ms E outs n (i+1) l ro):DN S H l0 ms E outs (n+1) i (⟨some d,.move x,ty,pos,af,g⟩::l) e:=
 jG (fun A=>aP (.inl rfl)) (fun G=>⟨bP (f G),trivial⟩) h j k hr kk
theorem aVe{x:Operand}{b:Bool}{w:Bool}(f:∀G,t0 l0 ms E outs G i x=some (.vc (pB b)))(h:Nat.blt d S.N=true)(j:GD l0 ms E outs i g)(k:mQ ms [] i [0]=true)(hb:b=w){e:List Ou}(hr:e=.v (.vc (pB w))::ro)(kk:DN S H l0 ms E outs n (i+1) l ro):DN S H l0 ms E outs (n+1) i (⟨some d,.move x,ty,pos,af,g⟩::l) e:=
 jG (fun A=>oG (aP (.inl rfl)) hb) (fun G=>⟨bP (f G),trivial⟩) h j k hr kk
theorem aVS{x:Operand}{p:VP}(e:ev E x=some p)(f:Nat.blt d S.N=true)(h:dR ops E g)(k:GL S ops κ rest H ((d,p)::E) Q):GL S ops κ (⟨some d,.assign x,ty,pos,af,g⟩::rest) H E Q:=
 lZ (aP (.inr rfl)) ⟨eA e,trivial⟩ h f k
theorem aVI{x:Operand}{p:VP}(f:∀G,t0 l0 ms E outs G i x=some p)(h:Nat.blt d S.N=true)(j:GD l0 ms E outs i g)(k:mQ ms [] i [0]=true){e:List Ou}(hr:e=.v (p)::ro)(kk:DN S H l0 ms E outs n (i+1) l ro):DN S H l0 ms E outs (n+1) i (⟨some d,.assign x,ty,pos,af,g⟩::l) e:=
 jG (fun A=>aP (.inr rfl)) (fun G=>⟨bP (f G),trivial⟩) h j k hr kk
theorem aWp{x:Operand}{b:Bool}{w:Bool}(f:∀G,t0 l0 ms E outs G i x=some (.vc (pB b)))(h:Nat.blt d S.N=true)(j:GD l0 ms E outs i g)(k:mQ ms [] i [0]=true)(hb:b=w){e:List Ou}(hr:e=.v (.vc (pB w))::ro)(kk:DN S H l0 ms E outs n (i+1) l ro):DN S H l0 ms E outs (n+1) i (⟨some d,.assign x,ty,pos,af,g⟩::l) e:=
 jG (fun A=>oG (aP (.inr rfl)) hb) (fun G=>⟨bP (f G),trivial⟩) h j k hr kk
theorem aU8{α:Type}{C:Cd α}{t e bytes:Nat}{x y:Operand}{xs:List α}{j:Int}{z:α}{k:IntKind}(f:ev E x=some (.vc (pS C xs)))(h:ev E y=some (.vc (pI k j)))(q:TyS S.P t e C.n bytes)(s:Nat.blt d S.N=true)(u:dR ops E g)(F:bR xs j=some z)(k:GL S ops κ rest H ((d,.vc (pM (C.e z)))::E) Q):GL S ops κ (⟨some d,.indexAddr t x y,ty,pos,af,g⟩::rest) H E Q:=
 lZ (aGl rfl q F) ⟨eA f,eA h,trivial⟩ u s k
theorem aVZ{α:Type}{C:Cd α}{t e bytes:Nat}{x y:Operand}{xs:List α}{j:Int}{z:α}{k:IntKind}(h:∀G,t0 l0 ms E outs G i x=some (.vc (pS C xs)))(q:∀G,t0 l0 ms E outs G i y=some (.vc (pI k j)))(s:TyS S.P t e C.n bytes)(u:Nat.blt d S.N=true)(F:GD l0 ms E outs i g)(I:mQ ms [] i [0]=true)(J:bR xs j=some z){f:List Ou}(hr:f=.v (.vc (pM (C.e z)))::ro)(kk:DN S H l0 ms E outs n (i+1) l ro):DN S H l0 ms E outs (n+1) i (⟨some d,.indexAddr t x y,ty,pos,af,g⟩::l) f:=
 jG (fun A=>aGl rfl s J) (fun G=>⟨bP (h G),bP (q G),trivial⟩) u F I hr kk
theorem aSN{s f k:Nat}{x:Operand}{ps:List CP}(e:ev E x=some (.vc (pM ps)))(h:TyF S.P s f k)(j:Nat.blt d S.N=true)(q:dR ops E g)(k:GL S ops κ rest H ((d,.vc (pM (ps.drop k)))::E) Q):GL S ops κ (⟨some d,.fieldAddr s x f,ty,pos,af,g⟩::rest) H E Q:=
 lZ (aPh rfl h) ⟨eA e,trivial⟩ q j k
theorem aSm{s f k:Nat}{x:Operand}{ps:List CP}(h:∀G,t0 l0 ms E outs G i x=some (.vc (pM ps)))(j:TyF S.P s f k)(q:Nat.blt d S.N=true)(t:GD l0 ms E outs i g)(u:mQ ms [] i [0]=true){e:List Ou}(hr:e=.v (.vc (pM (ps.drop k)))::ro)(kk:DN S H l0 ms E outs n (i+1) l ro):DN S H l0 ms E outs (n+1) i (⟨some d,.fieldAddr s x f,ty,pos,af,g⟩::l) e:=
 jG (fun A=>aPh rfl j) (fun G=>⟨bP (h G),trivial⟩) q t u hr kk
theorem aVL{s f off k:Nat}{x:Operand}{β:Option Nat}(e:ev E x=some (.vc (pP β off)))(h:TyF S.P s f k)(j:Nat.blt d S.N=true)(q:dR ops E g)(k:GL S ops κ rest H ((d,.vc (pP β (off+k)))::E) Q):GL S ops κ (⟨some d,.fieldAddr s x f,ty,pos,af,g⟩::rest) H E Q:=
 lZ (iG rfl h) ⟨eA e,trivial⟩ q j k
theorem aWu{s f off k:Nat}{x:Operand}{β:Option Nat}(h:∀G,t0 l0 ms E outs G i x=some (.vc (pP β off)))(j:TyF S.P s f k)(q:Nat.blt d S.N=true)(t:GD l0 ms E outs i g)(u:mQ ms [] i [0]=true){e:List Ou}(hr:e=.v (.vc (pP β (off+k)))::ro)(kk:DN S H l0 ms E outs n (i+1) l ro):DN S H l0 ms E outs (n+1) i (⟨some d,.fieldAddr s x f,ty,pos,af,g⟩::l) e:=
 jG (fun A=>iG rfl j) (fun G=>⟨bP (h G),trivial⟩) q t u hr kk
theorem aSl{s f n off k:Nat}{x:Operand}{β:Option Nat}{j:Int}(e:ev E x=some (.vc (pE β j n off)))(h:TyF S.P s f k)(q:Nat.blt d S.N=true)(t:dR ops E g)(k:GL S ops κ rest H ((d,.vc (pE β j n (off+k)))::E) Q):GL S ops κ (⟨some d,.fieldAddr s x f,ty,pos,af,g⟩::rest) H E Q:=
 lZ (aSu rfl h) ⟨eA e,trivial⟩ t q k
theorem aSt{s f n off k:Nat}{x:Operand}{β:Option Nat}{j:Int}(h:∀G,t0 l0 ms E outs G i x=some (.vc (pE β j n off)))(q:TyF S.P s f k)(t:Nat.blt d S.N=true)(u:GD l0 ms E outs i g)(y:mQ ms [] i [0]=true){e:List Ou}(hr:e=.v (.vc (pE β j n (off+k)))::ro)(kk:DN S H l0 ms E outs n (i+1) l ro):DN S H l0 ms E outs (n+1) i (⟨some d,.fieldAddr s x f,ty,pos,af,g⟩::l) e:=
 jG (fun A=>aSu rfl q) (fun G=>⟨bP (h G),trivial⟩) t u y hr kk
theorem aTm{t:Nat}{x:Operand}{ps:List CP}{q:CP}(e:ev E x=some (.vc (pM ps)))(f:Ty1 S.P t)(hq:uQ 1 ps=some [q])(h:Nat.blt d S.N=true)(j:dR ops E g)(k:GL S ops κ rest H ((d,.vc q)::E) Q):GL S ops κ (⟨some d,.load t x,ty,pos,af,g⟩::rest) H E Q:=
 lZ (aDm 1 rfl hq (.one f)) ⟨eA e,trivial⟩ j h k
theorem aTn{t:Nat}{x:Operand}{ps:List CP}{q:CP}(f:∀G,t0 l0 ms E outs G i x=some (.vc (pM ps)))(h:Ty1 S.P t)(hq:uQ 1 ps=some [q])(j:Nat.blt d S.N=true)(k:GD l0 ms E outs i g)(s:mQ ms [] i [0]=true){e:List Ou}(hr:e=.v (.vc q)::ro)(kk:DN S H l0 ms E outs n (i+1) l ro):DN S H l0 ms E outs (n+1) i (⟨some d,.load t x,ty,pos,af,g⟩::l) e:=
 jG (fun A=>aDm 1 rfl hq (.one h)) (fun G=>⟨bP (f G),trivial⟩) j k s hr kk
theorem aSv{t q:Nat}{x:Operand}{ps qs:List CP}(e:ev E x=some (.vc (pM ps)))(f:TyA S.P t q)(hq:uQ q ps=some qs)(h:Nat.blt d S.N=true)(j:dR ops E g)(k:GL S ops κ rest H ((d,.va qs)::E) Q):GL S ops κ (⟨some d,.load t x,ty,pos,af,g⟩::rest) H E Q:=
 lZ (aDm q rfl hq (.agg f (yL hq))) ⟨eA e,trivial⟩ j h k
theorem aTA{t q:Nat}{x:Operand}{ps qs:List CP}(f:∀G,t0 l0 ms E outs G i x=some (.vc (pM ps)))(h:TyA S.P t q)(hq:uQ q ps=some qs)(j:Nat.blt d S.N=true)(k:GD l0 ms E outs i g)(s:mQ ms [] i [0]=true){e:List Ou}(hr:e=.v (.va qs)::ro)(kk:DN S H l0 ms E outs n (i+1) l ro):DN S H l0 ms E outs (n+1) i (⟨some d,.load t x,ty,pos,af,g⟩::l) e:=
 jG (fun A=>aDm q rfl hq (.agg h (yL hq))) (fun G=>⟨bP (f G),trivial⟩) j k s hr kk
theorem aWk{t off:Nat}{x:Operand}{β:Option Nat}{e:HA}{q:CP}(j:ev E x=some (.vc (pP β off)))(s:Ty1 S.P t)(u:iX H β e)(hq:uQ 1 (e.ps.drop off)=some [q])(y:Nat.blt d S.N=true)(z:dR ops E g)(k:GL S ops κ rest H ((d,.vc q)::E) Q):GL S ops κ (⟨some d,.load t x,ty,pos,af,g⟩::rest) H E Q:=by
 obtain⟨i,f,h⟩:=u.at;exact lZ (gM i 1 rfl f h hq (.one s)) ⟨eA j,trivial⟩ z y k
theorem aVa{t off:Nat}{x:Operand}{β:Option Nat}{e:HA}{q:CP}(k:∀G,t0 l0 ms E outs G i x=some (.vc (pP β off)))(s:Ty1 S.P t)(u:iX H β e)(hq:uQ 1 (e.ps.drop off)=some [q])(y:Nat.blt d S.N=true)(z:GD l0 ms E outs i g)(F:mQ ms [] i [0]=true){j:List Ou}(hr:j=.v (.vc q)::ro)(kk:DN S H l0 ms E outs n (i+1) l ro):DN S H l0 ms E outs (n+1) i (⟨some d,.load t x,ty,pos,af,g⟩::l) j:=by
 refine jG (ins:=[(x,(.vc (pP β off)))]) (fun A=>?_) (fun G=>⟨bP (k G),trivial⟩) y z F hr kk;obtain⟨i,f,h⟩:=(u.app (A:=A)).at;exact gM i 1 rfl f h hq (.one s)
theorem aVF{t m off:Nat}{x:Operand}{β:Option Nat}{e:HA}{qs:List CP}(j:ev E x=some (.vc (pP β off)))(q:TyA S.P t m)(s:iX H β e)(hq:uQ m (e.ps.drop off)=some qs)(u:Nat.blt d S.N=true)(y:dR ops E g)(k:GL S ops κ rest H ((d,.va qs)::E) Q):GL S ops κ (⟨some d,.load t x,ty,pos,af,g⟩::rest) H E Q:=by
 obtain⟨i,f,h⟩:=s.at;exact lZ (gM i m rfl f h hq (.agg q (yL hq))) ⟨eA j,trivial⟩ y u k
theorem aVN{t m off:Nat}{x:Operand}{β:Option Nat}{e:HA}{qs:List CP}(k:∀G,t0 l0 ms E outs G i x=some (.vc (pP β off)))(q:TyA S.P t m)(s:iX H β e)(hq:uQ m (e.ps.drop off)=some qs)(u:Nat.blt d S.N=true)(y:GD l0 ms E outs i g)(z:mQ ms [] i [0]=true){j:List Ou}(hr:j=.v (.va qs)::ro)(kk:DN S H l0 ms E outs n (i+1) l ro):DN S H l0 ms E outs (n+1) i (⟨some d,.load t x,ty,pos,af,g⟩::l) j:=by
 refine jG (ins:=[(x,(.vc (pP β off)))]) (fun A=>?_) (fun G=>⟨bP (k G),trivial⟩) u y z hr kk;obtain⟨i,f,h⟩:=(s.app (A:=A)).at;exact gM i m rfl f h hq (.agg q (yL hq))
theorem aSQ{α:Type}{C:Cd α}{xs:List α}{β:Option Nat}{c T f:Nat}{t e bytes:Nat}{x y:Operand}{j:Int}{k:IntKind}{z:α}(s:ev E x=some (.vc (pO β f c)))(u:ev E y=some (.vc (pI k j)))(F:iX H β (hO C β c T f xs))(G:xs.length=f)(I:TyS S.P t e C.n bytes)(J:Nat.blt d S.N=true)(K:dR ops E g)(q:bR xs j=some z)(k:GL S ops κ rest H ((d,.vc (pE β j C.n 0))::E) Q):GL S ops κ (⟨some d,.indexAddr t x y,ty,pos,af,g⟩::rest) H E Q:=by
 obtain⟨i,h,L⟩:=F.at;exact lZ (dX i rfl I h G (aB q).1 (aB q).2.1) ⟨eA s,eA u,trivial⟩ K J k
theorem aTz{α:Type}{C:Cd α}{xs:List α}{β:Option Nat}{c T f:Nat}{t e bytes:Nat}{x y:Operand}{j:Int}{k:IntKind}{z:α}(u:∀G,t0 l0 ms E outs G i x=some (.vc (pO β f c)))(F:∀G,t0 l0 ms E outs G i y=some (.vc (pI k j)))(I:iX H β (hO C β c T f xs))(J:xs.length=f)(K:TyS S.P t e C.n bytes)(L:Nat.blt d S.N=true)(O:GD l0 ms E outs i g)(U:mQ ms [] i [0]=true)(q:bR xs j=some z){s:List Ou}(hr:s=.v (.vc (pE β j C.n 0))::ro)(kk:DN S H l0 ms E outs n (i+1) l ro):DN S H l0 ms E outs (n+1) i (⟨some d,.indexAddr t x y,ty,pos,af,g⟩::l) s:=by
 refine jG (ins:=[(x,(.vc (pO β f c))),(y,(.vc (pI k j)))]) (fun A=>?_) (fun G=>⟨bP (u G),bP (F G),trivial⟩) L O U hr kk;obtain⟨i,h,V⟩:=(I.app (A:=A)).at;exact dX i rfl K h J (aB q).1 (aB q).2.1
theorem aSL{α:Type}{C:Cd α}{xs:List α}{β:Option Nat}{c T f:Nat}{t e k bytes:Nat}{x:Operand}(h:ev E x=some (.vc (pO β f c)))(j:iX H β (hO C β c T f xs))(q:xs.length=f)(s:TyS S.P t e k bytes)(u:Nat.blt d S.N=true)(y:dR ops E g)(k:GL S ops κ rest H ((d,.vc (pI .i64 xs.length))::E) Q):GL S ops κ (⟨some d,.call {callee:=.builtin .len,args:=#[x],argTypes:=#[t]},ty,pos,af,g⟩::rest) H E Q:=by
 obtain⟨i,z,F⟩:=j.at;exact lZ (aBS (C:=C) (T:=T) rfl s q) ⟨eA h,trivial⟩ y u k
theorem aS3{α:Type}{C:Cd α}{xs:List α}{β:Option Nat}{c T f:Nat}{t e k bytes:Nat}{x:Operand}(j:∀G,t0 l0 ms E outs G i x=some (.vc (pO β f c)))(q:iX H β (hO C β c T f xs))(s:xs.length=f)(u:TyS S.P t e k bytes)(y:Nat.blt d S.N=true)(z:GD l0 ms E outs i g)(F:mQ ms [] i [0]=true){h:List Ou}(hr:h=.v (.vc (pI .i64 xs.length))::ro)(kk:DN S H l0 ms E outs n (i+1) l ro):DN S H l0 ms E outs (n+1) i (⟨some d,.call {callee:=.builtin .len,args:=#[x],argTypes:=#[t]},ty,pos,af,g⟩::l) h:=by
 refine jG (ins:=[(x,(.vc (pO β f c)))]) (fun A=>?_) (fun G=>⟨bP (j G),trivial⟩) y z F hr kk;obtain⟨i,I,J⟩:=(q.app (A:=A)).at;exact aBS (C:=C) (T:=T) rfl u s
theorem aPc{α:Type}{C:Cd α}{xs:List α}{β:Option Nat}{c T h:Nat}{t off m:Nat}{x:Operand}{j:Int}{z:α}{q:CP}(s:ev E x=some (.vc (pE β j m off)))(u:iX H β (hO C β c T h xs))(hm:C.n=m)(y:bR xs j=some z)(F:Ty1 S.P t)(hq:uQ 1 ((C.e z).drop off)=some [q])(G:Nat.ble (off+1) C.n=true)(I:Nat.blt d S.N=true)(J:dR ops E g)(k:GL S ops κ rest H ((d,.vc q)::E) Q):GL S ops κ (⟨some d,.load t x,ty,pos,af,g⟩::rest) H E Q:=by
 subst hm;obtain⟨i,f,K⟩:=u.at;exact lZ (gZ (k:=1) i rfl f y hq (.one F) G) ⟨eA s,trivial⟩ J I k
theorem aQl{α:Type}{C:Cd α}{xs:List α}{β:Option Nat}{c T s:Nat}{t off m:Nat}{x:Operand}{j:Int}{z:α}{q:CP}(u:∀G,t0 l0 ms E outs G i x=some (.vc (pE β j m off)))(y:iX H β (hO C β c T s xs))(hm:C.n=m)(F:bR xs j=some z)(I:Ty1 S.P t)(hq:uQ 1 ((C.e z).drop off)=some [q])(J:Nat.ble (off+1) C.n=true)(K:Nat.blt d S.N=true)(L:GD l0 ms E outs i g)(O:mQ ms [] i [0]=true){h:List Ou}(hr:h=.v (.vc q)::ro)(kk:DN S H l0 ms E outs n (i+1) l ro):DN S H l0 ms E outs (n+1) i (⟨some d,.load t x,ty,pos,af,g⟩::l) h:=by
 subst hm;refine jG (ins:=[(x,(.vc (pE β j C.n off)))]) (fun A=>?_) (fun G=>⟨bP (u G),trivial⟩) K L O hr kk;obtain⟨i,f,U⟩:=(y.app (A:=A)).at;exact gZ (k:=1) i rfl f F hq (.one I) J
theorem aP9{α:Type}{C:Cd α}{xs:List α}{β:Option Nat}{c T h:Nat}{t off m u:Nat}{x:Operand}{j:Int}{z:α}{qs:List CP}(q:ev E x=some (.vc (pE β j m off)))(s:iX H β (hO C β c T h xs))(hm:C.n=m)(y:bR xs j=some z)(F:TyA S.P t u)(hq:uQ u ((C.e z).drop off)=some qs)(G:Nat.ble (off+u) C.n=true)(I:Nat.blt d S.N=true)(J:dR ops E g)(k:GL S ops κ rest H ((d,.va qs)::E) Q):GL S ops κ (⟨some d,.load t x,ty,pos,af,g⟩::rest) H E Q:=by
 subst hm;obtain⟨i,f,K⟩:=s.at;exact lZ (gZ (k:=u) i rfl f y hq (.agg F (yL hq)) G) ⟨eA q,trivial⟩ J I k
theorem aQu{α:Type}{C:Cd α}{xs:List α}{β:Option Nat}{c T q:Nat}{t off m u:Nat}{x:Operand}{j:Int}{z:α}{qs:List CP}(s:∀G,t0 l0 ms E outs G i x=some (.vc (pE β j m off)))(y:iX H β (hO C β c T q xs))(hm:C.n=m)(F:bR xs j=some z)(I:TyA S.P t u)(hq:uQ u ((C.e z).drop off)=some qs)(J:Nat.ble (off+u) C.n=true)(K:Nat.blt d S.N=true)(L:GD l0 ms E outs i g)(O:mQ ms [] i [0]=true){h:List Ou}(hr:h=.v (.va qs)::ro)(kk:DN S H l0 ms E outs n (i+1) l ro):DN S H l0 ms E outs (n+1) i (⟨some d,.load t x,ty,pos,af,g⟩::l) h:=by
 subst hm;refine jG (ins:=[(x,(.vc (pE β j C.n off)))]) (fun A=>?_) (fun G=>⟨bP (s G),trivial⟩) K L O hr kk;obtain⟨i,f,U⟩:=(y.app (A:=A)).at;exact gZ (k:=u) i rfl f F hq (.agg I (yL hq)) J
theorem ty1s{P:Program}{t:Nat}[h:Ty1 P t]:(P.info? t).map (·.size)=some 1:=h.s
theorem tyAs{P:Program}{t k:Nat}[h:TyA P t k]:(P.info? t).map (·.size)=some k:=h.s
theorem aNa{α:Type}{C:Cd α}{xs zs:List α}{β:Option Nat}{c T f:Nat}{t off m u:Nat}{x y:Operand}{j:Int}{z z':α}{p:VP}(s:ev E x=some (.vc (pE β j m off)))(F:ev E y=some p)(O:iX H β (hO C β c T f xs))(hm:C.n=m)(G:bR xs j=some z)(hs:rX xs j z'=some zs)(I:(S.P.info? t).map (·.size)=some u)(hr:z7 H β (hO C β c T f xs) (hO C β c T f zs) H')(hp:p.flat)(J:p.cells.length=u)(hq:xY (C.e z) off p.cells=some (C.e z'))(k:GL S ops κ rest H' E Q):GL S ops κ (⟨none,.store t x y,ty,pos,af,none⟩::rest) H E Q:=by
 obtain⟨i,K,U,L⟩:=hr.at;subst hm;exact⟨fun q=>mI (xK i rfl K G hs I hp J hq L) ⟨eA s,eA F,trivial⟩ (k.h q) rfl rfl⟩
theorem aVc{α:Type}{C:Cd α}{xs:List α}{t e q bytes:Nat}{x:Operand}(f:ev E x=some (.vc (pS C xs)))(h:TyS S.P t e q bytes)(j:Nat.blt d S.N=true)(s:dR ops E g)(k:GL S ops κ rest H ((d,.vc (pI .i64 xs.length))::E) Q):GL S ops κ (⟨some d,.call {callee:=.builtin .len,args:=#[x],argTypes:=#[t]},ty,pos,af,g⟩::rest) H E Q:=
 lZ (aIU rfl h) ⟨eA f,trivial⟩ s j k
theorem aVs{α:Type}{C:Cd α}{xs:List α}{t e q bytes:Nat}{x:Operand}(h:∀G,t0 l0 ms E outs G i x=some (.vc (pS C xs)))(j:TyS S.P t e q bytes)(k:Nat.blt d S.N=true)(s:GD l0 ms E outs i g)(u:mQ ms [] i [0]=true){f:List Ou}(hr:f=.v (.vc (pI .i64 xs.length))::ro)(kk:DN S H l0 ms E outs n (i+1) l ro):DN S H l0 ms E outs (n+1) i (⟨some d,.call {callee:=.builtin .len,args:=#[x],argTypes:=#[t]},ty,pos,af,g⟩::l) f:=
 jG (fun A=>aIU rfl j) (fun G=>⟨bP (h G),trivial⟩) k s u hr kk
theorem aWg{T T':Nat}{x y:Operand}{u v:Int}{k:IntKind}(e:ev E x=some (.vc (pI k u)))(f:ev E y=some (.vc (pI k v)))(h:Nat.blt d S.N=true)(j:dR ops E g)(k:GL S ops κ rest H ((d,.vc (pB (decide (u<v))))::E) Q):GL S ops κ (⟨some d,.binOp .lss T x y T',ty,pos,af,g⟩::rest) H E Q:=
 lZ (aHh rfl) ⟨eA e,eA f,trivial⟩ j h k
theorem aVu{T T':Nat}{x y:Operand}{u v:Int}{k:IntKind}(f:∀G,t0 l0 ms E outs G i x=some (.vc (pI k u)))(h:∀G,t0 l0 ms E outs G i y=some (.vc (pI k v)))(j:Nat.blt d S.N=true)(q:GD l0 ms E outs i g)(s:mQ ms [] i [0]=true){e:List Ou}(hr:e=.v (.vc (pB (decide (u<v))))::ro)(kk:DN S H l0 ms E outs n (i+1) l ro):DN S H l0 ms E outs (n+1) i (⟨some d,.binOp .lss T x y T',ty,pos,af,g⟩::l) e:=
 jG (fun A=>aHh rfl) (fun G=>⟨bP (f G),bP (h G),trivial⟩) j q s hr kk
theorem aV4{T T':Nat}{x y:Operand}{u v:Int}{k:IntKind}{w:Bool}(f:∀G,t0 l0 ms E outs G i x=some (.vc (pI k u)))(h:∀G,t0 l0 ms E outs G i y=some (.vc (pI k v)))(j:Nat.blt d S.N=true)(q:GD l0 ms E outs i g)(s:mQ ms [] i [0]=true)(hb:(decide (u<v))=w){e:List Ou}(hr:e=.v (.vc (pB w))::ro)(kk:DN S H l0 ms E outs n (i+1) l ro):DN S H l0 ms E outs (n+1) i (⟨some d,.binOp .lss T x y T',ty,pos,af,g⟩::l) e:=
 jG (fun A=>oG (aHh rfl) hb) (fun G=>⟨bP (f G),bP (h G),trivial⟩) j q s hr kk
theorem aVl{T T':Nat}{x y:Operand}{u v:Int}{k:IntKind}(e:ev E x=some (.vc (pI k u)))(f:ev E y=some (.vc (pI k v)))(h:Nat.blt d S.N=true)(j:dR ops E g)(k:GL S ops κ rest H ((d,.vc (pB (u==v)))::E) Q):GL S ops κ (⟨some d,.binOp .eql T x y T',ty,pos,af,g⟩::rest) H E Q:=
 lZ (aRN rfl) ⟨eA e,eA f,trivial⟩ j h k
theorem aVA{T T':Nat}{x y:Operand}{u v:Int}{k:IntKind}(f:∀G,t0 l0 ms E outs G i x=some (.vc (pI k u)))(h:∀G,t0 l0 ms E outs G i y=some (.vc (pI k v)))(j:Nat.blt d S.N=true)(q:GD l0 ms E outs i g)(s:mQ ms [] i [0]=true){e:List Ou}(hr:e=.v (.vc (pB (u==v)))::ro)(kk:DN S H l0 ms E outs n (i+1) l ro):DN S H l0 ms E outs (n+1) i (⟨some d,.binOp .eql T x y T',ty,pos,af,g⟩::l) e:=
 jG (fun A=>aRN rfl) (fun G=>⟨bP (f G),bP (h G),trivial⟩) j q s hr kk
theorem aVz{T T':Nat}{x y:Operand}{u v:Int}{k:IntKind}{w:Bool}(f:∀G,t0 l0 ms E outs G i x=some (.vc (pI k u)))(h:∀G,t0 l0 ms E outs G i y=some (.vc (pI k v)))(j:Nat.blt d S.N=true)(q:GD l0 ms E outs i g)(s:mQ ms [] i [0]=true)(hb:(u==v)=w){e:List Ou}(hr:e=.v (.vc (pB w))::ro)(kk:DN S H l0 ms E outs n (i+1) l ro):DN S H l0 ms E outs (n+1) i (⟨some d,.binOp .eql T x y T',ty,pos,af,g⟩::l) e:=
 jG (fun A=>oG (aRN rfl) hb) (fun G=>⟨bP (f G),bP (h G),trivial⟩) j q s hr kk
theorem aV2{T T':Nat}{x y:Operand}{u v:Int}{k:IntKind}(e:ev E x=some (.vc (pI k u)))(f:ev E y=some (.vc (pI k v)))(h:Nat.blt d S.N=true)(j:dR ops E g)(k:GL S ops κ rest H ((d,.vc (pB (u != v)))::E) Q):GL S ops κ (⟨some d,.binOp .neq T x y T',ty,pos,af,g⟩::rest) H E Q:=
 lZ (aO2 rfl) ⟨eA e,eA f,trivial⟩ j h k
theorem aU3{T T':Nat}{x y:Operand}{u v:Int}{k:IntKind}(f:∀G,t0 l0 ms E outs G i x=some (.vc (pI k u)))(h:∀G,t0 l0 ms E outs G i y=some (.vc (pI k v)))(j:Nat.blt d S.N=true)(q:GD l0 ms E outs i g)(s:mQ ms [] i [0]=true){e:List Ou}(hr:e=.v (.vc (pB (u != v)))::ro)(kk:DN S H l0 ms E outs n (i+1) l ro):DN S H l0 ms E outs (n+1) i (⟨some d,.binOp .neq T x y T',ty,pos,af,g⟩::l) e:=
 jG (fun A=>aO2 rfl) (fun G=>⟨bP (f G),bP (h G),trivial⟩) j q s hr kk
theorem aWA{T T':Nat}{x y:Operand}{u v:Int}{k:IntKind}{w:Bool}(f:∀G,t0 l0 ms E outs G i x=some (.vc (pI k u)))(h:∀G,t0 l0 ms E outs G i y=some (.vc (pI k v)))(j:Nat.blt d S.N=true)(q:GD l0 ms E outs i g)(s:mQ ms [] i [0]=true)(hb:(u != v)=w){e:List Ou}(hr:e=.v (.vc (pB w))::ro)(kk:DN S H l0 ms E outs n (i+1) l ro):DN S H l0 ms E outs (n+1) i (⟨some d,.binOp .neq T x y T',ty,pos,af,g⟩::l) e:=
 jG (fun A=>oG (aO2 rfl) hb) (fun G=>⟨bP (f G),bP (h G),trivial⟩) j q s hr kk
theorem aWx{T T':Nat}{x y:Operand}{u v:Int}{k:IntKind}(e:ev E x=some (.vc (pI k u)))(f:ev E y=some (.vc (pI k v)))(h:Nat.blt d S.N=true)(j:dR ops E g)(k:GL S ops κ rest H ((d,.vc (pB (decide (u≤v))))::E) Q):GL S ops κ (⟨some d,.binOp .leq T x y T',ty,pos,af,g⟩::rest) H E Q:=
 lZ (aRo rfl) ⟨eA e,eA f,trivial⟩ j h k
theorem aV3{T T':Nat}{x y:Operand}{u v:Int}{k:IntKind}(f:∀G,t0 l0 ms E outs G i x=some (.vc (pI k u)))(h:∀G,t0 l0 ms E outs G i y=some (.vc (pI k v)))(j:Nat.blt d S.N=true)(q:GD l0 ms E outs i g)(s:mQ ms [] i [0]=true){e:List Ou}(hr:e=.v (.vc (pB (decide (u≤v))))::ro)(kk:DN S H l0 ms E outs n (i+1) l ro):DN S H l0 ms E outs (n+1) i (⟨some d,.binOp .leq T x y T',ty,pos,af,g⟩::l) e:=
 jG (fun A=>aRo rfl) (fun G=>⟨bP (f G),bP (h G),trivial⟩) j q s hr kk
theorem aVR{T T':Nat}{x y:Operand}{u v:Int}{k:IntKind}{w:Bool}(f:∀G,t0 l0 ms E outs G i x=some (.vc (pI k u)))(h:∀G,t0 l0 ms E outs G i y=some (.vc (pI k v)))(j:Nat.blt d S.N=true)(q:GD l0 ms E outs i g)(s:mQ ms [] i [0]=true)(hb:(decide (u≤v))=w){e:List Ou}(hr:e=.v (.vc (pB w))::ro)(kk:DN S H l0 ms E outs n (i+1) l ro):DN S H l0 ms E outs (n+1) i (⟨some d,.binOp .leq T x y T',ty,pos,af,g⟩::l) e:=
 jG (fun A=>oG (aRo rfl) hb) (fun G=>⟨bP (f G),bP (h G),trivial⟩) j q s hr kk
theorem aVX{T T':Nat}{x y:Operand}{u v:Int}{k:IntKind}(e:ev E x=some (.vc (pI k u)))(f:ev E y=some (.vc (pI k v)))(h:Nat.blt d S.N=true)(j:dR ops E g)(k:GL S ops κ rest H ((d,.vc (pB (decide (v<u))))::E) Q):GL S ops κ (⟨some d,.binOp .gtr T x y T',ty,pos,af,g⟩::rest) H E Q:=
 lZ (aNz rfl) ⟨eA e,eA f,trivial⟩ j h k
theorem aVH{T T':Nat}{x y:Operand}{u v:Int}{k:IntKind}(f:∀G,t0 l0 ms E outs G i x=some (.vc (pI k u)))(h:∀G,t0 l0 ms E outs G i y=some (.vc (pI k v)))(j:Nat.blt d S.N=true)(q:GD l0 ms E outs i g)(s:mQ ms [] i [0]=true){e:List Ou}(hr:e=.v (.vc (pB (decide (v<u))))::ro)(kk:DN S H l0 ms E outs n (i+1) l ro):DN S H l0 ms E outs (n+1) i (⟨some d,.binOp .gtr T x y T',ty,pos,af,g⟩::l) e:=
 jG (fun A=>aNz rfl) (fun G=>⟨bP (f G),bP (h G),trivial⟩) j q s hr kk
theorem aWa{T T':Nat}{x y:Operand}{u v:Int}{k:IntKind}{w:Bool}(f:∀G,t0 l0 ms E outs G i x=some (.vc (pI k u)))(h:∀G,t0 l0 ms E outs G i y=some (.vc (pI k v)))(j:Nat.blt d S.N=true)(q:GD l0 ms E outs i g)(s:mQ ms [] i [0]=true)(hb:(decide (v<u))=w){e:List Ou}(hr:e=.v (.vc (pB w))::ro)(kk:DN S H l0 ms E outs n (i+1) l ro):DN S H l0 ms E outs (n+1) i (⟨some d,.binOp .gtr T x y T',ty,pos,af,g⟩::l) e:=
 jG (fun A=>oG (aNz rfl) hb) (fun G=>⟨bP (f G),bP (h G),trivial⟩) j q s hr kk
theorem aWb{T T':Nat}{x y:Operand}{u v:Int}{k:IntKind}(e:ev E x=some (.vc (pI k u)))(f:ev E y=some (.vc (pI k v)))(h:Nat.blt d S.N=true)(j:dR ops E g)(k:GL S ops κ rest H ((d,.vc (pB (decide (v≤u))))::E) Q):GL S ops κ (⟨some d,.binOp .geq T x y T',ty,pos,af,g⟩::rest) H E Q:=
 lZ (aT8 rfl) ⟨eA e,eA f,trivial⟩ j h k
theorem aVf{T T':Nat}{x y:Operand}{u v:Int}{k:IntKind}(f:∀G,t0 l0 ms E outs G i x=some (.vc (pI k u)))(h:∀G,t0 l0 ms E outs G i y=some (.vc (pI k v)))(j:Nat.blt d S.N=true)(q:GD l0 ms E outs i g)(s:mQ ms [] i [0]=true){e:List Ou}(hr:e=.v (.vc (pB (decide (v≤u))))::ro)(kk:DN S H l0 ms E outs n (i+1) l ro):DN S H l0 ms E outs (n+1) i (⟨some d,.binOp .geq T x y T',ty,pos,af,g⟩::l) e:=
 jG (fun A=>aT8 rfl) (fun G=>⟨bP (f G),bP (h G),trivial⟩) j q s hr kk
theorem aU6{T T':Nat}{x y:Operand}{u v:Int}{k:IntKind}{w:Bool}(f:∀G,t0 l0 ms E outs G i x=some (.vc (pI k u)))(h:∀G,t0 l0 ms E outs G i y=some (.vc (pI k v)))(j:Nat.blt d S.N=true)(q:GD l0 ms E outs i g)(s:mQ ms [] i [0]=true)(hb:(decide (v≤u))=w){e:List Ou}(hr:e=.v (.vc (pB w))::ro)(kk:DN S H l0 ms E outs n (i+1) l ro):DN S H l0 ms E outs (n+1) i (⟨some d,.binOp .geq T x y T',ty,pos,af,g⟩::l) e:=
 jG (fun A=>oG (aT8 rfl) hb) (fun G=>⟨bP (f G),bP (h G),trivial⟩) j q s hr kk
theorem aSE{T T':Nat}{x y:Operand}{u v r:Int}(e:ev E x=some (.vc (pI .i64 u)))(f:ev E y=some (.vc (pI .i64 v)))(j:Nat.blt d S.N=true)(q:dR ops E g)(h:aV (u+v)=some r)(k:GL S ops κ rest H ((d,.vc (pI .i64 r))::E) Q):GL S ops κ (⟨some d,.binOp .add T x y T',ty,pos,af,g⟩::rest) H E Q:=
 lZ (y8 rfl h) ⟨eA e,eA f,trivial⟩ q j k
theorem aTa{T T':Nat}{x y:Operand}{u v r:Int}(f:∀G,t0 l0 ms E outs G i x=some (.vc (pI .i64 u)))(j:∀G,t0 l0 ms E outs G i y=some (.vc (pI .i64 v)))(k:Nat.blt d S.N=true)(q:GD l0 ms E outs i g)(s:mQ ms [] i [0]=true)(h:aV (u+v)=some r){e:List Ou}(hr:e=.v (.vc (pI .i64 r))::ro)(kk:DN S H l0 ms E outs n (i+1) l ro):DN S H l0 ms E outs (n+1) i (⟨some d,.binOp .add T x y T',ty,pos,af,g⟩::l) e:=
 jG (fun A=>y8 rfl h) (fun G=>⟨bP (f G),bP (j G),trivial⟩) k q s hr kk
theorem aS8{T T':Nat}{x y:Operand}{u v r:Int}(e:ev E x=some (.vc (pI .i64 u)))(f:ev E y=some (.vc (pI .i64 v)))(j:Nat.blt d S.N=true)(q:dR ops E g)(h:aV (u-v)=some r)(k:GL S ops κ rest H ((d,.vc (pI .i64 r))::E) Q):GL S ops κ (⟨some d,.binOp .sub T x y T',ty,pos,af,g⟩::rest) H E Q:=
 lZ (aQH rfl h) ⟨eA e,eA f,trivial⟩ q j k
theorem aSw{T T':Nat}{x y:Operand}{u v r:Int}(f:∀G,t0 l0 ms E outs G i x=some (.vc (pI .i64 u)))(j:∀G,t0 l0 ms E outs G i y=some (.vc (pI .i64 v)))(k:Nat.blt d S.N=true)(q:GD l0 ms E outs i g)(s:mQ ms [] i [0]=true)(h:aV (u-v)=some r){e:List Ou}(hr:e=.v (.vc (pI .i64 r))::ro)(kk:DN S H l0 ms E outs n (i+1) l ro):DN S H l0 ms E outs (n+1) i (⟨some d,.binOp .sub T x y T',ty,pos,af,g⟩::l) e:=
 jG (fun A=>aQH rfl h) (fun G=>⟨bP (f G),bP (j G),trivial⟩) k q s hr kk
theorem aTh{T T':Nat}{x y:Operand}{u v r:Int}(e:ev E x=some (.vc (pI .i64 u)))(f:ev E y=some (.vc (pI .i64 v)))(j:Nat.blt d S.N=true)(q:dR ops E g)(h:aV (u*v)=some r)(k:GL S ops κ rest H ((d,.vc (pI .i64 r))::E) Q):GL S ops κ (⟨some d,.binOp .mul T x y T',ty,pos,af,g⟩::rest) H E Q:=
 lZ (aGp rfl h) ⟨eA e,eA f,trivial⟩ q j k
theorem aSC{T T':Nat}{x y:Operand}{u v r:Int}(f:∀G,t0 l0 ms E outs G i x=some (.vc (pI .i64 u)))(j:∀G,t0 l0 ms E outs G i y=some (.vc (pI .i64 v)))(k:Nat.blt d S.N=true)(q:GD l0 ms E outs i g)(s:mQ ms [] i [0]=true)(h:aV (u*v)=some r){e:List Ou}(hr:e=.v (.vc (pI .i64 r))::ro)(kk:DN S H l0 ms E outs n (i+1) l ro):DN S H l0 ms E outs (n+1) i (⟨some d,.binOp .mul T x y T',ty,pos,af,g⟩::l) e:=
 jG (fun A=>aGp rfl h) (fun G=>⟨bP (f G),bP (j G),trivial⟩) k q s hr kk
theorem aSX{T T':Nat}{x y:Operand}{u v r:Int}(e:ev E x=some (.vc (pI .i64 u)))(f:ev E y=some (.vc (pI .i64 v)))(j:Nat.blt d S.N=true)(q:dR ops E g)(h:chq u v=some r)(k:GL S ops κ rest H ((d,.vc (pI .i64 r))::E) Q):GL S ops κ (⟨some d,.binOp .quo T x y T',ty,pos,af,g⟩::rest) H E Q:=
 lZ (aLN rfl h) ⟨eA e,eA f,trivial⟩ q j k
theorem aTt{T T':Nat}{x y:Operand}{u v r:Int}(f:∀G,t0 l0 ms E outs G i x=some (.vc (pI .i64 u)))(j:∀G,t0 l0 ms E outs G i y=some (.vc (pI .i64 v)))(k:Nat.blt d S.N=true)(q:GD l0 ms E outs i g)(s:mQ ms [] i [0]=true)(h:chq u v=some r){e:List Ou}(hr:e=.v (.vc (pI .i64 r))::ro)(kk:DN S H l0 ms E outs n (i+1) l ro):DN S H l0 ms E outs (n+1) i (⟨some d,.binOp .quo T x y T',ty,pos,af,g⟩::l) e:=
 jG (fun A=>aLN rfl h) (fun G=>⟨bP (f G),bP (j G),trivial⟩) k q s hr kk
theorem aSF{T T':Nat}{x y:Operand}{u v r:Int}{k:IntKind}(e:ev E x=some (.vc (pI k u)))(f:ev E y=some (.vc (pI k v)))(j:Nat.blt d S.N=true)(q:dR ops E g)(h:chr u v=some r)(k:GL S ops κ rest H ((d,.vc (pI k r))::E) Q):GL S ops κ (⟨some d,.binOp .rem T x y T',ty,pos,af,g⟩::rest) H E Q:=
 lZ (aHF rfl h) ⟨eA e,eA f,trivial⟩ q j k
theorem aSk{T T':Nat}{x y:Operand}{u v r:Int}{k:IntKind}(f:∀G,t0 l0 ms E outs G i x=some (.vc (pI k u)))(j:∀G,t0 l0 ms E outs G i y=some (.vc (pI k v)))(q:Nat.blt d S.N=true)(s:GD l0 ms E outs i g)(t:mQ ms [] i [0]=true)(h:chr u v=some r){e:List Ou}(hr:e=.v (.vc (pI k r))::ro)(kk:DN S H l0 ms E outs n (i+1) l ro):DN S H l0 ms E outs (n+1) i (⟨some d,.binOp .rem T x y T',ty,pos,af,g⟩::l) e:=
 jG (fun A=>aHF rfl h) (fun G=>⟨bP (f G),bP (j G),trivial⟩) q s t hr kk
theorem aTl{T:Nat}{x:Operand}{u:Bool}(e:ev E x=some (.vc (pB u)))(f:Nat.blt d S.N=true)(h:dR ops E g)(k:GL S ops κ rest H ((d,.vc (pB (!u)))::E) Q):GL S ops κ (⟨some d,.unOp .not T x,ty,pos,af,g⟩::rest) H E Q:=
 lZ (aNb rfl) ⟨eA e,trivial⟩ h f k
theorem aSY{T:Nat}{x:Operand}{u:Bool}(f:∀G,t0 l0 ms E outs G i x=some (.vc (pB u)))(h:Nat.blt d S.N=true)(j:GD l0 ms E outs i g)(k:mQ ms [] i [0]=true){e:List Ou}(hr:e=.v (.vc (pB (!u)))::ro)(kk:DN S H l0 ms E outs n (i+1) l ro):DN S H l0 ms E outs (n+1) i (⟨some d,.unOp .not T x,ty,pos,af,g⟩::l) e:=
 jG (fun A=>aNb rfl) (fun G=>⟨bP (f G),trivial⟩) h j k hr kk
theorem aUu{T:Nat}{x:Operand}{u:Bool}{w:Bool}(f:∀G,t0 l0 ms E outs G i x=some (.vc (pB u)))(h:Nat.blt d S.N=true)(j:GD l0 ms E outs i g)(k:mQ ms [] i [0]=true)(hb:(!u)=w){e:List Ou}(hr:e=.v (.vc (pB w))::ro)(kk:DN S H l0 ms E outs n (i+1) l ro):DN S H l0 ms E outs (n+1) i (⟨some d,.unOp .not T x,ty,pos,af,g⟩::l) e:=
 jG (fun A=>oG (aNb rfl) hb) (fun G=>⟨bP (f G),trivial⟩) h j k hr kk
theorem aTq{T:Nat}{x:Operand}{u r:Int}(e:ev E x=some (.vc (pI .i64 u)))(f:Nat.blt d S.N=true)(j:dR ops E g)(h:aV (-u)=some r)(k:GL S ops κ rest H ((d,.vc (pI .i64 r))::E) Q):GL S ops κ (⟨some d,.unOp .neg T x,ty,pos,af,g⟩::rest) H E Q:=
 lZ (aTk rfl h) ⟨eA e,trivial⟩ j f k
theorem aTc{T:Nat}{x:Operand}{u r:Int}(f:∀G,t0 l0 ms E outs G i x=some (.vc (pI .i64 u)))(j:Nat.blt d S.N=true)(k:GD l0 ms E outs i g)(q:mQ ms [] i [0]=true)(h:aV (-u)=some r){e:List Ou}(hr:e=.v (.vc (pI .i64 r))::ro)(kk:DN S H l0 ms E outs n (i+1) l ro):DN S H l0 ms E outs (n+1) i (⟨some d,.unOp .neg T x,ty,pos,af,g⟩::l) e:=
 jG (fun A=>aTk rfl h) (fun G=>⟨bP (f G),trivial⟩) j k q hr kk
theorem aSz{x:Operand}{p q:VP}(e:ev E x=some (.t2 p q))(f:Nat.blt d S.N=true)(h:dR ops E g)(k:GL S ops κ rest H ((d,p)::E) Q):GL S ops κ (⟨some d,.extract x 0,ty,pos,af,g⟩::rest) H E Q:=
 lZ (aH7 rfl) ⟨eA e,trivial⟩ h f k
theorem aTx{x:Operand}{p q:VP}(f:∀G,t0 l0 ms E outs G i x=some (.t2 p q))(h:Nat.blt d S.N=true)(j:GD l0 ms E outs i g)(k:mQ ms [] i [0]=true){e:List Ou}(hr:e=.v (p)::ro)(kk:DN S H l0 ms E outs n (i+1) l ro):DN S H l0 ms E outs (n+1) i (⟨some d,.extract x 0,ty,pos,af,g⟩::l) e:=
 jG (fun A=>aH7 rfl) (fun G=>⟨bP (f G),trivial⟩) h j k hr kk
theorem aSs{x:Operand}{p q:VP}(e:ev E x=some (.t2 p q))(f:Nat.blt d S.N=true)(h:dR ops E g)(k:GL S ops κ rest H ((d,q)::E) Q):GL S ops κ (⟨some d,.extract x 1,ty,pos,af,g⟩::rest) H E Q:=
 lZ (aIE rfl) ⟨eA e,trivial⟩ h f k
theorem aTw{x:Operand}{p q:VP}(f:∀G,t0 l0 ms E outs G i x=some (.t2 p q))(h:Nat.blt d S.N=true)(j:GD l0 ms E outs i g)(k:mQ ms [] i [0]=true){e:List Ou}(hr:e=.v (q)::ro)(kk:DN S H l0 ms E outs n (i+1) l ro):DN S H l0 ms E outs (n+1) i (⟨some d,.extract x 1,ty,pos,af,g⟩::l) e:=
 jG (fun A=>aIE rfl) (fun G=>⟨bP (f G),trivial⟩) h j k hr kk
theorem aTD{x:Operand}{p q r:VP}(e:ev E x=some (.t3 p q r))(f:Nat.blt d S.N=true)(h:dR ops E g)(k:GL S ops κ rest H ((d,p)::E) Q):GL S ops κ (⟨some d,.extract x 0,ty,pos,af,g⟩::rest) H E Q:=
 lZ (aNc rfl) ⟨eA e,trivial⟩ h f k
theorem aSU{x:Operand}{p q r:VP}(f:∀G,t0 l0 ms E outs G i x=some (.t3 p q r))(h:Nat.blt d S.N=true)(j:GD l0 ms E outs i g)(k:mQ ms [] i [0]=true){e:List Ou}(hr:e=.v (p)::ro)(kk:DN S H l0 ms E outs n (i+1) l ro):DN S H l0 ms E outs (n+1) i (⟨some d,.extract x 0,ty,pos,af,g⟩::l) e:=
 jG (fun A=>aNc rfl) (fun G=>⟨bP (f G),trivial⟩) h j k hr kk
theorem aS4{x:Operand}{p q r:VP}(e:ev E x=some (.t3 p q r))(f:Nat.blt d S.N=true)(h:dR ops E g)(k:GL S ops κ rest H ((d,q)::E) Q):GL S ops κ (⟨some d,.extract x 1,ty,pos,af,g⟩::rest) H E Q:=
 lZ (aMo rfl) ⟨eA e,trivial⟩ h f k
theorem aSx{x:Operand}{p q r:VP}(f:∀G,t0 l0 ms E outs G i x=some (.t3 p q r))(h:Nat.blt d S.N=true)(j:GD l0 ms E outs i g)(k:mQ ms [] i [0]=true){e:List Ou}(hr:e=.v (q)::ro)(kk:DN S H l0 ms E outs n (i+1) l ro):DN S H l0 ms E outs (n+1) i (⟨some d,.extract x 1,ty,pos,af,g⟩::l) e:=
 jG (fun A=>aMo rfl) (fun G=>⟨bP (f G),trivial⟩) h j k hr kk
theorem aTC{x:Operand}{p q r:VP}(e:ev E x=some (.t3 p q r))(f:Nat.blt d S.N=true)(h:dR ops E g)(k:GL S ops κ rest H ((d,r)::E) Q):GL S ops κ (⟨some d,.extract x 2,ty,pos,af,g⟩::rest) H E Q:=
 lZ (aMl rfl) ⟨eA e,trivial⟩ h f k
theorem aS1{x:Operand}{p q r:VP}(f:∀G,t0 l0 ms E outs G i x=some (.t3 p q r))(h:Nat.blt d S.N=true)(j:GD l0 ms E outs i g)(k:mQ ms [] i [0]=true){e:List Ou}(hr:e=.v (r)::ro)(kk:DN S H l0 ms E outs n (i+1) l ro):DN S H l0 ms E outs (n+1) i (⟨some d,.extract x 2,ty,pos,af,g⟩::l) e:=
 jG (fun A=>aMl rfl) (fun G=>⟨bP (f G),trivial⟩) h j k hr kk
theorem aU1{x y:Operand}{u v:Int}{ts:Array TypeId}(e:ev E x=some (.vc (pI .i64 u)))(f:ev E y=some (.vc (pI .i64 v)))(h:Nat.blt d S.N=true)(j:dR ops E g)(k:GL S ops κ rest H ((d,.vc (pI .i64 (min u v)))::E) Q):GL S ops κ (⟨some d,.call {callee:=.builtin .min,args:=#[x,y],argTypes:=ts},ty,pos,af,g⟩::rest) H E Q:=
 lZ (aS9 rfl) ⟨eA e,eA f,trivial⟩ j h k
theorem aVq{x y:Operand}{u v:Int}{ts:Array TypeId}(f:∀G,t0 l0 ms E outs G i x=some (.vc (pI .i64 u)))(h:∀G,t0 l0 ms E outs G i y=some (.vc (pI .i64 v)))(j:Nat.blt d S.N=true)(k:GD l0 ms E outs i g)(q:mQ ms [] i [0]=true){e:List Ou}(hr:e=.v (.vc (pI .i64 (min u v)))::ro)(kk:DN S H l0 ms E outs n (i+1) l ro):DN S H l0 ms E outs (n+1) i (⟨some d,.call {callee:=.builtin .min,args:=#[x,y],argTypes:=ts},ty,pos,af,g⟩::l) e:=
 jG (fun A=>aS9 rfl) (fun G=>⟨bP (f G),bP (h G),trivial⟩) j k q hr kk
theorem aVB{x y:Operand}{u v:Int}{ts:Array TypeId}(e:ev E x=some (.vc (pI .i64 u)))(f:ev E y=some (.vc (pI .i64 v)))(h:Nat.blt d S.N=true)(j:dR ops E g)(k:GL S ops κ rest H ((d,.vc (pI .i64 (max u v)))::E) Q):GL S ops κ (⟨some d,.call {callee:=.builtin .max,args:=#[x,y],argTypes:=ts},ty,pos,af,g⟩::rest) H E Q:=
 lZ (aTg rfl) ⟨eA e,eA f,trivial⟩ j h k
theorem aVU{x y:Operand}{u v:Int}{ts:Array TypeId}(f:∀G,t0 l0 ms E outs G i x=some (.vc (pI .i64 u)))(h:∀G,t0 l0 ms E outs G i y=some (.vc (pI .i64 v)))(j:Nat.blt d S.N=true)(k:GD l0 ms E outs i g)(q:mQ ms [] i [0]=true){e:List Ou}(hr:e=.v (.vc (pI .i64 (max u v)))::ro)(kk:DN S H l0 ms E outs n (i+1) l ro):DN S H l0 ms E outs (n+1) i (⟨some d,.call {callee:=.builtin .max,args:=#[x,y],argTypes:=ts},ty,pos,af,g⟩::l) e:=
 jG (fun A=>aTg rfl) (fun G=>⟨bP (f G),bP (h G),trivial⟩) j k q hr kk
theorem aU5{α:Type}{C:Cd α}{xs zs:List α}{t e bytes:Nat}{x y:Operand}{f:Int}{k:IntKind}(j:ev E x=some (.vc (pS C xs)))(q:ev E y=some (.vc (pI k f)))(s:TyS S.P t e C.n bytes)(u:Nat.blt d S.N=true)(z:dR ops E g)(h:slL xs 0 f=some zs)(k:GL S ops κ rest H ((d,.vc (pS C zs))::E) Q):GL S ops κ (⟨some d,.slice t x none (some y) none,ty,pos,af,g⟩::rest) H E Q:=
 lZ (aFk rfl s h) ⟨eA j,eA q,trivial⟩ z u k
theorem aVg{α:Type}{C:Cd α}{xs zs:List α}{t e bytes:Nat}{x y:Operand}{f:Int}{k:IntKind}(q:∀G,t0 l0 ms E outs G i x=some (.vc (pS C xs)))(s:∀G,t0 l0 ms E outs G i y=some (.vc (pI k f)))(u:TyS S.P t e C.n bytes)(z:Nat.blt d S.N=true)(F:GD l0 ms E outs i g)(I:mQ ms [] i [0]=true)(h:slL xs 0 f=some zs){j:List Ou}(hr:j=.v (.vc (pS C zs))::ro)(kk:DN S H l0 ms E outs n (i+1) l ro):DN S H l0 ms E outs (n+1) i (⟨some d,.slice t x none (some y) none,ty,pos,af,g⟩::l) j:=
 jG (fun A=>aFk rfl u h) (fun G=>⟨bP (q G),bP (s G),trivial⟩) z F I hr kk
theorem aV7{α:Type}{C:Cd α}{xs zs:List α}{t e bytes:Nat}{x y:Operand}{lo:Int}{k:IntKind}(f:ev E x=some (.vc (pS C xs)))(j:ev E y=some (.vc (pI k lo)))(q:TyS S.P t e C.n bytes)(s:Nat.blt d S.N=true)(u:dR ops E g)(h:slL xs lo xs.length=some zs)(k:GL S ops κ rest H ((d,.vc (pS C zs))::E) Q):GL S ops κ (⟨some d,.slice t x (some y) none none,ty,pos,af,g⟩::rest) H E Q:=
 lZ (aOD rfl q h) ⟨eA f,eA j,trivial⟩ u s k
theorem aWe{α:Type}{C:Cd α}{xs zs:List α}{t e bytes:Nat}{x y:Operand}{lo:Int}{k:IntKind}(j:∀G,t0 l0 ms E outs G i x=some (.vc (pS C xs)))(q:∀G,t0 l0 ms E outs G i y=some (.vc (pI k lo)))(s:TyS S.P t e C.n bytes)(u:Nat.blt d S.N=true)(z:GD l0 ms E outs i g)(F:mQ ms [] i [0]=true)(h:slL xs lo xs.length=some zs){f:List Ou}(hr:f=.v (.vc (pS C zs))::ro)(kk:DN S H l0 ms E outs n (i+1) l ro):DN S H l0 ms E outs (n+1) i (⟨some d,.slice t x (some y) none none,ty,pos,af,g⟩::l) f:=
 jG (fun A=>aOD rfl s h) (fun G=>⟨bP (j G),bP (q G),trivial⟩) u z F hr kk
theorem aSD{α:Type}{C:Cd α}{xs zs:List α}{t e bytes:Nat}{x y z:Operand}{lo f:Int}{k j:IntKind}(q:ev E x=some (.vc (pS C xs)))(s:ev E y=some (.vc (pI k lo)))(u:ev E z=some (.vc (pI j f)))(F:TyS S.P t e C.n bytes)(G:Nat.blt d S.N=true)(I:dR ops E g)(h:slL xs lo f=some zs)(k:GL S ops κ rest H ((d,.vc (pS C zs))::E) Q):GL S ops κ (⟨some d,.slice t x (some y) (some z) none,ty,pos,af,g⟩::rest) H E Q:=
 lZ (aLW rfl F h) ⟨eA q,eA s,eA u,trivial⟩ I G k
theorem aSp{α:Type}{C:Cd α}{xs zs:List α}{t e bytes:Nat}{x y z:Operand}{lo f:Int}{k q:IntKind}(s:∀G,t0 l0 ms E outs G i x=some (.vc (pS C xs)))(u:∀G,t0 l0 ms E outs G i y=some (.vc (pI k lo)))(F:∀G,t0 l0 ms E outs G i z=some (.vc (pI q f)))(I:TyS S.P t e C.n bytes)(J:Nat.blt d S.N=true)(K:GD l0 ms E outs i g)(L:mQ ms [] i [0]=true)(h:slL xs lo f=some zs){j:List Ou}(hr:j=.v (.vc (pS C zs))::ro)(kk:DN S H l0 ms E outs n (i+1) l ro):DN S H l0 ms E outs (n+1) i (⟨some d,.slice t x (some y) (some z) none,ty,pos,af,g⟩::l) j:=
 jG (fun A=>aLW rfl I h) (fun G=>⟨bP (s G),bP (u G),bP (F G),trivial⟩) J K L hr kk
theorem aWr{c x y:Operand}{p:VP}(hc:ev E c=some (.vc (pB true)))(e:ev E x=some p)(f:Nat.blt d S.N=true)(h:dR ops E g)(k:GL S ops κ rest H ((d,p)::E) Q):GL S ops κ (⟨some d,.pick c x y,ty,pos,af,g⟩::rest) H E Q:=
 lZ (xU rfl) ⟨eA hc,eA e,trivial⟩ h f k
theorem aVv{c x y:Operand}{p:VP}(hc:∀G,t0 l0 ms E outs G i c=some (.vc (pB true)))(f:∀G,t0 l0 ms E outs G i x=some p)(h:Nat.blt d S.N=true)(j:GD l0 ms E outs i g)(k:mQ ms [] i [0]=true){e:List Ou}(hr:e=.v (p)::ro)(kk:DN S H l0 ms E outs n (i+1) l ro):DN S H l0 ms E outs (n+1) i (⟨some d,.pick c x y,ty,pos,af,g⟩::l) e:=
 jG (fun A=>xU rfl) (fun G=>⟨bP (hc G),bP (f G),trivial⟩) h j k hr kk
theorem aU0{c x y:Operand}{p:VP}(hc:ev E c=some (.vc (pB false)))(e:ev E y=some p)(f:Nat.blt d S.N=true)(h:dR ops E g)(k:GL S ops κ rest H ((d,p)::E) Q):GL S ops κ (⟨some d,.pick c x y,ty,pos,af,g⟩::rest) H E Q:=
 lZ (aBH rfl) ⟨eA hc,eA e,trivial⟩ h f k
theorem aWs{c x y:Operand}{p:VP}(hc:∀G,t0 l0 ms E outs G i c=some (.vc (pB false)))(f:∀G,t0 l0 ms E outs G i y=some p)(h:Nat.blt d S.N=true)(j:GD l0 ms E outs i g)(k:mQ ms [] i [0]=true){e:List Ou}(hr:e=.v (p)::ro)(kk:DN S H l0 ms E outs n (i+1) l ro):DN S H l0 ms E outs (n+1) i (⟨some d,.pick c x y,ty,pos,af,g⟩::l) e:=
 jG (fun A=>aBH rfl) (fun G=>⟨bP (hc G),bP (f G),trivial⟩) h j k hr kk
theorem aWo{x:Operand}{β:Option Nat}{off:Nat}(e:ev E x=some (.vc (pP β off)))(f:Nat.blt d S.N=true)(h:dR ops E g)(k:GL S ops κ rest H ((d,.vc (pP β off))::E) Q):GL S ops κ (⟨some d,.nilCheck x,ty,pos,af,g⟩::rest) H E Q:=
 lZ (sY rfl) ⟨eA e,trivial⟩ h f k
theorem aVV{x:Operand}{β:Option Nat}{off:Nat}(f:∀G,t0 l0 ms E outs G i x=some (.vc (pP β off)))(h:Nat.blt d S.N=true)(j:GD l0 ms E outs i g)(k:mQ ms [] i [0]=true){e:List Ou}(hr:e=.v (.vc (pP β off))::ro)(kk:DN S H l0 ms E outs n (i+1) l ro):DN S H l0 ms E outs (n+1) i (⟨some d,.nilCheck x,ty,pos,af,g⟩::l) e:=
 jG (fun A=>sY rfl) (fun G=>⟨bP (f G),trivial⟩) h j k hr kk
theorem aSK{x:Operand}{β:Option Nat}{j:Int}{n f:Nat}(e:ev E x=some (.vc (pE β j n f)))(h:Nat.blt d S.N=true)(q:dR ops E g)(k:GL S ops κ rest H ((d,.vc (pE β j n f))::E) Q):GL S ops κ (⟨some d,.nilCheck x,ty,pos,af,g⟩::rest) H E Q:=
 lZ (aPE rfl) ⟨eA e,trivial⟩ q h k
theorem aSS{x:Operand}{β:Option Nat}{j:Int}{n f:Nat}(h:∀G,t0 l0 ms E outs G i x=some (.vc (pE β j n f)))(k:Nat.blt d S.N=true)(q:GD l0 ms E outs i g)(s:mQ ms [] i [0]=true){e:List Ou}(hr:e=.v (.vc (pE β j n f))::ro)(kk:DN S H l0 ms E outs n (i+1) l ro):DN S H l0 ms E outs (n+1) i (⟨some d,.nilCheck x,ty,pos,af,g⟩::l) e:=
 jG (fun A=>aPE rfl) (fun G=>⟨bP (h G),trivial⟩) k q s hr kk
theorem aTu{x:Operand}{ps:List CP}(e:ev E x=some (.vc (pM ps)))(f:Nat.blt d S.N=true)(h:dR ops E g)(k:GL S ops κ rest H ((d,.vc (pM ps))::E) Q):GL S ops κ (⟨some d,.nilCheck x,ty,pos,af,g⟩::rest) H E Q:=
 lZ (aQm rfl) ⟨eA e,trivial⟩ h f k
theorem aSG{x:Operand}{ps:List CP}(f:∀G,t0 l0 ms E outs G i x=some (.vc (pM ps)))(h:Nat.blt d S.N=true)(j:GD l0 ms E outs i g)(k:mQ ms [] i [0]=true){e:List Ou}(hr:e=.v (.vc (pM ps))::ro)(kk:DN S H l0 ms E outs n (i+1) l ro):DN S H l0 ms E outs (n+1) i (⟨some d,.nilCheck x,ty,pos,af,g⟩::l) e:=
 jG (fun A=>aQm rfl) (fun G=>⟨bP (f G),trivial⟩) h j k hr kk
theorem aOO{f:Nat}{xs:List Operand}{ps:List VP}{post:VP}{ts:Array TypeId}(he:evs E xs=some ps)(e:Nat.blt d S.N=true)(h:dR ops E g)(c:Ct S.P f ps post)(k:GL S ops κ rest H ((d,post)::E) Q):GL S ops κ (⟨some d,.call {callee:=.value (.func f),args:=xs.toArray,argTypes:=ts},ty,pos,af,g⟩::rest) H E Q:=
 lZ (bO rfl c (aH9 he).2) (aH9 he).1 h e k
theorem aSR{T:Nat}{zs:List CP}(f:TyZ S.P T zs)(h:Nat.blt d S.N=true){e:List Ou}(hr:e=.a T zs::ro)(k:DN S H l0 ms E outs n (i+1) l ro):DN S H l0 ms E outs (n+1) i (⟨some d,.alloc T,ty,pos,af,none⟩::l) e:=by
 subst hr;exact aH8 h (.alc f rfl rfl rfl) k
theorem aPb{f:Nat}{xs:List Operand}{ps:List VP}{post:VP}{ts:Array TypeId}(he:∀G,aUM l0 ms E outs G i xs=some ps)(h:Nat.blt d S.N=true)(j:GD l0 ms E outs i g)(q:mQ ms [] i [0]=true)(c:Ct S.P f ps post){e:List Ou}(hr:e=.v post::ro)(k:DN S H l0 ms E outs n (i+1) l ro):DN S H l0 ms E outs (n+1) i (⟨some d,.call {callee:=.value (.func f),args:=xs.toArray,argTypes:=ts},ty,pos,af,g⟩::l) e:=
 jG (fun A=>bO rfl c (aFH (he fun _=>(none,0))).2) (fun G=>(aFH (he G)).1) h j q hr k
theorem aWB{t off:Nat}{x y:Operand}{β:Option Nat}{e:HA}{p:VP}{ps:List CP}(f:ev E x=some (.vc (pP β off)))(j:ev E y=some p)(u:Ty1 S.P t)(z:z7 H β e ⟨e.β,e.c,e.T,e.sz,e.n,ps⟩ H')(hp:p.flat)(F:p.cells.length=1)(hq:xY e.ps off p.cells=some ps)(k:GL S ops κ rest H' E Q):GL S ops κ (⟨none,.store t x y,ty,pos,af,none⟩::rest) H E Q:=by
 obtain⟨i,G,I,J⟩:=z.at;exact⟨fun q=>mI (t_s i rfl G I u.s hp F hq J) ⟨eA f,eA j,trivial⟩ (k.h q) rfl rfl⟩
theorem aU4{t off r:Nat}{x y:Operand}{β:Option Nat}{e:HA}{p:VP}{ps:List CP}(f:ev E x=some (.vc (pP β off)))(j:ev E y=some p)(u:TyA S.P t r)(z:z7 H β e ⟨e.β,e.c,e.T,e.sz,e.n,ps⟩ H')(hp:p.flat)(F:p.cells.length=r)(hq:xY e.ps off p.cells=some ps)(k:GL S ops κ rest H' E Q):GL S ops κ (⟨none,.store t x y,ty,pos,af,none⟩::rest) H E Q:=by
 obtain⟨i,G,I,J⟩:=z.at;exact⟨fun q=>mI (t_s i rfl G I u.s hp F hq J) ⟨eA f,eA j,trivial⟩ (k.h q) rfl rfl⟩
theorem dr{id:Nat}(ms:List Nat)(m n:Nat)(outs:List Ou)(k:∀bs G,WL S l.toArray κ (l.drop outs.length) (aD7 bs 0 outs++H) (aD5 bs G 0 l outs++E))(hops:DN S H l ms E outs m 0 l outs:=by
 repeat (first
  |(apply aVD;exact fun _=>rfl;exact rfl;(first|exact GD.p|exact GD.g rfl (fun _=>rfl));exact rfl;exact rfl)
  |(apply aVI;exact fun _=>rfl;exact rfl;(first|exact GD.p|exact GD.g rfl (fun _=>rfl));exact rfl;exact rfl)
  |(apply e_n;exact rfl;exact fun _=>rfl;exact rfl;exact rfl;exact rfl)
  |(apply aVZ;exact fun _=>rfl;exact fun _=>rfl;exact inferInstance;exact rfl;(first|exact GD.p|exact GD.g rfl (fun _=>rfl));exact rfl;(with_reducible assumption);exact rfl)
  |(apply aSm;exact fun _=>rfl;exact inferInstance;exact rfl;(first|exact GD.p|exact GD.g rfl (fun _=>rfl));exact rfl;exact rfl)
  |(apply aWu;exact fun _=>rfl;exact inferInstance;exact rfl;(first|exact GD.p|exact GD.g rfl (fun _=>rfl));exact rfl;exact rfl)
  |(apply aSt;exact fun _=>rfl;exact inferInstance;exact rfl;(first|exact GD.p|exact GD.g rfl (fun _=>rfl));exact rfl;exact rfl)
  |(apply aTn;exact fun _=>rfl;exact inferInstance;exact rfl;exact rfl;(first|exact GD.p|exact GD.g rfl (fun _=>rfl));exact rfl;exact rfl)
  |(apply aTA;exact fun _=>rfl;exact inferInstance;exact rfl;exact rfl;(first|exact GD.p|exact GD.g rfl (fun _=>rfl));exact rfl;exact rfl)
  |(apply aVa;exact fun _=>rfl;exact inferInstance;(repeat (first|exact iX.a rfl|apply iX.b));exact rfl;exact rfl;(first|exact GD.p|exact GD.g rfl (fun _=>rfl));exact rfl;exact rfl)
  |(apply aVN;exact fun _=>rfl;exact inferInstance;(repeat (first|exact iX.a rfl|apply iX.b));exact rfl;exact rfl;(first|exact GD.p|exact GD.g rfl (fun _=>rfl));exact rfl;exact rfl)
  |(apply aTz;exact fun _=>rfl;exact fun _=>rfl;(repeat (first|exact iX.a rfl|apply iX.b));(first|exact rfl|with_reducible assumption|exact bI (by with_reducible assumption) (by first|with_reducible assumption|exact rfl));exact inferInstance;exact rfl;(first|exact GD.p|exact GD.g rfl (fun _=>rfl));exact rfl;(with_reducible assumption);exact rfl)
  |(apply aS3;exact fun _=>rfl;(repeat (first|exact iX.a rfl|apply iX.b));(first|exact rfl|with_reducible assumption|exact bI (by with_reducible assumption) (by first|with_reducible assumption|exact rfl));exact inferInstance;exact rfl;(first|exact GD.p|exact GD.g rfl (fun _=>rfl));exact rfl;exact rfl)
  |(apply aQl;exact fun _=>rfl;(repeat (first|exact iX.a rfl|apply iX.b));exact rfl;(with_reducible assumption);exact inferInstance;exact rfl;exact rfl;exact rfl;(first|exact GD.p|exact GD.g rfl (fun _=>rfl));exact rfl;exact rfl)
  |(apply aQu;exact fun _=>rfl;(repeat (first|exact iX.a rfl|apply iX.b));exact rfl;(with_reducible assumption);exact inferInstance;exact rfl;exact rfl;exact rfl;(first|exact GD.p|exact GD.g rfl (fun _=>rfl));exact rfl;exact rfl)
  |(apply aVs;exact fun _=>rfl;exact inferInstance;exact rfl;(first|exact GD.p|exact GD.g rfl (fun _=>rfl));exact rfl;exact rfl)
  |(apply aVu;exact fun _=>rfl;exact fun _=>rfl;exact rfl;(first|exact GD.p|exact GD.g rfl (fun _=>rfl));exact rfl;exact rfl)
  |(apply aVA;exact fun _=>rfl;exact fun _=>rfl;exact rfl;(first|exact GD.p|exact GD.g rfl (fun _=>rfl));exact rfl;exact rfl)
  |(apply aU3;exact fun _=>rfl;exact fun _=>rfl;exact rfl;(first|exact GD.p|exact GD.g rfl (fun _=>rfl));exact rfl;exact rfl)
  |(apply aV3;exact fun _=>rfl;exact fun _=>rfl;exact rfl;(first|exact GD.p|exact GD.g rfl (fun _=>rfl));exact rfl;exact rfl)
  |(apply aVH;exact fun _=>rfl;exact fun _=>rfl;exact rfl;(first|exact GD.p|exact GD.g rfl (fun _=>rfl));exact rfl;exact rfl)
  |(apply aVf;exact fun _=>rfl;exact fun _=>rfl;exact rfl;(first|exact GD.p|exact GD.g rfl (fun _=>rfl));exact rfl;exact rfl)
  |(apply aTa;exact fun _=>rfl;exact fun _=>rfl;exact rfl;(first|exact GD.p|exact GD.g rfl (fun _=>rfl));exact rfl;(with_reducible assumption);exact rfl)
  |(apply aSw;exact fun _=>rfl;exact fun _=>rfl;exact rfl;(first|exact GD.p|exact GD.g rfl (fun _=>rfl));exact rfl;(with_reducible assumption);exact rfl)
  |(apply aSC;exact fun _=>rfl;exact fun _=>rfl;exact rfl;(first|exact GD.p|exact GD.g rfl (fun _=>rfl));exact rfl;(with_reducible assumption);exact rfl)
  |(apply aTt;exact fun _=>rfl;exact fun _=>rfl;exact rfl;(first|exact GD.p|exact GD.g rfl (fun _=>rfl));exact rfl;(with_reducible assumption);exact rfl)
  |(apply aSk;exact fun _=>rfl;exact fun _=>rfl;exact rfl;(first|exact GD.p|exact GD.g rfl (fun _=>rfl));exact rfl;(with_reducible assumption);exact rfl)
  |(apply aSY;exact fun _=>rfl;exact rfl;(first|exact GD.p|exact GD.g rfl (fun _=>rfl));exact rfl;exact rfl)
  |(apply aTc;exact fun _=>rfl;exact rfl;(first|exact GD.p|exact GD.g rfl (fun _=>rfl));exact rfl;(with_reducible assumption);exact rfl)
  |(apply aTx;exact fun _=>rfl;exact rfl;(first|exact GD.p|exact GD.g rfl (fun _=>rfl));exact rfl;exact rfl)
  |(apply aTw;exact fun _=>rfl;exact rfl;(first|exact GD.p|exact GD.g rfl (fun _=>rfl));exact rfl;exact rfl)
  |(apply aSU;exact fun _=>rfl;exact rfl;(first|exact GD.p|exact GD.g rfl (fun _=>rfl));exact rfl;exact rfl)
  |(apply aSx;exact fun _=>rfl;exact rfl;(first|exact GD.p|exact GD.g rfl (fun _=>rfl));exact rfl;exact rfl)
  |(apply aS1;exact fun _=>rfl;exact rfl;(first|exact GD.p|exact GD.g rfl (fun _=>rfl));exact rfl;exact rfl)
  |(apply aVq;exact fun _=>rfl;exact fun _=>rfl;exact rfl;(first|exact GD.p|exact GD.g rfl (fun _=>rfl));exact rfl;exact rfl)
  |(apply aVU;exact fun _=>rfl;exact fun _=>rfl;exact rfl;(first|exact GD.p|exact GD.g rfl (fun _=>rfl));exact rfl;exact rfl)
  |(apply aVg;exact fun _=>rfl;exact fun _=>rfl;exact inferInstance;exact rfl;(first|exact GD.p|exact GD.g rfl (fun _=>rfl));exact rfl;(with_reducible assumption);exact rfl)
  |(apply aWe;exact fun _=>rfl;exact fun _=>rfl;exact inferInstance;exact rfl;(first|exact GD.p|exact GD.g rfl (fun _=>rfl));exact rfl;(with_reducible assumption);exact rfl)
  |(apply aSp;exact fun _=>rfl;exact fun _=>rfl;exact fun _=>rfl;exact inferInstance;exact rfl;(first|exact GD.p|exact GD.g rfl (fun _=>rfl));exact rfl;(with_reducible assumption);exact rfl)
  |(apply aVv;exact fun _=>rfl;exact fun _=>rfl;exact rfl;(first|exact GD.p|exact GD.g rfl (fun _=>rfl));exact rfl;exact rfl)
  |(apply aWs;exact fun _=>rfl;exact fun _=>rfl;exact rfl;(first|exact GD.p|exact GD.g rfl (fun _=>rfl));exact rfl;exact rfl)
  |(apply aVV;exact fun _=>rfl;exact rfl;(first|exact GD.p|exact GD.g rfl (fun _=>rfl));exact rfl;exact rfl)
  |(apply aSS;exact fun _=>rfl;exact rfl;(first|exact GD.p|exact GD.g rfl (fun _=>rfl));exact rfl;exact rfl)
  |(apply aSG;exact fun _=>rfl;exact rfl;(first|exact GD.p|exact GD.g rfl (fun _=>rfl));exact rfl;exact rfl)
  |(apply aPb;exact fun _=>rfl;exact rfl;(first|exact GD.p|exact GD.g rfl (fun _=>rfl));exact rfl;assumption;exact rfl)
  |(apply aSR;exact inferInstance;exact rfl;exact rfl)
  |(apply e_u;exact rfl;exact fun _=>rfl;exact rfl;exact rfl)
  |(apply aS0;exact rfl)))(hx:Mix S.P:=by infer_instance)
  (hm:aCY ms l ms=true:=by kernel_rfl)(hb:y5 l 0=true:=by kernel_rfl)(hq:aBW l=true:=by kernel_rfl)(hm2:Nat.beq l.length (m+n)=true:=by kernel_rfl)(ht:aDi l ms m n=true:=by kernel_rfl):WC S (.region id l.toArray true) κ H E:=
 kP ms m n outs hx.h hops.h k hm hb hq (by rw[hops.len];simp) hm2 ht
theorem drb{id:Nat}(ms:List Nat)(m n:Nat)(outs:List Ou)(k:∀bs G,WL S l.toArray κ (l.drop outs.length) (aD7 bs 0 outs++H) (aD5 bs G 0 l outs++E))(hops:DN S H l ms E outs m 0 l outs:=by
 repeat (first
  |(apply aVe;exact fun _=>rfl;exact rfl;(first|exact GD.p|exact GD.g rfl (fun _=>rfl));exact rfl;(with_reducible assumption);exact rfl)
  |(apply aWp;exact fun _=>rfl;exact rfl;(first|exact GD.p|exact GD.g rfl (fun _=>rfl));exact rfl;(with_reducible assumption);exact rfl)
  |(apply aV4;exact fun _=>rfl;exact fun _=>rfl;exact rfl;(first|exact GD.p|exact GD.g rfl (fun _=>rfl));exact rfl;(with_reducible assumption);exact rfl)
  |(apply aVz;exact fun _=>rfl;exact fun _=>rfl;exact rfl;(first|exact GD.p|exact GD.g rfl (fun _=>rfl));exact rfl;(with_reducible assumption);exact rfl)
  |(apply aWA;exact fun _=>rfl;exact fun _=>rfl;exact rfl;(first|exact GD.p|exact GD.g rfl (fun _=>rfl));exact rfl;(with_reducible assumption);exact rfl)
  |(apply aVR;exact fun _=>rfl;exact fun _=>rfl;exact rfl;(first|exact GD.p|exact GD.g rfl (fun _=>rfl));exact rfl;(with_reducible assumption);exact rfl)
  |(apply aWa;exact fun _=>rfl;exact fun _=>rfl;exact rfl;(first|exact GD.p|exact GD.g rfl (fun _=>rfl));exact rfl;(with_reducible assumption);exact rfl)
  |(apply aU6;exact fun _=>rfl;exact fun _=>rfl;exact rfl;(first|exact GD.p|exact GD.g rfl (fun _=>rfl));exact rfl;(with_reducible assumption);exact rfl)
  |(apply aUu;exact fun _=>rfl;exact rfl;(first|exact GD.p|exact GD.g rfl (fun _=>rfl));exact rfl;(with_reducible assumption);exact rfl)
  |(apply aVD;exact fun _=>rfl;exact rfl;(first|exact GD.p|exact GD.g rfl (fun _=>rfl));exact rfl;exact rfl)
  |(apply aVI;exact fun _=>rfl;exact rfl;(first|exact GD.p|exact GD.g rfl (fun _=>rfl));exact rfl;exact rfl)
  |(apply e_n;exact rfl;exact fun _=>rfl;exact rfl;exact rfl;exact rfl)
  |(apply aVZ;exact fun _=>rfl;exact fun _=>rfl;exact inferInstance;exact rfl;(first|exact GD.p|exact GD.g rfl (fun _=>rfl));exact rfl;(with_reducible assumption);exact rfl)
  |(apply aSm;exact fun _=>rfl;exact inferInstance;exact rfl;(first|exact GD.p|exact GD.g rfl (fun _=>rfl));exact rfl;exact rfl)
  |(apply aWu;exact fun _=>rfl;exact inferInstance;exact rfl;(first|exact GD.p|exact GD.g rfl (fun _=>rfl));exact rfl;exact rfl)
  |(apply aSt;exact fun _=>rfl;exact inferInstance;exact rfl;(first|exact GD.p|exact GD.g rfl (fun _=>rfl));exact rfl;exact rfl)
  |(apply aTn;exact fun _=>rfl;exact inferInstance;exact rfl;exact rfl;(first|exact GD.p|exact GD.g rfl (fun _=>rfl));exact rfl;exact rfl)
  |(apply aTA;exact fun _=>rfl;exact inferInstance;exact rfl;exact rfl;(first|exact GD.p|exact GD.g rfl (fun _=>rfl));exact rfl;exact rfl)
  |(apply aVa;exact fun _=>rfl;exact inferInstance;(repeat (first|exact iX.a rfl|apply iX.b));exact rfl;exact rfl;(first|exact GD.p|exact GD.g rfl (fun _=>rfl));exact rfl;exact rfl)
  |(apply aVN;exact fun _=>rfl;exact inferInstance;(repeat (first|exact iX.a rfl|apply iX.b));exact rfl;exact rfl;(first|exact GD.p|exact GD.g rfl (fun _=>rfl));exact rfl;exact rfl)
  |(apply aTz;exact fun _=>rfl;exact fun _=>rfl;(repeat (first|exact iX.a rfl|apply iX.b));(first|exact rfl|with_reducible assumption|exact bI (by with_reducible assumption) (by first|with_reducible assumption|exact rfl));exact inferInstance;exact rfl;(first|exact GD.p|exact GD.g rfl (fun _=>rfl));exact rfl;(with_reducible assumption);exact rfl)
  |(apply aS3;exact fun _=>rfl;(repeat (first|exact iX.a rfl|apply iX.b));(first|exact rfl|with_reducible assumption|exact bI (by with_reducible assumption) (by first|with_reducible assumption|exact rfl));exact inferInstance;exact rfl;(first|exact GD.p|exact GD.g rfl (fun _=>rfl));exact rfl;exact rfl)
  |(apply aQl;exact fun _=>rfl;(repeat (first|exact iX.a rfl|apply iX.b));exact rfl;(with_reducible assumption);exact inferInstance;exact rfl;exact rfl;exact rfl;(first|exact GD.p|exact GD.g rfl (fun _=>rfl));exact rfl;exact rfl)
  |(apply aQu;exact fun _=>rfl;(repeat (first|exact iX.a rfl|apply iX.b));exact rfl;(with_reducible assumption);exact inferInstance;exact rfl;exact rfl;exact rfl;(first|exact GD.p|exact GD.g rfl (fun _=>rfl));exact rfl;exact rfl)
  |(apply aVs;exact fun _=>rfl;exact inferInstance;exact rfl;(first|exact GD.p|exact GD.g rfl (fun _=>rfl));exact rfl;exact rfl)
  |(apply aVu;exact fun _=>rfl;exact fun _=>rfl;exact rfl;(first|exact GD.p|exact GD.g rfl (fun _=>rfl));exact rfl;exact rfl)
  |(apply aVA;exact fun _=>rfl;exact fun _=>rfl;exact rfl;(first|exact GD.p|exact GD.g rfl (fun _=>rfl));exact rfl;exact rfl)
  |(apply aU3;exact fun _=>rfl;exact fun _=>rfl;exact rfl;(first|exact GD.p|exact GD.g rfl (fun _=>rfl));exact rfl;exact rfl)
  |(apply aV3;exact fun _=>rfl;exact fun _=>rfl;exact rfl;(first|exact GD.p|exact GD.g rfl (fun _=>rfl));exact rfl;exact rfl)
  |(apply aVH;exact fun _=>rfl;exact fun _=>rfl;exact rfl;(first|exact GD.p|exact GD.g rfl (fun _=>rfl));exact rfl;exact rfl)
  |(apply aVf;exact fun _=>rfl;exact fun _=>rfl;exact rfl;(first|exact GD.p|exact GD.g rfl (fun _=>rfl));exact rfl;exact rfl)
  |(apply aTa;exact fun _=>rfl;exact fun _=>rfl;exact rfl;(first|exact GD.p|exact GD.g rfl (fun _=>rfl));exact rfl;(with_reducible assumption);exact rfl)
  |(apply aSw;exact fun _=>rfl;exact fun _=>rfl;exact rfl;(first|exact GD.p|exact GD.g rfl (fun _=>rfl));exact rfl;(with_reducible assumption);exact rfl)
  |(apply aSC;exact fun _=>rfl;exact fun _=>rfl;exact rfl;(first|exact GD.p|exact GD.g rfl (fun _=>rfl));exact rfl;(with_reducible assumption);exact rfl)
  |(apply aTt;exact fun _=>rfl;exact fun _=>rfl;exact rfl;(first|exact GD.p|exact GD.g rfl (fun _=>rfl));exact rfl;(with_reducible assumption);exact rfl)
  |(apply aSk;exact fun _=>rfl;exact fun _=>rfl;exact rfl;(first|exact GD.p|exact GD.g rfl (fun _=>rfl));exact rfl;(with_reducible assumption);exact rfl)
  |(apply aSY;exact fun _=>rfl;exact rfl;(first|exact GD.p|exact GD.g rfl (fun _=>rfl));exact rfl;exact rfl)
  |(apply aTc;exact fun _=>rfl;exact rfl;(first|exact GD.p|exact GD.g rfl (fun _=>rfl));exact rfl;(with_reducible assumption);exact rfl)
  |(apply aTx;exact fun _=>rfl;exact rfl;(first|exact GD.p|exact GD.g rfl (fun _=>rfl));exact rfl;exact rfl)
  |(apply aTw;exact fun _=>rfl;exact rfl;(first|exact GD.p|exact GD.g rfl (fun _=>rfl));exact rfl;exact rfl)
  |(apply aSU;exact fun _=>rfl;exact rfl;(first|exact GD.p|exact GD.g rfl (fun _=>rfl));exact rfl;exact rfl)
  |(apply aSx;exact fun _=>rfl;exact rfl;(first|exact GD.p|exact GD.g rfl (fun _=>rfl));exact rfl;exact rfl)
  |(apply aS1;exact fun _=>rfl;exact rfl;(first|exact GD.p|exact GD.g rfl (fun _=>rfl));exact rfl;exact rfl)
  |(apply aVq;exact fun _=>rfl;exact fun _=>rfl;exact rfl;(first|exact GD.p|exact GD.g rfl (fun _=>rfl));exact rfl;exact rfl)
  |(apply aVU;exact fun _=>rfl;exact fun _=>rfl;exact rfl;(first|exact GD.p|exact GD.g rfl (fun _=>rfl));exact rfl;exact rfl)
  |(apply aVg;exact fun _=>rfl;exact fun _=>rfl;exact inferInstance;exact rfl;(first|exact GD.p|exact GD.g rfl (fun _=>rfl));exact rfl;(with_reducible assumption);exact rfl)
  |(apply aWe;exact fun _=>rfl;exact fun _=>rfl;exact inferInstance;exact rfl;(first|exact GD.p|exact GD.g rfl (fun _=>rfl));exact rfl;(with_reducible assumption);exact rfl)
  |(apply aSp;exact fun _=>rfl;exact fun _=>rfl;exact fun _=>rfl;exact inferInstance;exact rfl;(first|exact GD.p|exact GD.g rfl (fun _=>rfl));exact rfl;(with_reducible assumption);exact rfl)
  |(apply aVv;exact fun _=>rfl;exact fun _=>rfl;exact rfl;(first|exact GD.p|exact GD.g rfl (fun _=>rfl));exact rfl;exact rfl)
  |(apply aWs;exact fun _=>rfl;exact fun _=>rfl;exact rfl;(first|exact GD.p|exact GD.g rfl (fun _=>rfl));exact rfl;exact rfl)
  |(apply aVV;exact fun _=>rfl;exact rfl;(first|exact GD.p|exact GD.g rfl (fun _=>rfl));exact rfl;exact rfl)
  |(apply aSS;exact fun _=>rfl;exact rfl;(first|exact GD.p|exact GD.g rfl (fun _=>rfl));exact rfl;exact rfl)
  |(apply aSG;exact fun _=>rfl;exact rfl;(first|exact GD.p|exact GD.g rfl (fun _=>rfl));exact rfl;exact rfl)
  |(apply aPb;exact fun _=>rfl;exact rfl;(first|exact GD.p|exact GD.g rfl (fun _=>rfl));exact rfl;assumption;exact rfl)
  |(apply aSR;exact inferInstance;exact rfl;exact rfl)
  |(apply e_u;exact rfl;exact fun _=>rfl;exact rfl;exact rfl)
  |(apply aS0;exact rfl)))(hx:Mix S.P:=by infer_instance)
  (hm:aCY ms l ms=true:=by kernel_rfl)(hb:y5 l 0=true:=by kernel_rfl)(hq:aBW l=true:=by kernel_rfl)(hm2:Nat.beq l.length (m+n)=true:=by kernel_rfl)(ht:aDi l ms m n=true:=by kernel_rfl):WC S (.region id l.toArray true) κ H E:=
 kP ms m n outs hx.h hops.h k hm hb hq (by rw[hops.len];simp) hm2 ht
theorem go{P:Prop}(Q:Prop)(k:Q)(h:D P Q:=by
 first
  |with_reducible refine sL ?_
  |with_reducible refine sC ?_
  |with_reducible refine sX ?_
 repeat (first
  |(apply aTr)
  |(apply aPd)
  |(apply aSH)
  |(apply aSZ)
  |(apply aWw;exact rfl;exact rfl;(first|exact dR.p|exact dR.g rfl rfl rfl))
  |(apply aVS;exact rfl;exact rfl;(first|exact dR.p|exact dR.g rfl rfl rfl))
  |(apply b_n;exact rfl;exact rfl;exact rfl;exact rfl;exact rfl)
  |(apply aU8;exact rfl;exact rfl;exact inferInstance;exact rfl;(first|exact dR.p|exact dR.g rfl rfl rfl);(with_reducible assumption))
  |(apply aSN;exact rfl;exact inferInstance;exact rfl;(first|exact dR.p|exact dR.g rfl rfl rfl))
  |(apply aVL;exact rfl;exact inferInstance;exact rfl;(first|exact dR.p|exact dR.g rfl rfl rfl))
  |(apply aSl;exact rfl;exact inferInstance;exact rfl;(first|exact dR.p|exact dR.g rfl rfl rfl))
  |(apply aTm;exact rfl;exact inferInstance;exact rfl;exact rfl;(first|exact dR.p|exact dR.g rfl rfl rfl))
  |(apply aSv;exact rfl;exact inferInstance;exact rfl;exact rfl;(first|exact dR.p|exact dR.g rfl rfl rfl))
  |(apply aWk;exact rfl;exact inferInstance;(repeat (first|exact iX.a rfl|apply iX.b));exact rfl;exact rfl;(first|exact dR.p|exact dR.g rfl rfl rfl))
  |(apply aVF;exact rfl;exact inferInstance;(repeat (first|exact iX.a rfl|apply iX.b));exact rfl;exact rfl;(first|exact dR.p|exact dR.g rfl rfl rfl))
  |(apply aSQ;exact rfl;exact rfl;(repeat (first|exact iX.a rfl|apply iX.b));(first|exact rfl|with_reducible assumption|exact bI (by with_reducible assumption) (by first|with_reducible assumption|exact rfl));exact inferInstance;exact rfl;(first|exact dR.p|exact dR.g rfl rfl rfl);(with_reducible assumption))
  |(apply aSL;exact rfl;(repeat (first|exact iX.a rfl|apply iX.b));(first|exact rfl|with_reducible assumption|exact bI (by with_reducible assumption) (by first|with_reducible assumption|exact rfl));exact inferInstance;exact rfl;(first|exact dR.p|exact dR.g rfl rfl rfl))
  |(apply aPc;exact rfl;(repeat (first|exact iX.a rfl|apply iX.b));exact rfl;(with_reducible assumption);exact inferInstance;exact rfl;exact rfl;exact rfl;(first|exact dR.p|exact dR.g rfl rfl rfl))
  |(apply aP9;exact rfl;(repeat (first|exact iX.a rfl|apply iX.b));exact rfl;(with_reducible assumption);exact inferInstance;exact rfl;exact rfl;exact rfl;(first|exact dR.p|exact dR.g rfl rfl rfl))
  |(apply aVc;exact rfl;exact inferInstance;exact rfl;(first|exact dR.p|exact dR.g rfl rfl rfl))
  |(apply aWg;exact rfl;exact rfl;exact rfl;(first|exact dR.p|exact dR.g rfl rfl rfl))
  |(apply aVl;exact rfl;exact rfl;exact rfl;(first|exact dR.p|exact dR.g rfl rfl rfl))
  |(apply aV2;exact rfl;exact rfl;exact rfl;(first|exact dR.p|exact dR.g rfl rfl rfl))
  |(apply aWx;exact rfl;exact rfl;exact rfl;(first|exact dR.p|exact dR.g rfl rfl rfl))
  |(apply aVX;exact rfl;exact rfl;exact rfl;(first|exact dR.p|exact dR.g rfl rfl rfl))
  |(apply aWb;exact rfl;exact rfl;exact rfl;(first|exact dR.p|exact dR.g rfl rfl rfl))
  |(apply aSE;exact rfl;exact rfl;exact rfl;(first|exact dR.p|exact dR.g rfl rfl rfl);(with_reducible assumption))
  |(apply aS8;exact rfl;exact rfl;exact rfl;(first|exact dR.p|exact dR.g rfl rfl rfl);(with_reducible assumption))
  |(apply aTh;exact rfl;exact rfl;exact rfl;(first|exact dR.p|exact dR.g rfl rfl rfl);(with_reducible assumption))
  |(apply aSX;exact rfl;exact rfl;exact rfl;(first|exact dR.p|exact dR.g rfl rfl rfl);(with_reducible assumption))
  |(apply aSF;exact rfl;exact rfl;exact rfl;(first|exact dR.p|exact dR.g rfl rfl rfl);(with_reducible assumption))
  |(apply aTl;exact rfl;exact rfl;(first|exact dR.p|exact dR.g rfl rfl rfl))
  |(apply aTq;exact rfl;exact rfl;(first|exact dR.p|exact dR.g rfl rfl rfl);(with_reducible assumption))
  |(apply aSz;exact rfl;exact rfl;(first|exact dR.p|exact dR.g rfl rfl rfl))
  |(apply aSs;exact rfl;exact rfl;(first|exact dR.p|exact dR.g rfl rfl rfl))
  |(apply aTD;exact rfl;exact rfl;(first|exact dR.p|exact dR.g rfl rfl rfl))
  |(apply aS4;exact rfl;exact rfl;(first|exact dR.p|exact dR.g rfl rfl rfl))
  |(apply aTC;exact rfl;exact rfl;(first|exact dR.p|exact dR.g rfl rfl rfl))
  |(apply aU1;exact rfl;exact rfl;exact rfl;(first|exact dR.p|exact dR.g rfl rfl rfl))
  |(apply aVB;exact rfl;exact rfl;exact rfl;(first|exact dR.p|exact dR.g rfl rfl rfl))
  |(apply aU5;exact rfl;exact rfl;exact inferInstance;exact rfl;(first|exact dR.p|exact dR.g rfl rfl rfl);(with_reducible assumption))
  |(apply aV7;exact rfl;exact rfl;exact inferInstance;exact rfl;(first|exact dR.p|exact dR.g rfl rfl rfl);(with_reducible assumption))
  |(apply aSD;exact rfl;exact rfl;exact rfl;exact inferInstance;exact rfl;(first|exact dR.p|exact dR.g rfl rfl rfl);(with_reducible assumption))
  |(apply aWr;exact rfl;exact rfl;exact rfl;(first|exact dR.p|exact dR.g rfl rfl rfl))
  |(apply aU0;exact rfl;exact rfl;exact rfl;(first|exact dR.p|exact dR.g rfl rfl rfl))
  |(apply aWo;exact rfl;exact rfl;(first|exact dR.p|exact dR.g rfl rfl rfl))
  |(apply aSK;exact rfl;exact rfl;(first|exact dR.p|exact dR.g rfl rfl rfl))
  |(apply aTu;exact rfl;exact rfl;(first|exact dR.p|exact dR.g rfl rfl rfl))
  |(apply aOO;exact rfl;exact rfl;(first|exact dR.p|exact dR.g rfl rfl rfl);assumption)
  |(apply aWB;exact rfl;exact rfl;exact inferInstance;(repeat (first|exact z7.a rfl|apply z7.b));exact trivial;exact rfl;exact rfl)
  |(apply aU4;exact rfl;exact rfl;exact inferInstance;(repeat (first|exact z7.a rfl|apply z7.b));exact trivial;exact rfl;exact rfl)
  |(apply aNa;exact rfl;exact rfl;(repeat (first|exact iX.a rfl|apply iX.b));exact rfl;(with_reducible assumption);(with_reducible assumption);exact ty1s;(repeat (first|exact z7.a rfl|apply z7.b));exact trivial;exact rfl;exact rfl)
  |(apply aNa;exact rfl;exact rfl;(repeat (first|exact iX.a rfl|apply iX.b));exact rfl;(with_reducible assumption);(with_reducible assumption);exact tyAs;(repeat (first|exact z7.a rfl|apply z7.b));exact trivial;exact rfl;exact rfl)
  |(apply b_u;exact rfl;exact rfl;exact rfl;exact rfl)
  |(apply aOg)
  |(apply aPC)
  |(apply aNe)
  |(apply aMA)
  |(apply aSW))
 first
  |exact eL
  |exact eC
  |exact eX):P:=h.h k
theorem rv_1{t T off:Nat}{β:Option Nat}{e:HA}{q:CP}{rs:List ResultVar}{ps:List VP}(h:jS E t=some (.vc (pP β off)))(f:Ty1 S.P T)(j:iX H β e)(hq:uQ 1 (e.ps.drop off)=some [q])(kk:RVs S H E rs ps):RVs S H E (.cell t T::rs) (.vc q::ps):=by
 obtain⟨i,k,s⟩:=j.at;exact xN i 1 h k s hq (.one f) kk
theorem rv_A{t T off k:Nat}{β:Option Nat}{e:HA}{qs:List CP}{rs:List ResultVar}{ps:List VP}(h:jS E t=some (.vc (pP β off)))(f:TyA S.P T k)(j:iX H β e)(hq:uQ k (e.ps.drop off)=some qs)(kk:RVs S H E rs ps):RVs S H E (.cell t T::rs) (.va qs::ps):=by
 obtain⟨i,q,s⟩:=j.at;exact xN i k h q s hq (.agg f (yL hq)) kk
theorem aVj{P:Program}{fn:Func}{w0:World}{M0:jX}{B:List Nat}{post:VP}{N:NX}{rs:List ResultVar}{ps:List VP}(e:κ.to .ret=(.ret,.base (aF8 P fn (Rp P w0 M0 B (fun Ho q=>Ho=[]∧q=post)))))(hrs:fn.results=rs.toArray)(hv:RVs ⟨P,w0,M0,B,N⟩ H E rs ps)(f:Nat.ble ps.length 4=true)(hpost:aLo ps=post)(hfr:∀D,N.fr D→w0.heap.size≤D∧M0 D=none):GC ⟨P,w0,M0,B,N⟩ .ret κ H E Q:=
 ⟨fun _=>gY (gS (by rw[e];exact kM (.inl rfl) hrs hv f hpost hfr))⟩
theorem bU{P:Prop}(h:D P True:=by
 first
  |with_reducible refine sL ?_
  |with_reducible refine sC ?_
  |with_reducible refine sX ?_
 repeat (first
  |(apply aTr)
  |(apply aPd)
  |(apply aSH)
  |(apply aSZ)
  |(apply aWw;exact rfl;exact rfl;(first|exact dR.p|exact dR.g rfl rfl rfl))
  |(apply aVS;exact rfl;exact rfl;(first|exact dR.p|exact dR.g rfl rfl rfl))
  |(apply b_n;exact rfl;exact rfl;exact rfl;exact rfl;exact rfl)
  |(apply aU8;exact rfl;exact rfl;exact inferInstance;exact rfl;(first|exact dR.p|exact dR.g rfl rfl rfl);(with_reducible assumption))
  |(apply aSN;exact rfl;exact inferInstance;exact rfl;(first|exact dR.p|exact dR.g rfl rfl rfl))
  |(apply aVL;exact rfl;exact inferInstance;exact rfl;(first|exact dR.p|exact dR.g rfl rfl rfl))
  |(apply aSl;exact rfl;exact inferInstance;exact rfl;(first|exact dR.p|exact dR.g rfl rfl rfl))
  |(apply aTm;exact rfl;exact inferInstance;exact rfl;exact rfl;(first|exact dR.p|exact dR.g rfl rfl rfl))
  |(apply aSv;exact rfl;exact inferInstance;exact rfl;exact rfl;(first|exact dR.p|exact dR.g rfl rfl rfl))
  |(apply aWk;exact rfl;exact inferInstance;(repeat (first|exact iX.a rfl|apply iX.b));exact rfl;exact rfl;(first|exact dR.p|exact dR.g rfl rfl rfl))
  |(apply aVF;exact rfl;exact inferInstance;(repeat (first|exact iX.a rfl|apply iX.b));exact rfl;exact rfl;(first|exact dR.p|exact dR.g rfl rfl rfl))
  |(apply aSQ;exact rfl;exact rfl;(repeat (first|exact iX.a rfl|apply iX.b));(first|exact rfl|with_reducible assumption|exact bI (by with_reducible assumption) (by first|with_reducible assumption|exact rfl));exact inferInstance;exact rfl;(first|exact dR.p|exact dR.g rfl rfl rfl);(with_reducible assumption))
  |(apply aSL;exact rfl;(repeat (first|exact iX.a rfl|apply iX.b));(first|exact rfl|with_reducible assumption|exact bI (by with_reducible assumption) (by first|with_reducible assumption|exact rfl));exact inferInstance;exact rfl;(first|exact dR.p|exact dR.g rfl rfl rfl))
  |(apply aPc;exact rfl;(repeat (first|exact iX.a rfl|apply iX.b));exact rfl;(with_reducible assumption);exact inferInstance;exact rfl;exact rfl;exact rfl;(first|exact dR.p|exact dR.g rfl rfl rfl))
  |(apply aP9;exact rfl;(repeat (first|exact iX.a rfl|apply iX.b));exact rfl;(with_reducible assumption);exact inferInstance;exact rfl;exact rfl;exact rfl;(first|exact dR.p|exact dR.g rfl rfl rfl))
  |(apply aVc;exact rfl;exact inferInstance;exact rfl;(first|exact dR.p|exact dR.g rfl rfl rfl))
  |(apply aWg;exact rfl;exact rfl;exact rfl;(first|exact dR.p|exact dR.g rfl rfl rfl))
  |(apply aVl;exact rfl;exact rfl;exact rfl;(first|exact dR.p|exact dR.g rfl rfl rfl))
  |(apply aV2;exact rfl;exact rfl;exact rfl;(first|exact dR.p|exact dR.g rfl rfl rfl))
  |(apply aWx;exact rfl;exact rfl;exact rfl;(first|exact dR.p|exact dR.g rfl rfl rfl))
  |(apply aVX;exact rfl;exact rfl;exact rfl;(first|exact dR.p|exact dR.g rfl rfl rfl))
  |(apply aWb;exact rfl;exact rfl;exact rfl;(first|exact dR.p|exact dR.g rfl rfl rfl))
  |(apply aSE;exact rfl;exact rfl;exact rfl;(first|exact dR.p|exact dR.g rfl rfl rfl);(with_reducible assumption))
  |(apply aS8;exact rfl;exact rfl;exact rfl;(first|exact dR.p|exact dR.g rfl rfl rfl);(with_reducible assumption))
  |(apply aTh;exact rfl;exact rfl;exact rfl;(first|exact dR.p|exact dR.g rfl rfl rfl);(with_reducible assumption))
  |(apply aSX;exact rfl;exact rfl;exact rfl;(first|exact dR.p|exact dR.g rfl rfl rfl);(with_reducible assumption))
  |(apply aSF;exact rfl;exact rfl;exact rfl;(first|exact dR.p|exact dR.g rfl rfl rfl);(with_reducible assumption))
  |(apply aTl;exact rfl;exact rfl;(first|exact dR.p|exact dR.g rfl rfl rfl))
  |(apply aTq;exact rfl;exact rfl;(first|exact dR.p|exact dR.g rfl rfl rfl);(with_reducible assumption))
  |(apply aSz;exact rfl;exact rfl;(first|exact dR.p|exact dR.g rfl rfl rfl))
  |(apply aSs;exact rfl;exact rfl;(first|exact dR.p|exact dR.g rfl rfl rfl))
  |(apply aTD;exact rfl;exact rfl;(first|exact dR.p|exact dR.g rfl rfl rfl))
  |(apply aS4;exact rfl;exact rfl;(first|exact dR.p|exact dR.g rfl rfl rfl))
  |(apply aTC;exact rfl;exact rfl;(first|exact dR.p|exact dR.g rfl rfl rfl))
  |(apply aU1;exact rfl;exact rfl;exact rfl;(first|exact dR.p|exact dR.g rfl rfl rfl))
  |(apply aVB;exact rfl;exact rfl;exact rfl;(first|exact dR.p|exact dR.g rfl rfl rfl))
  |(apply aU5;exact rfl;exact rfl;exact inferInstance;exact rfl;(first|exact dR.p|exact dR.g rfl rfl rfl);(with_reducible assumption))
  |(apply aV7;exact rfl;exact rfl;exact inferInstance;exact rfl;(first|exact dR.p|exact dR.g rfl rfl rfl);(with_reducible assumption))
  |(apply aSD;exact rfl;exact rfl;exact rfl;exact inferInstance;exact rfl;(first|exact dR.p|exact dR.g rfl rfl rfl);(with_reducible assumption))
  |(apply aWr;exact rfl;exact rfl;exact rfl;(first|exact dR.p|exact dR.g rfl rfl rfl))
  |(apply aU0;exact rfl;exact rfl;exact rfl;(first|exact dR.p|exact dR.g rfl rfl rfl))
  |(apply aWo;exact rfl;exact rfl;(first|exact dR.p|exact dR.g rfl rfl rfl))
  |(apply aSK;exact rfl;exact rfl;(first|exact dR.p|exact dR.g rfl rfl rfl))
  |(apply aTu;exact rfl;exact rfl;(first|exact dR.p|exact dR.g rfl rfl rfl))
  |(apply aOO;exact rfl;exact rfl;(first|exact dR.p|exact dR.g rfl rfl rfl);assumption)
  |(apply aWB;exact rfl;exact rfl;exact inferInstance;(repeat (first|exact z7.a rfl|apply z7.b));exact trivial;exact rfl;exact rfl)
  |(apply aU4;exact rfl;exact rfl;exact inferInstance;(repeat (first|exact z7.a rfl|apply z7.b));exact trivial;exact rfl;exact rfl)
  |(apply aNa;exact rfl;exact rfl;(repeat (first|exact iX.a rfl|apply iX.b));exact rfl;(with_reducible assumption);(with_reducible assumption);exact ty1s;(repeat (first|exact z7.a rfl|apply z7.b));exact trivial;exact rfl;exact rfl)
  |(apply aNa;exact rfl;exact rfl;(repeat (first|exact iX.a rfl|apply iX.b));exact rfl;(with_reducible assumption);(with_reducible assumption);exact tyAs;(repeat (first|exact z7.a rfl|apply z7.b));exact trivial;exact rfl;exact rfl)
  |(apply b_u;exact rfl;exact rfl;exact rfl;exact rfl)
  |(apply aOg)
  |(apply aPC)
  |(apply aNe)
  |(apply aMA)
  |(apply aSW))
 repeat (cases(by with_reducible assumption:some _=some _))
 apply aVj
 ·exact rfl
 ·exact rfl
 ·repeat (first
   |exact RVs.nil
   |(apply RVs.tmp;exact rfl)
   |(apply rv_A;exact rfl;exact inferInstance;(repeat (first|exact iX.a rfl|apply iX.b));exact rfl)
   |(apply rv_1;exact rfl;exact inferInstance;(repeat (first|exact iX.a rfl|apply iX.b));exact rfl))
 ·exact rfl
 ·exact rfl
 ·exact fun _ h=>h):P:=h.h trivial
theorem jH{E':sB}(l:List Nat){a:Act}{w:World}(h:hs S H E a w)(hp:cP H l=some H':=by exact rfl)(hl:l.Nodup:=by decide)(hE:aGh E E':=by repeat (first|exact trivial|refine⟨rfl,?_⟩)):hs S H' E' a w:=yU l hp hl hE h
theorem rW{PJ:List HA→sB→Prop}{E':sB}(J:∀H E,PJ H E→WX S .normal κ H E)(h:PJ H' E')(l:List Nat)(hp:cP H l=some H':=by exact rfl)(hE:aGh E E':=by repeat (first|exact trivial|refine⟨rfl,?_⟩))(hl:l.Nodup:=by decide):WX S .normal κ H E:=aEl J h l hp hE hl
theorem aD{α:Type}{A B:Option α}{r:α}{t:Nat}{b:Bool}{x y:Code}(e:(bif b then A else B)=some r)(f:jS E t=some (.vc (pB b)))(j:b=true→A=some r→WC S x κ H E)(k:b=false→B=some r→WC S y κ H E):WC S (.cond (.tmp t) x y) κ H E:=
 aG5 f (fun h=>j h (tH h e)) (fun h=>k h (rG h e))
theorem dL{α:Type}{A B:Option α}{r:α}{d:Nat}{c:Bool}(e:(bif c then A else B)=some r)(f:c=true→A=some r→WL S ops κ rest H ((d,.vc (pB true))::E))(j:c=false→B=some r→WL S ops κ rest H ((d,.vc (pB false))::E)):WL S ops κ rest H ((d,.vc (pB c))::E):=
 aLC (fun h=>f h (tH h e)) (fun h=>j h (rG h e))
end
end Go.Proofs.YtolfcbpgmfbgmaaGreat
set_option linter.unusedVariables false
set_option maxRecDepth 100000
namespace Go.Proofs.YtolfcbpgmfbgmaaGreat
theorem bC:Tryz.prog.follows .mixedOrders=true:=by kernel_rfl
instance Tryz_mix:Mix Tryz.prog:=⟨bC⟩
instance tyA40:TyA Tryz.prog 40 2:=mkA Tryz.underlying40 rfl (by kernel_rfl)
theorem tyB40:TyB Tryz.prog 40 [(0,1),(1,1)] ([pB false]++[pS cI ([]:List Int)]):=mkB (z:=.agg #[.bool false,.slice none 0 0]) (by kernel_rfl) Tryz.underlying40 (by kernel_rfl) (fun M=>bJ.app (show bJ M [pB false] [.bool false] from zU1) (show bJ M [pS cI ([]:List Int)] [.slice none 0 0] from⟨eF cI M,zT⟩))
instance tyF40_0:TyF Tryz.prog 40 0 0:=mkF (ft:=4) (k:=0) Tryz.underlying40 rfl rfl rfl (by kernel_rfl)
instance tyF40_1:TyF Tryz.prog 40 1 1:=mkF (ft:=22) (k:=0) Tryz.underlying40 rfl rfl rfl (by kernel_rfl)
instance tyO22:Ty1 Tryz.prog 22:=mk1 Tryz.underlying22 rfl (by kernel_rfl)
instance tyO3:Ty1 Tryz.prog 3:=mk1 Tryz.underlying3 rfl (by kernel_rfl)
instance tyO4:Ty1 Tryz.prog 4:=mk1 Tryz.underlying4 rfl (by kernel_rfl)
instance tyS22:TyS Tryz.prog 22 3 1 8:=mkS (z:=.int .i64 0) (k:=0) Tryz.underlying22 (by kernel_rfl) rfl
instance tyZ3:TyZ Tryz.prog 3 [vJ 0]:=mkZ (z:=.int .i64 0) (k:=1) (by kernel_rfl) rfl (fun M=>show bJ M [vJ 0] [.int .i64 0] from zU1)
instance tyZ40:TyZ Tryz.prog 40 ([pB false]++[pS cI ([]:List Int)]):=mkZ (z:=.agg #[.bool false,.slice none 0 0]) (k:=2) (by kernel_rfl) rfl (fun M=>bJ.app (show bJ M [pB false] [.bool false] from zU1) (show bJ M [pS cI ([]:List Int)] [.slice none 0 0] from⟨eF cI M,zT⟩))
def pW(K:Nat)(f:Bool)(a1:List Int)(e:Int):Option aC:=
 bif(e==0) then(some (⟨false,([]:List Int)⟩:aC)) else((slL a1 0 e).bind fun h=>some (⟨f,h⟩:aC))
def gB(K:Nat)(a1:List Int):Nat→Int→Option Int
 |0,_=>none
 |k+1,e=>bif(decide (0<e)) then((aV (e-1)).bind fun v11=>(bR a1 (max v11 0)).bind fun f=>bif(f==0) then((aV (e-1)).bind fun h=>gB K a1 k h) else(some e)) else(some e)
def bB(K:Nat)(e:Bool)(a1:List Int):Option aC:=
 (gB K a1 K (a1.length:Int)).bind fun f=>pW K e a1 f
theorem bN{K:Nat}{j:Bool}{a1:List Int}{r:aC}(f:bB K j a1=some r):Ct Tryz.prog 94 [.vc (pB j),.vc (pS cI a1)] (.va (aC.e r)):=by
 unfold bB at f;refine aA Tryz.func94 rfl (by kernel_rfl) Tryz.ntmps94 rfl (fun w0 M0=>?_);refine aE (aJ (aM rfl tyZ40 (fun t=>?_)));refine go ?_ ?_;refine aI (aY (fun H E=>∃(u:Int),pW K j a1 u=some r∧H=[⟨some t,1,40,2,1,([pB false]++[pS cI ([]:List Int)])⟩]∧E=[(0,.vc (pB j)),(1,.vc (pS cI a1)),(4,.vc (pP (some t) 0)),(5,vI u)]) ?_ (fun q=>?_))
 ·rintro _ _ ⟨u,f,rfl,rfl⟩;unfold pW at f;refine go ?_ ?_;refine aD f rfl (fun G f=>?_) (fun G f=>?_)
  ·refine aE (aJ (aG (iW (is:=[]) (xs:=[]) (ps:=[]) rfl tyB40 rfl rfl zT rfl) zT ?_));exact bU
  obtain⟨I,U,f⟩:=aR f;refine go ?_ ?_;refine aG (iW (is:=[0,1]) (xs:=[.tmp 24,.tmp 27]) (ps:=[.vc (pB j),.vc (pS cI I)]) rfl tyB40 rfl rfl ⟨zT,zT,zT⟩ rfl) zU2 ?_;exact bU
 obtain⟨x,J,h⟩:=aR f;refine dW (fun k a w=>∃(s:Int),gB K a1 k s=some x∧hs _ [⟨some t,1,40,2,1,([pB false]++[pS cI ([]:List Int)])⟩] [(0,.vc (pB j)),(1,.vc (pS cI a1)),(4,.vc (pP (some t) 0)),(5,vI s)] a w) K (fun a w ⟨_,f,_⟩=>by cases f) (fun k a w ⟨s,f,hh⟩=>dV ?_ hh) (fun a w hh=>⟨(a1.length:Int),J,jH [0] hh⟩);rw[gB.eq_2]at f;refine go ?_ ?_;refine dL f (fun y f=>?_) (fun y f=>?_)
 ·obtain⟨v11,z,L,O,f⟩:=u5 f;refine go ?_ ?_;refine aD f rfl (fun F f=>?_) (fun F f=>?_)
  ·refine fB (aH (aI ?_));have f:=uS z f;refine go ?_ ?_;exact aF (fun a w hh=>⟨v11,f,jH [0] hh⟩)
  refine bF ?_;obtain rfl:=iJ f;exact rW q ⟨s,h,rfl,rfl⟩ [0]
 refine go ?_ ?_;refine vB rfl ?_;refine bF ?_;obtain rfl:=iJ f;exact rW q ⟨s,h,rfl,rfl⟩ [0]
def rO(K:Nat)(h:aC)(a1:aC)(e:List Int):Option aC:=
 (bB K (h.neg != a1.neg) e).bind fun f=>some f
def rL(K:Nat)(a1:aC)(f:Int)(e:(List Int)→Int→Option (List Int))(h:List Int)(k:Int):Option (List Int):=
 (aV (f+(a1.d.length:Int))).bind fun j=>(bR h j).bind fun t=>(rX h j k).bind fun q=>(aV (f+1)).bind fun s=>e q s
def iI(K:Nat)(O:aC)(a1:aC)(f:Int):Nat→(List Int)→Int→Int→Option ((List Int)×Int)
 |0,_,_,_=>none
 |k+1,h,j,e=>bif(decide (e<(a1.d.length:Int))) then((aV (f+e)).bind fun t=>(bR h t).bind fun u=>(bR O.d f).bind fun x=>(bR a1.d e).bind fun y=>(aV (x*y)).bind fun z=>(aV (u+z)).bind fun F=>(aV (F+j)).bind fun q=>(aV (f+e)).bind fun s=>(chr q 1000000000).bind fun G=>(bR h s).bind fun U=>(rX h s G).bind fun I=>(chq q 1000000000).bind fun J=>(aV (e+1)).bind fun L=>iI K O a1 f k I J L) else(some (h,j))
def iR(K:Nat)(h:aC)(a1:aC):Nat→(List Int)→Int→Option (List Int)
 |0,_,_=>none
 |k+1,f,e=>bif(decide (e<(h.d.length:Int))) then((iI K h a1 e K f 0 0).bind fun(j,q)=>rL K a1 e (iR K h a1 k) j q) else(some f)
def jA(K:Nat)(e:aC)(a1:aC):Option aC:=
 (aV ((e.d.length:Int)+(a1.d.length:Int))).bind fun v4=>(mkL v4 0).bind fun h=>(iR K e a1 K h 0).bind fun f=>rO K e a1 f
theorem oV{K:Nat}{t:aC}{a1:aC}{r:aC}(f:jA K t a1=some r):Ct Tryz.prog 58 [.va (aC.e t),.va (aC.e a1)] (.va (aC.e r)):=by
 unfold jA at f;refine aA Tryz.func58 rfl (by kernel_rfl) Tryz.ntmps58 rfl (fun w0 M0=>?_);refine aE (aJ (dP rfl rfl zT (fun z=>?_)));refine dP rfl rfl zT (fun b2=>?_);refine aM rfl tyZ40 (fun F=>?_);obtain⟨v4,h5,h,h7,f⟩:=u5 f;refine go ?_ ?_;refine qE (C:=cI) rfl tyS22 rfl tyZ3 rfl h7 (fun G=>?_);refine go ?_ ?_;refine aI (aY (fun H E=>∃(u:List Int),rO K t a1 u=some r∧u.length=h.length∧H=[hO cI G h.length 3 h.length u,⟨some F,1,40,2,1,([pB false]++[pS cI ([]:List Int)])⟩,⟨some b2,1,40,2,1,(aC.e a1)⟩,⟨some z,1,40,2,1,(aC.e t)⟩]∧E=[(2,.vc (pP (some z) 0)),(3,.vc (pP (some b2) 0)),(4,.vc (pP (some F) 0)),(5,.vc (pO G h.length h.length))]) ?_ (fun V=>?_))
 ·rintro _ _ ⟨u,f,q29,rfl,rfl⟩;unfold rO at f;refine go ?_ ?_;refine aG (aCw rfl Tryz.underlying4) zU2 ?_;refine gG ?_;refine xC 0 [5,74] rfl q29 zU2 rfl ?_;obtain⟨v33,h34,f⟩:=bE f bN;exact bU
 obtain⟨I,hL,J⟩:=aR f;refine dW (fun k a w=>∃(q:List Int),∃(j:Int),iR K t a1 k q j=some I∧q.length=h.length∧hs _ [hO cI G h.length 3 h.length q,⟨some F,1,40,2,1,([pB false]++[pS cI ([]:List Int)])⟩,⟨some b2,1,40,2,1,(aC.e a1)⟩,⟨some z,1,40,2,1,(aC.e t)⟩] [(2,.vc (pP (some z) 0)),(3,.vc (pP (some b2) 0)),(4,.vc (pP (some F) 0)),(5,.vc (pO G h.length h.length)),(6,vI j)] a w) K (fun a w ⟨_,_,f,_,_⟩=>by cases f) (fun k a w ⟨q,j,f,X,hh⟩=>dV ?_ hh) (fun a w hh=>⟨h,0,hL,rfl,jH [0,1,2,3] hh⟩);rw[iR.eq_2]at f;refine go ?_ ?_;refine aD f rfl (fun h35 f=>?_) (fun h35 f=>?_)
 ·refine go ?_ ?_;refine aI (go ?_ ?_);refine aI (aY (fun H E=>∃(x:List Int),∃(L:Int),rL K a1 j (iR K t a1 k) x L=some I∧x.length=h.length∧H=[hO cI G h.length 3 h.length x,⟨some F,1,40,2,1,([pB false]++[pS cI ([]:List Int)])⟩,⟨some b2,1,40,2,1,(aC.e a1)⟩,⟨some z,1,40,2,1,(aC.e t)⟩]∧E=[(2,.vc (pP (some z) 0)),(3,.vc (pP (some b2) 0)),(4,.vc (pP (some F) 0)),(5,.vc (pO G h.length h.length)),(6,vI j),(7,vI L)]) ?_ (fun Y=>?_))
  ·rintro _ _ ⟨x,L,f,q56,rfl,rfl⟩;unfold rL at f;obtain⟨v61,h62,v63,h64,x65,h66,v68,h69,f⟩:=bn4 f;refine go ?_ ?_;exact aF (fun a w hh=>⟨x65,v68,f,(bI h66 q56),jH [0,1,2,3] hh⟩)
  obtain⟨⟨x52',x58'⟩,hL,O⟩:=aR f;refine dW (fun k a w=>∃(s:List Int),∃(y:Int),∃(U:Int),iI K t a1 j k s y U=some (x52',x58')∧s.length=h.length∧hs _ [hO cI G h.length 3 h.length s,⟨some F,1,40,2,1,([pB false]++[pS cI ([]:List Int)])⟩,⟨some b2,1,40,2,1,(aC.e a1)⟩,⟨some z,1,40,2,1,(aC.e t)⟩] [(2,.vc (pP (some z) 0)),(3,.vc (pP (some b2) 0)),(4,.vc (pP (some F) 0)),(5,.vc (pO G h.length h.length)),(6,vI j),(7,vI y),(8,vI U)] a w) K (fun a w ⟨_,_,_,f,_,_⟩=>by cases f) (fun k a w ⟨s,y,U,f,q48,hh⟩=>dV ?_ hh) (fun a w hh=>⟨q,0,0,hL,X,jH [0,1,2,3] hh⟩);rw[iI.eq_2]at f;refine go ?_ ?_;refine aD f rfl (fun h70 f=>?_) (fun h70 f=>?_)
  ·refine go ?_ ?_;refine aI (aE ?_);obtain⟨v73,h74,f⟩:=aR f;obtain⟨v75,h76,f⟩:=aR f;obtain⟨v77,h78,f⟩:=aR f;obtain⟨v79,h80,f⟩:=aR f;obtain⟨v81,h82,f⟩:=aR f;obtain⟨v83,h84,f⟩:=aR f;obtain⟨v85,h86,f⟩:=aR f;refine dr [0,0,0,6,15,31,0,64,0,448,960,0,2048,0,14336,30720,65472,131071,0,524287,1048575] 21 0 ?_ (fun bs72 G71=>?_);have f:=uS h74 f;obtain⟨v89,h90,f⟩:=aR f;have f:=uS h76 f;obtain⟨x93,h94,v96,h97,v98,h99,f⟩:=bn3 f;refine go ?_ ?_;exact aF (fun a w hh=>⟨x93,v96,v98,f,(bI h94 q48),jH [0,1,2,3] hh⟩)
  refine bF ?_;obtain⟨rfl,rfl⟩:=sm2 f;exact rW Y ⟨s,y,O,q48,rfl,rfl⟩ [0,1,2,3]
 refine bF ?_;obtain rfl:=iJ f;exact rW V ⟨q,J,X,rfl,rfl⟩ [0,1,2,3]
def dJ(e:List Int)(a1:Int):Option Int:=
 bif(decide (a1<(e.length:Int))) then((bR e a1).bind fun v2=>some v2) else(some 0)
theorem gR{f:List Int}{a1:Int}{r:Int}(e:dJ f a1=some r):Ct Tryz.prog 140 [.vc (pS cI f),vI a1] (vI r):=by
 unfold dJ at e;refine aA Tryz.func140 rfl (by kernel_rfl) Tryz.ntmps140 rfl (fun w0 M0=>?_);refine go ?_ ?_;refine aD e rfl (fun h e=>?_) (fun h e=>?_)
 ·obtain⟨v2,j,e⟩:=aR e;exact bU
 exact bU
def qQ(K:Nat)(e:List Int):Option (List Int):=
 some e
def cE(K:Nat)(j:List Int)(a1:List Int):Nat→(List Int)→Int→Int→Option (List Int)
 |0,_,_,_=>none
 |k+1,f,h,e=>bif(decide (e<(j.length:Int))) then((dJ j e).bind fun u=>(dJ a1 e).bind fun v30=>(aV (u+v30)).bind fun x=>(aV (x+h)).bind fun q=>(chr q 1000000000).bind fun y=>(tC f [y]).bind fun z=>(chq q 1000000000).bind fun F=>(aV (e+1)).bind fun G=>cE K j a1 k z F G) else(bif(decide (e<(a1.length:Int))) then((dJ j e).bind fun I=>(dJ a1 e).bind fun J=>(aV (I+J)).bind fun L=>(aV (L+h)).bind fun s=>(chr s 1000000000).bind fun O=>(tC f [O]).bind fun U=>(chq s 1000000000).bind fun V=>(aV (e+1)).bind fun X=>cE K j a1 k U V X) else(bif(decide (0<h)) then((dJ j e).bind fun Y=>(dJ a1 e).bind fun v74=>(aV (Y+v74)).bind fun v76=>(aV (v76+h)).bind fun t=>(chr t 1000000000).bind fun v80=>(tC f [v80]).bind fun x82=>(chq t 1000000000).bind fun v89=>(aV (e+1)).bind fun v91=>cE K j a1 k x82 v89 v91) else(some f)))
def rH(K:Nat)(f:List Int)(a1:List Int):Option (List Int):=
 (cE K f a1 K ([]:List Int) 0 0).bind fun e=>qQ K e
theorem aC7{K:Nat}{a0:List Int}{a1:List Int}{r:List Int}(e:rH K a0 a1=some r):Ct Tryz.prog 98 [.vc (pS cI a0),.vc (pS cI a1)] (.vc (pS cI r)):=by
 unfold rH at e;refine aA Tryz.func98 rfl (by kernel_rfl) Tryz.ntmps98 rfl (fun w0 M0=>?_);refine aE (aJ (aG (aP (.inr rfl)) ⟨eF cI,zT⟩ ?_));refine aX (aH (aE (aJ (rC cI 3 rfl ?_))));refine go ?_ ?_;refine aI (aY (fun H E=>∃(q:List Int),∃(x:Option Nat),∃(y:Nat),∃(s:Nat),qQ K q=some r∧q.length=s∧H=[hO cI x y 3 s q]∧E=[(5,.vc (pO x s y))]) ?_ (fun O=>?_))
 ·rintro _ _ ⟨q,x,y,s,e,q23,rfl,rfl⟩;unfold qQ at e;refine go ?_ ?_;refine gY (gS (tT 0 [4,5,41] rfl q23 ⟨rfl,rfl,rfl,zT⟩ rfl ?_));obtain rfl:=iJ e;exact kM (.inl rfl) Tryz.results98 (.tmp rfl .nil) rfl rfl
 obtain⟨U,hL,z⟩:=aR e;refine dW (fun k a w=>∃(j:List Int),∃(F:Int),∃(G:Int),∃(t:Option Nat),∃(u:Nat),∃(f:Nat),cE K a0 a1 k j F G=some U∧j.length=f∧hs _ [hO cI t u 3 f j] [(0,.vc (pS cI a0)),(1,.vc (pS cI a1)),(5,.vc (pO t f u)),(6,vI F),(7,vI G)] a w) K (fun a w ⟨_,_,_,_,_,_,e,_,_⟩=>by cases e) (fun k a w ⟨j,F,G,t,u,f,e,h,hh⟩=>dV ?_ hh) (fun a w hh=>⟨([]:List Int),0,0,none,0,0,hL,rfl,jH [0] hh⟩);rw[cE.eq_2]at e;refine go ?_ ?_;refine dL e (fun h27 e=>?_) (fun h27 e=>?_)
 ·refine go ?_ ?_;refine kA rfl ?_;refine go ?_ ?_;refine aI ?_;obtain⟨v28,h29,e⟩:=bE e gR;obtain⟨v30,h31,e⟩:=bE e gR;obtain⟨v32,h33,v34,h35,I,h37,e⟩:=bn3 e;refine go ?_ ?_;refine aG (iH (C:=cI) (xs:=[.tmp 36]) (ps:=[vI I]) (zs:=[I]) rfl tyS22 rfl ⟨⟨zT,rfl⟩,zT⟩ rfl) zU1 ?_;obtain⟨x38,V,e⟩:=aR e;refine nN 0 rfl tyS22 rfl rfl h rfl rfl V (fun b40 c41 H42 e43=>?_);cases e43;obtain⟨v45,h46,v47,h48,e⟩:=u5 e;refine go ?_ ?_;exact aF (fun a w hh=>⟨x38,v45,v47,b40,c41,(f+[I].length),e,(dO V h),jH [0] hh⟩)
 refine go ?_ ?_;refine dL e (fun h49 e=>?_) (fun h49 e=>?_)
 ·refine go ?_ ?_;refine kA rfl ?_;refine go ?_ ?_;refine aI ?_;obtain⟨v50,h51,e⟩:=bE e gR;obtain⟨v52,h53,e⟩:=bE e gR;obtain⟨v54,h55,v56,h57,J,h59,e⟩:=bn3 e;refine go ?_ ?_;refine aG (iH (C:=cI) (xs:=[.tmp 36]) (ps:=[vI J]) (zs:=[J]) rfl tyS22 rfl ⟨⟨zT,rfl⟩,zT⟩ rfl) zU1 ?_;obtain⟨x60,X,e⟩:=aR e;refine nN 0 rfl tyS22 rfl rfl h rfl rfl X (fun b62 c63 H64 e65=>?_);cases e65;obtain⟨v67,h68,v69,h70,e⟩:=u5 e;refine go ?_ ?_;exact aF (fun a w hh=>⟨x60,v67,v69,b62,c63,(f+[J].length),e,(dO X h),jH [0] hh⟩)
 refine go ?_ ?_;refine aD e rfl (fun h71 e=>?_) (fun h71 e=>?_)
 ·refine go ?_ ?_;refine aI ?_;obtain⟨v72,h73,e⟩:=bE e gR;obtain⟨v74,h75,e⟩:=bE e gR;obtain⟨v76,h77,v78,h79,L,h81,e⟩:=bn3 e;refine go ?_ ?_;refine aG (iH (C:=cI) (xs:=[.tmp 36]) (ps:=[vI L]) (zs:=[L]) rfl tyS22 rfl ⟨⟨zT,rfl⟩,zT⟩ rfl) zU1 ?_;obtain⟨x82,Y,e⟩:=aR e;refine nN 0 rfl tyS22 rfl rfl h rfl rfl Y (fun b84 c85 H86 e87=>?_);cases e87;obtain⟨v89,h90,v91,h92,e⟩:=u5 e;refine go ?_ ?_;exact aF (fun a w hh=>⟨x82,v89,v91,b84,c85,(f+[L].length),e,(dO Y h),jH [0] hh⟩)
 refine bF ?_;obtain rfl:=iJ e;exact rW O ⟨j,t,u,f,z,h,rfl,rfl⟩ [0]
def rY(K:Nat):Option Int:=
 some 0
def dN(K:Nat)(f:List Int)(a1:List Int):Nat→Int→Option (LR Int Unit)
 |0,_=>none
 |k+1,e=>bif(decide (0≤e)) then((bR f e).bind fun h=>(bR a1 e).bind fun j=>bif(decide (h<j)) then(some (.ret (-1))) else((bR f e).bind fun q=>(bR a1 e).bind fun s=>bif(decide (s<q)) then(some (.ret 1)) else((aV (e-1)).bind fun t=>dN K f a1 k t))) else(some (.go ()))
def dG(K:Nat)(e:List Int)(a1:List Int):Option Int:=
 bif(decide ((e.length:Int)<(a1.length:Int))) then(some (-1)) else(bif(decide ((a1.length:Int)<(e.length:Int))) then(some 1) else((aV ((e.length:Int)-1)).bind fun f=>(dN K e a1 K f).bind fun o=>match o with| .ret r=>some r| .go _=>rY K))
theorem mS{K:Nat}{h:List Int}{a1:List Int}{r:Int}(e:dG K h a1=some r):Ct Tryz.prog 99 [.vc (pS cI h),.vc (pS cI a1)] (vI r):=by
 unfold dG at e;refine aA Tryz.func99 rfl (by kernel_rfl) Tryz.ntmps99 rfl (fun w0 M0=>?_);refine go ?_ ?_;refine aD e rfl (fun I e=>?_) (fun I e=>?_)
 ·exact bU
 refine go ?_ ?_;refine aD e rfl (fun J e=>?_) (fun J e=>?_)
 ·exact bU
 obtain⟨L,h4,e⟩:=aR e;refine go ?_ ?_;refine aI (aY (fun H E=>rY K=some r∧H=[]∧E=[]) ?_ (fun j=>?_))
 ·rintro _ _ ⟨e,rfl,rfl⟩;unfold rY at e;exact bU
 obtain⟨q,O,f⟩:=aR e;refine dW (fun k a w=>∃(s:Int),dN K h a1 k s=some q∧hs _ [] [(0,.vc (pS cI h)),(1,.vc (pS cI a1)),(5,vI s)] a w) K (fun a w ⟨_,e,_⟩=>by cases e) (fun k a w ⟨s,e,hh⟩=>dV ?_ hh) (fun a w hh=>⟨L,O,jH [] hh⟩);rw[dN.eq_2]at e;refine go ?_ ?_;refine aD e rfl (fun U e=>?_) (fun U e=>?_)
 ·refine go ?_ ?_;refine aI (aE (aE ?_));obtain⟨V,t,e⟩:=aR e;obtain⟨X,u,e⟩:=aR e;refine dr [0,0,3,7,0,0,48,112,255] 9 0 ?_ (fun F Y=>?_);refine aX (aH (aD e rfl (fun x e=>?_) (fun x e=>?_)))
  ·exact bU
  have e:=uS t e;have e:=uS u e;refine go ?_ ?_;refine dr [0,0,3,7,0,0,48,112,255] 9 0 ?_ (fun G G17=>?_);refine aX (aH (aD e rfl (fun y e=>?_) (fun y e=>?_)))
  ·exact bU
  obtain⟨z,h25,e⟩:=aR e;refine go ?_ ?_;exact aF (fun a w hh=>⟨z,e,jH [] hh⟩)
 refine bF ?_;obtain rfl:=iJ e;exact rW j ⟨f,rfl,rfl⟩ []
def pJ(K:Nat)(e:List Int):Option (List Int):=
 some e
def eN(K:Nat)(j:List Int)(a1:List Int):Nat→(List Int)→Int→Int→Option (List Int)
 |0,_,_,_=>none
 |k+1,f,q,e=>bif(decide (e<(j.length:Int))) then((bR j e).bind fun v30=>(dJ a1 e).bind fun s=>(aV (v30-s)).bind fun t=>(aV (t-q)).bind fun h=>bif(decide (h<0)) then((aV (h+1000000000)).bind fun u=>(tC f [u]).bind fun x=>(aV (e+1)).bind fun y=>eN K j a1 k x 1 y) else((tC f [h]).bind fun z=>(aV (e+1)).bind fun F=>eN K j a1 k z 0 F)) else(some f)
def gH(K:Nat)(f:List Int)(a1:List Int):Option (List Int):=
 (eN K f a1 K ([]:List Int) 0 0).bind fun e=>pJ K e
theorem pD{K:Nat}{X:List Int}{a1:List Int}{r:List Int}(e:gH K X a1=some r):Ct Tryz.prog 100 [.vc (pS cI X),.vc (pS cI a1)] (.vc (pS cI r)):=by
 unfold gH at e;refine aA Tryz.func100 rfl (by kernel_rfl) Tryz.ntmps100 rfl (fun w0 M0=>?_);refine aE (aJ (aG (aP (.inr rfl)) ⟨eF cI,zT⟩ ?_));refine aX (aH (aE (aJ (rC cI 3 rfl ?_))));refine go ?_ ?_;refine aI (aY (fun H E=>∃(q:List Int),∃(x:Option Nat),∃(y:Nat),∃(s:Nat),pJ K q=some r∧q.length=s∧H=[hO cI x y 3 s q]∧E=[(5,.vc (pO x s y))]) ?_ (fun L=>?_))
 ·rintro _ _ ⟨q,x,y,s,e,Y,rfl,rfl⟩;unfold pJ at e;refine go ?_ ?_;refine gY (gS (tT 0 [4,5,33] rfl Y ⟨rfl,rfl,rfl,zT⟩ rfl ?_));obtain rfl:=iJ e;exact kM (.inl rfl) Tryz.results100 (.tmp rfl .nil) rfl rfl
 obtain⟨O,hL,z⟩:=aR e;refine dW (fun k a w=>∃(h:List Int),∃(F:Int),∃(G:Int),∃(t:Option Nat),∃(u:Nat),∃(f:Nat),eN K X a1 k h F G=some O∧h.length=f∧hs _ [hO cI t u 3 f h] [(0,.vc (pS cI X)),(1,.vc (pS cI a1)),(5,.vc (pO t f u)),(6,vI F),(7,vI G)] a w) K (fun a w ⟨_,_,_,_,_,_,e,_,_⟩=>by cases e) (fun k a w ⟨h,F,G,t,u,f,e,j,hh⟩=>dV ?_ hh) (fun a w hh=>⟨([]:List Int),0,0,none,0,0,hL,rfl,jH [0] hh⟩);rw[eN.eq_2]at e;refine go ?_ ?_;refine aD e rfl (fun h27 e=>?_) (fun h27 e=>?_)
 ·refine go ?_ ?_;refine aI (aE ?_);obtain⟨v30,h31,e⟩:=aR e;obtain⟨v32,h33,e⟩:=bE e gR;obtain⟨v34,h35,e⟩:=aR e;obtain⟨I,h37,e⟩:=aR e;refine dr [0,0,3,7,0,0,48,127,0,511,1023] 11 0 ?_ (fun bs29 G28=>?_);refine go ?_ ?_;refine aD e rfl (fun h38 e=>?_) (fun h38 e=>?_)
  ·obtain⟨J,h40,e⟩:=aR e;refine go ?_ ?_;refine aG (iH (C:=cI) (xs:=[.tmp 30]) (ps:=[vI J]) (zs:=[J]) rfl tyS22 rfl ⟨⟨zT,rfl⟩,zT⟩ rfl) zU1 ?_;obtain⟨x41,U,e⟩:=aR e;refine nN 0 rfl tyS22 rfl rfl j rfl rfl U (fun b43 c44 H45 e46=>?_);cases e46;obtain⟨v48,h49,e⟩:=aR e;refine go ?_ ?_;exact aF (fun a w hh=>⟨x41,1,v48,b43,c44,(f+[J].length),e,(dO U j),jH [0] hh⟩)
  refine go ?_ ?_;refine aG (iH (C:=cI) (xs:=[.tmp 30]) (ps:=[vI I]) (zs:=[I]) rfl tyS22 rfl ⟨⟨zT,rfl⟩,zT⟩ rfl) zU1 ?_;obtain⟨x50,V,e⟩:=aR e;refine nN 0 rfl tyS22 rfl rfl j rfl rfl V (fun b52 c53 H54 e55=>?_);cases e55;obtain⟨v57,h58,e⟩:=aR e;refine go ?_ ?_;exact aF (fun a w hh=>⟨x50,0,v57,b52,c53,(f+[I].length),e,(dO V j),jH [0] hh⟩)
 refine bF ?_;obtain rfl:=iJ e;exact rW L ⟨h,t,u,f,z,j,rfl,rfl⟩ [0]
def pQ(K:Nat)(e:aC)(a1:aC):Option aC:=
 bif(e.neg==a1.neg) then((rH K e.d a1.d).bind fun q=>(bB K e.neg q).bind fun s=>some s) else((dG K e.d a1.d).bind fun v11=>bif(decide (v11<0)) then((gH K a1.d e.d).bind fun f=>(bB K a1.neg f).bind fun h=>some h) else((gH K e.d a1.d).bind fun j=>(bB K e.neg j).bind fun k=>some k))
theorem aAk{K:Nat}{j:aC}{a1:aC}{r:aC}(f:pQ K j a1=some r):Ct Tryz.prog 61 [.va (aC.e j),.va (aC.e a1)] (.va (aC.e r)):=by
 unfold pQ at f;refine aA Tryz.func61 rfl (by kernel_rfl) Tryz.ntmps61 rfl (fun w0 M0=>?_);refine aE (aJ (dP rfl rfl zT (fun X=>?_)));refine dP rfl rfl zT (fun b2=>?_);refine aM rfl tyZ40 (fun Y=>?_);refine go ?_ ?_;refine aG (aQC rfl Tryz.underlying4) zU2 ?_;refine aX (aH (aD f rfl (fun s f=>?_) (fun s f=>?_)))
 ·refine aE ?_;obtain⟨v7,h8,f⟩:=bE f aC7;obtain⟨v9,t,f⟩:=bE f bN;refine dr [0,1,0,4,0,16,60,127,255] 8 1 ?_ (fun u G5=>?_);exact bU
 obtain⟨v11,x,f⟩:=bE f mS;refine go ?_ ?_;refine aD f rfl (fun h f=>?_) (fun h f=>?_)
 ·refine aE ?_;obtain⟨y,z,f⟩:=bE f pD;obtain⟨F,G,f⟩:=bE f bN;refine dr [0,1,0,4,0,16,60,127,255] 8 1 ?_ (fun k I=>?_);exact bU
 obtain⟨J,L,f⟩:=bE f pD;obtain⟨O,U,f⟩:=bE f bN;refine go ?_ ?_;refine dr [0,1,0,4,0,16,60,127,255] 8 1 ?_ (fun q V=>?_);exact bU
def s6(K:Nat)(h:Int)(e:List Int):Option aC:=
 (bB K (decide (h<0)) e).bind fun f=>some f
def d7(K:Nat):Nat→(List Int)→Int→Option (List Int)
 |0,_,_=>none
 |k+1,f,e=>bif(e != 0) then((chr e 1000000000).bind fun h=>bif(decide (h<0)) then((aV (-h)).bind fun j=>(tC f [j]).bind fun q=>(chq e 1000000000).bind fun s=>d7 K k q s) else((tC f [h]).bind fun t=>(chq e 1000000000).bind fun u=>d7 K k t u)) else(some f)
def iY(K:Nat)(f:Int):Option aC:=
 (d7 K K ([]:List Int) f).bind fun e=>s6 K f e
theorem nO{K:Nat}{L:Int}{r:aC}(f:iY K L=some r):Ct Tryz.prog 62 [vI L] (.va (aC.e r)):=by
 unfold iY at f;refine aA Tryz.func62 rfl (by kernel_rfl) Tryz.ntmps62 rfl (fun w0 M0=>?_);refine aE (aJ (aM rfl tyZ40 (fun Y=>?_)));refine aX (aH (aE (aJ (rC cI 3 rfl ?_))));refine go ?_ ?_;refine aI (aY (fun H E=>∃(s:List Int),∃(y:Option Nat),∃(z:Nat),∃(t:Nat),s6 K L s=some r∧s.length=t∧H=[hO cI y z 3 t s,⟨some Y,1,40,2,1,([pB false]++[pS cI ([]:List Int)])⟩]∧E=[(2,.vc (pP (some Y) 0)),(3,.vc (pO y t z)),(4,.vc (pB (decide (L<0))))]) ?_ (fun O=>?_))
 ·rintro _ _ ⟨s,y,z,t,f,q22,rfl,rfl⟩;unfold s6 at f;refine aH (aE (aJ (gG ?_)));refine gG ?_;refine xC 0 [3,23] rfl q22 zU2 rfl ?_;obtain⟨v26,h27,f⟩:=bE f bN;exact bU
 obtain⟨U,hL,F⟩:=aR f;refine dW (fun k a w=>∃(j:List Int),∃(G:Int),∃(u:Option Nat),∃(x:Nat),∃(h:Nat),d7 K k j G=some U∧j.length=h∧hs _ [hO cI u x 3 h j,⟨some Y,1,40,2,1,([pB false]++[pS cI ([]:List Int)])⟩] [(0,vI G),(2,.vc (pP (some Y) 0)),(3,.vc (pO u h x)),(4,.vc (pB (decide (L<0))))] a w) K (fun a w ⟨_,_,_,_,_,f,_,_⟩=>by cases f) (fun k a w ⟨j,G,u,x,h,f,q,hh⟩=>dV ?_ hh) (fun a w hh=>⟨([]:List Int),L,none,0,0,hL,rfl,jH [0,1] hh⟩);rw[d7.eq_2]at f;refine go ?_ ?_;refine aD f rfl (fun h28 f=>?_) (fun h28 f=>?_)
 ·refine fB (aH (aI ?_));obtain⟨I,h30,f⟩:=aR f;refine go ?_ ?_;refine aD f rfl (fun h31 f=>?_) (fun h31 f=>?_)
  ·obtain⟨J,h33,f⟩:=aR f;refine go ?_ ?_;refine aG (iH (C:=cI) (xs:=[.tmp 17]) (ps:=[vI J]) (zs:=[J]) rfl tyS22 rfl ⟨⟨zT,rfl⟩,zT⟩ rfl) zU1 ?_;obtain⟨x34,V,f⟩:=aR f;refine nN 0 rfl tyS22 rfl rfl q rfl rfl V (fun b36 c37 H38 e39=>?_);cases e39;obtain⟨v41,h42,f⟩:=aR f;refine go ?_ ?_;exact aF (fun a w hh=>⟨x34,v41,b36,c37,(h+[J].length),f,(dO V q),jH [0,1] hh⟩)
  refine go ?_ ?_;refine aG (iH (C:=cI) (xs:=[.tmp 17]) (ps:=[vI I]) (zs:=[I]) rfl tyS22 rfl ⟨⟨zT,rfl⟩,zT⟩ rfl) zU1 ?_;obtain⟨x43,X,f⟩:=aR f;refine nN 0 rfl tyS22 rfl rfl q rfl rfl X (fun b45 c46 H47 e48=>?_);cases e48;obtain⟨v50,h51,f⟩:=aR f;refine go ?_ ?_;exact aF (fun a w hh=>⟨x43,v50,b45,c46,(h+[I].length),f,(dO X q),jH [0,1] hh⟩)
 refine bF ?_;obtain rfl:=iJ f;exact rW O ⟨j,u,x,h,F,q,rfl,rfl⟩ [0,1]
def nE(K:Nat)(e:aC):Option aC:=
 (bB K (!e.neg) e.d).bind fun f=>some f
theorem wW{K:Nat}{h:aC}{r:aC}(f:nE K h=some r):Ct Tryz.prog 84 [.va (aC.e h)] (.va (aC.e r)):=by
 unfold nE at f;refine aA Tryz.func84 rfl (by kernel_rfl) Tryz.ntmps84 rfl (fun w0 M0=>?_);refine aE (aJ (dP rfl rfl zT (fun j=>?_)));refine aM rfl tyZ40 (fun b2=>?_);obtain⟨k,q,f⟩:=bE f bN;exact bU
def fS(e:Bool)(a1:Int):Option aC:=
 bif(a1==0) then(some (⟨false,([]:List Int)⟩:aC)) else(bif(decide (a1<1000000000)) then(some (⟨e,[(IntKind.i64.wrap a1)]⟩:aC)) else(bif(decide (a1<1000000000000000000)) then((chr a1 1000000000).bind fun v5=>(uq a1 1000000000).bind fun k=>some (⟨e,[(IntKind.i64.wrap v5),(IntKind.i64.wrap k)]⟩:aC)) else((chr a1 1000000000).bind fun q=>(uq a1 1000000000).bind fun v11=>(chr v11 1000000000).bind fun f=>(uq a1 1000000000).bind fun h=>(uq h 1000000000).bind fun j=>some (⟨e,[(IntKind.i64.wrap q),(IntKind.i64.wrap f),(IntKind.i64.wrap j)]⟩:aC))))
theorem lS{q:Bool}{a1:Int}{r:aC}(f:fS q a1=some r):Ct Tryz.prog 134 [.vc (pB q),.vc (pI .u64 a1)] (.va (aC.e r)):=by
 unfold fS at f;refine aA Tryz.func134 rfl (by kernel_rfl) Tryz.ntmps134 rfl (fun w0 M0=>?_);refine aE (aJ (aM rfl tyZ40 (fun J=>?_)));refine go ?_ ?_;refine aI (go ?_ ?_);refine aD f rfl (fun y f=>?_) (fun y f=>?_)
 ·refine aE (aJ (aG (iW (is:=[]) (xs:=[]) (ps:=[]) rfl tyB40 rfl rfl zT rfl) zT ?_));exact bU
 refine go ?_ ?_;refine aD f rfl (fun z f=>?_) (fun z f=>?_)
 ·refine go ?_ ?_;refine aG (aE1 rfl ⟨_,Tryz.underlying131⟩ Tryz.underlying3) zU1 ?_;refine aG (iH (C:=cI) (xs:=[.tmp 14]) (ps:=[vI (IntKind.i64.wrap a1)]) (zs:=[(IntKind.i64.wrap a1)]) rfl tyS22 rfl ⟨⟨zT,rfl⟩,zT⟩ rfl) zU1 ?_;refine aG (iW (is:=[0,1]) (xs:=[.tmp 12,.tmp 15]) (ps:=[.vc (pB q),.vc (pS cI [(IntKind.i64.wrap a1)])]) rfl tyB40 rfl rfl ⟨zT,zT,zT⟩ rfl) zU2 ?_;exact bU
 refine go ?_ ?_;refine aD f rfl (fun F f=>?_) (fun F f=>?_)
 ·obtain⟨v5,K,f⟩:=aR f;refine go ?_ ?_;refine aG (aE1 rfl ⟨_,Tryz.underlying131⟩ Tryz.underlying3) zU1 ?_;refine gG ?_;obtain⟨s,G,f⟩:=aR f;refine aG (aIo rfl G) ⟨rfl,rT _ _,zT⟩ ?_;refine aG (aE1 rfl ⟨_,Tryz.underlying131⟩ Tryz.underlying3) zU1 ?_;refine aG (iH (C:=cI) (xs:=[.tmp 23,.tmp 26]) (ps:=[vI (IntKind.i64.wrap v5),vI (IntKind.i64.wrap s)]) (zs:=[(IntKind.i64.wrap v5),(IntKind.i64.wrap s)]) rfl tyS22 rfl ⟨⟨zT,rfl⟩,⟨zT,rfl⟩,zT⟩ rfl) zU2 ?_;refine aG (iW (is:=[0,1]) (xs:=[.tmp 20,.tmp 27]) (ps:=[.vc (pB q),.vc (pS cI [(IntKind.i64.wrap v5),(IntKind.i64.wrap s)])]) rfl tyB40 rfl rfl ⟨zT,zT,zT⟩ rfl) zU2 ?_;exact bU
 obtain⟨t,I,f⟩:=aR f;refine go ?_ ?_;refine aG (aE1 rfl ⟨_,Tryz.underlying131⟩ Tryz.underlying3) zU1 ?_;refine gG ?_;obtain⟨v11,h,f⟩:=aR f;refine aG (aIo rfl h) ⟨rfl,rT _ _,zT⟩ ?_;obtain⟨j,u,f⟩:=aR f;refine aG (aHF rfl u) ⟨rfl,rT _ _,zT⟩ ?_;refine aG (aE1 rfl ⟨_,Tryz.underlying131⟩ Tryz.underlying3) zU1 ?_;refine gG ?_;have f:=uS h f;refine aG (aIo rfl h) ⟨rfl,rT _ _,zT⟩ ?_;obtain⟨k,x,f⟩:=aR f;refine aG (aIo rfl x) ⟨rfl,rT _ _,zT⟩ ?_;refine aG (aE1 rfl ⟨_,Tryz.underlying131⟩ Tryz.underlying3) zU1 ?_;refine aG (iH (C:=cI) (xs:=[.tmp 32,.tmp 36,.tmp 40]) (ps:=[vI (IntKind.i64.wrap t),vI (IntKind.i64.wrap j),vI (IntKind.i64.wrap k)]) (zs:=[(IntKind.i64.wrap t),(IntKind.i64.wrap j),(IntKind.i64.wrap k)]) rfl tyS22 rfl ⟨⟨zT,rfl⟩,⟨zT,rfl⟩,⟨zT,rfl⟩,zT⟩ rfl) ⟨rfl,rfl,rfl,zT⟩ ?_;refine aG (iW (is:=[0,1]) (xs:=[.tmp 29,.tmp 41]) (ps:=[.vc (pB q),.vc (pS cI [(IntKind.i64.wrap t),(IntKind.i64.wrap j),(IntKind.i64.wrap k)])]) rfl tyB40 rfl rfl ⟨zT,zT,zT⟩ rfl) zU2 ?_;exact bU
def nR(e:Int):Option aC:=
 bif(decide (e<0)) then((fS (decide (e<0)) (wu (-(IntKind.u64.wrap e)))).bind fun f=>some f) else((fS (decide (e<0)) (IntKind.u64.wrap e)).bind fun v5=>some v5)
theorem tG{h:Int}{r:aC}(f:nR h=some r):Ct Tryz.prog 86 [vI h] (.va (aC.e r)):=by
 unfold nR at f;refine aA Tryz.func86 rfl (by kernel_rfl) Tryz.ntmps86 rfl (fun w0 M0=>?_);refine aE (aJ (aM rfl tyZ40 (fun k=>?_)));refine go ?_ ?_;refine aG (aE1 rfl ⟨_,Tryz.underlying3⟩ Tryz.underlying131) zU1 ?_;refine go ?_ ?_;refine aD f rfl (fun j f=>?_) (fun j f=>?_)
 ·refine aJ (gG ?_);refine aG (aT5 rfl) zU1 ?_;obtain⟨q,s,f⟩:=bE f lS;exact bU
 obtain⟨v5,t,f⟩:=bE f lS;exact bU
def vL(e:aC):Option Int:=
 bif e.neg then(some (-1)) else(bif((e.d.length:Int)==0) then(some 0) else(some 1))
theorem aFD{h:aC}{r:Int}(f:vL h=some r):Ct Tryz.prog 88 [.va (aC.e h)] (vI r):=by
 unfold vL at f;refine aA Tryz.func88 rfl (by kernel_rfl) Tryz.ntmps88 rfl (fun w0 M0=>?_);refine aE (aJ (dP rfl rfl zT (fun q=>?_)));refine go ?_ ?_;refine aI (go ?_ ?_);refine aD f rfl (fun j f=>?_) (fun j f=>?_)
 ·exact bU
 refine go ?_ ?_;refine aD f rfl (fun k f=>?_) (fun k f=>?_)
 ·exact bU
 exact bU
def uV(K:Nat):Option Bool:=
 some true
def iP(K:Nat)(f:aC)(a1:aC):Nat→Int→Option (LR Bool Unit)
 |0,_=>none
 |k+1,e=>bif(decide (e<(f.d.length:Int))) then((bR f.d e).bind fun h=>(bR a1.d e).bind fun j=>bif(h != j) then(some (.ret false)) else((aV (e+1)).bind fun q=>iP K f a1 k q)) else(some (.go ()))
def oN(K:Nat)(e:aC)(a1:aC):Option Bool:=
 bif(e.neg != a1.neg) then(some false) else(bif((e.d.length:Int) != (a1.d.length:Int)) then(some false) else((iP K e a1 K 0).bind fun o=>match o with| .ret r=>some r| .go _=>uV K))
theorem zR{K:Nat}{j:aC}{a1:aC}{r:Bool}(f:oN K j a1=some r):Ct Tryz.prog 92 [.va (aC.e j),.va (aC.e a1)] (.vc (pB r)):=by
 unfold oN at f;refine aA Tryz.func92 rfl (by kernel_rfl) Tryz.ntmps92 rfl (fun w0 M0=>?_);refine aE (aJ (dP rfl rfl zT (fun y=>?_)));refine dP rfl rfl zT (fun b2=>?_);refine go ?_ ?_;refine aG (aCw rfl Tryz.underlying4) zU2 ?_;refine gG ?_;refine dL f (fun F f=>?_) (fun F f=>?_)
 ·refine go ?_ ?_;refine kA rfl ?_;exact bU
 refine go ?_ ?_;refine aD f rfl (fun G f=>?_) (fun G f=>?_)
 ·exact bU
 refine go ?_ ?_;refine aI (aY (fun H E=>uV K=some r∧H=[]∧E=[]) ?_ (fun q=>?_))
 ·rintro _ _ ⟨f,rfl,rfl⟩;unfold uV at f;exact bU
 obtain⟨s,I,h⟩:=aR f;refine dW (fun k a w=>∃(t:Int),iP K j a1 k t=some s∧hs _ [⟨some b2,1,40,2,1,(aC.e a1)⟩,⟨some y,1,40,2,1,(aC.e j)⟩] [(2,.vc (pP (some y) 0)),(3,.vc (pP (some b2) 0)),(5,vI t)] a w) K (fun a w ⟨_,f,_⟩=>by cases f) (fun k a w ⟨t,f,hh⟩=>dV ?_ hh) (fun a w hh=>⟨0,I,jH [0,1] hh⟩);rw[iP.eq_2]at f;refine go ?_ ?_;refine aD f rfl (fun J f=>?_) (fun J f=>?_)
 ·refine go ?_ ?_;refine aI (aE ?_);obtain⟨L,O,f⟩:=aR f;obtain⟨U,V,f⟩:=aR f;refine dr [0,1,0,7,15,0,32,0,224,480,1023] 11 0 ?_ (fun z X=>?_);refine aX (aH (aD f rfl (fun u f=>?_) (fun u f=>?_)))
  ·exact bU
  obtain⟨x,Y,f⟩:=aR f;refine go ?_ ?_;exact aF (fun a w hh=>⟨x,f,jH [0,1] hh⟩)
 refine bF ?_;obtain rfl:=iJ f;exact rW q ⟨h,rfl,rfl⟩ []
def g8(e:List Int):Option Int:=
 (dJ e 1).bind fun v1=>(aV (v1*1000000000)).bind fun f=>(dJ e 0).bind fun v5=>(aV (f+v5)).bind fun h=>some h
theorem n8{f:List Int}{r:Int}(e:g8 f=some r):Ct Tryz.prog 138 [.vc (pS cI f)] (vI r):=by
 unfold g8 at e;refine aA Tryz.func138 rfl (by kernel_rfl) Tryz.ntmps138 rfl (fun w0 M0=>?_);obtain⟨v1,h,e⟩:=bE e gR;obtain⟨j,k,e⟩:=aR e;obtain⟨v5,q,e⟩:=bE e gR;obtain⟨s,t,e⟩:=aR e;exact bU
def jY(K:Nat)(e:List Int)(a1:Int):Option (List Int):=
 (bB K false e).bind fun v1=>(iY K a1).bind fun f=>(jA K v1 f).bind fun v5=>some v5.d
theorem sS{K:Nat}{f:List Int}{a1:Int}{r:List Int}(e:jY K f a1=some r):Ct Tryz.prog 165 [.vc (pS cI f),vI a1] (.vc (pS cI r)):=by
 unfold jY at e;refine aA Tryz.func165 rfl (by kernel_rfl) Tryz.ntmps165 rfl (fun w0 M0=>?_);refine aE (aJ (aG (aP (.inr rfl)) ⟨eF cI,zT⟩ ?_));obtain⟨v1,h,e⟩:=bE e bN;obtain⟨j,k,e⟩:=bE e nO;obtain⟨v5,q,e⟩:=bE e oV;refine go ?_ ?_;refine aM rfl tyZ40 (fun s=>?_);exact bU
def lJ(K:Nat)(e:List Int)(f:List Int):Option ((List Int)×(List Int)):=
 some (e,f)
def jJ(K:Nat)(a1:List Int)(h:List Int)(f:Int)(k:aC)(e:(List Int)→(List Int)→Int→Option ((List Int)×(List Int)))(j:Int):Option ((List Int)×(List Int)):=
 (jY K a1 j).bind fun q=>(gH K k.d q).bind fun s=>(bB K false s).bind fun t=>(bR h f).bind fun y=>(rX h f j).bind fun u=>(aV (f-1)).bind fun x=>e u t.d x
def bQ(K:Nat)(a1:List Int)(h:aC):Nat→Int→Int→Option Int
 |0,_,_=>none
 |k+1,f,j=>bif(decide (f<j)) then((aV (f+j)).bind fun u=>(aV (u+1)).bind fun x=>(chq x 2).bind fun e=>(jY K a1 e).bind fun q=>(dG K q h.d).bind fun s=>bif(decide (s≤0)) then(bQ K a1 h k e j) else((aV (e-1)).bind fun t=>bQ K a1 h k f t)) else(some f)
def gL(K:Nat)(a1:List Int)(h:List Int)(j:Int)(f:aC)(e:(List Int)→(List Int)→Int→Option ((List Int)×(List Int)))(k:Int):Option ((List Int)×(List Int)):=
 (bQ K a1 f K 0 k).bind fun q=>jJ K a1 h j f e q
def bH(K:Nat)(s:List Int)(a1:List Int):Nat→(List Int)→(List Int)→Int→Option ((List Int)×(List Int))
 |0,_,_,_=>none
 |k+1,f,j,e=>bif(decide (0≤e)) then((bR s e).bind fun t=>(tC [t] j).bind fun u=>(bB K false u).bind fun h=>(dG K h.d a1).bind fun q=>bif(decide (q<0)) then(gL K a1 f e h (bH K s a1 k) 0) else(gL K a1 f e h (bH K s a1 k) 999999999)) else(some (f,j))
def rD(K:Nat)(e:List Int)(f:List Int):Option ((List Int)×(List Int)):=
 some (e,f)
def nG(K:Nat)(a1:List Int)(h:List Int)(e:Int)(k:aC)(f:(List Int)→(List Int)→Int→Option ((List Int)×(List Int)))(j:Int):Option ((List Int)×(List Int)):=
 (jY K a1 j).bind fun q=>(gH K k.d q).bind fun s=>(bB K false s).bind fun t=>(bR h e).bind fun y=>(rX h e j).bind fun u=>(aV (e-1)).bind fun x=>f u t.d x
def fW(K:Nat)(a1:List Int)(f:aC):Nat→Int→Int→Option Int
 |0,_,_=>none
 |k+1,e,h=>bif(decide (e<h)) then((aV (e+h)).bind fun q=>(aV (q+1)).bind fun s=>(chq s 2).bind fun j=>(jY K a1 j).bind fun t=>(dG K t f.d).bind fun u=>bif(decide (u≤0)) then(fW K a1 f k j h) else((aV (j-1)).bind fun x=>fW K a1 f k e x)) else(some e)
def kS(K:Nat)(a1:List Int)(h:List Int)(j:Int)(f:aC)(e:(List Int)→(List Int)→Int→Option ((List Int)×(List Int)))(k:Int):Option ((List Int)×(List Int)):=
 (fW K a1 f K 0 k).bind fun q=>nG K a1 h j f e q
def cO(K:Nat)(u:List Int)(a1:List Int):Nat→(List Int)→(List Int)→Int→Option ((List Int)×(List Int))
 |0,_,_,_=>none
 |k+1,f,j,e=>bif(decide (0≤e)) then((bR u e).bind fun q=>(tC [q] j).bind fun s=>(bB K false s).bind fun h=>(dG K h.d a1).bind fun t=>bif(decide (t<0)) then(kS K a1 f e h (cO K u a1 k) 0) else(kS K a1 f e h (cO K u a1 k) 999999999)) else(some (f,j))
def kG(K:Nat)(e:List Int)(a1:List Int):Option ((List Int)×(List Int)):=
 bif(decide ((e.length:Int)≤2)) then(bif(decide ((a1.length:Int)≤2)) then((g8 e).bind fun G=>(g8 a1).bind fun v5=>(chq G v5).bind fun I=>(iY K I).bind fun J=>(g8 e).bind fun q=>(g8 a1).bind fun s=>(chr q s).bind fun t=>(iY K t).bind fun u=>some (J.d,u.d)) else((mkL (e.length:Int) 0).bind fun x=>(aV ((e.length:Int)-1)).bind fun y=>(bH K e a1 K x [] y).bind fun(z,F)=>lJ K z F)) else((mkL (e.length:Int) 0).bind fun f=>(aV ((e.length:Int)-1)).bind fun h=>(cO K e a1 K f [] h).bind fun(j,k)=>rD K j k)
theorem aBx{K:Nat}{G:List Int}{a1:List Int}{r:(List Int)×(List Int)}(e:kG K G a1=some r):Ct Tryz.prog 139 [.vc (pS cI G),.vc (pS cI a1)] (.t2 (.vc (pS cI r.1)) (.vc (pS cI r.2))):=by
 unfold kG at e;refine aA Tryz.func139 rfl (by kernel_rfl) Tryz.ntmps139 rfl (fun w0 M0=>?_);refine aE (aJ (aG (aP (.inr rfl)) ⟨eF cI,zT⟩ ?_));refine aG (aP (.inr rfl)) ⟨eF cI,zT⟩ ?_;refine go ?_ ?_;refine dL e (fun h1 e=>?_) (fun h1 e=>?_)
 ·refine go ?_ ?_;refine aD e rfl (fun h2 e=>?_) (fun h2 e=>?_)
  ·obtain⟨v3,h4,e⟩:=bE e n8;obtain⟨v5,h6,e⟩:=bE e n8;obtain⟨v7,h8,e⟩:=aR e;obtain⟨v9,h10,e⟩:=bE e nO;refine go ?_ ?_;refine aM rfl tyZ40 (fun b11=>?_);obtain⟨v12,h13,e⟩:=bE e n8;obtain⟨v14,h15,e⟩:=bE e n8;obtain⟨v16,h17,e⟩:=aR e;obtain⟨v18,h19,e⟩:=bE e nO;refine go ?_ ?_;refine aM rfl tyZ40 (fun b20=>?_);refine go ?_ ?_;refine dr [0,1,0,4,3,31] 6 0 ?_ (fun bs22 G21=>?_);refine aX (aH ?_);exact bU
  obtain⟨h,h24,e⟩:=aR e;refine go ?_ ?_;refine qE (C:=cI) rfl tyS22 rfl tyZ3 rfl h24 (fun u=>?_);refine go ?_ ?_;refine aG (aP (.inr rfl)) ⟨eF cI,zT⟩ ?_;obtain⟨v28,h29,e⟩:=aR e;refine go ?_ ?_;refine aI (aY (fun H E=>∃(x46:List Int),∃(x52:List Int),lJ K x46 x52=some r∧x46.length=h.length∧H=[hO cI u h.length 3 h.length x46]∧E=[(8,.vc (pO u h.length h.length)),(9,.vc (pS cI x52))]) ?_ (fun Jj54=>?_))
  ·rintro _ _ ⟨x46,x52,e,q50,rfl,rfl⟩;unfold lJ at e;refine go ?_ ?_;refine gY (gS (tT 0 [4,8,93] rfl q50 ⟨rfl,rfl,rfl,zT⟩ rfl ?_));obtain rfl:=iJ e;exact kM (.inl rfl) Tryz.results139 (.tmp rfl (.tmp rfl .nil)) rfl rfl
  obtain⟨⟨Y,x52'⟩,hL,hRl53⟩:=aR e;refine dW (fun k a w=>∃(x:List Int),∃(x44:List Int),∃(z:Int),bH K G a1 k x x44 z=some (Y,x52')∧x.length=h.length∧hs _ [hO cI u h.length 3 h.length x] [(0,.vc (pS cI G)),(1,.vc (pS cI a1)),(8,.vc (pO u h.length h.length)),(9,.vc (pS cI x44)),(10,vI z)] a w) K (fun a w ⟨_,_,_,e,_,_⟩=>by cases e) (fun k a w ⟨x,x44,z,e,q42,hh⟩=>dV ?_ hh) (fun a w hh=>⟨h,[],v28,hL,rfl,jH [0] hh⟩);rw[bH.eq_2]at e;refine go ?_ ?_;refine aD e rfl (fun h55 e=>?_) (fun h55 e=>?_)
  ·refine go ?_ ?_;refine aI ?_;obtain⟨v56,h57,e⟩:=aR e;refine go ?_ ?_;refine aNk (aJS (C:=cI) (xs:=[.tmp 53]) (ps:=[vI v56]) (zs:=[v56]) rfl tyS22 rfl ⟨⟨zT,rfl⟩,zT⟩ rfl) zU1 (fun b58 _=>?_);refine gG ?_;obtain⟨x61,h62,e⟩:=aR e;refine nN 0 rfl tyS22 rfl rfl rfl rfl rfl h62 (fun b63 c64 H65 e66=>?_);cases e66;refine xC 0 [56] rfl (dO h62 rfl) zU1 rfl ?_;obtain⟨X,h69,e⟩:=bE e bN;refine aG (bO rfl h69 rfl) ⟨k_B _,rfl,zT⟩ ?_;refine aM rfl tyZ40 (fun b70=>?_);refine mI (t_s 0 rfl rfl rfl tyA40.s) zU2 ?_;refine aX (aH (aE (aJ (aG (iG (off:=0) (k:=1) rfl tyF40_1) zU1 ?_))));refine aG (gM 0 1 rfl rfl rfl rfl (.one tyO22)) zU1 ?_;refine zL ?_;refine aX (aH (aE (aJ (aG (aP (.inr rfl)) ⟨rT _ _,zT⟩ ?_))));refine aX (aH (aE (aJ (aG (aP (.inr rfl)) ⟨rT _ _,zT⟩ ?_))));refine aX (aH (aE (zJ (fun H E=>∃(x72:Int),gL K a1 x z X (bH K G a1 k) x72=some (Y,x52')∧H=[hO cI u h.length 3 h.length x]∧E=[(0,.vc (pS cI G)),(1,.vc (pS cI a1)),(8,.vc (pO u h.length h.length)),(9,.vc (pS cI X.d)),(10,vI z),(12,vI 0),(13,vI x72)]) ?_ (fun Jj73=>?_))))
   ·rintro _ _ ⟨x72,e,rfl,rfl⟩;unfold gL at e;refine aE (aI (aY (fun H E=>∃(x78:Int),jJ K a1 x z X (bH K G a1 k) x78=some (Y,x52')∧H=[hO cI u h.length 3 h.length x]∧E=[(0,.vc (pS cI G)),(1,.vc (pS cI a1)),(8,.vc (pO u h.length h.length)),(9,.vc (pS cI X.d)),(10,vI z),(12,vI x78)]) ?_ (fun Jj80=>?_)))
    ·rintro _ _ ⟨x78,e,rfl,rfl⟩;unfold jJ at e;obtain⟨v81,h82,e⟩:=bE e sS;obtain⟨v83,h84,e⟩:=bE e pD;obtain⟨v85,h86,e⟩:=bE e bN;refine go ?_ ?_;refine aM rfl tyZ40 (fun b87=>?_);obtain⟨v88,h89,x90,h91,v93,h94,e⟩:=bn3 e;refine go ?_ ?_;exact aF (fun a w hh=>⟨x90,v85.d,v93,e,(bI h91 q42),jH [1] hh⟩)
    obtain⟨x78',hL,hRl79⟩:=aR e;refine dW (fun k a w=>∃(x76:Int),∃(x77:Int),bQ K a1 X k x76 x77=some x78'∧hs _ [hO cI u h.length 3 h.length x] [(0,.vc (pS cI G)),(1,.vc (pS cI a1)),(8,.vc (pO u h.length h.length)),(9,.vc (pS cI X.d)),(10,vI z),(12,vI x76),(13,vI x77)] a w) K (fun a w ⟨_,_,e,_⟩=>by cases e) (fun k a w ⟨x76,x77,e,hh⟩=>dV ?_ hh) (fun a w hh=>⟨0,x72,hL,jH [0] hh⟩);rw[bQ.eq_2]at e;refine go ?_ ?_;refine aD e rfl (fun h95 e=>?_) (fun h95 e=>?_)
    ·refine fB (aH (aI ?_));obtain⟨v96,h97,v98,h99,v100,h101,e⟩:=bn3 e;obtain⟨v102,h103,e⟩:=bE e sS;obtain⟨v104,h105,e⟩:=bE e mS;refine go ?_ ?_;refine aD e rfl (fun h106 e=>?_) (fun h106 e=>?_)
     ·refine go ?_ ?_;exact aF (fun a w hh=>⟨v100,x77,e,jH [0] hh⟩)
     obtain⟨v107,h108,e⟩:=aR e;refine go ?_ ?_;exact aF (fun a w hh=>⟨x76,v107,e,jH [0] hh⟩)
    refine bF ?_;obtain rfl:=iJ e;exact rW Jj80 ⟨x76,hRl79,rfl,rfl⟩ [0]
   obtain⟨v109,h110,e⟩:=bE e mS;refine go ?_ ?_;refine aD e rfl (fun h111 e=>?_) (fun h111 e=>?_)
   ·refine aJ (aG (aP (.inr rfl)) ⟨rT _ _,zT⟩ ?_);refine aX ?_;exact rW Jj73 ⟨0,e,rfl,rfl⟩ [1]
   refine fB ?_;exact rW Jj73 ⟨999999999,e,rfl,rfl⟩ [1]
  refine bF ?_;obtain⟨rfl,rfl⟩:=sm2 e;exact rW Jj54 ⟨x,x44,hRl53,q42,rfl,rfl⟩ [0]
 refine go ?_ ?_;refine vB rfl ?_;obtain⟨f,h113,e⟩:=aR e;refine go ?_ ?_;refine qE (C:=cI) rfl tyS22 rfl tyZ3 rfl h113 (fun j=>?_);refine go ?_ ?_;refine aG (aP (.inr rfl)) ⟨eF cI,zT⟩ ?_;obtain⟨v117,h118,e⟩:=aR e;refine go ?_ ?_;refine aI (aY (fun H E=>∃(L:List Int),∃(x141:List Int),rD K L x141=some r∧L.length=f.length∧H=[hO cI j f.length 3 f.length L]∧E=[(8,.vc (pO j f.length f.length)),(9,.vc (pS cI x141))]) ?_ (fun Jj143=>?_))
 ·rintro _ _ ⟨L,x141,e,q139,rfl,rfl⟩;unfold rD at e;refine go ?_ ?_;refine gY (gS (tT 0 [4,8,93] rfl q139 ⟨rfl,rfl,rfl,zT⟩ rfl ?_));obtain rfl:=iJ e;exact kM (.inl rfl) Tryz.results139 (.tmp rfl (.tmp rfl .nil)) rfl rfl
 obtain⟨⟨I,J⟩,hL,hRl142⟩:=aR e;refine dW (fun k a w=>∃(q:List Int),∃(O:List Int),∃(t:Int),cO K G a1 k q O t=some (I,J)∧q.length=f.length∧hs _ [hO cI j f.length 3 f.length q] [(0,.vc (pS cI G)),(1,.vc (pS cI a1)),(8,.vc (pO j f.length f.length)),(9,.vc (pS cI O)),(10,vI t)] a w) K (fun a w ⟨_,_,_,e,_,_⟩=>by cases e) (fun k a w ⟨q,O,t,e,q131,hh⟩=>dV ?_ hh) (fun a w hh=>⟨f,[],v117,hL,rfl,jH [0] hh⟩);rw[cO.eq_2]at e;refine go ?_ ?_;refine aD e rfl (fun h144 e=>?_) (fun h144 e=>?_)
 ·refine go ?_ ?_;refine aI ?_;obtain⟨v145,h146,e⟩:=aR e;refine go ?_ ?_;refine aNk (aJS (C:=cI) (xs:=[.tmp 53]) (ps:=[vI v145]) (zs:=[v145]) rfl tyS22 rfl ⟨⟨zT,rfl⟩,zT⟩ rfl) zU1 (fun b147 _=>?_);refine gG ?_;obtain⟨x150,h151,e⟩:=aR e;refine nN 0 rfl tyS22 rfl rfl rfl rfl rfl h151 (fun b152 c153 H154 e155=>?_);cases e155;refine xC 0 [56] rfl (dO h151 rfl) zU1 rfl ?_;obtain⟨y,h158,e⟩:=bE e bN;refine aG (bO rfl h158 rfl) ⟨k_B _,rfl,zT⟩ ?_;refine aM rfl tyZ40 (fun b159=>?_);refine mI (t_s 0 rfl rfl rfl tyA40.s) zU2 ?_;refine aX (aH (aE (aJ (aG (iG (off:=0) (k:=1) rfl tyF40_1) zU1 ?_))));refine aG (gM 0 1 rfl rfl rfl rfl (.one tyO22)) zU1 ?_;refine zL ?_;refine aX (aH (aE (aJ (aG (aP (.inr rfl)) ⟨rT _ _,zT⟩ ?_))));refine aX (aH (aE (aJ (aG (aP (.inr rfl)) ⟨rT _ _,zT⟩ ?_))));refine aX (aH (aE (zJ (fun H E=>∃(U:Int),kS K a1 q t y (cO K G a1 k) U=some (I,J)∧H=[hO cI j f.length 3 f.length q]∧E=[(0,.vc (pS cI G)),(1,.vc (pS cI a1)),(8,.vc (pO j f.length f.length)),(9,.vc (pS cI y.d)),(10,vI t),(12,vI 0),(13,vI U)]) ?_ (fun Jj162=>?_))))
  ·rintro _ _ ⟨U,e,rfl,rfl⟩;unfold kS at e;refine aE (aI (aY (fun H E=>∃(x167:Int),nG K a1 q t y (cO K G a1 k) x167=some (I,J)∧H=[hO cI j f.length 3 f.length q]∧E=[(0,.vc (pS cI G)),(1,.vc (pS cI a1)),(8,.vc (pO j f.length f.length)),(9,.vc (pS cI y.d)),(10,vI t),(12,vI x167)]) ?_ (fun Jj169=>?_)))
   ·rintro _ _ ⟨x167,e,rfl,rfl⟩;unfold nG at e;obtain⟨v170,h171,e⟩:=bE e sS;obtain⟨v172,h173,e⟩:=bE e pD;obtain⟨v174,h175,e⟩:=bE e bN;refine go ?_ ?_;refine aM rfl tyZ40 (fun b176=>?_);obtain⟨v177,h178,x179,h180,v182,h183,e⟩:=bn3 e;refine go ?_ ?_;exact aF (fun a w hh=>⟨x179,v174.d,v182,e,(bI h180 q131),jH [1] hh⟩)
   obtain⟨x167',hL,hRl168⟩:=aR e;refine dW (fun k a w=>∃(F:Int),∃(V:Int),fW K a1 y k F V=some x167'∧hs _ [hO cI j f.length 3 f.length q] [(0,.vc (pS cI G)),(1,.vc (pS cI a1)),(8,.vc (pO j f.length f.length)),(9,.vc (pS cI y.d)),(10,vI t),(12,vI F),(13,vI V)] a w) K (fun a w ⟨_,_,e,_⟩=>by cases e) (fun k a w ⟨F,V,e,hh⟩=>dV ?_ hh) (fun a w hh=>⟨0,U,hL,jH [0] hh⟩);rw[fW.eq_2]at e;refine go ?_ ?_;refine aD e rfl (fun h184 e=>?_) (fun h184 e=>?_)
   ·refine fB (aH (aI ?_));obtain⟨v185,h186,v187,h188,v189,h190,e⟩:=bn3 e;obtain⟨v191,h192,e⟩:=bE e sS;obtain⟨v193,h194,e⟩:=bE e mS;refine go ?_ ?_;refine aD e rfl (fun h195 e=>?_) (fun h195 e=>?_)
    ·refine go ?_ ?_;exact aF (fun a w hh=>⟨v189,V,e,jH [0] hh⟩)
    obtain⟨v196,h197,e⟩:=aR e;refine go ?_ ?_;exact aF (fun a w hh=>⟨F,v196,e,jH [0] hh⟩)
   refine bF ?_;obtain rfl:=iJ e;exact rW Jj169 ⟨F,hRl168,rfl,rfl⟩ [0]
  obtain⟨v198,h199,e⟩:=bE e mS;refine go ?_ ?_;refine aD e rfl (fun h200 e=>?_) (fun h200 e=>?_)
  ·refine aJ (aG (aP (.inr rfl)) ⟨rT _ _,zT⟩ ?_);refine aX ?_;exact rW Jj162 ⟨0,e,rfl,rfl⟩ [1]
  refine fB ?_;exact rW Jj162 ⟨999999999,e,rfl,rfl⟩ [1]
 refine bF ?_;obtain⟨rfl,rfl⟩:=sm2 e;exact rW Jj143 ⟨q,O,hRl142,q131,rfl,rfl⟩ [0]
def l6(K:Nat)(e:aC)(a1:aC):Option (aC×aC):=
 bif((a1.d.length:Int)==0) then(some ((⟨false,([]:List Int)⟩:aC),(⟨false,([]:List Int)⟩:aC))) else((kG K e.d a1.d).bind fun v6=>(bB K (e.neg != a1.neg) v6.1).bind fun f=>(bB K false v6.2).bind fun v11=>bif e.neg then(bif(decide (0<(v11.d.length:Int))) then((bB K (e.neg != a1.neg) [1]).bind fun h=>(pQ K f h).bind fun v20=>(gH K a1.d v11.d).bind fun j=>(bB K false j).bind fun k=>some (v20,k)) else(some (f,v11))) else(some (f,v11)))
theorem uE{K:Nat}{x:aC}{a1:aC}{r:aC×aC}(f:l6 K x a1=some r):Ct Tryz.prog 96 [.va (aC.e x),.va (aC.e a1)] (.t2 (.va (aC.e r.1)) (.va (aC.e r.2))):=by
 unfold l6 at f;refine aA Tryz.func96 rfl (by kernel_rfl) Tryz.ntmps96 rfl (fun w0 M0=>?_);refine aE (aJ (dP rfl rfl zT (fun z=>?_)));refine dP rfl rfl zT (fun b2=>?_);refine aM rfl tyZ40 (fun G=>?_);refine aM rfl tyZ40 (fun I=>?_);refine go ?_ ?_;refine aD f rfl (fun h5 f=>?_) (fun h5 f=>?_)
 ·refine aE (aJ (aG (iW (is:=[]) (xs:=[]) (ps:=[]) rfl tyB40 rfl rfl zT rfl) zT ?_));refine aG (iW (is:=[]) (xs:=[]) (ps:=[]) rfl tyB40 rfl rfl zT rfl) zT ?_;exact bU
 obtain⟨v6,h7,f⟩:=bE f aBx;refine go ?_ ?_;refine aG (aCw rfl Tryz.underlying4) zU2 ?_;refine gG ?_;obtain⟨y,h9,f⟩:=bE f bN;refine aG (bO rfl h9 rfl) zU2 ?_;refine aM rfl tyZ40 (fun t=>?_);obtain⟨v11,h12,f⟩:=bE f bN;refine go ?_ ?_;refine aM rfl tyZ40 (fun u=>?_);refine go ?_ ?_;refine dL f (fun O f=>?_) (fun O f=>?_)
 ·refine go ?_ ?_;refine aD f rfl (fun U f=>?_) (fun U f=>?_)
  ·refine aE ?_;obtain⟨V,X,f⟩:=bE f bN;obtain⟨v20,Y,f⟩:=bE f aAk;refine kP [0,0,2,0,8,30,0,126,255,511] 9 1 [.v (.va (aC.e y)),.v (.vc (pP (some z) 0)),.v (.vc (pB x.neg)),.v (.vc (pP (some b2) 0)),.v (.vc (pB a1.neg)),.v (.vc (pB (x.neg != a1.neg))),.v (.vc (pS cI [1])),.v (.va (aC.e V)),.v (.va (aC.e v20))] bC ⟨d0 (gM 1 2 rfl rfl rfl rfl (.agg tyA40)) zU1,d0 (iG (off:=0) (k:=0) rfl tyF40_0) zU1,d0 (gM 5 1 rfl rfl rfl rfl (.one tyO4)) zU1,d0 (iG (off:=0) (k:=0) rfl tyF40_0) zU1,d0 (gM 4 1 rfl rfl rfl rfl (.one tyO4)) zU1,⟨rfl,.run (L:=[0]) ⟨fun J A=>aCw rfl Tryz.underlying4,zT⟩ (fun J=>zU2)⟩,d0 (iH (C:=cI) (xs:=[.const (.int .i64 (1))]) (ps:=[vI 1]) (zs:=[1]) rfl tyS22 rfl ⟨⟨zT,rfl⟩,zT⟩ rfl) ⟨rT _ _,zT⟩,d0 (bO rfl X rfl) zU2,d0 (bO rfl Y rfl) zU2,zT⟩ (fun bs17 J=>?_);obtain⟨v22,h23,f⟩:=bE f pD;obtain⟨F,h25,f⟩:=bE f bN;refine go ?_ ?_;refine tS (HsM [(0,fun h=>[⟨some u,1,40,2,1,(aC.e F)⟩,⟨some t,1,40,2,1,(aC.e v20)⟩,⟨some I,1,40,2,1,([pB false]++[pS cI ([]:List Int)])⟩,⟨some G,1,40,2,1,([pB false]++[pS cI ([]:List Int)])⟩,⟨some b2,1,40,2,1,(aC.e a1)⟩,⟨some z,1,40,2,1,(aC.e x)⟩]),(1,fun h=>[⟨some u,1,40,2,1,(aC.e F)⟩,⟨some t,1,40,2,1,(aC.e v20)⟩,⟨some I,1,40,2,1,([pB false]++[pS cI ([]:List Int)])⟩,⟨some G,1,40,2,1,(aC.e v20)⟩,⟨some b2,1,40,2,1,(aC.e a1)⟩,⟨some z,1,40,2,1,(aC.e x)⟩])]) [2] [0,0,1,7] 3 1 [.v (.va (aC.e v20)),.v (.va (aC.e F)),.g (fun _ _=>.any)] bC ⟨d1 0 (gM 1 2 rfl rfl rfl rfl (.agg tyA40)) zU1,⟨rfl,.run (L:=[0,1]) ⟨fun h A=>gM 0 2 rfl rfl rfl rfl (.agg tyA40),fun h A=>gM 0 2 rfl rfl rfl rfl (.agg tyA40),zT⟩ (fun h=>zU1)⟩,⟨rfl,.hvy [0] ⟨fun h A=>aDf (t_s 3 rfl rfl rfl tyA40.s),zT⟩ (fun h=>zU2)⟩,zT⟩ (fun bs27 h=>?_);exact bU
  refine go ?_ ?_;refine tS (HsM [(0,fun j=>[⟨some u,1,40,2,1,(aC.e v11)⟩,⟨some t,1,40,2,1,(aC.e y)⟩,⟨some I,1,40,2,1,([pB false]++[pS cI ([]:List Int)])⟩,⟨some G,1,40,2,1,([pB false]++[pS cI ([]:List Int)])⟩,⟨some b2,1,40,2,1,(aC.e a1)⟩,⟨some z,1,40,2,1,(aC.e x)⟩]),(1,fun j=>[⟨some u,1,40,2,1,(aC.e v11)⟩,⟨some t,1,40,2,1,(aC.e y)⟩,⟨some I,1,40,2,1,([pB false]++[pS cI ([]:List Int)])⟩,⟨some G,1,40,2,1,(aC.e y)⟩,⟨some b2,1,40,2,1,(aC.e a1)⟩,⟨some z,1,40,2,1,(aC.e x)⟩])]) [2] [0,0,1,7] 3 1 [.v (.va (aC.e y)),.v (.va (aC.e v11)),.g (fun _ _=>.any)] bC ⟨d1 0 (gM 1 2 rfl rfl rfl rfl (.agg tyA40)) zU1,⟨rfl,.run (L:=[0,1]) ⟨fun j A=>gM 0 2 rfl rfl rfl rfl (.agg tyA40),fun j A=>gM 0 2 rfl rfl rfl rfl (.agg tyA40),zT⟩ (fun j=>zU1)⟩,⟨rfl,.hvy [0] ⟨fun j A=>aDf (t_s 3 rfl rfl rfl tyA40.s),zT⟩ (fun j=>zU2)⟩,zT⟩ (fun bs29 j=>?_);exact bU
 refine go ?_ ?_;refine vB rfl ?_;refine go ?_ ?_;refine tS (HsM [(0,fun q=>[⟨some u,1,40,2,1,(aC.e v11)⟩,⟨some t,1,40,2,1,(aC.e y)⟩,⟨some I,1,40,2,1,([pB false]++[pS cI ([]:List Int)])⟩,⟨some G,1,40,2,1,([pB false]++[pS cI ([]:List Int)])⟩,⟨some b2,1,40,2,1,(aC.e a1)⟩,⟨some z,1,40,2,1,(aC.e x)⟩]),(1,fun q=>[⟨some u,1,40,2,1,(aC.e v11)⟩,⟨some t,1,40,2,1,(aC.e y)⟩,⟨some I,1,40,2,1,([pB false]++[pS cI ([]:List Int)])⟩,⟨some G,1,40,2,1,(aC.e y)⟩,⟨some b2,1,40,2,1,(aC.e a1)⟩,⟨some z,1,40,2,1,(aC.e x)⟩])]) [2] [0,0,1,7] 3 1 [.v (.va (aC.e y)),.v (.va (aC.e v11)),.g (fun _ _=>.any)] bC ⟨d1 0 (gM 1 2 rfl rfl rfl rfl (.agg tyA40)) zU1,⟨rfl,.run (L:=[0,1]) ⟨fun q A=>gM 0 2 rfl rfl rfl rfl (.agg tyA40),fun q A=>gM 0 2 rfl rfl rfl rfl (.agg tyA40),zT⟩ (fun q=>zU1)⟩,⟨rfl,.hvy [0] ⟨fun q A=>aDf (t_s 3 rfl rfl rfl tyA40.s),zT⟩ (fun q=>zU2)⟩,zT⟩ (fun bs31 q=>?_);exact bU
def uX(K:Nat)(e:aC):Option aC:=
 some e
def rR(K:Nat)(e:Int):Option (LR aC aC):=
 (iY K e).bind fun f=>some (.ret f)
def iK(K:Nat):Nat→Int→Int→Option Int
 |0,_,_=>none
 |k+1,f,e=>bif(decide (0<e)) then((chr f e).bind fun h=>iK K k e h) else(some f)
def f8(K:Nat):Nat→aC→aC→Option (LR aC aC)
 |0,_,_=>none
 |k+1,e,f=>bif(decide (0<(e.d.length:Int))) then(bif(decide ((f.d.length:Int)≤2)) then(bif(decide ((e.d.length:Int)≤2)) then((g8 f.d).bind fun v20=>(g8 e.d).bind fun h=>(iK K K v20 h).bind fun j=>rR K j) else((l6 K f e).bind fun q=>f8 K k q.2 e)) else((l6 K f e).bind fun s=>f8 K k s.2 e)) else(some (.go f))
def sO(K:Nat)(f:aC)(a1:aC):Option aC:=
 (bB K false f.d).bind fun v4=>(bB K false a1.d).bind fun h=>(f8 K K h v4).bind fun o=>match o with| .ret r=>some r| .go e=>uX K e
theorem aDF{K:Nat}{a0:aC}{a1:aC}{r:aC}(f:sO K a0 a1=some r):Ct Tryz.prog 95 [.va (aC.e a0),.va (aC.e a1)] (.va (aC.e r)):=by
 unfold sO at f;refine aA Tryz.func95 rfl (by kernel_rfl) Tryz.ntmps95 rfl (fun w0 M0=>?_);refine aE (aJ (dP rfl rfl zT (fun b1=>?_)));refine dP rfl rfl zT (fun b2=>?_);refine aM rfl tyZ40 (fun t=>?_);obtain⟨v4,h5,f⟩:=bE f bN;refine go ?_ ?_;refine aM rfl tyZ40 (fun L=>?_);obtain⟨v7,h8,f⟩:=bE f bN;refine go ?_ ?_;refine aM rfl tyZ40 (fun b9=>?_);refine go ?_ ?_;refine aI (aY (fun H E=>∃(x:aC),uX K x=some r∧H=[⟨some L,1,40,2,1,(aC.e x)⟩,⟨some t,1,40,2,1,([pB false]++[pS cI ([]:List Int)])⟩]∧E=[(4,.vc (pP (some t) 0)),(5,.vc (pP (some L) 0))]) ?_ (fun G=>?_))
 ·rintro _ _ ⟨x,f,rfl,rfl⟩;unfold uX at f;exact bU
 obtain⟨u,O,y⟩:=aR f;refine dW (fun k a w=>∃(h:aC),∃(j:aC),f8 K k h j=some u∧hs _ [⟨some b9,1,40,2,1,(aC.e h)⟩,⟨some L,1,40,2,1,(aC.e j)⟩,⟨some t,1,40,2,1,([pB false]++[pS cI ([]:List Int)])⟩] [(4,.vc (pP (some t) 0)),(5,.vc (pP (some L) 0)),(6,.vc (pP (some b9) 0))] a w) K (fun a w ⟨_,_,f,_⟩=>by cases f) (fun k a w ⟨h,j,f,hh⟩=>dV ?_ hh) (fun a w hh=>⟨v7,v4,O,jH [0,1,2] hh⟩);rw[f8.eq_2]at f;refine go ?_ ?_;refine aD f rfl (fun U f=>?_) (fun U f=>?_)
 ·refine fB (aH (aI (go ?_ ?_)));refine dL f (fun V f=>?_) (fun V f=>?_)
  ·refine go ?_ ?_;refine aD f rfl (fun X f=>?_) (fun X f=>?_)
   ·obtain⟨v20,h21,f⟩:=bE f n8;obtain⟨Y,h23,f⟩:=bE f n8;refine go ?_ ?_;refine aI (aY (fun H E=>∃(z:Int),rR K z=some u∧H=[⟨some t,1,40,2,1,([pB false]++[pS cI ([]:List Int)])⟩]∧E=[(4,.vc (pP (some t) 0)),(7,vI z)]) ?_ (fun I=>?_))
    ·rintro _ _ ⟨z,f,rfl,rfl⟩;unfold rR at f;obtain⟨v31,h32,f⟩:=bE f nO;exact bU
    obtain⟨J,O,F⟩:=aR f;refine dW (fun k a w=>∃(q:Int),∃(s:Int),iK K k q s=some J∧hs _ [⟨some t,1,40,2,1,([pB false]++[pS cI ([]:List Int)])⟩] [(4,.vc (pP (some t) 0)),(7,vI q),(8,vI s)] a w) K (fun a w ⟨_,_,f,_⟩=>by cases f) (fun k a w ⟨q,s,f,hh⟩=>dV ?_ hh) (fun a w hh=>⟨v20,Y,O,jH [2] hh⟩);rw[iK.eq_2]at f;refine go ?_ ?_;refine aD f rfl (fun h33 f=>?_) (fun h33 f=>?_)
    ·refine fB (aH (aI ?_));obtain⟨v34,h35,f⟩:=aR f;refine go ?_ ?_;exact aF (fun a w hh=>⟨s,v34,f,jH [0] hh⟩)
    refine bF ?_;obtain rfl:=iJ f;exact rW I ⟨q,F,rfl,rfl⟩ [0]
   obtain⟨v36,h37,f⟩:=bE f uE;refine go ?_ ?_;refine aM rfl tyZ40 (fun b38=>?_);refine aM rfl tyZ40 (fun b39=>?_);refine go ?_ ?_;exact aF (fun a w hh=>⟨v36.2,h,f,jH [2,3,4] hh⟩)
  refine go ?_ ?_;refine vB rfl ?_;obtain⟨v40,h41,f⟩:=bE f uE;refine go ?_ ?_;refine aM rfl tyZ40 (fun b42=>?_);refine aM rfl tyZ40 (fun b43=>?_);refine go ?_ ?_;exact aF (fun a w hh=>⟨v40.2,h,f,jH [2,3,4] hh⟩)
 refine bF ?_;obtain rfl:=iJ f;exact rW G ⟨j,y,rfl,rfl⟩ [1,2]
def tD(e:aC):Option aC:=
 bif(!e.neg) then(some (⟨(decide (0<(e.d.length:Int))),e.d⟩:aC)) else(some (⟨false,e.d⟩:aC))
theorem aAi{h:aC}{r:aC}(f:tD h=some r):Ct Tryz.prog 109 [.va (aC.e h)] (.va (aC.e r)):=by
 unfold tD at f;refine aA Tryz.func109 rfl (by kernel_rfl) Tryz.ntmps109 rfl (fun w0 M0=>?_);refine aE (aJ (dP rfl rfl zT (fun k=>?_)));refine aM rfl tyZ40 (fun b2=>?_);refine go ?_ ?_;refine dL f (fun j f=>?_) (fun j f=>?_)
 ·exact bU
 exact bU
def wV(K:Nat)(f:Bool)(a1:List Int)(e:Int):Option aC:=
 bif(e==0) then(some (⟨false,([]:List Int)⟩:aC)) else((slL a1 0 e).bind fun h=>some (⟨f,h⟩:aC))
def oA(K:Nat)(a1:List Int):Nat→Int→Option Int
 |0,_=>none
 |k+1,e=>bif(decide (0<e)) then((aV (e-1)).bind fun v11=>(bR a1 v11).bind fun f=>bif(f==0) then((aV (e-1)).bind fun h=>oA K a1 k h) else(some e)) else(some e)
def fG(K:Nat)(e:Bool)(a1:List Int):Option aC:=
 (oA K a1 K (a1.length:Int)).bind fun f=>wV K e a1 f
theorem jV{K:Nat}{j:Bool}{a1:List Int}{r:aC}(f:fG K j a1=some r):Ct Tryz.prog 155 [.vc (pB j),.vc (pS cI a1)] (.va (aC.e r)):=by
 unfold fG at f;refine aA Tryz.func155 rfl (by kernel_rfl) Tryz.ntmps155 rfl (fun w0 M0=>?_);refine aE (aJ (aM rfl tyZ40 (fun t=>?_)));refine go ?_ ?_;refine aI (aY (fun H E=>∃(u:Int),wV K j a1 u=some r∧H=[⟨some t,1,40,2,1,([pB false]++[pS cI ([]:List Int)])⟩]∧E=[(0,.vc (pB j)),(1,.vc (pS cI a1)),(4,.vc (pP (some t) 0)),(5,vI u)]) ?_ (fun q=>?_))
 ·rintro _ _ ⟨u,f,rfl,rfl⟩;unfold wV at f;refine go ?_ ?_;refine aD f rfl (fun G f=>?_) (fun G f=>?_)
  ·refine aE (aJ (aG (iW (is:=[]) (xs:=[]) (ps:=[]) rfl tyB40 rfl rfl zT rfl) zT ?_));exact bU
  obtain⟨I,J,f⟩:=aR f;refine go ?_ ?_;refine aG (aRT rfl tyS22 J) ⟨rfl,rfl,rfl,zT⟩ ?_;refine aG (iW (is:=[0,1]) (xs:=[.tmp 23,.tmp 27]) (ps:=[.vc (pB j),.vc (pS cI I)]) rfl tyB40 rfl rfl ⟨zT,zT,zT⟩ rfl) zU2 ?_;exact bU
 obtain⟨x,L,h⟩:=aR f;refine dW (fun k a w=>∃(s:Int),oA K a1 k s=some x∧hs _ [⟨some t,1,40,2,1,([pB false]++[pS cI ([]:List Int)])⟩] [(0,.vc (pB j)),(1,.vc (pS cI a1)),(4,.vc (pP (some t) 0)),(5,vI s)] a w) K (fun a w ⟨_,f,_⟩=>by cases f) (fun k a w ⟨s,f,hh⟩=>dV ?_ hh) (fun a w hh=>⟨(a1.length:Int),L,jH [0] hh⟩);rw[oA.eq_2]at f;refine go ?_ ?_;refine dL f (fun y f=>?_) (fun y f=>?_)
 ·obtain⟨v11,z,O,U,f⟩:=u5 f;refine go ?_ ?_;refine aD f rfl (fun F f=>?_) (fun F f=>?_)
  ·refine fB (aH (aI ?_));have f:=uS z f;refine go ?_ ?_;exact aF (fun a w hh=>⟨v11,f,jH [0] hh⟩)
  refine bF ?_;obtain rfl:=iJ f;exact rW q ⟨s,h,rfl,rfl⟩ [0]
 refine go ?_ ?_;refine vB rfl ?_;refine bF ?_;obtain rfl:=iJ f;exact rW q ⟨s,h,rfl,rfl⟩ [0]
def uH(K:Nat)(j:List Int)(e:List Int)(f:Int):Option (List Int):=
 (bR e (j.length:Int)).bind fun k=>(rX e (j.length:Int) f).bind fun h=>some h
def dS(K:Nat)(q:List Int)(s:List Int):Nat→(List Int)→Int→Int→Option ((List Int)×Int)
 |0,_,_,_=>none
 |k+1,f,t,e=>bif(decide (e<(q.length:Int))) then((bR q e).bind fun u=>(aV (u+t)).bind fun h=>bif(decide (e<(s.length:Int))) then((bR s e).bind fun x=>(aV (h+x)).bind fun j=>bif(decide (1000000000≤j)) then((aV (j-1000000000)).bind fun y=>(bR f e).bind fun X=>(rX f e y).bind fun z=>(aV (e+1)).bind fun F=>dS K q s k z 1 F) else((bR f e).bind fun Y=>(rX f e j).bind fun G=>(aV (e+1)).bind fun I=>dS K q s k G 0 I)) else(bif(decide (1000000000≤h)) then((aV (h-1000000000)).bind fun J=>(bR f e).bind fun v72=>(rX f e J).bind fun L=>(aV (e+1)).bind fun O=>dS K q s k L 1 O) else((bR f e).bind fun v79=>(rX f e h).bind fun U=>(aV (e+1)).bind fun V=>dS K q s k U 0 V))) else(some (f,t))
def pX(K:Nat)(e:List Int)(j:List Int):Option (List Int):=
 (aV ((e.length:Int)+1)).bind fun v5=>(mkL v5 0).bind fun k=>(dS K e j K k 0 0).bind fun(f,h)=>uH K e f h
def rB(K:Nat)(e:List Int)(a1:List Int):Option (List Int):=
 bif(decide ((e.length:Int)<(a1.length:Int))) then(pX K a1 e) else(pX K e a1)
theorem aBV{K:Nat}{L:List Int}{a1:List Int}{r:List Int}(e:rB K L a1=some r):Ct Tryz.prog 156 [.vc (pS cI L),.vc (pS cI a1)] (.vc (pS cI r)):=by
 unfold rB at e;refine aA Tryz.func156 rfl (by kernel_rfl) Tryz.ntmps156 rfl (fun w0 M0=>?_);refine aE (aJ (aG (aP (.inr rfl)) ⟨eF cI,zT⟩ ?_));refine aX (aH (aE (zJ (fun H E=>∃(q:List Int),∃(z:List Int),pX K q z=some r∧H=[]∧E=[(0,.vc (pS cI q)),(1,.vc (pS cI z))]) ?_ (fun F=>?_))))
 ·rintro _ _ ⟨q,z,e,rfl,rfl⟩;unfold pX at e;obtain⟨v5,h6,f,h8,e⟩:=u5 e;refine go ?_ ?_;refine qE (C:=cI) rfl tyS22 rfl tyZ3 rfl h8 (fun O=>?_);refine go ?_ ?_;refine aI (aY (fun H E=>∃(s:List Int),∃(u:Int),uH K q s u=some r∧s.length=f.length∧H=[hO cI O f.length 3 f.length s]∧E=[(0,.vc (pS cI q)),(5,.vc (pO O f.length f.length)),(6,vI u)]) ?_ (fun G=>?_))
  ·rintro _ _ ⟨s,u,e,U,rfl,rfl⟩;unfold uH at e;obtain⟨v37,h38,x39,V,e⟩:=u5 e;refine go ?_ ?_;refine gY (gS (tT 0 [4,5,50,55] rfl (bI V U) ⟨rfl,rfl,rfl,rfl,zT⟩ rfl ?_));obtain rfl:=iJ e;exact kM (.inl rfl) Tryz.results156 (.tmp rfl .nil) rfl rfl
  obtain⟨⟨I,J⟩,hL,x⟩:=aR e;refine dW (fun k a w=>∃(h:List Int),∃(t:Int),∃(y:Int),dS K q z k h t y=some (I,J)∧h.length=f.length∧hs _ [hO cI O f.length 3 f.length h] [(0,.vc (pS cI q)),(1,.vc (pS cI z)),(5,.vc (pO O f.length f.length)),(6,vI t),(21,.vc (pS cI q)),(22,vI (q.length:Int)),(23,vI y)] a w) K (fun a w ⟨_,_,_,e,_,_⟩=>by cases e) (fun k a w ⟨h,t,y,e,j,hh⟩=>dV ?_ hh) (fun a w hh=>⟨f,0,0,hL,rfl,jH [0] hh⟩);rw[dS.eq_2]at e;refine go ?_ ?_;refine aD e rfl (fun X e=>?_) (fun X e=>?_)
  ·refine go ?_ ?_;refine aI ?_;obtain⟨v43,h44,v45,h46,e⟩:=u5 e;refine go ?_ ?_;refine aD e rfl (fun Y e=>?_) (fun Y e=>?_)
   ·obtain⟨v48,h49,v50,h51,e⟩:=u5 e;refine go ?_ ?_;refine aD e rfl (fun h52 e=>?_) (fun h52 e=>?_)
    ·obtain⟨v53,h54,v55,h56,x57,h58,v60,h61,e⟩:=bn4 e;refine go ?_ ?_;exact aF (fun a w hh=>⟨x57,1,v60,e,(bI h58 j),jH [0] hh⟩)
    obtain⟨v62,h63,x64,h65,v67,h68,e⟩:=bn3 e;refine go ?_ ?_;exact aF (fun a w hh=>⟨x64,0,v67,e,(bI h65 j),jH [0] hh⟩)
   refine go ?_ ?_;refine aD e rfl (fun h69 e=>?_) (fun h69 e=>?_)
   ·obtain⟨v70,h71,v72,h73,x74,h75,v77,h78,e⟩:=bn4 e;refine go ?_ ?_;exact aF (fun a w hh=>⟨x74,1,v77,e,(bI h75 j),jH [0] hh⟩)
   obtain⟨v79,h80,x81,h82,v84,h85,e⟩:=bn3 e;refine go ?_ ?_;exact aF (fun a w hh=>⟨x81,0,v84,e,(bI h82 j),jH [0] hh⟩)
  refine bF ?_;obtain⟨rfl,rfl⟩:=sm2 e;exact rW G ⟨h,t,x,j,rfl,rfl⟩ [0]
 refine go ?_ ?_;refine aD e rfl (fun h86 e=>?_) (fun h86 e=>?_)
 ·refine aJ (gG ?_);refine gG ?_;refine zL ?_;refine zL ?_;refine aX ?_;exact rW F ⟨a1,L,e,rfl,rfl⟩ []
 refine fB ?_;exact rW F ⟨L,a1,e,rfl,rfl⟩ []
def oL(e:Int):Option Bool:=
 some (e != e)
theorem xI{e:Int}{r:Bool}(f:oL e=some r):Ct Tryz.prog 174 [vI e] (.vc (pB r)):=by
 unfold oL at f;refine aA Tryz.func174 rfl (by kernel_rfl) Tryz.ntmps174 rfl (fun w0 M0=>?_);exact bU
def jI(e:Int)(a1:Int):Option Int:=
 (oL e).bind fun v1=>(oL a1).bind fun f=>bif v1 then(bif f then(some 0) else(some (-1))) else(bif f then(some 1) else(bif(decide (e<a1)) then(some (-1)) else(bif(decide (a1<e)) then(some 1) else(some 0))))
theorem vT{f:Int}{a1:Int}{r:Int}(e:jI f a1=some r):Ct Tryz.prog 170 [vI f,vI a1] (vI r):=by
 unfold jI at e;refine aA Tryz.func170 rfl (by kernel_rfl) Tryz.ntmps170 rfl (fun w0 M0=>?_);obtain⟨v1,t,e⟩:=bE e xI;obtain⟨u,x,e⟩:=bE e xI;refine go ?_ ?_;refine aD e rfl (fun h e=>?_) (fun h e=>?_)
 ·refine go ?_ ?_;refine aD e rfl (fun j e=>?_) (fun j e=>?_)
  ·exact bU
  exact bU
 refine go ?_ ?_;refine aD e rfl (fun k e=>?_) (fun k e=>?_)
 ·exact bU
 refine go ?_ ?_;refine aD e rfl (fun q e=>?_) (fun q e=>?_)
 ·exact bU
 refine go ?_ ?_;refine aD e rfl (fun s e=>?_) (fun s e=>?_)
 ·exact bU
 exact bU
def vQ(K:Nat):Option Int:=
 some 0
def gW(K:Nat)(f:List Int)(a1:List Int):Nat→Int→Option (LR Int Unit)
 |0,_=>none
 |k+1,e=>bif(decide (0≤e)) then((bR f e).bind fun h=>(bR a1 e).bind fun j=>bif(h != j) then((bR f e).bind fun v20=>(bR a1 e).bind fun q=>(jI v20 q).bind fun s=>some (.ret s)) else((aV (e-1)).bind fun t=>gW K f a1 k t)) else(some (.go ()))
def gO(K:Nat)(e:List Int)(a1:List Int):Option Int:=
 bif((e.length:Int) != (a1.length:Int)) then((jI (e.length:Int) (a1.length:Int)).bind fun v2=>some v2) else((aV ((e.length:Int)-1)).bind fun v4=>(gW K e a1 K v4).bind fun o=>match o with| .ret r=>some r| .go _=>vQ K)
theorem oP{K:Nat}{h:List Int}{a1:List Int}{r:Int}(e:gO K h a1=some r):Ct Tryz.prog 157 [.vc (pS cI h),.vc (pS cI a1)] (vI r):=by
 unfold gO at e;refine aA Tryz.func157 rfl (by kernel_rfl) Tryz.ntmps157 rfl (fun w0 M0=>?_);refine go ?_ ?_;refine aD e rfl (fun I e=>?_) (fun I e=>?_)
 ·obtain⟨v2,h3,e⟩:=bE e vT;exact bU
 obtain⟨v4,h5,e⟩:=aR e;refine go ?_ ?_;refine aI (aY (fun H E=>vQ K=some r∧H=[]∧E=[]) ?_ (fun j=>?_))
 ·rintro _ _ ⟨e,rfl,rfl⟩;unfold vQ at e;exact bU
 obtain⟨q,J,f⟩:=aR e;refine dW (fun k a w=>∃(s:Int),gW K h a1 k s=some q∧hs _ [] [(0,.vc (pS cI h)),(1,.vc (pS cI a1)),(5,vI s)] a w) K (fun a w ⟨_,e,_⟩=>by cases e) (fun k a w ⟨s,e,hh⟩=>dV ?_ hh) (fun a w hh=>⟨v4,J,jH [] hh⟩);rw[gW.eq_2]at e;refine go ?_ ?_;refine aD e rfl (fun t e=>?_) (fun t e=>?_)
 ·refine go ?_ ?_;refine aI (aE ?_);obtain⟨L,u,e⟩:=aR e;obtain⟨O,x,e⟩:=aR e;refine dr [0,0,3,7,0,0,48,112,255] 9 0 ?_ (fun F U=>?_);refine aX (aH (aD e rfl (fun y e=>?_) (fun y e=>?_)))
  ·refine aE ?_;have e:=uS u e;have e:=uS x e;obtain⟨V,X,e⟩:=bE e vT;refine dr [0,0,3,7,0,0,48,112,255,511] 10 0 ?_ (fun G Y=>?_);refine aX (aH ?_);exact bU
  obtain⟨z,h27,e⟩:=aR e;refine go ?_ ?_;exact aF (fun a w hh=>⟨z,e,jH [] hh⟩)
 refine bF ?_;obtain rfl:=iJ e;exact rW j ⟨f,rfl,rfl⟩ []
def tO(K:Nat)(e:List Int):Option (List Int):=
 some e
def lO(K:Nat)(e:Int)(f:(List Int)→Int→Option (List Int))(h:List Int):Option (List Int):=
 (bR h e).bind fun q=>bif(decide (q<0)) then((bR h e).bind fun s=>(aV (s+1000000000)).bind fun t=>(bR h e).bind fun G=>(rX h e t).bind fun j=>(aV (e+1)).bind fun k=>(bR j k).bind fun u=>(aV (u-1)).bind fun x=>(bR j k).bind fun I=>(rX j k x).bind fun y=>(aV (e+1)).bind fun z=>f y z) else((aV (e+1)).bind fun F=>f h F)
def fD(K:Nat)(h:List Int)(a1:List Int)(x1:List Int):Nat→(List Int)→Int→Option (List Int)
 |0,_,_=>none
 |k+1,f,e=>bif(decide (e<((cpL x1 h).length:Int))) then(bif(decide (e<(a1.length:Int))) then((bR f e).bind fun j=>(bR a1 e).bind fun q=>(aV (j-q)).bind fun s=>(bR f e).bind fun u=>(rX f e s).bind fun t=>lO K e (fD K h a1 x1 k) t) else(lO K e (fD K h a1 x1 k) f)) else(some f)
def oD(K:Nat)(e:List Int)(a1:List Int):Option (List Int):=
 (mkL (e.length:Int) 0).bind fun x1=>(fD K e a1 x1 K (cpL x1 e) 0).bind fun f=>tO K f
theorem yN{K:Nat}{t:List Int}{a1:List Int}{r:List Int}(e:oD K t a1=some r):Ct Tryz.prog 158 [.vc (pS cI t),.vc (pS cI a1)] (.vc (pS cI r)):=by
 unfold oD at e;refine aA Tryz.func158 rfl (by kernel_rfl) Tryz.ntmps158 rfl (fun w0 M0=>?_);refine aE (aJ (aG (aP (.inr rfl)) ⟨eF cI,zT⟩ ?_));obtain⟨x1,h2,e⟩:=aR e;refine go ?_ ?_;refine qE (C:=cI) rfl tyS22 rfl tyZ3 rfl h2 (fun F=>?_);refine go ?_ ?_;refine aG (t_cp 0 rfl tyS22 rfl rfl rfl) zU2 ?_;refine go ?_ ?_;refine aG (aBS (C:=cI) (xs:=(cpL x1 t)) (T:=3) rfl tyS22 (aEg rfl)) zU1 ?_;refine go ?_ ?_;refine aI (aY (fun H E=>∃(q:List Int),tO K q=some r∧q.length=x1.length∧H=[hO cI F x1.length 3 x1.length q]∧E=[(5,.vc (pO F x1.length x1.length))]) ?_ (fun G=>?_))
 ·rintro _ _ ⟨q,e,U,rfl,rfl⟩;unfold tO at e;refine go ?_ ?_;refine gY (gS (tT 0 [4,5,51] rfl U ⟨rfl,rfl,rfl,zT⟩ rfl ?_));obtain rfl:=iJ e;exact kM (.inl rfl) Tryz.results158 (.tmp rfl .nil) rfl rfl
 obtain⟨u,hL,y⟩:=aR e;refine dW (fun k a w=>∃(f:List Int),∃(h:Int),fD K t a1 x1 k f h=some u∧f.length=x1.length∧hs _ [hO cI F x1.length 3 x1.length f] [(1,.vc (pS cI a1)),(5,.vc (pO F x1.length x1.length)),(14,vI ((cpL x1 t).length:Int)),(15,vI h)] a w) K (fun a w ⟨_,_,e,_,_⟩=>by cases e) (fun k a w ⟨f,h,e,z,hh⟩=>dV ?_ hh) (fun a w hh=>⟨(cpL x1 t),0,hL,(aEg rfl),jH [0] hh⟩);rw[fD.eq_2]at e;refine go ?_ ?_;refine aD e rfl (fun V e=>?_) (fun V e=>?_)
 ·refine go ?_ ?_;refine aI (aE (aJ (gG ?_)));refine zL ?_;refine aX (aH (aE (zJ (fun H E=>∃(j:List Int),lO K h (fD K t a1 x1 k) j=some u∧j.length=x1.length∧H=[hO cI F x1.length 3 x1.length j]∧E=[(1,.vc (pS cI a1)),(5,.vc (pO F x1.length x1.length)),(6,vI h),(14,vI ((cpL x1 t).length:Int)),(15,vI h)]) ?_ (fun x=>?_))))
  ·rintro _ _ ⟨j,e,I,rfl,rfl⟩;unfold lO at e;obtain⟨v38,J,e⟩:=aR e;refine go ?_ ?_;refine aD e rfl (fun X e=>?_) (fun X e=>?_)
   ·have e:=uS J e;obtain⟨v43,h44,e⟩:=aR e;have e:=uS J e;obtain⟨x47,Y,v50,h51,v52,h53,v54,h55,e⟩:=bn4 e;have e:=uS h53 e;obtain⟨x58,h59,e⟩:=aR e;have e:=uS h51 e;refine go ?_ ?_;exact aF (fun a w hh=>⟨x58,v50,e,(bI h59 (bI Y I)),jH [0] hh⟩)
   obtain⟨v63,h64,e⟩:=aR e;refine go ?_ ?_;exact aF (fun a w hh=>⟨j,v63,e,I,jH [0] hh⟩)
  refine go ?_ ?_;refine aD e rfl (fun h65 e=>?_) (fun h65 e=>?_)
  ·obtain⟨v68,L,e⟩:=aR e;obtain⟨v70,h71,e⟩:=aR e;obtain⟨v72,h73,e⟩:=aR e;have e:=uS L e;refine dr [0,0,3,7,0,0,48,112,255,511,1023] 10 1 ?_ (fun bs67 G66=>?_);obtain⟨x76,O,e⟩:=aR e;refine mI (xK 0 rfl rfl L O tyO3.s) zU2 ?_;refine aX ?_;exact rW x ⟨x76,e,(bI O z),rfl,rfl⟩ [0]
  refine fB ?_;exact rW x ⟨f,e,z,rfl,rfl⟩ [0]
 refine bF ?_;obtain rfl:=iJ e;exact rW G ⟨f,y,z,rfl,rfl⟩ [0]
def oY(K:Nat)(e:aC)(a1:aC):Option aC:=
 bif(e.neg==a1.neg) then((rB K e.d a1.d).bind fun q=>(fG K e.neg q).bind fun s=>some s) else((gO K e.d a1.d).bind fun v11=>bif(decide (v11<0)) then((oD K a1.d e.d).bind fun f=>(fG K a1.neg f).bind fun h=>some h) else((oD K e.d a1.d).bind fun j=>(fG K e.neg j).bind fun k=>some k))
theorem aAf{K:Nat}{j:aC}{a1:aC}{r:aC}(f:oY K j a1=some r):Ct Tryz.prog 122 [.va (aC.e j),.va (aC.e a1)] (.va (aC.e r)):=by
 unfold oY at f;refine aA Tryz.func122 rfl (by kernel_rfl) Tryz.ntmps122 rfl (fun w0 M0=>?_);refine aE (aJ (dP rfl rfl zT (fun X=>?_)));refine dP rfl rfl zT (fun b2=>?_);refine aM rfl tyZ40 (fun Y=>?_);refine go ?_ ?_;refine aI (go ?_ ?_);refine aG (aQC rfl Tryz.underlying4) zU2 ?_;refine go ?_ ?_;refine aD f rfl (fun s f=>?_) (fun s f=>?_)
 ·refine aE ?_;obtain⟨v7,h8,f⟩:=bE f aBV;obtain⟨v9,t,f⟩:=bE f jV;refine dr [0,1,0,4,0,16,60,127,255] 8 1 ?_ (fun u G5=>?_);exact bU
 obtain⟨v11,x,f⟩:=bE f oP;refine go ?_ ?_;refine aD f rfl (fun h f=>?_) (fun h f=>?_)
 ·refine aE ?_;obtain⟨y,z,f⟩:=bE f yN;obtain⟨F,G,f⟩:=bE f jV;refine dr [0,1,0,4,0,16,60,127,255] 8 1 ?_ (fun k I=>?_);exact bU
 obtain⟨J,L,f⟩:=bE f yN;obtain⟨O,U,f⟩:=bE f jV;refine go ?_ ?_;refine dr [0,1,0,4,0,16,60,127,255] 8 1 ?_ (fun q V=>?_);exact bU
def tB(K:Nat)(h:aC)(a1:aC)(e:List Int):Option aC:=
 (fG K (h.neg != a1.neg) e).bind fun f=>some f
def sH(K:Nat)(a1:aC)(f:Int)(e:(List Int)→Int→Option (List Int))(h:List Int)(k:Int):Option (List Int):=
 (aV (f+(a1.d.length:Int))).bind fun j=>(bR h j).bind fun t=>(rX h j k).bind fun q=>(aV (f+1)).bind fun s=>e q s
def jC(K:Nat)(a1:aC)(h:Int)(j:Int):Nat→(List Int)→Int→Int→Option ((List Int)×Int)
 |0,_,_,_=>none
 |k+1,f,q,e=>bif(decide (e<(a1.d.length:Int))) then((bR a1.d e).bind fun G=>(aV (h+e)).bind fun I=>(bR f I).bind fun J=>(aV (j*G)).bind fun L=>(aV (J+L)).bind fun O=>(aV (O+q)).bind fun s=>(chq s 1000000000).bind fun t=>(aV (h+e)).bind fun u=>(aV (t*1000000000)).bind fun x=>(aV (s-x)).bind fun y=>(bR f u).bind fun U=>(rX f u y).bind fun z=>(aV (e+1)).bind fun F=>jC K a1 h j k z t F) else(some (f,q))
def gV(K:Nat)(h:aC)(a1:aC):Nat→(List Int)→Int→Option (List Int)
 |0,_,_=>none
 |k+1,f,e=>bif(decide (e<(h.d.length:Int))) then((bR h.d e).bind fun j=>(jC K a1 e j K f 0 0).bind fun(q,s)=>sH K a1 e (gV K h a1 k) q s) else(some f)
def wX(K:Nat)(h:aC)(a1:aC)(e:List Int):Option aC:=
 (fG K (h.neg != a1.neg) e).bind fun f=>some f
def t6(K:Nat)(a1:aC)(f:Int)(e:(List Int)→Int→Option (List Int))(h:List Int)(k:Int):Option (List Int):=
 (aV (f+(a1.d.length:Int))).bind fun j=>(bR h j).bind fun t=>(rX h j k).bind fun q=>(aV (f+1)).bind fun s=>e q s
def oW(K:Nat)(a1:aC)(h:Int)(j:Int):Nat→(List Int)→Int→Int→Option ((List Int)×Int)
 |0,_,_,_=>none
 |k+1,f,q,e=>bif(decide (e<(a1.d.length:Int))) then((bR a1.d e).bind fun x=>(aV (h+e)).bind fun y=>(bR f y).bind fun z=>(aV (j*x)).bind fun F=>(aV (z+F)).bind fun G=>(aV (G+q)).bind fun s=>(chq s 1000000000).bind fun t=>(aV (h+e)).bind fun u=>(aV (t*1000000000)).bind fun I=>(aV (s-I)).bind fun J=>(bR f u).bind fun U=>(rX f u J).bind fun L=>(aV (e+1)).bind fun O=>oW K a1 h j k L t O) else(some (f,q))
def mL(K:Nat)(s:aC)(a1:aC):Nat→(List Int)→Int→Option (List Int)
 |0,_,_=>none
 |k+1,f,e=>bif(decide (e<(s.d.length:Int))) then((bR s.d e).bind fun h=>(oW K a1 e h K f 0 0).bind fun(j,q)=>t6 K a1 e (mL K s a1 k) j q) else(some f)
def cA(K:Nat)(e:aC)(a1:aC):Option aC:=
 bif((e.d.length:Int)==1) then(bif((a1.d.length:Int)==1) then((bR e.d 0).bind fun v10=>(bR a1.d 0).bind fun k=>(fS (e.neg != a1.neg) (wu ((IntKind.u64.wrap v10)*(IntKind.u64.wrap k)))).bind fun q=>some q) else((aV ((e.d.length:Int)+(a1.d.length:Int))).bind fun s=>(mkL s 0).bind fun t=>(gV K e a1 K t 0).bind fun u=>tB K e a1 u)) else((aV ((e.d.length:Int)+(a1.d.length:Int))).bind fun f=>(mkL f 0).bind fun h=>(mL K e a1 K h 0).bind fun j=>wX K e a1 j)
theorem iT{K:Nat}{q:aC}{a1:aC}{r:aC}(f:cA K q a1=some r):Ct Tryz.prog 124 [.va (aC.e q),.va (aC.e a1)] (.va (aC.e r)):=by
 unfold cA at f;refine aA Tryz.func124 rfl (by kernel_rfl) Tryz.ntmps124 rfl (fun w0 M0=>?_);refine aE (aJ (dP rfl rfl zT (fun y=>?_)));refine dP rfl rfl zT (fun b2=>?_);refine aM rfl tyZ40 (fun G=>?_);refine go ?_ ?_;refine dr [0,1,0,4,3,31] 6 0 ?_ (fun bs5 G4=>?_);refine go ?_ ?_;refine dL f (fun h6 f=>?_) (fun h6 f=>?_)
 ·refine go ?_ ?_;refine aD f rfl (fun h7 f=>?_) (fun h7 f=>?_)
  ·refine aE ?_;obtain⟨v10,h11,f⟩:=aR f;obtain⟨v12,h13,f⟩:=aR f;obtain⟨v14,h15,f⟩:=bE f lS;refine kP [0,1,0,4,15,0,32,96,224,0,512,1536,3584,8160,16383,32767] 15 1 [.v (.vc (pP (some y) 0)),.v (.vc (pB q.neg)),.v (.vc (pP (some b2) 0)),.v (.vc (pB a1.neg)),.v (.vc (pB (q.neg != a1.neg))),.v (.vc (pS cI q.d)),.v (.vc (pM (cI.e v10))),.v (vI v10),.v (.vc (pI .u64 (IntKind.u64.wrap v10))),.v (.vc (pS cI a1.d)),.v (.vc (pM (cI.e v12))),.v (vI v12),.v (.vc (pI .u64 (IntKind.u64.wrap v12))),.v (.vc (pI .u64 (wu ((IntKind.u64.wrap v10)*(IntKind.u64.wrap v12))))),.v (.va (aC.e v14))] bC ⟨d0 (iG (off:=0) (k:=0) rfl tyF40_0) zU1,d0 (gM 2 1 rfl rfl rfl rfl (.one tyO4)) zU1,d0 (iG (off:=0) (k:=0) rfl tyF40_0) zU1,d0 (gM 1 1 rfl rfl rfl rfl (.one tyO4)) zU1,⟨rfl,.run (L:=[0]) ⟨fun G8 A=>aCw rfl Tryz.underlying4,zT⟩ (fun G8=>zU2)⟩,d0 (aP (.inl rfl)) zU1,d0 (aGl rfl tyS22 h11) ⟨rfl,rT _ _,zT⟩,d0 (aDm 1 rfl rfl (.one tyO3)) zU1,⟨rfl,.run (L:=[0]) ⟨fun G8 A=>aE1 rfl ⟨_,Tryz.underlying3⟩ Tryz.underlying131,zT⟩ (fun G8=>zU1)⟩,d0 (aP (.inl rfl)) zU1,d0 (aGl rfl tyS22 h13) ⟨rfl,rT _ _,zT⟩,d0 (aDm 1 rfl rfl (.one tyO3)) zU1,⟨rfl,.run (L:=[0]) ⟨fun G8 A=>aE1 rfl ⟨_,Tryz.underlying3⟩ Tryz.underlying131,zT⟩ (fun G8=>zU1)⟩,d0 (aUG rfl) zU2,d0 (bO rfl h15 rfl) zU2,zT⟩ (fun bs9 G8=>?_);exact bU
  obtain⟨v16,h17,j,h19,f⟩:=u5 f;refine go ?_ ?_;refine qE (C:=cI) rfl tyS22 rfl tyZ3 rfl h19 (fun z=>?_);refine go ?_ ?_;refine aI (aY (fun H E=>∃(x37:List Int),tB K q a1 x37=some r∧x37.length=j.length∧H=[hO cI z j.length 3 j.length x37,⟨some G,1,40,2,1,([pB false]++[pS cI ([]:List Int)])⟩,⟨some b2,1,40,2,1,(aC.e a1)⟩,⟨some y,1,40,2,1,(aC.e q)⟩]∧E=[(2,.vc (pP (some y) 0)),(3,.vc (pP (some b2) 0)),(4,.vc (pP (some G) 0)),(7,.vc (pO z j.length j.length))]) ?_ (fun Jj44=>?_))
  ·rintro _ _ ⟨x37,f,q41,rfl,rfl⟩;unfold tB at f;refine go ?_ ?_;refine aG (aCw rfl Tryz.underlying4) zU2 ?_;refine gG ?_;refine xC 0 [7,98] rfl q41 zU2 rfl ?_;obtain⟨v45,h46,f⟩:=bE f jV;exact bU
  obtain⟨x37',hL,hRl43⟩:=aR f;refine dW (fun k a w=>∃(U:List Int),∃(x:Int),gV K q a1 k U x=some x37'∧U.length=j.length∧hs _ [hO cI z j.length 3 j.length U,⟨some G,1,40,2,1,([pB false]++[pS cI ([]:List Int)])⟩,⟨some b2,1,40,2,1,(aC.e a1)⟩,⟨some y,1,40,2,1,(aC.e q)⟩] [(2,.vc (pP (some y) 0)),(3,.vc (pP (some b2) 0)),(4,.vc (pP (some G) 0)),(6,.vc (pS cI a1.d)),(7,.vc (pO z j.length j.length)),(47,.vc (pS cI q.d)),(48,vI (q.d.length:Int)),(49,vI x)] a w) K (fun a w ⟨_,_,f,_,_⟩=>by cases f) (fun k a w ⟨U,x,f,q34,hh⟩=>dV ?_ hh) (fun a w hh=>⟨j,0,hL,rfl,jH [0,1,2,3] hh⟩);rw[gV.eq_2]at f;refine go ?_ ?_;refine aD f rfl (fun h47 f=>?_) (fun h47 f=>?_)
  ·refine go ?_ ?_;refine aI ?_;obtain⟨v48,h49,f⟩:=aR f;refine go ?_ ?_;refine aI (aY (fun H E=>∃(x66:List Int),∃(x72:Int),sH K a1 x (gV K q a1 k) x66 x72=some x37'∧x66.length=j.length∧H=[hO cI z j.length 3 j.length x66,⟨some G,1,40,2,1,([pB false]++[pS cI ([]:List Int)])⟩,⟨some b2,1,40,2,1,(aC.e a1)⟩,⟨some y,1,40,2,1,(aC.e q)⟩]∧E=[(2,.vc (pP (some y) 0)),(3,.vc (pP (some b2) 0)),(4,.vc (pP (some G) 0)),(6,.vc (pS cI a1.d)),(7,.vc (pO z j.length j.length)),(8,vI x),(10,vI x72),(47,.vc (pS cI q.d)),(48,vI (q.d.length:Int)),(49,vI x)]) ?_ (fun Jj74=>?_))
   ·rintro _ _ ⟨x66,x72,f,q70,rfl,rfl⟩;unfold sH at f;obtain⟨v75,h76,v77,h78,x79,h80,v82,h83,f⟩:=bn4 f;refine go ?_ ?_;exact aF (fun a w hh=>⟨x79,v82,f,(bI h80 q70),jH [0,1,2,3] hh⟩)
   obtain⟨⟨x66',x72'⟩,hL,hRl73⟩:=aR f;refine dW (fun k a w=>∃(V:List Int),∃(x64:Int),∃(x65:Int),jC K a1 x v48 k V x64 x65=some (x66',x72')∧V.length=j.length∧hs _ [hO cI z j.length 3 j.length V,⟨some G,1,40,2,1,([pB false]++[pS cI ([]:List Int)])⟩,⟨some b2,1,40,2,1,(aC.e a1)⟩,⟨some y,1,40,2,1,(aC.e q)⟩] [(2,.vc (pP (some y) 0)),(3,.vc (pP (some b2) 0)),(4,.vc (pP (some G) 0)),(6,.vc (pS cI a1.d)),(7,.vc (pO z j.length j.length)),(8,vI x),(9,vI v48),(10,vI x64),(47,.vc (pS cI q.d)),(48,vI (q.d.length:Int)),(49,vI x),(54,.vc (pS cI a1.d)),(55,vI (a1.d.length:Int)),(56,vI x65)] a w) K (fun a w ⟨_,_,_,f,_,_⟩=>by cases f) (fun k a w ⟨V,x64,x65,f,q62,hh⟩=>dV ?_ hh) (fun a w hh=>⟨U,0,0,hL,q34,jH [0,1,2,3] hh⟩);rw[jC.eq_2]at f;refine go ?_ ?_;refine aD f rfl (fun h84 f=>?_) (fun h84 f=>?_)
   ·refine go ?_ ?_;refine aI ?_;obtain⟨v85,h86,v87,h88,v89,h90,v91,h92,f⟩:=bn4 f;obtain⟨v93,h94,v95,h96,v97,h98,f⟩:=bn3 f;have f:=uS h88 f;obtain⟨v101,h102,v103,h104,f⟩:=u5 f;have f:=uS h90 f;obtain⟨x107,h108,v110,h111,f⟩:=u5 f;refine go ?_ ?_;exact aF (fun a w hh=>⟨x107,v97,v110,f,(bI h108 q62),jH [0,1,2,3] hh⟩)
   refine bF ?_;obtain⟨rfl,rfl⟩:=sm2 f;exact rW Jj74 ⟨V,x64,hRl73,q62,rfl,rfl⟩ [0,1,2,3]
  refine bF ?_;obtain rfl:=iJ f;exact rW Jj44 ⟨U,hRl43,q34,rfl,rfl⟩ [0,1,2,3]
 refine go ?_ ?_;refine vB rfl ?_;obtain⟨v112,h113,h,h115,f⟩:=u5 f;refine go ?_ ?_;refine qE (C:=cI) rfl tyS22 rfl tyZ3 rfl h115 (fun t=>?_);refine go ?_ ?_;refine aI (aY (fun H E=>∃(I:List Int),wX K q a1 I=some r∧I.length=h.length∧H=[hO cI t h.length 3 h.length I,⟨some G,1,40,2,1,([pB false]++[pS cI ([]:List Int)])⟩,⟨some b2,1,40,2,1,(aC.e a1)⟩,⟨some y,1,40,2,1,(aC.e q)⟩]∧E=[(2,.vc (pP (some y) 0)),(3,.vc (pP (some b2) 0)),(4,.vc (pP (some G) 0)),(7,.vc (pO t h.length h.length))]) ?_ (fun Jj140=>?_))
 ·rintro _ _ ⟨I,f,q137,rfl,rfl⟩;unfold wX at f;refine go ?_ ?_;refine aG (aCw rfl Tryz.underlying4) zU2 ?_;refine gG ?_;refine xC 0 [7,98] rfl q137 zU2 rfl ?_;obtain⟨v141,h142,f⟩:=bE f jV;exact bU
 obtain⟨X,hL,hRl139⟩:=aR f;refine dW (fun k a w=>∃(u:List Int),∃(s:Int),mL K q a1 k u s=some X∧u.length=h.length∧hs _ [hO cI t h.length 3 h.length u,⟨some G,1,40,2,1,([pB false]++[pS cI ([]:List Int)])⟩,⟨some b2,1,40,2,1,(aC.e a1)⟩,⟨some y,1,40,2,1,(aC.e q)⟩] [(2,.vc (pP (some y) 0)),(3,.vc (pP (some b2) 0)),(4,.vc (pP (some G) 0)),(6,.vc (pS cI a1.d)),(7,.vc (pO t h.length h.length)),(47,.vc (pS cI q.d)),(48,vI (q.d.length:Int)),(49,vI s)] a w) K (fun a w ⟨_,_,f,_,_⟩=>by cases f) (fun k a w ⟨u,s,f,q130,hh⟩=>dV ?_ hh) (fun a w hh=>⟨h,0,hL,rfl,jH [0,1,2,3] hh⟩);rw[mL.eq_2]at f;refine go ?_ ?_;refine aD f rfl (fun h143 f=>?_) (fun h143 f=>?_)
 ·refine go ?_ ?_;refine aI ?_;obtain⟨v144,h145,f⟩:=aR f;refine go ?_ ?_;refine aI (aY (fun H E=>∃(J:List Int),∃(Y:Int),t6 K a1 s (mL K q a1 k) J Y=some X∧J.length=h.length∧H=[hO cI t h.length 3 h.length J,⟨some G,1,40,2,1,([pB false]++[pS cI ([]:List Int)])⟩,⟨some b2,1,40,2,1,(aC.e a1)⟩,⟨some y,1,40,2,1,(aC.e q)⟩]∧E=[(2,.vc (pP (some y) 0)),(3,.vc (pP (some b2) 0)),(4,.vc (pP (some G) 0)),(6,.vc (pS cI a1.d)),(7,.vc (pO t h.length h.length)),(8,vI s),(10,vI Y),(47,.vc (pS cI q.d)),(48,vI (q.d.length:Int)),(49,vI s)]) ?_ (fun Jj170=>?_))
  ·rintro _ _ ⟨J,Y,f,q166,rfl,rfl⟩;unfold t6 at f;obtain⟨v171,h172,v173,h174,x175,h176,v178,h179,f⟩:=bn4 f;refine go ?_ ?_;exact aF (fun a w hh=>⟨x175,v178,f,(bI h176 q166),jH [0,1,2,3] hh⟩)
  obtain⟨⟨x162',x168'⟩,hL,hRl169⟩:=aR f;refine dW (fun k a w=>∃(F:List Int),∃(O:Int),∃(x161:Int),oW K a1 s v144 k F O x161=some (x162',x168')∧F.length=h.length∧hs _ [hO cI t h.length 3 h.length F,⟨some G,1,40,2,1,([pB false]++[pS cI ([]:List Int)])⟩,⟨some b2,1,40,2,1,(aC.e a1)⟩,⟨some y,1,40,2,1,(aC.e q)⟩] [(2,.vc (pP (some y) 0)),(3,.vc (pP (some b2) 0)),(4,.vc (pP (some G) 0)),(6,.vc (pS cI a1.d)),(7,.vc (pO t h.length h.length)),(8,vI s),(9,vI v144),(10,vI O),(47,.vc (pS cI q.d)),(48,vI (q.d.length:Int)),(49,vI s),(54,.vc (pS cI a1.d)),(55,vI (a1.d.length:Int)),(56,vI x161)] a w) K (fun a w ⟨_,_,_,f,_,_⟩=>by cases f) (fun k a w ⟨F,O,x161,f,q158,hh⟩=>dV ?_ hh) (fun a w hh=>⟨u,0,0,hL,q130,jH [0,1,2,3] hh⟩);rw[oW.eq_2]at f;refine go ?_ ?_;refine aD f rfl (fun h180 f=>?_) (fun h180 f=>?_)
  ·refine go ?_ ?_;refine aI ?_;obtain⟨v181,h182,v183,h184,v185,h186,v187,h188,f⟩:=bn4 f;obtain⟨v189,h190,v191,h192,v193,h194,f⟩:=bn3 f;have f:=uS h184 f;obtain⟨v197,h198,v199,h200,f⟩:=u5 f;have f:=uS h186 f;obtain⟨x203,h204,v206,h207,f⟩:=u5 f;refine go ?_ ?_;exact aF (fun a w hh=>⟨x203,v193,v206,f,(bI h204 q158),jH [0,1,2,3] hh⟩)
  refine bF ?_;obtain⟨rfl,rfl⟩:=sm2 f;exact rW Jj170 ⟨F,O,hRl169,q158,rfl,rfl⟩ [0,1,2,3]
 refine bF ?_;obtain rfl:=iJ f;exact rW Jj140 ⟨u,hRl139,q130,rfl,rfl⟩ [0,1,2,3]
def qU(e:List Int):Option (Int×Bool):=
 bif((e.length:Int)==0) then(some (0,true)) else(bif((e.length:Int)==1) then((bR e 0).bind fun j=>some (j,true)) else(bif((e.length:Int)==2) then((bR e 1).bind fun k=>(aV (k*1000000000)).bind fun v10=>(bR e 0).bind fun f=>(aV (v10+f)).bind fun h=>some (h,true)) else(some (0,false))))
theorem xQ{f:List Int}{r:Int×Bool}(e:qU f=some r):Ct Tryz.prog 161 [.vc (pS cI f)] (.t2 (vI r.1) (.vc (pB r.2))):=by
 unfold qU at e;refine aA Tryz.func161 rfl (by kernel_rfl) Tryz.ntmps161 rfl (fun w0 M0=>?_);refine go ?_ ?_;refine aI (go ?_ ?_);refine aD e rfl (fun h e=>?_) (fun h e=>?_)
 ·exact bU
 refine go ?_ ?_;refine aD e rfl (fun j e=>?_) (fun j e=>?_)
 ·obtain⟨z,F,e⟩:=aR e;exact bU
 refine go ?_ ?_;refine aD e rfl (fun k e=>?_) (fun k e=>?_)
 ·refine aE ?_;obtain⟨G,I,e⟩:=aR e;obtain⟨v10,q,e⟩:=aR e;obtain⟨s,t,e⟩:=aR e;obtain⟨u,x,e⟩:=aR e;refine dr [0,1,3,7,0,16,48,127,255,511] 10 0 ?_ (fun y J=>?_);refine aX (aH ?_);exact bU
 exact bU
def tK(K:Nat)(e:List Int)(f:Int):Option ((List Int)×Int):=
 some (e,f)
def lN(K:Nat)(z:List Int)(a1:Int):Nat→(List Int)→Int→Int→Option ((List Int)×Int)
 |0,_,_,_=>none
 |k+1,f,h,e=>bif(decide (0≤e)) then((aV (h*1000000000)).bind fun q=>(bR z e).bind fun s=>(aV (q+s)).bind fun j=>(chq j a1).bind fun t=>(chr j a1).bind fun u=>(bR f e).bind fun F=>(rX f e t).bind fun x=>(aV (e-1)).bind fun y=>lN K z a1 k x u y) else(some (f,h))
def sF(K:Nat)(e:List Int)(a1:Int):Option ((List Int)×Int):=
 (mkL (e.length:Int) 0).bind fun x1=>(aV ((e.length:Int)-1)).bind fun v6=>(lN K e a1 K x1 0 v6).bind fun(f,h)=>tK K f h
theorem aBa{K:Nat}{a0:List Int}{a1:Int}{r:(List Int)×Int}(f:sF K a0 a1=some r):Ct Tryz.prog 171 [.vc (pS cI a0),vI a1] (.t2 (.vc (pS cI r.1)) (vI r.2)):=by
 unfold sF at f;refine aA Tryz.func171 rfl (by kernel_rfl) Tryz.ntmps171 rfl (fun w0 M0=>?_);refine aE (aJ (aG (aP (.inr rfl)) ⟨eF cI,zT⟩ ?_));obtain⟨x1,h2,f⟩:=aR f;refine go ?_ ?_;refine qE (C:=cI) rfl tyS22 rfl tyZ3 rfl h2 (fun u=>?_);obtain⟨v6,h7,f⟩:=aR f;refine go ?_ ?_;refine aI (aY (fun H E=>∃(q:List Int),∃(x:Int),tK K q x=some r∧q.length=x1.length∧H=[hO cI u x1.length 3 x1.length q]∧E=[(6,.vc (pO u x1.length x1.length)),(7,vI x)]) ?_ (fun I=>?_))
 ·rintro _ _ ⟨q,x,f,q28,rfl,rfl⟩;unfold tK at f;refine go ?_ ?_;refine gY (gS (tT 0 [4,6,36] rfl q28 ⟨rfl,rfl,rfl,zT⟩ rfl ?_));obtain rfl:=iJ f;exact kM (.inl rfl) Tryz.results171 (.tmp rfl (.tmp rfl .nil)) rfl rfl
 obtain⟨⟨J,O⟩,hL,y⟩:=aR f;refine dW (fun k a w=>∃(h:List Int),∃(t:Int),∃(j:Int),lN K a0 a1 k h t j=some (J,O)∧h.length=x1.length∧hs _ [hO cI u x1.length 3 x1.length h] [(0,.vc (pS cI a0)),(1,vI a1),(6,.vc (pO u x1.length x1.length)),(7,vI t),(8,vI j)] a w) K (fun a w ⟨_,_,_,f,_,_⟩=>by cases f) (fun k a w ⟨h,t,j,f,z,hh⟩=>dV ?_ hh) (fun a w hh=>⟨x1,0,v6,hL,rfl,jH [0] hh⟩);rw[lN.eq_2]at f;refine go ?_ ?_;refine aD f rfl (fun h33 f=>?_) (fun h33 f=>?_)
 ·refine go ?_ ?_;refine aI ?_;obtain⟨v34,h35,v36,h37,U,h39,v42,h43,f⟩:=bn4 f;obtain⟨F,V,v46,G,X,Y,f⟩:=bn3 f;refine go ?_ ?_;refine tS (HsM [(0,fun e=>[hO cI u x1.length 3 x1.length h]),(1,fun e=>[hO cI u x1.length 3 x1.length X])]) [9] [0,0,0,0,12,0,0,96,31,287,1023] 11 0 [.v (.vc (pO u x1.length x1.length)),.v (vI j),.v (vI U),.v (vI a1),.v (vI v42),.v (vI U),.v (vI a1),.v (vI F),.v (.vc (pE u j cI.n 0)),.g (fun _ _=>.any),.v (vI F)] bC ⟨d1 0 (aP (.inl rfl)) zU1,d1 0 (aP (.inl rfl)) zU1,d1 0 (aP (.inl rfl)) zU1,d1 0 (aP (.inl rfl)) zU1,d1 0 (aLN rfl h43) zU2,⟨rfl,.run (L:=[0,1]) ⟨fun e A=>aP (.inl rfl),fun e A=>aP (.inl rfl),zT⟩ (fun e=>zU1)⟩,⟨rfl,.run (L:=[0,1]) ⟨fun e A=>aP (.inl rfl),fun e A=>aP (.inl rfl),zT⟩ (fun e=>zU1)⟩,⟨rfl,.run (L:=[0,1]) ⟨fun e A=>aHF rfl V,fun e A=>aHF rfl V,zT⟩ (fun e=>zU2)⟩,d1 0 (dX (C:=cI) 0 rfl tyS22 rfl z (aB G).1 (aB G).2.1) zU2,⟨rfl,.hvy [0] ⟨fun e A=>aDf (xK 0 rfl rfl G Y tyO3.s),zT⟩ (fun e=>zU2)⟩,d1 1 (aP (.inr rfl)) zU1,zT⟩ (fun bs41 e=>?_);obtain⟨v52,h53,f⟩:=aR f;refine go ?_ ?_;exact aF (fun a w hh=>⟨X,F,v52,f,(bI Y z),jH [0] hh⟩)
 refine bF ?_;obtain⟨rfl,rfl⟩:=sm2 f;exact rW I ⟨h,t,y,z,rfl,rfl⟩ [0]
def tA(K:Nat)(j:List Int)(e:List Int)(f:Int):Option (List Int):=
 (bR e (j.length:Int)).bind fun k=>(rX e (j.length:Int) f).bind fun h=>some h
def kY(K:Nat)(q:List Int)(a1:Int):Nat→(List Int)→Int→Int→Option ((List Int)×Int)
 |0,_,_,_=>none
 |k+1,f,h,e=>bif(decide (e<(q.length:Int))) then((bR q e).bind fun s=>(aV (s*a1)).bind fun t=>(aV (t+h)).bind fun j=>(chr j 1000000000).bind fun u=>(chq j 1000000000).bind fun x=>(bR f e).bind fun F=>(rX f e u).bind fun y=>(aV (e+1)).bind fun z=>kY K q a1 k y x z) else(some (f,h))
def oR(K:Nat)(e:List Int)(a1:Int):Option (List Int):=
 (aV ((e.length:Int)+1)).bind fun j=>(mkL j 0).bind fun k=>(kY K e a1 K k 0 0).bind fun(f,h)=>tA K e f h
theorem aAe{K:Nat}{t:List Int}{a1:Int}{r:List Int}(e:oR K t a1=some r):CtO Tryz.prog 175 [] [.vc (pS cI t),vI a1] (fun Ho q=>∃F G u,r.length=u∧Ho=[hO cI F G 3 u r]∧q=.vc (pO F u G)):=by
 unfold oR at e;refine aA Tryz.func175 rfl (by kernel_rfl) Tryz.ntmps175 rfl (fun w0 M0=>?_);refine aE (aJ (rC cI 3 rfl ?_));obtain⟨v3,h4,f,h6,e⟩:=u5 e;refine go ?_ ?_;refine qE (C:=cI) rfl tyS22 rfl tyZ3 rfl h6 (fun I=>?_);refine go ?_ ?_;refine aI (aY (fun H E=>∃(j:List Int),∃(x:Int),tA K t j x=some r∧j.length=f.length∧H=[hO cI I f.length 3 f.length j]∧E=[(0,.vc (pS cI t)),(5,.vc (pO I f.length f.length)),(6,vI x)]) ?_ (fun J=>?_))
 ·rintro _ _ ⟨j,x,e,V,rfl,rfl⟩;unfold tA at e;obtain⟨v35,h36,x37,X,e⟩:=u5 e;refine go ?_ ?_;refine gY (gS ?_);obtain rfl:=iJ e;exact aDo (.inl rfl) Tryz.results175 (.tmp rfl .nil) rfl [0] rfl (by decide) ⟨I,f.length,f.length,(bI X V),rfl,rfl⟩
 obtain⟨⟨L,O⟩,hL,y⟩:=aR e;refine dW (fun k a w=>∃(h:List Int),∃(s:Int),∃(z:Int),kY K t a1 k h s z=some (L,O)∧h.length=f.length∧hs _ [hO cI I f.length 3 f.length h] [(0,.vc (pS cI t)),(1,vI a1),(5,.vc (pO I f.length f.length)),(6,vI s),(14,.vc (pS cI t)),(15,vI (t.length:Int)),(16,vI z)] a w) K (fun a w ⟨_,_,_,e,_,_⟩=>by cases e) (fun k a w ⟨h,s,z,e,U,hh⟩=>dV ?_ hh) (fun a w hh=>⟨f,0,0,hL,rfl,jH [0] hh⟩);rw[kY.eq_2]at e;refine go ?_ ?_;refine aD e rfl (fun Y e=>?_) (fun Y e=>?_)
 ·refine go ?_ ?_;refine aI ?_;obtain⟨v41,h42,v43,h44,v45,h46,v47,h48,e⟩:=bn4 e;obtain⟨v49,h50,v51,h52,x53,h54,v56,h57,e⟩:=bn4 e;refine go ?_ ?_;exact aF (fun a w hh=>⟨x53,v49,v56,e,(bI h54 U),jH [0] hh⟩)
 refine bF ?_;obtain⟨rfl,rfl⟩:=sm2 e;exact rW J ⟨h,s,y,U,rfl,rfl⟩ [0]
theorem aDZ{K:Nat}{e:List Int}{a1:Int}{r:List Int}(f:oR K e a1=some r):Ct Tryz.prog 175 [.vc (pS cI e),vI a1] (.vc (pS cI r)):=aPv (aAe f)
def uB(K:Nat)(a1:List Int)(k:Int)(e:List Int)(f:List Int):Option ((List Int)×(List Int)):=
 (slL f 0 (a1.length:Int)).bind fun h=>(sF K h k).bind fun j=>some (e,j.1)
def tL(K:Nat)(a1:List Int)(k:List Int)(h:Int)(q:Int)(j:(List Int)→(List Int)→Int→Option ((List Int)×(List Int)))(e:List Int)(s:Int):Option ((List Int)×(List Int)):=
 (aV (h+(a1.length:Int))).bind fun f=>(bR e f).bind fun t=>(aV (t+s)).bind fun u=>(bR e f).bind fun F=>(rX e f u).bind fun x=>(bR k h).bind fun G=>(rX k h q).bind fun y=>(aV (h-1)).bind fun z=>j y x z
def kC(K:Nat)(a1:List Int)(t:List Int)(s:Int):Nat→(List Int)→Int→Int→Option ((List Int)×Int)
 |0,_,_,_=>none
 |k+1,f,h,e=>bif(decide (e<(a1.length:Int))) then((aV (e+s)).bind fun u=>(bR f u).bind fun x=>(bR t e).bind fun y=>(aV (x+y)).bind fun z=>(aV (z+h)).bind fun j=>(aV (e+s)).bind fun q=>(chr j 1000000000).bind fun F=>(chq j 1000000000).bind fun G=>(bR f q).bind fun L=>(rX f q F).bind fun I=>(aV (e+1)).bind fun J=>kC K a1 t s k I G J) else(some (f,h))
def qK(K:Nat)(a1:List Int)(O:List Int)(s:List Int)(e:Int)(q:Int)(f:(List Int)→(List Int)→Int→Option ((List Int)×(List Int)))(h:List Int)(t:Int):Option ((List Int)×(List Int)):=
 (aV (e+(a1.length:Int))).bind fun j=>(bR h j).bind fun u=>(aV (u-t)).bind fun x=>(bR h j).bind fun U=>(rX h j x).bind fun k=>(aV (e+(a1.length:Int))).bind fun y=>(bR k y).bind fun z=>bif(decide (z<0)) then((aV (q-1)).bind fun F=>(kC K a1 O e K k 0 0).bind fun(G,I)=>tL K a1 s e F f G I) else((bR s e).bind fun V=>(rX s e q).bind fun J=>(aV (e-1)).bind fun L=>f J k L)
def gI(K:Nat)(a1:List Int)(y:List Int)(j:Int)(q:Int):Nat→(List Int)→Int→Int→Option ((List Int)×Int)
 |0,_,_,_=>none
 |k+1,f,s,e=>bif(decide (e<(a1.length:Int))) then((aV (e+j)).bind fun z=>(bR f z).bind fun F=>(bR y e).bind fun G=>(aV (q*G)).bind fun I=>(aV (F-I)).bind fun J=>(aV (J-s)).bind fun h=>bif(decide (h<0)) then((aV (-h)).bind fun L=>(aV (L+1000000000)).bind fun O=>(aV (O-1)).bind fun U=>(chq U 1000000000).bind fun t=>(aV (t*1000000000)).bind fun V=>(aV (h+V)).bind fun X=>(aV (e+j)).bind fun u=>(bR f u).bind fun v265=>(rX f u X).bind fun Y=>(aV (e+1)).bind fun v270=>gI K a1 y j q k Y t v270) else((aV (e+j)).bind fun x=>(bR f x).bind fun v274=>(rX f x h).bind fun x276=>(aV (e+1)).bind fun v279=>gI K a1 y j q k x276 0 v279)) else(some (f,s))
def qH(K:Nat)(a1:List Int)(h:List Int)(s:List Int)(t:List Int)(j:Int)(e:(List Int)→(List Int)→Int→Option ((List Int)×(List Int)))(f:Int):Option ((List Int)×(List Int)):=
 (gI K a1 h j f K t 0 0).bind fun(k,q)=>qK K a1 h s j f e k q
def fC(K:Nat)(a1:List Int)(f:List Int)(u:List Int)(x:Int):Nat→Int→Int→Option Int
 |0,_,_=>none
 |k+1,e,h=>bif(decide (1000000000≤e)) then((aV (e-1)).bind fun j=>(aV ((a1.length:Int)-1)).bind fun y=>(bR f y).bind fun z=>(aV (h+z)).bind fun q=>bif(decide (1000000000≤q)) then(some j) else(fC K a1 f u x k j q)) else((aV ((a1.length:Int)-2)).bind fun F=>(bR f F).bind fun G=>(aV (e*G)).bind fun I=>(aV (h*1000000000)).bind fun J=>(aV (x+(a1.length:Int))).bind fun L=>(aV (L-2)).bind fun O=>(bR u O).bind fun U=>(aV (J+U)).bind fun V=>bif(decide (V<I)) then((aV (e-1)).bind fun s=>(aV ((a1.length:Int)-1)).bind fun X=>(bR f X).bind fun Y=>(aV (h+Y)).bind fun t=>bif(decide (1000000000≤t)) then(some s) else(fC K a1 f u x k s t)) else(some e))
def fT(K:Nat)(a1:List Int)(e:List Int):Nat→(List Int)→(List Int)→Int→Option ((List Int)×(List Int))
 |0,_,_,_=>none
 |k+1,j,f,h=>bif(decide (0≤h)) then((aV (h+(a1.length:Int))).bind fun z=>(bR f z).bind fun F=>(aV (F*1000000000)).bind fun G=>(aV (h+(a1.length:Int))).bind fun I=>(aV (I-1)).bind fun J=>(bR f J).bind fun L=>(aV (G+L)).bind fun q=>(aV ((a1.length:Int)-1)).bind fun O=>(bR e O).bind fun U=>(chq q U).bind fun s=>(aV ((a1.length:Int)-1)).bind fun t=>(bR e t).bind fun u=>(chr q u).bind fun x=>(fC K a1 e f h K s x).bind fun y=>qH K a1 e j f h (fT K a1 e k) y) else(some (j,f))
def vH(K:Nat)(e:List Int)(a1:List Int):Option ((List Int)×(List Int)):=
 (aV ((a1.length:Int)-1)).bind fun v1=>(bR a1 v1).bind fun y=>(aV (y+1)).bind fun v5=>(chq 1000000000 v5).bind fun f=>(oR K e f).bind fun v11=>(oR K a1 f).bind fun h=>(slL h 0 (a1.length:Int)).bind fun j=>(aV ((e.length:Int)-(a1.length:Int))).bind fun k=>(aV (k+1)).bind fun q=>(mkL q 0).bind fun s=>(aV ((e.length:Int)-(a1.length:Int))).bind fun t=>(fT K a1 j K s v11 t).bind fun(u,x)=>uB K a1 f u x
theorem aFz{K:Nat}{a0:List Int}{a1:List Int}{r:(List Int)×(List Int)}(e:vH K a0 a1=some r):Ct Tryz.prog 172 [.vc (pS cI a0),.vc (pS cI a1)] (.t2 (.vc (pS cI r.1)) (.vc (pS cI r.2))):=by
 unfold vH at e;refine aA Tryz.func172 rfl (by kernel_rfl) Tryz.ntmps172 rfl (fun w0 M0=>?_);refine aE (aJ (aG (aP (.inr rfl)) ⟨eF cI,zT⟩ ?_));refine aG (aP (.inr rfl)) ⟨eF cI,zT⟩ ?_;obtain⟨v1,h2,v3,h4,v5,h6,v7,h8,e⟩:=bn4 e;obtain⟨v11,h12,e⟩:=aR e;obtain⟨v15,h16,e⟩:=bE e aDZ;obtain⟨j,h18,e⟩:=aR e;refine go ?_ ?_;refine tS (HsM [(0,fun h=>[]),(1,fun h=>[hO cI ((h 2).1) ((h 2).2) 3 v11.length v11]),(3,fun h=>[hO cI ((h 9).1) ((h 9).2) 3 v11.length v11])]) [2,9] [0,0,3,0,0,31,0,64,255,63,1023] 11 0 [.v (.vc (pS cI a0)),.v (vI v7),.g (fun b c=>.vc (pO b v11.length c)),.v (.vc (pS cI a1)),.v (vI v7),.v (.vc (pS cI v15)),.v (.vc (pS cI a1)),.v (vI (a1.length:Int)),.v (.vc (pS cI j)),.g (fun b c=>.vc (pO b v11.length c)),.v (.vc (pS cI j))] bC ⟨d1 0 (aP (.inl rfl)) zU1,d1 0 (aP (.inl rfl)) zU1,⟨rfl,.hvy [0] ⟨fun h A=>aIW rfl (aAe h12) rfl,zT⟩ (fun h=>zU2)⟩,⟨rfl,.run (L:=[0,1]) ⟨fun h A=>aP (.inl rfl),fun h A=>aP (.inl rfl),zT⟩ (fun h=>zU1)⟩,⟨rfl,.run (L:=[0,1]) ⟨fun h A=>aP (.inl rfl),fun h A=>aP (.inl rfl),zT⟩ (fun h=>zU1)⟩,d1 1 (bO rfl h16 rfl) zU2,⟨rfl,.run (L:=[0,1,3]) ⟨fun h A=>aP (.inl rfl),fun h A=>aP (.inl rfl),fun h A=>aP (.inl rfl),zT⟩ (fun h=>zU1)⟩,⟨rfl,.run (L:=[0,1,3]) ⟨fun h A=>aIU rfl tyS22,fun h A=>aIU rfl tyS22,fun h A=>aIU rfl tyS22,zT⟩ (fun h=>zU1)⟩,⟨rfl,.run (L:=[1,3]) ⟨fun h A=>aFk rfl tyS22 h18,fun h A=>aFk rfl tyS22 h18,zT⟩ (fun h=>zU2)⟩,⟨rfl,.hvy [1] ⟨fun h A=>aKi ((h 2).1) ((h 2).2) (aP (.inr rfl)),zT⟩ (fun h=>zU1)⟩,d1 3 (aP (.inr rfl)) zU1,zT⟩ (fun bs10 h=>?_);obtain⟨v23,h24,v25,h26,f,h28,e⟩:=bn3 e;refine go ?_ ?_;refine qE (C:=cI) rfl tyS22 rfl tyZ3 rfl h28 (fun q=>?_);have e:=uS h24 e;refine go ?_ ?_;refine aI (aY (fun H E=>∃(x60:List Int),∃(x66:List Int),uB K a1 v7 x60 x66=some r∧x60.length=f.length∧x66.length=v11.length∧H=[hO cI q f.length 3 f.length x60,hO cI ((h 9).1) ((h 9).2) 3 v11.length x66]∧E=[(6,vI v7),(7,.vc (pO ((h 9).1) v11.length ((h 9).2))),(9,vI (a1.length:Int)),(10,.vc (pO q f.length f.length))]) ?_ (fun Jj73=>?_))
 ·rintro _ _ ⟨x60,x66,e,q64,q70,rfl,rfl⟩;unfold uB at e;refine aH (aE (aJ (gG ?_)));refine gG ?_;refine xC 1 [7,213] rfl q70 zU2 rfl ?_;obtain⟨x74,h75,e⟩:=aR e;obtain⟨v76,h77,e⟩:=bE e aBa;refine go ?_ ?_;refine gY (gS (tT 0 [4,10,220] rfl q64 ⟨rfl,rfl,rfl,zT⟩ rfl ?_));obtain rfl:=iJ e;exact kM (.inl rfl) Tryz.results172 (.tmp rfl (.tmp rfl .nil)) rfl rfl
 obtain⟨⟨J,O⟩,hL,hRl72⟩:=aR e;refine dW (fun k a w=>∃(t:List Int),∃(x:List Int),∃(s:Int),fT K a1 j k t x s=some (J,O)∧t.length=f.length∧x.length=v11.length∧hs _ [hO cI q f.length 3 f.length t,hO cI ((h 9).1) ((h 9).2) 3 v11.length x] [(6,vI v7),(7,.vc (pO ((h 9).1) v11.length ((h 9).2))),(8,.vc (pS cI j)),(9,vI (a1.length:Int)),(10,.vc (pO q f.length f.length)),(11,vI s)] a w) K (fun a w ⟨_,_,_,e,_,_,_⟩=>by cases e) (fun k a w ⟨t,x,s,e,q51,q57,hh⟩=>dV ?_ hh) (fun a w hh=>⟨f,v11,v23,hL,rfl,rfl,jH [0,1] hh⟩);rw[fT.eq_2]at e;refine go ?_ ?_;refine aD e rfl (fun h78 e=>?_) (fun h78 e=>?_)
 ·refine go ?_ ?_;refine aI (aMp (aE ?_));obtain⟨v81,h82,e⟩:=aR e;obtain⟨v83,h84,e⟩:=aR e;obtain⟨v85,h86,e⟩:=aR e;have e:=uS h82 e;obtain⟨v89,h90,e⟩:=aR e;obtain⟨v91,h92,e⟩:=aR e;obtain⟨v93,h94,e⟩:=aR e;refine dr [0,0,0,6,15,31,63,0,0,0,768,1792,3968,8064,16383,32767] 16 0 ?_ (fun bs80 G79=>?_);have e:=uS h2 e;obtain⟨v99,h100,v101,h102,e⟩:=u5 e;have e:=uS h2 e;have e:=uS h100 e;obtain⟨v107,h108,e⟩:=aR e;refine go ?_ ?_;refine dr [0,0,0,4,14,30,63,0,0,0,512,1792,3840,8064,127,32767] 16 0 ?_ (fun bs96 G95=>?_);refine go ?_ ?_;refine aI (aY (fun H E=>∃(u:Int),qH K a1 j t x s (fT K a1 j k) u=some (J,O)∧H=[hO cI q f.length 3 f.length t,hO cI ((h 9).1) ((h 9).2) 3 v11.length x]∧E=[(6,vI v7),(7,.vc (pO ((h 9).1) v11.length ((h 9).2))),(8,.vc (pS cI j)),(9,vI (a1.length:Int)),(10,.vc (pO q f.length f.length)),(11,vI s),(13,vI u)]) ?_ (fun I=>?_))
  ·rintro _ _ ⟨u,e,rfl,rfl⟩;unfold qH at e;refine go ?_ ?_;refine aI (aY (fun H E=>∃(U:List Int),∃(x138:Int),qK K a1 j t s u (fT K a1 j k) U x138=some (J,O)∧U.length=v11.length∧H=[hO cI q f.length 3 f.length t,hO cI ((h 9).1) ((h 9).2) 3 v11.length U]∧E=[(6,vI v7),(7,.vc (pO ((h 9).1) v11.length ((h 9).2))),(8,.vc (pS cI j)),(9,vI (a1.length:Int)),(10,.vc (pO q f.length f.length)),(11,vI s),(13,vI u),(15,vI x138)]) ?_ (fun Jj140=>?_))
   ·rintro _ _ ⟨U,x138,e,q136,rfl,rfl⟩;unfold qK at e;have e:=uS h82 e;obtain⟨v143,h144,v145,h146,e⟩:=u5 e;have e:=uS h144 e;obtain⟨x149,h150,e⟩:=aR e;have e:=uS h82 e;obtain⟨v154,h155,e⟩:=aR e;refine go ?_ ?_;refine aD e rfl (fun h156 e=>?_) (fun h156 e=>?_)
    ·obtain⟨v157,h158,e⟩:=aR e;refine go ?_ ?_;refine aI (aY (fun H E=>∃(V:List Int),∃(x181:Int),tL K a1 t s v157 (fT K a1 j k) V x181=some (J,O)∧V.length=v11.length∧H=[hO cI q f.length 3 f.length t,hO cI ((h 9).1) ((h 9).2) 3 v11.length V]∧E=[(6,vI v7),(7,.vc (pO ((h 9).1) v11.length ((h 9).2))),(8,.vc (pS cI j)),(9,vI (a1.length:Int)),(10,.vc (pO q f.length f.length)),(11,vI s),(13,vI v157),(15,vI x181)]) ?_ (fun Jj183=>?_))
     ·rintro _ _ ⟨V,x181,e,q179,rfl,rfl⟩;unfold tL at e;have e:=uS h82 e;obtain⟨v186,h187,v188,h189,e⟩:=u5 e;have e:=uS h187 e;obtain⟨x192,h193,v195,h196,x197,h198,v200,h201,e⟩:=bn4 e;refine go ?_ ?_;exact aF (fun a w hh=>⟨x197,x192,v200,e,(bI h198 q51),(bI h193 q179),jH [0,1] hh⟩)
     obtain⟨⟨x175',x181'⟩,hL,hRl182⟩:=aR e;refine dW (fun k a w=>∃(z:List Int),∃(X:Int),∃(x174:Int),kC K a1 j s k z X x174=some (x175',x181')∧z.length=v11.length∧hs _ [hO cI q f.length 3 f.length t,hO cI ((h 9).1) ((h 9).2) 3 v11.length z] [(6,vI v7),(7,.vc (pO ((h 9).1) v11.length ((h 9).2))),(8,.vc (pS cI j)),(9,vI (a1.length:Int)),(10,.vc (pO q f.length f.length)),(11,vI s),(13,vI v157),(15,vI X),(172,vI (a1.length:Int)),(173,vI x174)] a w) K (fun a w ⟨_,_,_,e,_,_⟩=>by cases e) (fun k a w ⟨z,X,x174,e,q171,hh⟩=>dV ?_ hh) (fun a w hh=>⟨x149,0,0,hL,(bI h150 q136),jH [0,1] hh⟩);rw[kC.eq_2]at e;refine go ?_ ?_;refine aD e rfl (fun h202 e=>?_) (fun h202 e=>?_)
     ·refine go ?_ ?_;refine aI ?_;obtain⟨v205,h206,v207,h208,v209,h210,v211,h212,e⟩:=bn4 e;obtain⟨v213,h214,e⟩:=aR e;refine go ?_ ?_;refine dr [0,0,0,6,15,31,0,0,192,448,1023,0,4095,8191] 14 0 ?_ (fun bs204 G203=>?_);have e:=uS h206 e;obtain⟨v217,h218,v219,h220,e⟩:=u5 e;have e:=uS h208 e;obtain⟨x223,h224,v226,h227,e⟩:=u5 e;refine go ?_ ?_;exact aF (fun a w hh=>⟨x223,v219,v226,e,(bI h224 q171),jH [0,1] hh⟩)
     refine bF ?_;obtain⟨rfl,rfl⟩:=sm2 e;exact rW Jj183 ⟨z,X,hRl182,q171,rfl,rfl⟩ [0,1]
    obtain⟨v228,h229,x230,h231,v233,h234,e⟩:=bn3 e;refine go ?_ ?_;exact aF (fun a w hh=>⟨x230,x149,v233,e,(bI h231 q51),(bI h150 q136),jH [0,1] hh⟩)
   obtain⟨⟨x132',x138'⟩,hL,hRl139⟩:=aR e;refine dW (fun k a w=>∃(F:List Int),∃(Y:Int),∃(x131:Int),gI K a1 j s u k F Y x131=some (x132',x138')∧F.length=v11.length∧hs _ [hO cI q f.length 3 f.length t,hO cI ((h 9).1) ((h 9).2) 3 v11.length F] [(6,vI v7),(7,.vc (pO ((h 9).1) v11.length ((h 9).2))),(8,.vc (pS cI j)),(9,vI (a1.length:Int)),(10,.vc (pO q f.length f.length)),(11,vI s),(13,vI u),(15,vI Y),(117,vI (a1.length:Int)),(118,vI x131)] a w) K (fun a w ⟨_,_,_,e,_,_⟩=>by cases e) (fun k a w ⟨F,Y,x131,e,q128,hh⟩=>dV ?_ hh) (fun a w hh=>⟨x,0,0,hL,q57,jH [0,1] hh⟩);rw[gI.eq_2]at e;refine go ?_ ?_;refine aD e rfl (fun h235 e=>?_) (fun h235 e=>?_)
   ·refine go ?_ ?_;refine aI ?_;obtain⟨v238,h239,v240,h241,v242,h243,v244,h245,e⟩:=bn4 e;obtain⟨v246,h247,v248,h249,e⟩:=u5 e;refine go ?_ ?_;refine dr [0,0,0,6,15,31,0,0,0,384,896,1984,4095,0,16383,32767] 16 0 ?_ (fun bs237 G236=>?_);refine go ?_ ?_;refine aD e rfl (fun h250 e=>?_) (fun h250 e=>?_)
    ·obtain⟨v251,h252,v253,h254,v255,h256,v257,h258,e⟩:=bn4 e;obtain⟨v259,h260,v261,h262,e⟩:=u5 e;have e:=uS h239 e;have e:=uS h241 e;obtain⟨x267,h268,v270,h271,e⟩:=u5 e;refine go ?_ ?_;exact aF (fun a w hh=>⟨x267,v257,v270,e,(bI h268 q128),jH [0,1] hh⟩)
    have e:=uS h239 e;have e:=uS h241 e;obtain⟨x276,h277,v279,h280,e⟩:=u5 e;refine go ?_ ?_;exact aF (fun a w hh=>⟨x276,0,v279,e,(bI h277 q128),jH [0,1] hh⟩)
   refine bF ?_;obtain⟨rfl,rfl⟩:=sm2 e;exact rW Jj140 ⟨F,Y,hRl139,q128,rfl,rfl⟩ [0,1]
  obtain⟨x113',hL,y⟩:=aR e;refine dW (fun k a w=>∃(G:Int),∃(x112:Int),fC K a1 j x s k G x112=some x113'∧hs _ [hO cI q f.length 3 f.length t,hO cI ((h 9).1) ((h 9).2) 3 v11.length x] [(6,vI v7),(7,.vc (pO ((h 9).1) v11.length ((h 9).2))),(8,.vc (pS cI j)),(9,vI (a1.length:Int)),(10,.vc (pO q f.length f.length)),(11,vI s),(13,vI G),(14,vI x112)] a w) K (fun a w ⟨_,_,e,_⟩=>by cases e) (fun k a w ⟨G,x112,e,hh⟩=>dV ?_ hh) (fun a w hh=>⟨v101,v107,hL,jH [0,1] hh⟩);rw[fC.eq_2]at e;refine aE (aE ?_);rcases Bool.eq_false_or_eq_true (decide (1000000000≤G)) with h283|h283
  ·have e:=tH h283 e;refine drb [0,1,3,7,7,7,39,119,247,511,7,1031,7,7,7,24583,57351,126983,258055,523271,1048575,2097151] 22 0 ?_ (fun bs282 G281=>?_);refine aX (aH (kA rfl ?_));refine fB (aH (aI ?_));obtain⟨v284,h285,e⟩:=aR e;have e:=uS h2 e;have e:=uS h100 e;obtain⟨v290,h291,e⟩:=aR e;refine go ?_ ?_;refine aD e rfl (fun h292 e=>?_) (fun h292 e=>?_)
   ·refine bF ?_;obtain rfl:=iJ e;exact rW I ⟨v284,y,rfl,rfl⟩ [0,1]
   refine fB (aB7 ?_);exact aF (fun a w hh=>⟨v284,v290,e,jH [0,1] hh⟩)
  have e:=rG h283 e;obtain⟨v293,h294,e⟩:=aR e;obtain⟨v295,h296,e⟩:=aR e;obtain⟨v297,h298,e⟩:=aR e;obtain⟨v299,h300,e⟩:=aR e;have e:=uS h82 e;obtain⟨v303,h304,e⟩:=aR e;obtain⟨v305,h306,e⟩:=aR e;obtain⟨v307,h308,e⟩:=aR e;refine drb [0,1,3,7,7,7,39,119,247,511,7,1031,7,7,7,24583,57351,126983,258055,523271,1048575,2097151] 22 0 ?_ (fun bs282 G281=>?_);refine aX (aH (aD e rfl (fun h309 e=>?_) (fun h309 e=>?_)))
  ·refine fB (aH (aI ?_));obtain⟨v310,h311,e⟩:=aR e;have e:=uS h2 e;have e:=uS h100 e;obtain⟨v316,h317,e⟩:=aR e;refine go ?_ ?_;refine aD e rfl (fun h318 e=>?_) (fun h318 e=>?_)
   ·refine bF ?_;obtain rfl:=iJ e;exact rW I ⟨v310,y,rfl,rfl⟩ [0,1]
   refine fB (aB7 ?_);exact aF (fun a w hh=>⟨v310,v316,e,jH [0,1] hh⟩)
  refine bF ?_;obtain rfl:=iJ e;exact rW I ⟨G,y,rfl,rfl⟩ [0,1]
 refine bF ?_;obtain⟨rfl,rfl⟩:=sm2 e;exact rW Jj73 ⟨t,x,hRl72,q51,q57,rfl,rfl⟩ [0,1]
def n9(K:Nat)(h:List Int)(a1:List Int):Option (aC×aC):=
 (gO K h a1).bind fun v5=>bif(decide (v5<0)) then((fG K false h).bind fun t=>some ((⟨false,([]:List Int)⟩:aC),t)) else(bif((a1.length:Int)==1) then((bR a1 0).bind fun v11=>(sF K h v11).bind fun e=>(fG K false e.1).bind fun j=>(fS false (IntKind.u64.wrap e.2)).bind fun k=>some (j,k)) else((vH K h a1).bind fun f=>(fG K false f.1).bind fun q=>(fG K false f.2).bind fun s=>some (q,s)))
def oM(K:Nat)(h:List Int)(a1:List Int):Option (aC×aC):=
 (qU h).bind fun e=>bif e.2 then((qU a1).bind fun f=>bif f.2 then((chq e.1 f.1).bind fun j=>(fS false (IntKind.u64.wrap j)).bind fun k=>(chr e.1 f.1).bind fun q=>(fS false (IntKind.u64.wrap q)).bind fun s=>some (k,s)) else(n9 K h a1)) else(n9 K h a1)
theorem xT{K:Nat}{u:List Int}{a1:List Int}{r:aC×aC}(f:oM K u a1=some r):Ct Tryz.prog 162 [.vc (pS cI u),.vc (pS cI a1)] (.t2 (.va (aC.e r.1)) (.va (aC.e r.2))):=by
 unfold oM at f;refine aA Tryz.func162 rfl (by kernel_rfl) Tryz.ntmps162 rfl (fun w0 M0=>?_);refine aE (aJ (aM rfl tyZ40 (fun V=>?_)));refine aM rfl tyZ40 (fun b2=>?_);refine aX (aH (aE (zJ (fun H E=>n9 K u a1=some r∧H=[⟨some b2,1,40,2,1,([pB false]++[pS cI ([]:List Int)])⟩,⟨some V,1,40,2,1,([pB false]++[pS cI ([]:List Int)])⟩]∧E=[(0,.vc (pS cI u)),(1,.vc (pS cI a1)),(4,.vc (pP (some V) 0)),(5,.vc (pP (some b2) 0))]) ?_ (fun j=>?_))))
 ·rintro _ _ ⟨f,rfl,rfl⟩;unfold n9 at f;obtain⟨v5,h6,f⟩:=bE f oP;refine go ?_ ?_;refine aD f rfl (fun Y f=>?_) (fun Y f=>?_)
  ·refine aE (aJ (aG (iW (is:=[]) (xs:=[]) (ps:=[]) rfl tyB40 rfl rfl zT rfl) zT ?_));obtain⟨v8,h9,f⟩:=bE f jV;exact bU
  refine go ?_ ?_;refine aD f rfl (fun x f=>?_) (fun x f=>?_)
  ·obtain⟨v11,h12,f⟩:=aR f;obtain⟨v13,h14,f⟩:=bE f aBa;obtain⟨v15,h16,f⟩:=bE f jV;refine go ?_ ?_;refine aG (aE1 rfl ⟨_,Tryz.underlying3⟩ Tryz.underlying131) zU1 ?_;obtain⟨v17,h18,f⟩:=bE f lS;exact bU
  obtain⟨v19,h20,f⟩:=bE f aFz;obtain⟨v21,h22,f⟩:=bE f jV;obtain⟨v23,h24,f⟩:=bE f jV;exact bU
 obtain⟨k,h26,f⟩:=bE f xQ;refine go ?_ ?_;refine aD f rfl (fun y f=>?_) (fun y f=>?_)
 ·obtain⟨q,h29,f⟩:=bE f xQ;refine go ?_ ?_;refine aD f rfl (fun z f=>?_) (fun z f=>?_)
  ·refine aE ?_;obtain⟨s,F,f⟩:=aR f;obtain⟨G,I,f⟩:=bE f lS;obtain⟨t,J,f⟩:=aR f;obtain⟨O,U,f⟩:=bE f lS;refine kP [0,0,3,7,15,0,0,96,224,511,1023,2047] 10 2 [.v (vI k.1),.v (vI q.1),.v (vI s),.v (.vc (pI .u64 (IntKind.u64.wrap s))),.v (.va (aC.e G)),.v (vI k.1),.v (vI q.1),.v (vI t),.v (.vc (pI .u64 (IntKind.u64.wrap t))),.v (.va (aC.e O))] bC ⟨d0 (aP (.inl rfl)) zU1,d0 (aP (.inl rfl)) zU1,d0 (aLN rfl F) zU2,⟨rfl,.run (L:=[0]) ⟨fun h A=>aE1 rfl ⟨_,Tryz.underlying3⟩ Tryz.underlying131,zT⟩ (fun h=>zU1)⟩,d0 (bO rfl I rfl) ⟨k_B _,rfl,zT⟩,d0 (aP (.inl rfl)) zU1,d0 (aP (.inl rfl)) zU1,d0 (aHF rfl J) zU2,⟨rfl,.run (L:=[0]) ⟨fun h A=>aE1 rfl ⟨_,Tryz.underlying3⟩ Tryz.underlying131,zT⟩ (fun h=>zU1)⟩,d0 (bO rfl U rfl) ⟨k_B _,rfl,zT⟩,zT⟩ (fun X h=>?_);exact bU
  refine fB ?_;exact rW j ⟨f,rfl,rfl⟩ [0,1]
 refine fB ?_;exact rW j ⟨f,rfl,rfl⟩ [0,1]
def xW(K:Nat)(e:aC):Option aC:=
 some e
def u7(K:Nat)(e:Int):Option (LR aC aC):=
 (fS false (IntKind.u64.wrap e)).bind fun f=>some (.ret f)
def lY(K:Nat):Nat→Int→Int→Option Int
 |0,_,_=>none
 |k+1,f,e=>bif(decide (0<e)) then((chr f e).bind fun h=>lY K k e h) else(some f)
def kL(K:Nat):Nat→aC→aC→Option (LR aC aC)
 |0,_,_=>none
 |k+1,f,e=>bif(decide (0<(e.d.length:Int))) then((qU f.d).bind fun h=>(qU e.d).bind fun v20=>bif h.2 then(bif v20.2 then((lY K K h.1 v20.1).bind fun j=>u7 K j) else((oM K f.d e.d).bind fun q=>kL K k e q.2)) else((oM K f.d e.d).bind fun s=>kL K k e s.2)) else(some (.go f))
def uU(K:Nat)(f:aC)(a1:aC):Option aC:=
 (fG K false f.d).bind fun v6=>(fG K false a1.d).bind fun h=>(kL K K v6 h).bind fun o=>match o with| .ret r=>some r| .go e=>xW K e
theorem aB4{K:Nat}{a0:aC}{a1:aC}{r:aC}(f:uU K a0 a1=some r):Ct Tryz.prog 131 [.va (aC.e a0),.va (aC.e a1)] (.va (aC.e r)):=by
 unfold uU at f;refine aA Tryz.func131 rfl (by kernel_rfl) Tryz.ntmps131 rfl (fun w0 M0=>?_);refine aE (aJ (dP rfl rfl zT (fun b1=>?_)));refine dP rfl rfl zT (fun b2=>?_);refine aM rfl tyZ40 (fun z=>?_);obtain⟨v6,h7,f⟩:=bE f jV;obtain⟨v8,h9,f⟩:=bE f jV;refine go ?_ ?_;refine dr [0,1,3,0,8,31,0,0,255,511] 8 2 ?_ (fun h G4=>?_);refine go ?_ ?_;refine aI (aY (fun H E=>∃(J:aC),xW K J=some r∧H=[⟨some (h 6),1,40,2,1,(aC.e J)⟩,⟨some z,1,40,2,1,([pB false]++[pS cI ([]:List Int)])⟩]∧E=[(4,.vc (pP (some z) 0)),(5,.vc (pP (some (h 6)) 0))]) ?_ (fun X=>?_))
 ·rintro _ _ ⟨J,f,rfl,rfl⟩;unfold xW at f;exact bU
 obtain⟨I,hL,O⟩:=aR f;refine dW (fun k a w=>∃(u:aC),∃(j:aC),kL K k u j=some I∧hs _ [⟨some (h 6),1,40,2,1,(aC.e u)⟩,⟨some (h 7),1,40,2,1,(aC.e j)⟩,⟨some z,1,40,2,1,([pB false]++[pS cI ([]:List Int)])⟩] [(4,.vc (pP (some z) 0)),(5,.vc (pP (some (h 6)) 0)),(6,.vc (pP (some (h 7)) 0))] a w) K (fun a w ⟨_,_,f,_⟩=>by cases f) (fun k a w ⟨u,j,f,hh⟩=>dV ?_ hh) (fun a w hh=>⟨v6,v8,hL,jH [0,1,2] hh⟩);rw[kL.eq_2]at f;refine go ?_ ?_;refine aD f rfl (fun h17 f=>?_) (fun h17 f=>?_)
 ·refine fB (aH (aI ?_));obtain⟨v18,h19,f⟩:=bE f xQ;obtain⟨v20,h21,f⟩:=bE f xQ;refine go ?_ ?_;refine dL f (fun h22 f=>?_) (fun h22 f=>?_)
  ·refine go ?_ ?_;refine aD f rfl (fun h23 f=>?_) (fun h23 f=>?_)
   ·refine aE (aI (aY (fun H E=>∃(U:Int),u7 K U=some I∧H=[⟨some z,1,40,2,1,([pB false]++[pS cI ([]:List Int)])⟩]∧E=[(4,.vc (pP (some z) 0)),(7,vI U)]) ?_ (fun Y=>?_)))
    ·rintro _ _ ⟨U,f,rfl,rfl⟩;unfold u7 at f;refine go ?_ ?_;refine aG (aE1 rfl ⟨_,Tryz.underlying3⟩ Tryz.underlying131) zU1 ?_;obtain⟨v31,h32,f⟩:=bE f lS;exact bU
    obtain⟨x28',hL,V⟩:=aR f;refine dW (fun k a w=>∃(F:Int),∃(G:Int),lY K k F G=some x28'∧hs _ [⟨some z,1,40,2,1,([pB false]++[pS cI ([]:List Int)])⟩] [(4,.vc (pP (some z) 0)),(7,vI F),(9,vI G)] a w) K (fun a w ⟨_,_,f,_⟩=>by cases f) (fun k a w ⟨F,G,f,hh⟩=>dV ?_ hh) (fun a w hh=>⟨v18.1,v20.1,hL,jH [2] hh⟩);rw[lY.eq_2]at f;refine go ?_ ?_;refine aD f rfl (fun h33 f=>?_) (fun h33 f=>?_)
    ·refine fB (aH (aI ?_));obtain⟨v36,h37,f⟩:=aR f;refine dr [0,0,0,6,3,31] 6 0 ?_ (fun bs35 G34=>?_);refine aX (aB7 ?_);exact aF (fun a w hh=>⟨G,v36,f,jH [0] hh⟩)
    refine bF ?_;obtain rfl:=iJ f;exact rW Y ⟨F,V,rfl,rfl⟩ [0]
   obtain⟨x,h39,f⟩:=bE f xT;refine go ?_ ?_;refine aM rfl tyZ40 (fun b40=>?_);refine aM rfl tyZ40 (fun b41=>?_);refine go ?_ ?_;refine tS (HsM [(0,fun q=>[⟨some b41,1,40,2,1,(aC.e x.2)⟩,⟨some b40,1,40,2,1,(aC.e x.1)⟩,⟨some (h 6),1,40,2,1,(aC.e u)⟩,⟨some (h 7),1,40,2,1,(aC.e j)⟩,⟨some z,1,40,2,1,([pB false]++[pS cI ([]:List Int)])⟩]),(1,fun q=>[⟨some b41,1,40,2,1,(aC.e x.2)⟩,⟨some b40,1,40,2,1,(aC.e x.1)⟩,⟨some (h 6),1,40,2,1,(aC.e j)⟩,⟨some (h 7),1,40,2,1,(aC.e j)⟩,⟨some z,1,40,2,1,([pB false]++[pS cI ([]:List Int)])⟩])]) [2] [0,0,1,7] 3 1 [.v (.va (aC.e j)),.v (.va (aC.e x.2)),.g (fun _ _=>.any)] bC ⟨d1 0 (gM 3 2 rfl rfl rfl rfl (.agg tyA40)) zU1,⟨rfl,.run (L:=[0,1]) ⟨fun q A=>gM 0 2 rfl rfl rfl rfl (.agg tyA40),fun q A=>gM 0 2 rfl rfl rfl rfl (.agg tyA40),zT⟩ (fun q=>zU1)⟩,⟨rfl,.hvy [0] ⟨fun q A=>aDf (t_s 2 rfl rfl rfl tyA40.s),zT⟩ (fun q=>zU2)⟩,zT⟩ (fun bs43 q=>?_);refine go ?_ ?_;exact aF (fun a w hh=>⟨j,x.2,f,jH [2,3,4] hh⟩)
  refine go ?_ ?_;refine vB rfl ?_;obtain⟨y,h45,f⟩:=bE f xT;refine go ?_ ?_;refine aM rfl tyZ40 (fun b46=>?_);refine aM rfl tyZ40 (fun b47=>?_);refine go ?_ ?_;refine tS (HsM [(0,fun t=>[⟨some b47,1,40,2,1,(aC.e y.2)⟩,⟨some b46,1,40,2,1,(aC.e y.1)⟩,⟨some (h 6),1,40,2,1,(aC.e u)⟩,⟨some (h 7),1,40,2,1,(aC.e j)⟩,⟨some z,1,40,2,1,([pB false]++[pS cI ([]:List Int)])⟩]),(1,fun t=>[⟨some b47,1,40,2,1,(aC.e y.2)⟩,⟨some b46,1,40,2,1,(aC.e y.1)⟩,⟨some (h 6),1,40,2,1,(aC.e j)⟩,⟨some (h 7),1,40,2,1,(aC.e j)⟩,⟨some z,1,40,2,1,([pB false]++[pS cI ([]:List Int)])⟩])]) [2] [0,0,1,7] 3 1 [.v (.va (aC.e j)),.v (.va (aC.e y.2)),.g (fun _ _=>.any)] bC ⟨d1 0 (gM 3 2 rfl rfl rfl rfl (.agg tyA40)) zU1,⟨rfl,.run (L:=[0,1]) ⟨fun t A=>gM 0 2 rfl rfl rfl rfl (.agg tyA40),fun t A=>gM 0 2 rfl rfl rfl rfl (.agg tyA40),zT⟩ (fun t=>zU1)⟩,⟨rfl,.hvy [0] ⟨fun t A=>aDf (t_s 2 rfl rfl rfl tyA40.s),zT⟩ (fun t=>zU2)⟩,zT⟩ (fun bs49 t=>?_);refine go ?_ ?_;exact aF (fun a w hh=>⟨j,y.2,f,jH [2,3,4] hh⟩)
 refine bF ?_;obtain rfl:=iJ f;exact rW X ⟨u,O,rfl,rfl⟩ [0,2]
def nU(K:Nat)(h:aC)(a1:aC)(f:aC)(e:aC):Option (aC×aC):=
 bif(h.neg != a1.neg) then(some ((⟨(decide (0<(e.d.length:Int))),e.d⟩:aC),f)) else(some ((⟨false,e.d⟩:aC),f))
def uT(K:Nat)(e:aC)(a1:aC):Option (aC×aC):=
 bif((a1.d.length:Int)==0) then(some ((⟨false,([]:List Int)⟩:aC),(⟨false,([]:List Int)⟩:aC))) else((oM K e.d a1.d).bind fun v6=>bif e.neg then(bif(decide (0<(v6.2.d.length:Int))) then((rB K v6.1.d [1]).bind fun f=>(fG K false f).bind fun h=>(oD K a1.d v6.2.d).bind fun j=>(fG K false j).bind fun k=>nU K e a1 k h) else(nU K e a1 v6.2 v6.1)) else(nU K e a1 v6.2 v6.1))
theorem aCl{K:Nat}{x:aC}{a1:aC}{r:aC×aC}(h:uT K x a1=some r):Ct Tryz.prog 133 [.va (aC.e x),.va (aC.e a1)] (.t2 (.va (aC.e r.1)) (.va (aC.e r.2))):=by
 unfold uT at h;refine aA Tryz.func133 rfl (by kernel_rfl) Tryz.ntmps133 rfl (fun w0 M0=>?_);refine aE (aJ (dP rfl rfl zT (fun y=>?_)));refine dP rfl rfl zT (fun b2=>?_);refine aM rfl tyZ40 (fun z=>?_);refine aM rfl tyZ40 (fun F=>?_);refine go ?_ ?_;refine aD h rfl (fun h5 h=>?_) (fun h5 h=>?_)
 ·refine aE (aJ (aG (iW (is:=[]) (xs:=[]) (ps:=[]) rfl tyB40 rfl rfl zT rfl) zT ?_));refine aG (iW (is:=[]) (xs:=[]) (ps:=[]) rfl tyB40 rfl rfl zT rfl) zT ?_;exact bU
 obtain⟨v6,h7,h⟩:=bE h xT;refine go ?_ ?_;refine aM rfl tyZ40 (fun G=>?_);refine aM rfl tyZ40 (fun I=>?_);refine mI (t_s 1 rfl rfl rfl tyA40.s) zU2 ?_;refine mI (t_s 0 rfl rfl rfl tyA40.s) zU2 ?_;refine aX (aH (aE (zJ (fun H E=>∃(j:aC),∃(f:aC),nU K x a1 j f=some r∧H=[⟨some I,1,40,2,1,(aC.e j)⟩,⟨some G,1,40,2,1,(aC.e f)⟩,⟨some F,1,40,2,1,([pB false]++[pS cI ([]:List Int)])⟩,⟨some z,1,40,2,1,([pB false]++[pS cI ([]:List Int)])⟩,⟨some b2,1,40,2,1,(aC.e a1)⟩,⟨some y,1,40,2,1,(aC.e x)⟩]∧E=[(2,.vc (pP (some y) 0)),(3,.vc (pP (some b2) 0)),(4,.vc (pP (some z) 0)),(5,.vc (pP (some F) 0)),(6,.vc (pP (some G) 0)),(7,.vc (pP (some I) 0))]) ?_ (fun u=>?_))))
 ·rintro _ _ ⟨j,f,h,rfl,rfl⟩;unfold nU at h;refine go ?_ ?_;refine aG (aCw rfl Tryz.underlying4) zU2 ?_;refine gG ?_;refine dL h (fun J h=>?_) (fun J h=>?_)
  ·refine go ?_ ?_;refine tS (HsM [(0,fun q=>[⟨some I,1,40,2,1,(aC.e j)⟩,⟨some G,1,40,2,1,([pB (decide (0<(f.d.length:Int)))]++[pS cI f.d])⟩,⟨some F,1,40,2,1,([pB false]++[pS cI ([]:List Int)])⟩,⟨some z,1,40,2,1,([pB false]++[pS cI ([]:List Int)])⟩,⟨some b2,1,40,2,1,(aC.e a1)⟩,⟨some y,1,40,2,1,(aC.e x)⟩]),(1,fun q=>[⟨some I,1,40,2,1,(aC.e j)⟩,⟨some G,1,40,2,1,([pB (decide (0<(f.d.length:Int)))]++[pS cI f.d])⟩,⟨some F,1,40,2,1,([pB false]++[pS cI ([]:List Int)])⟩,⟨some z,1,40,2,1,([pB (decide (0<(f.d.length:Int)))]++[pS cI f.d])⟩,⟨some b2,1,40,2,1,(aC.e a1)⟩,⟨some y,1,40,2,1,(aC.e x)⟩])]) [2] [0,0,1,7] 3 1 [.v (.va ([pB (decide (0<(f.d.length:Int)))]++[pS cI f.d])),.v (.va (aC.e j)),.g (fun _ _=>.any)] bC ⟨d1 0 (gM 1 2 rfl rfl rfl rfl (.agg tyA40)) zU1,⟨rfl,.run (L:=[0,1]) ⟨fun q A=>gM 0 2 rfl rfl rfl rfl (.agg tyA40),fun q A=>gM 0 2 rfl rfl rfl rfl (.agg tyA40),zT⟩ (fun q=>zU1)⟩,⟨rfl,.hvy [0] ⟨fun q A=>aDf (t_s 3 rfl rfl rfl tyA40.s),zT⟩ (fun q=>zU2)⟩,zT⟩ (fun bs16 q=>?_);exact bU
  refine go ?_ ?_;refine tS (HsM [(0,fun t=>[⟨some I,1,40,2,1,(aC.e j)⟩,⟨some G,1,40,2,1,([pB false]++[pS cI f.d])⟩,⟨some F,1,40,2,1,([pB false]++[pS cI ([]:List Int)])⟩,⟨some z,1,40,2,1,([pB false]++[pS cI ([]:List Int)])⟩,⟨some b2,1,40,2,1,(aC.e a1)⟩,⟨some y,1,40,2,1,(aC.e x)⟩]),(1,fun t=>[⟨some I,1,40,2,1,(aC.e j)⟩,⟨some G,1,40,2,1,([pB false]++[pS cI f.d])⟩,⟨some F,1,40,2,1,([pB false]++[pS cI ([]:List Int)])⟩,⟨some z,1,40,2,1,([pB false]++[pS cI f.d])⟩,⟨some b2,1,40,2,1,(aC.e a1)⟩,⟨some y,1,40,2,1,(aC.e x)⟩])]) [2] [0,0,1,7] 3 1 [.v (.va ([pB false]++[pS cI f.d])),.v (.va (aC.e j)),.g (fun _ _=>.any)] bC ⟨d1 0 (gM 1 2 rfl rfl rfl rfl (.agg tyA40)) zU1,⟨rfl,.run (L:=[0,1]) ⟨fun t A=>gM 0 2 rfl rfl rfl rfl (.agg tyA40),fun t A=>gM 0 2 rfl rfl rfl rfl (.agg tyA40),zT⟩ (fun t=>zU1)⟩,⟨rfl,.hvy [0] ⟨fun t A=>aDf (t_s 3 rfl rfl rfl tyA40.s),zT⟩ (fun t=>zU2)⟩,zT⟩ (fun bs18 t=>?_);exact bU
 refine go ?_ ?_;refine dL h (fun O h=>?_) (fun O h=>?_)
 ·refine go ?_ ?_;refine aD h rfl (fun U h=>?_) (fun U h=>?_)
  ·refine go ?_ ?_;refine aG (iH (C:=cI) (xs:=[.const (.int .i64 (1))]) (ps:=[vI 1]) (zs:=[1]) rfl tyS22 rfl ⟨⟨zT,rfl⟩,zT⟩ rfl) ⟨rT _ _,zT⟩ ?_;obtain⟨v21,V,h⟩:=bE h aBV;refine aG (bO rfl V rfl) zU2 ?_;obtain⟨X,Y,h⟩:=bE h jV;refine aG (bO rfl Y rfl) ⟨k_B _,rfl,zT⟩ ?_;refine mI (t_s 1 rfl rfl rfl tyA40.s) zU2 ?_;refine aX (aH (aJ (aG (iG (off:=0) (k:=1) rfl tyF40_1) zU1 ?_)));refine aG (gM 4 1 rfl rfl rfl rfl (.one tyO22)) zU1 ?_;refine aG (iG (off:=0) (k:=1) rfl tyF40_1) zU1 ?_;refine aG (gM 0 1 rfl rfl rfl rfl (.one tyO22)) zU1 ?_;obtain⟨v25,h26,h⟩:=bE h yN;refine aG (bO rfl h26 rfl) zU2 ?_;obtain⟨v27,h28,h⟩:=bE h jV;refine aG (bO rfl h28 rfl) ⟨k_B _,rfl,zT⟩ ?_;refine mI (t_s 0 rfl rfl rfl tyA40.s) zU2 ?_;refine aX ?_;exact rW u ⟨v27,X,h,rfl,rfl⟩ [0,1,2,3,4,5]
  refine fB ?_;exact rW u ⟨v6.2,v6.1,h,rfl,rfl⟩ [0,1,2,3,4,5]
 refine go ?_ ?_;refine vB rfl ?_;refine fB ?_;exact rW u ⟨v6.2,v6.1,h,rfl,rfl⟩ [0,1,2,3,4,5]
def nP(K:Nat)(e:aC)(a1:aC):Option Int:=
 bif(e.neg != a1.neg) then(bif e.neg then(some (-1)) else(bif(e.neg != a1.neg) then(some 1) else(bif e.neg then((gO K a1.d e.d).bind fun j=>some j) else((gO K e.d a1.d).bind fun k=>some k)))) else(bif(e.neg != a1.neg) then(some 1) else(bif e.neg then((gO K a1.d e.d).bind fun f=>some f) else((gO K e.d a1.d).bind fun h=>some h)))
theorem w8{K:Nat}{k:aC}{a1:aC}{r:Int}(f:nP K k a1=some r):Ct Tryz.prog 135 [.va (aC.e k),.va (aC.e a1)] (vI r):=by
 unfold nP at f;refine aA Tryz.func135 rfl (by kernel_rfl) Tryz.ntmps135 rfl (fun w0 M0=>?_);refine aE (aJ (dP rfl rfl zT (fun I=>?_)));refine dP rfl rfl zT (fun b2=>?_);refine go ?_ ?_;refine aI (go ?_ ?_);refine aG (aCw rfl Tryz.underlying4) zU2 ?_;refine gG ?_;refine dL f (fun q f=>?_) (fun q f=>?_)
 ·refine go ?_ ?_;refine aD f rfl (fun s f=>?_) (fun s f=>?_)
  ·exact bU
  refine go ?_ ?_;refine aG (aCw rfl Tryz.underlying4) zU2 ?_;refine go ?_ ?_;refine aD f rfl (fun t f=>?_) (fun t f=>?_)
  ·exact bU
  refine go ?_ ?_;refine aD f rfl (fun u f=>?_) (fun u f=>?_)
  ·obtain⟨J,L,f⟩:=bE f oP;exact bU
  obtain⟨O,x,f⟩:=bE f oP;exact bU
 refine go ?_ ?_;refine vB rfl ?_;refine go ?_ ?_;refine aG (aCw rfl Tryz.underlying4) zU2 ?_;refine go ?_ ?_;refine aD f rfl (fun h f=>?_) (fun h f=>?_)
 ·exact bU
 refine go ?_ ?_;refine aD f rfl (fun j f=>?_) (fun j f=>?_)
 ·obtain⟨y,z,f⟩:=bE f oP;exact bU
 obtain⟨F,G,f⟩:=bE f oP;exact bU
def rZ(K:Nat):Option Int:=
 some (-1)
def gK(K:Nat)(f:List Int)(a1:(Int→Option Bool)):Nat→Int→Option (LR Int Unit)
 |0,_=>none
 |k+1,e=>bif(decide (e<(f.length:Int))) then((bR f e).bind fun v6=>(a1 v6).bind fun h=>bif h then(some (.ret e)) else((aV (e+1)).bind fun v11=>gK K f a1 k v11)) else(some (.go ()))
def qS(K:Nat)(e:List Int)(a1:(Int→Option Bool)):Option Int:=
 (gK K e a1 K 0).bind fun o=>match o with| .ret r=>some r| .go _=>rZ K
theorem aA7{K:Nat}{f:List Int}{a1:(Int→Option Bool)}{r:Int}(e:qS K f a1=some r):Ct Tryz.prog 173 [.vc (pS cI f),.vc (pFn Tryz.prog (fun x:Int=>[vI x]) (fun r:Bool=>.vc (pB r)) a1)] (vI r):=by
 unfold qS at e;refine aA Tryz.func173 rfl (by kernel_rfl) Tryz.ntmps173 rfl (fun w0 M0=>?_);refine go ?_ ?_;refine aI (aY (fun H E=>rZ K=some r∧H=[]∧E=[]) ?_ (fun j=>?_))
 ·rintro _ _ ⟨e,rfl,rfl⟩;unfold rZ at e;exact bU
 obtain⟨q,u,h⟩:=aR e;refine dW (fun k a w=>∃(s:Int),gK K f a1 k s=some q∧hs _ [] [(0,.vc (pS cI f)),(1,.vc (pFn Tryz.prog (fun x:Int=>[vI x]) (fun r:Bool=>.vc (pB r)) a1)),(7,vI (f.length:Int)),(8,vI s)] a w) K (fun a w ⟨_,e,_⟩=>by cases e) (fun k a w ⟨s,e,hh⟩=>dV ?_ hh) (fun a w hh=>⟨0,u,jH [] hh⟩);rw[gK.eq_2]at e;refine go ?_ ?_;refine aD e rfl (fun y e=>?_) (fun y e=>?_)
 ·refine go ?_ ?_;refine aI ?_;obtain⟨v6,I,z,F,e⟩:=u5 e;refine go ?_ ?_;refine aG (aEx (pre:=fun x:Int=>[vI x]) (post:=fun r:Bool=>.vc (pB r)) (x:=v6) (r:=z) rfl F rfl) zU2 ?_;refine aX (aH (aD e rfl (fun t e=>?_) (fun t e=>?_)))
  ·exact bU
  obtain⟨v11,G,e⟩:=aR e;refine go ?_ ?_;exact aF (fun a w hh=>⟨v11,e,jH [] hh⟩)
 refine bF ?_;obtain rfl:=iJ e;exact rW j ⟨h,rfl,rfl⟩ []
def lL(K:Nat)(e:List Int)(a1:(Int→Option Bool)):Option Bool:=
 (qS K e a1).bind fun v1=>some (decide (0≤v1))
theorem aAt{K:Nat}{f:List Int}{a1:(Int→Option Bool)}{r:Bool}(e:lL K f a1=some r):Ct Tryz.prog 163 [.vc (pS cI f),.vc (pFn Tryz.prog (fun x:Int=>[vI x]) (fun r:Bool=>.vc (pB r)) a1)] (.vc (pB r)):=by
 unfold lL at e;refine aA Tryz.func163 rfl (by kernel_rfl) Tryz.ntmps163 rfl (fun w0 M0=>?_);obtain⟨v1,h,e⟩:=bE e aA7;exact bU
def l5(e:Int):Option Bool:=
 bif(decide (e<0)) then(some true) else(some (decide (1000000000≤e)))
theorem aDH{f:Int}{r:Bool}(e:l5 f=some r):Ct Tryz.prog 164 [vI f] (.vc (pB r)):=by
 unfold l5 at e;refine aA Tryz.func164 rfl (by kernel_rfl) Tryz.ntmps164 rfl (fun w0 M0=>?_);refine go ?_ ?_;refine dL e (fun h e=>?_) (fun h e=>?_)
 ·exact bU
 exact bU
def qD(K:Nat)(e:aC):Option Bool:=
 (lL K e.d (l5)).bind fun v2=>bif v2 then(some false) else(bif((e.d.length:Int)==0) then(bif(!e.neg) then(some true) else(bif(decide (0<(e.d.length:Int))) then((aV ((e.d.length:Int)-1)).bind fun j=>(bR e.d j).bind fun v10=>some (v10 != 0)) else(some false))) else(bif(decide (0<(e.d.length:Int))) then((aV ((e.d.length:Int)-1)).bind fun f=>(bR e.d f).bind fun h=>some (h != 0)) else(some false)))
theorem aA4{K:Nat}{k:aC}{r:Bool}(f:qD K k=some r):Ct Tryz.prog 137 [.va (aC.e k)] (.vc (pB r)):=by
 unfold qD at f;refine aA Tryz.func137 rfl (by kernel_rfl) Tryz.ntmps137 rfl (fun w0 M0=>?_);refine aE (aJ (dP rfl rfl zT (fun L=>?_)));obtain⟨v2,q,f⟩:=bE f aAt;refine go ?_ ?_;refine aG (bO rfl q rfl) ⟨rfl,(aV5 (P:=Tryz.prog) (φ:=(l5)) (pre:=fun x:Int=>[vI x]) (post:=fun r:Bool=>.vc (pB r)) (fun x r h=>aDH h)),zT⟩ ?_;refine aX (aH (aD f rfl (fun s f=>?_) (fun s f=>?_)))
 ·exact bU
 refine go ?_ ?_;refine dL f (fun t f=>?_) (fun t f=>?_)
 ·refine go ?_ ?_;refine dL f (fun u f=>?_) (fun u f=>?_)
  ·exact bU
  refine go ?_ ?_;refine dL f (fun y f=>?_) (fun y f=>?_)
  ·obtain⟨O,U,v10,z,f⟩:=u5 f;exact bU
  exact bU
 refine go ?_ ?_;refine dL f (fun j f=>?_) (fun j f=>?_)
 ·obtain⟨F,G,I,J,f⟩:=u5 f;exact bU
 exact bU
end Go.Proofs.YtolfcbpgmfbgmaaGreat
set_option linter.unusedVariables false
set_option maxRecDepth 100000
namespace Go.Proofs.YtolfcbpgmfbgmaaGreat
theorem xH{n m:Nat}{x:Int}(h:x=n)(e:n≤9000000000000000000):aV x=some (n:Int):=by
 subst h;exact tI ⟨by omega,by omega⟩
theorem aT{k n:Nat}(h:n<k):∃e,k=e+1∧n≤e:=⟨k-1,by omega,by omega⟩
theorem aB6{u:List Int}{i:Nat}{v:Int}(h:Dr u 0 i)(f:i<u.length)(j:0≤v)(k:v<1000000000):Dr (u.set i v) 0 (i+1):=fun t q=>by
 by_cases e:t=i
 ·subst e;rw[Nat.zero_add,eW f];exact⟨j,k⟩
 ·rw[gF (by omega)];exact h t (by omega)
def mkG(neg:Bool)(n:Nat):aC:=if n=0 then⟨false,[]⟩ else⟨neg,cD n⟩
theorem p6(n:Nat):mkG false n=Z n:=by
 unfold mkG Z;by_cases h:n=0
 ·subst h;simp[aAI]
 ·rw[if_neg h];simp
theorem aMI(n:Nat):mkG true n=Z (-n):=by
 unfold mkG Z;by_cases h:n=0
 ·subst h;simp[aAI]
 ·rw[if_neg h];simp;omega
theorem wC(b:Bool)(n:Nat):mkG b n=Z (if b then -(n:Int) else n):=by
 cases b
 ·simpa using p6 n
 ·simpa using aMI n
theorem aSo(u:List Int):∀(n:Nat),n≤u.length→n≤9000000000000→∃m:Nat,m≤n∧(∀i,m≤i→i<n→u.getD i 0=0)∧(m=0∨u.getD (m-1) 0≠0)∧∀K k,n<k→oA K u k n=some (m:Int)
 |0,_,_=>⟨0,Nat.le_refl _,fun i _ h=>by omega,.inl rfl,fun K k f=>by
   obtain⟨q,rfl,_⟩:=aT f;simp[oA]⟩
 |n+1,h,J=>by
  have t:aV (((n+1:Nat):Int)-1)=some (n:Int):=xH (m:=0) (by omega) (by omega);have x:decide (0<((n+1:Nat):Int))=true:=decide_eq_true (by omega);have y:=cZ (xs:=u) (i:=n) (by omega);by_cases j:u.getD n 0=0
  ·obtain⟨m,L,z,F,G⟩:=aSo u n (by omega) (by omega);refine⟨m,by omega,fun i a b=>?_,F,fun K k f=>?_⟩
   ·by_cases e:i=n
    ·subst e;exact j
    ·exact z i a (by omega)
   ·obtain⟨q,rfl,s⟩:=aT f;simp only[oA,t,x,y,j,bL,oB,beq_self_eq_true];exact G K q (by omega)
  ·refine⟨n+1,by omega,fun i a b=>by omega,.inr (by simpa using j),fun K k f=>?_⟩;obtain⟨q,rfl,s⟩:=aT f;have I:(u.getD n 0==0)=false:=by simpa using j
   simp only[oA,t,x,y,I,bL,bG,oB]
theorem aVt{u:List Int}(s:m5 u){m:Nat}(t:m≤u.length)(x:∀i,m≤i→i<u.length→u.getD i 0=0)(y:m=0∨u.getD (m-1) 0≠0):u.take m=cD (vD u).toNat∧(m=0↔vD u=0):=by
 have f:∀i,i<m→(u.take m).getD i 0=u.getD i 0:=fun i e=>by
  simp only[List.getD_eq_getElem?_getD,List.getElem?_take];rw[if_pos e]
 have q:(u.take m).length=m:=by simp;omega
 have hok:m5 (u.take m):=fun i=>by
  rcases Nat.lt_or_ge i m with h|h
  ·rw[f i h];exact s i
  ·rw[wN (by omega)];omega
 have hv:vD (u.take m)=vD u:=by
  unfold vD;rw[q];obtain⟨c,hc⟩:=Nat.exists_eq_add_of_le t;rw[hc,yE,aFQ (j:=0+m) (fun i e=>x _ (by omega) (by omega))];rw[aEt (v:=u) (k:=0) (fun i e=>by rw[Nat.zero_add];exact f i e)];simp
 have z:Top (u.take m):=by
  rcases y with h|h
  ·subst h;exact .inl (by simp)
  ·by_cases F:m=0
   ·subst F;exact .inl (by simp)
   ·refine .inr ?_;rw[q,f _ (by omega)];exact h
 have:=aSb hok z;rw[hv]at this;refine⟨this.symm,fun h=>?_,fun h=>?_⟩
 ·subst h;rw[←hv];simp;rfl
 ·rw[h]at this;simp only[Int.toNat_zero,aAI]at this;have:(u.take m).length=0:=by rw[←this];rfl
  omega
theorem zK(neg:Bool){u:List Int}(j:m5 u)(s:u.length≤9000000000000):Ev (fun K=>fG K neg u) (mkG neg (vD u).toNat):=by
 obtain⟨m,k,t,x,y⟩:=aSo u u.length (Nat.le_refl _) s;obtain⟨z,q⟩:=aVt j k t x;have F:=j.nonneg;refine⟨u.length+1,fun K G=>?_⟩;simp only[fG,y K K (by omega),oB,wV];unfold mkG;by_cases f:m=0
 ·have e:((m:Int)==0)=true:=by simp[f]
  rw[e,bL,if_pos (by have:=q.1 f;omega)]
 ·have e:((m:Int)==0)=false:=by simp[f]
  rw[e,bG,aIr k,oB,if_neg (by intro h;exact f (q.2 (by omega))),z]
theorem aCQ{out a b:List Int}{i:Nat}{c c' v:Int}(e:i<out.length)(f:W out 0 i+c*PB i=W a 0 i+W b 0 i)(hv:v+1000000000*c'=a.getD i 0+b.getD i 0+c):
  W (out.set i v) 0 (i+1)+c'*PB (i+1)=W a 0 (i+1)+W b 0 (i+1):=by
 rw[eI,eI,eI,Nat.zero_add,eW e,zM (.inr (by omega))];simp only[PB];grind
theorem aCr{a b:List Int}(G:m5 a)(hb:m5 b)(hab:b.length≤a.length)(L:a.length≤9000000000000):∀(t i:Nat) (out:List Int) (c:Int),i+t=a.length→out.length=a.length+1→Dr out 0 i→0≤c→c≤1→W out 0 i+c*PB i=W a 0 i+W b 0 i→
  ∃out' c',out'.length=a.length+1∧Dr out' 0 a.length∧0≤c'∧c'≤1∧W out' 0 a.length+c'*PB a.length=W a 0 a.length+W b 0 a.length∧∀K k,t<k→dS K a b k out c (i:Int)=some (out',c')
 |0,i,out,c,hi,y,z,I,J,F=>by
  have:i=a.length:=by omega
  subst this;refine⟨out,c,y,z,I,J,F,fun K k e=>?_⟩;obtain⟨f,rfl,_⟩:=aT e;simp[dS]
 |t+1,i,out,c,hi,y,z,I,J,F=>by
  have ha':=G i;have hb':=hb i;have O:decide ((i:Int)<(a.length:Int))=true:=decide_eq_true (by omega);have U:=cZ (xs:=a) (i:=i) (by omega);have V:aV ((i:Int)+1)=some ((i+1:Nat):Int):=xH (m:=0) (by omega) (by omega);have X:=cZ (xs:=out) (i:=i) (by omega);have Y:∀v,rX out (i:Int) v=some (out.set i v):=fun v=>uY (by omega)
  have e6:aV (a.getD i 0+c)=some (a.getD i 0+c):=tI (by omega);have e7:aV (a.getD i 0+c+b.getD i 0)=some (a.getD i 0+c+b.getD i 0):=tI (by omega);have e8:aV (a.getD i 0+c+b.getD i 0-1000000000)=some (a.getD i 0+c+b.getD i 0-1000000000):=tI (by omega);have e9:aV (a.getD i 0+c-1000000000)=some (a.getD i 0+c-1000000000):=tI (by omega);by_cases hbl:i<b.length
  ·have f1:decide ((i:Int)<(b.length:Int))=true:=decide_eq_true (by omega);have f2:=cZ (xs:=b) (i:=i) hbl;by_cases hs:1000000000≤a.getD i 0+c+b.getD i 0
   ·obtain⟨o,d,h,j,q,s,u,x⟩:=aCr G hb hab L t (i+1) (out.set i (a.getD i 0+c+b.getD i 0-1000000000)) 1 (by omega) (by simpa using y) (aB6 z (by omega) (by omega) (by omega)) (by omega) (by omega) (aCQ (by omega) F (by omega));refine⟨o,d,h,j,q,s,u,fun K k e=>?_⟩;obtain⟨f,rfl,_⟩:=aT e;simp only[dS,O,U,V,X,Y,e6,e7,e8,f1,f2,decide_eq_true hs,bL,oB];exact x K f (by omega)
   ·obtain⟨o,d,h,j,q,s,u,x⟩:=aCr G hb hab L t (i+1) (out.set i (a.getD i 0+c+b.getD i 0)) 0 (by omega) (by simpa using y) (aB6 z (by omega) (by omega) (by omega)) (by omega) (by omega) (aCQ (by omega) F (by omega));refine⟨o,d,h,j,q,s,u,fun K k e=>?_⟩;obtain⟨f,rfl,_⟩:=aT e;simp only[dS,O,U,V,X,Y,e6,e7,f1,f2,decide_eq_false hs,bL,bG,oB];exact x K f (by omega)
  ·have f1:decide ((i:Int)<(b.length:Int))=false:=decide_eq_false (by omega);have f2:b.getD i 0=0:=wN (by omega);by_cases hs:1000000000≤a.getD i 0+c
   ·obtain⟨o,d,h,j,q,s,u,x⟩:=aCr G hb hab L t (i+1) (out.set i (a.getD i 0+c-1000000000)) 1 (by omega) (by simpa using y) (aB6 z (by omega) (by omega) (by omega)) (by omega) (by omega) (aCQ (by omega) F (by omega));refine⟨o,d,h,j,q,s,u,fun K k e=>?_⟩;obtain⟨f,rfl,_⟩:=aT e;simp only[dS,O,U,V,X,Y,e6,e9,f1,decide_eq_true hs,bL,bG,oB];exact x K f (by omega)
   ·obtain⟨o,d,h,j,q,s,u,x⟩:=aCr G hb hab L t (i+1) (out.set i (a.getD i 0+c)) 0 (by omega) (by simpa using y) (aB6 z (by omega) (by omega) (by omega)) (by omega) (by omega) (aCQ (by omega) F (by omega));refine⟨o,d,h,j,q,s,u,fun K k e=>?_⟩;obtain⟨f,rfl,_⟩:=aT e;simp only[dS,O,U,V,X,Y,e6,f1,decide_eq_false hs,bL,bG,oB];exact x K f (by omega)
theorem aIb(n j m:Nat):Dr (List.replicate n 0) j m:=fun i _=>by
 simp only[List.getD_eq_getElem?_getD,List.getElem?_replicate];split<;>simp
theorem aNg{a b:List Int}(h:m5 a)(hb:m5 b)(hab:b.length≤a.length)(u:a.length≤60000000000):∃r,m5 r∧r.length=a.length+1∧vD r=vD a+vD b∧Ev (fun K=>pX K a b) r:=by
 obtain⟨o,c,f,j,x,y,k,q⟩:=aCr h hb hab (by omega) a.length 0 (List.replicate (a.length+1) 0) 0 (by omega) (by simp) (aIb _ _ _) (by omega) (by omega) (by simp[W]);have s:aV ((a.length:Int)+1)=some ((a.length+1:Nat):Int):=xH (m:=0) (by omega) (by omega);have t:mkL ((a.length+1:Nat):Int) (0:Int)=some (List.replicate (a.length+1) 0):=aBy (by omega);refine⟨o.set a.length c,Dr.ok ?_,by simpa using f,?_,⟨a.length+1,fun K z=>?_⟩⟩
 ·rw[show(o.set a.length c).length=a.length+1 by simpa using f];exact aB6 j (by omega) (by omega) (by omega)
 ·unfold vD;rw[show(o.set a.length c).length=a.length+1 by simpa using f,eI,Nat.zero_add,eW (by omega),zM (.inr (by omega)),k,aBN hab]
 ·have e:=q K K (by omega);simp only[Int.natCast_zero]at e;simp only[pX,s,t,oB,e,uH,cZ (xs:=o) (i:=a.length) (by omega),uY (xs:=o) (i:=a.length) (v:=c) (by omega)]
theorem aJY{a b:List Int}(j:m5 a)(hb:m5 b)(k:a.length≤60000000000)(hM:b.length≤60000000000):∃r,m5 r∧r.length≤max a.length b.length+1∧vD r=vD a+vD b∧Ev (fun K=>rB K a b) r:=by
 by_cases h:a.length<b.length
 ·obtain⟨r,e,q,s,f⟩:=aNg hb j (by omega) hM;refine⟨r,e,by omega,by omega,f.congr fun K=>?_⟩;simp only[rB,show decide ((a.length:Int)<(b.length:Int))=true from decide_eq_true (by omega),bL]
 ·obtain⟨r,e,q,s,f⟩:=aNg j hb (by omega) k;refine⟨r,e,by omega,by omega,f.congr fun K=>?_⟩;simp only[rB,show decide ((a.length:Int)<(b.length:Int))=false from decide_eq_false (by omega),bG]
theorem dT{p:Prop}[Decidable p](h:p):decide p=true:=decide_eq_true h
theorem dF{p:Prop}[Decidable p](h:¬p):decide p=false:=decide_eq_false h
theorem nT{x y:Int}(h:x≠y):(x != y)=true:=bne_iff_ne.2 h
theorem nF{x y:Int}(h:x=y):(x != y)=false:=by subst h;exact bne_self_eq_false x
theorem qT{x y:Int}(h:x=y):(x==y)=true:=beq_iff_eq.2 h
theorem qF{x y:Int}(h:x≠y):(x==y)=false:=beq_false_of_ne h
theorem aP2{u:List Int}{k n:Nat}{v:Int}(h:k<n)(e:k<u.length):W (u.set k v) 0 n=W u 0 n+(v-u.getD k 0)*PB k:=by
 obtain⟨c,rfl⟩:=Nat.exists_eq_add_of_le h;rw[yE,yE,eI,eI,Nat.zero_add,eW e,zM (.inr (by omega)),zM (.inl (by omega))];grind
theorem aRE{n:Nat}{a:List Int}(h:n=a.length):cpL (List.replicate n 0) a=a:=by
 subst h;simp[cpL]
theorem aFb{a b x1:List Int}(I:m5 a)(hb:m5 b)(hbl:b.length≤a.length)(hv:vD b≤vD a)(X:a.length≤9000000000000)(L:(cpL x1 a).length=a.length):∀(t i:Nat) (out:List Int),i+t=a.length→out.length=a.length→Dr out 0 i→
  (∀s,i<s→out.getD s 0=a.getD s 0)→a.getD i 0-1≤out.getD i 0→out.getD i 0≤a.getD i 0→W out 0 a.length+W b 0 i=vD a→
  ∃r,r.length=a.length∧m5 r∧vD r=vD a-vD b∧∀K k,t<k→fD K a b x1 k out (i:Int)=some r
 |0,i,out,hi,G,O,hs,h1,h2,Y=>by
  have:i=a.length:=by omega
  subst this;refine⟨out,G,Dr.ok (by rwa [G]),?_,fun K k j=>?_⟩
  ·unfold vD;rw[G];rw[aBN hbl]at Y;have U:vD b=W b 0 b.length:=rfl;have V:vD a=W a 0 a.length:=rfl;omega
  ·obtain⟨J,rfl,_⟩:=aT j;simp[fD,L]
 |t+1,i,out,hi,G,O,hs,h1,h2,Y=>by
  have ha':=I i;have hb':=hb i;have U:decide ((i:Int)<((cpL x1 a).length:Int))=true:=dT (by omega);have e3:aV ((i:Int)+1)=some ((i+1:Nat):Int):=xH (m:=0) (by omega) (by omega);have key:∀o:List Int,o.length=a.length→Dr o 0 i→(∀s,i<s→o.getD s 0=a.getD s 0)→o.getD i 0=out.getD i 0-b.getD i 0→W o 0 a.length+W b 0 (i+1)=vD a→
    ∃r,r.length=a.length∧m5 r∧vD r=vD a-vD b∧∀K k,t≤k→t<k→lO K (i:Int) (fD K a b x1 k) o=some r:=by
   intro o hlo q hso hoi u;have V:=cZ (xs:=o) (i:=i) (by omega);by_cases hneg:o.getD i 0<0
   ·have e4:aV (o.getD i 0+1000000000)=some (o.getD i 0+1000000000):=tI (by omega);have hlt:i+1<a.length:=by
     rcases Nat.lt_or_ge (i+1) a.length with h|h
     ·exact h
     ·exfalso;have hia:a.length=i+1:=by omega
      have w1:=(aBE q).2;rw[hia]at u;rw[eI,Nat.zero_add]at u;have w2:vD b=W b 0 (i+1):=by rw[aBN (n:=i+1) (by omega)]
      have hp:=tY i;have:o.getD i 0*PB i≤(-1)*PB i:=Int.mul_le_mul_of_nonneg_right (by omega) (by omega);have hbn:=hb.nonneg;omega
    have e5:rX o (i:Int) (o.getD i 0+1000000000)=some (o.set i (o.getD i 0+1000000000)):=uY (by omega);have e6:bR (o.set i (o.getD i 0+1000000000)) ((i+1:Nat):Int)=some (a.getD (i+1) 0):=by
     rw[cZ (by simp;omega),gF (by omega),hso _ (by omega)]
    have ha2:=I (i+1);have e7:aV (a.getD (i+1) 0-1)=some (a.getD (i+1) 0-1):=tI (by omega);have e8:rX (o.set i (o.getD i 0+1000000000)) ((i+1:Nat):Int) (a.getD (i+1) 0-1)=some ((o.set i (o.getD i 0+1000000000)).set (i+1) (a.getD (i+1) 0-1)):=uY (by simp;omega);obtain⟨r,g1,x,y,z⟩:=aFb I hb hbl hv X L t (i+1) ((o.set i (o.getD i 0+1000000000)).set (i+1) (a.getD (i+1) 0-1)) (by omega) (by simpa using hlo)
     (fun s f=>by
      rw[gF (by omega)];exact aB6 q (by omega) (by omega) (by omega) s f)
     (fun s f=>by rw[gF (by omega),gF (by omega),hso s (by omega)])
     (by rw[eW (by simp;omega)];omega) (by rw[eW (by simp;omega)];omega)
     (by
      rw[aP2 (k:=i+1) (by omega) (by simp;omega),aP2 (k:=i) (by omega) (by omega),gF (by omega),hso (i+1) (by omega)];simp only[PB]at *;have:o.getD i 0+1000000000-o.getD i 0=1000000000:=by omega
      rw[this];have:a.getD (i+1) 0-1-a.getD (i+1) 0=-1:=by omega
      rw[this];omega)
    refine⟨r,g1,x,y,fun K k j F=>?_⟩;simp only[lO,V,e3,e4,e5,e6,e7,e8,dT hneg,bL,oB];exact z K k F
   ·obtain⟨r,g1,x,y,z⟩:=aFb I hb hbl hv X L t (i+1) o (by omega) hlo (fun s f=>by
      by_cases e:s=i
      ·subst e;rw[Nat.zero_add];omega
      ·exact q s (by omega)) (fun s f=>hso s (by omega)) (by rw[hso _ (by omega)];omega) (by rw[hso _ (by omega)];omega) u
    refine⟨r,g1,x,y,fun K k j F=>?_⟩;simp only[lO,V,e3,dF hneg,bG,oB];exact z K k F
  by_cases hib:i<b.length
  ·have f1:decide ((i:Int)<(b.length:Int))=true:=dT (by omega);have f2:=cZ (xs:=b) (i:=i) hib;have f3:=cZ (xs:=out) (i:=i) (by omega);have f4:aV (out.getD i 0-b.getD i 0)=some (out.getD i 0-b.getD i 0):=tI (by omega);have f5:rX out (i:Int) (out.getD i 0-b.getD i 0)=some (out.set i (out.getD i 0-b.getD i 0)):=uY (by omega);obtain⟨r,g1,x,y,z⟩:=key (out.set i (out.getD i 0-b.getD i 0)) (by simpa using G) (fun s f=>by rw[gF (by omega)];exact O s f) (fun s f=>by rw[gF (by omega)];exact hs s f) (eW (by omega)) (by
    rw[aP2 (by omega) (by omega),eI,Nat.zero_add];have:(out.getD i 0-b.getD i 0-out.getD i 0)=- b.getD i 0:=by omega
    rw[this,Int.neg_mul];omega)
   refine⟨r,g1,x,y,fun K k j=>?_⟩;obtain⟨J,rfl,_⟩:=aT j;simp only[fD,U,f1,f2,f3,f4,f5,bL,oB];exact z K J (by omega) (by omega)
  ·have f1:decide ((i:Int)<(b.length:Int))=false:=dF (by omega);have f2:b.getD i 0=0:=wN (by omega);obtain⟨r,g1,x,y,z⟩:=key out G O hs (by omega) (by rw[eI,Nat.zero_add,f2];omega);refine⟨r,g1,x,y,fun K k j=>?_⟩;obtain⟨J,rfl,_⟩:=aT j;simp only[fD,U,f1,bL,bG];exact z K J (by omega) (by omega)
theorem aFa{a b:List Int}(f:m5 a)(hb:m5 b)(hbl:b.length≤a.length)(hv:vD b≤vD a)(u:a.length≤60000000000):
  ∃r,r.length=a.length∧m5 r∧vD r=vD a-vD b∧Ev (fun K=>oD K a b) r:=by
 have j:mkL (a.length:Int) (0:Int)=some (List.replicate a.length 0):=aBy (by omega);have e:cpL (List.replicate a.length 0) a=a:=aRE rfl;obtain⟨r,g1,k,q,t⟩:=aFb (x1:=List.replicate a.length 0) f hb hbl hv (by omega) (by rw[e]) a.length 0 a (by omega) rfl (fun s h=>by omega) (fun s h=>rfl) (by omega) (by omega) (by simp[W]);refine⟨r,g1,k,q,⟨a.length+1,fun K x=>?_⟩⟩;have h:=t K K (by omega);simp only[Int.natCast_zero]at h;simp only[oD,j,e,oB,h,tO]
theorem aIG(x y:Int):jI x y=some (if x<y then -1 else if y<x then 1 else 0):=by
 unfold jI oL;have f:(x != x)=false:=by simp
 have j:(y != y)=false:=by simp
 simp only[f,j,oB,bG];by_cases h:x<y
 ·rw[dT h,bL,if_pos h]
 ·rw[dF h,bG,if_neg h];by_cases e:y<x
  ·rw[dT e,bL,if_pos e]
  ·rw[dF e,bG,if_neg e]
theorem aMV{u v:List Int}{n:Nat}(hu:m5 u)(hv:m5 v)(h:u.getD n 0<v.getD n 0):W u 0 (n+1)<W v 0 (n+1):=by
 rw[eI,eI,Nat.zero_add];have e:=(aBE (hu.dr 0 n)).2;have f:=(aBE (hv.dr 0 n)).1;have hp:=tY n;have:(u.getD n 0+1)*PB n≤v.getD n 0*PB n:=Int.mul_le_mul_of_nonneg_right (by omega) (by omega);rw[Int.add_mul]at this;omega
def aAq(x y:Int):Int:=if x<y then -1 else if y<x then 1 else 0
theorem aF6{u v:List Int}(hu:m5 u)(hv:m5 v)(y:u.length=v.length)(z:u.length≤9000000000000):∀(j:Nat),j≤u.length→∀K k,j<k→
  gW K u v k ((j:Int)-1)=some (if W u 0 j<W v 0 j then .ret (-1) else if W v 0 j<W u 0 j then .ret 1 else .go ())
 |0,_,K,k,f=>by
  obtain⟨x,rfl,_⟩:=aT f;simp[gW,W]
 |j+1,L,K,k,f=>by
  obtain⟨x,rfl,F⟩:=aT f;have G:((j+1:Nat):Int)-1=(j:Int):=by omega
  have q:decide (0≤(j:Int))=true:=dT (by omega);have s:=cZ (xs:=u) (i:=j) (by omega);have t:=cZ (xs:=v) (i:=j) (by omega);rw[G];rcases Int.lt_trichotomy (u.getD j 0) (v.getD j 0) with h|h|h
  ·have:=aMV hu hv h;have e:(u.getD j 0 != v.getD j 0)=true:=nT (by omega);simp only[gW,q,s,t,e,bL,oB,aIG];rw[if_pos h,if_pos this]
  ·have e:(u.getD j 0 != v.getD j 0)=false:=nF h;have I:aV ((j:Int)-1)=some ((j:Int)-1):=tI (by omega);have ih:=aF6 hu hv y z j (by omega) K x (by omega);have c1:(W u 0 (j+1)<W v 0 (j+1))↔(W u 0 j<W v 0 j):=by rw[eI,eI,Nat.zero_add,h];omega
   have J:(W v 0 (j+1)<W u 0 (j+1))↔(W v 0 j<W u 0 j):=by rw[eI,eI,Nat.zero_add,h];omega
   simp only[gW,q,s,t,e,I,bL,bG,oB,c1,J];exact ih
  ·have:=aMV hv hu h;have e:(u.getD j 0 != v.getD j 0)=true:=nT (by omega);simp only[gW,q,s,t,e,bL,oB,aIG];rw[if_neg (by omega),if_pos h,if_neg (by omega),if_pos this]
theorem aIB{u v:List Int}(hu:m5 u)(hv:m5 v)(tv:Top v)(h:u.length<v.length):vD u<vD v:=by
 have f:=hu.lt;have j:=tv.pos hv (by intro e;subst e;simp at h);have k:=aEF (a:=u.length) (b:=v.length-1) (by omega);omega
theorem aAL{u v:List Int}(hu:m5 u)(hv:m5 v)(tu:Top u)(tv:Top v)(k:u.length≤9000000000000):Ev (fun K=>gO K u v) (aAq (vD u) (vD v)):=by
 refine⟨u.length+1,fun K t=>?_⟩;by_cases h:u.length=v.length
 ·have j:((u.length:Int) != (v.length:Int))=false:=nF (by omega);have q:aV ((u.length:Int)-1)=some ((u.length:Int)-1):=tI (by omega);have s:=aF6 hu hv h k u.length (Nat.le_refl _) K K (by omega);simp only[gO,j,q,s,bG,oB];unfold aAq vD;rw[←h];by_cases e:W u 0 u.length<W v 0 u.length
  ·rw[if_pos e,if_pos e]
  ·rw[if_neg e,if_neg e];by_cases f:W v 0 u.length<W u 0 u.length
   ·rw[if_pos f,if_pos f]
   ·rw[if_neg f,if_neg f];rfl
 ·have j:((u.length:Int) != (v.length:Int))=true:=nT (by omega);simp only[gO,j,bL,oB,aIG];unfold aAq;rcases Nat.lt_or_ge u.length v.length with e|e
  ·have:=aIB hu hv tv e;rw[if_pos (by omega),if_pos this]
  ·have:=aIB hv hu tu (by omega);rw[if_neg (by omega),if_pos (by omega),if_neg (by omega),if_pos this]
theorem aGi{x y:Int}(f:0≤x)(h:x<1000000000)(e:0≤y)(j:y<1000000000):0≤x*y∧x*y≤999999998000000001:=by
 refine⟨Int.mul_nonneg f e,?_⟩;have:x*y≤999999999*999999999:=Int.mul_le_mul (by omega) (by omega) e (by omega);omega
theorem W1(u:List Int)(j:Nat):W u j 1=u.getD j 0:=by simp[W,PB]
theorem W2(u:List Int)(j:Nat):W u j 2=u.getD j 0+u.getD (j+1) 0*1000000000:=by simp[W,PB]
theorem vD0:vD []=0:=rfl
theorem vD1(a:Int):vD [a]=a:=by show W _ 0 1=a;rw[W1];rfl
theorem vD2(a b:Int):vD [a,b]=a+b*1000000000:=by show W _ 0 2=_;rw[W2];rfl
theorem aCF{u:List Int}(hu:m5 u):qU u=some (if u.length≤2 then(vD u,true) else(0,false)):=by
 unfold qU;have h:=hu 0;have j:=hu 1
 match u,hu with
 |[],_=>simp[vD0]
 |[a],_=>
  have e:=cZ (xs:=[a]) (i:=0) (by simp);simp only[Int.natCast_zero]at e;simp[e,vD1]
 |[a,b],_=>
  simp at h j;have e:=cZ (xs:=[a,b]) (i:=0) (by simp);have f:=cZ (xs:=[a,b]) (i:=1) (by simp);simp only[Int.natCast_zero,Int.natCast_one]at e f;have f1:aV (b*1000000000)=some (b*1000000000):=tI (by omega);have f2:aV (b*1000000000+a)=some (b*1000000000+a):=tI (by omega);simp[e,f,vD2,f1,f2];omega
 |a::b::c::t,_=>
  have k:(((a::b::c::t).length:Int)==0)=false:=qF (by simp;omega);have q:(((a::b::c::t).length:Int)==1)=false:=qF (by simp;omega);have s:(((a::b::c::t).length:Int)==2)=false:=qF (by simp;omega);simp only[k,q,s,bG];rw[if_neg (by simp)]
theorem aSq{x:Int}(e:0≤x)(f:x≤18446744073709551615):wu x=x:=IntWalk.u64_in x ⟨e,f⟩
theorem aTf{x y:Int}(e:0≤x)(f:0<y)(h:x≤18446744073709551615):uq x y=some (x/y):=by
 unfold uq;rw[if_neg (by omega),Int.tdiv_eq_ediv_of_nonneg e];have a:=Int.ediv_nonneg e (Int.le_of_lt f);have b:=Int.ediv_le_self y e;rw[aSq a (by omega)]
theorem aME{n:Nat}(e:n≠0)(h:n<1000000000):cD n=[(n:Int)]:=by
 rw[xO e,show n/1000000000=0 by omega,aAI,show n%1000000000=n by omega]
theorem uN(neg:Bool){n:Nat}(h:n≤18446744073709551615):fS neg (n:Int)=some (mkG neg n):=by
 unfold fS mkG;have i64:∀x:Int,0≤x→x≤9223372036854775807→IntKind.i64.wrap x=x:=fun x a b=>IntWalk.i64_in x ⟨by omega,b⟩
 by_cases e:n=0
 ·subst e;simp
 ·have k:((n:Int)==0)=false:=qF (by omega);rw[k,bG,if_neg e];by_cases q:n<1000000000
  ·rw[dT (by omega),bL,aME e q,i64 _ (by omega) (by omega)]
  ·rw[dF (by omega),bG,xO e];have f:uq (n:Int) 1000000000=some ((n:Int)/1000000000):=aTf (by omega) (by omega) (by omega);have j:chr (n:Int) 1000000000=some ((n:Int)%1000000000):=vN (by omega) (by omega);by_cases u:n<1000000000000000000
   ·rw[dT (by omega),bL];simp only[f,j,oB];rw[aME (n:=n/1000000000) (by omega) (by omega),i64 _ (by omega) (by omega),i64 _ (by omega) (by omega)];simp
   ·rw[dF (by omega),bG];have s:uq ((n:Int)/1000000000) 1000000000=some ((n:Int)/1000000000/1000000000):=aTf (by omega) (by omega) (by omega);have t:chr ((n:Int)/1000000000) 1000000000=some ((n:Int)/1000000000%1000000000):=vN (by omega) (by omega);simp only[f,j,s,t,oB];rw[xO (n:=n/1000000000) (by omega),aME (n:=n/1000000000/1000000000) (by omega) (by omega),i64 _ (by omega) (by omega),i64 _ (by omega) (by omega),i64 _ (by omega) (by omega)];simp
theorem aFZ{n:Int}(h:-9223372036854775808≤n∧n≤9223372036854775807):nR n=some (Z n):=by
 unfold nR;by_cases f:n<0
 ·rw[dT f,bL];have e:wu (-(IntKind.u64.wrap n))=((-n).toNat:Int):=by
   show IntKind.u64.wrap (-(IntKind.u64.wrap n))=_;simp only[IntKind.wrap,IntKind.bits,IntKind.signed];simp;omega
  rw[e,uN _ (by omega),oB,aMI];congr 2;omega
 ·rw[dF f,bG];have e:IntKind.u64.wrap n=((n.toNat:Nat):Int):=by rw[IntWalk.u64_in n (by omega)];omega
  rw[e,uN _ (by omega),oB,p6];congr 2;omega
theorem Z_d(x:Int):(Z x).d=cD x.natAbs:=rfl
theorem xA(x:Int):(Z x).neg=decide (x<0):=rfl
theorem t5(x:Int):(Z x).d.length=dl x.natAbs:=rfl
theorem aOE(x:Int):vL (Z x)=some x.sign:=by
 unfold vL;rw[xA,t5];by_cases h:x<0
 ·rw[dT h,bL,Int.sign_eq_neg_one_of_neg h]
 ·rw[dF h,bG];by_cases f:x=0
  ·subst f;rw[show Int.natAbs 0=0 from rfl,yV];rfl
  ·have:dl x.natAbs≠0:=by rw[Ne,xS];omega
   have e:((dl x.natAbs:Int)==0)=false:=qF (by omega);rw[e,bG,Int.sign_eq_one_of_pos (by omega)]
theorem aMb(x:Int):tD (Z x)=some (Z (-x)):=by
 unfold tD;rw[xA,t5,Z_d];unfold Z;rw[Int.natAbs_neg];by_cases h:x<0
 ·have:dl x.natAbs≠0:=by rw[Ne,xS];omega
  rw[dT h,dF (p:=-x<0) (by omega)];rfl
 ·rw[dF h];simp only[Bool.not_false,bL];congr 2;by_cases e:x=0
  ·subst e;rw[show Int.natAbs 0=0 from rfl,yV];rfl
  ·have:dl x.natAbs≠0:=by rw[Ne,xS];omega
   rw[dT (by omega),dT (by omega)]
theorem aLU{x y:Int}(z:dl x.natAbs≤50000000000)(F:dl y.natAbs≤50000000000):Ev (fun K=>oY K (Z x) (Z y)) (Z (x+y)):=by
 have dx:=cG x.natAbs;have dy:=cG y.natAbs;have vx:=fA x.natAbs;have vy:=fA y.natAbs;have tx:=qY x.natAbs;have ty:=qY y.natAbs;have lx:(cD x.natAbs).length≤50000000000:=z;have ly:(cD y.natAbs).length≤50000000000:=F;unfold oY;simp only[Z_d,xA];by_cases hs:(decide (x<0)==decide (y<0))=true
 ·simp only[hs,bL];obtain⟨r,k,j,u,e⟩:=aJY dx dy (by omega) (by omega);have f:=zK (decide (x<0)) k (by omega);refine Ev.bind e (Ev.bind f ?_);rw[wC];have q:(x<0)↔(y<0):=by simpa using hs
  have:(if decide (x<0)=true then -(((vD r).toNat:Nat):Int) else(((vD r).toNat:Nat):Int))=x+y:=by
   by_cases h:x<0
   ·rw[if_pos (by simpa using h)];omega
   ·rw[if_neg (by simpa using h)];omega
  rw[this];exact Ev.pure _
 ·simp only[Bool.not_eq_true]at hs;simp only[hs,bG];have q:¬((x<0)↔(y<0)):=by simpa using hs
  refine Ev.bind (aAL dx dy tx ty (by omega)) ?_;rw[vx,vy];unfold aAq;by_cases hlt:x.natAbs<y.natAbs
  ·have hle:(cD x.natAbs).length≤(cD y.natAbs).length:=sM (by omega);obtain⟨r,k,j,u,e⟩:=aFa dy dx hle (by omega) (by omega);have f:=zK (decide (y<0)) j (by omega);rw[if_pos (by omega)];refine Ev.congr (g:=fun K=>(oD K (cD y.natAbs) (cD x.natAbs)).bind fun s=>(fG K (decide (y<0)) s).bind fun t=>some t) ?_ (fun K=>rfl);refine Ev.bind e (Ev.bind f ?_);rw[wC];have:(if decide (y<0)=true then -(((vD r).toNat:Nat):Int) else(((vD r).toNat:Nat):Int))=x+y:=by
    by_cases h:y<0
    ·rw[if_pos (by simpa using h)];omega
    ·rw[if_neg (by simpa using h)];omega
   rw[this];exact Ev.pure _
  ·have hle:(cD y.natAbs).length≤(cD x.natAbs).length:=sM (by omega);obtain⟨r,k,j,u,e⟩:=aFa dx dy hle (by omega) (by omega);have f:=zK (decide (x<0)) j (by omega);have hc:decide ((if(x.natAbs:Int)<y.natAbs then(-1:Int) else if(y.natAbs:Int)<x.natAbs then 1 else 0)<0)=false:=by
    rw[if_neg (by omega)];split<;>rfl
   simp only[hc,bG];refine Ev.bind e (Ev.bind f ?_);rw[wC];have:(if decide (x<0)=true then -(((vD r).toNat:Nat):Int) else(((vD r).toNat:Nat):Int))=x+y:=by
    by_cases h:x<0
    ·rw[if_pos (by simpa using h)];omega
    ·rw[if_neg (by simpa using h)];omega
   rw[this];exact Ev.pure _
theorem aQx{v:Int}(h:0≤v):0≤v/1000000000∧0≤v%1000000000∧v%1000000000<1000000000∧v%1000000000+1000000000*(v/1000000000)=v:=by omega
theorem aJr{out a:List Int}{i:Nat}{c c' k v:Int}(e:i<out.length)(f:W out 0 i+c*PB i=k*W a 0 i)(hv:v+1000000000*c'=a.getD i 0*k+c):
  W (out.set i v) 0 (i+1)+c'*PB (i+1)=k*W a 0 (i+1):=by
 rw[eI,eI,Nat.zero_add,eW e,zM (.inr (by omega))];simp only[PB];grind
theorem aGE{a:List Int}{f:Int}(F:m5 a)(e:0≤f)(h:f<1000000000)(I:a.length≤9000000000000):∀(t i:Nat) (out:List Int) (c:Int),i+t=a.length→out.length=a.length+1→Dr out 0 i→0≤c→c<1000000000→W out 0 i+c*PB i=f*W a 0 i→
  ∃out' c',out'.length=a.length+1∧Dr out' 0 a.length∧0≤c'∧c'<1000000000∧W out' 0 a.length+c'*PB a.length=f*vD a∧∀K k,t<k→kY K a f k out c (i:Int)=some (out',c')
 |0,i,out,c,J,u,x,j,q,y=>by
  have:i=a.length:=by omega
  subst this;refine⟨out,c,u,x,j,q,y,fun K k z=>?_⟩;obtain⟨G,rfl,_⟩:=aT z;simp[kY]
 |t+1,i,out,c,J,u,x,j,q,y=>by
  have s:=F i;have hm:=aGi s.1 s.2 e h;obtain⟨d1,d2,d3,d4⟩:=aQx (v:=a.getD i 0*f+c) (by omega);have L:decide ((i:Int)<(a.length:Int))=true:=dT (by omega);have O:=cZ (xs:=a) (i:=i) (by omega);have U:aV ((i:Int)+1)=some ((i+1:Nat):Int):=xH (m:=0) (by omega) (by omega);have V:=cZ (xs:=out) (i:=i) (by omega);have X:∀v,rX out (i:Int) v=some (out.set i v):=fun v=>uY (by omega)
  have Y:aV (a.getD i 0*f)=some (a.getD i 0*f):=tI (by omega);have e7:aV (a.getD i 0*f+c)=some (a.getD i 0*f+c):=tI (by omega);have e8:chr (a.getD i 0*f+c) 1000000000=some ((a.getD i 0*f+c)%1000000000):=vN (by omega) (by omega);have e9:chq (a.getD i 0*f+c) 1000000000=some ((a.getD i 0*f+c)/1000000000):=xJ (by omega) (by omega) (by omega);obtain⟨o,d,h1,h2,h3,h4,h5,h6⟩:=aGE F e h I t (i+1) (out.set i ((a.getD i 0*f+c)%1000000000)) ((a.getD i 0*f+c)/1000000000) (by omega) (by simpa using u) (aB6 x (by omega) (by omega) (by omega)) (by omega) (by omega) (aJr (by omega) y (by omega));refine⟨o,d,h1,h2,h3,h4,h5,fun K k z=>?_⟩;obtain⟨G,rfl,_⟩:=aT z;simp only[kY,L,O,U,V,X,Y,e7,e8,e9,bL,oB];exact h6 K G (by omega)
theorem aGb{a:List Int}{f:Int}(s:m5 a)(h:0≤f)(j:f<1000000000)(z:a.length≤60000000000):∃r,r.length=a.length+1∧m5 r∧vD r=f*vD a∧Ev (fun K=>oR K a f) r:=by
 obtain⟨o,c,k,t,F,G,q,u⟩:=aGE s h j (by omega) a.length 0 (List.replicate (a.length+1) 0) 0 (by omega) (by simp) (aIb _ _ _) (by omega) (by omega) (by simp[W]);have x:aV ((a.length:Int)+1)=some ((a.length+1:Nat):Int):=xH (m:=0) (by omega) (by omega);have y:mkL ((a.length+1:Nat):Int) (0:Int)=some (List.replicate (a.length+1) 0):=aBy (by omega);refine⟨o.set a.length c,by simpa using k,Dr.ok ?_,?_,⟨a.length+1,fun K I=>?_⟩⟩
 ·rw[show(o.set a.length c).length=a.length+1 by simpa using k];exact aB6 t (by omega) (by omega) (by omega)
 ·unfold vD at q ⊢;rw[show(o.set a.length c).length=a.length+1 by simpa using k,eI,Nat.zero_add,eW (by omega),zM (.inr (by omega)),q]
 ·have e:=u K K (by omega);simp only[Int.natCast_zero]at e;simp only[oR,x,y,oB,e,tA,cZ (xs:=o) (i:=a.length) (by omega),uY (xs:=o) (i:=a.length) (v:=c) (by omega)]
theorem aDy(u:List Int)(j n:Nat):W u j (n+1)=u.getD j 0+1000000000*W u (j+1) n:=by
 rw[Nat.add_comm n 1,yE,W1,show PB 1=1000000000 from by decide]
theorem aHv{a:List Int}{b:Int}(O:m5 a)(f:0<b)(y:b<1000000000)(V:a.length≤9000000000000):∀(j:Nat) (q:List Int) (r:Int),j≤a.length→q.length=a.length→Dr q j (a.length-j)→0≤r→r<b→W a j (a.length-j)=b*W q j (a.length-j)+r→
  ∃h s,h.length=a.length∧m5 h∧0≤s∧s<b∧vD a=b*vD h+s∧∀K k,j<k→lN K a b k q r ((j:Int)-1)=some (h,s)
 |0,q,r,X,hq,z,t,u,x=>by
  refine⟨q,r,hq,Dr.ok (by rw[hq];simpa using z),t,u,?_,fun K k F=>?_⟩
  ·simp only[Nat.sub_zero]at x;unfold vD;rw[hq];exact x
  ·obtain⟨U,rfl,_⟩:=aT F;simp[lN]
 |j+1,q,r,X,hq,z,t,u,x=>by
  have Y:=O j;have e0:((j+1:Nat):Int)-1=(j:Int):=by omega
  have e1:decide (0≤(j:Int))=true:=dT (by omega);have e2:=cZ (xs:=a) (i:=j) (by omega);have e3:aV ((j:Int)-1)=some ((j:Int)-1):=tI (by omega);have e4:=cZ (xs:=q) (i:=j) (by omega);have e5:∀v,rX q (j:Int) v=some (q.set j v):=fun v=>uY (by omega)
  have e6:aV (r*1000000000)=some (r*1000000000):=tI (by omega);have e7:aV (r*1000000000+a.getD j 0)=some (r*1000000000+a.getD j 0):=tI (by omega);have e8:chr (r*1000000000+a.getD j 0) b=some ((r*1000000000+a.getD j 0)%b):=vN (by omega) f;have e9:chq (r*1000000000+a.getD j 0) b=some ((r*1000000000+a.getD j 0)/b):=xJ (by omega) f (by omega);have G:0≤(r*1000000000+a.getD j 0)/b:=Int.ediv_nonneg (by omega) (by omega);have I:(r*1000000000+a.getD j 0)/b<1000000000:=Int.ediv_lt_of_lt_mul f (by
   have:(r+1)*1000000000≤b*1000000000:=Int.mul_le_mul_of_nonneg_right (by omega) (by omega);rw[Int.mul_comm 1000000000 b];omega)
  have J:=Int.emod_nonneg (r*1000000000+a.getD j 0) (show b≠0 by omega);have L:=Int.emod_lt_of_pos (r*1000000000+a.getD j 0) f;have hdm:=Int.mul_ediv_add_emod (r*1000000000+a.getD j 0) b;have es:a.length-j=(a.length-(j+1))+1:=by omega
  obtain⟨h,s,h1,h2,h3,h4,h5,h6⟩:=aHv O f y V j (q.set j ((r*1000000000+a.getD j 0)/b)) ((r*1000000000+a.getD j 0)%b) (by omega) (by simpa using hq)
   (fun i hi=>by
    by_cases e:i=0
    ·subst e;rw[Nat.add_zero,eW (by omega)];exact⟨G,I⟩
    ·rw[gF (by omega)];have:=z (i-1) (by omega)
     rwa [show j+1+(i-1)=j+i by omega]at this) J L (by
    rw[es,aDy,aDy,eW (by omega),zM (.inl (by omega)),x];grind)
  refine⟨h,s,h1,h2,h3,h4,h5,fun K k F=>?_⟩;obtain⟨U,rfl,_⟩:=aT F;rw[e0];simp only[lN,e1,e2,e3,e4,e5,e6,e7,e8,e9,bL,oB];exact h6 K U (by omega)
theorem aHX{a:List Int}{b:Int}(t:m5 a)(e:0<b)(f:b<1000000000)(G:a.length≤60000000000):∃q r,q.length=a.length∧m5 q∧vD q=vD a/b∧r=vD a%b∧Ev (fun K=>sF K a b) (q,r):=by
 obtain⟨q,r,u,x,j,k,s,y⟩:=aHv t e f (by omega) a.length (List.replicate a.length 0) 0 (Nat.le_refl _) (by simp) (aIb _ _ _) (by omega) e (by simp[W]);have z:mkL (a.length:Int) (0:Int)=some (List.replicate a.length 0):=aBy (by omega);have F:aV ((a.length:Int)-1)=some ((a.length:Int)-1):=tI (by omega);refine⟨q,r,u,x,?_,?_,⟨a.length+1,fun K I=>?_⟩⟩
 ·rw[s,Int.add_comm,Int.add_mul_ediv_left _ _ (by omega),Int.ediv_eq_zero_of_lt j k,Int.zero_add]
 ·rw[s,Int.add_comm,Int.add_mul_emod_self_left,Int.emod_eq_of_lt j k]
 ·have h:=y K K (by omega);simp only[sF,z,F,oB,h,tK]
theorem aQv{out e b:List Int}{i k:Nat}{c c' f v:Int}(h:i+k<out.length)(j:W out i k+c*PB k=W e i k+f*W b 0 k)(hv:v+1000000000*c'=e.getD (i+k) 0+f*b.getD k 0+c):
  W (out.set (i+k) v) i (k+1)+c'*PB (k+1)=W e i (k+1)+f*W b 0 (k+1):=by
 rw[eI,eI,eI,eW h,zM (.inr (by omega)),Nat.zero_add];simp only[PB];grind
structure aIH (o0 b:List Int) (i:Nat) (f:Int) (out:List Int) (c:Int) (k:Nat):Prop where
 len:out.length=o0.length
 ok:m5 out
 c0:0≤c
 c1:c<1000000000
 same:∀s,s<i∨i+k≤s→out.getD s 0=o0.getD s 0
 val:W out i k+c*PB k=W o0 i k+f*W b 0 k
theorem m5.set{u:List Int}{i:Nat}{v:Int}(h:m5 u)(e:0≤v)(f:v<1000000000):m5 (u.set i v):=fun t=>by
 rw[aA8];split
 ·exact⟨e,f⟩
 ·exact h t
theorem aIH.step{j b out:List Int}{i k:Nat}{f c:Int}(h:aIH j b i f out c k)(x:i+k<j.length)(q:0≤f)(t:f<1000000000)(hb:m5 b):
  0≤out.getD (i+k) 0+f*b.getD k 0+c∧out.getD (i+k) 0+f*b.getD k 0+c≤999999999999999999∧0≤f*b.getD k 0∧f*b.getD k 0≤999999998000000001∧0≤out.getD (i+k) 0∧out.getD (i+k) 0<1000000000∧
  aIH j b i f (out.set (i+k) ((out.getD (i+k) 0+f*b.getD k 0+c)%1000000000)) ((out.getD (i+k) 0+f*b.getD k 0+c)/1000000000) (k+1):=by
 have e:=hb k;have hm:=aGi q t e.1 e.2;have u:=h.ok (i+k);have c0:=h.c0;have c1:=h.c1;obtain⟨d1,d2,d3,d4⟩:=aQx (v:=out.getD (i+k) 0+f*b.getD k 0+c) (by omega);have he:=h.same (i+k) (.inr (Nat.le_refl _));refine⟨by omega,by omega,hm.1,hm.2,u.1,u.2,by simpa using h.len,h.ok.set d2 d3,d1,by omega,fun s hs=>?_,by exact aQv (by have:=h.len;omega) h.val (by omega)⟩;rw[gF (by omega)];exact h.same s (by omega)
theorem aLX{q:List Int}{y:aC}{i:Nat}{f:Int}(hb:m5 y.d)(h:0≤f)(j:f<1000000000)(G:i+y.d.length≤q.length)(I:q.length≤9000000000000):∀(t k:Nat) (out:List Int) (c:Int),k+t=y.d.length→aIH q y.d i f out c k→
  ∃out' c',aIH q y.d i f out' c' y.d.length∧∀K n,t<n→jC K y (i:Int) f n out c (k:Int)=some (out',c')
 |0,k,out,c,J,e=>by
  have:k=y.d.length:=by omega
  subst this;refine⟨out,c,e,fun K n s=>?_⟩;obtain⟨F,rfl,_⟩:=aT s;simp[jC]
 |t+1,k,out,c,J,e=>by
  obtain⟨g1,g2,g3,g4,g5,g6,L⟩:=e.step (by omega) h j hb;have c0:=e.c0;have c1:=e.c1;have hlo:=e.len;generalize hv:out.getD (i+k) 0+f*y.d.getD k 0+c=v at *;have O:decide ((k:Int)<(y.d.length:Int))=true:=dT (by omega);have U:=cZ (xs:=y.d) (i:=k) (by omega);have V:aV ((k:Int)+1)=some ((k+1:Nat):Int):=xH (m:=0) (by omega) (by omega);have X:aV ((i:Int)+(k:Int))=some ((i+k:Nat):Int):=xH (m:=0) (by omega) (by omega);have Y:=cZ (xs:=out) (i:=i+k) (by omega);have e6:aV (f*y.d.getD k 0)=some (f*y.d.getD k 0):=tI (by omega);have e7:aV (out.getD (i+k) 0+f*y.d.getD k 0)=some (out.getD (i+k) 0+f*y.d.getD k 0):=tI (by omega);have e8:aV (out.getD (i+k) 0+f*y.d.getD k 0+c)=some v:=by rw[hv];exact tI (by omega)
  have e9:chq v 1000000000=some (v/1000000000):=xJ (by omega) (by omega) (by omega);have u:aV (v/1000000000*1000000000)=some (v/1000000000*1000000000):=tI (by omega);have x:aV (v-v/1000000000*1000000000)=some (v%1000000000):=by
   rw[show v-v/1000000000*1000000000=v%1000000000 by omega];exact tI (by omega)
  have z:rX out ((i+k:Nat):Int) (v%1000000000)=some (out.set (i+k) (v%1000000000)):=uY (by omega);obtain⟨o,d,h1,h2⟩:=aLX hb h j G I t (k+1) _ _ (by omega) L;refine⟨o,d,h1,fun K n s=>?_⟩;obtain⟨F,rfl,_⟩:=aT s;simp only[jC,O,U,V,X,Y,e6,e7,e8,e9,u,x,z,bL,oB];exact h2 K F (by omega)
structure aFl (a b out:List Int) (i:Nat):Prop where
 len:out.length=a.length+b.length
 ok:m5 out
 zero:∀s,i+b.length≤s→out.getD s 0=0
 val:W out 0 (i+b.length)=W a 0 i*vD b
theorem aFl.start(a b:List Int):aFl a b (List.replicate (a.length+b.length) 0) 0 where
 len:=by simp
 ok:=fun i=>by simp only[List.getD_eq_getElem?_getD,List.getElem?_replicate];split<;>simp
 zero:=fun s _=>by simp only[List.getD_eq_getElem?_getD,List.getElem?_replicate];split<;>simp
 val:=by
  rw[aFQ]
  ·simp[W]
  ·intro i _;simp only[List.getD_eq_getElem?_getD,List.getElem?_replicate];split<;>simp
theorem aFl.row{a b out:List Int}{i:Nat}(h:aFl a b out i):aIH out b i (a.getD i 0) out 0 0 where
 len:=rfl
 ok:=h.ok
 c0:=Int.le_refl _
 c1:=by decide
 same:=fun _ _=>rfl
 val:=by simp[W]
theorem aFl.next{a b out out':List Int}{i:Nat}{c:Int}(h:aFl a b out i)(j:i<a.length)(hr:aIH out b i (a.getD i 0) out' c b.length):aFl a b (out'.set (i+b.length) c) (i+1) where
 len:=by simpa using hr.len.trans h.len
 ok:=hr.ok.set hr.c0 hr.c1
 zero:=fun s hs=>by
  rw[gF (by omega),hr.same s (by omega)];exact h.zero s (by omega)
 val:=by
  have hlen:=hr.len.trans h.len;rw[show i+1+b.length=(i+b.length)+1 by omega,eI,Nat.zero_add,eW (by omega),zM (.inr (by omega)),yE,eI,Nat.zero_add];have k:=hr.val;have e:=h.val;rw[yE,Nat.zero_add]at e;have f:W out' 0 i=W out 0 i:=aEt fun s hs=>by
   rw[Nat.zero_add];exact hr.same s (.inl hs)
  rw[f,aCk];unfold vD at *;grind
theorem aMP{x y:aC}(j:m5 x.d)(hb:m5 y.d)(u:x.d.length+y.d.length≤9000000000000):∀(t i:Nat) (out:List Int),i+t=x.d.length→aFl x.d y.d out i→
  ∃out',aFl x.d y.d out' x.d.length∧xF (fun K k=>gV K x y k out (i:Int)) out'
 |0,i,out,z,e=>by
  have:i=x.d.length:=by omega
  subst this;refine⟨out,e,xF.of 1 fun K n F=>?_⟩;obtain⟨n',rfl,_⟩:=aT (n:=0) F;simp[gV]
 |t+1,i,out,z,e=>by
  have h:=j i;have hlo:=e.len;obtain⟨o,c,q,G⟩:=aLX hb h.1 h.2 (by omega) (by omega) y.d.length 0 out 0 (by omega) e.row;have s:=q.len;obtain⟨r,I,J⟩:=aMP j hb u t (i+1) _ (by omega) (e.next (by omega) q);refine⟨r,I,xF.step ?_⟩;have L:decide ((i:Int)<(x.d.length:Int))=true:=dT (by omega);have O:=cZ (xs:=x.d) (i:=i) (by omega);have U:aV ((i:Int)+1)=some ((i+1:Nat):Int):=xH (m:=0) (by omega) (by omega);have V:aV ((i:Int)+(y.d.length:Int))=some ((i+y.d.length:Nat):Int):=xH (m:=0) (by omega) (by omega);have X:=cZ (xs:=o) (i:=i+y.d.length) (by omega);have Y:rX o ((i+y.d.length:Nat):Int) c=some (o.set (i+y.d.length) c):=uY (by omega);simp only[gV,L,O,bL,oB];refine xF.bind (x:=(o,c)) (f:=fun K=>jC K y (i:Int) (x.d.getD i 0) K out 0 0) ⟨y.d.length+1,fun K hK=>G K K (by omega)⟩ ?_;simp only[sH,U,V,X,Y,oB];exact J
theorem aIq(x y:Int):(if(decide (x<0) != decide (y<0))=true then -((x.natAbs:Int)*y.natAbs) else(x.natAbs:Int)*y.natAbs)=x*y:=by
 by_cases e:x<0<;>by_cases f:y<0
 ·rw[dT e,dT f,show(x.natAbs:Int)=-x by omega,show(y.natAbs:Int)=-y by omega];simp[Int.neg_mul_neg]
 ·rw[dT e,dF f,show(x.natAbs:Int)=-x by omega,show(y.natAbs:Int)=y by omega];simp[Int.neg_mul]
 ·rw[dF e,dT f,show(x.natAbs:Int)=x by omega,show(y.natAbs:Int)=-y by omega];simp[Int.mul_neg]
 ·rw[dF e,dF f,show(x.natAbs:Int)=x by omega,show(y.natAbs:Int)=y by omega];simp
theorem aOu{x y:Int}(z:dl x.natAbs+dl y.natAbs≤60000000000):Ev (fun K=>(aV (((Z x).d.length:Int)+((Z y).d.length:Int))).bind fun f=>(mkL f 0).bind fun h=>(gV K (Z x) (Z y) K h 0).bind fun j=>tB K (Z x) (Z y) j) (Z (x*y)):=by
 have dx:=cG x.natAbs;have dy:=cG y.natAbs;have lx:(cD x.natAbs).length=dl x.natAbs:=rfl;have ly:(cD y.natAbs).length=dl y.natAbs:=rfl;obtain⟨r,e,k⟩:=aMP (x:=Z x) (y:=Z y) dx dy (by rw[t5,t5];omega) (Z x).d.length 0 _ (by omega) (aFl.start _ _);have q:aV (((Z x).d.length:Int)+((Z y).d.length:Int))=some (((Z x).d.length+(Z y).d.length:Nat):Int):=xH (m:=0) (by omega) (by rw[t5,t5];omega);have s:mkL (((Z x).d.length+(Z y).d.length:Nat):Int) (0:Int)=some (List.replicate ((Z x).d.length+(Z y).d.length) 0):=aBy (by rw[t5,t5];omega);simp only[q,s,oB];refine Ev.bind k.ev ?_;have t:=zK ((Z x).neg != (Z y).neg) e.ok (by rw[e.len,t5,t5];omega);unfold tB;refine Ev.bind t ?_;have hv:vD r=x.natAbs*y.natAbs:=by
  have:=e.val;rw[←e.len]at this;have vx:=fA x.natAbs;have vy:=fA y.natAbs;unfold vD at *;rw[this];show W (cD x.natAbs) 0 (cD x.natAbs).length*W (cD y.natAbs) 0 (cD y.natAbs).length=_;rw[vx,vy]
 rw[wC,xA,xA,hv];have:(if(decide (x<0) != decide (y<0))=true then -((((x.natAbs:Int)*y.natAbs).toNat:Nat):Int) else((((x.natAbs:Int)*y.natAbs).toNat:Nat):Int))=x*y:=by
  have u:0≤(x.natAbs:Int)*y.natAbs:=Int.mul_nonneg (by omega) (by omega);rw[Int.toNat_of_nonneg u];exact aIq x y
 rw[this];exact Ev.pure _
theorem aHB(K:Nat)(y:aC)(x v:Int):∀(k:Nat) (s:List Int) (c i:Int),oW K y x v k s c i=jC K y x v k s c i
 |0,_,_,_=>rfl
 |k+1,s,c,i=>by simp only[oW,jC,aHB K y x v k]
theorem aHo(K:Nat)(x y:aC):∀(k:Nat) (s:List Int) (i:Int),mL K x y k s i=gV K x y k s i
 |0,_,_=>rfl
 |k+1,s,i=>by simp only[mL,gV,t6,sH,aHB,aHo K x y k]
theorem aB9{n:Nat}(h:(cD n).length=1):(cD n).getD 0 0=n∧n<1000000000:=by
 have e:=fA n;unfold vD at e;rw[h,W1]at e;have:=cG n 0;omega
theorem aAF{x y:Int}(q:dl x.natAbs+dl y.natAbs≤60000000000):Ev (fun K=>cA K (Z x) (Z y)) (Z (x*y)):=by
 have hc:=aOu q;unfold cA;by_cases s:(Z x).d.length=1
 ·have j:(((Z x).d.length:Int)==1)=true:=qT (by omega);simp only[j,bL];by_cases t:(Z y).d.length=1
  ·have e:(((Z y).d.length:Int)==1)=true:=qT (by omega);obtain⟨a1,a2⟩:=aB9 s;obtain⟨u,b2⟩:=aB9 t;have f:=cZ (xs:=(Z x).d) (i:=0) (by omega);have h:=cZ (xs:=(Z y).d) (i:=0) (by omega);simp only[Int.natCast_zero]at f h;rw[Z_d]at f h;rw[a1]at f;rw[u]at h;have hb:=aGi (x:=(x.natAbs:Int)) (y:=(y.natAbs:Int)) (by omega) (by omega) (by omega) (by omega);have z:wu (IntKind.u64.wrap (x.natAbs:Int)*IntKind.u64.wrap (y.natAbs:Int))=((x.natAbs*y.natAbs:Nat):Int):=by
    rw[IntWalk.u64_in _ ⟨by omega,by omega⟩,IntWalk.u64_in _ ⟨by omega,by omega⟩,aSq hb.1 (by omega),Int.natCast_mul]
   have k:x.natAbs*y.natAbs≤18446744073709551615:=by
    have:((x.natAbs*y.natAbs:Nat):Int)=x.natAbs*y.natAbs:=Int.natCast_mul _ _;omega
   refine Ev.of fun K=>?_
   rw[Z_d]at e;simp only[e,bL,f,h,Z_d,xA,oB,z,uN _ k];rw[wC];congr 2;rw[Int.natCast_mul];exact aIq x y
  ·have e:(((Z y).d.length:Int)==1)=false:=qF (by omega);simp only[e,bG];exact hc
 ·have j:(((Z x).d.length:Int)==1)=false:=qF (by omega);simp only[j,bG,aHo];exact hc
/-- The guess is too great. -/
theorem aJl{P V X Y w Q g:Int}(t:0<P)(e:X*P≤V)(j:w<(Y+1)*P)(k:Q*V≤w)(q:0≤g)(h:Y+1≤g*X)(s:0≤V):Q<g:=by
 rcases Int.lt_or_le Q g with f|f
 ·exact f
 ·exfalso;have a:g*V≤Q*V:=Int.mul_le_mul_of_nonneg_right f s;have b:(Y+1)*P≤g*X*P:=Int.mul_le_mul_of_nonneg_right h (by omega);have c:g*(X*P)≤g*V:=Int.mul_le_mul_of_nonneg_left e q;rw[Int.mul_assoc]at b;omega
theorem aJv{P V X Y w Q g:Int}(t:0<P)(j:V<(X+1)*P)(k:Y*P≤w)(q:w<(Q+1)*V)(u:g≤X)(h:g*X≤Y)(x:0≤Q)(s:0≤V):g≤Q+1:=by
 rcases Int.lt_or_le (Q+1) g with f|f
 ·exfalso;have a:(Q+1)*V≤(g-1)*V:=Int.mul_le_mul_of_nonneg_right (by omega) s;have b:(g-1)*V≤(g-1)*((X+1)*P):=Int.mul_le_mul_of_nonneg_left (by omega) (by omega);have c:g*X*P≤Y*P:=Int.mul_le_mul_of_nonneg_right h (by omega);have d:(g-1)*((X+1)*P)=g*X*P+(g-X-1)*P:=by grind
  have e:(g-X-1)*P≤(-1)*P:=Int.mul_le_mul_of_nonneg_right (by omega) (by omega);omega
 ·exact f
theorem vU{a b c:Int}(hc:0<c)(h:a*c<b*c):a<b:=Int.lt_of_mul_lt_mul_right h (by omega)
theorem aHl{b v u:List Int}{N j:Nat}{P V w Q v1 v2 e top:Int}(hb:b.length=N+2)(hb2:b.length≤9000000000000)(hvl:v.length=N+2)(huj:j+N<u.length)(hj:j≤9000000000000)(e1:v.getD (N+1) 0=v1)(e2:v.getD N 0=v2)(e3:u.getD (j+N) 0=e)
  (I:0<P)(hV:0≤V)(hv1:500000000≤v1)(J:v1<1000000000)(s:0≤v2)(f:v2<1000000000)(hu2:0≤e)(L:e<1000000000)
  (O:(v1*1000000000+v2)*P≤V)(t:V<(v1*1000000000+v2+1)*P)(z:(top*1000000000+e)*P≤w)(U:w<(top*1000000000+e+1)*P)(hwV:w<V*1000000000)(hQ:0≤Q)(X:Q*V≤w)(F:w<(Q+1)*V):
  ∀(n:Nat) (g r:Int),0≤r→r<1000000000→1000000000≤r+n*500000000→g*v1+r=top→Q≤g→g≤1000000001→
  ∃g',(Q≤g'∧g'≤Q+1∧g'<1000000000)∧∀K k,n<k→fC K b v u (j:Int) k g r=some g'
 |0,g,r,h0,h1,h2,_,_,_=>by omega
 |n+1,g,r,h0,h1,h2,h3,h4,h5=>by
  have QB:Q<1000000000:=by
   have G:0<V:=by
    rcases Int.lt_or_le 0 V with h|h
    ·exact h
    ·have:V=0:=by omega
     subst this;omega
   exact vU G (by rw[Int.mul_comm 1000000000 V];omega)
  have htop:top≤v1*1000000000+v2:=by
   have t1:(top*1000000000)*P≤(top*1000000000+e)*P:=Int.mul_le_mul_of_nonneg_right (by omega) (by omega);have t2:(top*1000000000)*P<((v1*1000000000+v2+1)*1000000000)*P:=by
    have:(v1*1000000000+v2+1)*1000000000*P=(v1*1000000000+v2+1)*P*1000000000:=by grind
    rw[this];omega
   have t3:=vU I t2;omega
  have c0:aV ((b.length:Int)-1)=some ((N+1:Nat):Int):=xH (m:=0) (by omega) (by omega);have c1:=cZ (xs:=v) (i:=N+1) (by omega);rw[e1]at c1;have c2:aV ((b.length:Int)-2)=some ((N:Nat):Int):=xH (m:=0) (by omega) (by omega);have c3:=cZ (xs:=v) (i:=N) (by omega);rw[e2]at c3;have c4:aV ((j:Int)+(b.length:Int))=some ((j+N+2:Nat):Int):=xH (m:=0) (by omega) (by omega);have c5:aV (((j+N+2:Nat):Int)-2)=some ((j+N:Nat):Int):=xH (m:=0) (by omega) (by omega);have c6:=cZ (xs:=u) (i:=j+N) huj;rw[e3]at c6;have c7:aV (r+v1)=some (r+v1):=tI (by omega);have c8:aV (g-1)=some (g-1):=tI (by omega);have less:Q<g→∃g',(Q≤g'∧g'≤Q+1∧g'<1000000000)∧∀K k,n<k→(bif decide (1000000000≤r+v1) then some (g-1) else fC K b v u (j:Int) k (g-1) (r+v1))=some g':=by
   intro hlt;have h3':(g-1)*v1+(r+v1)=top:=by rw[Int.sub_mul];omega
   by_cases hr:1000000000≤r+v1
   ·have hg1:(g-1)*v1<1000000000*v1:=by omega
    have hg2:g-1<1000000000:=vU (by omega) hg1;have hg3:(g-1)*(v1*1000000000+v2)≤top*1000000000+e:=by
     have m1:(g-1)*v2≤999999999*999999999:=Int.mul_le_mul (by omega) (by omega) s (by omega);have m2:(g-1)*(v1*1000000000+v2)=((g-1)*v1)*1000000000+(g-1)*v2:=by grind
     rw[m2];omega
    refine⟨g-1,⟨by omega,aJv I t z F (by omega) hg3 hQ hV,hg2⟩,fun K k q=>?_⟩;rw[dT hr,bL]
   ·obtain⟨g',i1,i2⟩:=aHl hb hb2 hvl huj hj e1 e2 e3 I hV hv1 J s f hu2 L O t z U hwV hQ X F n (g-1) (r+v1) (by omega) (by omega) (by omega) h3' (by omega) (by omega);refine⟨g',i1,fun K k q=>?_⟩;rw[dF hr,bG];exact i2 K k q
  by_cases hg:1000000000≤g
  ·obtain⟨g',i1,i2⟩:=less (by omega);refine⟨g',i1,fun K k q=>?_⟩;obtain⟨k',rfl,_⟩:=aT q;simp only[fC,dT hg,bL,oB,c0,c1,c7,c8];exact i2 K k' (by omega)
  ·have m:=aGi (x:=g) (y:=v2) (by omega) (by omega) s f;have c9:aV (g*v2)=some (g*v2):=tI (by omega);have Y:aV (r*1000000000)=some (r*1000000000):=tI (by omega);have c11:aV (r*1000000000+e)=some (r*1000000000+e):=tI (by omega);have m2:g*(v1*1000000000+v2)=(g*v1)*1000000000+g*v2:=by grind
   by_cases hc:r*1000000000+e<g*v2
   ·obtain⟨g',i1,i2⟩:=less (aJl I O U X (by omega) (by rw[m2];omega) hV);refine⟨g',i1,fun K k q=>?_⟩;obtain⟨k',rfl,_⟩:=aT q;simp only[fC,dF hg,bG,bL,oB,c0,c1,c2,c3,c4,c5,c6,c7,c8,c9,Y,c11,dT hc];exact i2 K k' (by omega)
   ·refine⟨g,⟨h4,aJv I t z F (by omega) (by rw[m2];omega) hQ hV,by omega⟩,fun K k q=>?_⟩;obtain⟨k',rfl,_⟩:=aT q;simp only[fC,dF hg,bG,oB,c2,c3,c4,c5,c6,c9,Y,c11,dF hc]
structure aPY (u0 v:List Int) (j:Nat) (g:Int) (u:List Int) (c:Int) (i:Nat):Prop where
 len:u.length=u0.length
 ok:m5 u
 c0:0≤c
 c1:c<1000000000
 same:∀s,s<j∨j+i≤s→u.getD s 0=u0.getD s 0
 val:W u j i-c*PB i=W u0 j i-g*W v 0 i
theorem aPY.step{u0 v u:List Int}{j i:Nat}{g c x c':Int}(h:aPY u0 v j g u c i)(t:j+i<u0.length)(e:0≤x)(f:x<1000000000)(k:0≤c')(q:c'<1000000000)(hv:x=u.getD (j+i) 0-g*v.getD i 0-c+c'*1000000000):aPY u0 v j g (u.set (j+i) x) c' (i+1) where
 len:=by simpa using h.len
 ok:=h.ok.set e f
 c0:=k
 c1:=q
 same:=fun s hs=>by rw[gF (by omega)];exact h.same s (by omega)
 val:=by
  have hlen:=h.len;have hs:=h.same (j+i) (.inr (Nat.le_refl _));have hval:=h.val;rw[eI,eI,eI,eW (by omega),zM (.inr (by omega)),Nat.zero_add];simp only[PB];rw[hs]at hv;grind
theorem aEW{b v u0:List Int}{j:Nat}{g:Int}(f:0≤g)(h:g<1000000000)(hv:m5 v)(hvl:b.length≤v.length)(I:j+b.length≤u0.length)(J:u0.length≤9000000000000):∀(t i:Nat) (u:List Int) (c:Int),i+t=b.length→aPY u0 v j g u c i→
  ∃q c',aPY u0 v j g q c' b.length∧∀K k,t<k→gI K b v (j:Int) g k u c (i:Int)=some (q,c')
 |0,i,u,c,hi,e=>by
  have:i=b.length:=by omega
  subst this;refine⟨u,c,e,fun K k s=>?_⟩;obtain⟨y,rfl,_⟩:=aT s;simp[gI]
 |t+1,i,u,c,hi,e=>by
  have hlen:=e.len;have c0:=e.c0;have c1:=e.c1;have hu:=e.ok (j+i);have hvi:=hv i;have m:=aGi f h hvi.1 hvi.2;have L:decide ((i:Int)<(b.length:Int))=true:=dT (by omega);have O:aV ((i:Int)+(j:Int))=some ((j+i:Nat):Int):=xH (m:=0) (by omega) (by omega);have U:=cZ (xs:=u) (i:=j+i) (by omega);have V:=cZ (xs:=v) (i:=i) (by omega);have X:aV (g*v.getD i 0)=some (g*v.getD i 0):=tI (by omega);have Y:aV (u.getD (j+i) 0-g*v.getD i 0)=some (u.getD (j+i) 0-g*v.getD i 0):=tI (by omega);have e8:aV ((i:Int)+1)=some ((i+1:Nat):Int):=xH (m:=0) (by omega) (by omega);have e9:∀x,rX u ((j+i:Nat):Int) x=some (u.set (j+i) x):=fun x=>uY (by omega)
  obtain⟨z,hz⟩:∃z,u.getD (j+i) 0-g*v.getD i 0-c=z:=⟨_,rfl⟩;have e7:aV (u.getD (j+i) 0-g*v.getD i 0-c)=some z:=by rw[hz];exact tI (by omega)
  by_cases hneg:z<0
  ·have f1:aV (-z)=some (-z):=tI (by omega);have f2:aV (-z+1000000000)=some (-z+1000000000):=tI (by omega);have f3:aV (-z+1000000000-1)=some (-z+1000000000-1):=tI (by omega);have f4:chq (-z+1000000000-1) 1000000000=some ((-z+1000000000-1)/1000000000):=xJ (by omega) (by omega) (by omega);have f5:aV ((-z+1000000000-1)/1000000000*1000000000)=some ((-z+1000000000-1)/1000000000*1000000000):=tI (by omega);have f6:aV (z+(-z+1000000000-1)/1000000000*1000000000)=some (z+(-z+1000000000-1)/1000000000*1000000000):=tI (by omega);obtain⟨q,c',F,G⟩:=aEW f h hv hvl I J t (i+1) _ _ (by omega) (e.step (x:=z+(-z+1000000000-1)/1000000000*1000000000) (c':=(-z+1000000000-1)/1000000000) (by omega) (by omega) (by omega) (by omega) (by omega) (by omega));refine⟨q,c',F,fun K k s=>?_⟩;obtain⟨y,rfl,_⟩:=aT s;simp only[gI,L,O,U,V,X,Y,e7,e8,e9,f1,f2,f3,f4,f5,f6,dT hneg,bL,oB];exact G K y (by omega)
  ·obtain⟨q,c',F,G⟩:=aEW f h hv hvl I J t (i+1) _ _ (by omega) (e.step (x:=z) (c':=0) (by omega) (by omega) (by omega) (by omega) (by omega) (by omega));refine⟨q,c',F,fun K k s=>?_⟩;obtain⟨y,rfl,_⟩:=aT s;simp only[gI,L,O,U,V,X,Y,e7,e8,e9,dF hneg,bL,bG,oB];exact G K y (by omega)
structure aJZ (u0 v:List Int) (j:Nat) (u:List Int) (c:Int) (i:Nat):Prop where
 len:u.length=u0.length
 ok:∀s,s<j+v.length→0≤u.getD s 0∧u.getD s 0<1000000000
 c0:0≤c
 c1:c≤1
 same:∀s,s<j∨j+i≤s→u.getD s 0=u0.getD s 0
 val:W u j i+c*PB i=W u0 j i+W v 0 i
theorem aJZ.step{u0 v u:List Int}{j i:Nat}{c x c':Int}(h:aJZ u0 v j u c i)(t:j+i<u0.length)(e:0≤x)(f:x<1000000000)(k:0≤c')(q:c'≤1)(hv:x+c'*1000000000=u.getD (j+i) 0+v.getD i 0+c):aJZ u0 v j (u.set (j+i) x) c' (i+1) where
 len:=by simpa using h.len
 ok:=fun s hs=>by
  rw[aA8];split
  ·exact⟨e,f⟩
  ·exact h.ok s hs
 c0:=k
 c1:=q
 same:=fun s hs=>by rw[gF (by omega)];exact h.same s (by omega)
 val:=by
  have hlen:=h.len;have hs:=h.same (j+i) (.inr (Nat.le_refl _));have hval:=h.val;rw[eI,eI,eI,eW (by omega),zM (.inr (by omega)),Nat.zero_add];simp only[PB];rw[hs]at hv;grind
theorem aHz{b v u0:List Int}{j:Nat}(hv:m5 v)(hvl:b.length=v.length)(y:j+b.length≤u0.length)(z:u0.length≤9000000000000):∀(t i:Nat) (u:List Int) (c:Int),i+t=b.length→aJZ u0 v j u c i→
  ∃f c',aJZ u0 v j f c' b.length∧∀K k,t<k→kC K b v (j:Int) k u c (i:Int)=some (f,c')
 |0,i,u,c,F,e=>by
  have:i=b.length:=by omega
  subst this;refine⟨u,c,e,fun K k h=>?_⟩;obtain⟨s,rfl,_⟩:=aT h;simp[kC]
 |t+1,i,u,c,F,e=>by
  have hlen:=e.len;have c0:=e.c0;have c1:=e.c1;have hu:=e.ok (j+i) (by omega);have hvi:=hv i;have G:decide ((i:Int)<(b.length:Int))=true:=dT (by omega);have I:aV ((i:Int)+(j:Int))=some ((j+i:Nat):Int):=xH (m:=0) (by omega) (by omega);have J:=cZ (xs:=u) (i:=j+i) (by omega);have L:=cZ (xs:=v) (i:=i) (by omega);have O:aV (u.getD (j+i) 0+v.getD i 0)=some (u.getD (j+i) 0+v.getD i 0):=tI (by omega);have U:aV (u.getD (j+i) 0+v.getD i 0+c)=some (u.getD (j+i) 0+v.getD i 0+c):=tI (by omega);have V:chr (u.getD (j+i) 0+v.getD i 0+c) 1000000000=some ((u.getD (j+i) 0+v.getD i 0+c)%1000000000):=vN (by omega) (by omega);have X:chq (u.getD (j+i) 0+v.getD i 0+c) 1000000000=some ((u.getD (j+i) 0+v.getD i 0+c)/1000000000):=xJ (by omega) (by omega) (by omega);have Y:aV ((i:Int)+1)=some ((i+1:Nat):Int):=xH (m:=0) (by omega) (by omega);have q:∀x,rX u ((j+i:Nat):Int) x=some (u.set (j+i) x):=fun x=>uY (by omega)
  obtain⟨f,c',h1,h2⟩:=aHz hv hvl y z t (i+1) _ _ (by omega) (e.step (x:=(u.getD (j+i) 0+v.getD i 0+c)%1000000000) (c':=(u.getD (j+i) 0+v.getD i 0+c)/1000000000) (by omega) (by omega) (by omega) (by omega) (by omega) (by omega));refine⟨f,c',h1,fun K k h=>?_⟩;obtain⟨s,rfl,_⟩:=aT h;simp only[kC,G,I,J,L,O,U,V,Y,X,q,bL,oB];exact h2 K s (by omega)
structure aHH (m n:Nat) (v:List Int) (S:Int) (q u:List Int) (J:Nat):Prop where
 ql:q.length=m-n+1
 ul:u.length=m+1
 uok:m5 u
 qok:∀s,J≤s→0≤q.getD s 0∧q.getD s 0<1000000000
 lt:vD u<vD v*PB J
 val:S=vD v*(PB J*W q J (m-n+1-J))+vD u
theorem aLr{u:List Int}{k c:Nat}(hu:m5 u)(h:W u 0 (k+c)<PB k):W u 0 (k+c)=W u 0 k:=by
 rw[yE]at h ⊢;have f:=(aBE (hu.dr 0 k)).1;have j:=(aBE (hu.dr (0+k) c)).1;have hp:=tY k;rcases Int.lt_or_le 0 (W u (0+k) c) with e|e
 ·have:PB k*1≤PB k*W u (0+k) c:=Int.mul_le_mul_of_nonneg_left e (by omega);omega
 ·have:W u (0+k) c=0:=by omega
  rw[this];simp
theorem aHH.next{m n j:Nat}{v q u f:List Int}{S Q w:Int}(h:aHH m n v S q u (j+1))(hj:j+1≤m-n+1)(hnm:n≤m)(hv:m5 v)(hvl:v.length=n)(hw:W u j (n+1)=w)(L:0≤Q)(t:Q<1000000000)(O:Q*vD v≤w)(y:w<(Q+1)*vD v)
  (z:f.length=m+1)(U:m5 f)(G:∀s,s<j∨j+n<s→f.getD s 0=u.getD s 0)(V:W f j (n+1)=w-Q*vD v):aHH m n v S (q.set j Q) f j:=by
 have I:=hv.lt;rw[hvl]at I;have J:W u 0 (m+1)=W u 0 j+PB j*w:=by
  have hlt:=h.lt;unfold vD at hlt I;rw[h.ul]at hlt;have hb:W v 0 v.length*PB (j+1)≤PB n*PB (j+1):=Int.mul_le_mul_of_nonneg_right (by omega) (by have:=tY (j+1);omega);rw[←aCk,show n+(j+1)=j+(n+1) by omega]at hb;obtain⟨c,hc⟩:∃c,m+1=(j+(n+1))+c:=⟨m-j-n,by omega⟩;rw[hc]at hlt ⊢;rw[aLr h.uok (by omega),yE,Nat.zero_add,hw]
 have k:W f 0 (m+1)=W u 0 j+PB j*(w-Q*vD v):=by
  obtain⟨c,hc⟩:∃c,m+1=(j+(n+1))+c:=⟨m-j-n,by omega⟩;have X:W f (j+(n+1)) c=W u (j+(n+1)) c:=aEt fun s _=>G _ (.inr (by omega))
  have F:PB (j+(n+1))*W u (j+(n+1)) c=0:=by
   have e:=J;rw[hc,yE,yE u 0 j,Nat.zero_add,Nat.zero_add,hw]at e;omega
  have Y:W f 0 j=W u 0 j:=aEt fun s hs=>by rw[Nat.zero_add];exact G s (.inl hs)
  rw[hc,yE,yE f 0 j,Nat.zero_add,Nat.zero_add,X,F,Y,V];omega
 have hlo:=(aBE (h.uok.dr 0 j)).2;have K:=(aBE (h.uok.dr 0 j)).1;refine⟨by simpa using h.ql,z,U,fun s hs=>?_,?_,?_⟩
 ·rw[aA8];by_cases e:s=j
  ·rw[if_pos ⟨e,by have:=h.ql;omega⟩];exact⟨L,t⟩
  ·rw[if_neg (fun x=>e x.1)];exact h.qok s (by omega)
 ·show W f 0 f.length<_;rw[z,k];have:PB j*(w-Q*vD v)≤PB j*(vD v-1):=Int.mul_le_mul_of_nonneg_left (by rw[Int.add_mul]at y;omega) (by omega);have e:PB j*(vD v-1)=vD v*PB j-PB j:=by grind
  omega
 ·have hval:=h.val;have e1:vD u=W u 0 (m+1):=by unfold vD;rw[h.ul]
  have e2:vD f=W f 0 (m+1):=by unfold vD;rw[z]
  rw[e1,J]at hval;have hql:=h.ql;rw[e2,k,show m-n+1-j=(m-n+1-(j+1))+1 by omega,aDy,eW (by omega),zM (.inl (by omega))];simp only[PB]at hval;rw[hval];grind
theorem aGn{b v:List Int}{N m:Nat}{S:Int}(hb:b.length=N+2)(hL:m≤900000000000)(hnm:N+2≤m)(hv:m5 v)(hvl:v.length=N+2)(I:500000000≤v.getD (N+1) 0):∀(J:Nat) (q u:List Int),J≤m-(N+2)+1→aHH m (N+2) v S q u J→
  ∃q' y,aHH m (N+2) v S q' y 0∧xF (fun K k=>fT K b v k q u ((J:Int)-1)) (q',y)
 |0,q,u,_,h=>⟨q,u,h,xF.of 1 fun K k hk=>by
   obtain⟨k',rfl,_⟩:=aT (n:=0) hk;simp[fT]⟩
 |j+1,q,u,hJ,h=>by
  have hul:=h.ul;have hql:=h.ql;obtain⟨v1,e1⟩:∃x,v.getD (N+1) 0=x:=⟨_,rfl⟩;obtain⟨v2,e2⟩:∃x,v.getD N 0=x:=⟨_,rfl⟩;obtain⟨u2,e3⟩:∃x,u.getD (j+N) 0=x:=⟨_,rfl⟩;obtain⟨u1,e4⟩:∃x,u.getD (j+N+1) 0=x:=⟨_,rfl⟩;obtain⟨u0,e5⟩:∃x,u.getD (j+N+2) 0=x:=⟨_,rfl⟩;have d1:=hv (N+1);have d2:=hv N;have d3:=h.uok (j+N);have d4:=h.uok (j+N+1);have d5:=h.uok (j+N+2);rw[e1]at d1 I;rw[e2]at d2;rw[e3]at d3;rw[e4]at d4;rw[e5]at d5;have hP:=tY N;have hVd:vD v=W v 0 N+(v1*1000000000+v2)*PB N:=by
   unfold vD;rw[hvl,yE,Nat.zero_add,W2,e1,e2,Int.mul_comm (PB N)];grind
  have hwl:=aBE (h.uok.dr j N);have hvl2:=aBE (hv.dr 0 N);obtain⟨w,hw⟩:∃x,W u j (N+2+1)=x:=⟨_,rfl⟩;have hwd:w=W u j N+((u0*1000000000+u1)*1000000000+u2)*PB N:=by
   rw[←hw,show N+2+1=N+3 by omega,yE,aDy,aDy,W1,e3,e4,show j+N+1+1=j+N+2 by omega,e5];grind
  have hVn:=hv.nonneg;have f:0<vD v:=by
   have:1*PB N≤(v1*1000000000+v2)*PB N:=Int.mul_le_mul_of_nonneg_right (by omega) (by omega);omega
  obtain⟨V,L⟩:∃x,vD v=x:=⟨_,rfl⟩;have U:=hv.lt;rw[hvl]at U;rw[L]at hVd f hVn U;have hwV:w<V*1000000000:=by
   have hlt:=h.lt;rw[L]at hlt;have hb':V*PB (j+1)≤PB (N+2)*PB (j+1):=Int.mul_le_mul_of_nonneg_right (by omega) (by have:=tY (j+1);omega);rw[←aCk,show N+2+(j+1)=j+(N+2+1) by omega]at hb';obtain⟨c,hc⟩:∃c,m+1=(j+(N+2+1))+c:=⟨m-j-(N+2),by omega⟩;unfold vD at hlt;rw[hul,hc]at hlt;rw[aLr h.uok (by omega),yE,Nat.zero_add,hw]at hlt;have h0:=(aBE (h.uok.dr 0 j)).1;simp only[PB]at hlt;have:w*PB j<V*1000000000*PB j:=by
    rw[Int.mul_assoc,Int.mul_comm 1000000000,Int.mul_comm w];omega
   exact vU (tY j) this
  have hw0:0≤w:=by rw[←hw];exact(aBE (h.uok.dr j _)).1
  obtain⟨Q,hQ⟩:∃x,w/V=x:=⟨_,rfl⟩;have hQ0:0≤Q:=by rw[←hQ];exact Int.ediv_nonneg hw0 (by omega)
  have hdm:=Int.mul_ediv_add_emod w V;have hm0:=Int.emod_nonneg w (show V≠0 by omega);have hm1:=Int.emod_lt_of_pos w f;rw[hQ]at hdm;have O:Q*V≤w:=by rw[Int.mul_comm];omega
  have z:w<(Q+1)*V:=by rw[Int.add_mul,Int.mul_comm];omega
  have hQB:Q<1000000000:=vU f (by rw[Int.mul_comm 1000000000 V];omega);obtain⟨top,htop⟩:∃x,u0*1000000000+u1=x:=⟨_,rfl⟩;have hV1:(v1*1000000000+v2)*PB N≤V:=by omega
  have hV2:V<(v1*1000000000+v2+1)*PB N:=by rw[Int.add_mul,Int.one_mul];omega
  have hw1:(top*1000000000+u2)*PB N≤w:=by rw[←htop];omega
  have hw2:w<(top*1000000000+u2+1)*PB N:=by rw[←htop,Int.add_mul _ 1,Int.one_mul];omega
  have htlim:top≤v1*1000000000+v2:=by
   have t1:(top*1000000000)*PB N≤(top*1000000000+u2)*PB N:=Int.mul_le_mul_of_nonneg_right (by omega) (by omega);have t2:(top*1000000000)*PB N<((v1*1000000000+v2+1)*1000000000)*PB N:=by
    have:(v1*1000000000+v2+1)*1000000000*PB N=(v1*1000000000+v2+1)*PB N*1000000000:=by grind
    rw[this];omega
   have t3:=vU hP t2;omega
  obtain⟨g0,hg0⟩:∃x,top/v1=x:=⟨_,rfl⟩;obtain⟨r0,hr0⟩:∃x,top%v1=x:=⟨_,rfl⟩;have hdm2:=Int.mul_ediv_add_emod top v1;have hr1:=Int.emod_nonneg top (show v1≠0 by omega);have hr2:=Int.emod_lt_of_pos top (show 0<v1 by omega);rw[hg0,hr0]at hdm2;rw[hr0]at hr1 hr2;have hg00:0≤g0:=by rw[←hg0];exact Int.ediv_nonneg (by omega) (by omega)
  have hgq:Q<g0+1:=by
   refine aJl hP hV1 hw2 O (by omega) ?_ (by omega);have m1:(g0+1)*(v1*1000000000+v2)=(v1*g0+v1)*1000000000+(g0+1)*v2:=by grind
   have m2:0≤(g0+1)*v2:=Int.mul_nonneg (by omega) d2.1;rw[m1];omega
  have hgm:g0≤1000000001:=by
   have:g0*v1<1000000002*v1:=by rw[Int.mul_comm g0];omega
   have:=vU (show 0<v1 by omega) this;omega
  obtain⟨g,⟨hg1,hg2,hg3⟩,hgF⟩:=aHl (b:=b) (v:=v) (u:=u) (j:=j) hb (by omega) hvl (by omega) (by omega) e1 e2 e3 hP (Int.le_of_lt f) I d1.2 d2.1 d2.2 d3.1 d3.2 hV1 hV2 hw1 hw2 hwV hQ0 O z 2 g0 r0 hr1 (by omega) (by omega) (by rw[Int.mul_comm];omega) (by omega) hgm;obtain⟨y,c',F,hSF⟩:=aEW (b:=b) (v:=v) (u0:=u) (j:=j) (g:=g) (by omega) hg3 hv (by omega) (by omega) (by omega) b.length 0 u 0 (by omega) ⟨rfl,h.uok,by omega,by omega,fun _ _=>rfl,by simp[W]⟩;have hSl:=F.len;have hSc0:=F.c0;have hSc1:=F.c1;have hSv:=F.val;rw[hb]at hSv;have hSs:y.getD (j+N+2) 0=u0:=by rw[F.same _ (.inr (by omega)),e5]
  obtain⟨t,ht⟩:∃x,u0-c'=x:=⟨_,rfl⟩;have hVW:W v 0 (N+2)=V:=by rw[←L];unfold vD;rw[hvl]
  rw[hVW]at hSv;have hWn:w=W u j (N+2)+u0*PB (N+2):=by rw[←hw,eI,←Nat.add_assoc,e5]
  have hWu':=aBE (F.ok.dr j (N+2));have hPn:=tY (N+2);have hD:W y j (N+2)+t*PB (N+2)=w-g*V:=by rw[←ht,Int.sub_mul];omega
  have i1:decide (0≤(j:Int))=true:=dT (by omega);have i0:((j+1:Nat):Int)-1=(j:Int):=by omega
  have i2:aV ((j:Int)+(b.length:Int))=some ((j+N+2:Nat):Int):=xH (m:=0) (by omega) (by omega);have i3:=cZ (xs:=u) (i:=j+N+2) (by omega);rw[e5]at i3;have i4:aV (u0*1000000000)=some (u0*1000000000):=tI (by omega);have i5:aV (((j+N+2:Nat):Int)-1)=some ((j+N+1:Nat):Int):=xH (m:=0) (by omega) (by omega);have i6:=cZ (xs:=u) (i:=j+N+1) (by omega);rw[e4]at i6;have i7:aV (u0*1000000000+u1)=some top:=by rw[htop];exact tI (by omega)
  have i8:aV ((b.length:Int)-1)=some ((N+1:Nat):Int):=xH (m:=0) (by omega) (by omega);have i9:=cZ (xs:=v) (i:=N+1) (by omega);rw[e1]at i9;have i10:chq top v1=some g0:=by rw[←hg0];exact xJ (by omega) (by omega) (by omega)
  have i11:chr top v1=some r0:=by rw[←hr0];exact vN (by omega) (by omega)
  have i12:=cZ (xs:=y) (i:=j+N+2) (by omega);rw[hSs]at i12;have i13:aV (u0-c')=some t:=by rw[ht];exact tI (by omega)
  have i14:rX y ((j+N+2:Nat):Int) t=some (y.set (j+N+2) t):=uY (by omega);have i15:bR (y.set (j+N+2) t) ((j+N+2:Nat):Int)=some t:=by rw[cZ (by simp;omega),eW (by omega)]
  have i16:aV ((j:Int)-1)=some ((j:Int)-1):=tI (by omega);have i17:=cZ (xs:=q) (i:=j) (by omega);have i18:∀x,rX q (j:Int) x=some (q.set j x):=fun x=>uY (by omega)
  have hgF':Ev (fun K=>fC K b v u (j:Int) K g0 r0) g:=⟨3,fun K hK=>hgF K K (by omega)⟩;have hSF':Ev (fun K=>gI K b v (j:Int) g K u 0 0) (y,c'):=⟨b.length+1,fun K hK=>hSF K K (by omega)⟩;by_cases hneg:t<0
  ·
   have hgQ:g=Q+1:=by
    have:t*PB (N+2)≤(-1)*PB (N+2):=Int.mul_le_mul_of_nonneg_right (by omega) (by omega);rcases Int.lt_or_le Q g with h1|h1
    ·omega
    ·have:g=Q:=by omega
     subst this;omega
   obtain⟨X,G,hB,hBF⟩:=aHz (b:=b) (v:=v) (u0:=y.set (j+N+2) t) (j:=j) hv (by omega) (by simp;omega) (by simp;omega) b.length 0 (y.set (j+N+2) t) 0 (by omega)
    ⟨rfl,fun s hs=>by rw[gF (by omega)];exact F.ok s,by omega,by omega,fun _ _=>rfl,by simp[W]⟩
   have hBl:=hB.len;simp only[List.length_set]at hBl;have hBs:X.getD (j+N+2) 0=t:=by rw[hB.same _ (.inr (by omega)),eW (by omega)]
   have hBv:=hB.val;rw[hb,zM (.inr (by omega)),hVW]at hBv;have hWu3:=aBE (u:=X) (j:=j) (n:=N+2) fun s hs=>hB.ok _ (by omega)
   have Y:t+G=0:=by
    have hfin:W X j (N+2)+(t+G)*PB (N+2)=w-Q*V:=by
     rw[hgQ,Int.add_mul,Int.one_mul]at hD;rw[Int.add_mul];omega
    have hlim:w-Q*V<V:=by rw[Int.add_mul]at z;omega
    rcases Int.lt_trichotomy (t+G) 0 with Y|Y|Y
    ·have:(t+G)*PB (N+2)≤(-1)*PB (N+2):=Int.mul_le_mul_of_nonneg_right (by omega) (by omega);omega
    ·exact Y
    ·have:1*PB (N+2)≤(t+G)*PB (N+2):=Int.mul_le_mul_of_nonneg_right (by omega) (by omega);omega
   obtain⟨q',u'',h5,h6⟩:=aGn hb hL hnm hv hvl (by rw[e1];exact I) j (q.set j Q) (X.set (j+N+2) (t+G)) (by omega)
    (h.next hJ hnm hv hvl hw hQ0 hQB (by rw[L];exact O) (by rw[L];exact z) (by simp;omega) (fun s=>by
      rw[aA8];by_cases e:s=j+N+2
      ·rw[if_pos ⟨e,by omega⟩,Y];omega
      ·rw[if_neg (fun x=>e x.1)];rcases Nat.lt_or_ge s (j+N+2) with h1|h1
       ·exact hB.ok s (by omega)
       ·rw[hB.same s (.inr (by omega)),gF (by omega),F.same s (.inr (by omega))];exact h.uok s) (fun s hs=>by
      rw[gF (by omega)];rw[hB.same s (by omega),gF (by omega),F.same s (by omega)]) (by
      rw[eI,←Nat.add_assoc,eW (by omega),zM (.inr (by omega)),L];rw[hgQ,Int.add_mul,Int.one_mul]at hD;rw[Int.add_mul];omega))
   refine⟨q',u'',h5,xF.step ?_⟩;have k1:aV (g-1)=some Q:=by rw[show g-1=Q by omega];exact tI (by omega)
   have k2:=cZ (xs:=X) (i:=j+N+2) (by omega);rw[hBs]at k2;have hc30:=hB.c0;have hc31:=hB.c1;have k3:aV (t+G)=some (t+G):=tI (by omega);have k4:rX X ((j+N+2:Nat):Int) (t+G)=some (X.set (j+N+2) (t+G)):=uY (by omega);have hBF':Ev (fun K=>kC K b v (j:Int) K (y.set (j+N+2) t) 0 0) (X,G):=⟨b.length+1,fun K hK=>hBF K K (by omega)⟩;rw[i0];simp only[fT,i1,i2,i3,i4,i5,i6,i7,i8,i9,i10,i11,bL,oB];refine xF.bind hgF' ?_;simp only[qH];refine xF.bind hSF' ?_;simp only[qK,i2,i12,i13,i14,i15,dT hneg,bL,oB,k1];refine xF.bind hBF' ?_;simp only[tL,i2,k2,k3,k4,i17,i18,i16,oB];exact h6
  ·have hgQ:g=Q:=by
    have:0≤t*PB (N+2):=Int.mul_nonneg (by omega) (by omega);rcases Int.lt_or_le Q g with h1|h1
    ·have:g=Q+1:=by omega
     subst this;omega
    ·omega
   subst hgQ;have Y:t=0:=by
    have hlim:w-g*V<V:=by rw[Int.add_mul]at z;omega
    rcases Int.lt_or_le 0 t with Y|Y
    ·have:1*PB (N+2)≤t*PB (N+2):=Int.mul_le_mul_of_nonneg_right (by omega) (by omega);omega
    ·omega
   obtain⟨q',u'',h5,h6⟩:=aGn hb hL hnm hv hvl (by rw[e1];exact I) j (q.set j g) (y.set (j+N+2) t) (by omega)
    (h.next hJ hnm hv hvl hw hQ0 hQB (by rw[L];exact O) (by rw[L];exact z) (by simp;omega) (F.ok.set (by omega) (by omega)) (fun s hs=>by
      rw[gF (by omega)];rw[F.same s (by omega)]) (by
      rw[eI,←Nat.add_assoc,eW (by omega),zM (.inr (by omega)),L];omega))
   refine⟨q',u'',h5,xF.step ?_⟩;rw[i0];simp only[fT,i1,i2,i3,i4,i5,i6,i7,i8,i9,i10,i11,bL,oB];refine xF.bind hgF' ?_;simp only[qH];refine xF.bind hSF' ?_;simp only[qK,i2,i12,i13,i14,i15,dF hneg,bG,oB,i17,i18,i16];exact h6
end Go.Proofs.YtolfcbpgmfbgmaaGreat
