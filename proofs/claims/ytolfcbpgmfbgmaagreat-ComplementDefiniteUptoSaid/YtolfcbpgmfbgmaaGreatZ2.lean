/- Texts of the proof, part 2: K15 I1 IZ P2 P3 P4 P5. -/
import Derived.Test.YtolfcbpgmfbgmaaGreatProg
import Derived.KernelRfl
import Derived.IntWalk
import Derived.Test.YtolfcbpgmfbgmaaGreatZ1
set_option linter.unusedSimpArgs false
set_option linter.unusedVariables false
namespace Go.Proofs.YtolfcbpgmfbgmaaGreat
structure GC (S:Sx) (c:Code) (κ:Kt) (H:List HA) (E:sE) (Q:Prop):Prop where
 h:Q→WC S c κ H E
structure GX (S:Sx) (e:Exit) (κ:Kt) (H:List HA) (E:sE) (Q:Prop):Prop where
 h:Q→WX S e κ H E
structure GL (S:Sx) (ops:Array Oper) (κ:Kt) (l:List Oper) (H:List HA) (E:sE) (Q:Prop):Prop where
 h:Q→WL S ops κ l H E
inductive D:Prop→Prop→Prop
 |mk {P Q:Prop} (h:Q→P):D P Q
theorem D.h{P Q:Prop}(h:D P Q):Q→P:=by cases h;assumption
section
variable {S:Sx} {κ:Kt} {H:List HA} {E:sE} {Q:Prop}
theorem sC{c:Code}(k:GC S c κ H E Q):D (WC S c κ H E) Q:=⟨k.h⟩
theorem sX{e:Exit}(k:GX S e κ H E Q):D (WX S e κ H E) Q:=⟨k.h⟩
theorem sL{ops:Array Oper}{l:List Oper}(k:GL S ops κ l H E Q):D (WL S ops κ l H E) Q:=⟨k.h⟩
theorem eC{c:Code}:GC S c κ H E (WC S c κ H E):=⟨fun q=>q⟩
theorem eX{e:Exit}:GX S e κ H E (WX S e κ H E):=⟨fun q=>q⟩
theorem eL{ops:Array Oper}{l:List Oper}:GL S ops κ l H E (WL S ops κ l H E):=⟨fun q=>q⟩
theorem aS1{x y:Code}(k:GC S x (.seq y κ) H E Q):GC S (.seq x y) κ H E Q:=⟨fun q=>aE (k.h q)⟩
theorem aPz{y:Code}(k:GC S y κ H E Q):GX S .normal (.seq y κ) H E Q:=⟨fun q=>aH (k.h q)⟩
theorem aPL(k:GX S .normal κ H E Q):GC S .skip κ H E Q:=⟨fun q=>fB (k.h q)⟩
theorem aMq{l:Nat}(k:GX S .normal κ H E Q):GC S (.label l) κ H E Q:=⟨fun q=>aQ0 (k.h q)⟩
theorem aOk{id:Nat}(k:GX S .normal κ H E Q):GX S .normal (.blk id κ) H E Q:=⟨fun q=>aCo (k.h q)⟩
theorem aLO{c:Code}(k:GC S c (.sc κ) H E Q):GC S (.scope c) κ H E Q:=⟨fun q=>aM2 (k.h q)⟩
theorem aSM(k:GX S .normal κ H E Q):GX S .normal (.sc κ) H E Q:=⟨fun q=>aVd (k.h q)⟩
theorem aSR{id:Nat}{l:List Oper}(k:GL S l.toArray κ l H E Q):GC S (.region id l.toArray false) κ H E Q:=⟨fun q=>aI (k.h q)⟩
theorem aTd{ops:Array Oper}(k:GX S .normal κ H E Q):GL S ops κ [] H E Q:=⟨fun q=>aX (k.h q)⟩
end
def ev(E:sE):Operand→Option VP
 | .tmp d=>jS E d
 | .const (.int k n)=>some (.vc (pI k n))
 | .const (.bool b)=>some (.vc (pB b))
 |_=>none
theorem eD{E:sE}:∀{x:Operand} {p:VP},ev E x=some p→aGO E x p
 | .tmp d,p,h=>h
 | .const (.int k n),p,h=>by cases h;exact rR k n
 | .const (.bool b),p,h=>by cases h;exact k_B b
def evs(E:sE):List Operand→Option (List VP)
 |[]=>some []
 |x::l=>(ev E x).bind fun p=>(evs E l).bind fun ps=>some (p::ps)
theorem aIo{E:sE}:∀{l:List Operand} {ps:List VP},evs E l=some ps→xF E (l.zip ps)∧l.length=ps.length
 |[],ps,h=>by cases h;exact⟨trivial,rfl⟩
 |x::l,ps,h=>by
  obtain⟨p,f,h⟩:=Option.bind_eq_some_iff.1 h;obtain⟨qs,e,h⟩:=Option.bind_eq_some_iff.1 h;cases h;exact⟨⟨eD f,(aIo e).1⟩,congrArg (·+1) (aIo e).2⟩
theorem yS{k:Nat}{l qs:List CP}(h:uR k l=some qs):qs.length=k:=(aBr h).2
inductive iZ:List HA→Option Nat→HA→Prop
 |a {e:HA} {H:List HA} {β:Option Nat} (h:e.β=β):iZ (e::H) β e
 |b {e x:HA} {H:List HA} {β:Option Nat} (h:iZ H β e):iZ (x::H) β e
theorem iZ.at{H:List HA}{β:Option Nat}{e:HA}(h:iZ H β e):∃i:Nat,H[i]?=some e∧e.β=β:=by
 induction h with
 |a h=>exact⟨0,rfl,h⟩
 |b _ ih=>obtain⟨i,f,j⟩:=ih;exact⟨i+1,by simpa using f,j⟩
inductive zW:List HA→Option Nat→HA→HA→List HA→Prop
 |a {e e':HA} {H:List HA} {β:Option Nat} (h:e.β=β):zW (e::H) β e e' (e'::H)
 |b {e e' x:HA} {H H':List HA} {β:Option Nat} (h:zW H β e e' H'):zW (x::H) β e e' (x::H')
theorem zW.at{H H':List HA}{β:Option Nat}{e f:HA}(h:zW H β e f H'):∃i:Nat,H[i]?=some e∧e.β=β∧z4 H i f=some H':=by
 induction h with
 |a h=>exact⟨0,rfl,h,rfl⟩
 |@b e f x H H' β _ ih=>
  obtain⟨i,j,k,q⟩:=ih;exact⟨i+1,by simpa using j,k,by simp only[z4,q]⟩
inductive dS (ops:Array Oper) (E:sE):Option (Nat×Bool)→Prop
 |p:dS ops E none
 |g {j dj:Nat} {b:Bool} {og:Oper} (hj:ops[j]?=some og) (hdj:og.dst=some dj) (hl:jS E dj=some (.vc (pB b))):dS ops E (some (j,b))
theorem u9{α β γ:Type}{a:Option α}{b:α→Option β}{f:α→β→Option γ}{r:γ}(h:(a.bind fun x=>(b x).bind fun y=>f x y)=some r):∃x,a=some x∧∃y,b x=some y∧f x y=some r:=by
 obtain⟨x,e,h⟩:=aR h;exact⟨x,e,aR h⟩
theorem bn3{α β γ δ:Type}{a:Option α}{b:α→Option β}{c:α→β→Option γ}{f:α→β→γ→Option δ}{r:δ}(h:(a.bind fun x=>(b x).bind fun y=>(c x y).bind fun z=>f x y z)=some r):∃x,a=some x∧∃y,b x=some y∧∃z,c x y=some z∧f x y z=some r:=by
 obtain⟨x,e,h⟩:=aR h;exact⟨x,e,u9 h⟩
theorem bn4{α β γ δ ε:Type}{a:Option α}{b:α→Option β}{c:α→β→Option γ}{d:α→β→γ→Option δ}{f:α→β→γ→δ→Option ε}{r:ε}(h:(a.bind fun x=>(b x).bind fun y=>(c x y).bind fun z=>(d x y z).bind fun t=>f x y z t)=some r):∃x,a=some x∧∃y,b x=some y∧∃z,c x y=some z∧∃t,d x y z=some t∧f x y z t=some r:=by
 obtain⟨x,e,h⟩:=aR h;exact⟨x,e,bn3 h⟩
theorem uS{α β:Type}{o:Option α}{f:α→Option β}{v:α}{r:β}(h:o=some v)(k:o.bind f=some r):f v=some r:=by rw[h]at k;exact k
theorem bE{α β:Type}{o:Option α}{f:α→Option β}{q:β}{C:α→Prop}(h:o.bind f=some q)(c:∀{r:α},o=some r→C r):∃v,C v∧f v=some q:=by
 obtain⟨v,e,h⟩:=aR h;exact⟨v,c e,h⟩
section
variable {S:Sx} {κ:Kt} {H H':List HA} {E:sE} {ops:Array Oper} {rest:List Oper} {Q:Prop} {ty:TypeId} {pos:String} {af:Array Edge} {g:Option (Nat×Bool)} {d:Nat}
theorem lZ{op:Op}{ins:List (Operand×VP)}{out:VP}(t:Tr S ⟨some d,op,ty,pos,af,g⟩ H H' ins out)(e:xF E ins)(j:dS ops E g)(f:Nat.blt d S.N=true)(k:GL S ops κ rest H' ((d,out)::E) Q):GL S ops κ (⟨some d,op,ty,pos,af,g⟩::rest) H E Q:=by
 refine⟨fun q=>?_⟩;cases j with
 |p=>exact aG t e (k.h q) rfl rfl f
 |g s hdj u=>exact wS t e (k.h q) rfl s hdj u rfl f
theorem b_n{op:Op}{j dj:Nat}{b b':Bool}{og:Oper}(e:ops[j]?=some og)(hdj:og.dst=some dj)(f:jS E dj=some (.vc (pB b')))(hb:(b' != b)=true)(s:Nat.blt d S.N=true)(k:GL S ops κ rest H ((d,.un)::E) Q):GL S ops κ (⟨some d,op,ty,pos,af,some (j,b)⟩::rest) H E Q:=⟨fun q=>aBV (k.h q) rfl e hdj f hb rfl s⟩
theorem b_u{op:Op}{j dj:Nat}{b:Bool}{og:Oper}(e:ops[j]?=some og)(hdj:og.dst=some dj)(f:jS E dj=some .un)(s:Nat.blt d S.N=true)(k:GL S ops κ rest H ((d,.un)::E) Q):GL S ops κ (⟨some d,op,ty,pos,af,some (j,b)⟩::rest) H E Q:=⟨fun q=>aWA (k.h q) rfl e hdj f rfl s⟩
end
class Mix (P:Program):Prop where
 h:P.follows .mixedOrders=true
def t0(l:List Oper)(ms:List Nat)(E:sE)(outs:List Ou)(G:Gh)(i:Nat):Operand→Option VP
 | .tmp d=>aAy l ms E outs G i d
 | .const (.int k n)=>some (.vc (pI k n))
 | .const (.bool b)=>some (.vc (pB b))
 |_=>none
theorem bP{l:List Oper}{ms:List Nat}{E:sE}{outs:List Ou}{G:Gh}{i:Nat}:∀{x:Operand} {p:VP},t0 l ms E outs G i x=some p→aSp l ms E outs G i x p
 | .tmp d,p,h=>h
 | .const (.int k n),p,h=>by cases h;exact rR k n
 | .const (.bool b),p,h=>by cases h;exact k_B b
def aTY(l:List Oper)(ms:List Nat)(E:sE)(outs:List Ou)(G:Gh)(i:Nat):List Operand→Option (List VP)
 |[]=>some []
 |x::r=>(t0 l ms E outs G i x).bind fun p=>(aTY l ms E outs G i r).bind fun ps=>some (p::ps)
theorem aFT{l:List Oper}{ms:List Nat}{E:sE}{outs:List Ou}{G:Gh}{i:Nat}:∀{r:List Operand} {ps:List VP},aTY l ms E outs G i r=some ps→aGF l ms E outs G i (r.zip ps)∧r.length=ps.length
 |[],ps,h=>by cases h;exact⟨trivial,rfl⟩
 |x::r,ps,h=>by
  obtain⟨p,f,h⟩:=Option.bind_eq_some_iff.1 h;obtain⟨qs,e,h⟩:=Option.bind_eq_some_iff.1 h;cases h;exact⟨⟨bP f,(aFT e).1⟩,congrArg (·+1) (aFT e).2⟩
theorem iZ.app{H A:List HA}{β:Option Nat}{e:HA}(h:iZ H β e):iZ (H++A) β e:=by
 induction h with
 |a h=>exact .a h
 |b _ ih=>exact .b ih
inductive GD (l:List Oper) (ms:List Nat) (E:sE) (outs:List Ou) (i:Nat):Option (Nat×Bool)→Prop
 |p:GD l ms E outs i none
 |g {j d:Nat} {b:Bool} (hd:(l[j]?).bind (·.dst)=some d) (hl:∀G,aAy l ms E outs G i d=some (.vc (pB b))):GD l ms E outs i (some (j,b))
structure DN (S:Sx) (H:List HA) (l0:List Oper) (ms:List Nat) (E:sE) (outs:List Ou) (n i:Nat) (l:List Oper) (r:List Ou):Prop where
 h:aIx S (fun _ _=>H) [] l0 ms E outs i l r
 len:r.length=n
section
variable {S:Sx} {H:List HA} {l0 l:List Oper} {ms:List Nat} {E:sE} {outs r:List Ou} {n i d:Nat} {ty:TypeId} {pos:String} {af:Array Edge} {g:Option (Nat×Bool)}
theorem aTh(hr:r=[]):DN S H l0 ms E outs 0 i l r:=by subst hr;exact⟨by cases l<;>trivial,rfl⟩
theorem aIa{o:Oper}{q:Ou}(e:o.dst.all (Nat.blt · S.N)=true)(f:DOp S (fun _ _=>H) [] l0 ms E outs i o q)(k:DN S H l0 ms E outs n (i+1) l r):DN S H l0 ms E outs (n+1) i (o::l) (q::r):=⟨⟨⟨e,f⟩,k.h⟩,congrArg (·+1) k.len⟩
theorem jH{op:Op}{ins:List (Operand×VP)}{out:VP}(t:∀A,Tr S ⟨some d,op,ty,pos,af,g⟩ (H++A) (H++A) ins out)(hs:∀G,aGF l0 ms E outs G i ins)(h:Nat.blt d S.N=true)(j:GD l0 ms E outs i g)(e:mR ms [] i [0]=true){f:List Ou}(hr:f=.v out::r)(k:DN S H l0 ms E outs n (i+1) l r):DN S H l0 ms E outs (n+1) i (⟨some d,op,ty,pos,af,g⟩::l) f:=by
 subst hr;refine aIa h ?_ k;cases j with
 |p=>exact .run (L:=[0]) (ins:=fun _=>ins) ⟨fun _ A=>t A,trivial⟩ hs rfl e rfl
 |g q s=>exact .runG (L:=[0]) (ins:=fun _=>ins) ⟨fun _ A=>t A,trivial⟩ hs rfl q s e rfl
theorem e_n{e:List Ou}{op:Op}{j dj:Nat}{b b':Bool}(f:(l0[j]?).bind (·.dst)=some dj)(h:∀G,aAy l0 ms E outs G i dj=some (.vc (pB b')))(hb:(b' != b)=true)(q:Nat.blt d S.N=true)(hr:e=.v .un::r)(k:DN S H l0 ms E outs n (i+1) l r):DN S H l0 ms E outs (n+1) i (⟨some d,op,ty,pos,af,some (j,b)⟩::l) e:=hr▸aIa q (.skipN rfl f h hb rfl) k
theorem e_u{e:List Ou}{op:Op}{j dj:Nat}{b:Bool}(f:(l0[j]?).bind (·.dst)=some dj)(h:∀G,aAy l0 ms E outs G i dj=some .un)(q:Nat.blt d S.N=true)(hr:e=.v .un::r)(k:DN S H l0 ms E outs n (i+1) l r):DN S H l0 ms E outs (n+1) i (⟨some d,op,ty,pos,af,some (j,b)⟩::l) e:=hr▸aIa q (.skipU rfl f h rfl) k
end
section
variable {S:Sx} {κ:Kt} {H H':List HA} {E:sE} {ops:Array Oper} {rest:List Oper} {Q:Prop} {ty:TypeId} {pos:String} {af:Array Edge} {g:Option (Nat×Bool)} {d:Nat} {l0 l:List Oper} {ms:List Nat} {outs ro:List Ou} {n i:Nat}
theorem aWz{x:Operand}{p:VP}(e:ev E x=some p)(f:Nat.blt d S.N=true)(h:dS ops E g)(k:GL S ops κ rest H ((d,p)::E) Q):GL S ops κ (⟨some d,.move x,ty,pos,af,g⟩::rest) H E Q:=
 lZ (aP (.inl rfl)) ⟨eD e,trivial⟩ h f k
theorem aVl{x:Operand}{p:VP}(f:∀G,t0 l0 ms E outs G i x=some p)(h:Nat.blt d S.N=true)(j:GD l0 ms E outs i g)(k:mR ms [] i [0]=true){e:List Ou}(hr:e=.v (p)::ro)(kk:DN S H l0 ms E outs n (i+1) l ro):DN S H l0 ms E outs (n+1) i (⟨some d,.move x,ty,pos,af,g⟩::l) e:=
 jH (fun A=>aP (.inl rfl)) (fun G=>⟨bP (f G),trivial⟩) h j k hr kk
theorem aVi{x:Operand}{b:Bool}{w:Bool}(f:∀G,t0 l0 ms E outs G i x=some (.vc (pB b)))(h:Nat.blt d S.N=true)(j:GD l0 ms E outs i g)(k:mR ms [] i [0]=true)(hb:b=w){e:List Ou}(hr:e=.v (.vc (pB w))::ro)(kk:DN S H l0 ms E outs n (i+1) l ro):DN S H l0 ms E outs (n+1) i (⟨some d,.move x,ty,pos,af,g⟩::l) e:=
 jH (fun A=>oH (aP (.inl rfl)) hb) (fun G=>⟨bP (f G),trivial⟩) h j k hr kk
theorem aVT{x:Operand}{p:VP}(e:ev E x=some p)(f:Nat.blt d S.N=true)(h:dS ops E g)(k:GL S ops κ rest H ((d,p)::E) Q):GL S ops κ (⟨some d,.assign x,ty,pos,af,g⟩::rest) H E Q:=
 lZ (aP (.inr rfl)) ⟨eD e,trivial⟩ h f k
theorem aWi{x:Operand}{p:VP}(f:∀G,t0 l0 ms E outs G i x=some p)(h:Nat.blt d S.N=true)(j:GD l0 ms E outs i g)(k:mR ms [] i [0]=true){e:List Ou}(hr:e=.v (p)::ro)(kk:DN S H l0 ms E outs n (i+1) l ro):DN S H l0 ms E outs (n+1) i (⟨some d,.assign x,ty,pos,af,g⟩::l) e:=
 jH (fun A=>aP (.inr rfl)) (fun G=>⟨bP (f G),trivial⟩) h j k hr kk
theorem aVh{x:Operand}{b:Bool}{w:Bool}(f:∀G,t0 l0 ms E outs G i x=some (.vc (pB b)))(h:Nat.blt d S.N=true)(j:GD l0 ms E outs i g)(k:mR ms [] i [0]=true)(hb:b=w){e:List Ou}(hr:e=.v (.vc (pB w))::ro)(kk:DN S H l0 ms E outs n (i+1) l ro):DN S H l0 ms E outs (n+1) i (⟨some d,.assign x,ty,pos,af,g⟩::l) e:=
 jH (fun A=>oH (aP (.inr rfl)) hb) (fun G=>⟨bP (f G),trivial⟩) h j k hr kk
theorem aVj{α:Type}{C:Cd α}{t e bytes:Nat}{x y:Operand}{xs:List α}{j:Int}{z:α}{k:IntKind}(f:ev E x=some (.vc (pS C xs)))(h:ev E y=some (.vc (pI k j)))(q:TyS S.P t e C.n bytes)(s:Nat.blt d S.N=true)(u:dS ops E g)(F:bR xs j=some z)(k:GL S ops κ rest H ((d,.vc (pM (C.e z)))::E) Q):GL S ops κ (⟨some d,.indexAddr t x y,ty,pos,af,g⟩::rest) H E Q:=
 lZ (aGo rfl q F) ⟨eD f,eD h,trivial⟩ u s k
theorem aVB{α:Type}{C:Cd α}{t e bytes:Nat}{x y:Operand}{xs:List α}{j:Int}{z:α}{k:IntKind}(h:∀G,t0 l0 ms E outs G i x=some (.vc (pS C xs)))(q:∀G,t0 l0 ms E outs G i y=some (.vc (pI k j)))(s:TyS S.P t e C.n bytes)(u:Nat.blt d S.N=true)(F:GD l0 ms E outs i g)(I:mR ms [] i [0]=true)(J:bR xs j=some z){f:List Ou}(hr:f=.v (.vc (pM (C.e z)))::ro)(kk:DN S H l0 ms E outs n (i+1) l ro):DN S H l0 ms E outs (n+1) i (⟨some d,.indexAddr t x y,ty,pos,af,g⟩::l) f:=
 jH (fun A=>aGo rfl s J) (fun G=>⟨bP (h G),bP (q G),trivial⟩) u F I hr kk
theorem aS4{s f k:Nat}{x:Operand}{ps:List CP}(e:ev E x=some (.vc (pM ps)))(h:TyF S.P s f k)(j:Nat.blt d S.N=true)(q:dS ops E g)(k:GL S ops κ rest H ((d,.vc (pM (ps.drop k)))::E) Q):GL S ops κ (⟨some d,.fieldAddr s x f,ty,pos,af,g⟩::rest) H E Q:=
 lZ (aQK rfl h) ⟨eD e,trivial⟩ q j k
theorem aSw{s f k:Nat}{x:Operand}{ps:List CP}(h:∀G,t0 l0 ms E outs G i x=some (.vc (pM ps)))(j:TyF S.P s f k)(q:Nat.blt d S.N=true)(t:GD l0 ms E outs i g)(u:mR ms [] i [0]=true){e:List Ou}(hr:e=.v (.vc (pM (ps.drop k)))::ro)(kk:DN S H l0 ms E outs n (i+1) l ro):DN S H l0 ms E outs (n+1) i (⟨some d,.fieldAddr s x f,ty,pos,af,g⟩::l) e:=
 jH (fun A=>aQK rfl j) (fun G=>⟨bP (h G),trivial⟩) q t u hr kk
theorem aV6{s f off k:Nat}{x:Operand}{β:Option Nat}(e:ev E x=some (.vc (pP β off)))(h:TyF S.P s f k)(j:Nat.blt d S.N=true)(q:dS ops E g)(k:GL S ops κ rest H ((d,.vc (pP β (off+k)))::E) Q):GL S ops κ (⟨some d,.fieldAddr s x f,ty,pos,af,g⟩::rest) H E Q:=
 lZ (iG rfl h) ⟨eD e,trivial⟩ q j k
theorem aUY{s f off k:Nat}{x:Operand}{β:Option Nat}(h:∀G,t0 l0 ms E outs G i x=some (.vc (pP β off)))(j:TyF S.P s f k)(q:Nat.blt d S.N=true)(t:GD l0 ms E outs i g)(u:mR ms [] i [0]=true){e:List Ou}(hr:e=.v (.vc (pP β (off+k)))::ro)(kk:DN S H l0 ms E outs n (i+1) l ro):DN S H l0 ms E outs (n+1) i (⟨some d,.fieldAddr s x f,ty,pos,af,g⟩::l) e:=
 jH (fun A=>iG rfl j) (fun G=>⟨bP (h G),trivial⟩) q t u hr kk
theorem aTf{s f n off k:Nat}{x:Operand}{β:Option Nat}{j:Int}(e:ev E x=some (.vc (pE β j n off)))(h:TyF S.P s f k)(q:Nat.blt d S.N=true)(t:dS ops E g)(k:GL S ops κ rest H ((d,.vc (pE β j n (off+k)))::E) Q):GL S ops κ (⟨some d,.fieldAddr s x f,ty,pos,af,g⟩::rest) H E Q:=
 lZ (aTt rfl h) ⟨eD e,trivial⟩ t q k
theorem aSP{s f n off k:Nat}{x:Operand}{β:Option Nat}{j:Int}(h:∀G,t0 l0 ms E outs G i x=some (.vc (pE β j n off)))(q:TyF S.P s f k)(t:Nat.blt d S.N=true)(u:GD l0 ms E outs i g)(y:mR ms [] i [0]=true){e:List Ou}(hr:e=.v (.vc (pE β j n (off+k)))::ro)(kk:DN S H l0 ms E outs n (i+1) l ro):DN S H l0 ms E outs (n+1) i (⟨some d,.fieldAddr s x f,ty,pos,af,g⟩::l) e:=
 jH (fun A=>aTt rfl q) (fun G=>⟨bP (h G),trivial⟩) t u y hr kk
theorem aTb{t:Nat}{x:Operand}{ps:List CP}{q:CP}(e:ev E x=some (.vc (pM ps)))(f:Ty1 S.P t)(hq:uR 1 ps=some [q])(h:Nat.blt d S.N=true)(j:dS ops E g)(k:GL S ops κ rest H ((d,.vc q)::E) Q):GL S ops κ (⟨some d,.load t x,ty,pos,af,g⟩::rest) H E Q:=
 lZ (aDy 1 rfl hq (.one f)) ⟨eD e,trivial⟩ j h k
theorem aSz{t:Nat}{x:Operand}{ps:List CP}{q:CP}(f:∀G,t0 l0 ms E outs G i x=some (.vc (pM ps)))(h:Ty1 S.P t)(hq:uR 1 ps=some [q])(j:Nat.blt d S.N=true)(k:GD l0 ms E outs i g)(s:mR ms [] i [0]=true){e:List Ou}(hr:e=.v (.vc q)::ro)(kk:DN S H l0 ms E outs n (i+1) l ro):DN S H l0 ms E outs (n+1) i (⟨some d,.load t x,ty,pos,af,g⟩::l) e:=
 jH (fun A=>aDy 1 rfl hq (.one h)) (fun G=>⟨bP (f G),trivial⟩) j k s hr kk
theorem aTp{t q:Nat}{x:Operand}{ps qs:List CP}(e:ev E x=some (.vc (pM ps)))(f:TyA S.P t q)(hq:uR q ps=some qs)(h:Nat.blt d S.N=true)(j:dS ops E g)(k:GL S ops κ rest H ((d,.va qs)::E) Q):GL S ops κ (⟨some d,.load t x,ty,pos,af,g⟩::rest) H E Q:=
 lZ (aDy q rfl hq (.agg f (yS hq))) ⟨eD e,trivial⟩ j h k
theorem aTa{t q:Nat}{x:Operand}{ps qs:List CP}(f:∀G,t0 l0 ms E outs G i x=some (.vc (pM ps)))(h:TyA S.P t q)(hq:uR q ps=some qs)(j:Nat.blt d S.N=true)(k:GD l0 ms E outs i g)(s:mR ms [] i [0]=true){e:List Ou}(hr:e=.v (.va qs)::ro)(kk:DN S H l0 ms E outs n (i+1) l ro):DN S H l0 ms E outs (n+1) i (⟨some d,.load t x,ty,pos,af,g⟩::l) e:=
 jH (fun A=>aDy q rfl hq (.agg h (yS hq))) (fun G=>⟨bP (f G),trivial⟩) j k s hr kk
theorem aVX{t off:Nat}{x:Operand}{β:Option Nat}{e:HA}{q:CP}(j:ev E x=some (.vc (pP β off)))(s:Ty1 S.P t)(u:iZ H β e)(hq:uR 1 (e.ps.drop off)=some [q])(y:Nat.blt d S.N=true)(z:dS ops E g)(k:GL S ops κ rest H ((d,.vc q)::E) Q):GL S ops κ (⟨some d,.load t x,ty,pos,af,g⟩::rest) H E Q:=by
 obtain⟨i,f,h⟩:=u.at;exact lZ (gM i 1 rfl f h hq (.one s)) ⟨eD j,trivial⟩ z y k
theorem aVO{t off:Nat}{x:Operand}{β:Option Nat}{e:HA}{q:CP}(k:∀G,t0 l0 ms E outs G i x=some (.vc (pP β off)))(s:Ty1 S.P t)(u:iZ H β e)(hq:uR 1 (e.ps.drop off)=some [q])(y:Nat.blt d S.N=true)(z:GD l0 ms E outs i g)(F:mR ms [] i [0]=true){j:List Ou}(hr:j=.v (.vc q)::ro)(kk:DN S H l0 ms E outs n (i+1) l ro):DN S H l0 ms E outs (n+1) i (⟨some d,.load t x,ty,pos,af,g⟩::l) j:=by
 refine jH (ins:=[(x,(.vc (pP β off)))]) (fun A=>?_) (fun G=>⟨bP (k G),trivial⟩) y z F hr kk;obtain⟨i,f,h⟩:=(u.app (A:=A)).at;exact gM i 1 rfl f h hq (.one s)
theorem aWn{t m off:Nat}{x:Operand}{β:Option Nat}{e:HA}{qs:List CP}(j:ev E x=some (.vc (pP β off)))(q:TyA S.P t m)(s:iZ H β e)(hq:uR m (e.ps.drop off)=some qs)(u:Nat.blt d S.N=true)(y:dS ops E g)(k:GL S ops κ rest H ((d,.va qs)::E) Q):GL S ops κ (⟨some d,.load t x,ty,pos,af,g⟩::rest) H E Q:=by
 obtain⟨i,f,h⟩:=s.at;exact lZ (gM i m rfl f h hq (.agg q (yS hq))) ⟨eD j,trivial⟩ y u k
theorem aVK{t m off:Nat}{x:Operand}{β:Option Nat}{e:HA}{qs:List CP}(k:∀G,t0 l0 ms E outs G i x=some (.vc (pP β off)))(q:TyA S.P t m)(s:iZ H β e)(hq:uR m (e.ps.drop off)=some qs)(u:Nat.blt d S.N=true)(y:GD l0 ms E outs i g)(z:mR ms [] i [0]=true){j:List Ou}(hr:j=.v (.va qs)::ro)(kk:DN S H l0 ms E outs n (i+1) l ro):DN S H l0 ms E outs (n+1) i (⟨some d,.load t x,ty,pos,af,g⟩::l) j:=by
 refine jH (ins:=[(x,(.vc (pP β off)))]) (fun A=>?_) (fun G=>⟨bP (k G),trivial⟩) u y z hr kk;obtain⟨i,f,h⟩:=(s.app (A:=A)).at;exact gM i m rfl f h hq (.agg q (yS hq))
theorem aSt{α:Type}{C:Cd α}{xs:List α}{β:Option Nat}{c T f:Nat}{t e bytes:Nat}{x y:Operand}{j:Int}{k:IntKind}{z:α}(s:ev E x=some (.vc (pO β f c)))(u:ev E y=some (.vc (pI k j)))(F:iZ H β (hO C β c T f xs))(G:xs.length=f)(I:TyS S.P t e C.n bytes)(J:Nat.blt d S.N=true)(K:dS ops E g)(q:bR xs j=some z)(k:GL S ops κ rest H ((d,.vc (pE β j C.n 0))::E) Q):GL S ops κ (⟨some d,.indexAddr t x y,ty,pos,af,g⟩::rest) H E Q:=by
 obtain⟨i,h,L⟩:=F.at;exact lZ (dX i rfl I h G (aB q).1 (aB q).2.1) ⟨eD s,eD u,trivial⟩ K J k
theorem aSk{α:Type}{C:Cd α}{xs:List α}{β:Option Nat}{c T f:Nat}{t e bytes:Nat}{x y:Operand}{j:Int}{k:IntKind}{z:α}(u:∀G,t0 l0 ms E outs G i x=some (.vc (pO β f c)))(F:∀G,t0 l0 ms E outs G i y=some (.vc (pI k j)))(I:iZ H β (hO C β c T f xs))(J:xs.length=f)(K:TyS S.P t e C.n bytes)(L:Nat.blt d S.N=true)(O:GD l0 ms E outs i g)(U:mR ms [] i [0]=true)(q:bR xs j=some z){s:List Ou}(hr:s=.v (.vc (pE β j C.n 0))::ro)(kk:DN S H l0 ms E outs n (i+1) l ro):DN S H l0 ms E outs (n+1) i (⟨some d,.indexAddr t x y,ty,pos,af,g⟩::l) s:=by
 refine jH (ins:=[(x,(.vc (pO β f c))),(y,(.vc (pI k j)))]) (fun A=>?_) (fun G=>⟨bP (u G),bP (F G),trivial⟩) L O U hr kk;obtain⟨i,h,V⟩:=(I.app (A:=A)).at;exact dX i rfl K h J (aB q).1 (aB q).2.1
theorem aTC{α:Type}{C:Cd α}{xs:List α}{β:Option Nat}{c T f:Nat}{t e k bytes:Nat}{x:Operand}(h:ev E x=some (.vc (pO β f c)))(j:iZ H β (hO C β c T f xs))(q:xs.length=f)(s:TyS S.P t e k bytes)(u:Nat.blt d S.N=true)(y:dS ops E g)(k:GL S ops κ rest H ((d,.vc (pI .i64 xs.length))::E) Q):GL S ops κ (⟨some d,.call {callee:=.builtin .len,args:=#[x],argTypes:=#[t]},ty,pos,af,g⟩::rest) H E Q:=by
 obtain⟨i,z,F⟩:=j.at;exact lZ (aBU (C:=C) (T:=T) rfl s q) ⟨eD h,trivial⟩ y u k
theorem aSC{α:Type}{C:Cd α}{xs:List α}{β:Option Nat}{c T f:Nat}{t e k bytes:Nat}{x:Operand}(j:∀G,t0 l0 ms E outs G i x=some (.vc (pO β f c)))(q:iZ H β (hO C β c T f xs))(s:xs.length=f)(u:TyS S.P t e k bytes)(y:Nat.blt d S.N=true)(z:GD l0 ms E outs i g)(F:mR ms [] i [0]=true){h:List Ou}(hr:h=.v (.vc (pI .i64 xs.length))::ro)(kk:DN S H l0 ms E outs n (i+1) l ro):DN S H l0 ms E outs (n+1) i (⟨some d,.call {callee:=.builtin .len,args:=#[x],argTypes:=#[t]},ty,pos,af,g⟩::l) h:=by
 refine jH (ins:=[(x,(.vc (pO β f c)))]) (fun A=>?_) (fun G=>⟨bP (j G),trivial⟩) y z F hr kk;obtain⟨i,I,J⟩:=(q.app (A:=A)).at;exact aBU (C:=C) (T:=T) rfl u s
theorem aQj{α:Type}{C:Cd α}{xs:List α}{β:Option Nat}{c T h:Nat}{t off m:Nat}{x:Operand}{j:Int}{z:α}{q:CP}(s:ev E x=some (.vc (pE β j m off)))(u:iZ H β (hO C β c T h xs))(hm:C.n=m)(y:bR xs j=some z)(F:Ty1 S.P t)(hq:uR 1 ((C.e z).drop off)=some [q])(G:Nat.ble (off+1) C.n=true)(I:Nat.blt d S.N=true)(J:dS ops E g)(k:GL S ops κ rest H ((d,.vc q)::E) Q):GL S ops κ (⟨some d,.load t x,ty,pos,af,g⟩::rest) H E Q:=by
 subst hm;obtain⟨i,f,K⟩:=u.at;exact lZ (gZ (k:=1) i rfl f y hq (.one F) G) ⟨eD s,trivial⟩ J I k
theorem aPa{α:Type}{C:Cd α}{xs:List α}{β:Option Nat}{c T s:Nat}{t off m:Nat}{x:Operand}{j:Int}{z:α}{q:CP}(u:∀G,t0 l0 ms E outs G i x=some (.vc (pE β j m off)))(y:iZ H β (hO C β c T s xs))(hm:C.n=m)(F:bR xs j=some z)(I:Ty1 S.P t)(hq:uR 1 ((C.e z).drop off)=some [q])(J:Nat.ble (off+1) C.n=true)(K:Nat.blt d S.N=true)(L:GD l0 ms E outs i g)(O:mR ms [] i [0]=true){h:List Ou}(hr:h=.v (.vc q)::ro)(kk:DN S H l0 ms E outs n (i+1) l ro):DN S H l0 ms E outs (n+1) i (⟨some d,.load t x,ty,pos,af,g⟩::l) h:=by
 subst hm;refine jH (ins:=[(x,(.vc (pE β j C.n off)))]) (fun A=>?_) (fun G=>⟨bP (u G),trivial⟩) K L O hr kk;obtain⟨i,f,U⟩:=(y.app (A:=A)).at;exact gZ (k:=1) i rfl f F hq (.one I) J
theorem aPW{α:Type}{C:Cd α}{xs:List α}{β:Option Nat}{c T h:Nat}{t off m u:Nat}{x:Operand}{j:Int}{z:α}{qs:List CP}(q:ev E x=some (.vc (pE β j m off)))(s:iZ H β (hO C β c T h xs))(hm:C.n=m)(y:bR xs j=some z)(F:TyA S.P t u)(hq:uR u ((C.e z).drop off)=some qs)(G:Nat.ble (off+u) C.n=true)(I:Nat.blt d S.N=true)(J:dS ops E g)(k:GL S ops κ rest H ((d,.va qs)::E) Q):GL S ops κ (⟨some d,.load t x,ty,pos,af,g⟩::rest) H E Q:=by
 subst hm;obtain⟨i,f,K⟩:=s.at;exact lZ (gZ (k:=u) i rfl f y hq (.agg F (yS hq)) G) ⟨eD q,trivial⟩ J I k
theorem aQU{α:Type}{C:Cd α}{xs:List α}{β:Option Nat}{c T q:Nat}{t off m u:Nat}{x:Operand}{j:Int}{z:α}{qs:List CP}(s:∀G,t0 l0 ms E outs G i x=some (.vc (pE β j m off)))(y:iZ H β (hO C β c T q xs))(hm:C.n=m)(F:bR xs j=some z)(I:TyA S.P t u)(hq:uR u ((C.e z).drop off)=some qs)(J:Nat.ble (off+u) C.n=true)(K:Nat.blt d S.N=true)(L:GD l0 ms E outs i g)(O:mR ms [] i [0]=true){h:List Ou}(hr:h=.v (.va qs)::ro)(kk:DN S H l0 ms E outs n (i+1) l ro):DN S H l0 ms E outs (n+1) i (⟨some d,.load t x,ty,pos,af,g⟩::l) h:=by
 subst hm;refine jH (ins:=[(x,(.vc (pE β j C.n off)))]) (fun A=>?_) (fun G=>⟨bP (s G),trivial⟩) K L O hr kk;obtain⟨i,f,U⟩:=(y.app (A:=A)).at;exact gZ (k:=u) i rfl f F hq (.agg I (yS hq)) J
theorem ty1s{P:Program}{t:Nat}[h:Ty1 P t]:(P.info? t).map (·.size)=some 1:=h.s
theorem tyAs{P:Program}{t k:Nat}[h:TyA P t k]:(P.info? t).map (·.size)=some k:=h.s
theorem aMT{α:Type}{C:Cd α}{xs zs:List α}{β:Option Nat}{c T f:Nat}{t off m u:Nat}{x y:Operand}{j:Int}{z z':α}{p:VP}(s:ev E x=some (.vc (pE β j m off)))(F:ev E y=some p)(O:iZ H β (hO C β c T f xs))(hm:C.n=m)(G:bR xs j=some z)(hs:rW xs j z'=some zs)(I:(S.P.info? t).map (·.size)=some u)(hr:zW H β (hO C β c T f xs) (hO C β c T f zs) H')(hp:p.flat)(J:p.cells.length=u)(hq:x0 (C.e z) off p.cells=some (C.e z'))(k:GL S ops κ rest H' E Q):GL S ops κ (⟨none,.store t x y,ty,pos,af,none⟩::rest) H E Q:=by
 obtain⟨i,K,U,L⟩:=hr.at;subst hm;exact⟨fun q=>mI (xI i rfl K G hs I hp J hq L) ⟨eD s,eD F,trivial⟩ (k.h q) rfl rfl⟩
theorem aU4{α:Type}{C:Cd α}{xs:List α}{t e q bytes:Nat}{x:Operand}(f:ev E x=some (.vc (pS C xs)))(h:TyS S.P t e q bytes)(j:Nat.blt d S.N=true)(s:dS ops E g)(k:GL S ops κ rest H ((d,.vc (pI .i64 xs.length))::E) Q):GL S ops κ (⟨some d,.call {callee:=.builtin .len,args:=#[x],argTypes:=#[t]},ty,pos,af,g⟩::rest) H E Q:=
 lZ (aIj rfl h) ⟨eD f,trivial⟩ s j k
theorem aU7{α:Type}{C:Cd α}{xs:List α}{t e q bytes:Nat}{x:Operand}(h:∀G,t0 l0 ms E outs G i x=some (.vc (pS C xs)))(j:TyS S.P t e q bytes)(k:Nat.blt d S.N=true)(s:GD l0 ms E outs i g)(u:mR ms [] i [0]=true){f:List Ou}(hr:f=.v (.vc (pI .i64 xs.length))::ro)(kk:DN S H l0 ms E outs n (i+1) l ro):DN S H l0 ms E outs (n+1) i (⟨some d,.call {callee:=.builtin .len,args:=#[x],argTypes:=#[t]},ty,pos,af,g⟩::l) f:=
 jH (fun A=>aIj rfl j) (fun G=>⟨bP (h G),trivial⟩) k s u hr kk
theorem aVH{T T':Nat}{x y:Operand}{u v:Int}{k:IntKind}(e:ev E x=some (.vc (pI k u)))(f:ev E y=some (.vc (pI k v)))(h:Nat.blt d S.N=true)(j:dS ops E g)(k:GL S ops κ rest H ((d,.vc (pB (decide (u<v))))::E) Q):GL S ops κ (⟨some d,.binOp .lss T x y T',ty,pos,af,g⟩::rest) H E Q:=
 lZ (aHh rfl) ⟨eD e,eD f,trivial⟩ j h k
theorem aV9{T T':Nat}{x y:Operand}{u v:Int}{k:IntKind}(f:∀G,t0 l0 ms E outs G i x=some (.vc (pI k u)))(h:∀G,t0 l0 ms E outs G i y=some (.vc (pI k v)))(j:Nat.blt d S.N=true)(q:GD l0 ms E outs i g)(s:mR ms [] i [0]=true){e:List Ou}(hr:e=.v (.vc (pB (decide (u<v))))::ro)(kk:DN S H l0 ms E outs n (i+1) l ro):DN S H l0 ms E outs (n+1) i (⟨some d,.binOp .lss T x y T',ty,pos,af,g⟩::l) e:=
 jH (fun A=>aHh rfl) (fun G=>⟨bP (f G),bP (h G),trivial⟩) j q s hr kk
theorem aWm{T T':Nat}{x y:Operand}{u v:Int}{k:IntKind}{w:Bool}(f:∀G,t0 l0 ms E outs G i x=some (.vc (pI k u)))(h:∀G,t0 l0 ms E outs G i y=some (.vc (pI k v)))(j:Nat.blt d S.N=true)(q:GD l0 ms E outs i g)(s:mR ms [] i [0]=true)(hb:(decide (u<v))=w){e:List Ou}(hr:e=.v (.vc (pB w))::ro)(kk:DN S H l0 ms E outs n (i+1) l ro):DN S H l0 ms E outs (n+1) i (⟨some d,.binOp .lss T x y T',ty,pos,af,g⟩::l) e:=
 jH (fun A=>oH (aHh rfl) hb) (fun G=>⟨bP (f G),bP (h G),trivial⟩) j q s hr kk
theorem aU8{T T':Nat}{x y:Operand}{u v:Int}{k:IntKind}(e:ev E x=some (.vc (pI k u)))(f:ev E y=some (.vc (pI k v)))(h:Nat.blt d S.N=true)(j:dS ops E g)(k:GL S ops κ rest H ((d,.vc (pB (u==v)))::E) Q):GL S ops κ (⟨some d,.binOp .eql T x y T',ty,pos,af,g⟩::rest) H E Q:=
 lZ (aR2 rfl) ⟨eD e,eD f,trivial⟩ j h k
theorem aVz{T T':Nat}{x y:Operand}{u v:Int}{k:IntKind}(f:∀G,t0 l0 ms E outs G i x=some (.vc (pI k u)))(h:∀G,t0 l0 ms E outs G i y=some (.vc (pI k v)))(j:Nat.blt d S.N=true)(q:GD l0 ms E outs i g)(s:mR ms [] i [0]=true){e:List Ou}(hr:e=.v (.vc (pB (u==v)))::ro)(kk:DN S H l0 ms E outs n (i+1) l ro):DN S H l0 ms E outs (n+1) i (⟨some d,.binOp .eql T x y T',ty,pos,af,g⟩::l) e:=
 jH (fun A=>aR2 rfl) (fun G=>⟨bP (f G),bP (h G),trivial⟩) j q s hr kk
theorem aVP{T T':Nat}{x y:Operand}{u v:Int}{k:IntKind}{w:Bool}(f:∀G,t0 l0 ms E outs G i x=some (.vc (pI k u)))(h:∀G,t0 l0 ms E outs G i y=some (.vc (pI k v)))(j:Nat.blt d S.N=true)(q:GD l0 ms E outs i g)(s:mR ms [] i [0]=true)(hb:(u==v)=w){e:List Ou}(hr:e=.v (.vc (pB w))::ro)(kk:DN S H l0 ms E outs n (i+1) l ro):DN S H l0 ms E outs (n+1) i (⟨some d,.binOp .eql T x y T',ty,pos,af,g⟩::l) e:=
 jH (fun A=>oH (aR2 rfl) hb) (fun G=>⟨bP (f G),bP (h G),trivial⟩) j q s hr kk
theorem aVe{T T':Nat}{x y:Operand}{u v:Int}{k:IntKind}(e:ev E x=some (.vc (pI k u)))(f:ev E y=some (.vc (pI k v)))(h:Nat.blt d S.N=true)(j:dS ops E g)(k:GL S ops κ rest H ((d,.vc (pB (u != v)))::E) Q):GL S ops κ (⟨some d,.binOp .neq T x y T',ty,pos,af,g⟩::rest) H E Q:=
 lZ (aPN rfl) ⟨eD e,eD f,trivial⟩ j h k
theorem aVa{T T':Nat}{x y:Operand}{u v:Int}{k:IntKind}(f:∀G,t0 l0 ms E outs G i x=some (.vc (pI k u)))(h:∀G,t0 l0 ms E outs G i y=some (.vc (pI k v)))(j:Nat.blt d S.N=true)(q:GD l0 ms E outs i g)(s:mR ms [] i [0]=true){e:List Ou}(hr:e=.v (.vc (pB (u != v)))::ro)(kk:DN S H l0 ms E outs n (i+1) l ro):DN S H l0 ms E outs (n+1) i (⟨some d,.binOp .neq T x y T',ty,pos,af,g⟩::l) e:=
 jH (fun A=>aPN rfl) (fun G=>⟨bP (f G),bP (h G),trivial⟩) j q s hr kk
theorem aVY{T T':Nat}{x y:Operand}{u v:Int}{k:IntKind}{w:Bool}(f:∀G,t0 l0 ms E outs G i x=some (.vc (pI k u)))(h:∀G,t0 l0 ms E outs G i y=some (.vc (pI k v)))(j:Nat.blt d S.N=true)(q:GD l0 ms E outs i g)(s:mR ms [] i [0]=true)(hb:(u != v)=w){e:List Ou}(hr:e=.v (.vc (pB w))::ro)(kk:DN S H l0 ms E outs n (i+1) l ro):DN S H l0 ms E outs (n+1) i (⟨some d,.binOp .neq T x y T',ty,pos,af,g⟩::l) e:=
 jH (fun A=>oH (aPN rfl) hb) (fun G=>⟨bP (f G),bP (h G),trivial⟩) j q s hr kk
theorem aWo{T T':Nat}{x y:Operand}{u v:Int}{k:IntKind}(e:ev E x=some (.vc (pI k u)))(f:ev E y=some (.vc (pI k v)))(h:Nat.blt d S.N=true)(j:dS ops E g)(k:GL S ops κ rest H ((d,.vc (pB (decide (u≤v))))::E) Q):GL S ops κ (⟨some d,.binOp .leq T x y T',ty,pos,af,g⟩::rest) H E Q:=
 lZ (aR1 rfl) ⟨eD e,eD f,trivial⟩ j h k
theorem aWh{T T':Nat}{x y:Operand}{u v:Int}{k:IntKind}(f:∀G,t0 l0 ms E outs G i x=some (.vc (pI k u)))(h:∀G,t0 l0 ms E outs G i y=some (.vc (pI k v)))(j:Nat.blt d S.N=true)(q:GD l0 ms E outs i g)(s:mR ms [] i [0]=true){e:List Ou}(hr:e=.v (.vc (pB (decide (u≤v))))::ro)(kk:DN S H l0 ms E outs n (i+1) l ro):DN S H l0 ms E outs (n+1) i (⟨some d,.binOp .leq T x y T',ty,pos,af,g⟩::l) e:=
 jH (fun A=>aR1 rfl) (fun G=>⟨bP (f G),bP (h G),trivial⟩) j q s hr kk
theorem aVy{T T':Nat}{x y:Operand}{u v:Int}{k:IntKind}{w:Bool}(f:∀G,t0 l0 ms E outs G i x=some (.vc (pI k u)))(h:∀G,t0 l0 ms E outs G i y=some (.vc (pI k v)))(j:Nat.blt d S.N=true)(q:GD l0 ms E outs i g)(s:mR ms [] i [0]=true)(hb:(decide (u≤v))=w){e:List Ou}(hr:e=.v (.vc (pB w))::ro)(kk:DN S H l0 ms E outs n (i+1) l ro):DN S H l0 ms E outs (n+1) i (⟨some d,.binOp .leq T x y T',ty,pos,af,g⟩::l) e:=
 jH (fun A=>oH (aR1 rfl) hb) (fun G=>⟨bP (f G),bP (h G),trivial⟩) j q s hr kk
theorem aVn{T T':Nat}{x y:Operand}{u v:Int}{k:IntKind}(e:ev E x=some (.vc (pI k u)))(f:ev E y=some (.vc (pI k v)))(h:Nat.blt d S.N=true)(j:dS ops E g)(k:GL S ops κ rest H ((d,.vc (pB (decide (v<u))))::E) Q):GL S ops κ (⟨some d,.binOp .gtr T x y T',ty,pos,af,g⟩::rest) H E Q:=
 lZ (aNH rfl) ⟨eD e,eD f,trivial⟩ j h k
theorem aVo{T T':Nat}{x y:Operand}{u v:Int}{k:IntKind}(f:∀G,t0 l0 ms E outs G i x=some (.vc (pI k u)))(h:∀G,t0 l0 ms E outs G i y=some (.vc (pI k v)))(j:Nat.blt d S.N=true)(q:GD l0 ms E outs i g)(s:mR ms [] i [0]=true){e:List Ou}(hr:e=.v (.vc (pB (decide (v<u))))::ro)(kk:DN S H l0 ms E outs n (i+1) l ro):DN S H l0 ms E outs (n+1) i (⟨some d,.binOp .gtr T x y T',ty,pos,af,g⟩::l) e:=
 jH (fun A=>aNH rfl) (fun G=>⟨bP (f G),bP (h G),trivial⟩) j q s hr kk
theorem aV4{T T':Nat}{x y:Operand}{u v:Int}{k:IntKind}{w:Bool}(f:∀G,t0 l0 ms E outs G i x=some (.vc (pI k u)))(h:∀G,t0 l0 ms E outs G i y=some (.vc (pI k v)))(j:Nat.blt d S.N=true)(q:GD l0 ms E outs i g)(s:mR ms [] i [0]=true)(hb:(decide (v<u))=w){e:List Ou}(hr:e=.v (.vc (pB w))::ro)(kk:DN S H l0 ms E outs n (i+1) l ro):DN S H l0 ms E outs (n+1) i (⟨some d,.binOp .gtr T x y T',ty,pos,af,g⟩::l) e:=
 jH (fun A=>oH (aNH rfl) hb) (fun G=>⟨bP (f G),bP (h G),trivial⟩) j q s hr kk
theorem aWt{T T':Nat}{x y:Operand}{u v:Int}{k:IntKind}(e:ev E x=some (.vc (pI k u)))(f:ev E y=some (.vc (pI k v)))(h:Nat.blt d S.N=true)(j:dS ops E g)(k:GL S ops κ rest H ((d,.vc (pB (decide (v≤u))))::E) Q):GL S ops κ (⟨some d,.binOp .geq T x y T',ty,pos,af,g⟩::rest) H E Q:=
 lZ (aUp rfl) ⟨eD e,eD f,trivial⟩ j h k
theorem aWp{T T':Nat}{x y:Operand}{u v:Int}{k:IntKind}(f:∀G,t0 l0 ms E outs G i x=some (.vc (pI k u)))(h:∀G,t0 l0 ms E outs G i y=some (.vc (pI k v)))(j:Nat.blt d S.N=true)(q:GD l0 ms E outs i g)(s:mR ms [] i [0]=true){e:List Ou}(hr:e=.v (.vc (pB (decide (v≤u))))::ro)(kk:DN S H l0 ms E outs n (i+1) l ro):DN S H l0 ms E outs (n+1) i (⟨some d,.binOp .geq T x y T',ty,pos,af,g⟩::l) e:=
 jH (fun A=>aUp rfl) (fun G=>⟨bP (f G),bP (h G),trivial⟩) j q s hr kk
theorem aVm{T T':Nat}{x y:Operand}{u v:Int}{k:IntKind}{w:Bool}(f:∀G,t0 l0 ms E outs G i x=some (.vc (pI k u)))(h:∀G,t0 l0 ms E outs G i y=some (.vc (pI k v)))(j:Nat.blt d S.N=true)(q:GD l0 ms E outs i g)(s:mR ms [] i [0]=true)(hb:(decide (v≤u))=w){e:List Ou}(hr:e=.v (.vc (pB w))::ro)(kk:DN S H l0 ms E outs n (i+1) l ro):DN S H l0 ms E outs (n+1) i (⟨some d,.binOp .geq T x y T',ty,pos,af,g⟩::l) e:=
 jH (fun A=>oH (aUp rfl) hb) (fun G=>⟨bP (f G),bP (h G),trivial⟩) j q s hr kk
theorem aSS{T T':Nat}{x y:Operand}{u v r:Int}(e:ev E x=some (.vc (pI .i64 u)))(f:ev E y=some (.vc (pI .i64 v)))(j:Nat.blt d S.N=true)(q:dS ops E g)(h:aV (u+v)=some r)(k:GL S ops κ rest H ((d,.vc (pI .i64 r))::E) Q):GL S ops κ (⟨some d,.binOp .add T x y T',ty,pos,af,g⟩::rest) H E Q:=
 lZ (y8 rfl h) ⟨eD e,eD f,trivial⟩ q j k
theorem aSh{T T':Nat}{x y:Operand}{u v r:Int}(f:∀G,t0 l0 ms E outs G i x=some (.vc (pI .i64 u)))(j:∀G,t0 l0 ms E outs G i y=some (.vc (pI .i64 v)))(k:Nat.blt d S.N=true)(q:GD l0 ms E outs i g)(s:mR ms [] i [0]=true)(h:aV (u+v)=some r){e:List Ou}(hr:e=.v (.vc (pI .i64 r))::ro)(kk:DN S H l0 ms E outs n (i+1) l ro):DN S H l0 ms E outs (n+1) i (⟨some d,.binOp .add T x y T',ty,pos,af,g⟩::l) e:=
 jH (fun A=>y8 rfl h) (fun G=>⟨bP (f G),bP (j G),trivial⟩) k q s hr kk
theorem aSK{T T':Nat}{x y:Operand}{u v r:Int}(e:ev E x=some (.vc (pI .i64 u)))(f:ev E y=some (.vc (pI .i64 v)))(j:Nat.blt d S.N=true)(q:dS ops E g)(h:aV (u-v)=some r)(k:GL S ops κ rest H ((d,.vc (pI .i64 r))::E) Q):GL S ops κ (⟨some d,.binOp .sub T x y T',ty,pos,af,g⟩::rest) H E Q:=
 lZ (aQr rfl h) ⟨eD e,eD f,trivial⟩ q j k
theorem aTn{T T':Nat}{x y:Operand}{u v r:Int}(f:∀G,t0 l0 ms E outs G i x=some (.vc (pI .i64 u)))(j:∀G,t0 l0 ms E outs G i y=some (.vc (pI .i64 v)))(k:Nat.blt d S.N=true)(q:GD l0 ms E outs i g)(s:mR ms [] i [0]=true)(h:aV (u-v)=some r){e:List Ou}(hr:e=.v (.vc (pI .i64 r))::ro)(kk:DN S H l0 ms E outs n (i+1) l ro):DN S H l0 ms E outs (n+1) i (⟨some d,.binOp .sub T x y T',ty,pos,af,g⟩::l) e:=
 jH (fun A=>aQr rfl h) (fun G=>⟨bP (f G),bP (j G),trivial⟩) k q s hr kk
theorem aSo{T T':Nat}{x y:Operand}{u v r:Int}(e:ev E x=some (.vc (pI .i64 u)))(f:ev E y=some (.vc (pI .i64 v)))(j:Nat.blt d S.N=true)(q:dS ops E g)(h:aV (u*v)=some r)(k:GL S ops κ rest H ((d,.vc (pI .i64 r))::E) Q):GL S ops κ (⟨some d,.binOp .mul T x y T',ty,pos,af,g⟩::rest) H E Q:=
 lZ (aGS rfl h) ⟨eD e,eD f,trivial⟩ q j k
theorem aSJ{T T':Nat}{x y:Operand}{u v r:Int}(f:∀G,t0 l0 ms E outs G i x=some (.vc (pI .i64 u)))(j:∀G,t0 l0 ms E outs G i y=some (.vc (pI .i64 v)))(k:Nat.blt d S.N=true)(q:GD l0 ms E outs i g)(s:mR ms [] i [0]=true)(h:aV (u*v)=some r){e:List Ou}(hr:e=.v (.vc (pI .i64 r))::ro)(kk:DN S H l0 ms E outs n (i+1) l ro):DN S H l0 ms E outs (n+1) i (⟨some d,.binOp .mul T x y T',ty,pos,af,g⟩::l) e:=
 jH (fun A=>aGS rfl h) (fun G=>⟨bP (f G),bP (j G),trivial⟩) k q s hr kk
theorem aTz{T T':Nat}{x y:Operand}{u v r:Int}(e:ev E x=some (.vc (pI .i64 u)))(f:ev E y=some (.vc (pI .i64 v)))(j:Nat.blt d S.N=true)(q:dS ops E g)(h:chq u v=some r)(k:GL S ops κ rest H ((d,.vc (pI .i64 r))::E) Q):GL S ops κ (⟨some d,.binOp .quo T x y T',ty,pos,af,g⟩::rest) H E Q:=
 lZ (aMD rfl h) ⟨eD e,eD f,trivial⟩ q j k
theorem aSl{T T':Nat}{x y:Operand}{u v r:Int}(f:∀G,t0 l0 ms E outs G i x=some (.vc (pI .i64 u)))(j:∀G,t0 l0 ms E outs G i y=some (.vc (pI .i64 v)))(k:Nat.blt d S.N=true)(q:GD l0 ms E outs i g)(s:mR ms [] i [0]=true)(h:chq u v=some r){e:List Ou}(hr:e=.v (.vc (pI .i64 r))::ro)(kk:DN S H l0 ms E outs n (i+1) l ro):DN S H l0 ms E outs (n+1) i (⟨some d,.binOp .quo T x y T',ty,pos,af,g⟩::l) e:=
 jH (fun A=>aMD rfl h) (fun G=>⟨bP (f G),bP (j G),trivial⟩) k q s hr kk
theorem aTk{T T':Nat}{x y:Operand}{u v r:Int}{k:IntKind}(e:ev E x=some (.vc (pI k u)))(f:ev E y=some (.vc (pI k v)))(j:Nat.blt d S.N=true)(q:dS ops E g)(h:chr u v=some r)(k:GL S ops κ rest H ((d,.vc (pI k r))::E) Q):GL S ops κ (⟨some d,.binOp .rem T x y T',ty,pos,af,g⟩::rest) H E Q:=
 lZ (aHQ rfl h) ⟨eD e,eD f,trivial⟩ q j k
theorem aS8{T T':Nat}{x y:Operand}{u v r:Int}{k:IntKind}(f:∀G,t0 l0 ms E outs G i x=some (.vc (pI k u)))(j:∀G,t0 l0 ms E outs G i y=some (.vc (pI k v)))(q:Nat.blt d S.N=true)(s:GD l0 ms E outs i g)(t:mR ms [] i [0]=true)(h:chr u v=some r){e:List Ou}(hr:e=.v (.vc (pI k r))::ro)(kk:DN S H l0 ms E outs n (i+1) l ro):DN S H l0 ms E outs (n+1) i (⟨some d,.binOp .rem T x y T',ty,pos,af,g⟩::l) e:=
 jH (fun A=>aHQ rfl h) (fun G=>⟨bP (f G),bP (j G),trivial⟩) q s t hr kk
theorem aTw{T:Nat}{x:Operand}{u:Bool}(e:ev E x=some (.vc (pB u)))(f:Nat.blt d S.N=true)(h:dS ops E g)(k:GL S ops κ rest H ((d,.vc (pB (!u)))::E) Q):GL S ops κ (⟨some d,.unOp .not T x,ty,pos,af,g⟩::rest) H E Q:=
 lZ (aLU rfl) ⟨eD e,trivial⟩ h f k
theorem aSN{T:Nat}{x:Operand}{u:Bool}(f:∀G,t0 l0 ms E outs G i x=some (.vc (pB u)))(h:Nat.blt d S.N=true)(j:GD l0 ms E outs i g)(k:mR ms [] i [0]=true){e:List Ou}(hr:e=.v (.vc (pB (!u)))::ro)(kk:DN S H l0 ms E outs n (i+1) l ro):DN S H l0 ms E outs (n+1) i (⟨some d,.unOp .not T x,ty,pos,af,g⟩::l) e:=
 jH (fun A=>aLU rfl) (fun G=>⟨bP (f G),trivial⟩) h j k hr kk
theorem aUv{T:Nat}{x:Operand}{u:Bool}{w:Bool}(f:∀G,t0 l0 ms E outs G i x=some (.vc (pB u)))(h:Nat.blt d S.N=true)(j:GD l0 ms E outs i g)(k:mR ms [] i [0]=true)(hb:(!u)=w){e:List Ou}(hr:e=.v (.vc (pB w))::ro)(kk:DN S H l0 ms E outs n (i+1) l ro):DN S H l0 ms E outs (n+1) i (⟨some d,.unOp .not T x,ty,pos,af,g⟩::l) e:=
 jH (fun A=>oH (aLU rfl) hb) (fun G=>⟨bP (f G),trivial⟩) h j k hr kk
theorem aTq{T:Nat}{x:Operand}{u r:Int}(e:ev E x=some (.vc (pI .i64 u)))(f:Nat.blt d S.N=true)(j:dS ops E g)(h:aV (-u)=some r)(k:GL S ops κ rest H ((d,.vc (pI .i64 r))::E) Q):GL S ops κ (⟨some d,.unOp .neg T x,ty,pos,af,g⟩::rest) H E Q:=
 lZ (aSs rfl h) ⟨eD e,trivial⟩ j f k
theorem aS6{T:Nat}{x:Operand}{u r:Int}(f:∀G,t0 l0 ms E outs G i x=some (.vc (pI .i64 u)))(j:Nat.blt d S.N=true)(k:GD l0 ms E outs i g)(q:mR ms [] i [0]=true)(h:aV (-u)=some r){e:List Ou}(hr:e=.v (.vc (pI .i64 r))::ro)(kk:DN S H l0 ms E outs n (i+1) l ro):DN S H l0 ms E outs (n+1) i (⟨some d,.unOp .neg T x,ty,pos,af,g⟩::l) e:=
 jH (fun A=>aSs rfl h) (fun G=>⟨bP (f G),trivial⟩) j k q hr kk
theorem aS5{x:Operand}{p q:VP}(e:ev E x=some (.t2 p q))(f:Nat.blt d S.N=true)(h:dS ops E g)(k:GL S ops κ rest H ((d,p)::E) Q):GL S ops κ (⟨some d,.extract x 0,ty,pos,af,g⟩::rest) H E Q:=
 lZ (aI6 rfl) ⟨eD e,trivial⟩ h f k
theorem aSy{x:Operand}{p q:VP}(f:∀G,t0 l0 ms E outs G i x=some (.t2 p q))(h:Nat.blt d S.N=true)(j:GD l0 ms E outs i g)(k:mR ms [] i [0]=true){e:List Ou}(hr:e=.v (p)::ro)(kk:DN S H l0 ms E outs n (i+1) l ro):DN S H l0 ms E outs (n+1) i (⟨some d,.extract x 0,ty,pos,af,g⟩::l) e:=
 jH (fun A=>aI6 rfl) (fun G=>⟨bP (f G),trivial⟩) h j k hr kk
theorem aTc{x:Operand}{p q:VP}(e:ev E x=some (.t2 p q))(f:Nat.blt d S.N=true)(h:dS ops E g)(k:GL S ops κ rest H ((d,q)::E) Q):GL S ops κ (⟨some d,.extract x 1,ty,pos,af,g⟩::rest) H E Q:=
 lZ (aIe rfl) ⟨eD e,trivial⟩ h f k
theorem aTF{x:Operand}{p q:VP}(f:∀G,t0 l0 ms E outs G i x=some (.t2 p q))(h:Nat.blt d S.N=true)(j:GD l0 ms E outs i g)(k:mR ms [] i [0]=true){e:List Ou}(hr:e=.v (q)::ro)(kk:DN S H l0 ms E outs n (i+1) l ro):DN S H l0 ms E outs (n+1) i (⟨some d,.extract x 1,ty,pos,af,g⟩::l) e:=
 jH (fun A=>aIe rfl) (fun G=>⟨bP (f G),trivial⟩) h j k hr kk
theorem aTm{x:Operand}{p q r:VP}(e:ev E x=some (.t3 p q r))(f:Nat.blt d S.N=true)(h:dS ops E g)(k:GL S ops κ rest H ((d,p)::E) Q):GL S ops κ (⟨some d,.extract x 0,ty,pos,af,g⟩::rest) H E Q:=
 lZ (aMs rfl) ⟨eD e,trivial⟩ h f k
theorem aSW{x:Operand}{p q r:VP}(f:∀G,t0 l0 ms E outs G i x=some (.t3 p q r))(h:Nat.blt d S.N=true)(j:GD l0 ms E outs i g)(k:mR ms [] i [0]=true){e:List Ou}(hr:e=.v (p)::ro)(kk:DN S H l0 ms E outs n (i+1) l ro):DN S H l0 ms E outs (n+1) i (⟨some d,.extract x 0,ty,pos,af,g⟩::l) e:=
 jH (fun A=>aMs rfl) (fun G=>⟨bP (f G),trivial⟩) h j k hr kk
theorem aSm{x:Operand}{p q r:VP}(e:ev E x=some (.t3 p q r))(f:Nat.blt d S.N=true)(h:dS ops E g)(k:GL S ops κ rest H ((d,q)::E) Q):GL S ops κ (⟨some d,.extract x 1,ty,pos,af,g⟩::rest) H E Q:=
 lZ (aMo rfl) ⟨eD e,trivial⟩ h f k
theorem aSj{x:Operand}{p q r:VP}(f:∀G,t0 l0 ms E outs G i x=some (.t3 p q r))(h:Nat.blt d S.N=true)(j:GD l0 ms E outs i g)(k:mR ms [] i [0]=true){e:List Ou}(hr:e=.v (q)::ro)(kk:DN S H l0 ms E outs n (i+1) l ro):DN S H l0 ms E outs (n+1) i (⟨some d,.extract x 1,ty,pos,af,g⟩::l) e:=
 jH (fun A=>aMo rfl) (fun G=>⟨bP (f G),trivial⟩) h j k hr kk
theorem aSV{x:Operand}{p q r:VP}(e:ev E x=some (.t3 p q r))(f:Nat.blt d S.N=true)(h:dS ops E g)(k:GL S ops κ rest H ((d,r)::E) Q):GL S ops κ (⟨some d,.extract x 2,ty,pos,af,g⟩::rest) H E Q:=
 lZ (aNf rfl) ⟨eD e,trivial⟩ h f k
theorem aSq{x:Operand}{p q r:VP}(f:∀G,t0 l0 ms E outs G i x=some (.t3 p q r))(h:Nat.blt d S.N=true)(j:GD l0 ms E outs i g)(k:mR ms [] i [0]=true){e:List Ou}(hr:e=.v (r)::ro)(kk:DN S H l0 ms E outs n (i+1) l ro):DN S H l0 ms E outs (n+1) i (⟨some d,.extract x 2,ty,pos,af,g⟩::l) e:=
 jH (fun A=>aNf rfl) (fun G=>⟨bP (f G),trivial⟩) h j k hr kk
theorem aV3{x y:Operand}{u v:Int}{ts:Array TypeId}(e:ev E x=some (.vc (pI .i64 u)))(f:ev E y=some (.vc (pI .i64 v)))(h:Nat.blt d S.N=true)(j:dS ops E g)(k:GL S ops κ rest H ((d,.vc (pI .i64 (min u v)))::E) Q):GL S ops κ (⟨some d,.call {callee:=.builtin .min,args:=#[x,y],argTypes:=ts},ty,pos,af,g⟩::rest) H E Q:=
 lZ (aS2 rfl) ⟨eD e,eD f,trivial⟩ j h k
theorem aUZ{x y:Operand}{u v:Int}{ts:Array TypeId}(f:∀G,t0 l0 ms E outs G i x=some (.vc (pI .i64 u)))(h:∀G,t0 l0 ms E outs G i y=some (.vc (pI .i64 v)))(j:Nat.blt d S.N=true)(k:GD l0 ms E outs i g)(q:mR ms [] i [0]=true){e:List Ou}(hr:e=.v (.vc (pI .i64 (min u v)))::ro)(kk:DN S H l0 ms E outs n (i+1) l ro):DN S H l0 ms E outs (n+1) i (⟨some d,.call {callee:=.builtin .min,args:=#[x,y],argTypes:=ts},ty,pos,af,g⟩::l) e:=
 jH (fun A=>aS2 rfl) (fun G=>⟨bP (f G),bP (h G),trivial⟩) j k q hr kk
theorem aWb{x y:Operand}{u v:Int}{ts:Array TypeId}(e:ev E x=some (.vc (pI .i64 u)))(f:ev E y=some (.vc (pI .i64 v)))(h:Nat.blt d S.N=true)(j:dS ops E g)(k:GL S ops κ rest H ((d,.vc (pI .i64 (max u v)))::E) Q):GL S ops κ (⟨some d,.call {callee:=.builtin .max,args:=#[x,y],argTypes:=ts},ty,pos,af,g⟩::rest) H E Q:=
 lZ (aTg rfl) ⟨eD e,eD f,trivial⟩ j h k
theorem aU2{x y:Operand}{u v:Int}{ts:Array TypeId}(f:∀G,t0 l0 ms E outs G i x=some (.vc (pI .i64 u)))(h:∀G,t0 l0 ms E outs G i y=some (.vc (pI .i64 v)))(j:Nat.blt d S.N=true)(k:GD l0 ms E outs i g)(q:mR ms [] i [0]=true){e:List Ou}(hr:e=.v (.vc (pI .i64 (max u v)))::ro)(kk:DN S H l0 ms E outs n (i+1) l ro):DN S H l0 ms E outs (n+1) i (⟨some d,.call {callee:=.builtin .max,args:=#[x,y],argTypes:=ts},ty,pos,af,g⟩::l) e:=
 jH (fun A=>aTg rfl) (fun G=>⟨bP (f G),bP (h G),trivial⟩) j k q hr kk
theorem aU1{α:Type}{C:Cd α}{xs zs:List α}{t e bytes:Nat}{x y:Operand}{f:Int}{k:IntKind}(j:ev E x=some (.vc (pS C xs)))(q:ev E y=some (.vc (pI k f)))(s:TyS S.P t e C.n bytes)(u:Nat.blt d S.N=true)(z:dS ops E g)(h:slL xs 0 f=some zs)(k:GL S ops κ rest H ((d,.vc (pS C zs))::E) Q):GL S ops κ (⟨some d,.slice t x none (some y) none,ty,pos,af,g⟩::rest) H E Q:=
 lZ (aFg rfl s h) ⟨eD j,eD q,trivial⟩ z u k
theorem aVs{α:Type}{C:Cd α}{xs zs:List α}{t e bytes:Nat}{x y:Operand}{f:Int}{k:IntKind}(q:∀G,t0 l0 ms E outs G i x=some (.vc (pS C xs)))(s:∀G,t0 l0 ms E outs G i y=some (.vc (pI k f)))(u:TyS S.P t e C.n bytes)(z:Nat.blt d S.N=true)(F:GD l0 ms E outs i g)(I:mR ms [] i [0]=true)(h:slL xs 0 f=some zs){j:List Ou}(hr:j=.v (.vc (pS C zs))::ro)(kk:DN S H l0 ms E outs n (i+1) l ro):DN S H l0 ms E outs (n+1) i (⟨some d,.slice t x none (some y) none,ty,pos,af,g⟩::l) j:=
 jH (fun A=>aFg rfl u h) (fun G=>⟨bP (q G),bP (s G),trivial⟩) z F I hr kk
theorem aWg{α:Type}{C:Cd α}{xs zs:List α}{t e bytes:Nat}{x y:Operand}{lo:Int}{k:IntKind}(f:ev E x=some (.vc (pS C xs)))(j:ev E y=some (.vc (pI k lo)))(q:TyS S.P t e C.n bytes)(s:Nat.blt d S.N=true)(u:dS ops E g)(h:slL xs lo xs.length=some zs)(k:GL S ops κ rest H ((d,.vc (pS C zs))::E) Q):GL S ops κ (⟨some d,.slice t x (some y) none none,ty,pos,af,g⟩::rest) H E Q:=
 lZ (aPS rfl q h) ⟨eD f,eD j,trivial⟩ u s k
theorem aVI{α:Type}{C:Cd α}{xs zs:List α}{t e bytes:Nat}{x y:Operand}{lo:Int}{k:IntKind}(j:∀G,t0 l0 ms E outs G i x=some (.vc (pS C xs)))(q:∀G,t0 l0 ms E outs G i y=some (.vc (pI k lo)))(s:TyS S.P t e C.n bytes)(u:Nat.blt d S.N=true)(z:GD l0 ms E outs i g)(F:mR ms [] i [0]=true)(h:slL xs lo xs.length=some zs){f:List Ou}(hr:f=.v (.vc (pS C zs))::ro)(kk:DN S H l0 ms E outs n (i+1) l ro):DN S H l0 ms E outs (n+1) i (⟨some d,.slice t x (some y) none none,ty,pos,af,g⟩::l) f:=
 jH (fun A=>aPS rfl s h) (fun G=>⟨bP (j G),bP (q G),trivial⟩) u z F hr kk
theorem aSF{α:Type}{C:Cd α}{xs zs:List α}{t e bytes:Nat}{x y z:Operand}{lo f:Int}{k j:IntKind}(q:ev E x=some (.vc (pS C xs)))(s:ev E y=some (.vc (pI k lo)))(u:ev E z=some (.vc (pI j f)))(F:TyS S.P t e C.n bytes)(G:Nat.blt d S.N=true)(I:dS ops E g)(h:slL xs lo f=some zs)(k:GL S ops κ rest H ((d,.vc (pS C zs))::E) Q):GL S ops κ (⟨some d,.slice t x (some y) (some z) none,ty,pos,af,g⟩::rest) H E Q:=
 lZ (aML rfl F h) ⟨eD q,eD s,eD u,trivial⟩ I G k
theorem aTi{α:Type}{C:Cd α}{xs zs:List α}{t e bytes:Nat}{x y z:Operand}{lo f:Int}{k q:IntKind}(s:∀G,t0 l0 ms E outs G i x=some (.vc (pS C xs)))(u:∀G,t0 l0 ms E outs G i y=some (.vc (pI k lo)))(F:∀G,t0 l0 ms E outs G i z=some (.vc (pI q f)))(I:TyS S.P t e C.n bytes)(J:Nat.blt d S.N=true)(K:GD l0 ms E outs i g)(L:mR ms [] i [0]=true)(h:slL xs lo f=some zs){j:List Ou}(hr:j=.v (.vc (pS C zs))::ro)(kk:DN S H l0 ms E outs n (i+1) l ro):DN S H l0 ms E outs (n+1) i (⟨some d,.slice t x (some y) (some z) none,ty,pos,af,g⟩::l) j:=
 jH (fun A=>aML rfl I h) (fun G=>⟨bP (s G),bP (u G),bP (F G),trivial⟩) J K L hr kk
theorem aVJ{c x y:Operand}{p:VP}(hc:ev E c=some (.vc (pB true)))(e:ev E x=some p)(f:Nat.blt d S.N=true)(h:dS ops E g)(k:GL S ops κ rest H ((d,p)::E) Q):GL S ops κ (⟨some d,.pick c x y,ty,pos,af,g⟩::rest) H E Q:=
 lZ (xU rfl) ⟨eD hc,eD e,trivial⟩ h f k
theorem aWx{c x y:Operand}{p:VP}(hc:∀G,t0 l0 ms E outs G i c=some (.vc (pB true)))(f:∀G,t0 l0 ms E outs G i x=some p)(h:Nat.blt d S.N=true)(j:GD l0 ms E outs i g)(k:mR ms [] i [0]=true){e:List Ou}(hr:e=.v (p)::ro)(kk:DN S H l0 ms E outs n (i+1) l ro):DN S H l0 ms E outs (n+1) i (⟨some d,.pick c x y,ty,pos,af,g⟩::l) e:=
 jH (fun A=>xU rfl) (fun G=>⟨bP (hc G),bP (f G),trivial⟩) h j k hr kk
theorem aVF{c x y:Operand}{p:VP}(hc:ev E c=some (.vc (pB false)))(e:ev E y=some p)(f:Nat.blt d S.N=true)(h:dS ops E g)(k:GL S ops κ rest H ((d,p)::E) Q):GL S ops κ (⟨some d,.pick c x y,ty,pos,af,g⟩::rest) H E Q:=
 lZ (aBD rfl) ⟨eD hc,eD e,trivial⟩ h f k
theorem aWu{c x y:Operand}{p:VP}(hc:∀G,t0 l0 ms E outs G i c=some (.vc (pB false)))(f:∀G,t0 l0 ms E outs G i y=some p)(h:Nat.blt d S.N=true)(j:GD l0 ms E outs i g)(k:mR ms [] i [0]=true){e:List Ou}(hr:e=.v (p)::ro)(kk:DN S H l0 ms E outs n (i+1) l ro):DN S H l0 ms E outs (n+1) i (⟨some d,.pick c x y,ty,pos,af,g⟩::l) e:=
 jH (fun A=>aBD rfl) (fun G=>⟨bP (hc G),bP (f G),trivial⟩) h j k hr kk
theorem aWa{x:Operand}{β:Option Nat}{off:Nat}(e:ev E x=some (.vc (pP β off)))(f:Nat.blt d S.N=true)(h:dS ops E g)(k:GL S ops κ rest H ((d,.vc (pP β off))::E) Q):GL S ops κ (⟨some d,.nilCheck x,ty,pos,af,g⟩::rest) H E Q:=
 lZ (sM rfl) ⟨eD e,trivial⟩ h f k
theorem aVv{x:Operand}{β:Option Nat}{off:Nat}(f:∀G,t0 l0 ms E outs G i x=some (.vc (pP β off)))(h:Nat.blt d S.N=true)(j:GD l0 ms E outs i g)(k:mR ms [] i [0]=true){e:List Ou}(hr:e=.v (.vc (pP β off))::ro)(kk:DN S H l0 ms E outs n (i+1) l ro):DN S H l0 ms E outs (n+1) i (⟨some d,.nilCheck x,ty,pos,af,g⟩::l) e:=
 jH (fun A=>sM rfl) (fun G=>⟨bP (f G),trivial⟩) h j k hr kk
theorem aTu{x:Operand}{β:Option Nat}{j:Int}{n f:Nat}(e:ev E x=some (.vc (pE β j n f)))(h:Nat.blt d S.N=true)(q:dS ops E g)(k:GL S ops κ rest H ((d,.vc (pE β j n f))::E) Q):GL S ops κ (⟨some d,.nilCheck x,ty,pos,af,g⟩::rest) H E Q:=
 lZ (aQq rfl) ⟨eD e,trivial⟩ q h k
theorem aSZ{x:Operand}{β:Option Nat}{j:Int}{n f:Nat}(h:∀G,t0 l0 ms E outs G i x=some (.vc (pE β j n f)))(k:Nat.blt d S.N=true)(q:GD l0 ms E outs i g)(s:mR ms [] i [0]=true){e:List Ou}(hr:e=.v (.vc (pE β j n f))::ro)(kk:DN S H l0 ms E outs n (i+1) l ro):DN S H l0 ms E outs (n+1) i (⟨some d,.nilCheck x,ty,pos,af,g⟩::l) e:=
 jH (fun A=>aQq rfl) (fun G=>⟨bP (h G),trivial⟩) k q s hr kk
theorem aTl{x:Operand}{ps:List CP}(e:ev E x=some (.vc (pM ps)))(f:Nat.blt d S.N=true)(h:dS ops E g)(k:GL S ops κ rest H ((d,.vc (pM ps))::E) Q):GL S ops κ (⟨some d,.nilCheck x,ty,pos,af,g⟩::rest) H E Q:=
 lZ (aPc rfl) ⟨eD e,trivial⟩ h f k
theorem aSH{x:Operand}{ps:List CP}(f:∀G,t0 l0 ms E outs G i x=some (.vc (pM ps)))(h:Nat.blt d S.N=true)(j:GD l0 ms E outs i g)(k:mR ms [] i [0]=true){e:List Ou}(hr:e=.v (.vc (pM ps))::ro)(kk:DN S H l0 ms E outs n (i+1) l ro):DN S H l0 ms E outs (n+1) i (⟨some d,.nilCheck x,ty,pos,af,g⟩::l) e:=
 jH (fun A=>aPc rfl) (fun G=>⟨bP (f G),trivial⟩) h j k hr kk
theorem aOF{f:Nat}{xs:List Operand}{ps:List VP}{post:VP}{ts:Array TypeId}(he:evs E xs=some ps)(e:Nat.blt d S.N=true)(h:dS ops E g)(c:Ct S.P f ps post)(k:GL S ops κ rest H ((d,post)::E) Q):GL S ops κ (⟨some d,.call {callee:=.value (.func f),args:=xs.toArray,argTypes:=ts},ty,pos,af,g⟩::rest) H E Q:=
 lZ (bO rfl c (aIo he).2) (aIo he).1 h e k
theorem aTA{T:Nat}{zs:List CP}(f:TyZ S.P T zs)(h:Nat.blt d S.N=true){e:List Ou}(hr:e=.a T zs::ro)(k:DN S H l0 ms E outs n (i+1) l ro):DN S H l0 ms E outs (n+1) i (⟨some d,.alloc T,ty,pos,af,none⟩::l) e:=by
 subst hr;exact aIa h (.alc f rfl rfl rfl) k
theorem aPX{f:Nat}{xs:List Operand}{ps:List VP}{post:VP}{ts:Array TypeId}(he:∀G,aTY l0 ms E outs G i xs=some ps)(h:Nat.blt d S.N=true)(j:GD l0 ms E outs i g)(q:mR ms [] i [0]=true)(c:Ct S.P f ps post){e:List Ou}(hr:e=.v post::ro)(k:DN S H l0 ms E outs n (i+1) l ro):DN S H l0 ms E outs (n+1) i (⟨some d,.call {callee:=.value (.func f),args:=xs.toArray,argTypes:=ts},ty,pos,af,g⟩::l) e:=
 jH (fun A=>bO rfl c (aFT (he fun _=>(none,0))).2) (fun G=>(aFT (he G)).1) h j q hr k
theorem aU6{t off:Nat}{x y:Operand}{β:Option Nat}{e:HA}{p:VP}{ps:List CP}(f:ev E x=some (.vc (pP β off)))(j:ev E y=some p)(u:Ty1 S.P t)(z:zW H β e ⟨e.β,e.c,e.T,e.sz,e.n,ps⟩ H')(hp:p.flat)(F:p.cells.length=1)(hq:x0 e.ps off p.cells=some ps)(k:GL S ops κ rest H' E Q):GL S ops κ (⟨none,.store t x y,ty,pos,af,none⟩::rest) H E Q:=by
 obtain⟨i,G,I,J⟩:=z.at;exact⟨fun q=>mI (t_s i rfl G I u.s hp F hq J) ⟨eD f,eD j,trivial⟩ (k.h q) rfl rfl⟩
theorem aWv{t off r:Nat}{x y:Operand}{β:Option Nat}{e:HA}{p:VP}{ps:List CP}(f:ev E x=some (.vc (pP β off)))(j:ev E y=some p)(u:TyA S.P t r)(z:zW H β e ⟨e.β,e.c,e.T,e.sz,e.n,ps⟩ H')(hp:p.flat)(F:p.cells.length=r)(hq:x0 e.ps off p.cells=some ps)(k:GL S ops κ rest H' E Q):GL S ops κ (⟨none,.store t x y,ty,pos,af,none⟩::rest) H E Q:=by
 obtain⟨i,G,I,J⟩:=z.at;exact⟨fun q=>mI (t_s i rfl G I u.s hp F hq J) ⟨eD f,eD j,trivial⟩ (k.h q) rfl rfl⟩
theorem dr{id:Nat}(ms:List Nat)(m n:Nat)(outs:List Ou)(k:∀bs G,WL S l.toArray κ (l.drop outs.length) (aDY bs 0 outs++H) (aD4 bs G 0 l outs++E))(hops:DN S H l ms E outs m 0 l outs:=by
 repeat (first
  |(apply aVl;exact fun _=>rfl;exact rfl;(first|exact GD.p|exact GD.g rfl (fun _=>rfl));exact rfl;exact rfl)
  |(apply aWi;exact fun _=>rfl;exact rfl;(first|exact GD.p|exact GD.g rfl (fun _=>rfl));exact rfl;exact rfl)
  |(apply e_n;exact rfl;exact fun _=>rfl;exact rfl;exact rfl;exact rfl)
  |(apply aVB;exact fun _=>rfl;exact fun _=>rfl;exact inferInstance;exact rfl;(first|exact GD.p|exact GD.g rfl (fun _=>rfl));exact rfl;(with_reducible assumption);exact rfl)
  |(apply aSw;exact fun _=>rfl;exact inferInstance;exact rfl;(first|exact GD.p|exact GD.g rfl (fun _=>rfl));exact rfl;exact rfl)
  |(apply aUY;exact fun _=>rfl;exact inferInstance;exact rfl;(first|exact GD.p|exact GD.g rfl (fun _=>rfl));exact rfl;exact rfl)
  |(apply aSP;exact fun _=>rfl;exact inferInstance;exact rfl;(first|exact GD.p|exact GD.g rfl (fun _=>rfl));exact rfl;exact rfl)
  |(apply aSz;exact fun _=>rfl;exact inferInstance;exact rfl;exact rfl;(first|exact GD.p|exact GD.g rfl (fun _=>rfl));exact rfl;exact rfl)
  |(apply aTa;exact fun _=>rfl;exact inferInstance;exact rfl;exact rfl;(first|exact GD.p|exact GD.g rfl (fun _=>rfl));exact rfl;exact rfl)
  |(apply aVO;exact fun _=>rfl;exact inferInstance;(repeat (first|exact iZ.a rfl|apply iZ.b));exact rfl;exact rfl;(first|exact GD.p|exact GD.g rfl (fun _=>rfl));exact rfl;exact rfl)
  |(apply aVK;exact fun _=>rfl;exact inferInstance;(repeat (first|exact iZ.a rfl|apply iZ.b));exact rfl;exact rfl;(first|exact GD.p|exact GD.g rfl (fun _=>rfl));exact rfl;exact rfl)
  |(apply aSk;exact fun _=>rfl;exact fun _=>rfl;(repeat (first|exact iZ.a rfl|apply iZ.b));(first|exact rfl|with_reducible assumption|exact bI (by with_reducible assumption) (by first|with_reducible assumption|exact rfl));exact inferInstance;exact rfl;(first|exact GD.p|exact GD.g rfl (fun _=>rfl));exact rfl;(with_reducible assumption);exact rfl)
  |(apply aSC;exact fun _=>rfl;(repeat (first|exact iZ.a rfl|apply iZ.b));(first|exact rfl|with_reducible assumption|exact bI (by with_reducible assumption) (by first|with_reducible assumption|exact rfl));exact inferInstance;exact rfl;(first|exact GD.p|exact GD.g rfl (fun _=>rfl));exact rfl;exact rfl)
  |(apply aPa;exact fun _=>rfl;(repeat (first|exact iZ.a rfl|apply iZ.b));exact rfl;(with_reducible assumption);exact inferInstance;exact rfl;exact rfl;exact rfl;(first|exact GD.p|exact GD.g rfl (fun _=>rfl));exact rfl;exact rfl)
  |(apply aQU;exact fun _=>rfl;(repeat (first|exact iZ.a rfl|apply iZ.b));exact rfl;(with_reducible assumption);exact inferInstance;exact rfl;exact rfl;exact rfl;(first|exact GD.p|exact GD.g rfl (fun _=>rfl));exact rfl;exact rfl)
  |(apply aU7;exact fun _=>rfl;exact inferInstance;exact rfl;(first|exact GD.p|exact GD.g rfl (fun _=>rfl));exact rfl;exact rfl)
  |(apply aV9;exact fun _=>rfl;exact fun _=>rfl;exact rfl;(first|exact GD.p|exact GD.g rfl (fun _=>rfl));exact rfl;exact rfl)
  |(apply aVz;exact fun _=>rfl;exact fun _=>rfl;exact rfl;(first|exact GD.p|exact GD.g rfl (fun _=>rfl));exact rfl;exact rfl)
  |(apply aVa;exact fun _=>rfl;exact fun _=>rfl;exact rfl;(first|exact GD.p|exact GD.g rfl (fun _=>rfl));exact rfl;exact rfl)
  |(apply aWh;exact fun _=>rfl;exact fun _=>rfl;exact rfl;(first|exact GD.p|exact GD.g rfl (fun _=>rfl));exact rfl;exact rfl)
  |(apply aVo;exact fun _=>rfl;exact fun _=>rfl;exact rfl;(first|exact GD.p|exact GD.g rfl (fun _=>rfl));exact rfl;exact rfl)
  |(apply aWp;exact fun _=>rfl;exact fun _=>rfl;exact rfl;(first|exact GD.p|exact GD.g rfl (fun _=>rfl));exact rfl;exact rfl)
  |(apply aSh;exact fun _=>rfl;exact fun _=>rfl;exact rfl;(first|exact GD.p|exact GD.g rfl (fun _=>rfl));exact rfl;(with_reducible assumption);exact rfl)
  |(apply aTn;exact fun _=>rfl;exact fun _=>rfl;exact rfl;(first|exact GD.p|exact GD.g rfl (fun _=>rfl));exact rfl;(with_reducible assumption);exact rfl)
  |(apply aSJ;exact fun _=>rfl;exact fun _=>rfl;exact rfl;(first|exact GD.p|exact GD.g rfl (fun _=>rfl));exact rfl;(with_reducible assumption);exact rfl)
  |(apply aSl;exact fun _=>rfl;exact fun _=>rfl;exact rfl;(first|exact GD.p|exact GD.g rfl (fun _=>rfl));exact rfl;(with_reducible assumption);exact rfl)
  |(apply aS8;exact fun _=>rfl;exact fun _=>rfl;exact rfl;(first|exact GD.p|exact GD.g rfl (fun _=>rfl));exact rfl;(with_reducible assumption);exact rfl)
  |(apply aSN;exact fun _=>rfl;exact rfl;(first|exact GD.p|exact GD.g rfl (fun _=>rfl));exact rfl;exact rfl)
  |(apply aS6;exact fun _=>rfl;exact rfl;(first|exact GD.p|exact GD.g rfl (fun _=>rfl));exact rfl;(with_reducible assumption);exact rfl)
  |(apply aSy;exact fun _=>rfl;exact rfl;(first|exact GD.p|exact GD.g rfl (fun _=>rfl));exact rfl;exact rfl)
  |(apply aTF;exact fun _=>rfl;exact rfl;(first|exact GD.p|exact GD.g rfl (fun _=>rfl));exact rfl;exact rfl)
  |(apply aSW;exact fun _=>rfl;exact rfl;(first|exact GD.p|exact GD.g rfl (fun _=>rfl));exact rfl;exact rfl)
  |(apply aSj;exact fun _=>rfl;exact rfl;(first|exact GD.p|exact GD.g rfl (fun _=>rfl));exact rfl;exact rfl)
  |(apply aSq;exact fun _=>rfl;exact rfl;(first|exact GD.p|exact GD.g rfl (fun _=>rfl));exact rfl;exact rfl)
  |(apply aUZ;exact fun _=>rfl;exact fun _=>rfl;exact rfl;(first|exact GD.p|exact GD.g rfl (fun _=>rfl));exact rfl;exact rfl)
  |(apply aU2;exact fun _=>rfl;exact fun _=>rfl;exact rfl;(first|exact GD.p|exact GD.g rfl (fun _=>rfl));exact rfl;exact rfl)
  |(apply aVs;exact fun _=>rfl;exact fun _=>rfl;exact inferInstance;exact rfl;(first|exact GD.p|exact GD.g rfl (fun _=>rfl));exact rfl;(with_reducible assumption);exact rfl)
  |(apply aVI;exact fun _=>rfl;exact fun _=>rfl;exact inferInstance;exact rfl;(first|exact GD.p|exact GD.g rfl (fun _=>rfl));exact rfl;(with_reducible assumption);exact rfl)
  |(apply aTi;exact fun _=>rfl;exact fun _=>rfl;exact fun _=>rfl;exact inferInstance;exact rfl;(first|exact GD.p|exact GD.g rfl (fun _=>rfl));exact rfl;(with_reducible assumption);exact rfl)
  |(apply aWx;exact fun _=>rfl;exact fun _=>rfl;exact rfl;(first|exact GD.p|exact GD.g rfl (fun _=>rfl));exact rfl;exact rfl)
  |(apply aWu;exact fun _=>rfl;exact fun _=>rfl;exact rfl;(first|exact GD.p|exact GD.g rfl (fun _=>rfl));exact rfl;exact rfl)
  |(apply aVv;exact fun _=>rfl;exact rfl;(first|exact GD.p|exact GD.g rfl (fun _=>rfl));exact rfl;exact rfl)
  |(apply aSZ;exact fun _=>rfl;exact rfl;(first|exact GD.p|exact GD.g rfl (fun _=>rfl));exact rfl;exact rfl)
  |(apply aSH;exact fun _=>rfl;exact rfl;(first|exact GD.p|exact GD.g rfl (fun _=>rfl));exact rfl;exact rfl)
  |(apply aPX;exact fun _=>rfl;exact rfl;(first|exact GD.p|exact GD.g rfl (fun _=>rfl));exact rfl;assumption;exact rfl)
  |(apply aTA;exact inferInstance;exact rfl;exact rfl)
  |(apply e_u;exact rfl;exact fun _=>rfl;exact rfl;exact rfl)
  |(apply aTh;exact rfl)))(hx:Mix S.P:=by infer_instance)
  (hm:aCZ ms l ms=true:=by kernel_rfl)(hb:y5 l 0=true:=by kernel_rfl)(hq:aBW l=true:=by kernel_rfl)(hm2:Nat.beq l.length (m+n)=true:=by kernel_rfl)(ht:aDg l ms m n=true:=by kernel_rfl):WC S (.region id l.toArray true) κ H E:=
 kO ms m n outs hx.h hops.h k hm hb hq (by rw[hops.len];simp) hm2 ht
theorem drb{id:Nat}(ms:List Nat)(m n:Nat)(outs:List Ou)(k:∀bs G,WL S l.toArray κ (l.drop outs.length) (aDY bs 0 outs++H) (aD4 bs G 0 l outs++E))(hops:DN S H l ms E outs m 0 l outs:=by
 repeat (first
  |(apply aVi;exact fun _=>rfl;exact rfl;(first|exact GD.p|exact GD.g rfl (fun _=>rfl));exact rfl;(with_reducible assumption);exact rfl)
  |(apply aVh;exact fun _=>rfl;exact rfl;(first|exact GD.p|exact GD.g rfl (fun _=>rfl));exact rfl;(with_reducible assumption);exact rfl)
  |(apply aWm;exact fun _=>rfl;exact fun _=>rfl;exact rfl;(first|exact GD.p|exact GD.g rfl (fun _=>rfl));exact rfl;(with_reducible assumption);exact rfl)
  |(apply aVP;exact fun _=>rfl;exact fun _=>rfl;exact rfl;(first|exact GD.p|exact GD.g rfl (fun _=>rfl));exact rfl;(with_reducible assumption);exact rfl)
  |(apply aVY;exact fun _=>rfl;exact fun _=>rfl;exact rfl;(first|exact GD.p|exact GD.g rfl (fun _=>rfl));exact rfl;(with_reducible assumption);exact rfl)
  |(apply aVy;exact fun _=>rfl;exact fun _=>rfl;exact rfl;(first|exact GD.p|exact GD.g rfl (fun _=>rfl));exact rfl;(with_reducible assumption);exact rfl)
  |(apply aV4;exact fun _=>rfl;exact fun _=>rfl;exact rfl;(first|exact GD.p|exact GD.g rfl (fun _=>rfl));exact rfl;(with_reducible assumption);exact rfl)
  |(apply aVm;exact fun _=>rfl;exact fun _=>rfl;exact rfl;(first|exact GD.p|exact GD.g rfl (fun _=>rfl));exact rfl;(with_reducible assumption);exact rfl)
  |(apply aUv;exact fun _=>rfl;exact rfl;(first|exact GD.p|exact GD.g rfl (fun _=>rfl));exact rfl;(with_reducible assumption);exact rfl)
  |(apply aVl;exact fun _=>rfl;exact rfl;(first|exact GD.p|exact GD.g rfl (fun _=>rfl));exact rfl;exact rfl)
  |(apply aWi;exact fun _=>rfl;exact rfl;(first|exact GD.p|exact GD.g rfl (fun _=>rfl));exact rfl;exact rfl)
  |(apply e_n;exact rfl;exact fun _=>rfl;exact rfl;exact rfl;exact rfl)
  |(apply aVB;exact fun _=>rfl;exact fun _=>rfl;exact inferInstance;exact rfl;(first|exact GD.p|exact GD.g rfl (fun _=>rfl));exact rfl;(with_reducible assumption);exact rfl)
  |(apply aSw;exact fun _=>rfl;exact inferInstance;exact rfl;(first|exact GD.p|exact GD.g rfl (fun _=>rfl));exact rfl;exact rfl)
  |(apply aUY;exact fun _=>rfl;exact inferInstance;exact rfl;(first|exact GD.p|exact GD.g rfl (fun _=>rfl));exact rfl;exact rfl)
  |(apply aSP;exact fun _=>rfl;exact inferInstance;exact rfl;(first|exact GD.p|exact GD.g rfl (fun _=>rfl));exact rfl;exact rfl)
  |(apply aSz;exact fun _=>rfl;exact inferInstance;exact rfl;exact rfl;(first|exact GD.p|exact GD.g rfl (fun _=>rfl));exact rfl;exact rfl)
  |(apply aTa;exact fun _=>rfl;exact inferInstance;exact rfl;exact rfl;(first|exact GD.p|exact GD.g rfl (fun _=>rfl));exact rfl;exact rfl)
  |(apply aVO;exact fun _=>rfl;exact inferInstance;(repeat (first|exact iZ.a rfl|apply iZ.b));exact rfl;exact rfl;(first|exact GD.p|exact GD.g rfl (fun _=>rfl));exact rfl;exact rfl)
  |(apply aVK;exact fun _=>rfl;exact inferInstance;(repeat (first|exact iZ.a rfl|apply iZ.b));exact rfl;exact rfl;(first|exact GD.p|exact GD.g rfl (fun _=>rfl));exact rfl;exact rfl)
  |(apply aSk;exact fun _=>rfl;exact fun _=>rfl;(repeat (first|exact iZ.a rfl|apply iZ.b));(first|exact rfl|with_reducible assumption|exact bI (by with_reducible assumption) (by first|with_reducible assumption|exact rfl));exact inferInstance;exact rfl;(first|exact GD.p|exact GD.g rfl (fun _=>rfl));exact rfl;(with_reducible assumption);exact rfl)
  |(apply aSC;exact fun _=>rfl;(repeat (first|exact iZ.a rfl|apply iZ.b));(first|exact rfl|with_reducible assumption|exact bI (by with_reducible assumption) (by first|with_reducible assumption|exact rfl));exact inferInstance;exact rfl;(first|exact GD.p|exact GD.g rfl (fun _=>rfl));exact rfl;exact rfl)
  |(apply aPa;exact fun _=>rfl;(repeat (first|exact iZ.a rfl|apply iZ.b));exact rfl;(with_reducible assumption);exact inferInstance;exact rfl;exact rfl;exact rfl;(first|exact GD.p|exact GD.g rfl (fun _=>rfl));exact rfl;exact rfl)
  |(apply aQU;exact fun _=>rfl;(repeat (first|exact iZ.a rfl|apply iZ.b));exact rfl;(with_reducible assumption);exact inferInstance;exact rfl;exact rfl;exact rfl;(first|exact GD.p|exact GD.g rfl (fun _=>rfl));exact rfl;exact rfl)
  |(apply aU7;exact fun _=>rfl;exact inferInstance;exact rfl;(first|exact GD.p|exact GD.g rfl (fun _=>rfl));exact rfl;exact rfl)
  |(apply aV9;exact fun _=>rfl;exact fun _=>rfl;exact rfl;(first|exact GD.p|exact GD.g rfl (fun _=>rfl));exact rfl;exact rfl)
  |(apply aVz;exact fun _=>rfl;exact fun _=>rfl;exact rfl;(first|exact GD.p|exact GD.g rfl (fun _=>rfl));exact rfl;exact rfl)
  |(apply aVa;exact fun _=>rfl;exact fun _=>rfl;exact rfl;(first|exact GD.p|exact GD.g rfl (fun _=>rfl));exact rfl;exact rfl)
  |(apply aWh;exact fun _=>rfl;exact fun _=>rfl;exact rfl;(first|exact GD.p|exact GD.g rfl (fun _=>rfl));exact rfl;exact rfl)
  |(apply aVo;exact fun _=>rfl;exact fun _=>rfl;exact rfl;(first|exact GD.p|exact GD.g rfl (fun _=>rfl));exact rfl;exact rfl)
  |(apply aWp;exact fun _=>rfl;exact fun _=>rfl;exact rfl;(first|exact GD.p|exact GD.g rfl (fun _=>rfl));exact rfl;exact rfl)
  |(apply aSh;exact fun _=>rfl;exact fun _=>rfl;exact rfl;(first|exact GD.p|exact GD.g rfl (fun _=>rfl));exact rfl;(with_reducible assumption);exact rfl)
  |(apply aTn;exact fun _=>rfl;exact fun _=>rfl;exact rfl;(first|exact GD.p|exact GD.g rfl (fun _=>rfl));exact rfl;(with_reducible assumption);exact rfl)
  |(apply aSJ;exact fun _=>rfl;exact fun _=>rfl;exact rfl;(first|exact GD.p|exact GD.g rfl (fun _=>rfl));exact rfl;(with_reducible assumption);exact rfl)
  |(apply aSl;exact fun _=>rfl;exact fun _=>rfl;exact rfl;(first|exact GD.p|exact GD.g rfl (fun _=>rfl));exact rfl;(with_reducible assumption);exact rfl)
  |(apply aS8;exact fun _=>rfl;exact fun _=>rfl;exact rfl;(first|exact GD.p|exact GD.g rfl (fun _=>rfl));exact rfl;(with_reducible assumption);exact rfl)
  |(apply aSN;exact fun _=>rfl;exact rfl;(first|exact GD.p|exact GD.g rfl (fun _=>rfl));exact rfl;exact rfl)
  |(apply aS6;exact fun _=>rfl;exact rfl;(first|exact GD.p|exact GD.g rfl (fun _=>rfl));exact rfl;(with_reducible assumption);exact rfl)
  |(apply aSy;exact fun _=>rfl;exact rfl;(first|exact GD.p|exact GD.g rfl (fun _=>rfl));exact rfl;exact rfl)
  |(apply aTF;exact fun _=>rfl;exact rfl;(first|exact GD.p|exact GD.g rfl (fun _=>rfl));exact rfl;exact rfl)
  |(apply aSW;exact fun _=>rfl;exact rfl;(first|exact GD.p|exact GD.g rfl (fun _=>rfl));exact rfl;exact rfl)
  |(apply aSj;exact fun _=>rfl;exact rfl;(first|exact GD.p|exact GD.g rfl (fun _=>rfl));exact rfl;exact rfl)
  |(apply aSq;exact fun _=>rfl;exact rfl;(first|exact GD.p|exact GD.g rfl (fun _=>rfl));exact rfl;exact rfl)
  |(apply aUZ;exact fun _=>rfl;exact fun _=>rfl;exact rfl;(first|exact GD.p|exact GD.g rfl (fun _=>rfl));exact rfl;exact rfl)
  |(apply aU2;exact fun _=>rfl;exact fun _=>rfl;exact rfl;(first|exact GD.p|exact GD.g rfl (fun _=>rfl));exact rfl;exact rfl)
  |(apply aVs;exact fun _=>rfl;exact fun _=>rfl;exact inferInstance;exact rfl;(first|exact GD.p|exact GD.g rfl (fun _=>rfl));exact rfl;(with_reducible assumption);exact rfl)
  |(apply aVI;exact fun _=>rfl;exact fun _=>rfl;exact inferInstance;exact rfl;(first|exact GD.p|exact GD.g rfl (fun _=>rfl));exact rfl;(with_reducible assumption);exact rfl)
  |(apply aTi;exact fun _=>rfl;exact fun _=>rfl;exact fun _=>rfl;exact inferInstance;exact rfl;(first|exact GD.p|exact GD.g rfl (fun _=>rfl));exact rfl;(with_reducible assumption);exact rfl)
  |(apply aWx;exact fun _=>rfl;exact fun _=>rfl;exact rfl;(first|exact GD.p|exact GD.g rfl (fun _=>rfl));exact rfl;exact rfl)
  |(apply aWu;exact fun _=>rfl;exact fun _=>rfl;exact rfl;(first|exact GD.p|exact GD.g rfl (fun _=>rfl));exact rfl;exact rfl)
  |(apply aVv;exact fun _=>rfl;exact rfl;(first|exact GD.p|exact GD.g rfl (fun _=>rfl));exact rfl;exact rfl)
  |(apply aSZ;exact fun _=>rfl;exact rfl;(first|exact GD.p|exact GD.g rfl (fun _=>rfl));exact rfl;exact rfl)
  |(apply aSH;exact fun _=>rfl;exact rfl;(first|exact GD.p|exact GD.g rfl (fun _=>rfl));exact rfl;exact rfl)
  |(apply aPX;exact fun _=>rfl;exact rfl;(first|exact GD.p|exact GD.g rfl (fun _=>rfl));exact rfl;assumption;exact rfl)
  |(apply aTA;exact inferInstance;exact rfl;exact rfl)
  |(apply e_u;exact rfl;exact fun _=>rfl;exact rfl;exact rfl)
  |(apply aTh;exact rfl)))(hx:Mix S.P:=by infer_instance)
  (hm:aCZ ms l ms=true:=by kernel_rfl)(hb:y5 l 0=true:=by kernel_rfl)(hq:aBW l=true:=by kernel_rfl)(hm2:Nat.beq l.length (m+n)=true:=by kernel_rfl)(ht:aDg l ms m n=true:=by kernel_rfl):WC S (.region id l.toArray true) κ H E:=
 kO ms m n outs hx.h hops.h k hm hb hq (by rw[hops.len];simp) hm2 ht
theorem go{P:Prop}(Q:Prop)(k:Q)(h:D P Q:=by
 first
  |with_reducible refine sL ?_
  |with_reducible refine sC ?_
  |with_reducible refine sX ?_
 repeat (first
  |(apply aTd)
  |(apply aPz)
  |(apply aSR)
  |(apply aS1)
  |(apply aWz;exact rfl;exact rfl;(first|exact dS.p|exact dS.g rfl rfl rfl))
  |(apply aVT;exact rfl;exact rfl;(first|exact dS.p|exact dS.g rfl rfl rfl))
  |(apply b_n;exact rfl;exact rfl;exact rfl;exact rfl;exact rfl)
  |(apply aVj;exact rfl;exact rfl;exact inferInstance;exact rfl;(first|exact dS.p|exact dS.g rfl rfl rfl);(with_reducible assumption))
  |(apply aS4;exact rfl;exact inferInstance;exact rfl;(first|exact dS.p|exact dS.g rfl rfl rfl))
  |(apply aV6;exact rfl;exact inferInstance;exact rfl;(first|exact dS.p|exact dS.g rfl rfl rfl))
  |(apply aTf;exact rfl;exact inferInstance;exact rfl;(first|exact dS.p|exact dS.g rfl rfl rfl))
  |(apply aTb;exact rfl;exact inferInstance;exact rfl;exact rfl;(first|exact dS.p|exact dS.g rfl rfl rfl))
  |(apply aTp;exact rfl;exact inferInstance;exact rfl;exact rfl;(first|exact dS.p|exact dS.g rfl rfl rfl))
  |(apply aVX;exact rfl;exact inferInstance;(repeat (first|exact iZ.a rfl|apply iZ.b));exact rfl;exact rfl;(first|exact dS.p|exact dS.g rfl rfl rfl))
  |(apply aWn;exact rfl;exact inferInstance;(repeat (first|exact iZ.a rfl|apply iZ.b));exact rfl;exact rfl;(first|exact dS.p|exact dS.g rfl rfl rfl))
  |(apply aSt;exact rfl;exact rfl;(repeat (first|exact iZ.a rfl|apply iZ.b));(first|exact rfl|with_reducible assumption|exact bI (by with_reducible assumption) (by first|with_reducible assumption|exact rfl));exact inferInstance;exact rfl;(first|exact dS.p|exact dS.g rfl rfl rfl);(with_reducible assumption))
  |(apply aTC;exact rfl;(repeat (first|exact iZ.a rfl|apply iZ.b));(first|exact rfl|with_reducible assumption|exact bI (by with_reducible assumption) (by first|with_reducible assumption|exact rfl));exact inferInstance;exact rfl;(first|exact dS.p|exact dS.g rfl rfl rfl))
  |(apply aQj;exact rfl;(repeat (first|exact iZ.a rfl|apply iZ.b));exact rfl;(with_reducible assumption);exact inferInstance;exact rfl;exact rfl;exact rfl;(first|exact dS.p|exact dS.g rfl rfl rfl))
  |(apply aPW;exact rfl;(repeat (first|exact iZ.a rfl|apply iZ.b));exact rfl;(with_reducible assumption);exact inferInstance;exact rfl;exact rfl;exact rfl;(first|exact dS.p|exact dS.g rfl rfl rfl))
  |(apply aU4;exact rfl;exact inferInstance;exact rfl;(first|exact dS.p|exact dS.g rfl rfl rfl))
  |(apply aVH;exact rfl;exact rfl;exact rfl;(first|exact dS.p|exact dS.g rfl rfl rfl))
  |(apply aU8;exact rfl;exact rfl;exact rfl;(first|exact dS.p|exact dS.g rfl rfl rfl))
  |(apply aVe;exact rfl;exact rfl;exact rfl;(first|exact dS.p|exact dS.g rfl rfl rfl))
  |(apply aWo;exact rfl;exact rfl;exact rfl;(first|exact dS.p|exact dS.g rfl rfl rfl))
  |(apply aVn;exact rfl;exact rfl;exact rfl;(first|exact dS.p|exact dS.g rfl rfl rfl))
  |(apply aWt;exact rfl;exact rfl;exact rfl;(first|exact dS.p|exact dS.g rfl rfl rfl))
  |(apply aSS;exact rfl;exact rfl;exact rfl;(first|exact dS.p|exact dS.g rfl rfl rfl);(with_reducible assumption))
  |(apply aSK;exact rfl;exact rfl;exact rfl;(first|exact dS.p|exact dS.g rfl rfl rfl);(with_reducible assumption))
  |(apply aSo;exact rfl;exact rfl;exact rfl;(first|exact dS.p|exact dS.g rfl rfl rfl);(with_reducible assumption))
  |(apply aTz;exact rfl;exact rfl;exact rfl;(first|exact dS.p|exact dS.g rfl rfl rfl);(with_reducible assumption))
  |(apply aTk;exact rfl;exact rfl;exact rfl;(first|exact dS.p|exact dS.g rfl rfl rfl);(with_reducible assumption))
  |(apply aTw;exact rfl;exact rfl;(first|exact dS.p|exact dS.g rfl rfl rfl))
  |(apply aTq;exact rfl;exact rfl;(first|exact dS.p|exact dS.g rfl rfl rfl);(with_reducible assumption))
  |(apply aS5;exact rfl;exact rfl;(first|exact dS.p|exact dS.g rfl rfl rfl))
  |(apply aTc;exact rfl;exact rfl;(first|exact dS.p|exact dS.g rfl rfl rfl))
  |(apply aTm;exact rfl;exact rfl;(first|exact dS.p|exact dS.g rfl rfl rfl))
  |(apply aSm;exact rfl;exact rfl;(first|exact dS.p|exact dS.g rfl rfl rfl))
  |(apply aSV;exact rfl;exact rfl;(first|exact dS.p|exact dS.g rfl rfl rfl))
  |(apply aV3;exact rfl;exact rfl;exact rfl;(first|exact dS.p|exact dS.g rfl rfl rfl))
  |(apply aWb;exact rfl;exact rfl;exact rfl;(first|exact dS.p|exact dS.g rfl rfl rfl))
  |(apply aU1;exact rfl;exact rfl;exact inferInstance;exact rfl;(first|exact dS.p|exact dS.g rfl rfl rfl);(with_reducible assumption))
  |(apply aWg;exact rfl;exact rfl;exact inferInstance;exact rfl;(first|exact dS.p|exact dS.g rfl rfl rfl);(with_reducible assumption))
  |(apply aSF;exact rfl;exact rfl;exact rfl;exact inferInstance;exact rfl;(first|exact dS.p|exact dS.g rfl rfl rfl);(with_reducible assumption))
  |(apply aVJ;exact rfl;exact rfl;exact rfl;(first|exact dS.p|exact dS.g rfl rfl rfl))
  |(apply aVF;exact rfl;exact rfl;exact rfl;(first|exact dS.p|exact dS.g rfl rfl rfl))
  |(apply aWa;exact rfl;exact rfl;(first|exact dS.p|exact dS.g rfl rfl rfl))
  |(apply aTu;exact rfl;exact rfl;(first|exact dS.p|exact dS.g rfl rfl rfl))
  |(apply aTl;exact rfl;exact rfl;(first|exact dS.p|exact dS.g rfl rfl rfl))
  |(apply aOF;exact rfl;exact rfl;(first|exact dS.p|exact dS.g rfl rfl rfl);assumption)
  |(apply aU6;exact rfl;exact rfl;exact inferInstance;(repeat (first|exact zW.a rfl|apply zW.b));exact trivial;exact rfl;exact rfl)
  |(apply aWv;exact rfl;exact rfl;exact inferInstance;(repeat (first|exact zW.a rfl|apply zW.b));exact trivial;exact rfl;exact rfl)
  |(apply aMT;exact rfl;exact rfl;(repeat (first|exact iZ.a rfl|apply iZ.b));exact rfl;(with_reducible assumption);(with_reducible assumption);exact ty1s;(repeat (first|exact zW.a rfl|apply zW.b));exact trivial;exact rfl;exact rfl)
  |(apply aMT;exact rfl;exact rfl;(repeat (first|exact iZ.a rfl|apply iZ.b));exact rfl;(with_reducible assumption);(with_reducible assumption);exact tyAs;(repeat (first|exact zW.a rfl|apply zW.b));exact trivial;exact rfl;exact rfl)
  |(apply b_u;exact rfl;exact rfl;exact rfl;exact rfl)
  |(apply aPL)
  |(apply aOk)
  |(apply aMq)
  |(apply aLO)
  |(apply aSM))
 first
  |exact eL
  |exact eC
  |exact eX):P:=h.h k
theorem rv_1{t T off:Nat}{β:Option Nat}{e:HA}{q:CP}{rs:List ResultVar}{ps:List VP}(h:jS E t=some (.vc (pP β off)))(f:Ty1 S.P T)(j:iZ H β e)(hq:uR 1 (e.ps.drop off)=some [q])(kk:RVs S H E rs ps):RVs S H E (.cell t T::rs) (.vc q::ps):=by
 obtain⟨i,k,s⟩:=j.at;exact xJ i 1 h k s hq (.one f) kk
theorem rv_A{t T off k:Nat}{β:Option Nat}{e:HA}{qs:List CP}{rs:List ResultVar}{ps:List VP}(h:jS E t=some (.vc (pP β off)))(f:TyA S.P T k)(j:iZ H β e)(hq:uR k (e.ps.drop off)=some qs)(kk:RVs S H E rs ps):RVs S H E (.cell t T::rs) (.va qs::ps):=by
 obtain⟨i,q,s⟩:=j.at;exact xJ i k h q s hq (.agg f (yS hq)) kk
theorem aU3{P:Program}{fn:Func}{w0:World}{M0:jW}{B:List Nat}{post:VP}{N:NX}{rs:List ResultVar}{ps:List VP}(e:κ.to .ret=(.ret,.base (aGV P fn (Rp P w0 M0 B (fun Ho q=>Ho=[]∧q=post)))))(hrs:fn.results=rs.toArray)(hv:RVs ⟨P,w0,M0,B,N⟩ H E rs ps)(f:Nat.ble ps.length 4=true)(hpost:aKR ps=post)(hfr:∀D,N.fr D→w0.heap.size≤D∧M0 D=none):GC ⟨P,w0,M0,B,N⟩ .ret κ H E Q:=
 ⟨fun _=>gV (gW (by rw[e];exact kJ (.inl rfl) hrs hv f hpost hfr))⟩
theorem bU{P:Prop}(h:D P True:=by
 first
  |with_reducible refine sL ?_
  |with_reducible refine sC ?_
  |with_reducible refine sX ?_
 repeat (first
  |(apply aTd)
  |(apply aPz)
  |(apply aSR)
  |(apply aS1)
  |(apply aWz;exact rfl;exact rfl;(first|exact dS.p|exact dS.g rfl rfl rfl))
  |(apply aVT;exact rfl;exact rfl;(first|exact dS.p|exact dS.g rfl rfl rfl))
  |(apply b_n;exact rfl;exact rfl;exact rfl;exact rfl;exact rfl)
  |(apply aVj;exact rfl;exact rfl;exact inferInstance;exact rfl;(first|exact dS.p|exact dS.g rfl rfl rfl);(with_reducible assumption))
  |(apply aS4;exact rfl;exact inferInstance;exact rfl;(first|exact dS.p|exact dS.g rfl rfl rfl))
  |(apply aV6;exact rfl;exact inferInstance;exact rfl;(first|exact dS.p|exact dS.g rfl rfl rfl))
  |(apply aTf;exact rfl;exact inferInstance;exact rfl;(first|exact dS.p|exact dS.g rfl rfl rfl))
  |(apply aTb;exact rfl;exact inferInstance;exact rfl;exact rfl;(first|exact dS.p|exact dS.g rfl rfl rfl))
  |(apply aTp;exact rfl;exact inferInstance;exact rfl;exact rfl;(first|exact dS.p|exact dS.g rfl rfl rfl))
  |(apply aVX;exact rfl;exact inferInstance;(repeat (first|exact iZ.a rfl|apply iZ.b));exact rfl;exact rfl;(first|exact dS.p|exact dS.g rfl rfl rfl))
  |(apply aWn;exact rfl;exact inferInstance;(repeat (first|exact iZ.a rfl|apply iZ.b));exact rfl;exact rfl;(first|exact dS.p|exact dS.g rfl rfl rfl))
  |(apply aSt;exact rfl;exact rfl;(repeat (first|exact iZ.a rfl|apply iZ.b));(first|exact rfl|with_reducible assumption|exact bI (by with_reducible assumption) (by first|with_reducible assumption|exact rfl));exact inferInstance;exact rfl;(first|exact dS.p|exact dS.g rfl rfl rfl);(with_reducible assumption))
  |(apply aTC;exact rfl;(repeat (first|exact iZ.a rfl|apply iZ.b));(first|exact rfl|with_reducible assumption|exact bI (by with_reducible assumption) (by first|with_reducible assumption|exact rfl));exact inferInstance;exact rfl;(first|exact dS.p|exact dS.g rfl rfl rfl))
  |(apply aQj;exact rfl;(repeat (first|exact iZ.a rfl|apply iZ.b));exact rfl;(with_reducible assumption);exact inferInstance;exact rfl;exact rfl;exact rfl;(first|exact dS.p|exact dS.g rfl rfl rfl))
  |(apply aPW;exact rfl;(repeat (first|exact iZ.a rfl|apply iZ.b));exact rfl;(with_reducible assumption);exact inferInstance;exact rfl;exact rfl;exact rfl;(first|exact dS.p|exact dS.g rfl rfl rfl))
  |(apply aU4;exact rfl;exact inferInstance;exact rfl;(first|exact dS.p|exact dS.g rfl rfl rfl))
  |(apply aVH;exact rfl;exact rfl;exact rfl;(first|exact dS.p|exact dS.g rfl rfl rfl))
  |(apply aU8;exact rfl;exact rfl;exact rfl;(first|exact dS.p|exact dS.g rfl rfl rfl))
  |(apply aVe;exact rfl;exact rfl;exact rfl;(first|exact dS.p|exact dS.g rfl rfl rfl))
  |(apply aWo;exact rfl;exact rfl;exact rfl;(first|exact dS.p|exact dS.g rfl rfl rfl))
  |(apply aVn;exact rfl;exact rfl;exact rfl;(first|exact dS.p|exact dS.g rfl rfl rfl))
  |(apply aWt;exact rfl;exact rfl;exact rfl;(first|exact dS.p|exact dS.g rfl rfl rfl))
  |(apply aSS;exact rfl;exact rfl;exact rfl;(first|exact dS.p|exact dS.g rfl rfl rfl);(with_reducible assumption))
  |(apply aSK;exact rfl;exact rfl;exact rfl;(first|exact dS.p|exact dS.g rfl rfl rfl);(with_reducible assumption))
  |(apply aSo;exact rfl;exact rfl;exact rfl;(first|exact dS.p|exact dS.g rfl rfl rfl);(with_reducible assumption))
  |(apply aTz;exact rfl;exact rfl;exact rfl;(first|exact dS.p|exact dS.g rfl rfl rfl);(with_reducible assumption))
  |(apply aTk;exact rfl;exact rfl;exact rfl;(first|exact dS.p|exact dS.g rfl rfl rfl);(with_reducible assumption))
  |(apply aTw;exact rfl;exact rfl;(first|exact dS.p|exact dS.g rfl rfl rfl))
  |(apply aTq;exact rfl;exact rfl;(first|exact dS.p|exact dS.g rfl rfl rfl);(with_reducible assumption))
  |(apply aS5;exact rfl;exact rfl;(first|exact dS.p|exact dS.g rfl rfl rfl))
  |(apply aTc;exact rfl;exact rfl;(first|exact dS.p|exact dS.g rfl rfl rfl))
  |(apply aTm;exact rfl;exact rfl;(first|exact dS.p|exact dS.g rfl rfl rfl))
  |(apply aSm;exact rfl;exact rfl;(first|exact dS.p|exact dS.g rfl rfl rfl))
  |(apply aSV;exact rfl;exact rfl;(first|exact dS.p|exact dS.g rfl rfl rfl))
  |(apply aV3;exact rfl;exact rfl;exact rfl;(first|exact dS.p|exact dS.g rfl rfl rfl))
  |(apply aWb;exact rfl;exact rfl;exact rfl;(first|exact dS.p|exact dS.g rfl rfl rfl))
  |(apply aU1;exact rfl;exact rfl;exact inferInstance;exact rfl;(first|exact dS.p|exact dS.g rfl rfl rfl);(with_reducible assumption))
  |(apply aWg;exact rfl;exact rfl;exact inferInstance;exact rfl;(first|exact dS.p|exact dS.g rfl rfl rfl);(with_reducible assumption))
  |(apply aSF;exact rfl;exact rfl;exact rfl;exact inferInstance;exact rfl;(first|exact dS.p|exact dS.g rfl rfl rfl);(with_reducible assumption))
  |(apply aVJ;exact rfl;exact rfl;exact rfl;(first|exact dS.p|exact dS.g rfl rfl rfl))
  |(apply aVF;exact rfl;exact rfl;exact rfl;(first|exact dS.p|exact dS.g rfl rfl rfl))
  |(apply aWa;exact rfl;exact rfl;(first|exact dS.p|exact dS.g rfl rfl rfl))
  |(apply aTu;exact rfl;exact rfl;(first|exact dS.p|exact dS.g rfl rfl rfl))
  |(apply aTl;exact rfl;exact rfl;(first|exact dS.p|exact dS.g rfl rfl rfl))
  |(apply aOF;exact rfl;exact rfl;(first|exact dS.p|exact dS.g rfl rfl rfl);assumption)
  |(apply aU6;exact rfl;exact rfl;exact inferInstance;(repeat (first|exact zW.a rfl|apply zW.b));exact trivial;exact rfl;exact rfl)
  |(apply aWv;exact rfl;exact rfl;exact inferInstance;(repeat (first|exact zW.a rfl|apply zW.b));exact trivial;exact rfl;exact rfl)
  |(apply aMT;exact rfl;exact rfl;(repeat (first|exact iZ.a rfl|apply iZ.b));exact rfl;(with_reducible assumption);(with_reducible assumption);exact ty1s;(repeat (first|exact zW.a rfl|apply zW.b));exact trivial;exact rfl;exact rfl)
  |(apply aMT;exact rfl;exact rfl;(repeat (first|exact iZ.a rfl|apply iZ.b));exact rfl;(with_reducible assumption);(with_reducible assumption);exact tyAs;(repeat (first|exact zW.a rfl|apply zW.b));exact trivial;exact rfl;exact rfl)
  |(apply b_u;exact rfl;exact rfl;exact rfl;exact rfl)
  |(apply aPL)
  |(apply aOk)
  |(apply aMq)
  |(apply aLO)
  |(apply aSM))
 repeat (cases(by with_reducible assumption:some _=some _))
 apply aU3
 ·exact rfl
 ·exact rfl
 ·repeat (first
   |exact RVs.nil
   |(apply RVs.tmp;exact rfl)
   |(apply rv_A;exact rfl;exact inferInstance;(repeat (first|exact iZ.a rfl|apply iZ.b));exact rfl)
   |(apply rv_1;exact rfl;exact inferInstance;(repeat (first|exact iZ.a rfl|apply iZ.b));exact rfl))
 ·exact rfl
 ·exact rfl
 ·exact fun _ h=>h):P:=h.h trivial
theorem jG{E':sE}(l:List Nat){a:Act}{w:World}(h:hs S H E a w)(hp:cP H l=some H':=by exact rfl)(hl:l.Nodup:=by decide)(hE:aGt E E':=by repeat (first|exact trivial|refine⟨rfl,?_⟩)):hs S H' E' a w:=yY l hp hl hE h
theorem rU{PJ:List HA→sE→Prop}{E':sE}(J:∀H E,PJ H E→WX S .normal κ H E)(h:PJ H' E')(l:List Nat)(hp:cP H l=some H':=by exact rfl)(hE:aGt E E':=by repeat (first|exact trivial|refine⟨rfl,?_⟩))(hl:l.Nodup:=by decide):WX S .normal κ H E:=aEm J h l hp hE hl
theorem aD{α:Type}{A B:Option α}{r:α}{t:Nat}{b:Bool}{x y:Code}(e:(bif b then A else B)=some r)(f:jS E t=some (.vc (pB b)))(j:b=true→A=some r→WC S x κ H E)(k:b=false→B=some r→WC S y κ H E):WC S (.cond (.tmp t) x y) κ H E:=
 aG8 f (fun h=>j h (tH h e)) (fun h=>k h (rD h e))
theorem dK{α:Type}{A B:Option α}{r:α}{d:Nat}{c:Bool}(e:(bif c then A else B)=some r)(f:c=true→A=some r→WL S ops κ rest H ((d,.vc (pB true))::E))(j:c=false→B=some r→WL S ops κ rest H ((d,.vc (pB false))::E)):WL S ops κ rest H ((d,.vc (pB c))::E):=
 aLD (fun h=>f h (tH h e)) (fun h=>j h (rD h e))
end
end Go.Proofs.YtolfcbpgmfbgmaaGreat
set_option linter.unusedVariables false
set_option maxRecDepth 100000
namespace Go.Proofs.YtolfcbpgmfbgmaaGreat
theorem bC:Tryz.prog.follows .mixedOrders=true:=by kernel_rfl
instance Tryz_mix:Mix Tryz.prog:=⟨bC⟩
instance tyA40:TyA Tryz.prog 40 2:=mkA Tryz.underlying40 rfl (by kernel_rfl)
theorem tyB40:TyB Tryz.prog 40 [(0,1),(1,1)] ([pB false]++[pS cI ([]:List Int)]):=mkB (z:=.agg #[.bool false,.slice none 0 0]) (by kernel_rfl) Tryz.underlying40 (by kernel_rfl) (fun M=>bJ.app (show bJ M [pB false] [.bool false] from zU1) (show bJ M [pS cI ([]:List Int)] [.slice none 0 0] from⟨eG cI M,zT⟩))
instance tyF40_0:TyF Tryz.prog 40 0 0:=mkF (ft:=4) (k:=0) Tryz.underlying40 rfl rfl rfl (by kernel_rfl)
instance tyF40_1:TyF Tryz.prog 40 1 1:=mkF (ft:=22) (k:=0) Tryz.underlying40 rfl rfl rfl (by kernel_rfl)
instance tyO22:Ty1 Tryz.prog 22:=mk1 Tryz.underlying22 rfl (by kernel_rfl)
instance tyO3:Ty1 Tryz.prog 3:=mk1 Tryz.underlying3 rfl (by kernel_rfl)
instance tyO4:Ty1 Tryz.prog 4:=mk1 Tryz.underlying4 rfl (by kernel_rfl)
instance tyS22:TyS Tryz.prog 22 3 1 8:=mkS (z:=.int .i64 0) (k:=0) Tryz.underlying22 (by kernel_rfl) rfl
instance tyZ3:TyZ Tryz.prog 3 [vJ 0]:=mkZ (z:=.int .i64 0) (k:=1) (by kernel_rfl) rfl (fun M=>show bJ M [vJ 0] [.int .i64 0] from zU1)
instance tyZ40:TyZ Tryz.prog 40 ([pB false]++[pS cI ([]:List Int)]):=mkZ (z:=.agg #[.bool false,.slice none 0 0]) (k:=2) (by kernel_rfl) rfl (fun M=>bJ.app (show bJ M [pB false] [.bool false] from zU1) (show bJ M [pS cI ([]:List Int)] [.slice none 0 0] from⟨eG cI M,zT⟩))
def qB(K:Nat)(f:Bool)(a1:List Int)(e:Int):Option aC:=
 bif(e==0) then(some (⟨false,([]:List Int)⟩:aC)) else((slL a1 0 e).bind fun h=>some (⟨f,h⟩:aC))
def gF(K:Nat)(a1:List Int):Nat→Int→Option Int
 |0,_=>none
 |k+1,e=>bif(decide (0<e)) then((aV (e-1)).bind fun v11=>(bR a1 (max v11 0)).bind fun f=>bif(f==0) then((aV (e-1)).bind fun h=>gF K a1 k h) else(some e)) else(some e)
def bB(K:Nat)(e:Bool)(a1:List Int):Option aC:=
 (gF K a1 K (a1.length:Int)).bind fun f=>qB K e a1 f
theorem bN{K:Nat}{j:Bool}{a1:List Int}{r:aC}(f:bB K j a1=some r):Ct Tryz.prog 94 [.vc (pB j),.vc (pS cI a1)] (.va (aC.e r)):=by
 unfold bB at f;refine aA Tryz.func94 rfl (by kernel_rfl) Tryz.ntmps94 rfl (fun w0 M0=>?_);refine aE (aI (aM rfl tyZ40 (fun t=>?_)));refine go ?_ ?_;refine aJ (aY (fun H E=>∃(u:Int),qB K j a1 u=some r∧H=[⟨some t,1,40,2,1,([pB false]++[pS cI ([]:List Int)])⟩]∧E=[(0,.vc (pB j)),(1,.vc (pS cI a1)),(4,.vc (pP (some t) 0)),(5,vI u)]) ?_ (fun q=>?_))
 ·rintro _ _ ⟨u,f,rfl,rfl⟩;unfold qB at f;refine go ?_ ?_;refine aD f rfl (fun G f=>?_) (fun G f=>?_)
  ·refine aE (aI (aG (iV (is:=[]) (xs:=[]) (ps:=[]) rfl tyB40 rfl rfl zT rfl) zT ?_));exact bU
  obtain⟨I,U,f⟩:=aR f;refine go ?_ ?_;refine aG (iV (is:=[0,1]) (xs:=[.tmp 24,.tmp 27]) (ps:=[.vc (pB j),.vc (pS cI I)]) rfl tyB40 rfl rfl ⟨zT,zT,zT⟩ rfl) zU2 ?_;exact bU
 obtain⟨x,J,h⟩:=aR f;refine dU (fun k a w=>∃(s:Int),gF K a1 k s=some x∧hs _ [⟨some t,1,40,2,1,([pB false]++[pS cI ([]:List Int)])⟩] [(0,.vc (pB j)),(1,.vc (pS cI a1)),(4,.vc (pP (some t) 0)),(5,vI s)] a w) K (fun a w ⟨_,f,_⟩=>by cases f) (fun k a w ⟨s,f,hh⟩=>dW ?_ hh) (fun a w hh=>⟨(a1.length:Int),J,jG [0] hh⟩);rw[gF.eq_2]at f;refine go ?_ ?_;refine dK f (fun y f=>?_) (fun y f=>?_)
 ·obtain⟨v11,z,L,O,f⟩:=u9 f;refine go ?_ ?_;refine aD f rfl (fun F f=>?_) (fun F f=>?_)
  ·refine fB (aH (aJ ?_));have f:=uS z f;refine go ?_ ?_;exact aF (fun a w hh=>⟨v11,f,jG [0] hh⟩)
  refine bF ?_;obtain rfl:=iO f;exact rU q ⟨s,h,rfl,rfl⟩ [0]
 refine go ?_ ?_;refine vN rfl ?_;refine bF ?_;obtain rfl:=iO f;exact rU q ⟨s,h,rfl,rfl⟩ [0]
def rT(K:Nat)(h:aC)(a1:aC)(e:List Int):Option aC:=
 (bB K (h.neg != a1.neg) e).bind fun f=>some f
def rP(K:Nat)(a1:aC)(f:Int)(e:(List Int)→Int→Option (List Int))(h:List Int)(k:Int):Option (List Int):=
 (aV (f+(a1.d.length:Int))).bind fun j=>(bR h j).bind fun t=>(rW h j k).bind fun q=>(aV (f+1)).bind fun s=>e q s
def iR(K:Nat)(O:aC)(a1:aC)(f:Int):Nat→(List Int)→Int→Int→Option ((List Int)×Int)
 |0,_,_,_=>none
 |k+1,h,j,e=>bif(decide (e<(a1.d.length:Int))) then((aV (f+e)).bind fun t=>(bR h t).bind fun u=>(bR O.d f).bind fun x=>(bR a1.d e).bind fun y=>(aV (x*y)).bind fun z=>(aV (u+z)).bind fun F=>(aV (F+j)).bind fun q=>(aV (f+e)).bind fun s=>(chr q 1000000000).bind fun G=>(bR h s).bind fun U=>(rW h s G).bind fun I=>(chq q 1000000000).bind fun J=>(aV (e+1)).bind fun L=>iR K O a1 f k I J L) else(some (h,j))
def iP(K:Nat)(h:aC)(a1:aC):Nat→(List Int)→Int→Option (List Int)
 |0,_,_=>none
 |k+1,f,e=>bif(decide (e<(h.d.length:Int))) then((iR K h a1 e K f 0 0).bind fun(j,q)=>rP K a1 e (iP K h a1 k) j q) else(some f)
def jC(K:Nat)(e:aC)(a1:aC):Option aC:=
 (aV ((e.d.length:Int)+(a1.d.length:Int))).bind fun v4=>(mkL v4 0).bind fun h=>(iP K e a1 K h 0).bind fun f=>rT K e a1 f
theorem oU{K:Nat}{t:aC}{a1:aC}{r:aC}(f:jC K t a1=some r):Ct Tryz.prog 58 [.va (aC.e t),.va (aC.e a1)] (.va (aC.e r)):=by
 unfold jC at f;refine aA Tryz.func58 rfl (by kernel_rfl) Tryz.ntmps58 rfl (fun w0 M0=>?_);refine aE (aI (dP rfl rfl zT (fun z=>?_)));refine dP rfl rfl zT (fun b2=>?_);refine aM rfl tyZ40 (fun F=>?_);obtain⟨v4,h5,h,h7,f⟩:=u9 f;refine go ?_ ?_;refine qE (C:=cI) rfl tyS22 rfl tyZ3 rfl h7 (fun G=>?_);refine go ?_ ?_;refine aJ (aY (fun H E=>∃(u:List Int),rT K t a1 u=some r∧u.length=h.length∧H=[hO cI G h.length 3 h.length u,⟨some F,1,40,2,1,([pB false]++[pS cI ([]:List Int)])⟩,⟨some b2,1,40,2,1,(aC.e a1)⟩,⟨some z,1,40,2,1,(aC.e t)⟩]∧E=[(2,.vc (pP (some z) 0)),(3,.vc (pP (some b2) 0)),(4,.vc (pP (some F) 0)),(5,.vc (pO G h.length h.length))]) ?_ (fun V=>?_))
 ·rintro _ _ ⟨u,f,q29,rfl,rfl⟩;unfold rT at f;refine go ?_ ?_;refine aG (aCs rfl Tryz.underlying4) zU2 ?_;refine gG ?_;refine xC 0 [5,74] rfl q29 zU2 rfl ?_;obtain⟨v33,h34,f⟩:=bE f bN;exact bU
 obtain⟨I,hL,J⟩:=aR f;refine dU (fun k a w=>∃(q:List Int),∃(j:Int),iP K t a1 k q j=some I∧q.length=h.length∧hs _ [hO cI G h.length 3 h.length q,⟨some F,1,40,2,1,([pB false]++[pS cI ([]:List Int)])⟩,⟨some b2,1,40,2,1,(aC.e a1)⟩,⟨some z,1,40,2,1,(aC.e t)⟩] [(2,.vc (pP (some z) 0)),(3,.vc (pP (some b2) 0)),(4,.vc (pP (some F) 0)),(5,.vc (pO G h.length h.length)),(6,vI j)] a w) K (fun a w ⟨_,_,f,_,_⟩=>by cases f) (fun k a w ⟨q,j,f,X,hh⟩=>dW ?_ hh) (fun a w hh=>⟨h,0,hL,rfl,jG [0,1,2,3] hh⟩);rw[iP.eq_2]at f;refine go ?_ ?_;refine aD f rfl (fun h35 f=>?_) (fun h35 f=>?_)
 ·refine go ?_ ?_;refine aJ (go ?_ ?_);refine aJ (aY (fun H E=>∃(x:List Int),∃(L:Int),rP K a1 j (iP K t a1 k) x L=some I∧x.length=h.length∧H=[hO cI G h.length 3 h.length x,⟨some F,1,40,2,1,([pB false]++[pS cI ([]:List Int)])⟩,⟨some b2,1,40,2,1,(aC.e a1)⟩,⟨some z,1,40,2,1,(aC.e t)⟩]∧E=[(2,.vc (pP (some z) 0)),(3,.vc (pP (some b2) 0)),(4,.vc (pP (some F) 0)),(5,.vc (pO G h.length h.length)),(6,vI j),(7,vI L)]) ?_ (fun Y=>?_))
  ·rintro _ _ ⟨x,L,f,q56,rfl,rfl⟩;unfold rP at f;obtain⟨v61,h62,v63,h64,x65,h66,v68,h69,f⟩:=bn4 f;refine go ?_ ?_;exact aF (fun a w hh=>⟨x65,v68,f,(bI h66 q56),jG [0,1,2,3] hh⟩)
  obtain⟨⟨x52',x58'⟩,hL,O⟩:=aR f;refine dU (fun k a w=>∃(s:List Int),∃(y:Int),∃(U:Int),iR K t a1 j k s y U=some (x52',x58')∧s.length=h.length∧hs _ [hO cI G h.length 3 h.length s,⟨some F,1,40,2,1,([pB false]++[pS cI ([]:List Int)])⟩,⟨some b2,1,40,2,1,(aC.e a1)⟩,⟨some z,1,40,2,1,(aC.e t)⟩] [(2,.vc (pP (some z) 0)),(3,.vc (pP (some b2) 0)),(4,.vc (pP (some F) 0)),(5,.vc (pO G h.length h.length)),(6,vI j),(7,vI y),(8,vI U)] a w) K (fun a w ⟨_,_,_,f,_,_⟩=>by cases f) (fun k a w ⟨s,y,U,f,q48,hh⟩=>dW ?_ hh) (fun a w hh=>⟨q,0,0,hL,X,jG [0,1,2,3] hh⟩);rw[iR.eq_2]at f;refine go ?_ ?_;refine aD f rfl (fun h70 f=>?_) (fun h70 f=>?_)
  ·refine go ?_ ?_;refine aJ (aE ?_);obtain⟨v73,h74,f⟩:=aR f;obtain⟨v75,h76,f⟩:=aR f;obtain⟨v77,h78,f⟩:=aR f;obtain⟨v79,h80,f⟩:=aR f;obtain⟨v81,h82,f⟩:=aR f;obtain⟨v83,h84,f⟩:=aR f;obtain⟨v85,h86,f⟩:=aR f;refine dr [0,0,0,6,15,31,0,64,0,448,960,0,2048,0,14336,30720,65472,131071,0,524287,1048575] 21 0 ?_ (fun bs72 G71=>?_);have f:=uS h74 f;obtain⟨v89,h90,f⟩:=aR f;have f:=uS h76 f;obtain⟨x93,h94,v96,h97,v98,h99,f⟩:=bn3 f;refine go ?_ ?_;exact aF (fun a w hh=>⟨x93,v96,v98,f,(bI h94 q48),jG [0,1,2,3] hh⟩)
  refine bF ?_;obtain⟨rfl,rfl⟩:=sm2 f;exact rU Y ⟨s,y,O,q48,rfl,rfl⟩ [0,1,2,3]
 refine bF ?_;obtain rfl:=iO f;exact rU V ⟨q,J,X,rfl,rfl⟩ [0,1,2,3]
def dJ(e:List Int)(a1:Int):Option Int:=
 bif(decide (a1<(e.length:Int))) then((bR e a1).bind fun v2=>some v2) else(some 0)
theorem gX{f:List Int}{a1:Int}{r:Int}(e:dJ f a1=some r):Ct Tryz.prog 140 [.vc (pS cI f),vI a1] (vI r):=by
 unfold dJ at e;refine aA Tryz.func140 rfl (by kernel_rfl) Tryz.ntmps140 rfl (fun w0 M0=>?_);refine go ?_ ?_;refine aD e rfl (fun h e=>?_) (fun h e=>?_)
 ·obtain⟨v2,j,e⟩:=aR e;exact bU
 exact bU
def qP(K:Nat)(e:List Int):Option (List Int):=
 some e
def cF(K:Nat)(j:List Int)(a1:List Int):Nat→(List Int)→Int→Int→Option (List Int)
 |0,_,_,_=>none
 |k+1,f,h,e=>bif(decide (e<(j.length:Int))) then((dJ j e).bind fun u=>(dJ a1 e).bind fun v30=>(aV (u+v30)).bind fun x=>(aV (x+h)).bind fun q=>(chr q 1000000000).bind fun y=>(tC f [y]).bind fun z=>(chq q 1000000000).bind fun F=>(aV (e+1)).bind fun G=>cF K j a1 k z F G) else(bif(decide (e<(a1.length:Int))) then((dJ j e).bind fun I=>(dJ a1 e).bind fun J=>(aV (I+J)).bind fun L=>(aV (L+h)).bind fun s=>(chr s 1000000000).bind fun O=>(tC f [O]).bind fun U=>(chq s 1000000000).bind fun V=>(aV (e+1)).bind fun X=>cF K j a1 k U V X) else(bif(decide (0<h)) then((dJ j e).bind fun Y=>(dJ a1 e).bind fun v74=>(aV (Y+v74)).bind fun v76=>(aV (v76+h)).bind fun t=>(chr t 1000000000).bind fun v80=>(tC f [v80]).bind fun x82=>(chq t 1000000000).bind fun v89=>(aV (e+1)).bind fun v91=>cF K j a1 k x82 v89 v91) else(some f)))
def q0(K:Nat)(f:List Int)(a1:List Int):Option (List Int):=
 (cF K f a1 K ([]:List Int) 0 0).bind fun e=>qP K e
theorem aC1{K:Nat}{a0:List Int}{a1:List Int}{r:List Int}(e:q0 K a0 a1=some r):Ct Tryz.prog 98 [.vc (pS cI a0),.vc (pS cI a1)] (.vc (pS cI r)):=by
 unfold q0 at e;refine aA Tryz.func98 rfl (by kernel_rfl) Tryz.ntmps98 rfl (fun w0 M0=>?_);refine aE (aI (aG (aP (.inr rfl)) ⟨eG cI,zT⟩ ?_));refine aX (aH (aE (aI (rF cI 3 rfl ?_))));refine go ?_ ?_;refine aJ (aY (fun H E=>∃(q:List Int),∃(x:Option Nat),∃(y:Nat),∃(s:Nat),qP K q=some r∧q.length=s∧H=[hO cI x y 3 s q]∧E=[(5,.vc (pO x s y))]) ?_ (fun O=>?_))
 ·rintro _ _ ⟨q,x,y,s,e,q23,rfl,rfl⟩;unfold qP at e;refine go ?_ ?_;refine gV (gW (tU 0 [4,5,41] rfl q23 ⟨rfl,rfl,rfl,zT⟩ rfl ?_));obtain rfl:=iO e;exact kJ (.inl rfl) Tryz.results98 (.tmp rfl .nil) rfl rfl
 obtain⟨U,hL,z⟩:=aR e;refine dU (fun k a w=>∃(j:List Int),∃(F:Int),∃(G:Int),∃(t:Option Nat),∃(u:Nat),∃(f:Nat),cF K a0 a1 k j F G=some U∧j.length=f∧hs _ [hO cI t u 3 f j] [(0,.vc (pS cI a0)),(1,.vc (pS cI a1)),(5,.vc (pO t f u)),(6,vI F),(7,vI G)] a w) K (fun a w ⟨_,_,_,_,_,_,e,_,_⟩=>by cases e) (fun k a w ⟨j,F,G,t,u,f,e,h,hh⟩=>dW ?_ hh) (fun a w hh=>⟨([]:List Int),0,0,none,0,0,hL,rfl,jG [0] hh⟩);rw[cF.eq_2]at e;refine go ?_ ?_;refine dK e (fun h27 e=>?_) (fun h27 e=>?_)
 ·refine go ?_ ?_;refine kA rfl ?_;refine go ?_ ?_;refine aJ ?_;obtain⟨v28,h29,e⟩:=bE e gX;obtain⟨v30,h31,e⟩:=bE e gX;obtain⟨v32,h33,v34,h35,I,h37,e⟩:=bn3 e;refine go ?_ ?_;refine aG (iH (C:=cI) (xs:=[.tmp 36]) (ps:=[vI I]) (zs:=[I]) rfl tyS22 rfl ⟨⟨zT,rfl⟩,zT⟩ rfl) zU1 ?_;obtain⟨x38,V,e⟩:=aR e;refine nZ 0 rfl tyS22 rfl rfl h rfl rfl V (fun b40 c41 H42 e43=>?_);cases e43;obtain⟨v45,h46,v47,h48,e⟩:=u9 e;refine go ?_ ?_;exact aF (fun a w hh=>⟨x38,v45,v47,b40,c41,(f+[I].length),e,(dN V h),jG [0] hh⟩)
 refine go ?_ ?_;refine dK e (fun h49 e=>?_) (fun h49 e=>?_)
 ·refine go ?_ ?_;refine kA rfl ?_;refine go ?_ ?_;refine aJ ?_;obtain⟨v50,h51,e⟩:=bE e gX;obtain⟨v52,h53,e⟩:=bE e gX;obtain⟨v54,h55,v56,h57,J,h59,e⟩:=bn3 e;refine go ?_ ?_;refine aG (iH (C:=cI) (xs:=[.tmp 36]) (ps:=[vI J]) (zs:=[J]) rfl tyS22 rfl ⟨⟨zT,rfl⟩,zT⟩ rfl) zU1 ?_;obtain⟨x60,X,e⟩:=aR e;refine nZ 0 rfl tyS22 rfl rfl h rfl rfl X (fun b62 c63 H64 e65=>?_);cases e65;obtain⟨v67,h68,v69,h70,e⟩:=u9 e;refine go ?_ ?_;exact aF (fun a w hh=>⟨x60,v67,v69,b62,c63,(f+[J].length),e,(dN X h),jG [0] hh⟩)
 refine go ?_ ?_;refine aD e rfl (fun h71 e=>?_) (fun h71 e=>?_)
 ·refine go ?_ ?_;refine aJ ?_;obtain⟨v72,h73,e⟩:=bE e gX;obtain⟨v74,h75,e⟩:=bE e gX;obtain⟨v76,h77,v78,h79,L,h81,e⟩:=bn3 e;refine go ?_ ?_;refine aG (iH (C:=cI) (xs:=[.tmp 36]) (ps:=[vI L]) (zs:=[L]) rfl tyS22 rfl ⟨⟨zT,rfl⟩,zT⟩ rfl) zU1 ?_;obtain⟨x82,Y,e⟩:=aR e;refine nZ 0 rfl tyS22 rfl rfl h rfl rfl Y (fun b84 c85 H86 e87=>?_);cases e87;obtain⟨v89,h90,v91,h92,e⟩:=u9 e;refine go ?_ ?_;exact aF (fun a w hh=>⟨x82,v89,v91,b84,c85,(f+[L].length),e,(dN Y h),jG [0] hh⟩)
 refine bF ?_;obtain rfl:=iO e;exact rU O ⟨j,t,u,f,z,h,rfl,rfl⟩ [0]
def rX(K:Nat):Option Int:=
 some 0
def dO(K:Nat)(f:List Int)(a1:List Int):Nat→Int→Option (LR Int Unit)
 |0,_=>none
 |k+1,e=>bif(decide (0≤e)) then((bR f e).bind fun h=>(bR a1 e).bind fun j=>bif(decide (h<j)) then(some (.ret (-1))) else((bR f e).bind fun q=>(bR a1 e).bind fun s=>bif(decide (s<q)) then(some (.ret 1)) else((aV (e-1)).bind fun t=>dO K f a1 k t))) else(some (.go ()))
def dD(K:Nat)(e:List Int)(a1:List Int):Option Int:=
 bif(decide ((e.length:Int)<(a1.length:Int))) then(some (-1)) else(bif(decide ((a1.length:Int)<(e.length:Int))) then(some 1) else((aV ((e.length:Int)-1)).bind fun f=>(dO K e a1 K f).bind fun o=>match o with| .ret r=>some r| .go _=>rX K))
theorem mQ{K:Nat}{h:List Int}{a1:List Int}{r:Int}(e:dD K h a1=some r):Ct Tryz.prog 99 [.vc (pS cI h),.vc (pS cI a1)] (vI r):=by
 unfold dD at e;refine aA Tryz.func99 rfl (by kernel_rfl) Tryz.ntmps99 rfl (fun w0 M0=>?_);refine go ?_ ?_;refine aD e rfl (fun I e=>?_) (fun I e=>?_)
 ·exact bU
 refine go ?_ ?_;refine aD e rfl (fun J e=>?_) (fun J e=>?_)
 ·exact bU
 obtain⟨L,h4,e⟩:=aR e;refine go ?_ ?_;refine aJ (aY (fun H E=>rX K=some r∧H=[]∧E=[]) ?_ (fun j=>?_))
 ·rintro _ _ ⟨e,rfl,rfl⟩;unfold rX at e;exact bU
 obtain⟨q,O,f⟩:=aR e;refine dU (fun k a w=>∃(s:Int),dO K h a1 k s=some q∧hs _ [] [(0,.vc (pS cI h)),(1,.vc (pS cI a1)),(5,vI s)] a w) K (fun a w ⟨_,e,_⟩=>by cases e) (fun k a w ⟨s,e,hh⟩=>dW ?_ hh) (fun a w hh=>⟨L,O,jG [] hh⟩);rw[dO.eq_2]at e;refine go ?_ ?_;refine aD e rfl (fun U e=>?_) (fun U e=>?_)
 ·refine go ?_ ?_;refine aJ (aE (aE ?_));obtain⟨V,t,e⟩:=aR e;obtain⟨X,u,e⟩:=aR e;refine dr [0,0,3,7,0,0,48,112,255] 9 0 ?_ (fun F Y=>?_);refine aX (aH (aD e rfl (fun x e=>?_) (fun x e=>?_)))
  ·exact bU
  have e:=uS t e;have e:=uS u e;refine go ?_ ?_;refine dr [0,0,3,7,0,0,48,112,255] 9 0 ?_ (fun G G17=>?_);refine aX (aH (aD e rfl (fun y e=>?_) (fun y e=>?_)))
  ·exact bU
  obtain⟨z,h25,e⟩:=aR e;refine go ?_ ?_;exact aF (fun a w hh=>⟨z,e,jG [] hh⟩)
 refine bF ?_;obtain rfl:=iO e;exact rU j ⟨f,rfl,rfl⟩ []
def qA(K:Nat)(e:List Int):Option (List Int):=
 some e
def eN(K:Nat)(j:List Int)(a1:List Int):Nat→(List Int)→Int→Int→Option (List Int)
 |0,_,_,_=>none
 |k+1,f,q,e=>bif(decide (e<(j.length:Int))) then((bR j e).bind fun v30=>(dJ a1 e).bind fun s=>(aV (v30-s)).bind fun t=>(aV (t-q)).bind fun h=>bif(decide (h<0)) then((aV (h+1000000000)).bind fun u=>(tC f [u]).bind fun x=>(aV (e+1)).bind fun y=>eN K j a1 k x 1 y) else((tC f [h]).bind fun z=>(aV (e+1)).bind fun F=>eN K j a1 k z 0 F)) else(some f)
def gH(K:Nat)(f:List Int)(a1:List Int):Option (List Int):=
 (eN K f a1 K ([]:List Int) 0 0).bind fun e=>qA K e
theorem pG{K:Nat}{X:List Int}{a1:List Int}{r:List Int}(e:gH K X a1=some r):Ct Tryz.prog 100 [.vc (pS cI X),.vc (pS cI a1)] (.vc (pS cI r)):=by
 unfold gH at e;refine aA Tryz.func100 rfl (by kernel_rfl) Tryz.ntmps100 rfl (fun w0 M0=>?_);refine aE (aI (aG (aP (.inr rfl)) ⟨eG cI,zT⟩ ?_));refine aX (aH (aE (aI (rF cI 3 rfl ?_))));refine go ?_ ?_;refine aJ (aY (fun H E=>∃(q:List Int),∃(x:Option Nat),∃(y:Nat),∃(s:Nat),qA K q=some r∧q.length=s∧H=[hO cI x y 3 s q]∧E=[(5,.vc (pO x s y))]) ?_ (fun L=>?_))
 ·rintro _ _ ⟨q,x,y,s,e,Y,rfl,rfl⟩;unfold qA at e;refine go ?_ ?_;refine gV (gW (tU 0 [4,5,33] rfl Y ⟨rfl,rfl,rfl,zT⟩ rfl ?_));obtain rfl:=iO e;exact kJ (.inl rfl) Tryz.results100 (.tmp rfl .nil) rfl rfl
 obtain⟨O,hL,z⟩:=aR e;refine dU (fun k a w=>∃(h:List Int),∃(F:Int),∃(G:Int),∃(t:Option Nat),∃(u:Nat),∃(f:Nat),eN K X a1 k h F G=some O∧h.length=f∧hs _ [hO cI t u 3 f h] [(0,.vc (pS cI X)),(1,.vc (pS cI a1)),(5,.vc (pO t f u)),(6,vI F),(7,vI G)] a w) K (fun a w ⟨_,_,_,_,_,_,e,_,_⟩=>by cases e) (fun k a w ⟨h,F,G,t,u,f,e,j,hh⟩=>dW ?_ hh) (fun a w hh=>⟨([]:List Int),0,0,none,0,0,hL,rfl,jG [0] hh⟩);rw[eN.eq_2]at e;refine go ?_ ?_;refine aD e rfl (fun h27 e=>?_) (fun h27 e=>?_)
 ·refine go ?_ ?_;refine aJ (aE ?_);obtain⟨v30,h31,e⟩:=aR e;obtain⟨v32,h33,e⟩:=bE e gX;obtain⟨v34,h35,e⟩:=aR e;obtain⟨I,h37,e⟩:=aR e;refine dr [0,0,3,7,0,0,48,127,0,511,1023] 11 0 ?_ (fun bs29 G28=>?_);refine go ?_ ?_;refine aD e rfl (fun h38 e=>?_) (fun h38 e=>?_)
  ·obtain⟨J,h40,e⟩:=aR e;refine go ?_ ?_;refine aG (iH (C:=cI) (xs:=[.tmp 30]) (ps:=[vI J]) (zs:=[J]) rfl tyS22 rfl ⟨⟨zT,rfl⟩,zT⟩ rfl) zU1 ?_;obtain⟨x41,U,e⟩:=aR e;refine nZ 0 rfl tyS22 rfl rfl j rfl rfl U (fun b43 c44 H45 e46=>?_);cases e46;obtain⟨v48,h49,e⟩:=aR e;refine go ?_ ?_;exact aF (fun a w hh=>⟨x41,1,v48,b43,c44,(f+[J].length),e,(dN U j),jG [0] hh⟩)
  refine go ?_ ?_;refine aG (iH (C:=cI) (xs:=[.tmp 30]) (ps:=[vI I]) (zs:=[I]) rfl tyS22 rfl ⟨⟨zT,rfl⟩,zT⟩ rfl) zU1 ?_;obtain⟨x50,V,e⟩:=aR e;refine nZ 0 rfl tyS22 rfl rfl j rfl rfl V (fun b52 c53 H54 e55=>?_);cases e55;obtain⟨v57,h58,e⟩:=aR e;refine go ?_ ?_;exact aF (fun a w hh=>⟨x50,0,v57,b52,c53,(f+[I].length),e,(dN V j),jG [0] hh⟩)
 refine bF ?_;obtain rfl:=iO e;exact rU L ⟨h,t,u,f,z,j,rfl,rfl⟩ [0]
def p6(K:Nat)(e:aC)(a1:aC):Option aC:=
 bif(e.neg==a1.neg) then((q0 K e.d a1.d).bind fun q=>(bB K e.neg q).bind fun s=>some s) else((dD K e.d a1.d).bind fun v11=>bif(decide (v11<0)) then((gH K a1.d e.d).bind fun f=>(bB K a1.neg f).bind fun h=>some h) else((gH K e.d a1.d).bind fun j=>(bB K e.neg j).bind fun k=>some k))
theorem aAp{K:Nat}{j:aC}{a1:aC}{r:aC}(f:p6 K j a1=some r):Ct Tryz.prog 61 [.va (aC.e j),.va (aC.e a1)] (.va (aC.e r)):=by
 unfold p6 at f;refine aA Tryz.func61 rfl (by kernel_rfl) Tryz.ntmps61 rfl (fun w0 M0=>?_);refine aE (aI (dP rfl rfl zT (fun X=>?_)));refine dP rfl rfl zT (fun b2=>?_);refine aM rfl tyZ40 (fun Y=>?_);refine go ?_ ?_;refine aG (aPG rfl Tryz.underlying4) zU2 ?_;refine aX (aH (aD f rfl (fun s f=>?_) (fun s f=>?_)))
 ·refine aE ?_;obtain⟨v7,h8,f⟩:=bE f aC1;obtain⟨v9,t,f⟩:=bE f bN;refine dr [0,1,0,4,0,16,60,127,255] 8 1 ?_ (fun u G5=>?_);exact bU
 obtain⟨v11,x,f⟩:=bE f mQ;refine go ?_ ?_;refine aD f rfl (fun h f=>?_) (fun h f=>?_)
 ·refine aE ?_;obtain⟨y,z,f⟩:=bE f pG;obtain⟨F,G,f⟩:=bE f bN;refine dr [0,1,0,4,0,16,60,127,255] 8 1 ?_ (fun k I=>?_);exact bU
 obtain⟨J,L,f⟩:=bE f pG;obtain⟨O,U,f⟩:=bE f bN;refine go ?_ ?_;refine dr [0,1,0,4,0,16,60,127,255] 8 1 ?_ (fun q V=>?_);exact bU
def sW(K:Nat)(h:Int)(e:List Int):Option aC:=
 (bB K (decide (h<0)) e).bind fun f=>some f
def d7(K:Nat):Nat→(List Int)→Int→Option (List Int)
 |0,_,_=>none
 |k+1,f,e=>bif(e != 0) then((chr e 1000000000).bind fun h=>bif(decide (h<0)) then((aV (-h)).bind fun j=>(tC f [j]).bind fun q=>(chq e 1000000000).bind fun s=>d7 K k q s) else((tC f [h]).bind fun t=>(chq e 1000000000).bind fun u=>d7 K k t u)) else(some f)
def iX(K:Nat)(f:Int):Option aC:=
 (d7 K K ([]:List Int) f).bind fun e=>sW K f e
theorem nP{K:Nat}{L:Int}{r:aC}(f:iX K L=some r):Ct Tryz.prog 62 [vI L] (.va (aC.e r)):=by
 unfold iX at f;refine aA Tryz.func62 rfl (by kernel_rfl) Tryz.ntmps62 rfl (fun w0 M0=>?_);refine aE (aI (aM rfl tyZ40 (fun Y=>?_)));refine aX (aH (aE (aI (rF cI 3 rfl ?_))));refine go ?_ ?_;refine aJ (aY (fun H E=>∃(s:List Int),∃(y:Option Nat),∃(z:Nat),∃(t:Nat),sW K L s=some r∧s.length=t∧H=[hO cI y z 3 t s,⟨some Y,1,40,2,1,([pB false]++[pS cI ([]:List Int)])⟩]∧E=[(2,.vc (pP (some Y) 0)),(3,.vc (pO y t z)),(4,.vc (pB (decide (L<0))))]) ?_ (fun O=>?_))
 ·rintro _ _ ⟨s,y,z,t,f,q22,rfl,rfl⟩;unfold sW at f;refine aH (aE (aI (gG ?_)));refine gG ?_;refine xC 0 [3,23] rfl q22 zU2 rfl ?_;obtain⟨v26,h27,f⟩:=bE f bN;exact bU
 obtain⟨U,hL,F⟩:=aR f;refine dU (fun k a w=>∃(j:List Int),∃(G:Int),∃(u:Option Nat),∃(x:Nat),∃(h:Nat),d7 K k j G=some U∧j.length=h∧hs _ [hO cI u x 3 h j,⟨some Y,1,40,2,1,([pB false]++[pS cI ([]:List Int)])⟩] [(0,vI G),(2,.vc (pP (some Y) 0)),(3,.vc (pO u h x)),(4,.vc (pB (decide (L<0))))] a w) K (fun a w ⟨_,_,_,_,_,f,_,_⟩=>by cases f) (fun k a w ⟨j,G,u,x,h,f,q,hh⟩=>dW ?_ hh) (fun a w hh=>⟨([]:List Int),L,none,0,0,hL,rfl,jG [0,1] hh⟩);rw[d7.eq_2]at f;refine go ?_ ?_;refine aD f rfl (fun h28 f=>?_) (fun h28 f=>?_)
 ·refine fB (aH (aJ ?_));obtain⟨I,h30,f⟩:=aR f;refine go ?_ ?_;refine aD f rfl (fun h31 f=>?_) (fun h31 f=>?_)
  ·obtain⟨J,h33,f⟩:=aR f;refine go ?_ ?_;refine aG (iH (C:=cI) (xs:=[.tmp 17]) (ps:=[vI J]) (zs:=[J]) rfl tyS22 rfl ⟨⟨zT,rfl⟩,zT⟩ rfl) zU1 ?_;obtain⟨x34,V,f⟩:=aR f;refine nZ 0 rfl tyS22 rfl rfl q rfl rfl V (fun b36 c37 H38 e39=>?_);cases e39;obtain⟨v41,h42,f⟩:=aR f;refine go ?_ ?_;exact aF (fun a w hh=>⟨x34,v41,b36,c37,(h+[J].length),f,(dN V q),jG [0,1] hh⟩)
  refine go ?_ ?_;refine aG (iH (C:=cI) (xs:=[.tmp 17]) (ps:=[vI I]) (zs:=[I]) rfl tyS22 rfl ⟨⟨zT,rfl⟩,zT⟩ rfl) zU1 ?_;obtain⟨x43,X,f⟩:=aR f;refine nZ 0 rfl tyS22 rfl rfl q rfl rfl X (fun b45 c46 H47 e48=>?_);cases e48;obtain⟨v50,h51,f⟩:=aR f;refine go ?_ ?_;exact aF (fun a w hh=>⟨x43,v50,b45,c46,(h+[I].length),f,(dN X q),jG [0,1] hh⟩)
 refine bF ?_;obtain rfl:=iO f;exact rU O ⟨j,u,x,h,F,q,rfl,rfl⟩ [0,1]
def nC(K:Nat)(e:aC):Option aC:=
 (bB K (!e.neg) e.d).bind fun f=>some f
theorem w5{K:Nat}{h:aC}{r:aC}(f:nC K h=some r):Ct Tryz.prog 84 [.va (aC.e h)] (.va (aC.e r)):=by
 unfold nC at f;refine aA Tryz.func84 rfl (by kernel_rfl) Tryz.ntmps84 rfl (fun w0 M0=>?_);refine aE (aI (dP rfl rfl zT (fun j=>?_)));refine aM rfl tyZ40 (fun b2=>?_);obtain⟨k,q,f⟩:=bE f bN;exact bU
def fS(e:Bool)(a1:Int):Option aC:=
 bif(a1==0) then(some (⟨false,([]:List Int)⟩:aC)) else(bif(decide (a1<1000000000)) then(some (⟨e,[(IntKind.i64.wrap a1)]⟩:aC)) else(bif(decide (a1<1000000000000000000)) then((chr a1 1000000000).bind fun v5=>(uq a1 1000000000).bind fun k=>some (⟨e,[(IntKind.i64.wrap v5),(IntKind.i64.wrap k)]⟩:aC)) else((chr a1 1000000000).bind fun q=>(uq a1 1000000000).bind fun v11=>(chr v11 1000000000).bind fun f=>(uq a1 1000000000).bind fun h=>(uq h 1000000000).bind fun j=>some (⟨e,[(IntKind.i64.wrap q),(IntKind.i64.wrap f),(IntKind.i64.wrap j)]⟩:aC))))
theorem lP{q:Bool}{a1:Int}{r:aC}(f:fS q a1=some r):Ct Tryz.prog 134 [.vc (pB q),.vc (pI .u64 a1)] (.va (aC.e r)):=by
 unfold fS at f;refine aA Tryz.func134 rfl (by kernel_rfl) Tryz.ntmps134 rfl (fun w0 M0=>?_);refine aE (aI (aM rfl tyZ40 (fun J=>?_)));refine go ?_ ?_;refine aJ (go ?_ ?_);refine aD f rfl (fun y f=>?_) (fun y f=>?_)
 ·refine aE (aI (aG (iV (is:=[]) (xs:=[]) (ps:=[]) rfl tyB40 rfl rfl zT rfl) zT ?_));exact bU
 refine go ?_ ?_;refine aD f rfl (fun z f=>?_) (fun z f=>?_)
 ·refine go ?_ ?_;refine aG (aEW rfl ⟨_,Tryz.underlying131⟩ Tryz.underlying3) zU1 ?_;refine aG (iH (C:=cI) (xs:=[.tmp 14]) (ps:=[vI (IntKind.i64.wrap a1)]) (zs:=[(IntKind.i64.wrap a1)]) rfl tyS22 rfl ⟨⟨zT,rfl⟩,zT⟩ rfl) zU1 ?_;refine aG (iV (is:=[0,1]) (xs:=[.tmp 12,.tmp 15]) (ps:=[.vc (pB q),.vc (pS cI [(IntKind.i64.wrap a1)])]) rfl tyB40 rfl rfl ⟨zT,zT,zT⟩ rfl) zU2 ?_;exact bU
 refine go ?_ ?_;refine aD f rfl (fun F f=>?_) (fun F f=>?_)
 ·obtain⟨v5,K,f⟩:=aR f;refine go ?_ ?_;refine aG (aEW rfl ⟨_,Tryz.underlying131⟩ Tryz.underlying3) zU1 ?_;refine gG ?_;obtain⟨s,G,f⟩:=aR f;refine aG (aI0 rfl G) ⟨rfl,rR _ _,zT⟩ ?_;refine aG (aEW rfl ⟨_,Tryz.underlying131⟩ Tryz.underlying3) zU1 ?_;refine aG (iH (C:=cI) (xs:=[.tmp 23,.tmp 26]) (ps:=[vI (IntKind.i64.wrap v5),vI (IntKind.i64.wrap s)]) (zs:=[(IntKind.i64.wrap v5),(IntKind.i64.wrap s)]) rfl tyS22 rfl ⟨⟨zT,rfl⟩,⟨zT,rfl⟩,zT⟩ rfl) zU2 ?_;refine aG (iV (is:=[0,1]) (xs:=[.tmp 20,.tmp 27]) (ps:=[.vc (pB q),.vc (pS cI [(IntKind.i64.wrap v5),(IntKind.i64.wrap s)])]) rfl tyB40 rfl rfl ⟨zT,zT,zT⟩ rfl) zU2 ?_;exact bU
 obtain⟨t,I,f⟩:=aR f;refine go ?_ ?_;refine aG (aEW rfl ⟨_,Tryz.underlying131⟩ Tryz.underlying3) zU1 ?_;refine gG ?_;obtain⟨v11,h,f⟩:=aR f;refine aG (aI0 rfl h) ⟨rfl,rR _ _,zT⟩ ?_;obtain⟨j,u,f⟩:=aR f;refine aG (aHQ rfl u) ⟨rfl,rR _ _,zT⟩ ?_;refine aG (aEW rfl ⟨_,Tryz.underlying131⟩ Tryz.underlying3) zU1 ?_;refine gG ?_;have f:=uS h f;refine aG (aI0 rfl h) ⟨rfl,rR _ _,zT⟩ ?_;obtain⟨k,x,f⟩:=aR f;refine aG (aI0 rfl x) ⟨rfl,rR _ _,zT⟩ ?_;refine aG (aEW rfl ⟨_,Tryz.underlying131⟩ Tryz.underlying3) zU1 ?_;refine aG (iH (C:=cI) (xs:=[.tmp 32,.tmp 36,.tmp 40]) (ps:=[vI (IntKind.i64.wrap t),vI (IntKind.i64.wrap j),vI (IntKind.i64.wrap k)]) (zs:=[(IntKind.i64.wrap t),(IntKind.i64.wrap j),(IntKind.i64.wrap k)]) rfl tyS22 rfl ⟨⟨zT,rfl⟩,⟨zT,rfl⟩,⟨zT,rfl⟩,zT⟩ rfl) ⟨rfl,rfl,rfl,zT⟩ ?_;refine aG (iV (is:=[0,1]) (xs:=[.tmp 29,.tmp 41]) (ps:=[.vc (pB q),.vc (pS cI [(IntKind.i64.wrap t),(IntKind.i64.wrap j),(IntKind.i64.wrap k)])]) rfl tyB40 rfl rfl ⟨zT,zT,zT⟩ rfl) zU2 ?_;exact bU
def nK(e:Int):Option aC:=
 bif(decide (e<0)) then((fS (decide (e<0)) (wu (-(IntKind.u64.wrap e)))).bind fun f=>some f) else((fS (decide (e<0)) (IntKind.u64.wrap e)).bind fun v5=>some v5)
theorem tD{h:Int}{r:aC}(f:nK h=some r):Ct Tryz.prog 86 [vI h] (.va (aC.e r)):=by
 unfold nK at f;refine aA Tryz.func86 rfl (by kernel_rfl) Tryz.ntmps86 rfl (fun w0 M0=>?_);refine aE (aI (aM rfl tyZ40 (fun k=>?_)));refine go ?_ ?_;refine aG (aEW rfl ⟨_,Tryz.underlying3⟩ Tryz.underlying131) zU1 ?_;refine go ?_ ?_;refine aD f rfl (fun j f=>?_) (fun j f=>?_)
 ·refine aI (gG ?_);refine aG (aUL rfl) zU1 ?_;obtain⟨q,s,f⟩:=bE f lP;exact bU
 obtain⟨v5,t,f⟩:=bE f lP;exact bU
def vC(e:aC):Option Int:=
 bif e.neg then(some (-1)) else(bif((e.d.length:Int)==0) then(some 0) else(some 1))
theorem aFE{h:aC}{r:Int}(f:vC h=some r):Ct Tryz.prog 88 [.va (aC.e h)] (vI r):=by
 unfold vC at f;refine aA Tryz.func88 rfl (by kernel_rfl) Tryz.ntmps88 rfl (fun w0 M0=>?_);refine aE (aI (dP rfl rfl zT (fun q=>?_)));refine go ?_ ?_;refine aJ (go ?_ ?_);refine aD f rfl (fun j f=>?_) (fun j f=>?_)
 ·exact bU
 refine go ?_ ?_;refine aD f rfl (fun k f=>?_) (fun k f=>?_)
 ·exact bU
 exact bU
def uY(K:Nat):Option Bool:=
 some true
def iM(K:Nat)(f:aC)(a1:aC):Nat→Int→Option (LR Bool Unit)
 |0,_=>none
 |k+1,e=>bif(decide (e<(f.d.length:Int))) then((bR f.d e).bind fun h=>(bR a1.d e).bind fun j=>bif(h != j) then(some (.ret false)) else((aV (e+1)).bind fun q=>iM K f a1 k q)) else(some (.go ()))
def oN(K:Nat)(e:aC)(a1:aC):Option Bool:=
 bif(e.neg != a1.neg) then(some false) else(bif((e.d.length:Int) != (a1.d.length:Int)) then(some false) else((iM K e a1 K 0).bind fun o=>match o with| .ret r=>some r| .go _=>uY K))
theorem zR{K:Nat}{j:aC}{a1:aC}{r:Bool}(f:oN K j a1=some r):Ct Tryz.prog 92 [.va (aC.e j),.va (aC.e a1)] (.vc (pB r)):=by
 unfold oN at f;refine aA Tryz.func92 rfl (by kernel_rfl) Tryz.ntmps92 rfl (fun w0 M0=>?_);refine aE (aI (dP rfl rfl zT (fun y=>?_)));refine dP rfl rfl zT (fun b2=>?_);refine go ?_ ?_;refine aG (aCs rfl Tryz.underlying4) zU2 ?_;refine gG ?_;refine dK f (fun F f=>?_) (fun F f=>?_)
 ·refine go ?_ ?_;refine kA rfl ?_;exact bU
 refine go ?_ ?_;refine aD f rfl (fun G f=>?_) (fun G f=>?_)
 ·exact bU
 refine go ?_ ?_;refine aJ (aY (fun H E=>uY K=some r∧H=[]∧E=[]) ?_ (fun q=>?_))
 ·rintro _ _ ⟨f,rfl,rfl⟩;unfold uY at f;exact bU
 obtain⟨s,I,h⟩:=aR f;refine dU (fun k a w=>∃(t:Int),iM K j a1 k t=some s∧hs _ [⟨some b2,1,40,2,1,(aC.e a1)⟩,⟨some y,1,40,2,1,(aC.e j)⟩] [(2,.vc (pP (some y) 0)),(3,.vc (pP (some b2) 0)),(5,vI t)] a w) K (fun a w ⟨_,f,_⟩=>by cases f) (fun k a w ⟨t,f,hh⟩=>dW ?_ hh) (fun a w hh=>⟨0,I,jG [0,1] hh⟩);rw[iM.eq_2]at f;refine go ?_ ?_;refine aD f rfl (fun J f=>?_) (fun J f=>?_)
 ·refine go ?_ ?_;refine aJ (aE ?_);obtain⟨L,O,f⟩:=aR f;obtain⟨U,V,f⟩:=aR f;refine dr [0,1,0,7,15,0,32,0,224,480,1023] 11 0 ?_ (fun z X=>?_);refine aX (aH (aD f rfl (fun u f=>?_) (fun u f=>?_)))
  ·exact bU
  obtain⟨x,Y,f⟩:=aR f;refine go ?_ ?_;exact aF (fun a w hh=>⟨x,f,jG [0,1] hh⟩)
 refine bF ?_;obtain rfl:=iO f;exact rU q ⟨h,rfl,rfl⟩ []
def g8(e:List Int):Option Int:=
 (dJ e 1).bind fun v1=>(aV (v1*1000000000)).bind fun f=>(dJ e 0).bind fun v5=>(aV (f+v5)).bind fun h=>some h
theorem n9{f:List Int}{r:Int}(e:g8 f=some r):Ct Tryz.prog 138 [.vc (pS cI f)] (vI r):=by
 unfold g8 at e;refine aA Tryz.func138 rfl (by kernel_rfl) Tryz.ntmps138 rfl (fun w0 M0=>?_);obtain⟨v1,h,e⟩:=bE e gX;obtain⟨j,k,e⟩:=aR e;obtain⟨v5,q,e⟩:=bE e gX;obtain⟨s,t,e⟩:=aR e;exact bU
def kC(K:Nat)(e:List Int)(a1:Int):Option (List Int):=
 (bB K false e).bind fun v1=>(iX K a1).bind fun f=>(jC K v1 f).bind fun v5=>some v5.d
theorem sV{K:Nat}{f:List Int}{a1:Int}{r:List Int}(e:kC K f a1=some r):Ct Tryz.prog 165 [.vc (pS cI f),vI a1] (.vc (pS cI r)):=by
 unfold kC at e;refine aA Tryz.func165 rfl (by kernel_rfl) Tryz.ntmps165 rfl (fun w0 M0=>?_);refine aE (aI (aG (aP (.inr rfl)) ⟨eG cI,zT⟩ ?_));obtain⟨v1,h,e⟩:=bE e bN;obtain⟨j,k,e⟩:=bE e nP;obtain⟨v5,q,e⟩:=bE e oU;refine go ?_ ?_;refine aM rfl tyZ40 (fun s=>?_);exact bU
def lI(K:Nat)(e:List Int)(f:List Int):Option ((List Int)×(List Int)):=
 some (e,f)
def jK(K:Nat)(a1:List Int)(h:List Int)(f:Int)(k:aC)(e:(List Int)→(List Int)→Int→Option ((List Int)×(List Int)))(j:Int):Option ((List Int)×(List Int)):=
 (kC K a1 j).bind fun q=>(gH K k.d q).bind fun s=>(bB K false s).bind fun t=>(bR h f).bind fun y=>(rW h f j).bind fun u=>(aV (f-1)).bind fun x=>e u t.d x
def bQ(K:Nat)(a1:List Int)(h:aC):Nat→Int→Int→Option Int
 |0,_,_=>none
 |k+1,f,j=>bif(decide (f<j)) then((aV (f+j)).bind fun u=>(aV (u+1)).bind fun x=>(chq x 2).bind fun e=>(kC K a1 e).bind fun q=>(dD K q h.d).bind fun s=>bif(decide (s≤0)) then(bQ K a1 h k e j) else((aV (e-1)).bind fun t=>bQ K a1 h k f t)) else(some f)
def gK(K:Nat)(a1:List Int)(h:List Int)(j:Int)(f:aC)(e:(List Int)→(List Int)→Int→Option ((List Int)×(List Int)))(k:Int):Option ((List Int)×(List Int)):=
 (bQ K a1 f K 0 k).bind fun q=>jK K a1 h j f e q
def bH(K:Nat)(s:List Int)(a1:List Int):Nat→(List Int)→(List Int)→Int→Option ((List Int)×(List Int))
 |0,_,_,_=>none
 |k+1,f,j,e=>bif(decide (0≤e)) then((bR s e).bind fun t=>(tC [t] j).bind fun u=>(bB K false u).bind fun h=>(dD K h.d a1).bind fun q=>bif(decide (q<0)) then(gK K a1 f e h (bH K s a1 k) 0) else(gK K a1 f e h (bH K s a1 k) 999999999)) else(some (f,j))
def rA(K:Nat)(e:List Int)(f:List Int):Option ((List Int)×(List Int)):=
 some (e,f)
def nJ(K:Nat)(a1:List Int)(h:List Int)(e:Int)(k:aC)(f:(List Int)→(List Int)→Int→Option ((List Int)×(List Int)))(j:Int):Option ((List Int)×(List Int)):=
 (kC K a1 j).bind fun q=>(gH K k.d q).bind fun s=>(bB K false s).bind fun t=>(bR h e).bind fun y=>(rW h e j).bind fun u=>(aV (e-1)).bind fun x=>f u t.d x
def fR(K:Nat)(a1:List Int)(f:aC):Nat→Int→Int→Option Int
 |0,_,_=>none
 |k+1,e,h=>bif(decide (e<h)) then((aV (e+h)).bind fun q=>(aV (q+1)).bind fun s=>(chq s 2).bind fun j=>(kC K a1 j).bind fun t=>(dD K t f.d).bind fun u=>bif(decide (u≤0)) then(fR K a1 f k j h) else((aV (j-1)).bind fun x=>fR K a1 f k e x)) else(some e)
def k9(K:Nat)(a1:List Int)(h:List Int)(j:Int)(f:aC)(e:(List Int)→(List Int)→Int→Option ((List Int)×(List Int)))(k:Int):Option ((List Int)×(List Int)):=
 (fR K a1 f K 0 k).bind fun q=>nJ K a1 h j f e q
def cO(K:Nat)(u:List Int)(a1:List Int):Nat→(List Int)→(List Int)→Int→Option ((List Int)×(List Int))
 |0,_,_,_=>none
 |k+1,f,j,e=>bif(decide (0≤e)) then((bR u e).bind fun q=>(tC [q] j).bind fun s=>(bB K false s).bind fun h=>(dD K h.d a1).bind fun t=>bif(decide (t<0)) then(k9 K a1 f e h (cO K u a1 k) 0) else(k9 K a1 f e h (cO K u a1 k) 999999999)) else(some (f,j))
def kG(K:Nat)(e:List Int)(a1:List Int):Option ((List Int)×(List Int)):=
 bif(decide ((e.length:Int)≤2)) then(bif(decide ((a1.length:Int)≤2)) then((g8 e).bind fun G=>(g8 a1).bind fun v5=>(chq G v5).bind fun I=>(iX K I).bind fun J=>(g8 e).bind fun q=>(g8 a1).bind fun s=>(chr q s).bind fun t=>(iX K t).bind fun u=>some (J.d,u.d)) else((mkL (e.length:Int) 0).bind fun x=>(aV ((e.length:Int)-1)).bind fun y=>(bH K e a1 K x [] y).bind fun(z,F)=>lI K z F)) else((mkL (e.length:Int) 0).bind fun f=>(aV ((e.length:Int)-1)).bind fun h=>(cO K e a1 K f [] h).bind fun(j,k)=>rA K j k)
theorem aBM{K:Nat}{G:List Int}{a1:List Int}{r:(List Int)×(List Int)}(e:kG K G a1=some r):Ct Tryz.prog 139 [.vc (pS cI G),.vc (pS cI a1)] (.t2 (.vc (pS cI r.1)) (.vc (pS cI r.2))):=by
 unfold kG at e;refine aA Tryz.func139 rfl (by kernel_rfl) Tryz.ntmps139 rfl (fun w0 M0=>?_);refine aE (aI (aG (aP (.inr rfl)) ⟨eG cI,zT⟩ ?_));refine aG (aP (.inr rfl)) ⟨eG cI,zT⟩ ?_;refine go ?_ ?_;refine dK e (fun h1 e=>?_) (fun h1 e=>?_)
 ·refine go ?_ ?_;refine aD e rfl (fun h2 e=>?_) (fun h2 e=>?_)
  ·obtain⟨v3,h4,e⟩:=bE e n9;obtain⟨v5,h6,e⟩:=bE e n9;obtain⟨v7,h8,e⟩:=aR e;obtain⟨v9,h10,e⟩:=bE e nP;refine go ?_ ?_;refine aM rfl tyZ40 (fun b11=>?_);obtain⟨v12,h13,e⟩:=bE e n9;obtain⟨v14,h15,e⟩:=bE e n9;obtain⟨v16,h17,e⟩:=aR e;obtain⟨v18,h19,e⟩:=bE e nP;refine go ?_ ?_;refine aM rfl tyZ40 (fun b20=>?_);refine go ?_ ?_;refine dr [0,1,0,4,3,31] 6 0 ?_ (fun bs22 G21=>?_);refine aX (aH ?_);exact bU
  obtain⟨h,h24,e⟩:=aR e;refine go ?_ ?_;refine qE (C:=cI) rfl tyS22 rfl tyZ3 rfl h24 (fun u=>?_);refine go ?_ ?_;refine aG (aP (.inr rfl)) ⟨eG cI,zT⟩ ?_;obtain⟨v28,h29,e⟩:=aR e;refine go ?_ ?_;refine aJ (aY (fun H E=>∃(x46:List Int),∃(x52:List Int),lI K x46 x52=some r∧x46.length=h.length∧H=[hO cI u h.length 3 h.length x46]∧E=[(8,.vc (pO u h.length h.length)),(9,.vc (pS cI x52))]) ?_ (fun Jj54=>?_))
  ·rintro _ _ ⟨x46,x52,e,q50,rfl,rfl⟩;unfold lI at e;refine go ?_ ?_;refine gV (gW (tU 0 [4,8,93] rfl q50 ⟨rfl,rfl,rfl,zT⟩ rfl ?_));obtain rfl:=iO e;exact kJ (.inl rfl) Tryz.results139 (.tmp rfl (.tmp rfl .nil)) rfl rfl
  obtain⟨⟨Y,x52'⟩,hL,hRl53⟩:=aR e;refine dU (fun k a w=>∃(x:List Int),∃(x44:List Int),∃(z:Int),bH K G a1 k x x44 z=some (Y,x52')∧x.length=h.length∧hs _ [hO cI u h.length 3 h.length x] [(0,.vc (pS cI G)),(1,.vc (pS cI a1)),(8,.vc (pO u h.length h.length)),(9,.vc (pS cI x44)),(10,vI z)] a w) K (fun a w ⟨_,_,_,e,_,_⟩=>by cases e) (fun k a w ⟨x,x44,z,e,q42,hh⟩=>dW ?_ hh) (fun a w hh=>⟨h,[],v28,hL,rfl,jG [0] hh⟩);rw[bH.eq_2]at e;refine go ?_ ?_;refine aD e rfl (fun h55 e=>?_) (fun h55 e=>?_)
  ·refine go ?_ ?_;refine aJ ?_;obtain⟨v56,h57,e⟩:=aR e;refine go ?_ ?_;refine aNR (aJ4 (C:=cI) (xs:=[.tmp 53]) (ps:=[vI v56]) (zs:=[v56]) rfl tyS22 rfl ⟨⟨zT,rfl⟩,zT⟩ rfl) zU1 (fun b58 _=>?_);refine gG ?_;obtain⟨x61,h62,e⟩:=aR e;refine nZ 0 rfl tyS22 rfl rfl rfl rfl rfl h62 (fun b63 c64 H65 e66=>?_);cases e66;refine xC 0 [56] rfl (dN h62 rfl) zU1 rfl ?_;obtain⟨X,h69,e⟩:=bE e bN;refine aG (bO rfl h69 rfl) ⟨k_B _,rfl,zT⟩ ?_;refine aM rfl tyZ40 (fun b70=>?_);refine mI (t_s 0 rfl rfl rfl tyA40.s) zU2 ?_;refine aX (aH (aE (aI (aG (iG (off:=0) (k:=1) rfl tyF40_1) zU1 ?_))));refine aG (gM 0 1 rfl rfl rfl rfl (.one tyO22)) zU1 ?_;refine zH ?_;refine aX (aH (aE (aI (aG (aP (.inr rfl)) ⟨rR _ _,zT⟩ ?_))));refine aX (aH (aE (aI (aG (aP (.inr rfl)) ⟨rR _ _,zT⟩ ?_))));refine aX (aH (aE (zK (fun H E=>∃(x72:Int),gK K a1 x z X (bH K G a1 k) x72=some (Y,x52')∧H=[hO cI u h.length 3 h.length x]∧E=[(0,.vc (pS cI G)),(1,.vc (pS cI a1)),(8,.vc (pO u h.length h.length)),(9,.vc (pS cI X.d)),(10,vI z),(12,vI 0),(13,vI x72)]) ?_ (fun Jj73=>?_))))
   ·rintro _ _ ⟨x72,e,rfl,rfl⟩;unfold gK at e;refine aE (aJ (aY (fun H E=>∃(x78:Int),jK K a1 x z X (bH K G a1 k) x78=some (Y,x52')∧H=[hO cI u h.length 3 h.length x]∧E=[(0,.vc (pS cI G)),(1,.vc (pS cI a1)),(8,.vc (pO u h.length h.length)),(9,.vc (pS cI X.d)),(10,vI z),(12,vI x78)]) ?_ (fun Jj80=>?_)))
    ·rintro _ _ ⟨x78,e,rfl,rfl⟩;unfold jK at e;obtain⟨v81,h82,e⟩:=bE e sV;obtain⟨v83,h84,e⟩:=bE e pG;obtain⟨v85,h86,e⟩:=bE e bN;refine go ?_ ?_;refine aM rfl tyZ40 (fun b87=>?_);obtain⟨v88,h89,x90,h91,v93,h94,e⟩:=bn3 e;refine go ?_ ?_;exact aF (fun a w hh=>⟨x90,v85.d,v93,e,(bI h91 q42),jG [1] hh⟩)
    obtain⟨x78',hL,hRl79⟩:=aR e;refine dU (fun k a w=>∃(x76:Int),∃(x77:Int),bQ K a1 X k x76 x77=some x78'∧hs _ [hO cI u h.length 3 h.length x] [(0,.vc (pS cI G)),(1,.vc (pS cI a1)),(8,.vc (pO u h.length h.length)),(9,.vc (pS cI X.d)),(10,vI z),(12,vI x76),(13,vI x77)] a w) K (fun a w ⟨_,_,e,_⟩=>by cases e) (fun k a w ⟨x76,x77,e,hh⟩=>dW ?_ hh) (fun a w hh=>⟨0,x72,hL,jG [0] hh⟩);rw[bQ.eq_2]at e;refine go ?_ ?_;refine aD e rfl (fun h95 e=>?_) (fun h95 e=>?_)
    ·refine fB (aH (aJ ?_));obtain⟨v96,h97,v98,h99,v100,h101,e⟩:=bn3 e;obtain⟨v102,h103,e⟩:=bE e sV;obtain⟨v104,h105,e⟩:=bE e mQ;refine go ?_ ?_;refine aD e rfl (fun h106 e=>?_) (fun h106 e=>?_)
     ·refine go ?_ ?_;exact aF (fun a w hh=>⟨v100,x77,e,jG [0] hh⟩)
     obtain⟨v107,h108,e⟩:=aR e;refine go ?_ ?_;exact aF (fun a w hh=>⟨x76,v107,e,jG [0] hh⟩)
    refine bF ?_;obtain rfl:=iO e;exact rU Jj80 ⟨x76,hRl79,rfl,rfl⟩ [0]
   obtain⟨v109,h110,e⟩:=bE e mQ;refine go ?_ ?_;refine aD e rfl (fun h111 e=>?_) (fun h111 e=>?_)
   ·refine aI (aG (aP (.inr rfl)) ⟨rR _ _,zT⟩ ?_);refine aX ?_;exact rU Jj73 ⟨0,e,rfl,rfl⟩ [1]
   refine fB ?_;exact rU Jj73 ⟨999999999,e,rfl,rfl⟩ [1]
  refine bF ?_;obtain⟨rfl,rfl⟩:=sm2 e;exact rU Jj54 ⟨x,x44,hRl53,q42,rfl,rfl⟩ [0]
 refine go ?_ ?_;refine vN rfl ?_;obtain⟨f,h113,e⟩:=aR e;refine go ?_ ?_;refine qE (C:=cI) rfl tyS22 rfl tyZ3 rfl h113 (fun j=>?_);refine go ?_ ?_;refine aG (aP (.inr rfl)) ⟨eG cI,zT⟩ ?_;obtain⟨v117,h118,e⟩:=aR e;refine go ?_ ?_;refine aJ (aY (fun H E=>∃(L:List Int),∃(x141:List Int),rA K L x141=some r∧L.length=f.length∧H=[hO cI j f.length 3 f.length L]∧E=[(8,.vc (pO j f.length f.length)),(9,.vc (pS cI x141))]) ?_ (fun Jj143=>?_))
 ·rintro _ _ ⟨L,x141,e,q139,rfl,rfl⟩;unfold rA at e;refine go ?_ ?_;refine gV (gW (tU 0 [4,8,93] rfl q139 ⟨rfl,rfl,rfl,zT⟩ rfl ?_));obtain rfl:=iO e;exact kJ (.inl rfl) Tryz.results139 (.tmp rfl (.tmp rfl .nil)) rfl rfl
 obtain⟨⟨I,J⟩,hL,hRl142⟩:=aR e;refine dU (fun k a w=>∃(q:List Int),∃(O:List Int),∃(t:Int),cO K G a1 k q O t=some (I,J)∧q.length=f.length∧hs _ [hO cI j f.length 3 f.length q] [(0,.vc (pS cI G)),(1,.vc (pS cI a1)),(8,.vc (pO j f.length f.length)),(9,.vc (pS cI O)),(10,vI t)] a w) K (fun a w ⟨_,_,_,e,_,_⟩=>by cases e) (fun k a w ⟨q,O,t,e,q131,hh⟩=>dW ?_ hh) (fun a w hh=>⟨f,[],v117,hL,rfl,jG [0] hh⟩);rw[cO.eq_2]at e;refine go ?_ ?_;refine aD e rfl (fun h144 e=>?_) (fun h144 e=>?_)
 ·refine go ?_ ?_;refine aJ ?_;obtain⟨v145,h146,e⟩:=aR e;refine go ?_ ?_;refine aNR (aJ4 (C:=cI) (xs:=[.tmp 53]) (ps:=[vI v145]) (zs:=[v145]) rfl tyS22 rfl ⟨⟨zT,rfl⟩,zT⟩ rfl) zU1 (fun b147 _=>?_);refine gG ?_;obtain⟨x150,h151,e⟩:=aR e;refine nZ 0 rfl tyS22 rfl rfl rfl rfl rfl h151 (fun b152 c153 H154 e155=>?_);cases e155;refine xC 0 [56] rfl (dN h151 rfl) zU1 rfl ?_;obtain⟨y,h158,e⟩:=bE e bN;refine aG (bO rfl h158 rfl) ⟨k_B _,rfl,zT⟩ ?_;refine aM rfl tyZ40 (fun b159=>?_);refine mI (t_s 0 rfl rfl rfl tyA40.s) zU2 ?_;refine aX (aH (aE (aI (aG (iG (off:=0) (k:=1) rfl tyF40_1) zU1 ?_))));refine aG (gM 0 1 rfl rfl rfl rfl (.one tyO22)) zU1 ?_;refine zH ?_;refine aX (aH (aE (aI (aG (aP (.inr rfl)) ⟨rR _ _,zT⟩ ?_))));refine aX (aH (aE (aI (aG (aP (.inr rfl)) ⟨rR _ _,zT⟩ ?_))));refine aX (aH (aE (zK (fun H E=>∃(U:Int),k9 K a1 q t y (cO K G a1 k) U=some (I,J)∧H=[hO cI j f.length 3 f.length q]∧E=[(0,.vc (pS cI G)),(1,.vc (pS cI a1)),(8,.vc (pO j f.length f.length)),(9,.vc (pS cI y.d)),(10,vI t),(12,vI 0),(13,vI U)]) ?_ (fun Jj162=>?_))))
  ·rintro _ _ ⟨U,e,rfl,rfl⟩;unfold k9 at e;refine aE (aJ (aY (fun H E=>∃(x167:Int),nJ K a1 q t y (cO K G a1 k) x167=some (I,J)∧H=[hO cI j f.length 3 f.length q]∧E=[(0,.vc (pS cI G)),(1,.vc (pS cI a1)),(8,.vc (pO j f.length f.length)),(9,.vc (pS cI y.d)),(10,vI t),(12,vI x167)]) ?_ (fun Jj169=>?_)))
   ·rintro _ _ ⟨x167,e,rfl,rfl⟩;unfold nJ at e;obtain⟨v170,h171,e⟩:=bE e sV;obtain⟨v172,h173,e⟩:=bE e pG;obtain⟨v174,h175,e⟩:=bE e bN;refine go ?_ ?_;refine aM rfl tyZ40 (fun b176=>?_);obtain⟨v177,h178,x179,h180,v182,h183,e⟩:=bn3 e;refine go ?_ ?_;exact aF (fun a w hh=>⟨x179,v174.d,v182,e,(bI h180 q131),jG [1] hh⟩)
   obtain⟨x167',hL,hRl168⟩:=aR e;refine dU (fun k a w=>∃(F:Int),∃(V:Int),fR K a1 y k F V=some x167'∧hs _ [hO cI j f.length 3 f.length q] [(0,.vc (pS cI G)),(1,.vc (pS cI a1)),(8,.vc (pO j f.length f.length)),(9,.vc (pS cI y.d)),(10,vI t),(12,vI F),(13,vI V)] a w) K (fun a w ⟨_,_,e,_⟩=>by cases e) (fun k a w ⟨F,V,e,hh⟩=>dW ?_ hh) (fun a w hh=>⟨0,U,hL,jG [0] hh⟩);rw[fR.eq_2]at e;refine go ?_ ?_;refine aD e rfl (fun h184 e=>?_) (fun h184 e=>?_)
   ·refine fB (aH (aJ ?_));obtain⟨v185,h186,v187,h188,v189,h190,e⟩:=bn3 e;obtain⟨v191,h192,e⟩:=bE e sV;obtain⟨v193,h194,e⟩:=bE e mQ;refine go ?_ ?_;refine aD e rfl (fun h195 e=>?_) (fun h195 e=>?_)
    ·refine go ?_ ?_;exact aF (fun a w hh=>⟨v189,V,e,jG [0] hh⟩)
    obtain⟨v196,h197,e⟩:=aR e;refine go ?_ ?_;exact aF (fun a w hh=>⟨F,v196,e,jG [0] hh⟩)
   refine bF ?_;obtain rfl:=iO e;exact rU Jj169 ⟨F,hRl168,rfl,rfl⟩ [0]
  obtain⟨v198,h199,e⟩:=bE e mQ;refine go ?_ ?_;refine aD e rfl (fun h200 e=>?_) (fun h200 e=>?_)
  ·refine aI (aG (aP (.inr rfl)) ⟨rR _ _,zT⟩ ?_);refine aX ?_;exact rU Jj162 ⟨0,e,rfl,rfl⟩ [1]
  refine fB ?_;exact rU Jj162 ⟨999999999,e,rfl,rfl⟩ [1]
 refine bF ?_;obtain⟨rfl,rfl⟩:=sm2 e;exact rU Jj143 ⟨q,O,hRl142,q131,rfl,rfl⟩ [0]
def lW(K:Nat)(e:aC)(a1:aC):Option (aC×aC):=
 bif((a1.d.length:Int)==0) then(some ((⟨false,([]:List Int)⟩:aC),(⟨false,([]:List Int)⟩:aC))) else((kG K e.d a1.d).bind fun v6=>(bB K (e.neg != a1.neg) v6.1).bind fun f=>(bB K false v6.2).bind fun v11=>bif e.neg then(bif(decide (0<(v11.d.length:Int))) then((bB K (e.neg != a1.neg) [1]).bind fun h=>(p6 K f h).bind fun v20=>(gH K a1.d v11.d).bind fun j=>(bB K false j).bind fun k=>some (v20,k)) else(some (f,v11))) else(some (f,v11)))
theorem uF{K:Nat}{x:aC}{a1:aC}{r:aC×aC}(f:lW K x a1=some r):Ct Tryz.prog 96 [.va (aC.e x),.va (aC.e a1)] (.t2 (.va (aC.e r.1)) (.va (aC.e r.2))):=by
 unfold lW at f;refine aA Tryz.func96 rfl (by kernel_rfl) Tryz.ntmps96 rfl (fun w0 M0=>?_);refine aE (aI (dP rfl rfl zT (fun z=>?_)));refine dP rfl rfl zT (fun b2=>?_);refine aM rfl tyZ40 (fun G=>?_);refine aM rfl tyZ40 (fun I=>?_);refine go ?_ ?_;refine aD f rfl (fun h5 f=>?_) (fun h5 f=>?_)
 ·refine aE (aI (aG (iV (is:=[]) (xs:=[]) (ps:=[]) rfl tyB40 rfl rfl zT rfl) zT ?_));refine aG (iV (is:=[]) (xs:=[]) (ps:=[]) rfl tyB40 rfl rfl zT rfl) zT ?_;exact bU
 obtain⟨v6,h7,f⟩:=bE f aBM;refine go ?_ ?_;refine aG (aCs rfl Tryz.underlying4) zU2 ?_;refine gG ?_;obtain⟨y,h9,f⟩:=bE f bN;refine aG (bO rfl h9 rfl) zU2 ?_;refine aM rfl tyZ40 (fun t=>?_);obtain⟨v11,h12,f⟩:=bE f bN;refine go ?_ ?_;refine aM rfl tyZ40 (fun u=>?_);refine go ?_ ?_;refine dK f (fun O f=>?_) (fun O f=>?_)
 ·refine go ?_ ?_;refine aD f rfl (fun U f=>?_) (fun U f=>?_)
  ·refine aE ?_;obtain⟨V,X,f⟩:=bE f bN;obtain⟨v20,Y,f⟩:=bE f aAp;refine kO [0,0,2,0,8,30,0,126,255,511] 9 1 [.v (.va (aC.e y)),.v (.vc (pP (some z) 0)),.v (.vc (pB x.neg)),.v (.vc (pP (some b2) 0)),.v (.vc (pB a1.neg)),.v (.vc (pB (x.neg != a1.neg))),.v (.vc (pS cI [1])),.v (.va (aC.e V)),.v (.va (aC.e v20))] bC ⟨d0 (gM 1 2 rfl rfl rfl rfl (.agg tyA40)) zU1,d0 (iG (off:=0) (k:=0) rfl tyF40_0) zU1,d0 (gM 5 1 rfl rfl rfl rfl (.one tyO4)) zU1,d0 (iG (off:=0) (k:=0) rfl tyF40_0) zU1,d0 (gM 4 1 rfl rfl rfl rfl (.one tyO4)) zU1,⟨rfl,.run (L:=[0]) ⟨fun J A=>aCs rfl Tryz.underlying4,zT⟩ (fun J=>zU2)⟩,d0 (iH (C:=cI) (xs:=[.const (.int .i64 (1))]) (ps:=[vI 1]) (zs:=[1]) rfl tyS22 rfl ⟨⟨zT,rfl⟩,zT⟩ rfl) ⟨rR _ _,zT⟩,d0 (bO rfl X rfl) zU2,d0 (bO rfl Y rfl) zU2,zT⟩ (fun bs17 J=>?_);obtain⟨v22,h23,f⟩:=bE f pG;obtain⟨F,h25,f⟩:=bE f bN;refine go ?_ ?_;refine tN (HsM [(0,fun h=>[⟨some u,1,40,2,1,(aC.e F)⟩,⟨some t,1,40,2,1,(aC.e v20)⟩,⟨some I,1,40,2,1,([pB false]++[pS cI ([]:List Int)])⟩,⟨some G,1,40,2,1,([pB false]++[pS cI ([]:List Int)])⟩,⟨some b2,1,40,2,1,(aC.e a1)⟩,⟨some z,1,40,2,1,(aC.e x)⟩]),(1,fun h=>[⟨some u,1,40,2,1,(aC.e F)⟩,⟨some t,1,40,2,1,(aC.e v20)⟩,⟨some I,1,40,2,1,([pB false]++[pS cI ([]:List Int)])⟩,⟨some G,1,40,2,1,(aC.e v20)⟩,⟨some b2,1,40,2,1,(aC.e a1)⟩,⟨some z,1,40,2,1,(aC.e x)⟩])]) [2] [0,0,1,7] 3 1 [.v (.va (aC.e v20)),.v (.va (aC.e F)),.g (fun _ _=>.any)] bC ⟨d1 0 (gM 1 2 rfl rfl rfl rfl (.agg tyA40)) zU1,⟨rfl,.run (L:=[0,1]) ⟨fun h A=>gM 0 2 rfl rfl rfl rfl (.agg tyA40),fun h A=>gM 0 2 rfl rfl rfl rfl (.agg tyA40),zT⟩ (fun h=>zU1)⟩,⟨rfl,.hvy [0] ⟨fun h A=>aDc (t_s 3 rfl rfl rfl tyA40.s),zT⟩ (fun h=>zU2)⟩,zT⟩ (fun bs27 h=>?_);exact bU
  refine go ?_ ?_;refine tN (HsM [(0,fun j=>[⟨some u,1,40,2,1,(aC.e v11)⟩,⟨some t,1,40,2,1,(aC.e y)⟩,⟨some I,1,40,2,1,([pB false]++[pS cI ([]:List Int)])⟩,⟨some G,1,40,2,1,([pB false]++[pS cI ([]:List Int)])⟩,⟨some b2,1,40,2,1,(aC.e a1)⟩,⟨some z,1,40,2,1,(aC.e x)⟩]),(1,fun j=>[⟨some u,1,40,2,1,(aC.e v11)⟩,⟨some t,1,40,2,1,(aC.e y)⟩,⟨some I,1,40,2,1,([pB false]++[pS cI ([]:List Int)])⟩,⟨some G,1,40,2,1,(aC.e y)⟩,⟨some b2,1,40,2,1,(aC.e a1)⟩,⟨some z,1,40,2,1,(aC.e x)⟩])]) [2] [0,0,1,7] 3 1 [.v (.va (aC.e y)),.v (.va (aC.e v11)),.g (fun _ _=>.any)] bC ⟨d1 0 (gM 1 2 rfl rfl rfl rfl (.agg tyA40)) zU1,⟨rfl,.run (L:=[0,1]) ⟨fun j A=>gM 0 2 rfl rfl rfl rfl (.agg tyA40),fun j A=>gM 0 2 rfl rfl rfl rfl (.agg tyA40),zT⟩ (fun j=>zU1)⟩,⟨rfl,.hvy [0] ⟨fun j A=>aDc (t_s 3 rfl rfl rfl tyA40.s),zT⟩ (fun j=>zU2)⟩,zT⟩ (fun bs29 j=>?_);exact bU
 refine go ?_ ?_;refine vN rfl ?_;refine go ?_ ?_;refine tN (HsM [(0,fun q=>[⟨some u,1,40,2,1,(aC.e v11)⟩,⟨some t,1,40,2,1,(aC.e y)⟩,⟨some I,1,40,2,1,([pB false]++[pS cI ([]:List Int)])⟩,⟨some G,1,40,2,1,([pB false]++[pS cI ([]:List Int)])⟩,⟨some b2,1,40,2,1,(aC.e a1)⟩,⟨some z,1,40,2,1,(aC.e x)⟩]),(1,fun q=>[⟨some u,1,40,2,1,(aC.e v11)⟩,⟨some t,1,40,2,1,(aC.e y)⟩,⟨some I,1,40,2,1,([pB false]++[pS cI ([]:List Int)])⟩,⟨some G,1,40,2,1,(aC.e y)⟩,⟨some b2,1,40,2,1,(aC.e a1)⟩,⟨some z,1,40,2,1,(aC.e x)⟩])]) [2] [0,0,1,7] 3 1 [.v (.va (aC.e y)),.v (.va (aC.e v11)),.g (fun _ _=>.any)] bC ⟨d1 0 (gM 1 2 rfl rfl rfl rfl (.agg tyA40)) zU1,⟨rfl,.run (L:=[0,1]) ⟨fun q A=>gM 0 2 rfl rfl rfl rfl (.agg tyA40),fun q A=>gM 0 2 rfl rfl rfl rfl (.agg tyA40),zT⟩ (fun q=>zU1)⟩,⟨rfl,.hvy [0] ⟨fun q A=>aDc (t_s 3 rfl rfl rfl tyA40.s),zT⟩ (fun q=>zU2)⟩,zT⟩ (fun bs31 q=>?_);exact bU
def uW(K:Nat)(e:aC):Option aC:=
 some e
def rL(K:Nat)(e:Int):Option (LR aC aC):=
 (iX K e).bind fun f=>some (.ret f)
def iS(K:Nat):Nat→Int→Int→Option Int
 |0,_,_=>none
 |k+1,f,e=>bif(decide (0<e)) then((chr f e).bind fun h=>iS K k e h) else(some f)
def f7(K:Nat):Nat→aC→aC→Option (LR aC aC)
 |0,_,_=>none
 |k+1,e,f=>bif(decide (0<(e.d.length:Int))) then(bif(decide ((f.d.length:Int)≤2)) then(bif(decide ((e.d.length:Int)≤2)) then((g8 f.d).bind fun v20=>(g8 e.d).bind fun h=>(iS K K v20 h).bind fun j=>rL K j) else((lW K f e).bind fun q=>f7 K k q.2 e)) else((lW K f e).bind fun s=>f7 K k s.2 e)) else(some (.go f))
def s7(K:Nat)(f:aC)(a1:aC):Option aC:=
 (bB K false f.d).bind fun v4=>(bB K false a1.d).bind fun h=>(f7 K K h v4).bind fun o=>match o with| .ret r=>some r| .go e=>uW K e
theorem aDD{K:Nat}{a0:aC}{a1:aC}{r:aC}(f:s7 K a0 a1=some r):Ct Tryz.prog 95 [.va (aC.e a0),.va (aC.e a1)] (.va (aC.e r)):=by
 unfold s7 at f;refine aA Tryz.func95 rfl (by kernel_rfl) Tryz.ntmps95 rfl (fun w0 M0=>?_);refine aE (aI (dP rfl rfl zT (fun b1=>?_)));refine dP rfl rfl zT (fun b2=>?_);refine aM rfl tyZ40 (fun t=>?_);obtain⟨v4,h5,f⟩:=bE f bN;refine go ?_ ?_;refine aM rfl tyZ40 (fun L=>?_);obtain⟨v7,h8,f⟩:=bE f bN;refine go ?_ ?_;refine aM rfl tyZ40 (fun b9=>?_);refine go ?_ ?_;refine aJ (aY (fun H E=>∃(x:aC),uW K x=some r∧H=[⟨some L,1,40,2,1,(aC.e x)⟩,⟨some t,1,40,2,1,([pB false]++[pS cI ([]:List Int)])⟩]∧E=[(4,.vc (pP (some t) 0)),(5,.vc (pP (some L) 0))]) ?_ (fun G=>?_))
 ·rintro _ _ ⟨x,f,rfl,rfl⟩;unfold uW at f;exact bU
 obtain⟨u,O,y⟩:=aR f;refine dU (fun k a w=>∃(h:aC),∃(j:aC),f7 K k h j=some u∧hs _ [⟨some b9,1,40,2,1,(aC.e h)⟩,⟨some L,1,40,2,1,(aC.e j)⟩,⟨some t,1,40,2,1,([pB false]++[pS cI ([]:List Int)])⟩] [(4,.vc (pP (some t) 0)),(5,.vc (pP (some L) 0)),(6,.vc (pP (some b9) 0))] a w) K (fun a w ⟨_,_,f,_⟩=>by cases f) (fun k a w ⟨h,j,f,hh⟩=>dW ?_ hh) (fun a w hh=>⟨v7,v4,O,jG [0,1,2] hh⟩);rw[f7.eq_2]at f;refine go ?_ ?_;refine aD f rfl (fun U f=>?_) (fun U f=>?_)
 ·refine fB (aH (aJ (go ?_ ?_)));refine dK f (fun V f=>?_) (fun V f=>?_)
  ·refine go ?_ ?_;refine aD f rfl (fun X f=>?_) (fun X f=>?_)
   ·obtain⟨v20,h21,f⟩:=bE f n9;obtain⟨Y,h23,f⟩:=bE f n9;refine go ?_ ?_;refine aJ (aY (fun H E=>∃(z:Int),rL K z=some u∧H=[⟨some t,1,40,2,1,([pB false]++[pS cI ([]:List Int)])⟩]∧E=[(4,.vc (pP (some t) 0)),(7,vI z)]) ?_ (fun I=>?_))
    ·rintro _ _ ⟨z,f,rfl,rfl⟩;unfold rL at f;obtain⟨v31,h32,f⟩:=bE f nP;exact bU
    obtain⟨J,O,F⟩:=aR f;refine dU (fun k a w=>∃(q:Int),∃(s:Int),iS K k q s=some J∧hs _ [⟨some t,1,40,2,1,([pB false]++[pS cI ([]:List Int)])⟩] [(4,.vc (pP (some t) 0)),(7,vI q),(8,vI s)] a w) K (fun a w ⟨_,_,f,_⟩=>by cases f) (fun k a w ⟨q,s,f,hh⟩=>dW ?_ hh) (fun a w hh=>⟨v20,Y,O,jG [2] hh⟩);rw[iS.eq_2]at f;refine go ?_ ?_;refine aD f rfl (fun h33 f=>?_) (fun h33 f=>?_)
    ·refine fB (aH (aJ ?_));obtain⟨v34,h35,f⟩:=aR f;refine go ?_ ?_;exact aF (fun a w hh=>⟨s,v34,f,jG [0] hh⟩)
    refine bF ?_;obtain rfl:=iO f;exact rU I ⟨q,F,rfl,rfl⟩ [0]
   obtain⟨v36,h37,f⟩:=bE f uF;refine go ?_ ?_;refine aM rfl tyZ40 (fun b38=>?_);refine aM rfl tyZ40 (fun b39=>?_);refine go ?_ ?_;exact aF (fun a w hh=>⟨v36.2,h,f,jG [2,3,4] hh⟩)
  refine go ?_ ?_;refine vN rfl ?_;obtain⟨v40,h41,f⟩:=bE f uF;refine go ?_ ?_;refine aM rfl tyZ40 (fun b42=>?_);refine aM rfl tyZ40 (fun b43=>?_);refine go ?_ ?_;exact aF (fun a w hh=>⟨v40.2,h,f,jG [2,3,4] hh⟩)
 refine bF ?_;obtain rfl:=iO f;exact rU G ⟨j,y,rfl,rfl⟩ [1,2]
def tG(e:aC):Option aC:=
 bif(!e.neg) then(some (⟨(decide (0<(e.d.length:Int))),e.d⟩:aC)) else(some (⟨false,e.d⟩:aC))
theorem aAj{h:aC}{r:aC}(f:tG h=some r):Ct Tryz.prog 109 [.va (aC.e h)] (.va (aC.e r)):=by
 unfold tG at f;refine aA Tryz.func109 rfl (by kernel_rfl) Tryz.ntmps109 rfl (fun w0 M0=>?_);refine aE (aI (dP rfl rfl zT (fun k=>?_)));refine aM rfl tyZ40 (fun b2=>?_);refine go ?_ ?_;refine dK f (fun j f=>?_) (fun j f=>?_)
 ·exact bU
 exact bU
def wU(K:Nat)(f:Bool)(a1:List Int)(e:Int):Option aC:=
 bif(e==0) then(some (⟨false,([]:List Int)⟩:aC)) else((slL a1 0 e).bind fun h=>some (⟨f,h⟩:aC))
def oA(K:Nat)(a1:List Int):Nat→Int→Option Int
 |0,_=>none
 |k+1,e=>bif(decide (0<e)) then((aV (e-1)).bind fun v11=>(bR a1 v11).bind fun f=>bif(f==0) then((aV (e-1)).bind fun h=>oA K a1 k h) else(some e)) else(some e)
def fF(K:Nat)(e:Bool)(a1:List Int):Option aC:=
 (oA K a1 K (a1.length:Int)).bind fun f=>wU K e a1 f
theorem jV{K:Nat}{j:Bool}{a1:List Int}{r:aC}(f:fF K j a1=some r):Ct Tryz.prog 155 [.vc (pB j),.vc (pS cI a1)] (.va (aC.e r)):=by
 unfold fF at f;refine aA Tryz.func155 rfl (by kernel_rfl) Tryz.ntmps155 rfl (fun w0 M0=>?_);refine aE (aI (aM rfl tyZ40 (fun t=>?_)));refine go ?_ ?_;refine aJ (aY (fun H E=>∃(u:Int),wU K j a1 u=some r∧H=[⟨some t,1,40,2,1,([pB false]++[pS cI ([]:List Int)])⟩]∧E=[(0,.vc (pB j)),(1,.vc (pS cI a1)),(4,.vc (pP (some t) 0)),(5,vI u)]) ?_ (fun q=>?_))
 ·rintro _ _ ⟨u,f,rfl,rfl⟩;unfold wU at f;refine go ?_ ?_;refine aD f rfl (fun G f=>?_) (fun G f=>?_)
  ·refine aE (aI (aG (iV (is:=[]) (xs:=[]) (ps:=[]) rfl tyB40 rfl rfl zT rfl) zT ?_));exact bU
  obtain⟨I,J,f⟩:=aR f;refine go ?_ ?_;refine aG (aRo rfl tyS22 J) ⟨rfl,rfl,rfl,zT⟩ ?_;refine aG (iV (is:=[0,1]) (xs:=[.tmp 23,.tmp 27]) (ps:=[.vc (pB j),.vc (pS cI I)]) rfl tyB40 rfl rfl ⟨zT,zT,zT⟩ rfl) zU2 ?_;exact bU
 obtain⟨x,L,h⟩:=aR f;refine dU (fun k a w=>∃(s:Int),oA K a1 k s=some x∧hs _ [⟨some t,1,40,2,1,([pB false]++[pS cI ([]:List Int)])⟩] [(0,.vc (pB j)),(1,.vc (pS cI a1)),(4,.vc (pP (some t) 0)),(5,vI s)] a w) K (fun a w ⟨_,f,_⟩=>by cases f) (fun k a w ⟨s,f,hh⟩=>dW ?_ hh) (fun a w hh=>⟨(a1.length:Int),L,jG [0] hh⟩);rw[oA.eq_2]at f;refine go ?_ ?_;refine dK f (fun y f=>?_) (fun y f=>?_)
 ·obtain⟨v11,z,O,U,f⟩:=u9 f;refine go ?_ ?_;refine aD f rfl (fun F f=>?_) (fun F f=>?_)
  ·refine fB (aH (aJ ?_));have f:=uS z f;refine go ?_ ?_;exact aF (fun a w hh=>⟨v11,f,jG [0] hh⟩)
  refine bF ?_;obtain rfl:=iO f;exact rU q ⟨s,h,rfl,rfl⟩ [0]
 refine go ?_ ?_;refine vN rfl ?_;refine bF ?_;obtain rfl:=iO f;exact rU q ⟨s,h,rfl,rfl⟩ [0]
def t9(K:Nat)(j:List Int)(e:List Int)(f:Int):Option (List Int):=
 (bR e (j.length:Int)).bind fun k=>(rW e (j.length:Int) f).bind fun h=>some h
def dQ(K:Nat)(q:List Int)(s:List Int):Nat→(List Int)→Int→Int→Option ((List Int)×Int)
 |0,_,_,_=>none
 |k+1,f,t,e=>bif(decide (e<(q.length:Int))) then((bR q e).bind fun u=>(aV (u+t)).bind fun h=>bif(decide (e<(s.length:Int))) then((bR s e).bind fun x=>(aV (h+x)).bind fun j=>bif(decide (1000000000≤j)) then((aV (j-1000000000)).bind fun y=>(bR f e).bind fun X=>(rW f e y).bind fun z=>(aV (e+1)).bind fun F=>dQ K q s k z 1 F) else((bR f e).bind fun Y=>(rW f e j).bind fun G=>(aV (e+1)).bind fun I=>dQ K q s k G 0 I)) else(bif(decide (1000000000≤h)) then((aV (h-1000000000)).bind fun J=>(bR f e).bind fun v72=>(rW f e J).bind fun L=>(aV (e+1)).bind fun O=>dQ K q s k L 1 O) else((bR f e).bind fun v79=>(rW f e h).bind fun U=>(aV (e+1)).bind fun V=>dQ K q s k U 0 V))) else(some (f,t))
def p8(K:Nat)(e:List Int)(j:List Int):Option (List Int):=
 (aV ((e.length:Int)+1)).bind fun v5=>(mkL v5 0).bind fun k=>(dQ K e j K k 0 0).bind fun(f,h)=>t9 K e f h
def rB(K:Nat)(e:List Int)(a1:List Int):Option (List Int):=
 bif(decide ((e.length:Int)<(a1.length:Int))) then(p8 K a1 e) else(p8 K e a1)
theorem aBT{K:Nat}{L:List Int}{a1:List Int}{r:List Int}(e:rB K L a1=some r):Ct Tryz.prog 156 [.vc (pS cI L),.vc (pS cI a1)] (.vc (pS cI r)):=by
 unfold rB at e;refine aA Tryz.func156 rfl (by kernel_rfl) Tryz.ntmps156 rfl (fun w0 M0=>?_);refine aE (aI (aG (aP (.inr rfl)) ⟨eG cI,zT⟩ ?_));refine aX (aH (aE (zK (fun H E=>∃(q:List Int),∃(z:List Int),p8 K q z=some r∧H=[]∧E=[(0,.vc (pS cI q)),(1,.vc (pS cI z))]) ?_ (fun F=>?_))))
 ·rintro _ _ ⟨q,z,e,rfl,rfl⟩;unfold p8 at e;obtain⟨v5,h6,f,h8,e⟩:=u9 e;refine go ?_ ?_;refine qE (C:=cI) rfl tyS22 rfl tyZ3 rfl h8 (fun O=>?_);refine go ?_ ?_;refine aJ (aY (fun H E=>∃(s:List Int),∃(u:Int),t9 K q s u=some r∧s.length=f.length∧H=[hO cI O f.length 3 f.length s]∧E=[(0,.vc (pS cI q)),(5,.vc (pO O f.length f.length)),(6,vI u)]) ?_ (fun G=>?_))
  ·rintro _ _ ⟨s,u,e,U,rfl,rfl⟩;unfold t9 at e;obtain⟨v37,h38,x39,V,e⟩:=u9 e;refine go ?_ ?_;refine gV (gW (tU 0 [4,5,50,55] rfl (bI V U) ⟨rfl,rfl,rfl,rfl,zT⟩ rfl ?_));obtain rfl:=iO e;exact kJ (.inl rfl) Tryz.results156 (.tmp rfl .nil) rfl rfl
  obtain⟨⟨I,J⟩,hL,x⟩:=aR e;refine dU (fun k a w=>∃(h:List Int),∃(t:Int),∃(y:Int),dQ K q z k h t y=some (I,J)∧h.length=f.length∧hs _ [hO cI O f.length 3 f.length h] [(0,.vc (pS cI q)),(1,.vc (pS cI z)),(5,.vc (pO O f.length f.length)),(6,vI t),(21,.vc (pS cI q)),(22,vI (q.length:Int)),(23,vI y)] a w) K (fun a w ⟨_,_,_,e,_,_⟩=>by cases e) (fun k a w ⟨h,t,y,e,j,hh⟩=>dW ?_ hh) (fun a w hh=>⟨f,0,0,hL,rfl,jG [0] hh⟩);rw[dQ.eq_2]at e;refine go ?_ ?_;refine aD e rfl (fun X e=>?_) (fun X e=>?_)
  ·refine go ?_ ?_;refine aJ ?_;obtain⟨v43,h44,v45,h46,e⟩:=u9 e;refine go ?_ ?_;refine aD e rfl (fun Y e=>?_) (fun Y e=>?_)
   ·obtain⟨v48,h49,v50,h51,e⟩:=u9 e;refine go ?_ ?_;refine aD e rfl (fun h52 e=>?_) (fun h52 e=>?_)
    ·obtain⟨v53,h54,v55,h56,x57,h58,v60,h61,e⟩:=bn4 e;refine go ?_ ?_;exact aF (fun a w hh=>⟨x57,1,v60,e,(bI h58 j),jG [0] hh⟩)
    obtain⟨v62,h63,x64,h65,v67,h68,e⟩:=bn3 e;refine go ?_ ?_;exact aF (fun a w hh=>⟨x64,0,v67,e,(bI h65 j),jG [0] hh⟩)
   refine go ?_ ?_;refine aD e rfl (fun h69 e=>?_) (fun h69 e=>?_)
   ·obtain⟨v70,h71,v72,h73,x74,h75,v77,h78,e⟩:=bn4 e;refine go ?_ ?_;exact aF (fun a w hh=>⟨x74,1,v77,e,(bI h75 j),jG [0] hh⟩)
   obtain⟨v79,h80,x81,h82,v84,h85,e⟩:=bn3 e;refine go ?_ ?_;exact aF (fun a w hh=>⟨x81,0,v84,e,(bI h82 j),jG [0] hh⟩)
  refine bF ?_;obtain⟨rfl,rfl⟩:=sm2 e;exact rU G ⟨h,t,x,j,rfl,rfl⟩ [0]
 refine go ?_ ?_;refine aD e rfl (fun h86 e=>?_) (fun h86 e=>?_)
 ·refine aI (gG ?_);refine gG ?_;refine zH ?_;refine zH ?_;refine aX ?_;exact rU F ⟨a1,L,e,rfl,rfl⟩ []
 refine fB ?_;exact rU F ⟨L,a1,e,rfl,rfl⟩ []
def oK(e:Int):Option Bool:=
 some (e != e)
theorem xW{e:Int}{r:Bool}(f:oK e=some r):Ct Tryz.prog 174 [vI e] (.vc (pB r)):=by
 unfold oK at f;refine aA Tryz.func174 rfl (by kernel_rfl) Tryz.ntmps174 rfl (fun w0 M0=>?_);exact bU
def jJ(e:Int)(a1:Int):Option Int:=
 (oK e).bind fun v1=>(oK a1).bind fun f=>bif v1 then(bif f then(some 0) else(some (-1))) else(bif f then(some 1) else(bif(decide (e<a1)) then(some (-1)) else(bif(decide (a1<e)) then(some 1) else(some 0))))
theorem vQ{f:Int}{a1:Int}{r:Int}(e:jJ f a1=some r):Ct Tryz.prog 170 [vI f,vI a1] (vI r):=by
 unfold jJ at e;refine aA Tryz.func170 rfl (by kernel_rfl) Tryz.ntmps170 rfl (fun w0 M0=>?_);obtain⟨v1,t,e⟩:=bE e xW;obtain⟨u,x,e⟩:=bE e xW;refine go ?_ ?_;refine aD e rfl (fun h e=>?_) (fun h e=>?_)
 ·refine go ?_ ?_;refine aD e rfl (fun j e=>?_) (fun j e=>?_)
  ·exact bU
  exact bU
 refine go ?_ ?_;refine aD e rfl (fun k e=>?_) (fun k e=>?_)
 ·exact bU
 refine go ?_ ?_;refine aD e rfl (fun q e=>?_) (fun q e=>?_)
 ·exact bU
 refine go ?_ ?_;refine aD e rfl (fun s e=>?_) (fun s e=>?_)
 ·exact bU
 exact bU
def vP(K:Nat):Option Int:=
 some 0
def gS(K:Nat)(f:List Int)(a1:List Int):Nat→Int→Option (LR Int Unit)
 |0,_=>none
 |k+1,e=>bif(decide (0≤e)) then((bR f e).bind fun h=>(bR a1 e).bind fun j=>bif(h != j) then((bR f e).bind fun v20=>(bR a1 e).bind fun q=>(jJ v20 q).bind fun s=>some (.ret s)) else((aV (e-1)).bind fun t=>gS K f a1 k t)) else(some (.go ()))
def gP(K:Nat)(e:List Int)(a1:List Int):Option Int:=
 bif((e.length:Int) != (a1.length:Int)) then((jJ (e.length:Int) (a1.length:Int)).bind fun v2=>some v2) else((aV ((e.length:Int)-1)).bind fun v4=>(gS K e a1 K v4).bind fun o=>match o with| .ret r=>some r| .go _=>vP K)
theorem oV{K:Nat}{h:List Int}{a1:List Int}{r:Int}(e:gP K h a1=some r):Ct Tryz.prog 157 [.vc (pS cI h),.vc (pS cI a1)] (vI r):=by
 unfold gP at e;refine aA Tryz.func157 rfl (by kernel_rfl) Tryz.ntmps157 rfl (fun w0 M0=>?_);refine go ?_ ?_;refine aD e rfl (fun I e=>?_) (fun I e=>?_)
 ·obtain⟨v2,h3,e⟩:=bE e vQ;exact bU
 obtain⟨v4,h5,e⟩:=aR e;refine go ?_ ?_;refine aJ (aY (fun H E=>vP K=some r∧H=[]∧E=[]) ?_ (fun j=>?_))
 ·rintro _ _ ⟨e,rfl,rfl⟩;unfold vP at e;exact bU
 obtain⟨q,J,f⟩:=aR e;refine dU (fun k a w=>∃(s:Int),gS K h a1 k s=some q∧hs _ [] [(0,.vc (pS cI h)),(1,.vc (pS cI a1)),(5,vI s)] a w) K (fun a w ⟨_,e,_⟩=>by cases e) (fun k a w ⟨s,e,hh⟩=>dW ?_ hh) (fun a w hh=>⟨v4,J,jG [] hh⟩);rw[gS.eq_2]at e;refine go ?_ ?_;refine aD e rfl (fun t e=>?_) (fun t e=>?_)
 ·refine go ?_ ?_;refine aJ (aE ?_);obtain⟨L,u,e⟩:=aR e;obtain⟨O,x,e⟩:=aR e;refine dr [0,0,3,7,0,0,48,112,255] 9 0 ?_ (fun F U=>?_);refine aX (aH (aD e rfl (fun y e=>?_) (fun y e=>?_)))
  ·refine aE ?_;have e:=uS u e;have e:=uS x e;obtain⟨V,X,e⟩:=bE e vQ;refine dr [0,0,3,7,0,0,48,112,255,511] 10 0 ?_ (fun G Y=>?_);refine aX (aH ?_);exact bU
  obtain⟨z,h27,e⟩:=aR e;refine go ?_ ?_;exact aF (fun a w hh=>⟨z,e,jG [] hh⟩)
 refine bF ?_;obtain rfl:=iO e;exact rU j ⟨f,rfl,rfl⟩ []
def tL(K:Nat)(e:List Int):Option (List Int):=
 some e
def lS(K:Nat)(e:Int)(f:(List Int)→Int→Option (List Int))(h:List Int):Option (List Int):=
 (bR h e).bind fun q=>bif(decide (q<0)) then((bR h e).bind fun s=>(aV (s+1000000000)).bind fun t=>(bR h e).bind fun G=>(rW h e t).bind fun j=>(aV (e+1)).bind fun k=>(bR j k).bind fun u=>(aV (u-1)).bind fun x=>(bR j k).bind fun I=>(rW j k x).bind fun y=>(aV (e+1)).bind fun z=>f y z) else((aV (e+1)).bind fun F=>f h F)
def fA(K:Nat)(h:List Int)(a1:List Int)(x1:List Int):Nat→(List Int)→Int→Option (List Int)
 |0,_,_=>none
 |k+1,f,e=>bif(decide (e<((cpL x1 h).length:Int))) then(bif(decide (e<(a1.length:Int))) then((bR f e).bind fun j=>(bR a1 e).bind fun q=>(aV (j-q)).bind fun s=>(bR f e).bind fun u=>(rW f e s).bind fun t=>lS K e (fA K h a1 x1 k) t) else(lS K e (fA K h a1 x1 k) f)) else(some f)
def oC(K:Nat)(e:List Int)(a1:List Int):Option (List Int):=
 (mkL (e.length:Int) 0).bind fun x1=>(fA K e a1 x1 K (cpL x1 e) 0).bind fun f=>tL K f
theorem yN{K:Nat}{t:List Int}{a1:List Int}{r:List Int}(e:oC K t a1=some r):Ct Tryz.prog 158 [.vc (pS cI t),.vc (pS cI a1)] (.vc (pS cI r)):=by
 unfold oC at e;refine aA Tryz.func158 rfl (by kernel_rfl) Tryz.ntmps158 rfl (fun w0 M0=>?_);refine aE (aI (aG (aP (.inr rfl)) ⟨eG cI,zT⟩ ?_));obtain⟨x1,h2,e⟩:=aR e;refine go ?_ ?_;refine qE (C:=cI) rfl tyS22 rfl tyZ3 rfl h2 (fun F=>?_);refine go ?_ ?_;refine aG (t_cp 0 rfl tyS22 rfl rfl rfl) zU2 ?_;refine go ?_ ?_;refine aG (aBU (C:=cI) (xs:=(cpL x1 t)) (T:=3) rfl tyS22 (aEp rfl)) zU1 ?_;refine go ?_ ?_;refine aJ (aY (fun H E=>∃(q:List Int),tL K q=some r∧q.length=x1.length∧H=[hO cI F x1.length 3 x1.length q]∧E=[(5,.vc (pO F x1.length x1.length))]) ?_ (fun G=>?_))
 ·rintro _ _ ⟨q,e,U,rfl,rfl⟩;unfold tL at e;refine go ?_ ?_;refine gV (gW (tU 0 [4,5,51] rfl U ⟨rfl,rfl,rfl,zT⟩ rfl ?_));obtain rfl:=iO e;exact kJ (.inl rfl) Tryz.results158 (.tmp rfl .nil) rfl rfl
 obtain⟨u,hL,y⟩:=aR e;refine dU (fun k a w=>∃(f:List Int),∃(h:Int),fA K t a1 x1 k f h=some u∧f.length=x1.length∧hs _ [hO cI F x1.length 3 x1.length f] [(1,.vc (pS cI a1)),(5,.vc (pO F x1.length x1.length)),(14,vI ((cpL x1 t).length:Int)),(15,vI h)] a w) K (fun a w ⟨_,_,e,_,_⟩=>by cases e) (fun k a w ⟨f,h,e,z,hh⟩=>dW ?_ hh) (fun a w hh=>⟨(cpL x1 t),0,hL,(aEp rfl),jG [0] hh⟩);rw[fA.eq_2]at e;refine go ?_ ?_;refine aD e rfl (fun V e=>?_) (fun V e=>?_)
 ·refine go ?_ ?_;refine aJ (aE (aI (gG ?_)));refine zH ?_;refine aX (aH (aE (zK (fun H E=>∃(j:List Int),lS K h (fA K t a1 x1 k) j=some u∧j.length=x1.length∧H=[hO cI F x1.length 3 x1.length j]∧E=[(1,.vc (pS cI a1)),(5,.vc (pO F x1.length x1.length)),(6,vI h),(14,vI ((cpL x1 t).length:Int)),(15,vI h)]) ?_ (fun x=>?_))))
  ·rintro _ _ ⟨j,e,I,rfl,rfl⟩;unfold lS at e;obtain⟨v38,J,e⟩:=aR e;refine go ?_ ?_;refine aD e rfl (fun X e=>?_) (fun X e=>?_)
   ·have e:=uS J e;obtain⟨v43,h44,e⟩:=aR e;have e:=uS J e;obtain⟨x47,Y,v50,h51,v52,h53,v54,h55,e⟩:=bn4 e;have e:=uS h53 e;obtain⟨x58,h59,e⟩:=aR e;have e:=uS h51 e;refine go ?_ ?_;exact aF (fun a w hh=>⟨x58,v50,e,(bI h59 (bI Y I)),jG [0] hh⟩)
   obtain⟨v63,h64,e⟩:=aR e;refine go ?_ ?_;exact aF (fun a w hh=>⟨j,v63,e,I,jG [0] hh⟩)
  refine go ?_ ?_;refine aD e rfl (fun h65 e=>?_) (fun h65 e=>?_)
  ·obtain⟨v68,L,e⟩:=aR e;obtain⟨v70,h71,e⟩:=aR e;obtain⟨v72,h73,e⟩:=aR e;have e:=uS L e;refine dr [0,0,3,7,0,0,48,112,255,511,1023] 10 1 ?_ (fun bs67 G66=>?_);obtain⟨x76,O,e⟩:=aR e;refine mI (xI 0 rfl rfl L O tyO3.s) zU2 ?_;refine aX ?_;exact rU x ⟨x76,e,(bI O z),rfl,rfl⟩ [0]
  refine fB ?_;exact rU x ⟨f,e,z,rfl,rfl⟩ [0]
 refine bF ?_;obtain rfl:=iO e;exact rU G ⟨f,y,z,rfl,rfl⟩ [0]
def o9(K:Nat)(e:aC)(a1:aC):Option aC:=
 bif(e.neg==a1.neg) then((rB K e.d a1.d).bind fun q=>(fF K e.neg q).bind fun s=>some s) else((gP K e.d a1.d).bind fun v11=>bif(decide (v11<0)) then((oC K a1.d e.d).bind fun f=>(fF K a1.neg f).bind fun h=>some h) else((oC K e.d a1.d).bind fun j=>(fF K e.neg j).bind fun k=>some k))
theorem aAu{K:Nat}{j:aC}{a1:aC}{r:aC}(f:o9 K j a1=some r):Ct Tryz.prog 122 [.va (aC.e j),.va (aC.e a1)] (.va (aC.e r)):=by
 unfold o9 at f;refine aA Tryz.func122 rfl (by kernel_rfl) Tryz.ntmps122 rfl (fun w0 M0=>?_);refine aE (aI (dP rfl rfl zT (fun X=>?_)));refine dP rfl rfl zT (fun b2=>?_);refine aM rfl tyZ40 (fun Y=>?_);refine go ?_ ?_;refine aJ (go ?_ ?_);refine aG (aPG rfl Tryz.underlying4) zU2 ?_;refine go ?_ ?_;refine aD f rfl (fun s f=>?_) (fun s f=>?_)
 ·refine aE ?_;obtain⟨v7,h8,f⟩:=bE f aBT;obtain⟨v9,t,f⟩:=bE f jV;refine dr [0,1,0,4,0,16,60,127,255] 8 1 ?_ (fun u G5=>?_);exact bU
 obtain⟨v11,x,f⟩:=bE f oV;refine go ?_ ?_;refine aD f rfl (fun h f=>?_) (fun h f=>?_)
 ·refine aE ?_;obtain⟨y,z,f⟩:=bE f yN;obtain⟨F,G,f⟩:=bE f jV;refine dr [0,1,0,4,0,16,60,127,255] 8 1 ?_ (fun k I=>?_);exact bU
 obtain⟨J,L,f⟩:=bE f yN;obtain⟨O,U,f⟩:=bE f jV;refine go ?_ ?_;refine dr [0,1,0,4,0,16,60,127,255] 8 1 ?_ (fun q V=>?_);exact bU
def sO(K:Nat)(h:aC)(a1:aC)(e:List Int):Option aC:=
 (fF K (h.neg != a1.neg) e).bind fun f=>some f
def sY(K:Nat)(a1:aC)(f:Int)(e:(List Int)→Int→Option (List Int))(h:List Int)(k:Int):Option (List Int):=
 (aV (f+(a1.d.length:Int))).bind fun j=>(bR h j).bind fun t=>(rW h j k).bind fun q=>(aV (f+1)).bind fun s=>e q s
def jB(K:Nat)(a1:aC)(h:Int)(j:Int):Nat→(List Int)→Int→Int→Option ((List Int)×Int)
 |0,_,_,_=>none
 |k+1,f,q,e=>bif(decide (e<(a1.d.length:Int))) then((bR a1.d e).bind fun G=>(aV (h+e)).bind fun I=>(bR f I).bind fun J=>(aV (j*G)).bind fun L=>(aV (J+L)).bind fun O=>(aV (O+q)).bind fun s=>(chq s 1000000000).bind fun t=>(aV (h+e)).bind fun u=>(aV (t*1000000000)).bind fun x=>(aV (s-x)).bind fun y=>(bR f u).bind fun U=>(rW f u y).bind fun z=>(aV (e+1)).bind fun F=>jB K a1 h j k z t F) else(some (f,q))
def gY(K:Nat)(h:aC)(a1:aC):Nat→(List Int)→Int→Option (List Int)
 |0,_,_=>none
 |k+1,f,e=>bif(decide (e<(h.d.length:Int))) then((bR h.d e).bind fun j=>(jB K a1 e j K f 0 0).bind fun(q,s)=>sY K a1 e (gY K h a1 k) q s) else(some f)
def wW(K:Nat)(h:aC)(a1:aC)(e:List Int):Option aC:=
 (fF K (h.neg != a1.neg) e).bind fun f=>some f
def uK(K:Nat)(a1:aC)(f:Int)(e:(List Int)→Int→Option (List Int))(h:List Int)(k:Int):Option (List Int):=
 (aV (f+(a1.d.length:Int))).bind fun j=>(bR h j).bind fun t=>(rW h j k).bind fun q=>(aV (f+1)).bind fun s=>e q s
def oW(K:Nat)(a1:aC)(h:Int)(j:Int):Nat→(List Int)→Int→Int→Option ((List Int)×Int)
 |0,_,_,_=>none
 |k+1,f,q,e=>bif(decide (e<(a1.d.length:Int))) then((bR a1.d e).bind fun x=>(aV (h+e)).bind fun y=>(bR f y).bind fun z=>(aV (j*x)).bind fun F=>(aV (z+F)).bind fun G=>(aV (G+q)).bind fun s=>(chq s 1000000000).bind fun t=>(aV (h+e)).bind fun u=>(aV (t*1000000000)).bind fun I=>(aV (s-I)).bind fun J=>(bR f u).bind fun U=>(rW f u J).bind fun L=>(aV (e+1)).bind fun O=>oW K a1 h j k L t O) else(some (f,q))
def mO(K:Nat)(s:aC)(a1:aC):Nat→(List Int)→Int→Option (List Int)
 |0,_,_=>none
 |k+1,f,e=>bif(decide (e<(s.d.length:Int))) then((bR s.d e).bind fun h=>(oW K a1 e h K f 0 0).bind fun(j,q)=>uK K a1 e (mO K s a1 k) j q) else(some f)
def cA(K:Nat)(e:aC)(a1:aC):Option aC:=
 bif((e.d.length:Int)==1) then(bif((a1.d.length:Int)==1) then((bR e.d 0).bind fun v10=>(bR a1.d 0).bind fun k=>(fS (e.neg != a1.neg) (wu ((IntKind.u64.wrap v10)*(IntKind.u64.wrap k)))).bind fun q=>some q) else((aV ((e.d.length:Int)+(a1.d.length:Int))).bind fun s=>(mkL s 0).bind fun t=>(gY K e a1 K t 0).bind fun u=>sO K e a1 u)) else((aV ((e.d.length:Int)+(a1.d.length:Int))).bind fun f=>(mkL f 0).bind fun h=>(mO K e a1 K h 0).bind fun j=>wW K e a1 j)
theorem iU{K:Nat}{q:aC}{a1:aC}{r:aC}(f:cA K q a1=some r):Ct Tryz.prog 124 [.va (aC.e q),.va (aC.e a1)] (.va (aC.e r)):=by
 unfold cA at f;refine aA Tryz.func124 rfl (by kernel_rfl) Tryz.ntmps124 rfl (fun w0 M0=>?_);refine aE (aI (dP rfl rfl zT (fun y=>?_)));refine dP rfl rfl zT (fun b2=>?_);refine aM rfl tyZ40 (fun G=>?_);refine go ?_ ?_;refine dr [0,1,0,4,3,31] 6 0 ?_ (fun bs5 G4=>?_);refine go ?_ ?_;refine dK f (fun h6 f=>?_) (fun h6 f=>?_)
 ·refine go ?_ ?_;refine aD f rfl (fun h7 f=>?_) (fun h7 f=>?_)
  ·refine aE ?_;obtain⟨v10,h11,f⟩:=aR f;obtain⟨v12,h13,f⟩:=aR f;obtain⟨v14,h15,f⟩:=bE f lP;refine kO [0,1,0,4,15,0,32,96,224,0,512,1536,3584,8160,16383,32767] 15 1 [.v (.vc (pP (some y) 0)),.v (.vc (pB q.neg)),.v (.vc (pP (some b2) 0)),.v (.vc (pB a1.neg)),.v (.vc (pB (q.neg != a1.neg))),.v (.vc (pS cI q.d)),.v (.vc (pM (cI.e v10))),.v (vI v10),.v (.vc (pI .u64 (IntKind.u64.wrap v10))),.v (.vc (pS cI a1.d)),.v (.vc (pM (cI.e v12))),.v (vI v12),.v (.vc (pI .u64 (IntKind.u64.wrap v12))),.v (.vc (pI .u64 (wu ((IntKind.u64.wrap v10)*(IntKind.u64.wrap v12))))),.v (.va (aC.e v14))] bC ⟨d0 (iG (off:=0) (k:=0) rfl tyF40_0) zU1,d0 (gM 2 1 rfl rfl rfl rfl (.one tyO4)) zU1,d0 (iG (off:=0) (k:=0) rfl tyF40_0) zU1,d0 (gM 1 1 rfl rfl rfl rfl (.one tyO4)) zU1,⟨rfl,.run (L:=[0]) ⟨fun G8 A=>aCs rfl Tryz.underlying4,zT⟩ (fun G8=>zU2)⟩,d0 (aP (.inl rfl)) zU1,d0 (aGo rfl tyS22 h11) ⟨rfl,rR _ _,zT⟩,d0 (aDy 1 rfl rfl (.one tyO3)) zU1,⟨rfl,.run (L:=[0]) ⟨fun G8 A=>aEW rfl ⟨_,Tryz.underlying3⟩ Tryz.underlying131,zT⟩ (fun G8=>zU1)⟩,d0 (aP (.inl rfl)) zU1,d0 (aGo rfl tyS22 h13) ⟨rfl,rR _ _,zT⟩,d0 (aDy 1 rfl rfl (.one tyO3)) zU1,⟨rfl,.run (L:=[0]) ⟨fun G8 A=>aEW rfl ⟨_,Tryz.underlying3⟩ Tryz.underlying131,zT⟩ (fun G8=>zU1)⟩,d0 (aTI rfl) zU2,d0 (bO rfl h15 rfl) zU2,zT⟩ (fun bs9 G8=>?_);exact bU
  obtain⟨v16,h17,j,h19,f⟩:=u9 f;refine go ?_ ?_;refine qE (C:=cI) rfl tyS22 rfl tyZ3 rfl h19 (fun z=>?_);refine go ?_ ?_;refine aJ (aY (fun H E=>∃(x37:List Int),sO K q a1 x37=some r∧x37.length=j.length∧H=[hO cI z j.length 3 j.length x37,⟨some G,1,40,2,1,([pB false]++[pS cI ([]:List Int)])⟩,⟨some b2,1,40,2,1,(aC.e a1)⟩,⟨some y,1,40,2,1,(aC.e q)⟩]∧E=[(2,.vc (pP (some y) 0)),(3,.vc (pP (some b2) 0)),(4,.vc (pP (some G) 0)),(7,.vc (pO z j.length j.length))]) ?_ (fun Jj44=>?_))
  ·rintro _ _ ⟨x37,f,q41,rfl,rfl⟩;unfold sO at f;refine go ?_ ?_;refine aG (aCs rfl Tryz.underlying4) zU2 ?_;refine gG ?_;refine xC 0 [7,98] rfl q41 zU2 rfl ?_;obtain⟨v45,h46,f⟩:=bE f jV;exact bU
  obtain⟨x37',hL,hRl43⟩:=aR f;refine dU (fun k a w=>∃(U:List Int),∃(x:Int),gY K q a1 k U x=some x37'∧U.length=j.length∧hs _ [hO cI z j.length 3 j.length U,⟨some G,1,40,2,1,([pB false]++[pS cI ([]:List Int)])⟩,⟨some b2,1,40,2,1,(aC.e a1)⟩,⟨some y,1,40,2,1,(aC.e q)⟩] [(2,.vc (pP (some y) 0)),(3,.vc (pP (some b2) 0)),(4,.vc (pP (some G) 0)),(6,.vc (pS cI a1.d)),(7,.vc (pO z j.length j.length)),(47,.vc (pS cI q.d)),(48,vI (q.d.length:Int)),(49,vI x)] a w) K (fun a w ⟨_,_,f,_,_⟩=>by cases f) (fun k a w ⟨U,x,f,q34,hh⟩=>dW ?_ hh) (fun a w hh=>⟨j,0,hL,rfl,jG [0,1,2,3] hh⟩);rw[gY.eq_2]at f;refine go ?_ ?_;refine aD f rfl (fun h47 f=>?_) (fun h47 f=>?_)
  ·refine go ?_ ?_;refine aJ ?_;obtain⟨v48,h49,f⟩:=aR f;refine go ?_ ?_;refine aJ (aY (fun H E=>∃(x66:List Int),∃(x72:Int),sY K a1 x (gY K q a1 k) x66 x72=some x37'∧x66.length=j.length∧H=[hO cI z j.length 3 j.length x66,⟨some G,1,40,2,1,([pB false]++[pS cI ([]:List Int)])⟩,⟨some b2,1,40,2,1,(aC.e a1)⟩,⟨some y,1,40,2,1,(aC.e q)⟩]∧E=[(2,.vc (pP (some y) 0)),(3,.vc (pP (some b2) 0)),(4,.vc (pP (some G) 0)),(6,.vc (pS cI a1.d)),(7,.vc (pO z j.length j.length)),(8,vI x),(10,vI x72),(47,.vc (pS cI q.d)),(48,vI (q.d.length:Int)),(49,vI x)]) ?_ (fun Jj74=>?_))
   ·rintro _ _ ⟨x66,x72,f,q70,rfl,rfl⟩;unfold sY at f;obtain⟨v75,h76,v77,h78,x79,h80,v82,h83,f⟩:=bn4 f;refine go ?_ ?_;exact aF (fun a w hh=>⟨x79,v82,f,(bI h80 q70),jG [0,1,2,3] hh⟩)
   obtain⟨⟨x66',x72'⟩,hL,hRl73⟩:=aR f;refine dU (fun k a w=>∃(V:List Int),∃(x64:Int),∃(x65:Int),jB K a1 x v48 k V x64 x65=some (x66',x72')∧V.length=j.length∧hs _ [hO cI z j.length 3 j.length V,⟨some G,1,40,2,1,([pB false]++[pS cI ([]:List Int)])⟩,⟨some b2,1,40,2,1,(aC.e a1)⟩,⟨some y,1,40,2,1,(aC.e q)⟩] [(2,.vc (pP (some y) 0)),(3,.vc (pP (some b2) 0)),(4,.vc (pP (some G) 0)),(6,.vc (pS cI a1.d)),(7,.vc (pO z j.length j.length)),(8,vI x),(9,vI v48),(10,vI x64),(47,.vc (pS cI q.d)),(48,vI (q.d.length:Int)),(49,vI x),(54,.vc (pS cI a1.d)),(55,vI (a1.d.length:Int)),(56,vI x65)] a w) K (fun a w ⟨_,_,_,f,_,_⟩=>by cases f) (fun k a w ⟨V,x64,x65,f,q62,hh⟩=>dW ?_ hh) (fun a w hh=>⟨U,0,0,hL,q34,jG [0,1,2,3] hh⟩);rw[jB.eq_2]at f;refine go ?_ ?_;refine aD f rfl (fun h84 f=>?_) (fun h84 f=>?_)
   ·refine go ?_ ?_;refine aJ ?_;obtain⟨v85,h86,v87,h88,v89,h90,v91,h92,f⟩:=bn4 f;obtain⟨v93,h94,v95,h96,v97,h98,f⟩:=bn3 f;have f:=uS h88 f;obtain⟨v101,h102,v103,h104,f⟩:=u9 f;have f:=uS h90 f;obtain⟨x107,h108,v110,h111,f⟩:=u9 f;refine go ?_ ?_;exact aF (fun a w hh=>⟨x107,v97,v110,f,(bI h108 q62),jG [0,1,2,3] hh⟩)
   refine bF ?_;obtain⟨rfl,rfl⟩:=sm2 f;exact rU Jj74 ⟨V,x64,hRl73,q62,rfl,rfl⟩ [0,1,2,3]
  refine bF ?_;obtain rfl:=iO f;exact rU Jj44 ⟨U,hRl43,q34,rfl,rfl⟩ [0,1,2,3]
 refine go ?_ ?_;refine vN rfl ?_;obtain⟨v112,h113,h,h115,f⟩:=u9 f;refine go ?_ ?_;refine qE (C:=cI) rfl tyS22 rfl tyZ3 rfl h115 (fun t=>?_);refine go ?_ ?_;refine aJ (aY (fun H E=>∃(I:List Int),wW K q a1 I=some r∧I.length=h.length∧H=[hO cI t h.length 3 h.length I,⟨some G,1,40,2,1,([pB false]++[pS cI ([]:List Int)])⟩,⟨some b2,1,40,2,1,(aC.e a1)⟩,⟨some y,1,40,2,1,(aC.e q)⟩]∧E=[(2,.vc (pP (some y) 0)),(3,.vc (pP (some b2) 0)),(4,.vc (pP (some G) 0)),(7,.vc (pO t h.length h.length))]) ?_ (fun Jj140=>?_))
 ·rintro _ _ ⟨I,f,q137,rfl,rfl⟩;unfold wW at f;refine go ?_ ?_;refine aG (aCs rfl Tryz.underlying4) zU2 ?_;refine gG ?_;refine xC 0 [7,98] rfl q137 zU2 rfl ?_;obtain⟨v141,h142,f⟩:=bE f jV;exact bU
 obtain⟨X,hL,hRl139⟩:=aR f;refine dU (fun k a w=>∃(u:List Int),∃(s:Int),mO K q a1 k u s=some X∧u.length=h.length∧hs _ [hO cI t h.length 3 h.length u,⟨some G,1,40,2,1,([pB false]++[pS cI ([]:List Int)])⟩,⟨some b2,1,40,2,1,(aC.e a1)⟩,⟨some y,1,40,2,1,(aC.e q)⟩] [(2,.vc (pP (some y) 0)),(3,.vc (pP (some b2) 0)),(4,.vc (pP (some G) 0)),(6,.vc (pS cI a1.d)),(7,.vc (pO t h.length h.length)),(47,.vc (pS cI q.d)),(48,vI (q.d.length:Int)),(49,vI s)] a w) K (fun a w ⟨_,_,f,_,_⟩=>by cases f) (fun k a w ⟨u,s,f,q130,hh⟩=>dW ?_ hh) (fun a w hh=>⟨h,0,hL,rfl,jG [0,1,2,3] hh⟩);rw[mO.eq_2]at f;refine go ?_ ?_;refine aD f rfl (fun h143 f=>?_) (fun h143 f=>?_)
 ·refine go ?_ ?_;refine aJ ?_;obtain⟨v144,h145,f⟩:=aR f;refine go ?_ ?_;refine aJ (aY (fun H E=>∃(J:List Int),∃(Y:Int),uK K a1 s (mO K q a1 k) J Y=some X∧J.length=h.length∧H=[hO cI t h.length 3 h.length J,⟨some G,1,40,2,1,([pB false]++[pS cI ([]:List Int)])⟩,⟨some b2,1,40,2,1,(aC.e a1)⟩,⟨some y,1,40,2,1,(aC.e q)⟩]∧E=[(2,.vc (pP (some y) 0)),(3,.vc (pP (some b2) 0)),(4,.vc (pP (some G) 0)),(6,.vc (pS cI a1.d)),(7,.vc (pO t h.length h.length)),(8,vI s),(10,vI Y),(47,.vc (pS cI q.d)),(48,vI (q.d.length:Int)),(49,vI s)]) ?_ (fun Jj170=>?_))
  ·rintro _ _ ⟨J,Y,f,q166,rfl,rfl⟩;unfold uK at f;obtain⟨v171,h172,v173,h174,x175,h176,v178,h179,f⟩:=bn4 f;refine go ?_ ?_;exact aF (fun a w hh=>⟨x175,v178,f,(bI h176 q166),jG [0,1,2,3] hh⟩)
  obtain⟨⟨x162',x168'⟩,hL,hRl169⟩:=aR f;refine dU (fun k a w=>∃(F:List Int),∃(O:Int),∃(x161:Int),oW K a1 s v144 k F O x161=some (x162',x168')∧F.length=h.length∧hs _ [hO cI t h.length 3 h.length F,⟨some G,1,40,2,1,([pB false]++[pS cI ([]:List Int)])⟩,⟨some b2,1,40,2,1,(aC.e a1)⟩,⟨some y,1,40,2,1,(aC.e q)⟩] [(2,.vc (pP (some y) 0)),(3,.vc (pP (some b2) 0)),(4,.vc (pP (some G) 0)),(6,.vc (pS cI a1.d)),(7,.vc (pO t h.length h.length)),(8,vI s),(9,vI v144),(10,vI O),(47,.vc (pS cI q.d)),(48,vI (q.d.length:Int)),(49,vI s),(54,.vc (pS cI a1.d)),(55,vI (a1.d.length:Int)),(56,vI x161)] a w) K (fun a w ⟨_,_,_,f,_,_⟩=>by cases f) (fun k a w ⟨F,O,x161,f,q158,hh⟩=>dW ?_ hh) (fun a w hh=>⟨u,0,0,hL,q130,jG [0,1,2,3] hh⟩);rw[oW.eq_2]at f;refine go ?_ ?_;refine aD f rfl (fun h180 f=>?_) (fun h180 f=>?_)
  ·refine go ?_ ?_;refine aJ ?_;obtain⟨v181,h182,v183,h184,v185,h186,v187,h188,f⟩:=bn4 f;obtain⟨v189,h190,v191,h192,v193,h194,f⟩:=bn3 f;have f:=uS h184 f;obtain⟨v197,h198,v199,h200,f⟩:=u9 f;have f:=uS h186 f;obtain⟨x203,h204,v206,h207,f⟩:=u9 f;refine go ?_ ?_;exact aF (fun a w hh=>⟨x203,v193,v206,f,(bI h204 q158),jG [0,1,2,3] hh⟩)
  refine bF ?_;obtain⟨rfl,rfl⟩:=sm2 f;exact rU Jj170 ⟨F,O,hRl169,q158,rfl,rfl⟩ [0,1,2,3]
 refine bF ?_;obtain rfl:=iO f;exact rU Jj140 ⟨u,hRl139,q130,rfl,rfl⟩ [0,1,2,3]
def qU(e:List Int):Option (Int×Bool):=
 bif((e.length:Int)==0) then(some (0,true)) else(bif((e.length:Int)==1) then((bR e 0).bind fun j=>some (j,true)) else(bif((e.length:Int)==2) then((bR e 1).bind fun k=>(aV (k*1000000000)).bind fun v10=>(bR e 0).bind fun f=>(aV (v10+f)).bind fun h=>some (h,true)) else(some (0,false))))
theorem xT{f:List Int}{r:Int×Bool}(e:qU f=some r):Ct Tryz.prog 161 [.vc (pS cI f)] (.t2 (vI r.1) (.vc (pB r.2))):=by
 unfold qU at e;refine aA Tryz.func161 rfl (by kernel_rfl) Tryz.ntmps161 rfl (fun w0 M0=>?_);refine go ?_ ?_;refine aJ (go ?_ ?_);refine aD e rfl (fun h e=>?_) (fun h e=>?_)
 ·exact bU
 refine go ?_ ?_;refine aD e rfl (fun j e=>?_) (fun j e=>?_)
 ·obtain⟨z,F,e⟩:=aR e;exact bU
 refine go ?_ ?_;refine aD e rfl (fun k e=>?_) (fun k e=>?_)
 ·refine aE ?_;obtain⟨G,I,e⟩:=aR e;obtain⟨v10,q,e⟩:=aR e;obtain⟨s,t,e⟩:=aR e;obtain⟨u,x,e⟩:=aR e;refine dr [0,1,3,7,0,16,48,127,255,511] 10 0 ?_ (fun y J=>?_);refine aX (aH ?_);exact bU
 exact bU
def tO(K:Nat)(e:List Int)(f:Int):Option ((List Int)×Int):=
 some (e,f)
def lM(K:Nat)(z:List Int)(a1:Int):Nat→(List Int)→Int→Int→Option ((List Int)×Int)
 |0,_,_,_=>none
 |k+1,f,h,e=>bif(decide (0≤e)) then((aV (h*1000000000)).bind fun q=>(bR z e).bind fun s=>(aV (q+s)).bind fun j=>(chq j a1).bind fun t=>(chr j a1).bind fun u=>(bR f e).bind fun F=>(rW f e t).bind fun x=>(aV (e-1)).bind fun y=>lM K z a1 k x u y) else(some (f,h))
def sD(K:Nat)(e:List Int)(a1:Int):Option ((List Int)×Int):=
 (mkL (e.length:Int) 0).bind fun x1=>(aV ((e.length:Int)-1)).bind fun v6=>(lM K e a1 K x1 0 v6).bind fun(f,h)=>tO K f h
theorem aA6{K:Nat}{a0:List Int}{a1:Int}{r:(List Int)×Int}(f:sD K a0 a1=some r):Ct Tryz.prog 171 [.vc (pS cI a0),vI a1] (.t2 (.vc (pS cI r.1)) (vI r.2)):=by
 unfold sD at f;refine aA Tryz.func171 rfl (by kernel_rfl) Tryz.ntmps171 rfl (fun w0 M0=>?_);refine aE (aI (aG (aP (.inr rfl)) ⟨eG cI,zT⟩ ?_));obtain⟨x1,h2,f⟩:=aR f;refine go ?_ ?_;refine qE (C:=cI) rfl tyS22 rfl tyZ3 rfl h2 (fun u=>?_);obtain⟨v6,h7,f⟩:=aR f;refine go ?_ ?_;refine aJ (aY (fun H E=>∃(q:List Int),∃(x:Int),tO K q x=some r∧q.length=x1.length∧H=[hO cI u x1.length 3 x1.length q]∧E=[(6,.vc (pO u x1.length x1.length)),(7,vI x)]) ?_ (fun I=>?_))
 ·rintro _ _ ⟨q,x,f,q28,rfl,rfl⟩;unfold tO at f;refine go ?_ ?_;refine gV (gW (tU 0 [4,6,36] rfl q28 ⟨rfl,rfl,rfl,zT⟩ rfl ?_));obtain rfl:=iO f;exact kJ (.inl rfl) Tryz.results171 (.tmp rfl (.tmp rfl .nil)) rfl rfl
 obtain⟨⟨J,O⟩,hL,y⟩:=aR f;refine dU (fun k a w=>∃(h:List Int),∃(t:Int),∃(j:Int),lM K a0 a1 k h t j=some (J,O)∧h.length=x1.length∧hs _ [hO cI u x1.length 3 x1.length h] [(0,.vc (pS cI a0)),(1,vI a1),(6,.vc (pO u x1.length x1.length)),(7,vI t),(8,vI j)] a w) K (fun a w ⟨_,_,_,f,_,_⟩=>by cases f) (fun k a w ⟨h,t,j,f,z,hh⟩=>dW ?_ hh) (fun a w hh=>⟨x1,0,v6,hL,rfl,jG [0] hh⟩);rw[lM.eq_2]at f;refine go ?_ ?_;refine aD f rfl (fun h33 f=>?_) (fun h33 f=>?_)
 ·refine go ?_ ?_;refine aJ ?_;obtain⟨v34,h35,v36,h37,U,h39,v42,h43,f⟩:=bn4 f;obtain⟨F,V,v46,G,X,Y,f⟩:=bn3 f;refine go ?_ ?_;refine tN (HsM [(0,fun e=>[hO cI u x1.length 3 x1.length h]),(1,fun e=>[hO cI u x1.length 3 x1.length X])]) [9] [0,0,0,0,12,0,0,96,31,287,1023] 11 0 [.v (.vc (pO u x1.length x1.length)),.v (vI j),.v (vI U),.v (vI a1),.v (vI v42),.v (vI U),.v (vI a1),.v (vI F),.v (.vc (pE u j cI.n 0)),.g (fun _ _=>.any),.v (vI F)] bC ⟨d1 0 (aP (.inl rfl)) zU1,d1 0 (aP (.inl rfl)) zU1,d1 0 (aP (.inl rfl)) zU1,d1 0 (aP (.inl rfl)) zU1,d1 0 (aMD rfl h43) zU2,⟨rfl,.run (L:=[0,1]) ⟨fun e A=>aP (.inl rfl),fun e A=>aP (.inl rfl),zT⟩ (fun e=>zU1)⟩,⟨rfl,.run (L:=[0,1]) ⟨fun e A=>aP (.inl rfl),fun e A=>aP (.inl rfl),zT⟩ (fun e=>zU1)⟩,⟨rfl,.run (L:=[0,1]) ⟨fun e A=>aHQ rfl V,fun e A=>aHQ rfl V,zT⟩ (fun e=>zU2)⟩,d1 0 (dX (C:=cI) 0 rfl tyS22 rfl z (aB G).1 (aB G).2.1) zU2,⟨rfl,.hvy [0] ⟨fun e A=>aDc (xI 0 rfl rfl G Y tyO3.s),zT⟩ (fun e=>zU2)⟩,d1 1 (aP (.inr rfl)) zU1,zT⟩ (fun bs41 e=>?_);obtain⟨v52,h53,f⟩:=aR f;refine go ?_ ?_;exact aF (fun a w hh=>⟨X,F,v52,f,(bI Y z),jG [0] hh⟩)
 refine bF ?_;obtain⟨rfl,rfl⟩:=sm2 f;exact rU I ⟨h,t,y,z,rfl,rfl⟩ [0]
def sU(K:Nat)(j:List Int)(e:List Int)(f:Int):Option (List Int):=
 (bR e (j.length:Int)).bind fun k=>(rW e (j.length:Int) f).bind fun h=>some h
def kU(K:Nat)(q:List Int)(a1:Int):Nat→(List Int)→Int→Int→Option ((List Int)×Int)
 |0,_,_,_=>none
 |k+1,f,h,e=>bif(decide (e<(q.length:Int))) then((bR q e).bind fun s=>(aV (s*a1)).bind fun t=>(aV (t+h)).bind fun j=>(chr j 1000000000).bind fun u=>(chq j 1000000000).bind fun x=>(bR f e).bind fun F=>(rW f e u).bind fun y=>(aV (e+1)).bind fun z=>kU K q a1 k y x z) else(some (f,h))
def oT(K:Nat)(e:List Int)(a1:Int):Option (List Int):=
 (aV ((e.length:Int)+1)).bind fun j=>(mkL j 0).bind fun k=>(kU K e a1 K k 0 0).bind fun(f,h)=>sU K e f h
theorem aAi{K:Nat}{t:List Int}{a1:Int}{r:List Int}(e:oT K t a1=some r):CtO Tryz.prog 175 [] [.vc (pS cI t),vI a1] (fun Ho q=>∃F G u,r.length=u∧Ho=[hO cI F G 3 u r]∧q=.vc (pO F u G)):=by
 unfold oT at e;refine aA Tryz.func175 rfl (by kernel_rfl) Tryz.ntmps175 rfl (fun w0 M0=>?_);refine aE (aI (rF cI 3 rfl ?_));obtain⟨v3,h4,f,h6,e⟩:=u9 e;refine go ?_ ?_;refine qE (C:=cI) rfl tyS22 rfl tyZ3 rfl h6 (fun I=>?_);refine go ?_ ?_;refine aJ (aY (fun H E=>∃(j:List Int),∃(x:Int),sU K t j x=some r∧j.length=f.length∧H=[hO cI I f.length 3 f.length j]∧E=[(0,.vc (pS cI t)),(5,.vc (pO I f.length f.length)),(6,vI x)]) ?_ (fun J=>?_))
 ·rintro _ _ ⟨j,x,e,V,rfl,rfl⟩;unfold sU at e;obtain⟨v35,h36,x37,X,e⟩:=u9 e;refine go ?_ ?_;refine gV (gW ?_);obtain rfl:=iO e;exact aDx (.inl rfl) Tryz.results175 (.tmp rfl .nil) rfl [0] rfl (by decide) ⟨I,f.length,f.length,(bI X V),rfl,rfl⟩
 obtain⟨⟨L,O⟩,hL,y⟩:=aR e;refine dU (fun k a w=>∃(h:List Int),∃(s:Int),∃(z:Int),kU K t a1 k h s z=some (L,O)∧h.length=f.length∧hs _ [hO cI I f.length 3 f.length h] [(0,.vc (pS cI t)),(1,vI a1),(5,.vc (pO I f.length f.length)),(6,vI s),(14,.vc (pS cI t)),(15,vI (t.length:Int)),(16,vI z)] a w) K (fun a w ⟨_,_,_,e,_,_⟩=>by cases e) (fun k a w ⟨h,s,z,e,U,hh⟩=>dW ?_ hh) (fun a w hh=>⟨f,0,0,hL,rfl,jG [0] hh⟩);rw[kU.eq_2]at e;refine go ?_ ?_;refine aD e rfl (fun Y e=>?_) (fun Y e=>?_)
 ·refine go ?_ ?_;refine aJ ?_;obtain⟨v41,h42,v43,h44,v45,h46,v47,h48,e⟩:=bn4 e;obtain⟨v49,h50,v51,h52,x53,h54,v56,h57,e⟩:=bn4 e;refine go ?_ ?_;exact aF (fun a w hh=>⟨x53,v49,v56,e,(bI h54 U),jG [0] hh⟩)
 refine bF ?_;obtain⟨rfl,rfl⟩:=sm2 e;exact rU J ⟨h,s,y,U,rfl,rfl⟩ [0]
theorem aEh{K:Nat}{e:List Int}{a1:Int}{r:List Int}(f:oT K e a1=some r):Ct Tryz.prog 175 [.vc (pS cI e),vI a1] (.vc (pS cI r)):=aPb (aAi f)
def uJ(K:Nat)(a1:List Int)(k:Int)(e:List Int)(f:List Int):Option ((List Int)×(List Int)):=
 (slL f 0 (a1.length:Int)).bind fun h=>(sD K h k).bind fun j=>some (e,j.1)
def tM(K:Nat)(a1:List Int)(k:List Int)(h:Int)(q:Int)(j:(List Int)→(List Int)→Int→Option ((List Int)×(List Int)))(e:List Int)(s:Int):Option ((List Int)×(List Int)):=
 (aV (h+(a1.length:Int))).bind fun f=>(bR e f).bind fun t=>(aV (t+s)).bind fun u=>(bR e f).bind fun F=>(rW e f u).bind fun x=>(bR k h).bind fun G=>(rW k h q).bind fun y=>(aV (h-1)).bind fun z=>j y x z
def jY(K:Nat)(a1:List Int)(t:List Int)(s:Int):Nat→(List Int)→Int→Int→Option ((List Int)×Int)
 |0,_,_,_=>none
 |k+1,f,h,e=>bif(decide (e<(a1.length:Int))) then((aV (e+s)).bind fun u=>(bR f u).bind fun x=>(bR t e).bind fun y=>(aV (x+y)).bind fun z=>(aV (z+h)).bind fun j=>(aV (e+s)).bind fun q=>(chr j 1000000000).bind fun F=>(chq j 1000000000).bind fun G=>(bR f q).bind fun L=>(rW f q F).bind fun I=>(aV (e+1)).bind fun J=>jY K a1 t s k I G J) else(some (f,h))
def qH(K:Nat)(a1:List Int)(O:List Int)(s:List Int)(e:Int)(q:Int)(f:(List Int)→(List Int)→Int→Option ((List Int)×(List Int)))(h:List Int)(t:Int):Option ((List Int)×(List Int)):=
 (aV (e+(a1.length:Int))).bind fun j=>(bR h j).bind fun u=>(aV (u-t)).bind fun x=>(bR h j).bind fun U=>(rW h j x).bind fun k=>(aV (e+(a1.length:Int))).bind fun y=>(bR k y).bind fun z=>bif(decide (z<0)) then((aV (q-1)).bind fun F=>(jY K a1 O e K k 0 0).bind fun(G,I)=>tM K a1 s e F f G I) else((bR s e).bind fun V=>(rW s e q).bind fun J=>(aV (e-1)).bind fun L=>f J k L)
def gI(K:Nat)(a1:List Int)(y:List Int)(j:Int)(q:Int):Nat→(List Int)→Int→Int→Option ((List Int)×Int)
 |0,_,_,_=>none
 |k+1,f,s,e=>bif(decide (e<(a1.length:Int))) then((aV (e+j)).bind fun z=>(bR f z).bind fun F=>(bR y e).bind fun G=>(aV (q*G)).bind fun I=>(aV (F-I)).bind fun J=>(aV (J-s)).bind fun h=>bif(decide (h<0)) then((aV (-h)).bind fun L=>(aV (L+1000000000)).bind fun O=>(aV (O-1)).bind fun U=>(chq U 1000000000).bind fun t=>(aV (t*1000000000)).bind fun V=>(aV (h+V)).bind fun X=>(aV (e+j)).bind fun u=>(bR f u).bind fun v265=>(rW f u X).bind fun Y=>(aV (e+1)).bind fun v270=>gI K a1 y j q k Y t v270) else((aV (e+j)).bind fun x=>(bR f x).bind fun v274=>(rW f x h).bind fun x276=>(aV (e+1)).bind fun v279=>gI K a1 y j q k x276 0 v279)) else(some (f,s))
def qJ(K:Nat)(a1:List Int)(h:List Int)(s:List Int)(t:List Int)(j:Int)(e:(List Int)→(List Int)→Int→Option ((List Int)×(List Int)))(f:Int):Option ((List Int)×(List Int)):=
 (gI K a1 h j f K t 0 0).bind fun(k,q)=>qH K a1 h s j f e k q
def fE(K:Nat)(a1:List Int)(f:List Int)(u:List Int)(x:Int):Nat→Int→Int→Option Int
 |0,_,_=>none
 |k+1,e,h=>bif(decide (1000000000≤e)) then((aV (e-1)).bind fun j=>(aV ((a1.length:Int)-1)).bind fun y=>(bR f y).bind fun z=>(aV (h+z)).bind fun q=>bif(decide (1000000000≤q)) then(some j) else(fE K a1 f u x k j q)) else((aV ((a1.length:Int)-2)).bind fun F=>(bR f F).bind fun G=>(aV (e*G)).bind fun I=>(aV (h*1000000000)).bind fun J=>(aV (x+(a1.length:Int))).bind fun L=>(aV (L-2)).bind fun O=>(bR u O).bind fun U=>(aV (J+U)).bind fun V=>bif(decide (V<I)) then((aV (e-1)).bind fun s=>(aV ((a1.length:Int)-1)).bind fun X=>(bR f X).bind fun Y=>(aV (h+Y)).bind fun t=>bif(decide (1000000000≤t)) then(some s) else(fE K a1 f u x k s t)) else(some e))
def fU(K:Nat)(a1:List Int)(e:List Int):Nat→(List Int)→(List Int)→Int→Option ((List Int)×(List Int))
 |0,_,_,_=>none
 |k+1,j,f,h=>bif(decide (0≤h)) then((aV (h+(a1.length:Int))).bind fun z=>(bR f z).bind fun F=>(aV (F*1000000000)).bind fun G=>(aV (h+(a1.length:Int))).bind fun I=>(aV (I-1)).bind fun J=>(bR f J).bind fun L=>(aV (G+L)).bind fun q=>(aV ((a1.length:Int)-1)).bind fun O=>(bR e O).bind fun U=>(chq q U).bind fun s=>(aV ((a1.length:Int)-1)).bind fun t=>(bR e t).bind fun u=>(chr q u).bind fun x=>(fE K a1 e f h K s x).bind fun y=>qJ K a1 e j f h (fU K a1 e k) y) else(some (j,f))
def vK(K:Nat)(e:List Int)(a1:List Int):Option ((List Int)×(List Int)):=
 (aV ((a1.length:Int)-1)).bind fun v1=>(bR a1 v1).bind fun y=>(aV (y+1)).bind fun v5=>(chq 1000000000 v5).bind fun f=>(oT K e f).bind fun v11=>(oT K a1 f).bind fun h=>(slL h 0 (a1.length:Int)).bind fun j=>(aV ((e.length:Int)-(a1.length:Int))).bind fun k=>(aV (k+1)).bind fun q=>(mkL q 0).bind fun s=>(aV ((e.length:Int)-(a1.length:Int))).bind fun t=>(fU K a1 j K s v11 t).bind fun(u,x)=>uJ K a1 f u x
theorem aFF{K:Nat}{a0:List Int}{a1:List Int}{r:(List Int)×(List Int)}(e:vK K a0 a1=some r):Ct Tryz.prog 172 [.vc (pS cI a0),.vc (pS cI a1)] (.t2 (.vc (pS cI r.1)) (.vc (pS cI r.2))):=by
 unfold vK at e;refine aA Tryz.func172 rfl (by kernel_rfl) Tryz.ntmps172 rfl (fun w0 M0=>?_);refine aE (aI (aG (aP (.inr rfl)) ⟨eG cI,zT⟩ ?_));refine aG (aP (.inr rfl)) ⟨eG cI,zT⟩ ?_;obtain⟨v1,h2,v3,h4,v5,h6,v7,h8,e⟩:=bn4 e;obtain⟨v11,h12,e⟩:=aR e;obtain⟨v15,h16,e⟩:=bE e aEh;obtain⟨j,h18,e⟩:=aR e;refine go ?_ ?_;refine tN (HsM [(0,fun h=>[]),(1,fun h=>[hO cI ((h 2).1) ((h 2).2) 3 v11.length v11]),(3,fun h=>[hO cI ((h 9).1) ((h 9).2) 3 v11.length v11])]) [2,9] [0,0,3,0,0,31,0,64,255,63,1023] 11 0 [.v (.vc (pS cI a0)),.v (vI v7),.g (fun b c=>.vc (pO b v11.length c)),.v (.vc (pS cI a1)),.v (vI v7),.v (.vc (pS cI v15)),.v (.vc (pS cI a1)),.v (vI (a1.length:Int)),.v (.vc (pS cI j)),.g (fun b c=>.vc (pO b v11.length c)),.v (.vc (pS cI j))] bC ⟨d1 0 (aP (.inl rfl)) zU1,d1 0 (aP (.inl rfl)) zU1,⟨rfl,.hvy [0] ⟨fun h A=>aIb rfl (aAi h12) rfl,zT⟩ (fun h=>zU2)⟩,⟨rfl,.run (L:=[0,1]) ⟨fun h A=>aP (.inl rfl),fun h A=>aP (.inl rfl),zT⟩ (fun h=>zU1)⟩,⟨rfl,.run (L:=[0,1]) ⟨fun h A=>aP (.inl rfl),fun h A=>aP (.inl rfl),zT⟩ (fun h=>zU1)⟩,d1 1 (bO rfl h16 rfl) zU2,⟨rfl,.run (L:=[0,1,3]) ⟨fun h A=>aP (.inl rfl),fun h A=>aP (.inl rfl),fun h A=>aP (.inl rfl),zT⟩ (fun h=>zU1)⟩,⟨rfl,.run (L:=[0,1,3]) ⟨fun h A=>aIj rfl tyS22,fun h A=>aIj rfl tyS22,fun h A=>aIj rfl tyS22,zT⟩ (fun h=>zU1)⟩,⟨rfl,.run (L:=[1,3]) ⟨fun h A=>aFg rfl tyS22 h18,fun h A=>aFg rfl tyS22 h18,zT⟩ (fun h=>zU2)⟩,⟨rfl,.hvy [1] ⟨fun h A=>aKe ((h 2).1) ((h 2).2) (aP (.inr rfl)),zT⟩ (fun h=>zU1)⟩,d1 3 (aP (.inr rfl)) zU1,zT⟩ (fun bs10 h=>?_);obtain⟨v23,h24,v25,h26,f,h28,e⟩:=bn3 e;refine go ?_ ?_;refine qE (C:=cI) rfl tyS22 rfl tyZ3 rfl h28 (fun q=>?_);have e:=uS h24 e;refine go ?_ ?_;refine aJ (aY (fun H E=>∃(x60:List Int),∃(x66:List Int),uJ K a1 v7 x60 x66=some r∧x60.length=f.length∧x66.length=v11.length∧H=[hO cI q f.length 3 f.length x60,hO cI ((h 9).1) ((h 9).2) 3 v11.length x66]∧E=[(6,vI v7),(7,.vc (pO ((h 9).1) v11.length ((h 9).2))),(9,vI (a1.length:Int)),(10,.vc (pO q f.length f.length))]) ?_ (fun Jj73=>?_))
 ·rintro _ _ ⟨x60,x66,e,q64,q70,rfl,rfl⟩;unfold uJ at e;refine aH (aE (aI (gG ?_)));refine gG ?_;refine xC 1 [7,213] rfl q70 zU2 rfl ?_;obtain⟨x74,h75,e⟩:=aR e;obtain⟨v76,h77,e⟩:=bE e aA6;refine go ?_ ?_;refine gV (gW (tU 0 [4,10,220] rfl q64 ⟨rfl,rfl,rfl,zT⟩ rfl ?_));obtain rfl:=iO e;exact kJ (.inl rfl) Tryz.results172 (.tmp rfl (.tmp rfl .nil)) rfl rfl
 obtain⟨⟨J,O⟩,hL,hRl72⟩:=aR e;refine dU (fun k a w=>∃(t:List Int),∃(x:List Int),∃(s:Int),fU K a1 j k t x s=some (J,O)∧t.length=f.length∧x.length=v11.length∧hs _ [hO cI q f.length 3 f.length t,hO cI ((h 9).1) ((h 9).2) 3 v11.length x] [(6,vI v7),(7,.vc (pO ((h 9).1) v11.length ((h 9).2))),(8,.vc (pS cI j)),(9,vI (a1.length:Int)),(10,.vc (pO q f.length f.length)),(11,vI s)] a w) K (fun a w ⟨_,_,_,e,_,_,_⟩=>by cases e) (fun k a w ⟨t,x,s,e,q51,q57,hh⟩=>dW ?_ hh) (fun a w hh=>⟨f,v11,v23,hL,rfl,rfl,jG [0,1] hh⟩);rw[fU.eq_2]at e;refine go ?_ ?_;refine aD e rfl (fun h78 e=>?_) (fun h78 e=>?_)
 ·refine go ?_ ?_;refine aJ (aM2 (aE ?_));obtain⟨v81,h82,e⟩:=aR e;obtain⟨v83,h84,e⟩:=aR e;obtain⟨v85,h86,e⟩:=aR e;have e:=uS h82 e;obtain⟨v89,h90,e⟩:=aR e;obtain⟨v91,h92,e⟩:=aR e;obtain⟨v93,h94,e⟩:=aR e;refine dr [0,0,0,6,15,31,63,0,0,0,768,1792,3968,8064,16383,32767] 16 0 ?_ (fun bs80 G79=>?_);have e:=uS h2 e;obtain⟨v99,h100,v101,h102,e⟩:=u9 e;have e:=uS h2 e;have e:=uS h100 e;obtain⟨v107,h108,e⟩:=aR e;refine go ?_ ?_;refine dr [0,0,0,4,14,30,63,0,0,0,512,1792,3840,8064,127,32767] 16 0 ?_ (fun bs96 G95=>?_);refine go ?_ ?_;refine aJ (aY (fun H E=>∃(u:Int),qJ K a1 j t x s (fU K a1 j k) u=some (J,O)∧H=[hO cI q f.length 3 f.length t,hO cI ((h 9).1) ((h 9).2) 3 v11.length x]∧E=[(6,vI v7),(7,.vc (pO ((h 9).1) v11.length ((h 9).2))),(8,.vc (pS cI j)),(9,vI (a1.length:Int)),(10,.vc (pO q f.length f.length)),(11,vI s),(13,vI u)]) ?_ (fun I=>?_))
  ·rintro _ _ ⟨u,e,rfl,rfl⟩;unfold qJ at e;refine go ?_ ?_;refine aJ (aY (fun H E=>∃(U:List Int),∃(x138:Int),qH K a1 j t s u (fU K a1 j k) U x138=some (J,O)∧U.length=v11.length∧H=[hO cI q f.length 3 f.length t,hO cI ((h 9).1) ((h 9).2) 3 v11.length U]∧E=[(6,vI v7),(7,.vc (pO ((h 9).1) v11.length ((h 9).2))),(8,.vc (pS cI j)),(9,vI (a1.length:Int)),(10,.vc (pO q f.length f.length)),(11,vI s),(13,vI u),(15,vI x138)]) ?_ (fun Jj140=>?_))
   ·rintro _ _ ⟨U,x138,e,q136,rfl,rfl⟩;unfold qH at e;have e:=uS h82 e;obtain⟨v143,h144,v145,h146,e⟩:=u9 e;have e:=uS h144 e;obtain⟨x149,h150,e⟩:=aR e;have e:=uS h82 e;obtain⟨v154,h155,e⟩:=aR e;refine go ?_ ?_;refine aD e rfl (fun h156 e=>?_) (fun h156 e=>?_)
    ·obtain⟨v157,h158,e⟩:=aR e;refine go ?_ ?_;refine aJ (aY (fun H E=>∃(V:List Int),∃(x181:Int),tM K a1 t s v157 (fU K a1 j k) V x181=some (J,O)∧V.length=v11.length∧H=[hO cI q f.length 3 f.length t,hO cI ((h 9).1) ((h 9).2) 3 v11.length V]∧E=[(6,vI v7),(7,.vc (pO ((h 9).1) v11.length ((h 9).2))),(8,.vc (pS cI j)),(9,vI (a1.length:Int)),(10,.vc (pO q f.length f.length)),(11,vI s),(13,vI v157),(15,vI x181)]) ?_ (fun Jj183=>?_))
     ·rintro _ _ ⟨V,x181,e,q179,rfl,rfl⟩;unfold tM at e;have e:=uS h82 e;obtain⟨v186,h187,v188,h189,e⟩:=u9 e;have e:=uS h187 e;obtain⟨x192,h193,v195,h196,x197,h198,v200,h201,e⟩:=bn4 e;refine go ?_ ?_;exact aF (fun a w hh=>⟨x197,x192,v200,e,(bI h198 q51),(bI h193 q179),jG [0,1] hh⟩)
     obtain⟨⟨x175',x181'⟩,hL,hRl182⟩:=aR e;refine dU (fun k a w=>∃(z:List Int),∃(X:Int),∃(x174:Int),jY K a1 j s k z X x174=some (x175',x181')∧z.length=v11.length∧hs _ [hO cI q f.length 3 f.length t,hO cI ((h 9).1) ((h 9).2) 3 v11.length z] [(6,vI v7),(7,.vc (pO ((h 9).1) v11.length ((h 9).2))),(8,.vc (pS cI j)),(9,vI (a1.length:Int)),(10,.vc (pO q f.length f.length)),(11,vI s),(13,vI v157),(15,vI X),(172,vI (a1.length:Int)),(173,vI x174)] a w) K (fun a w ⟨_,_,_,e,_,_⟩=>by cases e) (fun k a w ⟨z,X,x174,e,q171,hh⟩=>dW ?_ hh) (fun a w hh=>⟨x149,0,0,hL,(bI h150 q136),jG [0,1] hh⟩);rw[jY.eq_2]at e;refine go ?_ ?_;refine aD e rfl (fun h202 e=>?_) (fun h202 e=>?_)
     ·refine go ?_ ?_;refine aJ ?_;obtain⟨v205,h206,v207,h208,v209,h210,v211,h212,e⟩:=bn4 e;obtain⟨v213,h214,e⟩:=aR e;refine go ?_ ?_;refine dr [0,0,0,6,15,31,0,0,192,448,1023,0,4095,8191] 14 0 ?_ (fun bs204 G203=>?_);have e:=uS h206 e;obtain⟨v217,h218,v219,h220,e⟩:=u9 e;have e:=uS h208 e;obtain⟨x223,h224,v226,h227,e⟩:=u9 e;refine go ?_ ?_;exact aF (fun a w hh=>⟨x223,v219,v226,e,(bI h224 q171),jG [0,1] hh⟩)
     refine bF ?_;obtain⟨rfl,rfl⟩:=sm2 e;exact rU Jj183 ⟨z,X,hRl182,q171,rfl,rfl⟩ [0,1]
    obtain⟨v228,h229,x230,h231,v233,h234,e⟩:=bn3 e;refine go ?_ ?_;exact aF (fun a w hh=>⟨x230,x149,v233,e,(bI h231 q51),(bI h150 q136),jG [0,1] hh⟩)
   obtain⟨⟨x132',x138'⟩,hL,hRl139⟩:=aR e;refine dU (fun k a w=>∃(F:List Int),∃(Y:Int),∃(x131:Int),gI K a1 j s u k F Y x131=some (x132',x138')∧F.length=v11.length∧hs _ [hO cI q f.length 3 f.length t,hO cI ((h 9).1) ((h 9).2) 3 v11.length F] [(6,vI v7),(7,.vc (pO ((h 9).1) v11.length ((h 9).2))),(8,.vc (pS cI j)),(9,vI (a1.length:Int)),(10,.vc (pO q f.length f.length)),(11,vI s),(13,vI u),(15,vI Y),(117,vI (a1.length:Int)),(118,vI x131)] a w) K (fun a w ⟨_,_,_,e,_,_⟩=>by cases e) (fun k a w ⟨F,Y,x131,e,q128,hh⟩=>dW ?_ hh) (fun a w hh=>⟨x,0,0,hL,q57,jG [0,1] hh⟩);rw[gI.eq_2]at e;refine go ?_ ?_;refine aD e rfl (fun h235 e=>?_) (fun h235 e=>?_)
   ·refine go ?_ ?_;refine aJ ?_;obtain⟨v238,h239,v240,h241,v242,h243,v244,h245,e⟩:=bn4 e;obtain⟨v246,h247,v248,h249,e⟩:=u9 e;refine go ?_ ?_;refine dr [0,0,0,6,15,31,0,0,0,384,896,1984,4095,0,16383,32767] 16 0 ?_ (fun bs237 G236=>?_);refine go ?_ ?_;refine aD e rfl (fun h250 e=>?_) (fun h250 e=>?_)
    ·obtain⟨v251,h252,v253,h254,v255,h256,v257,h258,e⟩:=bn4 e;obtain⟨v259,h260,v261,h262,e⟩:=u9 e;have e:=uS h239 e;have e:=uS h241 e;obtain⟨x267,h268,v270,h271,e⟩:=u9 e;refine go ?_ ?_;exact aF (fun a w hh=>⟨x267,v257,v270,e,(bI h268 q128),jG [0,1] hh⟩)
    have e:=uS h239 e;have e:=uS h241 e;obtain⟨x276,h277,v279,h280,e⟩:=u9 e;refine go ?_ ?_;exact aF (fun a w hh=>⟨x276,0,v279,e,(bI h277 q128),jG [0,1] hh⟩)
   refine bF ?_;obtain⟨rfl,rfl⟩:=sm2 e;exact rU Jj140 ⟨F,Y,hRl139,q128,rfl,rfl⟩ [0,1]
  obtain⟨x113',hL,y⟩:=aR e;refine dU (fun k a w=>∃(G:Int),∃(x112:Int),fE K a1 j x s k G x112=some x113'∧hs _ [hO cI q f.length 3 f.length t,hO cI ((h 9).1) ((h 9).2) 3 v11.length x] [(6,vI v7),(7,.vc (pO ((h 9).1) v11.length ((h 9).2))),(8,.vc (pS cI j)),(9,vI (a1.length:Int)),(10,.vc (pO q f.length f.length)),(11,vI s),(13,vI G),(14,vI x112)] a w) K (fun a w ⟨_,_,e,_⟩=>by cases e) (fun k a w ⟨G,x112,e,hh⟩=>dW ?_ hh) (fun a w hh=>⟨v101,v107,hL,jG [0,1] hh⟩);rw[fE.eq_2]at e;refine aE (aE ?_);rcases Bool.eq_false_or_eq_true (decide (1000000000≤G)) with h283|h283
  ·have e:=tH h283 e;refine drb [0,1,3,7,7,7,39,119,247,511,7,1031,7,7,7,24583,57351,126983,258055,523271,1048575,2097151] 22 0 ?_ (fun bs282 G281=>?_);refine aX (aH (kA rfl ?_));refine fB (aH (aJ ?_));obtain⟨v284,h285,e⟩:=aR e;have e:=uS h2 e;have e:=uS h100 e;obtain⟨v290,h291,e⟩:=aR e;refine go ?_ ?_;refine aD e rfl (fun h292 e=>?_) (fun h292 e=>?_)
   ·refine bF ?_;obtain rfl:=iO e;exact rU I ⟨v284,y,rfl,rfl⟩ [0,1]
   refine fB (aCo ?_);exact aF (fun a w hh=>⟨v284,v290,e,jG [0,1] hh⟩)
  have e:=rD h283 e;obtain⟨v293,h294,e⟩:=aR e;obtain⟨v295,h296,e⟩:=aR e;obtain⟨v297,h298,e⟩:=aR e;obtain⟨v299,h300,e⟩:=aR e;have e:=uS h82 e;obtain⟨v303,h304,e⟩:=aR e;obtain⟨v305,h306,e⟩:=aR e;obtain⟨v307,h308,e⟩:=aR e;refine drb [0,1,3,7,7,7,39,119,247,511,7,1031,7,7,7,24583,57351,126983,258055,523271,1048575,2097151] 22 0 ?_ (fun bs282 G281=>?_);refine aX (aH (aD e rfl (fun h309 e=>?_) (fun h309 e=>?_)))
  ·refine fB (aH (aJ ?_));obtain⟨v310,h311,e⟩:=aR e;have e:=uS h2 e;have e:=uS h100 e;obtain⟨v316,h317,e⟩:=aR e;refine go ?_ ?_;refine aD e rfl (fun h318 e=>?_) (fun h318 e=>?_)
   ·refine bF ?_;obtain rfl:=iO e;exact rU I ⟨v310,y,rfl,rfl⟩ [0,1]
   refine fB (aCo ?_);exact aF (fun a w hh=>⟨v310,v316,e,jG [0,1] hh⟩)
  refine bF ?_;obtain rfl:=iO e;exact rU I ⟨G,y,rfl,rfl⟩ [0,1]
 refine bF ?_;obtain⟨rfl,rfl⟩:=sm2 e;exact rU Jj73 ⟨t,x,hRl72,q51,q57,rfl,rfl⟩ [0,1]
def n8(K:Nat)(h:List Int)(a1:List Int):Option (aC×aC):=
 (gP K h a1).bind fun v5=>bif(decide (v5<0)) then((fF K false h).bind fun t=>some ((⟨false,([]:List Int)⟩:aC),t)) else(bif((a1.length:Int)==1) then((bR a1 0).bind fun v11=>(sD K h v11).bind fun e=>(fF K false e.1).bind fun j=>(fS false (IntKind.u64.wrap e.2)).bind fun k=>some (j,k)) else((vK K h a1).bind fun f=>(fF K false f.1).bind fun q=>(fF K false f.2).bind fun s=>some (q,s)))
def oO(K:Nat)(h:List Int)(a1:List Int):Option (aC×aC):=
 (qU h).bind fun e=>bif e.2 then((qU a1).bind fun f=>bif f.2 then((chq e.1 f.1).bind fun j=>(fS false (IntKind.u64.wrap j)).bind fun k=>(chr e.1 f.1).bind fun q=>(fS false (IntKind.u64.wrap q)).bind fun s=>some (k,s)) else(n8 K h a1)) else(n8 K h a1)
theorem xO{K:Nat}{u:List Int}{a1:List Int}{r:aC×aC}(f:oO K u a1=some r):Ct Tryz.prog 162 [.vc (pS cI u),.vc (pS cI a1)] (.t2 (.va (aC.e r.1)) (.va (aC.e r.2))):=by
 unfold oO at f;refine aA Tryz.func162 rfl (by kernel_rfl) Tryz.ntmps162 rfl (fun w0 M0=>?_);refine aE (aI (aM rfl tyZ40 (fun V=>?_)));refine aM rfl tyZ40 (fun b2=>?_);refine aX (aH (aE (zK (fun H E=>n8 K u a1=some r∧H=[⟨some b2,1,40,2,1,([pB false]++[pS cI ([]:List Int)])⟩,⟨some V,1,40,2,1,([pB false]++[pS cI ([]:List Int)])⟩]∧E=[(0,.vc (pS cI u)),(1,.vc (pS cI a1)),(4,.vc (pP (some V) 0)),(5,.vc (pP (some b2) 0))]) ?_ (fun j=>?_))))
 ·rintro _ _ ⟨f,rfl,rfl⟩;unfold n8 at f;obtain⟨v5,h6,f⟩:=bE f oV;refine go ?_ ?_;refine aD f rfl (fun Y f=>?_) (fun Y f=>?_)
  ·refine aE (aI (aG (iV (is:=[]) (xs:=[]) (ps:=[]) rfl tyB40 rfl rfl zT rfl) zT ?_));obtain⟨v8,h9,f⟩:=bE f jV;exact bU
  refine go ?_ ?_;refine aD f rfl (fun x f=>?_) (fun x f=>?_)
  ·obtain⟨v11,h12,f⟩:=aR f;obtain⟨v13,h14,f⟩:=bE f aA6;obtain⟨v15,h16,f⟩:=bE f jV;refine go ?_ ?_;refine aG (aEW rfl ⟨_,Tryz.underlying3⟩ Tryz.underlying131) zU1 ?_;obtain⟨v17,h18,f⟩:=bE f lP;exact bU
  obtain⟨v19,h20,f⟩:=bE f aFF;obtain⟨v21,h22,f⟩:=bE f jV;obtain⟨v23,h24,f⟩:=bE f jV;exact bU
 obtain⟨k,h26,f⟩:=bE f xT;refine go ?_ ?_;refine aD f rfl (fun y f=>?_) (fun y f=>?_)
 ·obtain⟨q,h29,f⟩:=bE f xT;refine go ?_ ?_;refine aD f rfl (fun z f=>?_) (fun z f=>?_)
  ·refine aE ?_;obtain⟨s,F,f⟩:=aR f;obtain⟨G,I,f⟩:=bE f lP;obtain⟨t,J,f⟩:=aR f;obtain⟨O,U,f⟩:=bE f lP;refine kO [0,0,3,7,15,0,0,96,224,511,1023,2047] 10 2 [.v (vI k.1),.v (vI q.1),.v (vI s),.v (.vc (pI .u64 (IntKind.u64.wrap s))),.v (.va (aC.e G)),.v (vI k.1),.v (vI q.1),.v (vI t),.v (.vc (pI .u64 (IntKind.u64.wrap t))),.v (.va (aC.e O))] bC ⟨d0 (aP (.inl rfl)) zU1,d0 (aP (.inl rfl)) zU1,d0 (aMD rfl F) zU2,⟨rfl,.run (L:=[0]) ⟨fun h A=>aEW rfl ⟨_,Tryz.underlying3⟩ Tryz.underlying131,zT⟩ (fun h=>zU1)⟩,d0 (bO rfl I rfl) ⟨k_B _,rfl,zT⟩,d0 (aP (.inl rfl)) zU1,d0 (aP (.inl rfl)) zU1,d0 (aHQ rfl J) zU2,⟨rfl,.run (L:=[0]) ⟨fun h A=>aEW rfl ⟨_,Tryz.underlying3⟩ Tryz.underlying131,zT⟩ (fun h=>zU1)⟩,d0 (bO rfl U rfl) ⟨k_B _,rfl,zT⟩,zT⟩ (fun X h=>?_);exact bU
  refine fB ?_;exact rU j ⟨f,rfl,rfl⟩ [0,1]
 refine fB ?_;exact rU j ⟨f,rfl,rfl⟩ [0,1]
def xL(K:Nat)(e:aC):Option aC:=
 some e
def uZ(K:Nat)(e:Int):Option (LR aC aC):=
 (fS false (IntKind.u64.wrap e)).bind fun f=>some (.ret f)
def l5(K:Nat):Nat→Int→Int→Option Int
 |0,_,_=>none
 |k+1,f,e=>bif(decide (0<e)) then((chr f e).bind fun h=>l5 K k e h) else(some f)
def kN(K:Nat):Nat→aC→aC→Option (LR aC aC)
 |0,_,_=>none
 |k+1,f,e=>bif(decide (0<(e.d.length:Int))) then((qU f.d).bind fun h=>(qU e.d).bind fun v20=>bif h.2 then(bif v20.2 then((l5 K K h.1 v20.1).bind fun j=>uZ K j) else((oO K f.d e.d).bind fun q=>kN K k e q.2)) else((oO K f.d e.d).bind fun s=>kN K k e s.2)) else(some (.go f))
def uU(K:Nat)(f:aC)(a1:aC):Option aC:=
 (fF K false f.d).bind fun v6=>(fF K false a1.d).bind fun h=>(kN K K v6 h).bind fun o=>match o with| .ret r=>some r| .go e=>xL K e
theorem aB3{K:Nat}{a0:aC}{a1:aC}{r:aC}(f:uU K a0 a1=some r):Ct Tryz.prog 131 [.va (aC.e a0),.va (aC.e a1)] (.va (aC.e r)):=by
 unfold uU at f;refine aA Tryz.func131 rfl (by kernel_rfl) Tryz.ntmps131 rfl (fun w0 M0=>?_);refine aE (aI (dP rfl rfl zT (fun b1=>?_)));refine dP rfl rfl zT (fun b2=>?_);refine aM rfl tyZ40 (fun z=>?_);obtain⟨v6,h7,f⟩:=bE f jV;obtain⟨v8,h9,f⟩:=bE f jV;refine go ?_ ?_;refine dr [0,1,3,0,8,31,0,0,255,511] 8 2 ?_ (fun h G4=>?_);refine go ?_ ?_;refine aJ (aY (fun H E=>∃(J:aC),xL K J=some r∧H=[⟨some (h 6),1,40,2,1,(aC.e J)⟩,⟨some z,1,40,2,1,([pB false]++[pS cI ([]:List Int)])⟩]∧E=[(4,.vc (pP (some z) 0)),(5,.vc (pP (some (h 6)) 0))]) ?_ (fun X=>?_))
 ·rintro _ _ ⟨J,f,rfl,rfl⟩;unfold xL at f;exact bU
 obtain⟨I,hL,O⟩:=aR f;refine dU (fun k a w=>∃(u:aC),∃(j:aC),kN K k u j=some I∧hs _ [⟨some (h 6),1,40,2,1,(aC.e u)⟩,⟨some (h 7),1,40,2,1,(aC.e j)⟩,⟨some z,1,40,2,1,([pB false]++[pS cI ([]:List Int)])⟩] [(4,.vc (pP (some z) 0)),(5,.vc (pP (some (h 6)) 0)),(6,.vc (pP (some (h 7)) 0))] a w) K (fun a w ⟨_,_,f,_⟩=>by cases f) (fun k a w ⟨u,j,f,hh⟩=>dW ?_ hh) (fun a w hh=>⟨v6,v8,hL,jG [0,1,2] hh⟩);rw[kN.eq_2]at f;refine go ?_ ?_;refine aD f rfl (fun h17 f=>?_) (fun h17 f=>?_)
 ·refine fB (aH (aJ ?_));obtain⟨v18,h19,f⟩:=bE f xT;obtain⟨v20,h21,f⟩:=bE f xT;refine go ?_ ?_;refine dK f (fun h22 f=>?_) (fun h22 f=>?_)
  ·refine go ?_ ?_;refine aD f rfl (fun h23 f=>?_) (fun h23 f=>?_)
   ·refine aE (aJ (aY (fun H E=>∃(U:Int),uZ K U=some I∧H=[⟨some z,1,40,2,1,([pB false]++[pS cI ([]:List Int)])⟩]∧E=[(4,.vc (pP (some z) 0)),(7,vI U)]) ?_ (fun Y=>?_)))
    ·rintro _ _ ⟨U,f,rfl,rfl⟩;unfold uZ at f;refine go ?_ ?_;refine aG (aEW rfl ⟨_,Tryz.underlying3⟩ Tryz.underlying131) zU1 ?_;obtain⟨v31,h32,f⟩:=bE f lP;exact bU
    obtain⟨x28',hL,V⟩:=aR f;refine dU (fun k a w=>∃(F:Int),∃(G:Int),l5 K k F G=some x28'∧hs _ [⟨some z,1,40,2,1,([pB false]++[pS cI ([]:List Int)])⟩] [(4,.vc (pP (some z) 0)),(7,vI F),(9,vI G)] a w) K (fun a w ⟨_,_,f,_⟩=>by cases f) (fun k a w ⟨F,G,f,hh⟩=>dW ?_ hh) (fun a w hh=>⟨v18.1,v20.1,hL,jG [2] hh⟩);rw[l5.eq_2]at f;refine go ?_ ?_;refine aD f rfl (fun h33 f=>?_) (fun h33 f=>?_)
    ·refine fB (aH (aJ ?_));obtain⟨v36,h37,f⟩:=aR f;refine dr [0,0,0,6,3,31] 6 0 ?_ (fun bs35 G34=>?_);refine aX (aCo ?_);exact aF (fun a w hh=>⟨G,v36,f,jG [0] hh⟩)
    refine bF ?_;obtain rfl:=iO f;exact rU Y ⟨F,V,rfl,rfl⟩ [0]
   obtain⟨x,h39,f⟩:=bE f xO;refine go ?_ ?_;refine aM rfl tyZ40 (fun b40=>?_);refine aM rfl tyZ40 (fun b41=>?_);refine go ?_ ?_;refine tN (HsM [(0,fun q=>[⟨some b41,1,40,2,1,(aC.e x.2)⟩,⟨some b40,1,40,2,1,(aC.e x.1)⟩,⟨some (h 6),1,40,2,1,(aC.e u)⟩,⟨some (h 7),1,40,2,1,(aC.e j)⟩,⟨some z,1,40,2,1,([pB false]++[pS cI ([]:List Int)])⟩]),(1,fun q=>[⟨some b41,1,40,2,1,(aC.e x.2)⟩,⟨some b40,1,40,2,1,(aC.e x.1)⟩,⟨some (h 6),1,40,2,1,(aC.e j)⟩,⟨some (h 7),1,40,2,1,(aC.e j)⟩,⟨some z,1,40,2,1,([pB false]++[pS cI ([]:List Int)])⟩])]) [2] [0,0,1,7] 3 1 [.v (.va (aC.e j)),.v (.va (aC.e x.2)),.g (fun _ _=>.any)] bC ⟨d1 0 (gM 3 2 rfl rfl rfl rfl (.agg tyA40)) zU1,⟨rfl,.run (L:=[0,1]) ⟨fun q A=>gM 0 2 rfl rfl rfl rfl (.agg tyA40),fun q A=>gM 0 2 rfl rfl rfl rfl (.agg tyA40),zT⟩ (fun q=>zU1)⟩,⟨rfl,.hvy [0] ⟨fun q A=>aDc (t_s 2 rfl rfl rfl tyA40.s),zT⟩ (fun q=>zU2)⟩,zT⟩ (fun bs43 q=>?_);refine go ?_ ?_;exact aF (fun a w hh=>⟨j,x.2,f,jG [2,3,4] hh⟩)
  refine go ?_ ?_;refine vN rfl ?_;obtain⟨y,h45,f⟩:=bE f xO;refine go ?_ ?_;refine aM rfl tyZ40 (fun b46=>?_);refine aM rfl tyZ40 (fun b47=>?_);refine go ?_ ?_;refine tN (HsM [(0,fun t=>[⟨some b47,1,40,2,1,(aC.e y.2)⟩,⟨some b46,1,40,2,1,(aC.e y.1)⟩,⟨some (h 6),1,40,2,1,(aC.e u)⟩,⟨some (h 7),1,40,2,1,(aC.e j)⟩,⟨some z,1,40,2,1,([pB false]++[pS cI ([]:List Int)])⟩]),(1,fun t=>[⟨some b47,1,40,2,1,(aC.e y.2)⟩,⟨some b46,1,40,2,1,(aC.e y.1)⟩,⟨some (h 6),1,40,2,1,(aC.e j)⟩,⟨some (h 7),1,40,2,1,(aC.e j)⟩,⟨some z,1,40,2,1,([pB false]++[pS cI ([]:List Int)])⟩])]) [2] [0,0,1,7] 3 1 [.v (.va (aC.e j)),.v (.va (aC.e y.2)),.g (fun _ _=>.any)] bC ⟨d1 0 (gM 3 2 rfl rfl rfl rfl (.agg tyA40)) zU1,⟨rfl,.run (L:=[0,1]) ⟨fun t A=>gM 0 2 rfl rfl rfl rfl (.agg tyA40),fun t A=>gM 0 2 rfl rfl rfl rfl (.agg tyA40),zT⟩ (fun t=>zU1)⟩,⟨rfl,.hvy [0] ⟨fun t A=>aDc (t_s 2 rfl rfl rfl tyA40.s),zT⟩ (fun t=>zU2)⟩,zT⟩ (fun bs49 t=>?_);refine go ?_ ?_;exact aF (fun a w hh=>⟨j,y.2,f,jG [2,3,4] hh⟩)
 refine bF ?_;obtain rfl:=iO f;exact rU X ⟨u,O,rfl,rfl⟩ [0,2]
def nA(K:Nat)(h:aC)(a1:aC)(f:aC)(e:aC):Option (aC×aC):=
 bif(h.neg != a1.neg) then(some ((⟨(decide (0<(e.d.length:Int))),e.d⟩:aC),f)) else(some ((⟨false,e.d⟩:aC),f))
def uT(K:Nat)(e:aC)(a1:aC):Option (aC×aC):=
 bif((a1.d.length:Int)==0) then(some ((⟨false,([]:List Int)⟩:aC),(⟨false,([]:List Int)⟩:aC))) else((oO K e.d a1.d).bind fun v6=>bif e.neg then(bif(decide (0<(v6.2.d.length:Int))) then((rB K v6.1.d [1]).bind fun f=>(fF K false f).bind fun h=>(oC K a1.d v6.2.d).bind fun j=>(fF K false j).bind fun k=>nA K e a1 k h) else(nA K e a1 v6.2 v6.1)) else(nA K e a1 v6.2 v6.1))
theorem aB6{K:Nat}{x:aC}{a1:aC}{r:aC×aC}(h:uT K x a1=some r):Ct Tryz.prog 133 [.va (aC.e x),.va (aC.e a1)] (.t2 (.va (aC.e r.1)) (.va (aC.e r.2))):=by
 unfold uT at h;refine aA Tryz.func133 rfl (by kernel_rfl) Tryz.ntmps133 rfl (fun w0 M0=>?_);refine aE (aI (dP rfl rfl zT (fun y=>?_)));refine dP rfl rfl zT (fun b2=>?_);refine aM rfl tyZ40 (fun z=>?_);refine aM rfl tyZ40 (fun F=>?_);refine go ?_ ?_;refine aD h rfl (fun h5 h=>?_) (fun h5 h=>?_)
 ·refine aE (aI (aG (iV (is:=[]) (xs:=[]) (ps:=[]) rfl tyB40 rfl rfl zT rfl) zT ?_));refine aG (iV (is:=[]) (xs:=[]) (ps:=[]) rfl tyB40 rfl rfl zT rfl) zT ?_;exact bU
 obtain⟨v6,h7,h⟩:=bE h xO;refine go ?_ ?_;refine aM rfl tyZ40 (fun G=>?_);refine aM rfl tyZ40 (fun I=>?_);refine mI (t_s 1 rfl rfl rfl tyA40.s) zU2 ?_;refine mI (t_s 0 rfl rfl rfl tyA40.s) zU2 ?_;refine aX (aH (aE (zK (fun H E=>∃(j:aC),∃(f:aC),nA K x a1 j f=some r∧H=[⟨some I,1,40,2,1,(aC.e j)⟩,⟨some G,1,40,2,1,(aC.e f)⟩,⟨some F,1,40,2,1,([pB false]++[pS cI ([]:List Int)])⟩,⟨some z,1,40,2,1,([pB false]++[pS cI ([]:List Int)])⟩,⟨some b2,1,40,2,1,(aC.e a1)⟩,⟨some y,1,40,2,1,(aC.e x)⟩]∧E=[(2,.vc (pP (some y) 0)),(3,.vc (pP (some b2) 0)),(4,.vc (pP (some z) 0)),(5,.vc (pP (some F) 0)),(6,.vc (pP (some G) 0)),(7,.vc (pP (some I) 0))]) ?_ (fun u=>?_))))
 ·rintro _ _ ⟨j,f,h,rfl,rfl⟩;unfold nA at h;refine go ?_ ?_;refine aG (aCs rfl Tryz.underlying4) zU2 ?_;refine gG ?_;refine dK h (fun J h=>?_) (fun J h=>?_)
  ·refine go ?_ ?_;refine tN (HsM [(0,fun q=>[⟨some I,1,40,2,1,(aC.e j)⟩,⟨some G,1,40,2,1,([pB (decide (0<(f.d.length:Int)))]++[pS cI f.d])⟩,⟨some F,1,40,2,1,([pB false]++[pS cI ([]:List Int)])⟩,⟨some z,1,40,2,1,([pB false]++[pS cI ([]:List Int)])⟩,⟨some b2,1,40,2,1,(aC.e a1)⟩,⟨some y,1,40,2,1,(aC.e x)⟩]),(1,fun q=>[⟨some I,1,40,2,1,(aC.e j)⟩,⟨some G,1,40,2,1,([pB (decide (0<(f.d.length:Int)))]++[pS cI f.d])⟩,⟨some F,1,40,2,1,([pB false]++[pS cI ([]:List Int)])⟩,⟨some z,1,40,2,1,([pB (decide (0<(f.d.length:Int)))]++[pS cI f.d])⟩,⟨some b2,1,40,2,1,(aC.e a1)⟩,⟨some y,1,40,2,1,(aC.e x)⟩])]) [2] [0,0,1,7] 3 1 [.v (.va ([pB (decide (0<(f.d.length:Int)))]++[pS cI f.d])),.v (.va (aC.e j)),.g (fun _ _=>.any)] bC ⟨d1 0 (gM 1 2 rfl rfl rfl rfl (.agg tyA40)) zU1,⟨rfl,.run (L:=[0,1]) ⟨fun q A=>gM 0 2 rfl rfl rfl rfl (.agg tyA40),fun q A=>gM 0 2 rfl rfl rfl rfl (.agg tyA40),zT⟩ (fun q=>zU1)⟩,⟨rfl,.hvy [0] ⟨fun q A=>aDc (t_s 3 rfl rfl rfl tyA40.s),zT⟩ (fun q=>zU2)⟩,zT⟩ (fun bs16 q=>?_);exact bU
  refine go ?_ ?_;refine tN (HsM [(0,fun t=>[⟨some I,1,40,2,1,(aC.e j)⟩,⟨some G,1,40,2,1,([pB false]++[pS cI f.d])⟩,⟨some F,1,40,2,1,([pB false]++[pS cI ([]:List Int)])⟩,⟨some z,1,40,2,1,([pB false]++[pS cI ([]:List Int)])⟩,⟨some b2,1,40,2,1,(aC.e a1)⟩,⟨some y,1,40,2,1,(aC.e x)⟩]),(1,fun t=>[⟨some I,1,40,2,1,(aC.e j)⟩,⟨some G,1,40,2,1,([pB false]++[pS cI f.d])⟩,⟨some F,1,40,2,1,([pB false]++[pS cI ([]:List Int)])⟩,⟨some z,1,40,2,1,([pB false]++[pS cI f.d])⟩,⟨some b2,1,40,2,1,(aC.e a1)⟩,⟨some y,1,40,2,1,(aC.e x)⟩])]) [2] [0,0,1,7] 3 1 [.v (.va ([pB false]++[pS cI f.d])),.v (.va (aC.e j)),.g (fun _ _=>.any)] bC ⟨d1 0 (gM 1 2 rfl rfl rfl rfl (.agg tyA40)) zU1,⟨rfl,.run (L:=[0,1]) ⟨fun t A=>gM 0 2 rfl rfl rfl rfl (.agg tyA40),fun t A=>gM 0 2 rfl rfl rfl rfl (.agg tyA40),zT⟩ (fun t=>zU1)⟩,⟨rfl,.hvy [0] ⟨fun t A=>aDc (t_s 3 rfl rfl rfl tyA40.s),zT⟩ (fun t=>zU2)⟩,zT⟩ (fun bs18 t=>?_);exact bU
 refine go ?_ ?_;refine dK h (fun O h=>?_) (fun O h=>?_)
 ·refine go ?_ ?_;refine aD h rfl (fun U h=>?_) (fun U h=>?_)
  ·refine go ?_ ?_;refine aG (iH (C:=cI) (xs:=[.const (.int .i64 (1))]) (ps:=[vI 1]) (zs:=[1]) rfl tyS22 rfl ⟨⟨zT,rfl⟩,zT⟩ rfl) ⟨rR _ _,zT⟩ ?_;obtain⟨v21,V,h⟩:=bE h aBT;refine aG (bO rfl V rfl) zU2 ?_;obtain⟨X,Y,h⟩:=bE h jV;refine aG (bO rfl Y rfl) ⟨k_B _,rfl,zT⟩ ?_;refine mI (t_s 1 rfl rfl rfl tyA40.s) zU2 ?_;refine aX (aH (aI (aG (iG (off:=0) (k:=1) rfl tyF40_1) zU1 ?_)));refine aG (gM 4 1 rfl rfl rfl rfl (.one tyO22)) zU1 ?_;refine aG (iG (off:=0) (k:=1) rfl tyF40_1) zU1 ?_;refine aG (gM 0 1 rfl rfl rfl rfl (.one tyO22)) zU1 ?_;obtain⟨v25,h26,h⟩:=bE h yN;refine aG (bO rfl h26 rfl) zU2 ?_;obtain⟨v27,h28,h⟩:=bE h jV;refine aG (bO rfl h28 rfl) ⟨k_B _,rfl,zT⟩ ?_;refine mI (t_s 0 rfl rfl rfl tyA40.s) zU2 ?_;refine aX ?_;exact rU u ⟨v27,X,h,rfl,rfl⟩ [0,1,2,3,4,5]
  refine fB ?_;exact rU u ⟨v6.2,v6.1,h,rfl,rfl⟩ [0,1,2,3,4,5]
 refine go ?_ ?_;refine vN rfl ?_;refine fB ?_;exact rU u ⟨v6.2,v6.1,h,rfl,rfl⟩ [0,1,2,3,4,5]
def m8(K:Nat)(e:aC)(a1:aC):Option Int:=
 bif(e.neg != a1.neg) then(bif e.neg then(some (-1)) else(bif(e.neg != a1.neg) then(some 1) else(bif e.neg then((gP K a1.d e.d).bind fun j=>some j) else((gP K e.d a1.d).bind fun k=>some k)))) else(bif(e.neg != a1.neg) then(some 1) else(bif e.neg then((gP K a1.d e.d).bind fun f=>some f) else((gP K e.d a1.d).bind fun h=>some h)))
theorem w4{K:Nat}{k:aC}{a1:aC}{r:Int}(f:m8 K k a1=some r):Ct Tryz.prog 135 [.va (aC.e k),.va (aC.e a1)] (vI r):=by
 unfold m8 at f;refine aA Tryz.func135 rfl (by kernel_rfl) Tryz.ntmps135 rfl (fun w0 M0=>?_);refine aE (aI (dP rfl rfl zT (fun I=>?_)));refine dP rfl rfl zT (fun b2=>?_);refine go ?_ ?_;refine aJ (go ?_ ?_);refine aG (aCs rfl Tryz.underlying4) zU2 ?_;refine gG ?_;refine dK f (fun q f=>?_) (fun q f=>?_)
 ·refine go ?_ ?_;refine aD f rfl (fun s f=>?_) (fun s f=>?_)
  ·exact bU
  refine go ?_ ?_;refine aG (aCs rfl Tryz.underlying4) zU2 ?_;refine go ?_ ?_;refine aD f rfl (fun t f=>?_) (fun t f=>?_)
  ·exact bU
  refine go ?_ ?_;refine aD f rfl (fun u f=>?_) (fun u f=>?_)
  ·obtain⟨J,L,f⟩:=bE f oV;exact bU
  obtain⟨O,x,f⟩:=bE f oV;exact bU
 refine go ?_ ?_;refine vN rfl ?_;refine go ?_ ?_;refine aG (aCs rfl Tryz.underlying4) zU2 ?_;refine go ?_ ?_;refine aD f rfl (fun h f=>?_) (fun h f=>?_)
 ·exact bU
 refine go ?_ ?_;refine aD f rfl (fun j f=>?_) (fun j f=>?_)
 ·obtain⟨y,z,f⟩:=bE f oV;exact bU
 obtain⟨F,G,f⟩:=bE f oV;exact bU
def rY(K:Nat):Option Int:=
 some (-1)
def gL(K:Nat)(f:List Int)(a1:(Int→Option Bool)):Nat→Int→Option (LR Int Unit)
 |0,_=>none
 |k+1,e=>bif(decide (e<(f.length:Int))) then((bR f e).bind fun v6=>(a1 v6).bind fun h=>bif h then(some (.ret e)) else((aV (e+1)).bind fun v11=>gL K f a1 k v11)) else(some (.go ()))
def qN(K:Nat)(e:List Int)(a1:(Int→Option Bool)):Option Int:=
 (gL K e a1 K 0).bind fun o=>match o with| .ret r=>some r| .go _=>rY K
theorem aBe{K:Nat}{f:List Int}{a1:(Int→Option Bool)}{r:Int}(e:qN K f a1=some r):Ct Tryz.prog 173 [.vc (pS cI f),.vc (pFn Tryz.prog (fun x:Int=>[vI x]) (fun r:Bool=>.vc (pB r)) a1)] (vI r):=by
 unfold qN at e;refine aA Tryz.func173 rfl (by kernel_rfl) Tryz.ntmps173 rfl (fun w0 M0=>?_);refine go ?_ ?_;refine aJ (aY (fun H E=>rY K=some r∧H=[]∧E=[]) ?_ (fun j=>?_))
 ·rintro _ _ ⟨e,rfl,rfl⟩;unfold rY at e;exact bU
 obtain⟨q,u,h⟩:=aR e;refine dU (fun k a w=>∃(s:Int),gL K f a1 k s=some q∧hs _ [] [(0,.vc (pS cI f)),(1,.vc (pFn Tryz.prog (fun x:Int=>[vI x]) (fun r:Bool=>.vc (pB r)) a1)),(7,vI (f.length:Int)),(8,vI s)] a w) K (fun a w ⟨_,e,_⟩=>by cases e) (fun k a w ⟨s,e,hh⟩=>dW ?_ hh) (fun a w hh=>⟨0,u,jG [] hh⟩);rw[gL.eq_2]at e;refine go ?_ ?_;refine aD e rfl (fun y e=>?_) (fun y e=>?_)
 ·refine go ?_ ?_;refine aJ ?_;obtain⟨v6,I,z,F,e⟩:=u9 e;refine go ?_ ?_;refine aG (aEv (pre:=fun x:Int=>[vI x]) (post:=fun r:Bool=>.vc (pB r)) (x:=v6) (r:=z) rfl F rfl) zU2 ?_;refine aX (aH (aD e rfl (fun t e=>?_) (fun t e=>?_)))
  ·exact bU
  obtain⟨v11,G,e⟩:=aR e;refine go ?_ ?_;exact aF (fun a w hh=>⟨v11,e,jG [] hh⟩)
 refine bF ?_;obtain rfl:=iO e;exact rU j ⟨h,rfl,rfl⟩ []
def lH(K:Nat)(e:List Int)(a1:(Int→Option Bool)):Option Bool:=
 (qN K e a1).bind fun v1=>some (decide (0≤v1))
theorem aAk{K:Nat}{f:List Int}{a1:(Int→Option Bool)}{r:Bool}(e:lH K f a1=some r):Ct Tryz.prog 163 [.vc (pS cI f),.vc (pFn Tryz.prog (fun x:Int=>[vI x]) (fun r:Bool=>.vc (pB r)) a1)] (.vc (pB r)):=by
 unfold lH at e;refine aA Tryz.func163 rfl (by kernel_rfl) Tryz.ntmps163 rfl (fun w0 M0=>?_);obtain⟨v1,h,e⟩:=bE e aBe;exact bU
def lY(e:Int):Option Bool:=
 bif(decide (e<0)) then(some true) else(some (decide (1000000000≤e)))
theorem aDJ{f:Int}{r:Bool}(e:lY f=some r):Ct Tryz.prog 164 [vI f] (.vc (pB r)):=by
 unfold lY at e;refine aA Tryz.func164 rfl (by kernel_rfl) Tryz.ntmps164 rfl (fun w0 M0=>?_);refine go ?_ ?_;refine dK e (fun h e=>?_) (fun h e=>?_)
 ·exact bU
 exact bU
def qD(K:Nat)(e:aC):Option Bool:=
 (lH K e.d (lY)).bind fun v2=>bif v2 then(some false) else(bif((e.d.length:Int)==0) then(bif(!e.neg) then(some true) else(bif(decide (0<(e.d.length:Int))) then((aV ((e.d.length:Int)-1)).bind fun j=>(bR e.d j).bind fun v10=>some (v10 != 0)) else(some false))) else(bif(decide (0<(e.d.length:Int))) then((aV ((e.d.length:Int)-1)).bind fun f=>(bR e.d f).bind fun h=>some (h != 0)) else(some false)))
theorem aA5{K:Nat}{k:aC}{r:Bool}(f:qD K k=some r):Ct Tryz.prog 137 [.va (aC.e k)] (.vc (pB r)):=by
 unfold qD at f;refine aA Tryz.func137 rfl (by kernel_rfl) Tryz.ntmps137 rfl (fun w0 M0=>?_);refine aE (aI (dP rfl rfl zT (fun L=>?_)));obtain⟨v2,q,f⟩:=bE f aAk;refine go ?_ ?_;refine aG (bO rfl q rfl) ⟨rfl,(aVN (P:=Tryz.prog) (φ:=(lY)) (pre:=fun x:Int=>[vI x]) (post:=fun r:Bool=>.vc (pB r)) (fun x r h=>aDJ h)),zT⟩ ?_;refine aX (aH (aD f rfl (fun s f=>?_) (fun s f=>?_)))
 ·exact bU
 refine go ?_ ?_;refine dK f (fun t f=>?_) (fun t f=>?_)
 ·refine go ?_ ?_;refine dK f (fun u f=>?_) (fun u f=>?_)
  ·exact bU
  refine go ?_ ?_;refine dK f (fun y f=>?_) (fun y f=>?_)
  ·obtain⟨O,U,v10,z,f⟩:=u9 f;exact bU
  exact bU
 refine go ?_ ?_;refine dK f (fun j f=>?_) (fun j f=>?_)
 ·obtain⟨F,G,I,J,f⟩:=u9 f;exact bU
 exact bU
end Go.Proofs.YtolfcbpgmfbgmaaGreat
set_option linter.unusedVariables false
set_option maxRecDepth 100000
namespace Go.Proofs.YtolfcbpgmfbgmaaGreat
theorem xH{n m:Nat}{x:Int}(h:x=n)(e:n≤9000000000000000000):aV x=some (n:Int):=by
 subst h;exact tI ⟨by omega,by omega⟩
theorem aT{k n:Nat}(h:n<k):∃e,k=e+1∧n≤e:=⟨k-1,by omega,by omega⟩
theorem aCc{u:List Int}{i:Nat}{v:Int}(h:Dr u 0 i)(f:i<u.length)(j:0≤v)(k:v<1000000000):Dr (u.set i v) 0 (i+1):=fun t q=>by
 by_cases e:t=i
 ·subst e;rw[Nat.zero_add,eZ f];exact⟨j,k⟩
 ·rw[gD (by omega)];exact h t (by omega)
def mkG(neg:Bool)(n:Nat):aC:=if n=0 then⟨false,[]⟩ else⟨neg,cC n⟩
theorem pV(n:Nat):mkG false n=Z n:=by
 unfold mkG Z;by_cases h:n=0
 ·subst h;simp[aAG]
 ·rw[if_neg h];simp
theorem aM8(n:Nat):mkG true n=Z (-n):=by
 unfold mkG Z;by_cases h:n=0
 ·subst h;simp[aAG]
 ·rw[if_neg h];simp;omega
theorem vV(b:Bool)(n:Nat):mkG b n=Z (if b then -(n:Int) else n):=by
 cases b
 ·simpa using pV n
 ·simpa using aM8 n
theorem aSQ(u:List Int):∀(n:Nat),n≤u.length→n≤9000000000000→∃m:Nat,m≤n∧(∀i,m≤i→i<n→u.getD i 0=0)∧(m=0∨u.getD (m-1) 0≠0)∧∀K k,n<k→oA K u k n=some (m:Int)
 |0,_,_=>⟨0,Nat.le_refl _,fun i _ h=>by omega,.inl rfl,fun K k f=>by
   obtain⟨q,rfl,_⟩:=aT f;simp[oA]⟩
 |n+1,h,J=>by
  have t:aV (((n+1:Nat):Int)-1)=some (n:Int):=xH (m:=0) (by omega) (by omega);have x:decide (0<((n+1:Nat):Int))=true:=decide_eq_true (by omega);have y:=cZ (xs:=u) (i:=n) (by omega);by_cases j:u.getD n 0=0
  ·obtain⟨m,L,z,F,G⟩:=aSQ u n (by omega) (by omega);refine⟨m,by omega,fun i a b=>?_,F,fun K k f=>?_⟩
   ·by_cases e:i=n
    ·subst e;exact j
    ·exact z i a (by omega)
   ·obtain⟨q,rfl,s⟩:=aT f;simp only[oA,t,x,y,j,bL,oB,beq_self_eq_true];exact G K q (by omega)
  ·refine⟨n+1,by omega,fun i a b=>by omega,.inr (by simpa using j),fun K k f=>?_⟩;obtain⟨q,rfl,s⟩:=aT f;have I:(u.getD n 0==0)=false:=by simpa using j
   simp only[oA,t,x,y,I,bL,bG,oB]
theorem aVk{u:List Int}(s:m5 u){m:Nat}(t:m≤u.length)(x:∀i,m≤i→i<u.length→u.getD i 0=0)(y:m=0∨u.getD (m-1) 0≠0):u.take m=cC (vD u).toNat∧(m=0↔vD u=0):=by
 have f:∀i,i<m→(u.take m).getD i 0=u.getD i 0:=fun i e=>by
  simp only[List.getD_eq_getElem?_getD,List.getElem?_take];rw[if_pos e]
 have q:(u.take m).length=m:=by simp;omega
 have hok:m5 (u.take m):=fun i=>by
  rcases Nat.lt_or_ge i m with h|h
  ·rw[f i h];exact s i
  ·rw[wN (by omega)];omega
 have hv:vD (u.take m)=vD u:=by
  unfold vD;rw[q];obtain⟨c,hc⟩:=Nat.exists_eq_add_of_le t;rw[hc,yC,aFS (j:=0+m) (fun i e=>x _ (by omega) (by omega))];rw[aEe (v:=u) (k:=0) (fun i e=>by rw[Nat.zero_add];exact f i e)];simp
 have z:Top (u.take m):=by
  rcases y with h|h
  ·subst h;exact .inl (by simp)
  ·by_cases F:m=0
   ·subst F;exact .inl (by simp)
   ·refine .inr ?_;rw[q,f _ (by omega)];exact h
 have:=aRO hok z;rw[hv]at this;refine⟨this.symm,fun h=>?_,fun h=>?_⟩
 ·subst h;rw[←hv];simp;rfl
 ·rw[h]at this;simp only[Int.toNat_zero,aAG]at this;have:(u.take m).length=0:=by rw[←this];rfl
  omega
theorem zL(neg:Bool){u:List Int}(j:m5 u)(s:u.length≤9000000000000):Ev (fun K=>fF K neg u) (mkG neg (vD u).toNat):=by
 obtain⟨m,k,t,x,y⟩:=aSQ u u.length (Nat.le_refl _) s;obtain⟨z,q⟩:=aVk j k t x;have F:=j.nonneg;refine⟨u.length+1,fun K G=>?_⟩;simp only[fF,y K K (by omega),oB,wU];unfold mkG;by_cases f:m=0
 ·have e:((m:Int)==0)=true:=by simp[f]
  rw[e,bL,if_pos (by have:=q.1 f;omega)]
 ·have e:((m:Int)==0)=false:=by simp[f]
  rw[e,bG,aID k,oB,if_neg (by intro h;exact f (q.2 (by omega))),z]
theorem aCy{out a b:List Int}{i:Nat}{c c' v:Int}(e:i<out.length)(f:W out 0 i+c*PB i=W a 0 i+W b 0 i)(hv:v+1000000000*c'=a.getD i 0+b.getD i 0+c):
  W (out.set i v) 0 (i+1)+c'*PB (i+1)=W a 0 (i+1)+W b 0 (i+1):=by
 rw[eH,eH,eH,Nat.zero_add,eZ e,zO (.inr (by omega))];simp only[PB];grind
theorem aCq{a b:List Int}(G:m5 a)(hb:m5 b)(hab:b.length≤a.length)(L:a.length≤9000000000000):∀(t i:Nat) (out:List Int) (c:Int),i+t=a.length→out.length=a.length+1→Dr out 0 i→0≤c→c≤1→W out 0 i+c*PB i=W a 0 i+W b 0 i→
  ∃out' c',out'.length=a.length+1∧Dr out' 0 a.length∧0≤c'∧c'≤1∧W out' 0 a.length+c'*PB a.length=W a 0 a.length+W b 0 a.length∧∀K k,t<k→dQ K a b k out c (i:Int)=some (out',c')
 |0,i,out,c,hi,y,z,I,J,F=>by
  have:i=a.length:=by omega
  subst this;refine⟨out,c,y,z,I,J,F,fun K k e=>?_⟩;obtain⟨f,rfl,_⟩:=aT e;simp[dQ]
 |t+1,i,out,c,hi,y,z,I,J,F=>by
  have ha':=G i;have hb':=hb i;have O:decide ((i:Int)<(a.length:Int))=true:=decide_eq_true (by omega);have U:=cZ (xs:=a) (i:=i) (by omega);have V:aV ((i:Int)+1)=some ((i+1:Nat):Int):=xH (m:=0) (by omega) (by omega);have X:=cZ (xs:=out) (i:=i) (by omega);have Y:∀v,rW out (i:Int) v=some (out.set i v):=fun v=>uX (by omega)
  have e6:aV (a.getD i 0+c)=some (a.getD i 0+c):=tI (by omega);have e7:aV (a.getD i 0+c+b.getD i 0)=some (a.getD i 0+c+b.getD i 0):=tI (by omega);have e8:aV (a.getD i 0+c+b.getD i 0-1000000000)=some (a.getD i 0+c+b.getD i 0-1000000000):=tI (by omega);have e9:aV (a.getD i 0+c-1000000000)=some (a.getD i 0+c-1000000000):=tI (by omega);by_cases hbl:i<b.length
  ·have f1:decide ((i:Int)<(b.length:Int))=true:=decide_eq_true (by omega);have f2:=cZ (xs:=b) (i:=i) hbl;by_cases hs:1000000000≤a.getD i 0+c+b.getD i 0
   ·obtain⟨o,d,h,j,q,s,u,x⟩:=aCq G hb hab L t (i+1) (out.set i (a.getD i 0+c+b.getD i 0-1000000000)) 1 (by omega) (by simpa using y) (aCc z (by omega) (by omega) (by omega)) (by omega) (by omega) (aCy (by omega) F (by omega));refine⟨o,d,h,j,q,s,u,fun K k e=>?_⟩;obtain⟨f,rfl,_⟩:=aT e;simp only[dQ,O,U,V,X,Y,e6,e7,e8,f1,f2,decide_eq_true hs,bL,oB];exact x K f (by omega)
   ·obtain⟨o,d,h,j,q,s,u,x⟩:=aCq G hb hab L t (i+1) (out.set i (a.getD i 0+c+b.getD i 0)) 0 (by omega) (by simpa using y) (aCc z (by omega) (by omega) (by omega)) (by omega) (by omega) (aCy (by omega) F (by omega));refine⟨o,d,h,j,q,s,u,fun K k e=>?_⟩;obtain⟨f,rfl,_⟩:=aT e;simp only[dQ,O,U,V,X,Y,e6,e7,f1,f2,decide_eq_false hs,bL,bG,oB];exact x K f (by omega)
  ·have f1:decide ((i:Int)<(b.length:Int))=false:=decide_eq_false (by omega);have f2:b.getD i 0=0:=wN (by omega);by_cases hs:1000000000≤a.getD i 0+c
   ·obtain⟨o,d,h,j,q,s,u,x⟩:=aCq G hb hab L t (i+1) (out.set i (a.getD i 0+c-1000000000)) 1 (by omega) (by simpa using y) (aCc z (by omega) (by omega) (by omega)) (by omega) (by omega) (aCy (by omega) F (by omega));refine⟨o,d,h,j,q,s,u,fun K k e=>?_⟩;obtain⟨f,rfl,_⟩:=aT e;simp only[dQ,O,U,V,X,Y,e6,e9,f1,decide_eq_true hs,bL,bG,oB];exact x K f (by omega)
   ·obtain⟨o,d,h,j,q,s,u,x⟩:=aCq G hb hab L t (i+1) (out.set i (a.getD i 0+c)) 0 (by omega) (by simpa using y) (aCc z (by omega) (by omega) (by omega)) (by omega) (by omega) (aCy (by omega) F (by omega));refine⟨o,d,h,j,q,s,u,fun K k e=>?_⟩;obtain⟨f,rfl,_⟩:=aT e;simp only[dQ,O,U,V,X,Y,e6,f1,decide_eq_false hs,bL,bG,oB];exact x K f (by omega)
theorem aIh(n j m:Nat):Dr (List.replicate n 0) j m:=fun i _=>by
 simp only[List.getD_eq_getElem?_getD,List.getElem?_replicate];split<;>simp
theorem aL0{a b:List Int}(h:m5 a)(hb:m5 b)(hab:b.length≤a.length)(u:a.length≤60000000000):∃r,m5 r∧r.length=a.length+1∧vD r=vD a+vD b∧Ev (fun K=>p8 K a b) r:=by
 obtain⟨o,c,f,j,x,y,k,q⟩:=aCq h hb hab (by omega) a.length 0 (List.replicate (a.length+1) 0) 0 (by omega) (by simp) (aIh _ _ _) (by omega) (by omega) (by simp[W]);have s:aV ((a.length:Int)+1)=some ((a.length+1:Nat):Int):=xH (m:=0) (by omega) (by omega);have t:mkL ((a.length+1:Nat):Int) (0:Int)=some (List.replicate (a.length+1) 0):=aBz (by omega);refine⟨o.set a.length c,Dr.ok ?_,by simpa using f,?_,⟨a.length+1,fun K z=>?_⟩⟩
 ·rw[show(o.set a.length c).length=a.length+1 by simpa using f];exact aCc j (by omega) (by omega) (by omega)
 ·unfold vD;rw[show(o.set a.length c).length=a.length+1 by simpa using f,eH,Nat.zero_add,eZ (by omega),zO (.inr (by omega)),k,aBI hab]
 ·have e:=q K K (by omega);simp only[Int.natCast_zero]at e;simp only[p8,s,t,oB,e,t9,cZ (xs:=o) (i:=a.length) (by omega),uX (xs:=o) (i:=a.length) (v:=c) (by omega)]
theorem aJq{a b:List Int}(j:m5 a)(hb:m5 b)(k:a.length≤60000000000)(hM:b.length≤60000000000):∃r,m5 r∧r.length≤max a.length b.length+1∧vD r=vD a+vD b∧Ev (fun K=>rB K a b) r:=by
 by_cases h:a.length<b.length
 ·obtain⟨r,e,q,s,f⟩:=aL0 hb j (by omega) hM;refine⟨r,e,by omega,by omega,f.congr fun K=>?_⟩;simp only[rB,show decide ((a.length:Int)<(b.length:Int))=true from decide_eq_true (by omega),bL]
 ·obtain⟨r,e,q,s,f⟩:=aL0 j hb (by omega) k;refine⟨r,e,by omega,by omega,f.congr fun K=>?_⟩;simp only[rB,show decide ((a.length:Int)<(b.length:Int))=false from decide_eq_false (by omega),bG]
theorem dT{p:Prop}[Decidable p](h:p):decide p=true:=decide_eq_true h
theorem dF{p:Prop}[Decidable p](h:¬p):decide p=false:=decide_eq_false h
theorem nT{x y:Int}(h:x≠y):(x != y)=true:=bne_iff_ne.2 h
theorem nF{x y:Int}(h:x=y):(x != y)=false:=by subst h;exact bne_self_eq_false x
theorem qT{x y:Int}(h:x=y):(x==y)=true:=beq_iff_eq.2 h
theorem qF{x y:Int}(h:x≠y):(x==y)=false:=beq_false_of_ne h
theorem aOM{u:List Int}{k n:Nat}{v:Int}(h:k<n)(e:k<u.length):W (u.set k v) 0 n=W u 0 n+(v-u.getD k 0)*PB k:=by
 obtain⟨c,rfl⟩:=Nat.exists_eq_add_of_le h;rw[yC,yC,eH,eH,Nat.zero_add,eZ e,zO (.inr (by omega)),zO (.inl (by omega))];grind
theorem aR8{n:Nat}{a:List Int}(h:n=a.length):cpL (List.replicate n 0) a=a:=by
 subst h;simp[cpL]
theorem aE3{a b x1:List Int}(I:m5 a)(hb:m5 b)(hbl:b.length≤a.length)(hv:vD b≤vD a)(X:a.length≤9000000000000)(L:(cpL x1 a).length=a.length):∀(t i:Nat) (out:List Int),i+t=a.length→out.length=a.length→Dr out 0 i→
  (∀s,i<s→out.getD s 0=a.getD s 0)→a.getD i 0-1≤out.getD i 0→out.getD i 0≤a.getD i 0→W out 0 a.length+W b 0 i=vD a→
  ∃r,r.length=a.length∧m5 r∧vD r=vD a-vD b∧∀K k,t<k→fA K a b x1 k out (i:Int)=some r
 |0,i,out,hi,G,O,hs,h1,h2,Y=>by
  have:i=a.length:=by omega
  subst this;refine⟨out,G,Dr.ok (by rwa [G]),?_,fun K k j=>?_⟩
  ·unfold vD;rw[G];rw[aBI hbl]at Y;have U:vD b=W b 0 b.length:=rfl;have V:vD a=W a 0 a.length:=rfl;omega
  ·obtain⟨J,rfl,_⟩:=aT j;simp[fA,L]
 |t+1,i,out,hi,G,O,hs,h1,h2,Y=>by
  have ha':=I i;have hb':=hb i;have U:decide ((i:Int)<((cpL x1 a).length:Int))=true:=dT (by omega);have e3:aV ((i:Int)+1)=some ((i+1:Nat):Int):=xH (m:=0) (by omega) (by omega);have key:∀o:List Int,o.length=a.length→Dr o 0 i→(∀s,i<s→o.getD s 0=a.getD s 0)→o.getD i 0=out.getD i 0-b.getD i 0→W o 0 a.length+W b 0 (i+1)=vD a→
    ∃r,r.length=a.length∧m5 r∧vD r=vD a-vD b∧∀K k,t≤k→t<k→lS K (i:Int) (fA K a b x1 k) o=some r:=by
   intro o hlo q hso hoi u;have V:=cZ (xs:=o) (i:=i) (by omega);by_cases hneg:o.getD i 0<0
   ·have e4:aV (o.getD i 0+1000000000)=some (o.getD i 0+1000000000):=tI (by omega);have hlt:i+1<a.length:=by
     rcases Nat.lt_or_ge (i+1) a.length with h|h
     ·exact h
     ·exfalso;have hia:a.length=i+1:=by omega
      have w1:=(aBQ q).2;rw[hia]at u;rw[eH,Nat.zero_add]at u;have w2:vD b=W b 0 (i+1):=by rw[aBI (n:=i+1) (by omega)]
      have hp:=tW i;have:o.getD i 0*PB i≤(-1)*PB i:=Int.mul_le_mul_of_nonneg_right (by omega) (by omega);have hbn:=hb.nonneg;omega
    have e5:rW o (i:Int) (o.getD i 0+1000000000)=some (o.set i (o.getD i 0+1000000000)):=uX (by omega);have e6:bR (o.set i (o.getD i 0+1000000000)) ((i+1:Nat):Int)=some (a.getD (i+1) 0):=by
     rw[cZ (by simp;omega),gD (by omega),hso _ (by omega)]
    have ha2:=I (i+1);have e7:aV (a.getD (i+1) 0-1)=some (a.getD (i+1) 0-1):=tI (by omega);have e8:rW (o.set i (o.getD i 0+1000000000)) ((i+1:Nat):Int) (a.getD (i+1) 0-1)=some ((o.set i (o.getD i 0+1000000000)).set (i+1) (a.getD (i+1) 0-1)):=uX (by simp;omega);obtain⟨r,g1,x,y,z⟩:=aE3 I hb hbl hv X L t (i+1) ((o.set i (o.getD i 0+1000000000)).set (i+1) (a.getD (i+1) 0-1)) (by omega) (by simpa using hlo)
     (fun s f=>by
      rw[gD (by omega)];exact aCc q (by omega) (by omega) (by omega) s f)
     (fun s f=>by rw[gD (by omega),gD (by omega),hso s (by omega)])
     (by rw[eZ (by simp;omega)];omega) (by rw[eZ (by simp;omega)];omega)
     (by
      rw[aOM (k:=i+1) (by omega) (by simp;omega),aOM (k:=i) (by omega) (by omega),gD (by omega),hso (i+1) (by omega)];simp only[PB]at *;have:o.getD i 0+1000000000-o.getD i 0=1000000000:=by omega
      rw[this];have:a.getD (i+1) 0-1-a.getD (i+1) 0=-1:=by omega
      rw[this];omega)
    refine⟨r,g1,x,y,fun K k j F=>?_⟩;simp only[lS,V,e3,e4,e5,e6,e7,e8,dT hneg,bL,oB];exact z K k F
   ·obtain⟨r,g1,x,y,z⟩:=aE3 I hb hbl hv X L t (i+1) o (by omega) hlo (fun s f=>by
      by_cases e:s=i
      ·subst e;rw[Nat.zero_add];omega
      ·exact q s (by omega)) (fun s f=>hso s (by omega)) (by rw[hso _ (by omega)];omega) (by rw[hso _ (by omega)];omega) u
    refine⟨r,g1,x,y,fun K k j F=>?_⟩;simp only[lS,V,e3,dF hneg,bG,oB];exact z K k F
  by_cases hib:i<b.length
  ·have f1:decide ((i:Int)<(b.length:Int))=true:=dT (by omega);have f2:=cZ (xs:=b) (i:=i) hib;have f3:=cZ (xs:=out) (i:=i) (by omega);have f4:aV (out.getD i 0-b.getD i 0)=some (out.getD i 0-b.getD i 0):=tI (by omega);have f5:rW out (i:Int) (out.getD i 0-b.getD i 0)=some (out.set i (out.getD i 0-b.getD i 0)):=uX (by omega);obtain⟨r,g1,x,y,z⟩:=key (out.set i (out.getD i 0-b.getD i 0)) (by simpa using G) (fun s f=>by rw[gD (by omega)];exact O s f) (fun s f=>by rw[gD (by omega)];exact hs s f) (eZ (by omega)) (by
    rw[aOM (by omega) (by omega),eH,Nat.zero_add];have:(out.getD i 0-b.getD i 0-out.getD i 0)=- b.getD i 0:=by omega
    rw[this,Int.neg_mul];omega)
   refine⟨r,g1,x,y,fun K k j=>?_⟩;obtain⟨J,rfl,_⟩:=aT j;simp only[fA,U,f1,f2,f3,f4,f5,bL,oB];exact z K J (by omega) (by omega)
  ·have f1:decide ((i:Int)<(b.length:Int))=false:=dF (by omega);have f2:b.getD i 0=0:=wN (by omega);obtain⟨r,g1,x,y,z⟩:=key out G O hs (by omega) (by rw[eH,Nat.zero_add,f2];omega);refine⟨r,g1,x,y,fun K k j=>?_⟩;obtain⟨J,rfl,_⟩:=aT j;simp only[fA,U,f1,bL,bG];exact z K J (by omega) (by omega)
theorem aEZ{a b:List Int}(f:m5 a)(hb:m5 b)(hbl:b.length≤a.length)(hv:vD b≤vD a)(u:a.length≤60000000000):
  ∃r,r.length=a.length∧m5 r∧vD r=vD a-vD b∧Ev (fun K=>oC K a b) r:=by
 have j:mkL (a.length:Int) (0:Int)=some (List.replicate a.length 0):=aBz (by omega);have e:cpL (List.replicate a.length 0) a=a:=aR8 rfl;obtain⟨r,g1,k,q,t⟩:=aE3 (x1:=List.replicate a.length 0) f hb hbl hv (by omega) (by rw[e]) a.length 0 a (by omega) rfl (fun s h=>by omega) (fun s h=>rfl) (by omega) (by omega) (by simp[W]);refine⟨r,g1,k,q,⟨a.length+1,fun K x=>?_⟩⟩;have h:=t K K (by omega);simp only[Int.natCast_zero]at h;simp only[oC,j,e,oB,h,tL]
theorem aIi(x y:Int):jJ x y=some (if x<y then -1 else if y<x then 1 else 0):=by
 unfold jJ oK;have f:(x != x)=false:=by simp
 have j:(y != y)=false:=by simp
 simp only[f,j,oB,bG];by_cases h:x<y
 ·rw[dT h,bL,if_pos h]
 ·rw[dF h,bG,if_neg h];by_cases e:y<x
  ·rw[dT e,bL,if_pos e]
  ·rw[dF e,bG,if_neg e]
theorem aMe{u v:List Int}{n:Nat}(hu:m5 u)(hv:m5 v)(h:u.getD n 0<v.getD n 0):W u 0 (n+1)<W v 0 (n+1):=by
 rw[eH,eH,Nat.zero_add];have e:=(aBQ (hu.dr 0 n)).2;have f:=(aBQ (hv.dr 0 n)).1;have hp:=tW n;have:(u.getD n 0+1)*PB n≤v.getD n 0*PB n:=Int.mul_le_mul_of_nonneg_right (by omega) (by omega);rw[Int.add_mul]at this;omega
def aAf(x y:Int):Int:=if x<y then -1 else if y<x then 1 else 0
theorem aGn{u v:List Int}(hu:m5 u)(hv:m5 v)(y:u.length=v.length)(z:u.length≤9000000000000):∀(j:Nat),j≤u.length→∀K k,j<k→
  gS K u v k ((j:Int)-1)=some (if W u 0 j<W v 0 j then .ret (-1) else if W v 0 j<W u 0 j then .ret 1 else .go ())
 |0,_,K,k,f=>by
  obtain⟨x,rfl,_⟩:=aT f;simp[gS,W]
 |j+1,L,K,k,f=>by
  obtain⟨x,rfl,F⟩:=aT f;have G:((j+1:Nat):Int)-1=(j:Int):=by omega
  have q:decide (0≤(j:Int))=true:=dT (by omega);have s:=cZ (xs:=u) (i:=j) (by omega);have t:=cZ (xs:=v) (i:=j) (by omega);rw[G];rcases Int.lt_trichotomy (u.getD j 0) (v.getD j 0) with h|h|h
  ·have:=aMe hu hv h;have e:(u.getD j 0 != v.getD j 0)=true:=nT (by omega);simp only[gS,q,s,t,e,bL,oB,aIi];rw[if_pos h,if_pos this]
  ·have e:(u.getD j 0 != v.getD j 0)=false:=nF h;have I:aV ((j:Int)-1)=some ((j:Int)-1):=tI (by omega);have ih:=aGn hu hv y z j (by omega) K x (by omega);have c1:(W u 0 (j+1)<W v 0 (j+1))↔(W u 0 j<W v 0 j):=by rw[eH,eH,Nat.zero_add,h];omega
   have J:(W v 0 (j+1)<W u 0 (j+1))↔(W v 0 j<W u 0 j):=by rw[eH,eH,Nat.zero_add,h];omega
   simp only[gS,q,s,t,e,I,bL,bG,oB,c1,J];exact ih
  ·have:=aMe hv hu h;have e:(u.getD j 0 != v.getD j 0)=true:=nT (by omega);simp only[gS,q,s,t,e,bL,oB,aIi];rw[if_neg (by omega),if_pos h,if_neg (by omega),if_pos this]
theorem aIl{u v:List Int}(hu:m5 u)(hv:m5 v)(tv:Top v)(h:u.length<v.length):vD u<vD v:=by
 have f:=hu.lt;have j:=tv.pos hv (by intro e;subst e;simp at h);have k:=aD5 (a:=u.length) (b:=v.length-1) (by omega);omega
theorem aAK{u v:List Int}(hu:m5 u)(hv:m5 v)(tu:Top u)(tv:Top v)(k:u.length≤9000000000000):Ev (fun K=>gP K u v) (aAf (vD u) (vD v)):=by
 refine⟨u.length+1,fun K t=>?_⟩;by_cases h:u.length=v.length
 ·have j:((u.length:Int) != (v.length:Int))=false:=nF (by omega);have q:aV ((u.length:Int)-1)=some ((u.length:Int)-1):=tI (by omega);have s:=aGn hu hv h k u.length (Nat.le_refl _) K K (by omega);simp only[gP,j,q,s,bG,oB];unfold aAf vD;rw[←h];by_cases e:W u 0 u.length<W v 0 u.length
  ·rw[if_pos e,if_pos e]
  ·rw[if_neg e,if_neg e];by_cases f:W v 0 u.length<W u 0 u.length
   ·rw[if_pos f,if_pos f]
   ·rw[if_neg f,if_neg f];rfl
 ·have j:((u.length:Int) != (v.length:Int))=true:=nT (by omega);simp only[gP,j,bL,oB,aIi];unfold aAf;rcases Nat.lt_or_ge u.length v.length with e|e
  ·have:=aIl hu hv tv e;rw[if_pos (by omega),if_pos this]
  ·have:=aIl hv hu tu (by omega);rw[if_neg (by omega),if_pos (by omega),if_neg (by omega),if_pos this]
theorem aGB{x y:Int}(f:0≤x)(h:x<1000000000)(e:0≤y)(j:y<1000000000):0≤x*y∧x*y≤999999998000000001:=by
 refine⟨Int.mul_nonneg f e,?_⟩;have:x*y≤999999999*999999999:=Int.mul_le_mul (by omega) (by omega) e (by omega);omega
theorem W1(u:List Int)(j:Nat):W u j 1=u.getD j 0:=by simp[W,PB]
theorem W2(u:List Int)(j:Nat):W u j 2=u.getD j 0+u.getD (j+1) 0*1000000000:=by simp[W,PB]
theorem vD0:vD []=0:=rfl
theorem vD1(a:Int):vD [a]=a:=by show W _ 0 1=a;rw[W1];rfl
theorem vD2(a b:Int):vD [a,b]=a+b*1000000000:=by show W _ 0 2=_;rw[W2];rfl
theorem aCC{u:List Int}(hu:m5 u):qU u=some (if u.length≤2 then(vD u,true) else(0,false)):=by
 unfold qU;have h:=hu 0;have j:=hu 1
 match u,hu with
 |[],_=>simp[vD0]
 |[a],_=>
  have e:=cZ (xs:=[a]) (i:=0) (by simp);simp only[Int.natCast_zero]at e;simp[e,vD1]
 |[a,b],_=>
  simp at h j;have e:=cZ (xs:=[a,b]) (i:=0) (by simp);have f:=cZ (xs:=[a,b]) (i:=1) (by simp);simp only[Int.natCast_zero,Int.natCast_one]at e f;have f1:aV (b*1000000000)=some (b*1000000000):=tI (by omega);have f2:aV (b*1000000000+a)=some (b*1000000000+a):=tI (by omega);simp[e,f,vD2,f1,f2];omega
 |a::b::c::t,_=>
  have k:(((a::b::c::t).length:Int)==0)=false:=qF (by simp;omega);have q:(((a::b::c::t).length:Int)==1)=false:=qF (by simp;omega);have s:(((a::b::c::t).length:Int)==2)=false:=qF (by simp;omega);simp only[k,q,s,bG];rw[if_neg (by simp)]
theorem aTE{x:Int}(e:0≤x)(f:x≤18446744073709551615):wu x=x:=IntWalk.u64_in x ⟨e,f⟩
theorem aTr{x y:Int}(e:0≤x)(f:0<y)(h:x≤18446744073709551615):uq x y=some (x/y):=by
 unfold uq;rw[if_neg (by omega),Int.tdiv_eq_ediv_of_nonneg e];have a:=Int.ediv_nonneg e (Int.le_of_lt f);have b:=Int.ediv_le_self y e;rw[aTE a (by omega)]
theorem aMU{n:Nat}(e:n≠0)(h:n<1000000000):cC n=[(n:Int)]:=by
 rw[xV e,show n/1000000000=0 by omega,aAG,show n%1000000000=n by omega]
theorem uA(neg:Bool){n:Nat}(h:n≤18446744073709551615):fS neg (n:Int)=some (mkG neg n):=by
 unfold fS mkG;have i64:∀x:Int,0≤x→x≤9223372036854775807→IntKind.i64.wrap x=x:=fun x a b=>IntWalk.i64_in x ⟨by omega,b⟩
 by_cases e:n=0
 ·subst e;simp
 ·have k:((n:Int)==0)=false:=qF (by omega);rw[k,bG,if_neg e];by_cases q:n<1000000000
  ·rw[dT (by omega),bL,aMU e q,i64 _ (by omega) (by omega)]
  ·rw[dF (by omega),bG,xV e];have f:uq (n:Int) 1000000000=some ((n:Int)/1000000000):=aTr (by omega) (by omega) (by omega);have j:chr (n:Int) 1000000000=some ((n:Int)%1000000000):=vM (by omega) (by omega);by_cases u:n<1000000000000000000
   ·rw[dT (by omega),bL];simp only[f,j,oB];rw[aMU (n:=n/1000000000) (by omega) (by omega),i64 _ (by omega) (by omega),i64 _ (by omega) (by omega)];simp
   ·rw[dF (by omega),bG];have s:uq ((n:Int)/1000000000) 1000000000=some ((n:Int)/1000000000/1000000000):=aTr (by omega) (by omega) (by omega);have t:chr ((n:Int)/1000000000) 1000000000=some ((n:Int)/1000000000%1000000000):=vM (by omega) (by omega);simp only[f,j,s,t,oB];rw[xV (n:=n/1000000000) (by omega),aMU (n:=n/1000000000/1000000000) (by omega) (by omega),i64 _ (by omega) (by omega),i64 _ (by omega) (by omega),i64 _ (by omega) (by omega)];simp
theorem aG4{n:Int}(h:-9223372036854775808≤n∧n≤9223372036854775807):nK n=some (Z n):=by
 unfold nK;by_cases f:n<0
 ·rw[dT f,bL];have e:wu (-(IntKind.u64.wrap n))=((-n).toNat:Int):=by
   show IntKind.u64.wrap (-(IntKind.u64.wrap n))=_;simp only[IntKind.wrap,IntKind.bits,IntKind.signed];simp;omega
  rw[e,uA _ (by omega),oB,aM8];congr 2;omega
 ·rw[dF f,bG];have e:IntKind.u64.wrap n=((n.toNat:Nat):Int):=by rw[IntWalk.u64_in n (by omega)];omega
  rw[e,uA _ (by omega),oB,pV];congr 2;omega
theorem Z_d(x:Int):(Z x).d=cC x.natAbs:=rfl
theorem xA(x:Int):(Z x).neg=decide (x<0):=rfl
theorem t5(x:Int):(Z x).d.length=dl x.natAbs:=rfl
theorem aPY(x:Int):vC (Z x)=some x.sign:=by
 unfold vC;rw[xA,t5];by_cases h:x<0
 ·rw[dT h,bL,Int.sign_eq_neg_one_of_neg h]
 ·rw[dF h,bG];by_cases f:x=0
  ·subst f;rw[show Int.natAbs 0=0 from rfl,yZ];rfl
  ·have:dl x.natAbs≠0:=by rw[Ne,xM];omega
   have e:((dl x.natAbs:Int)==0)=false:=qF (by omega);rw[e,bG,Int.sign_eq_one_of_pos (by omega)]
theorem aMC(x:Int):tG (Z x)=some (Z (-x)):=by
 unfold tG;rw[xA,t5,Z_d];unfold Z;rw[Int.natAbs_neg];by_cases h:x<0
 ·have:dl x.natAbs≠0:=by rw[Ne,xM];omega
  rw[dT h,dF (p:=-x<0) (by omega)];rfl
 ·rw[dF h];simp only[Bool.not_false,bL];congr 2;by_cases e:x=0
  ·subst e;rw[show Int.natAbs 0=0 from rfl,yZ];rfl
  ·have:dl x.natAbs≠0:=by rw[Ne,xM];omega
   rw[dT (by omega),dT (by omega)]
theorem aMP{x y:Int}(z:dl x.natAbs≤50000000000)(F:dl y.natAbs≤50000000000):Ev (fun K=>o9 K (Z x) (Z y)) (Z (x+y)):=by
 have dx:=cG x.natAbs;have dy:=cG y.natAbs;have vx:=fC x.natAbs;have vy:=fC y.natAbs;have tx:=rG x.natAbs;have ty:=rG y.natAbs;have lx:(cC x.natAbs).length≤50000000000:=z;have ly:(cC y.natAbs).length≤50000000000:=F;unfold o9;simp only[Z_d,xA];by_cases hs:(decide (x<0)==decide (y<0))=true
 ·simp only[hs,bL];obtain⟨r,k,j,u,e⟩:=aJq dx dy (by omega) (by omega);have f:=zL (decide (x<0)) k (by omega);refine Ev.bind e (Ev.bind f ?_);rw[vV];have q:(x<0)↔(y<0):=by simpa using hs
  have:(if decide (x<0)=true then -(((vD r).toNat:Nat):Int) else(((vD r).toNat:Nat):Int))=x+y:=by
   by_cases h:x<0
   ·rw[if_pos (by simpa using h)];omega
   ·rw[if_neg (by simpa using h)];omega
  rw[this];exact Ev.pure _
 ·simp only[Bool.not_eq_true]at hs;simp only[hs,bG];have q:¬((x<0)↔(y<0)):=by simpa using hs
  refine Ev.bind (aAK dx dy tx ty (by omega)) ?_;rw[vx,vy];unfold aAf;by_cases hlt:x.natAbs<y.natAbs
  ·have hle:(cC x.natAbs).length≤(cC y.natAbs).length:=tB (by omega);obtain⟨r,k,j,u,e⟩:=aEZ dy dx hle (by omega) (by omega);have f:=zL (decide (y<0)) j (by omega);rw[if_pos (by omega)];refine Ev.congr (g:=fun K=>(oC K (cC y.natAbs) (cC x.natAbs)).bind fun s=>(fF K (decide (y<0)) s).bind fun t=>some t) ?_ (fun K=>rfl);refine Ev.bind e (Ev.bind f ?_);rw[vV];have:(if decide (y<0)=true then -(((vD r).toNat:Nat):Int) else(((vD r).toNat:Nat):Int))=x+y:=by
    by_cases h:y<0
    ·rw[if_pos (by simpa using h)];omega
    ·rw[if_neg (by simpa using h)];omega
   rw[this];exact Ev.pure _
  ·have hle:(cC y.natAbs).length≤(cC x.natAbs).length:=tB (by omega);obtain⟨r,k,j,u,e⟩:=aEZ dx dy hle (by omega) (by omega);have f:=zL (decide (x<0)) j (by omega);have hc:decide ((if(x.natAbs:Int)<y.natAbs then(-1:Int) else if(y.natAbs:Int)<x.natAbs then 1 else 0)<0)=false:=by
    rw[if_neg (by omega)];split<;>rfl
   simp only[hc,bG];refine Ev.bind e (Ev.bind f ?_);rw[vV];have:(if decide (x<0)=true then -(((vD r).toNat:Nat):Int) else(((vD r).toNat:Nat):Int))=x+y:=by
    by_cases h:x<0
    ·rw[if_pos (by simpa using h)];omega
    ·rw[if_neg (by simpa using h)];omega
   rw[this];exact Ev.pure _
theorem aPf{v:Int}(h:0≤v):0≤v/1000000000∧0≤v%1000000000∧v%1000000000<1000000000∧v%1000000000+1000000000*(v/1000000000)=v:=by omega
theorem aJY{out a:List Int}{i:Nat}{c c' k v:Int}(e:i<out.length)(f:W out 0 i+c*PB i=k*W a 0 i)(hv:v+1000000000*c'=a.getD i 0*k+c):
  W (out.set i v) 0 (i+1)+c'*PB (i+1)=k*W a 0 (i+1):=by
 rw[eH,eH,Nat.zero_add,eZ e,zO (.inr (by omega))];simp only[PB];grind
theorem aF4{a:List Int}{f:Int}(F:m5 a)(e:0≤f)(h:f<1000000000)(I:a.length≤9000000000000):∀(t i:Nat) (out:List Int) (c:Int),i+t=a.length→out.length=a.length+1→Dr out 0 i→0≤c→c<1000000000→W out 0 i+c*PB i=f*W a 0 i→
  ∃out' c',out'.length=a.length+1∧Dr out' 0 a.length∧0≤c'∧c'<1000000000∧W out' 0 a.length+c'*PB a.length=f*vD a∧∀K k,t<k→kU K a f k out c (i:Int)=some (out',c')
 |0,i,out,c,J,u,x,j,q,y=>by
  have:i=a.length:=by omega
  subst this;refine⟨out,c,u,x,j,q,y,fun K k z=>?_⟩;obtain⟨G,rfl,_⟩:=aT z;simp[kU]
 |t+1,i,out,c,J,u,x,j,q,y=>by
  have s:=F i;have hm:=aGB s.1 s.2 e h;obtain⟨d1,d2,d3,d4⟩:=aPf (v:=a.getD i 0*f+c) (by omega);have L:decide ((i:Int)<(a.length:Int))=true:=dT (by omega);have O:=cZ (xs:=a) (i:=i) (by omega);have U:aV ((i:Int)+1)=some ((i+1:Nat):Int):=xH (m:=0) (by omega) (by omega);have V:=cZ (xs:=out) (i:=i) (by omega);have X:∀v,rW out (i:Int) v=some (out.set i v):=fun v=>uX (by omega)
  have Y:aV (a.getD i 0*f)=some (a.getD i 0*f):=tI (by omega);have e7:aV (a.getD i 0*f+c)=some (a.getD i 0*f+c):=tI (by omega);have e8:chr (a.getD i 0*f+c) 1000000000=some ((a.getD i 0*f+c)%1000000000):=vM (by omega) (by omega);have e9:chq (a.getD i 0*f+c) 1000000000=some ((a.getD i 0*f+c)/1000000000):=xN (by omega) (by omega) (by omega);obtain⟨o,d,h1,h2,h3,h4,h5,h6⟩:=aF4 F e h I t (i+1) (out.set i ((a.getD i 0*f+c)%1000000000)) ((a.getD i 0*f+c)/1000000000) (by omega) (by simpa using u) (aCc x (by omega) (by omega) (by omega)) (by omega) (by omega) (aJY (by omega) y (by omega));refine⟨o,d,h1,h2,h3,h4,h5,fun K k z=>?_⟩;obtain⟨G,rfl,_⟩:=aT z;simp only[kU,L,O,U,V,X,Y,e7,e8,e9,bL,oB];exact h6 K G (by omega)
theorem aGI{a:List Int}{f:Int}(s:m5 a)(h:0≤f)(j:f<1000000000)(z:a.length≤60000000000):∃r,r.length=a.length+1∧m5 r∧vD r=f*vD a∧Ev (fun K=>oT K a f) r:=by
 obtain⟨o,c,k,t,F,G,q,u⟩:=aF4 s h j (by omega) a.length 0 (List.replicate (a.length+1) 0) 0 (by omega) (by simp) (aIh _ _ _) (by omega) (by omega) (by simp[W]);have x:aV ((a.length:Int)+1)=some ((a.length+1:Nat):Int):=xH (m:=0) (by omega) (by omega);have y:mkL ((a.length+1:Nat):Int) (0:Int)=some (List.replicate (a.length+1) 0):=aBz (by omega);refine⟨o.set a.length c,by simpa using k,Dr.ok ?_,?_,⟨a.length+1,fun K I=>?_⟩⟩
 ·rw[show(o.set a.length c).length=a.length+1 by simpa using k];exact aCc t (by omega) (by omega) (by omega)
 ·unfold vD at q ⊢;rw[show(o.set a.length c).length=a.length+1 by simpa using k,eH,Nat.zero_add,eZ (by omega),zO (.inr (by omega)),q]
 ·have e:=u K K (by omega);simp only[Int.natCast_zero]at e;simp only[oT,x,y,oB,e,sU,cZ (xs:=o) (i:=a.length) (by omega),uX (xs:=o) (i:=a.length) (v:=c) (by omega)]
theorem aDm(u:List Int)(j n:Nat):W u j (n+1)=u.getD j 0+1000000000*W u (j+1) n:=by
 rw[Nat.add_comm n 1,yC,W1,show PB 1=1000000000 from by decide]
theorem aHB{a:List Int}{b:Int}(O:m5 a)(f:0<b)(y:b<1000000000)(V:a.length≤9000000000000):∀(j:Nat) (q:List Int) (r:Int),j≤a.length→q.length=a.length→Dr q j (a.length-j)→0≤r→r<b→W a j (a.length-j)=b*W q j (a.length-j)+r→
  ∃h s,h.length=a.length∧m5 h∧0≤s∧s<b∧vD a=b*vD h+s∧∀K k,j<k→lM K a b k q r ((j:Int)-1)=some (h,s)
 |0,q,r,X,hq,z,t,u,x=>by
  refine⟨q,r,hq,Dr.ok (by rw[hq];simpa using z),t,u,?_,fun K k F=>?_⟩
  ·simp only[Nat.sub_zero]at x;unfold vD;rw[hq];exact x
  ·obtain⟨U,rfl,_⟩:=aT F;simp[lM]
 |j+1,q,r,X,hq,z,t,u,x=>by
  have Y:=O j;have e0:((j+1:Nat):Int)-1=(j:Int):=by omega
  have e1:decide (0≤(j:Int))=true:=dT (by omega);have e2:=cZ (xs:=a) (i:=j) (by omega);have e3:aV ((j:Int)-1)=some ((j:Int)-1):=tI (by omega);have e4:=cZ (xs:=q) (i:=j) (by omega);have e5:∀v,rW q (j:Int) v=some (q.set j v):=fun v=>uX (by omega)
  have e6:aV (r*1000000000)=some (r*1000000000):=tI (by omega);have e7:aV (r*1000000000+a.getD j 0)=some (r*1000000000+a.getD j 0):=tI (by omega);have e8:chr (r*1000000000+a.getD j 0) b=some ((r*1000000000+a.getD j 0)%b):=vM (by omega) f;have e9:chq (r*1000000000+a.getD j 0) b=some ((r*1000000000+a.getD j 0)/b):=xN (by omega) f (by omega);have G:0≤(r*1000000000+a.getD j 0)/b:=Int.ediv_nonneg (by omega) (by omega);have I:(r*1000000000+a.getD j 0)/b<1000000000:=Int.ediv_lt_of_lt_mul f (by
   have:(r+1)*1000000000≤b*1000000000:=Int.mul_le_mul_of_nonneg_right (by omega) (by omega);rw[Int.mul_comm 1000000000 b];omega)
  have J:=Int.emod_nonneg (r*1000000000+a.getD j 0) (show b≠0 by omega);have L:=Int.emod_lt_of_pos (r*1000000000+a.getD j 0) f;have hdm:=Int.mul_ediv_add_emod (r*1000000000+a.getD j 0) b;have es:a.length-j=(a.length-(j+1))+1:=by omega
  obtain⟨h,s,h1,h2,h3,h4,h5,h6⟩:=aHB O f y V j (q.set j ((r*1000000000+a.getD j 0)/b)) ((r*1000000000+a.getD j 0)%b) (by omega) (by simpa using hq)
   (fun i hi=>by
    by_cases e:i=0
    ·subst e;rw[Nat.add_zero,eZ (by omega)];exact⟨G,I⟩
    ·rw[gD (by omega)];have:=z (i-1) (by omega)
     rwa [show j+1+(i-1)=j+i by omega]at this) J L (by
    rw[es,aDm,aDm,eZ (by omega),zO (.inl (by omega)),x];grind)
  refine⟨h,s,h1,h2,h3,h4,h5,fun K k F=>?_⟩;obtain⟨U,rfl,_⟩:=aT F;rw[e0];simp only[lM,e1,e2,e3,e4,e5,e6,e7,e8,e9,bL,oB];exact h6 K U (by omega)
theorem aH0{a:List Int}{b:Int}(t:m5 a)(e:0<b)(f:b<1000000000)(G:a.length≤60000000000):∃q r,q.length=a.length∧m5 q∧vD q=vD a/b∧r=vD a%b∧Ev (fun K=>sD K a b) (q,r):=by
 obtain⟨q,r,u,x,j,k,s,y⟩:=aHB t e f (by omega) a.length (List.replicate a.length 0) 0 (Nat.le_refl _) (by simp) (aIh _ _ _) (by omega) e (by simp[W]);have z:mkL (a.length:Int) (0:Int)=some (List.replicate a.length 0):=aBz (by omega);have F:aV ((a.length:Int)-1)=some ((a.length:Int)-1):=tI (by omega);refine⟨q,r,u,x,?_,?_,⟨a.length+1,fun K I=>?_⟩⟩
 ·rw[s,Int.add_comm,Int.add_mul_ediv_left _ _ (by omega),Int.ediv_eq_zero_of_lt j k,Int.zero_add]
 ·rw[s,Int.add_comm,Int.add_mul_emod_self_left,Int.emod_eq_of_lt j k]
 ·have h:=y K K (by omega);simp only[sD,z,F,oB,h,tO]
theorem aQv{out e b:List Int}{i k:Nat}{c c' f v:Int}(h:i+k<out.length)(j:W out i k+c*PB k=W e i k+f*W b 0 k)(hv:v+1000000000*c'=e.getD (i+k) 0+f*b.getD k 0+c):
  W (out.set (i+k) v) i (k+1)+c'*PB (k+1)=W e i (k+1)+f*W b 0 (k+1):=by
 rw[eH,eH,eH,eZ h,zO (.inr (by omega)),Nat.zero_add];simp only[PB];grind
structure aIF (o0 b:List Int) (i:Nat) (f:Int) (out:List Int) (c:Int) (k:Nat):Prop where
 len:out.length=o0.length
 ok:m5 out
 c0:0≤c
 c1:c<1000000000
 same:∀s,s<i∨i+k≤s→out.getD s 0=o0.getD s 0
 val:W out i k+c*PB k=W o0 i k+f*W b 0 k
theorem m5.set{u:List Int}{i:Nat}{v:Int}(h:m5 u)(e:0≤v)(f:v<1000000000):m5 (u.set i v):=fun t=>by
 rw[aBj];split
 ·exact⟨e,f⟩
 ·exact h t
theorem aIF.step{j b out:List Int}{i k:Nat}{f c:Int}(h:aIF j b i f out c k)(x:i+k<j.length)(q:0≤f)(t:f<1000000000)(hb:m5 b):
  0≤out.getD (i+k) 0+f*b.getD k 0+c∧out.getD (i+k) 0+f*b.getD k 0+c≤999999999999999999∧0≤f*b.getD k 0∧f*b.getD k 0≤999999998000000001∧0≤out.getD (i+k) 0∧out.getD (i+k) 0<1000000000∧
  aIF j b i f (out.set (i+k) ((out.getD (i+k) 0+f*b.getD k 0+c)%1000000000)) ((out.getD (i+k) 0+f*b.getD k 0+c)/1000000000) (k+1):=by
 have e:=hb k;have hm:=aGB q t e.1 e.2;have u:=h.ok (i+k);have c0:=h.c0;have c1:=h.c1;obtain⟨d1,d2,d3,d4⟩:=aPf (v:=out.getD (i+k) 0+f*b.getD k 0+c) (by omega);have he:=h.same (i+k) (.inr (Nat.le_refl _));refine⟨by omega,by omega,hm.1,hm.2,u.1,u.2,by simpa using h.len,h.ok.set d2 d3,d1,by omega,fun s hs=>?_,by exact aQv (by have:=h.len;omega) h.val (by omega)⟩;rw[gD (by omega)];exact h.same s (by omega)
theorem aLY{q:List Int}{y:aC}{i:Nat}{f:Int}(hb:m5 y.d)(h:0≤f)(j:f<1000000000)(G:i+y.d.length≤q.length)(I:q.length≤9000000000000):∀(t k:Nat) (out:List Int) (c:Int),k+t=y.d.length→aIF q y.d i f out c k→
  ∃out' c',aIF q y.d i f out' c' y.d.length∧∀K n,t<n→jB K y (i:Int) f n out c (k:Int)=some (out',c')
 |0,k,out,c,J,e=>by
  have:k=y.d.length:=by omega
  subst this;refine⟨out,c,e,fun K n s=>?_⟩;obtain⟨F,rfl,_⟩:=aT s;simp[jB]
 |t+1,k,out,c,J,e=>by
  obtain⟨g1,g2,g3,g4,g5,g6,L⟩:=e.step (by omega) h j hb;have c0:=e.c0;have c1:=e.c1;have hlo:=e.len;generalize hv:out.getD (i+k) 0+f*y.d.getD k 0+c=v at *;have O:decide ((k:Int)<(y.d.length:Int))=true:=dT (by omega);have U:=cZ (xs:=y.d) (i:=k) (by omega);have V:aV ((k:Int)+1)=some ((k+1:Nat):Int):=xH (m:=0) (by omega) (by omega);have X:aV ((i:Int)+(k:Int))=some ((i+k:Nat):Int):=xH (m:=0) (by omega) (by omega);have Y:=cZ (xs:=out) (i:=i+k) (by omega);have e6:aV (f*y.d.getD k 0)=some (f*y.d.getD k 0):=tI (by omega);have e7:aV (out.getD (i+k) 0+f*y.d.getD k 0)=some (out.getD (i+k) 0+f*y.d.getD k 0):=tI (by omega);have e8:aV (out.getD (i+k) 0+f*y.d.getD k 0+c)=some v:=by rw[hv];exact tI (by omega)
  have e9:chq v 1000000000=some (v/1000000000):=xN (by omega) (by omega) (by omega);have u:aV (v/1000000000*1000000000)=some (v/1000000000*1000000000):=tI (by omega);have x:aV (v-v/1000000000*1000000000)=some (v%1000000000):=by
   rw[show v-v/1000000000*1000000000=v%1000000000 by omega];exact tI (by omega)
  have z:rW out ((i+k:Nat):Int) (v%1000000000)=some (out.set (i+k) (v%1000000000)):=uX (by omega);obtain⟨o,d,h1,h2⟩:=aLY hb h j G I t (k+1) _ _ (by omega) L;refine⟨o,d,h1,fun K n s=>?_⟩;obtain⟨F,rfl,_⟩:=aT s;simp only[jB,O,U,V,X,Y,e6,e7,e8,e9,u,x,z,bL,oB];exact h2 K F (by omega)
structure aE4 (a b out:List Int) (i:Nat):Prop where
 len:out.length=a.length+b.length
 ok:m5 out
 zero:∀s,i+b.length≤s→out.getD s 0=0
 val:W out 0 (i+b.length)=W a 0 i*vD b
theorem aE4.start(a b:List Int):aE4 a b (List.replicate (a.length+b.length) 0) 0 where
 len:=by simp
 ok:=fun i=>by simp only[List.getD_eq_getElem?_getD,List.getElem?_replicate];split<;>simp
 zero:=fun s _=>by simp only[List.getD_eq_getElem?_getD,List.getElem?_replicate];split<;>simp
 val:=by
  rw[aFS]
  ·simp[W]
  ·intro i _;simp only[List.getD_eq_getElem?_getD,List.getElem?_replicate];split<;>simp
theorem aE4.row{a b out:List Int}{i:Nat}(h:aE4 a b out i):aIF out b i (a.getD i 0) out 0 0 where
 len:=rfl
 ok:=h.ok
 c0:=Int.le_refl _
 c1:=by decide
 same:=fun _ _=>rfl
 val:=by simp[W]
theorem aE4.next{a b out out':List Int}{i:Nat}{c:Int}(h:aE4 a b out i)(j:i<a.length)(hr:aIF out b i (a.getD i 0) out' c b.length):aE4 a b (out'.set (i+b.length) c) (i+1) where
 len:=by simpa using hr.len.trans h.len
 ok:=hr.ok.set hr.c0 hr.c1
 zero:=fun s hs=>by
  rw[gD (by omega),hr.same s (by omega)];exact h.zero s (by omega)
 val:=by
  have hlen:=hr.len.trans h.len;rw[show i+1+b.length=(i+b.length)+1 by omega,eH,Nat.zero_add,eZ (by omega),zO (.inr (by omega)),yC,eH,Nat.zero_add];have k:=hr.val;have e:=h.val;rw[yC,Nat.zero_add]at e;have f:W out' 0 i=W out 0 i:=aEe fun s hs=>by
   rw[Nat.zero_add];exact hr.same s (.inl hs)
  rw[f,aCl];unfold vD at *;grind
theorem aM4{x y:aC}(j:m5 x.d)(hb:m5 y.d)(u:x.d.length+y.d.length≤9000000000000):∀(t i:Nat) (out:List Int),i+t=x.d.length→aE4 x.d y.d out i→
  ∃out',aE4 x.d y.d out' x.d.length∧xG (fun K k=>gY K x y k out (i:Int)) out'
 |0,i,out,z,e=>by
  have:i=x.d.length:=by omega
  subst this;refine⟨out,e,xG.of 1 fun K n F=>?_⟩;obtain⟨n',rfl,_⟩:=aT (n:=0) F;simp[gY]
 |t+1,i,out,z,e=>by
  have h:=j i;have hlo:=e.len;obtain⟨o,c,q,G⟩:=aLY hb h.1 h.2 (by omega) (by omega) y.d.length 0 out 0 (by omega) e.row;have s:=q.len;obtain⟨r,I,J⟩:=aM4 j hb u t (i+1) _ (by omega) (e.next (by omega) q);refine⟨r,I,xG.step ?_⟩;have L:decide ((i:Int)<(x.d.length:Int))=true:=dT (by omega);have O:=cZ (xs:=x.d) (i:=i) (by omega);have U:aV ((i:Int)+1)=some ((i+1:Nat):Int):=xH (m:=0) (by omega) (by omega);have V:aV ((i:Int)+(y.d.length:Int))=some ((i+y.d.length:Nat):Int):=xH (m:=0) (by omega) (by omega);have X:=cZ (xs:=o) (i:=i+y.d.length) (by omega);have Y:rW o ((i+y.d.length:Nat):Int) c=some (o.set (i+y.d.length) c):=uX (by omega);simp only[gY,L,O,bL,oB];refine xG.bind (x:=(o,c)) (f:=fun K=>jB K y (i:Int) (x.d.getD i 0) K out 0 0) ⟨y.d.length+1,fun K hK=>G K K (by omega)⟩ ?_;simp only[sY,U,V,X,Y,oB];exact J
theorem aIC(x y:Int):(if(decide (x<0) != decide (y<0))=true then -((x.natAbs:Int)*y.natAbs) else(x.natAbs:Int)*y.natAbs)=x*y:=by
 by_cases e:x<0<;>by_cases f:y<0
 ·rw[dT e,dT f,show(x.natAbs:Int)=-x by omega,show(y.natAbs:Int)=-y by omega];simp[Int.neg_mul_neg]
 ·rw[dT e,dF f,show(x.natAbs:Int)=-x by omega,show(y.natAbs:Int)=y by omega];simp[Int.neg_mul]
 ·rw[dF e,dT f,show(x.natAbs:Int)=x by omega,show(y.natAbs:Int)=-y by omega];simp[Int.mul_neg]
 ·rw[dF e,dF f,show(x.natAbs:Int)=x by omega,show(y.natAbs:Int)=y by omega];simp
theorem aOD{x y:Int}(z:dl x.natAbs+dl y.natAbs≤60000000000):Ev (fun K=>(aV (((Z x).d.length:Int)+((Z y).d.length:Int))).bind fun f=>(mkL f 0).bind fun h=>(gY K (Z x) (Z y) K h 0).bind fun j=>sO K (Z x) (Z y) j) (Z (x*y)):=by
 have dx:=cG x.natAbs;have dy:=cG y.natAbs;have lx:(cC x.natAbs).length=dl x.natAbs:=rfl;have ly:(cC y.natAbs).length=dl y.natAbs:=rfl;obtain⟨r,e,k⟩:=aM4 (x:=Z x) (y:=Z y) dx dy (by rw[t5,t5];omega) (Z x).d.length 0 _ (by omega) (aE4.start _ _);have q:aV (((Z x).d.length:Int)+((Z y).d.length:Int))=some (((Z x).d.length+(Z y).d.length:Nat):Int):=xH (m:=0) (by omega) (by rw[t5,t5];omega);have s:mkL (((Z x).d.length+(Z y).d.length:Nat):Int) (0:Int)=some (List.replicate ((Z x).d.length+(Z y).d.length) 0):=aBz (by rw[t5,t5];omega);simp only[q,s,oB];refine Ev.bind k.ev ?_;have t:=zL ((Z x).neg != (Z y).neg) e.ok (by rw[e.len,t5,t5];omega);unfold sO;refine Ev.bind t ?_;have hv:vD r=x.natAbs*y.natAbs:=by
  have:=e.val;rw[←e.len]at this;have vx:=fC x.natAbs;have vy:=fC y.natAbs;unfold vD at *;rw[this];show W (cC x.natAbs) 0 (cC x.natAbs).length*W (cC y.natAbs) 0 (cC y.natAbs).length=_;rw[vx,vy]
 rw[vV,xA,xA,hv];have:(if(decide (x<0) != decide (y<0))=true then -((((x.natAbs:Int)*y.natAbs).toNat:Nat):Int) else((((x.natAbs:Int)*y.natAbs).toNat:Nat):Int))=x*y:=by
  have u:0≤(x.natAbs:Int)*y.natAbs:=Int.mul_nonneg (by omega) (by omega);rw[Int.toNat_of_nonneg u];exact aIC x y
 rw[this];exact Ev.pure _
theorem aHV(K:Nat)(y:aC)(x v:Int):∀(k:Nat) (s:List Int) (c i:Int),oW K y x v k s c i=jB K y x v k s c i
 |0,_,_,_=>rfl
 |k+1,s,c,i=>by simp only[oW,jB,aHV K y x v k]
theorem aHy(K:Nat)(x y:aC):∀(k:Nat) (s:List Int) (i:Int),mO K x y k s i=gY K x y k s i
 |0,_,_=>rfl
 |k+1,s,i=>by simp only[mO,gY,uK,sY,aHV,aHy K x y k]
theorem aCh{n:Nat}(h:(cC n).length=1):(cC n).getD 0 0=n∧n<1000000000:=by
 have e:=fC n;unfold vD at e;rw[h,W1]at e;have:=cG n 0;omega
theorem aAI{x y:Int}(q:dl x.natAbs+dl y.natAbs≤60000000000):Ev (fun K=>cA K (Z x) (Z y)) (Z (x*y)):=by
 have hc:=aOD q;unfold cA;by_cases s:(Z x).d.length=1
 ·have j:(((Z x).d.length:Int)==1)=true:=qT (by omega);simp only[j,bL];by_cases t:(Z y).d.length=1
  ·have e:(((Z y).d.length:Int)==1)=true:=qT (by omega);obtain⟨a1,a2⟩:=aCh s;obtain⟨u,b2⟩:=aCh t;have f:=cZ (xs:=(Z x).d) (i:=0) (by omega);have h:=cZ (xs:=(Z y).d) (i:=0) (by omega);simp only[Int.natCast_zero]at f h;rw[Z_d]at f h;rw[a1]at f;rw[u]at h;have hb:=aGB (x:=(x.natAbs:Int)) (y:=(y.natAbs:Int)) (by omega) (by omega) (by omega) (by omega);have z:wu (IntKind.u64.wrap (x.natAbs:Int)*IntKind.u64.wrap (y.natAbs:Int))=((x.natAbs*y.natAbs:Nat):Int):=by
    rw[IntWalk.u64_in _ ⟨by omega,by omega⟩,IntWalk.u64_in _ ⟨by omega,by omega⟩,aTE hb.1 (by omega),Int.natCast_mul]
   have k:x.natAbs*y.natAbs≤18446744073709551615:=by
    have:((x.natAbs*y.natAbs:Nat):Int)=x.natAbs*y.natAbs:=Int.natCast_mul _ _;omega
   refine Ev.of fun K=>?_
   rw[Z_d]at e;simp only[e,bL,f,h,Z_d,xA,oB,z,uA _ k];rw[vV];congr 2;rw[Int.natCast_mul];exact aIC x y
  ·have e:(((Z y).d.length:Int)==1)=false:=qF (by omega);simp only[e,bG];exact hc
 ·have j:(((Z x).d.length:Int)==1)=false:=qF (by omega);simp only[j,bG,aHy];exact hc
/-- The guess is too great. -/
theorem aJ3{P V X Y w Q g:Int}(t:0<P)(e:X*P≤V)(j:w<(Y+1)*P)(k:Q*V≤w)(q:0≤g)(h:Y+1≤g*X)(s:0≤V):Q<g:=by
 rcases Int.lt_or_le Q g with f|f
 ·exact f
 ·exfalso;have a:g*V≤Q*V:=Int.mul_le_mul_of_nonneg_right f s;have b:(Y+1)*P≤g*X*P:=Int.mul_le_mul_of_nonneg_right h (by omega);have c:g*(X*P)≤g*V:=Int.mul_le_mul_of_nonneg_left e q;rw[Int.mul_assoc]at b;omega
theorem aJN{P V X Y w Q g:Int}(t:0<P)(j:V<(X+1)*P)(k:Y*P≤w)(q:w<(Q+1)*V)(u:g≤X)(h:g*X≤Y)(x:0≤Q)(s:0≤V):g≤Q+1:=by
 rcases Int.lt_or_le (Q+1) g with f|f
 ·exfalso;have a:(Q+1)*V≤(g-1)*V:=Int.mul_le_mul_of_nonneg_right (by omega) s;have b:(g-1)*V≤(g-1)*((X+1)*P):=Int.mul_le_mul_of_nonneg_left (by omega) (by omega);have c:g*X*P≤Y*P:=Int.mul_le_mul_of_nonneg_right h (by omega);have d:(g-1)*((X+1)*P)=g*X*P+(g-X-1)*P:=by grind
  have e:(g-X-1)*P≤(-1)*P:=Int.mul_le_mul_of_nonneg_right (by omega) (by omega);omega
 ·exact f
theorem wB{a b c:Int}(hc:0<c)(h:a*c<b*c):a<b:=Int.lt_of_mul_lt_mul_right h (by omega)
theorem aHJ{b v u:List Int}{N j:Nat}{P V w Q v1 v2 e top:Int}(hb:b.length=N+2)(hb2:b.length≤9000000000000)(hvl:v.length=N+2)(huj:j+N<u.length)(hj:j≤9000000000000)(e1:v.getD (N+1) 0=v1)(e2:v.getD N 0=v2)(e3:u.getD (j+N) 0=e)
  (I:0<P)(hV:0≤V)(hv1:500000000≤v1)(J:v1<1000000000)(s:0≤v2)(f:v2<1000000000)(hu2:0≤e)(L:e<1000000000)
  (O:(v1*1000000000+v2)*P≤V)(t:V<(v1*1000000000+v2+1)*P)(z:(top*1000000000+e)*P≤w)(U:w<(top*1000000000+e+1)*P)(hwV:w<V*1000000000)(hQ:0≤Q)(X:Q*V≤w)(F:w<(Q+1)*V):
  ∀(n:Nat) (g r:Int),0≤r→r<1000000000→1000000000≤r+n*500000000→g*v1+r=top→Q≤g→g≤1000000001→
  ∃g',(Q≤g'∧g'≤Q+1∧g'<1000000000)∧∀K k,n<k→fE K b v u (j:Int) k g r=some g'
 |0,g,r,h0,h1,h2,_,_,_=>by omega
 |n+1,g,r,h0,h1,h2,h3,h4,h5=>by
  have QB:Q<1000000000:=by
   have G:0<V:=by
    rcases Int.lt_or_le 0 V with h|h
    ·exact h
    ·have:V=0:=by omega
     subst this;omega
   exact wB G (by rw[Int.mul_comm 1000000000 V];omega)
  have htop:top≤v1*1000000000+v2:=by
   have t1:(top*1000000000)*P≤(top*1000000000+e)*P:=Int.mul_le_mul_of_nonneg_right (by omega) (by omega);have t2:(top*1000000000)*P<((v1*1000000000+v2+1)*1000000000)*P:=by
    have:(v1*1000000000+v2+1)*1000000000*P=(v1*1000000000+v2+1)*P*1000000000:=by grind
    rw[this];omega
   have t3:=wB I t2;omega
  have c0:aV ((b.length:Int)-1)=some ((N+1:Nat):Int):=xH (m:=0) (by omega) (by omega);have c1:=cZ (xs:=v) (i:=N+1) (by omega);rw[e1]at c1;have c2:aV ((b.length:Int)-2)=some ((N:Nat):Int):=xH (m:=0) (by omega) (by omega);have c3:=cZ (xs:=v) (i:=N) (by omega);rw[e2]at c3;have c4:aV ((j:Int)+(b.length:Int))=some ((j+N+2:Nat):Int):=xH (m:=0) (by omega) (by omega);have c5:aV (((j+N+2:Nat):Int)-2)=some ((j+N:Nat):Int):=xH (m:=0) (by omega) (by omega);have c6:=cZ (xs:=u) (i:=j+N) huj;rw[e3]at c6;have c7:aV (r+v1)=some (r+v1):=tI (by omega);have c8:aV (g-1)=some (g-1):=tI (by omega);have less:Q<g→∃g',(Q≤g'∧g'≤Q+1∧g'<1000000000)∧∀K k,n<k→(bif decide (1000000000≤r+v1) then some (g-1) else fE K b v u (j:Int) k (g-1) (r+v1))=some g':=by
   intro hlt;have h3':(g-1)*v1+(r+v1)=top:=by rw[Int.sub_mul];omega
   by_cases hr:1000000000≤r+v1
   ·have hg1:(g-1)*v1<1000000000*v1:=by omega
    have hg2:g-1<1000000000:=wB (by omega) hg1;have hg3:(g-1)*(v1*1000000000+v2)≤top*1000000000+e:=by
     have m1:(g-1)*v2≤999999999*999999999:=Int.mul_le_mul (by omega) (by omega) s (by omega);have m2:(g-1)*(v1*1000000000+v2)=((g-1)*v1)*1000000000+(g-1)*v2:=by grind
     rw[m2];omega
    refine⟨g-1,⟨by omega,aJN I t z F (by omega) hg3 hQ hV,hg2⟩,fun K k q=>?_⟩;rw[dT hr,bL]
   ·obtain⟨g',i1,i2⟩:=aHJ hb hb2 hvl huj hj e1 e2 e3 I hV hv1 J s f hu2 L O t z U hwV hQ X F n (g-1) (r+v1) (by omega) (by omega) (by omega) h3' (by omega) (by omega);refine⟨g',i1,fun K k q=>?_⟩;rw[dF hr,bG];exact i2 K k q
  by_cases hg:1000000000≤g
  ·obtain⟨g',i1,i2⟩:=less (by omega);refine⟨g',i1,fun K k q=>?_⟩;obtain⟨k',rfl,_⟩:=aT q;simp only[fE,dT hg,bL,oB,c0,c1,c7,c8];exact i2 K k' (by omega)
  ·have m:=aGB (x:=g) (y:=v2) (by omega) (by omega) s f;have c9:aV (g*v2)=some (g*v2):=tI (by omega);have Y:aV (r*1000000000)=some (r*1000000000):=tI (by omega);have c11:aV (r*1000000000+e)=some (r*1000000000+e):=tI (by omega);have m2:g*(v1*1000000000+v2)=(g*v1)*1000000000+g*v2:=by grind
   by_cases hc:r*1000000000+e<g*v2
   ·obtain⟨g',i1,i2⟩:=less (aJ3 I O U X (by omega) (by rw[m2];omega) hV);refine⟨g',i1,fun K k q=>?_⟩;obtain⟨k',rfl,_⟩:=aT q;simp only[fE,dF hg,bG,bL,oB,c0,c1,c2,c3,c4,c5,c6,c7,c8,c9,Y,c11,dT hc];exact i2 K k' (by omega)
   ·refine⟨g,⟨h4,aJN I t z F (by omega) (by rw[m2];omega) hQ hV,by omega⟩,fun K k q=>?_⟩;obtain⟨k',rfl,_⟩:=aT q;simp only[fE,dF hg,bG,oB,c2,c3,c4,c5,c6,c9,Y,c11,dF hc]
structure aOQ (u0 v:List Int) (j:Nat) (g:Int) (u:List Int) (c:Int) (i:Nat):Prop where
 len:u.length=u0.length
 ok:m5 u
 c0:0≤c
 c1:c<1000000000
 same:∀s,s<j∨j+i≤s→u.getD s 0=u0.getD s 0
 val:W u j i-c*PB i=W u0 j i-g*W v 0 i
theorem aOQ.step{u0 v u:List Int}{j i:Nat}{g c x c':Int}(h:aOQ u0 v j g u c i)(t:j+i<u0.length)(e:0≤x)(f:x<1000000000)(k:0≤c')(q:c'<1000000000)(hv:x=u.getD (j+i) 0-g*v.getD i 0-c+c'*1000000000):aOQ u0 v j g (u.set (j+i) x) c' (i+1) where
 len:=by simpa using h.len
 ok:=h.ok.set e f
 c0:=k
 c1:=q
 same:=fun s hs=>by rw[gD (by omega)];exact h.same s (by omega)
 val:=by
  have hlen:=h.len;have hs:=h.same (j+i) (.inr (Nat.le_refl _));have hval:=h.val;rw[eH,eH,eH,eZ (by omega),zO (.inr (by omega)),Nat.zero_add];simp only[PB];rw[hs]at hv;grind
theorem aE6{b v u0:List Int}{j:Nat}{g:Int}(f:0≤g)(h:g<1000000000)(hv:m5 v)(hvl:b.length≤v.length)(I:j+b.length≤u0.length)(J:u0.length≤9000000000000):∀(t i:Nat) (u:List Int) (c:Int),i+t=b.length→aOQ u0 v j g u c i→
  ∃q c',aOQ u0 v j g q c' b.length∧∀K k,t<k→gI K b v (j:Int) g k u c (i:Int)=some (q,c')
 |0,i,u,c,hi,e=>by
  have:i=b.length:=by omega
  subst this;refine⟨u,c,e,fun K k s=>?_⟩;obtain⟨y,rfl,_⟩:=aT s;simp[gI]
 |t+1,i,u,c,hi,e=>by
  have hlen:=e.len;have c0:=e.c0;have c1:=e.c1;have hu:=e.ok (j+i);have hvi:=hv i;have m:=aGB f h hvi.1 hvi.2;have L:decide ((i:Int)<(b.length:Int))=true:=dT (by omega);have O:aV ((i:Int)+(j:Int))=some ((j+i:Nat):Int):=xH (m:=0) (by omega) (by omega);have U:=cZ (xs:=u) (i:=j+i) (by omega);have V:=cZ (xs:=v) (i:=i) (by omega);have X:aV (g*v.getD i 0)=some (g*v.getD i 0):=tI (by omega);have Y:aV (u.getD (j+i) 0-g*v.getD i 0)=some (u.getD (j+i) 0-g*v.getD i 0):=tI (by omega);have e8:aV ((i:Int)+1)=some ((i+1:Nat):Int):=xH (m:=0) (by omega) (by omega);have e9:∀x,rW u ((j+i:Nat):Int) x=some (u.set (j+i) x):=fun x=>uX (by omega)
  obtain⟨z,hz⟩:∃z,u.getD (j+i) 0-g*v.getD i 0-c=z:=⟨_,rfl⟩;have e7:aV (u.getD (j+i) 0-g*v.getD i 0-c)=some z:=by rw[hz];exact tI (by omega)
  by_cases hneg:z<0
  ·have f1:aV (-z)=some (-z):=tI (by omega);have f2:aV (-z+1000000000)=some (-z+1000000000):=tI (by omega);have f3:aV (-z+1000000000-1)=some (-z+1000000000-1):=tI (by omega);have f4:chq (-z+1000000000-1) 1000000000=some ((-z+1000000000-1)/1000000000):=xN (by omega) (by omega) (by omega);have f5:aV ((-z+1000000000-1)/1000000000*1000000000)=some ((-z+1000000000-1)/1000000000*1000000000):=tI (by omega);have f6:aV (z+(-z+1000000000-1)/1000000000*1000000000)=some (z+(-z+1000000000-1)/1000000000*1000000000):=tI (by omega);obtain⟨q,c',F,G⟩:=aE6 f h hv hvl I J t (i+1) _ _ (by omega) (e.step (x:=z+(-z+1000000000-1)/1000000000*1000000000) (c':=(-z+1000000000-1)/1000000000) (by omega) (by omega) (by omega) (by omega) (by omega) (by omega));refine⟨q,c',F,fun K k s=>?_⟩;obtain⟨y,rfl,_⟩:=aT s;simp only[gI,L,O,U,V,X,Y,e7,e8,e9,f1,f2,f3,f4,f5,f6,dT hneg,bL,oB];exact G K y (by omega)
  ·obtain⟨q,c',F,G⟩:=aE6 f h hv hvl I J t (i+1) _ _ (by omega) (e.step (x:=z) (c':=0) (by omega) (by omega) (by omega) (by omega) (by omega) (by omega));refine⟨q,c',F,fun K k s=>?_⟩;obtain⟨y,rfl,_⟩:=aT s;simp only[gI,L,O,U,V,X,Y,e7,e8,e9,dF hneg,bL,bG,oB];exact G K y (by omega)
structure aJn (u0 v:List Int) (j:Nat) (u:List Int) (c:Int) (i:Nat):Prop where
 len:u.length=u0.length
 ok:∀s,s<j+v.length→0≤u.getD s 0∧u.getD s 0<1000000000
 c0:0≤c
 c1:c≤1
 same:∀s,s<j∨j+i≤s→u.getD s 0=u0.getD s 0
 val:W u j i+c*PB i=W u0 j i+W v 0 i
theorem aJn.step{u0 v u:List Int}{j i:Nat}{c x c':Int}(h:aJn u0 v j u c i)(t:j+i<u0.length)(e:0≤x)(f:x<1000000000)(k:0≤c')(q:c'≤1)(hv:x+c'*1000000000=u.getD (j+i) 0+v.getD i 0+c):aJn u0 v j (u.set (j+i) x) c' (i+1) where
 len:=by simpa using h.len
 ok:=fun s hs=>by
  rw[aBj];split
  ·exact⟨e,f⟩
  ·exact h.ok s hs
 c0:=k
 c1:=q
 same:=fun s hs=>by rw[gD (by omega)];exact h.same s (by omega)
 val:=by
  have hlen:=h.len;have hs:=h.same (j+i) (.inr (Nat.le_refl _));have hval:=h.val;rw[eH,eH,eH,eZ (by omega),zO (.inr (by omega)),Nat.zero_add];simp only[PB];rw[hs]at hv;grind
theorem aHU{b v u0:List Int}{j:Nat}(hv:m5 v)(hvl:b.length=v.length)(y:j+b.length≤u0.length)(z:u0.length≤9000000000000):∀(t i:Nat) (u:List Int) (c:Int),i+t=b.length→aJn u0 v j u c i→
  ∃f c',aJn u0 v j f c' b.length∧∀K k,t<k→jY K b v (j:Int) k u c (i:Int)=some (f,c')
 |0,i,u,c,F,e=>by
  have:i=b.length:=by omega
  subst this;refine⟨u,c,e,fun K k h=>?_⟩;obtain⟨s,rfl,_⟩:=aT h;simp[jY]
 |t+1,i,u,c,F,e=>by
  have hlen:=e.len;have c0:=e.c0;have c1:=e.c1;have hu:=e.ok (j+i) (by omega);have hvi:=hv i;have G:decide ((i:Int)<(b.length:Int))=true:=dT (by omega);have I:aV ((i:Int)+(j:Int))=some ((j+i:Nat):Int):=xH (m:=0) (by omega) (by omega);have J:=cZ (xs:=u) (i:=j+i) (by omega);have L:=cZ (xs:=v) (i:=i) (by omega);have O:aV (u.getD (j+i) 0+v.getD i 0)=some (u.getD (j+i) 0+v.getD i 0):=tI (by omega);have U:aV (u.getD (j+i) 0+v.getD i 0+c)=some (u.getD (j+i) 0+v.getD i 0+c):=tI (by omega);have V:chr (u.getD (j+i) 0+v.getD i 0+c) 1000000000=some ((u.getD (j+i) 0+v.getD i 0+c)%1000000000):=vM (by omega) (by omega);have X:chq (u.getD (j+i) 0+v.getD i 0+c) 1000000000=some ((u.getD (j+i) 0+v.getD i 0+c)/1000000000):=xN (by omega) (by omega) (by omega);have Y:aV ((i:Int)+1)=some ((i+1:Nat):Int):=xH (m:=0) (by omega) (by omega);have q:∀x,rW u ((j+i:Nat):Int) x=some (u.set (j+i) x):=fun x=>uX (by omega)
  obtain⟨f,c',h1,h2⟩:=aHU hv hvl y z t (i+1) _ _ (by omega) (e.step (x:=(u.getD (j+i) 0+v.getD i 0+c)%1000000000) (c':=(u.getD (j+i) 0+v.getD i 0+c)/1000000000) (by omega) (by omega) (by omega) (by omega) (by omega) (by omega));refine⟨f,c',h1,fun K k h=>?_⟩;obtain⟨s,rfl,_⟩:=aT h;simp only[jY,G,I,J,L,O,U,V,Y,X,q,bL,oB];exact h2 K s (by omega)
structure aHM (m n:Nat) (v:List Int) (S:Int) (q u:List Int) (J:Nat):Prop where
 ql:q.length=m-n+1
 ul:u.length=m+1
 uok:m5 u
 qok:∀s,J≤s→0≤q.getD s 0∧q.getD s 0<1000000000
 lt:vD u<vD v*PB J
 val:S=vD v*(PB J*W q J (m-n+1-J))+vD u
theorem aLu{u:List Int}{k c:Nat}(hu:m5 u)(h:W u 0 (k+c)<PB k):W u 0 (k+c)=W u 0 k:=by
 rw[yC]at h ⊢;have f:=(aBQ (hu.dr 0 k)).1;have j:=(aBQ (hu.dr (0+k) c)).1;have hp:=tW k;rcases Int.lt_or_le 0 (W u (0+k) c) with e|e
 ·have:PB k*1≤PB k*W u (0+k) c:=Int.mul_le_mul_of_nonneg_left e (by omega);omega
 ·have:W u (0+k) c=0:=by omega
  rw[this];simp
theorem aHM.next{m n j:Nat}{v q u f:List Int}{S Q w:Int}(h:aHM m n v S q u (j+1))(hj:j+1≤m-n+1)(hnm:n≤m)(hv:m5 v)(hvl:v.length=n)(hw:W u j (n+1)=w)(L:0≤Q)(t:Q<1000000000)(O:Q*vD v≤w)(y:w<(Q+1)*vD v)
  (z:f.length=m+1)(U:m5 f)(G:∀s,s<j∨j+n<s→f.getD s 0=u.getD s 0)(V:W f j (n+1)=w-Q*vD v):aHM m n v S (q.set j Q) f j:=by
 have I:=hv.lt;rw[hvl]at I;have J:W u 0 (m+1)=W u 0 j+PB j*w:=by
  have hlt:=h.lt;unfold vD at hlt I;rw[h.ul]at hlt;have hb:W v 0 v.length*PB (j+1)≤PB n*PB (j+1):=Int.mul_le_mul_of_nonneg_right (by omega) (by have:=tW (j+1);omega);rw[←aCl,show n+(j+1)=j+(n+1) by omega]at hb;obtain⟨c,hc⟩:∃c,m+1=(j+(n+1))+c:=⟨m-j-n,by omega⟩;rw[hc]at hlt ⊢;rw[aLu h.uok (by omega),yC,Nat.zero_add,hw]
 have k:W f 0 (m+1)=W u 0 j+PB j*(w-Q*vD v):=by
  obtain⟨c,hc⟩:∃c,m+1=(j+(n+1))+c:=⟨m-j-n,by omega⟩;have X:W f (j+(n+1)) c=W u (j+(n+1)) c:=aEe fun s _=>G _ (.inr (by omega))
  have F:PB (j+(n+1))*W u (j+(n+1)) c=0:=by
   have e:=J;rw[hc,yC,yC u 0 j,Nat.zero_add,Nat.zero_add,hw]at e;omega
  have Y:W f 0 j=W u 0 j:=aEe fun s hs=>by rw[Nat.zero_add];exact G s (.inl hs)
  rw[hc,yC,yC f 0 j,Nat.zero_add,Nat.zero_add,X,F,Y,V];omega
 have hlo:=(aBQ (h.uok.dr 0 j)).2;have K:=(aBQ (h.uok.dr 0 j)).1;refine⟨by simpa using h.ql,z,U,fun s hs=>?_,?_,?_⟩
 ·rw[aBj];by_cases e:s=j
  ·rw[if_pos ⟨e,by have:=h.ql;omega⟩];exact⟨L,t⟩
  ·rw[if_neg (fun x=>e x.1)];exact h.qok s (by omega)
 ·show W f 0 f.length<_;rw[z,k];have:PB j*(w-Q*vD v)≤PB j*(vD v-1):=Int.mul_le_mul_of_nonneg_left (by rw[Int.add_mul]at y;omega) (by omega);have e:PB j*(vD v-1)=vD v*PB j-PB j:=by grind
  omega
 ·have hval:=h.val;have e1:vD u=W u 0 (m+1):=by unfold vD;rw[h.ul]
  have e2:vD f=W f 0 (m+1):=by unfold vD;rw[z]
  rw[e1,J]at hval;have hql:=h.ql;rw[e2,k,show m-n+1-j=(m-n+1-(j+1))+1 by omega,aDm,eZ (by omega),zO (.inl (by omega))];simp only[PB]at hval;rw[hval];grind
theorem aGD{b v:List Int}{N m:Nat}{S:Int}(hb:b.length=N+2)(hL:m≤900000000000)(hnm:N+2≤m)(hv:m5 v)(hvl:v.length=N+2)(I:500000000≤v.getD (N+1) 0):∀(J:Nat) (q u:List Int),J≤m-(N+2)+1→aHM m (N+2) v S q u J→
  ∃q' y,aHM m (N+2) v S q' y 0∧xG (fun K k=>fU K b v k q u ((J:Int)-1)) (q',y)
 |0,q,u,_,h=>⟨q,u,h,xG.of 1 fun K k hk=>by
   obtain⟨k',rfl,_⟩:=aT (n:=0) hk;simp[fU]⟩
 |j+1,q,u,hJ,h=>by
  have hul:=h.ul;have hql:=h.ql;obtain⟨v1,e1⟩:∃x,v.getD (N+1) 0=x:=⟨_,rfl⟩;obtain⟨v2,e2⟩:∃x,v.getD N 0=x:=⟨_,rfl⟩;obtain⟨u2,e3⟩:∃x,u.getD (j+N) 0=x:=⟨_,rfl⟩;obtain⟨u1,e4⟩:∃x,u.getD (j+N+1) 0=x:=⟨_,rfl⟩;obtain⟨u0,e5⟩:∃x,u.getD (j+N+2) 0=x:=⟨_,rfl⟩;have d1:=hv (N+1);have d2:=hv N;have d3:=h.uok (j+N);have d4:=h.uok (j+N+1);have d5:=h.uok (j+N+2);rw[e1]at d1 I;rw[e2]at d2;rw[e3]at d3;rw[e4]at d4;rw[e5]at d5;have hP:=tW N;have hVd:vD v=W v 0 N+(v1*1000000000+v2)*PB N:=by
   unfold vD;rw[hvl,yC,Nat.zero_add,W2,e1,e2,Int.mul_comm (PB N)];grind
  have hwl:=aBQ (h.uok.dr j N);have hvl2:=aBQ (hv.dr 0 N);obtain⟨w,hw⟩:∃x,W u j (N+2+1)=x:=⟨_,rfl⟩;have hwd:w=W u j N+((u0*1000000000+u1)*1000000000+u2)*PB N:=by
   rw[←hw,show N+2+1=N+3 by omega,yC,aDm,aDm,W1,e3,e4,show j+N+1+1=j+N+2 by omega,e5];grind
  have hVn:=hv.nonneg;have f:0<vD v:=by
   have:1*PB N≤(v1*1000000000+v2)*PB N:=Int.mul_le_mul_of_nonneg_right (by omega) (by omega);omega
  obtain⟨V,L⟩:∃x,vD v=x:=⟨_,rfl⟩;have U:=hv.lt;rw[hvl]at U;rw[L]at hVd f hVn U;have hwV:w<V*1000000000:=by
   have hlt:=h.lt;rw[L]at hlt;have hb':V*PB (j+1)≤PB (N+2)*PB (j+1):=Int.mul_le_mul_of_nonneg_right (by omega) (by have:=tW (j+1);omega);rw[←aCl,show N+2+(j+1)=j+(N+2+1) by omega]at hb';obtain⟨c,hc⟩:∃c,m+1=(j+(N+2+1))+c:=⟨m-j-(N+2),by omega⟩;unfold vD at hlt;rw[hul,hc]at hlt;rw[aLu h.uok (by omega),yC,Nat.zero_add,hw]at hlt;have h0:=(aBQ (h.uok.dr 0 j)).1;simp only[PB]at hlt;have:w*PB j<V*1000000000*PB j:=by
    rw[Int.mul_assoc,Int.mul_comm 1000000000,Int.mul_comm w];omega
   exact wB (tW j) this
  have hw0:0≤w:=by rw[←hw];exact(aBQ (h.uok.dr j _)).1
  obtain⟨Q,hQ⟩:∃x,w/V=x:=⟨_,rfl⟩;have hQ0:0≤Q:=by rw[←hQ];exact Int.ediv_nonneg hw0 (by omega)
  have hdm:=Int.mul_ediv_add_emod w V;have hm0:=Int.emod_nonneg w (show V≠0 by omega);have hm1:=Int.emod_lt_of_pos w f;rw[hQ]at hdm;have O:Q*V≤w:=by rw[Int.mul_comm];omega
  have z:w<(Q+1)*V:=by rw[Int.add_mul,Int.mul_comm];omega
  have hQB:Q<1000000000:=wB f (by rw[Int.mul_comm 1000000000 V];omega);obtain⟨top,htop⟩:∃x,u0*1000000000+u1=x:=⟨_,rfl⟩;have hV1:(v1*1000000000+v2)*PB N≤V:=by omega
  have hV2:V<(v1*1000000000+v2+1)*PB N:=by rw[Int.add_mul,Int.one_mul];omega
  have hw1:(top*1000000000+u2)*PB N≤w:=by rw[←htop];omega
  have hw2:w<(top*1000000000+u2+1)*PB N:=by rw[←htop,Int.add_mul _ 1,Int.one_mul];omega
  have htlim:top≤v1*1000000000+v2:=by
   have t1:(top*1000000000)*PB N≤(top*1000000000+u2)*PB N:=Int.mul_le_mul_of_nonneg_right (by omega) (by omega);have t2:(top*1000000000)*PB N<((v1*1000000000+v2+1)*1000000000)*PB N:=by
    have:(v1*1000000000+v2+1)*1000000000*PB N=(v1*1000000000+v2+1)*PB N*1000000000:=by grind
    rw[this];omega
   have t3:=wB hP t2;omega
  obtain⟨g0,hg0⟩:∃x,top/v1=x:=⟨_,rfl⟩;obtain⟨r0,hr0⟩:∃x,top%v1=x:=⟨_,rfl⟩;have hdm2:=Int.mul_ediv_add_emod top v1;have hr1:=Int.emod_nonneg top (show v1≠0 by omega);have hr2:=Int.emod_lt_of_pos top (show 0<v1 by omega);rw[hg0,hr0]at hdm2;rw[hr0]at hr1 hr2;have hg00:0≤g0:=by rw[←hg0];exact Int.ediv_nonneg (by omega) (by omega)
  have hgq:Q<g0+1:=by
   refine aJ3 hP hV1 hw2 O (by omega) ?_ (by omega);have m1:(g0+1)*(v1*1000000000+v2)=(v1*g0+v1)*1000000000+(g0+1)*v2:=by grind
   have m2:0≤(g0+1)*v2:=Int.mul_nonneg (by omega) d2.1;rw[m1];omega
  have hgm:g0≤1000000001:=by
   have:g0*v1<1000000002*v1:=by rw[Int.mul_comm g0];omega
   have:=wB (show 0<v1 by omega) this;omega
  obtain⟨g,⟨hg1,hg2,hg3⟩,hgF⟩:=aHJ (b:=b) (v:=v) (u:=u) (j:=j) hb (by omega) hvl (by omega) (by omega) e1 e2 e3 hP (Int.le_of_lt f) I d1.2 d2.1 d2.2 d3.1 d3.2 hV1 hV2 hw1 hw2 hwV hQ0 O z 2 g0 r0 hr1 (by omega) (by omega) (by rw[Int.mul_comm];omega) (by omega) hgm;obtain⟨y,c',F,hSF⟩:=aE6 (b:=b) (v:=v) (u0:=u) (j:=j) (g:=g) (by omega) hg3 hv (by omega) (by omega) (by omega) b.length 0 u 0 (by omega) ⟨rfl,h.uok,by omega,by omega,fun _ _=>rfl,by simp[W]⟩;have hSl:=F.len;have hSc0:=F.c0;have hSc1:=F.c1;have hSv:=F.val;rw[hb]at hSv;have hSs:y.getD (j+N+2) 0=u0:=by rw[F.same _ (.inr (by omega)),e5]
  obtain⟨t,ht⟩:∃x,u0-c'=x:=⟨_,rfl⟩;have hVW:W v 0 (N+2)=V:=by rw[←L];unfold vD;rw[hvl]
  rw[hVW]at hSv;have hWn:w=W u j (N+2)+u0*PB (N+2):=by rw[←hw,eH,←Nat.add_assoc,e5]
  have hWu':=aBQ (F.ok.dr j (N+2));have hPn:=tW (N+2);have hD:W y j (N+2)+t*PB (N+2)=w-g*V:=by rw[←ht,Int.sub_mul];omega
  have i1:decide (0≤(j:Int))=true:=dT (by omega);have i0:((j+1:Nat):Int)-1=(j:Int):=by omega
  have i2:aV ((j:Int)+(b.length:Int))=some ((j+N+2:Nat):Int):=xH (m:=0) (by omega) (by omega);have i3:=cZ (xs:=u) (i:=j+N+2) (by omega);rw[e5]at i3;have i4:aV (u0*1000000000)=some (u0*1000000000):=tI (by omega);have i5:aV (((j+N+2:Nat):Int)-1)=some ((j+N+1:Nat):Int):=xH (m:=0) (by omega) (by omega);have i6:=cZ (xs:=u) (i:=j+N+1) (by omega);rw[e4]at i6;have i7:aV (u0*1000000000+u1)=some top:=by rw[htop];exact tI (by omega)
  have i8:aV ((b.length:Int)-1)=some ((N+1:Nat):Int):=xH (m:=0) (by omega) (by omega);have i9:=cZ (xs:=v) (i:=N+1) (by omega);rw[e1]at i9;have i10:chq top v1=some g0:=by rw[←hg0];exact xN (by omega) (by omega) (by omega)
  have i11:chr top v1=some r0:=by rw[←hr0];exact vM (by omega) (by omega)
  have i12:=cZ (xs:=y) (i:=j+N+2) (by omega);rw[hSs]at i12;have i13:aV (u0-c')=some t:=by rw[ht];exact tI (by omega)
  have i14:rW y ((j+N+2:Nat):Int) t=some (y.set (j+N+2) t):=uX (by omega);have i15:bR (y.set (j+N+2) t) ((j+N+2:Nat):Int)=some t:=by rw[cZ (by simp;omega),eZ (by omega)]
  have i16:aV ((j:Int)-1)=some ((j:Int)-1):=tI (by omega);have i17:=cZ (xs:=q) (i:=j) (by omega);have i18:∀x,rW q (j:Int) x=some (q.set j x):=fun x=>uX (by omega)
  have hgF':Ev (fun K=>fE K b v u (j:Int) K g0 r0) g:=⟨3,fun K hK=>hgF K K (by omega)⟩;have hSF':Ev (fun K=>gI K b v (j:Int) g K u 0 0) (y,c'):=⟨b.length+1,fun K hK=>hSF K K (by omega)⟩;by_cases hneg:t<0
  ·
   have hgQ:g=Q+1:=by
    have:t*PB (N+2)≤(-1)*PB (N+2):=Int.mul_le_mul_of_nonneg_right (by omega) (by omega);rcases Int.lt_or_le Q g with h1|h1
    ·omega
    ·have:g=Q:=by omega
     subst this;omega
   obtain⟨X,G,hB,hBF⟩:=aHU (b:=b) (v:=v) (u0:=y.set (j+N+2) t) (j:=j) hv (by omega) (by simp;omega) (by simp;omega) b.length 0 (y.set (j+N+2) t) 0 (by omega)
    ⟨rfl,fun s hs=>by rw[gD (by omega)];exact F.ok s,by omega,by omega,fun _ _=>rfl,by simp[W]⟩
   have hBl:=hB.len;simp only[List.length_set]at hBl;have hBs:X.getD (j+N+2) 0=t:=by rw[hB.same _ (.inr (by omega)),eZ (by omega)]
   have hBv:=hB.val;rw[hb,zO (.inr (by omega)),hVW]at hBv;have hWu3:=aBQ (u:=X) (j:=j) (n:=N+2) fun s hs=>hB.ok _ (by omega)
   have Y:t+G=0:=by
    have hfin:W X j (N+2)+(t+G)*PB (N+2)=w-Q*V:=by
     rw[hgQ,Int.add_mul,Int.one_mul]at hD;rw[Int.add_mul];omega
    have hlim:w-Q*V<V:=by rw[Int.add_mul]at z;omega
    rcases Int.lt_trichotomy (t+G) 0 with Y|Y|Y
    ·have:(t+G)*PB (N+2)≤(-1)*PB (N+2):=Int.mul_le_mul_of_nonneg_right (by omega) (by omega);omega
    ·exact Y
    ·have:1*PB (N+2)≤(t+G)*PB (N+2):=Int.mul_le_mul_of_nonneg_right (by omega) (by omega);omega
   obtain⟨q',u'',h5,h6⟩:=aGD hb hL hnm hv hvl (by rw[e1];exact I) j (q.set j Q) (X.set (j+N+2) (t+G)) (by omega)
    (h.next hJ hnm hv hvl hw hQ0 hQB (by rw[L];exact O) (by rw[L];exact z) (by simp;omega) (fun s=>by
      rw[aBj];by_cases e:s=j+N+2
      ·rw[if_pos ⟨e,by omega⟩,Y];omega
      ·rw[if_neg (fun x=>e x.1)];rcases Nat.lt_or_ge s (j+N+2) with h1|h1
       ·exact hB.ok s (by omega)
       ·rw[hB.same s (.inr (by omega)),gD (by omega),F.same s (.inr (by omega))];exact h.uok s) (fun s hs=>by
      rw[gD (by omega)];rw[hB.same s (by omega),gD (by omega),F.same s (by omega)]) (by
      rw[eH,←Nat.add_assoc,eZ (by omega),zO (.inr (by omega)),L];rw[hgQ,Int.add_mul,Int.one_mul]at hD;rw[Int.add_mul];omega))
   refine⟨q',u'',h5,xG.step ?_⟩;have k1:aV (g-1)=some Q:=by rw[show g-1=Q by omega];exact tI (by omega)
   have k2:=cZ (xs:=X) (i:=j+N+2) (by omega);rw[hBs]at k2;have hc30:=hB.c0;have hc31:=hB.c1;have k3:aV (t+G)=some (t+G):=tI (by omega);have k4:rW X ((j+N+2:Nat):Int) (t+G)=some (X.set (j+N+2) (t+G)):=uX (by omega);have hBF':Ev (fun K=>jY K b v (j:Int) K (y.set (j+N+2) t) 0 0) (X,G):=⟨b.length+1,fun K hK=>hBF K K (by omega)⟩;rw[i0];simp only[fU,i1,i2,i3,i4,i5,i6,i7,i8,i9,i10,i11,bL,oB];refine xG.bind hgF' ?_;simp only[qJ];refine xG.bind hSF' ?_;simp only[qH,i2,i12,i13,i14,i15,dT hneg,bL,oB,k1];refine xG.bind hBF' ?_;simp only[tM,i2,k2,k3,k4,i17,i18,i16,oB];exact h6
  ·have hgQ:g=Q:=by
    have:0≤t*PB (N+2):=Int.mul_nonneg (by omega) (by omega);rcases Int.lt_or_le Q g with h1|h1
    ·have:g=Q+1:=by omega
     subst this;omega
    ·omega
   subst hgQ;have Y:t=0:=by
    have hlim:w-g*V<V:=by rw[Int.add_mul]at z;omega
    rcases Int.lt_or_le 0 t with Y|Y
    ·have:1*PB (N+2)≤t*PB (N+2):=Int.mul_le_mul_of_nonneg_right (by omega) (by omega);omega
    ·omega
   obtain⟨q',u'',h5,h6⟩:=aGD hb hL hnm hv hvl (by rw[e1];exact I) j (q.set j g) (y.set (j+N+2) t) (by omega)
    (h.next hJ hnm hv hvl hw hQ0 hQB (by rw[L];exact O) (by rw[L];exact z) (by simp;omega) (F.ok.set (by omega) (by omega)) (fun s hs=>by
      rw[gD (by omega)];rw[F.same s (by omega)]) (by
      rw[eH,←Nat.add_assoc,eZ (by omega),zO (.inr (by omega)),L];omega))
   refine⟨q',u'',h5,xG.step ?_⟩;rw[i0];simp only[fU,i1,i2,i3,i4,i5,i6,i7,i8,i9,i10,i11,bL,oB];refine xG.bind hgF' ?_;simp only[qJ];refine xG.bind hSF' ?_;simp only[qH,i2,i12,i13,i14,i15,dF hneg,bG,oB,i17,i18,i16];exact h6
end Go.Proofs.YtolfcbpgmfbgmaaGreat
