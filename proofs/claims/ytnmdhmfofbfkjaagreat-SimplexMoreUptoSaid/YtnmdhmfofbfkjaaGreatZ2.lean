/- Texts of the proof, part 2: K15 I1 IZ P2 P3 P4 P5. -/
import Derived.Test.YtnmdhmfofbfkjaaGreatProg
import Derived.KernelRfl
import Derived.IntWalk
import Derived.Test.YtnmdhmfofbfkjaaGreatZ1
set_option linter.unusedSimpArgs false
set_option linter.unusedVariables false
namespace Go.Proofs.YtnmdhmfofbfkjaaGreat
structure GC (S:Sx) (c:Code) (κ:Kt) (H:List HA) (E:nV) (Q:Prop):Prop where
 h:Q→WC S c κ H E
structure GX (S:Sx) (e:Exit) (κ:Kt) (H:List HA) (E:nV) (Q:Prop):Prop where
 h:Q→WX S e κ H E
structure GL (S:Sx) (ops:Array Oper) (κ:Kt) (l:List Oper) (H:List HA) (E:nV) (Q:Prop):Prop where
 h:Q→WL S ops κ l H E
inductive D:Prop→Prop→Prop
 |mk {P Q:Prop} (h:Q→P):D P Q
theorem D.h{P Q:Prop}(h:D P Q):Q→P:=by cases h;assumption
section
variable {S:Sx} {κ:Kt} {H:List HA} {E:nV} {Q:Prop}
theorem sC{c:Code}(k:GC S c κ H E Q):D (WC S c κ H E) Q:=⟨k.h⟩
theorem sX{e:Exit}(k:GX S e κ H E Q):D (WX S e κ H E) Q:=⟨k.h⟩
theorem sL{ops:Array Oper}{l:List Oper}(k:GL S ops κ l H E Q):D (WL S ops κ l H E) Q:=⟨k.h⟩
theorem eC{c:Code}:GC S c κ H E (WC S c κ H E):=⟨fun q=>q⟩
theorem eX{e:Exit}:GX S e κ H E (WX S e κ H E):=⟨fun q=>q⟩
theorem eL{ops:Array Oper}{l:List Oper}:GL S ops κ l H E (WL S ops κ l H E):=⟨fun q=>q⟩
theorem aLq{x y:Code}(k:GC S x (.seq y κ) H E Q):GC S (.seq x y) κ H E Q:=⟨fun q=>aG (k.h q)⟩
theorem aIj{y:Code}(k:GC S y κ H E Q):GX S .normal (.seq y κ) H E Q:=⟨fun q=>aC (k.h q)⟩
theorem aJt(k:GX S .normal κ H E Q):GC S .skip κ H E Q:=⟨fun q=>fG (k.h q)⟩
theorem aGi{l:Nat}(k:GX S .normal κ H E Q):GC S (.label l) κ H E Q:=⟨fun q=>aKb (k.h q)⟩
theorem aIZ{id:Nat}(k:GX S .normal κ H E Q):GX S .normal (.blk id κ) H E Q:=⟨fun q=>tR (k.h q)⟩
theorem aGo{c:Code}(k:GC S c (.sc κ) H E Q):GC S (.scope c) κ H E Q:=⟨fun q=>aGt (k.h q)⟩
theorem aLj(k:GX S .normal κ H E Q):GX S .normal (.sc κ) H E Q:=⟨fun q=>aNu (k.h q)⟩
theorem aLe{id:Nat}{l:List Oper}(k:GL S l.toArray κ l H E Q):GC S (.region id l.toArray false) κ H E Q:=⟨fun q=>aH (k.h q)⟩
theorem aLG{ops:Array Oper}(k:GX S .normal κ H E Q):GL S ops κ [] H E Q:=⟨fun q=>aJ (k.h q)⟩
end
def ev(E:nV):Operand→Option VP
 | .tmp d=>iQ E d
 | .const (.int k n)=>some (.vc (pI k n))
 | .const (.bool b)=>some (.vc (pB b))
 |_=>none
theorem dB{E:nV}:∀{x:Operand} {p:VP},ev E x=some p→aBO E x p
 | .tmp d,p,h=>h
 | .const (.int k n),p,h=>by cases h;exact hU k n
 | .const (.bool b),p,h=>by cases h;exact lU b
def evs(E:nV):List Operand→Option (List VP)
 |[]=>some []
 |x::l=>(ev E x).bind fun p=>(evs E l).bind fun ps=>some (p::ps)
theorem aDK{E:nV}:∀{l:List Operand} {ps:List VP},evs E l=some ps→tH E (l.zip ps)∧l.length=ps.length
 |[],ps,h=>by cases h;exact⟨trivial,rfl⟩
 |x::l,ps,h=>by
  obtain⟨p,f,h⟩:=Option.bind_eq_some_iff.1 h;obtain⟨qs,e,h⟩:=Option.bind_eq_some_iff.1 h;cases h;exact⟨⟨dB f,(aDK e).1⟩,congrArg (·+1) (aDK e).2⟩
theorem tB{k:Nat}{l qs:List CP}(h:pW k l=some qs):qs.length=k:=(wL h).2
inductive fY:List HA→Option Nat→HA→Prop
 |a {e:HA} {H:List HA} {β:Option Nat} (h:e.β=β):fY (e::H) β e
 |b {e x:HA} {H:List HA} {β:Option Nat} (h:fY H β e):fY (x::H) β e
theorem fY.at{H:List HA}{β:Option Nat}{e:HA}(h:fY H β e):∃i:Nat,H[i]?=some e∧e.β=β:=by
 induction h with
 |a h=>exact⟨0,rfl,h⟩
 |b _ ih=>obtain⟨i,f,j⟩:=ih;exact⟨i+1,by simpa using f,j⟩
inductive t8:List HA→Option Nat→HA→HA→List HA→Prop
 |a {e e':HA} {H:List HA} {β:Option Nat} (h:e.β=β):t8 (e::H) β e e' (e'::H)
 |b {e e' x:HA} {H H':List HA} {β:Option Nat} (h:t8 H β e e' H'):t8 (x::H) β e e' (x::H')
theorem t8.at{H H':List HA}{β:Option Nat}{e f:HA}(h:t8 H β e f H'):∃i:Nat,H[i]?=some e∧e.β=β∧vC H i f=some H':=by
 induction h with
 |a h=>exact⟨0,rfl,h,rfl⟩
 |@b e f x H H' β _ ih=>
  obtain⟨i,j,k,q⟩:=ih;exact⟨i+1,by simpa using j,k,by simp only[vC,q]⟩
inductive cZ (ops:Array Oper) (E:nV):Option (Nat×Bool)→Prop
 |p:cZ ops E none
 |g {j dj:Nat} {b:Bool} {og:Oper} (hj:ops[j]?=some og) (hdj:og.dst=some dj) (hl:iQ E dj=some (.vc (pB b))):cZ ops E (some (j,b))
theorem sU{α β γ:Type}{a:Option α}{b:α→Option β}{f:α→β→Option γ}{r:γ}(h:(a.bind fun x=>(b x).bind fun y=>f x y)=some r):∃x,a=some x∧∃y,b x=some y∧f x y=some r:=by
 obtain⟨x,e,h⟩:=aR h;exact⟨x,e,aR h⟩
theorem bn3{α β γ δ:Type}{a:Option α}{b:α→Option β}{c:α→β→Option γ}{f:α→β→γ→Option δ}{r:δ}(h:(a.bind fun x=>(b x).bind fun y=>(c x y).bind fun z=>f x y z)=some r):∃x,a=some x∧∃y,b x=some y∧∃z,c x y=some z∧f x y z=some r:=by
 obtain⟨x,e,h⟩:=aR h;exact⟨x,e,sU h⟩
theorem bn4{α β γ δ ε:Type}{a:Option α}{b:α→Option β}{c:α→β→Option γ}{d:α→β→γ→Option δ}{f:α→β→γ→δ→Option ε}{r:ε}(h:(a.bind fun x=>(b x).bind fun y=>(c x y).bind fun z=>(d x y z).bind fun t=>f x y z t)=some r):∃x,a=some x∧∃y,b x=some y∧∃z,c x y=some z∧∃t,d x y z=some t∧f x y z t=some r:=by
 obtain⟨x,e,h⟩:=aR h;exact⟨x,e,bn3 h⟩
theorem sQ{α β:Type}{o:Option α}{f:α→Option β}{v:α}{r:β}(h:o=some v)(k:o.bind f=some r):f v=some r:=by rw[h]at k;exact k
theorem bQ{α β:Type}{o:Option α}{f:α→Option β}{q:β}{C:α→Prop}(h:o.bind f=some q)(c:∀{r:α},o=some r→C r):∃v,C v∧f v=some q:=by
 obtain⟨v,e,h⟩:=aR h;exact⟨v,c e,h⟩
section
variable {S:Sx} {κ:Kt} {H H':List HA} {E:nV} {ops:Array Oper} {rest:List Oper} {Q:Prop} {ty:TypeId} {pos:String} {af:Array Edge} {g:Option (Nat×Bool)} {d:Nat}
theorem jH{op:Op}{ins:List (Operand×VP)}{out:VP}(t:Tr S ⟨some d,op,ty,pos,af,g⟩ H H' ins out)(e:tH E ins)(j:cZ ops E g)(f:Nat.blt d S.N=true)(k:GL S ops κ rest H' ((d,out)::E) Q):GL S ops κ (⟨some d,op,ty,pos,af,g⟩::rest) H E Q:=by
 refine⟨fun q=>?_⟩;cases j with
 |p=>exact aE t e (k.h q) rfl rfl f
 |g s hdj u=>exact aZ t e (k.h q) rfl s hdj u rfl f
theorem b_n{op:Op}{j dj:Nat}{b b':Bool}{og:Oper}(e:ops[j]?=some og)(hdj:og.dst=some dj)(f:iQ E dj=some (.vc (pB b')))(hb:(b' != b)=true)(s:Nat.blt d S.N=true)(k:GL S ops κ rest H ((d,.un)::E) Q):GL S ops κ (⟨some d,op,ty,pos,af,some (j,b)⟩::rest) H E Q:=⟨fun q=>aQ (k.h q) rfl e hdj f hb rfl s⟩
theorem b_u{op:Op}{j dj:Nat}{b:Bool}{og:Oper}(e:ops[j]?=some og)(hdj:og.dst=some dj)(f:iQ E dj=some .un)(s:Nat.blt d S.N=true)(k:GL S ops κ rest H ((d,.un)::E) Q):GL S ops κ (⟨some d,op,ty,pos,af,some (j,b)⟩::rest) H E Q:=⟨fun q=>tY (k.h q) rfl e hdj f rfl s⟩
end
class Mix (P:Program):Prop where
 h:P.follows .mixedOrders=true
def o5(l:List Oper)(ms:List Nat)(E:nV)(outs:List Ou)(G:Gh)(i:Nat):Operand→Option VP
 | .tmp d=>uU l ms E outs G i d
 | .const (.int k n)=>some (.vc (pI k n))
 | .const (.bool b)=>some (.vc (pB b))
 |_=>none
theorem bE{l:List Oper}{ms:List Nat}{E:nV}{outs:List Ou}{G:Gh}{i:Nat}:∀{x:Operand} {p:VP},o5 l ms E outs G i x=some p→aLA l ms E outs G i x p
 | .tmp d,p,h=>h
 | .const (.int k n),p,h=>by cases h;exact hU k n
 | .const (.bool b),p,h=>by cases h;exact lU b
def aMl(l:List Oper)(ms:List Nat)(E:nV)(outs:List Ou)(G:Gh)(i:Nat):List Operand→Option (List VP)
 |[]=>some []
 |x::r=>(o5 l ms E outs G i x).bind fun p=>(aMl l ms E outs G i r).bind fun ps=>some (p::ps)
theorem aBK{l:List Oper}{ms:List Nat}{E:nV}{outs:List Ou}{G:Gh}{i:Nat}:∀{r:List Operand} {ps:List VP},aMl l ms E outs G i r=some ps→aCh l ms E outs G i (r.zip ps)∧r.length=ps.length
 |[],ps,h=>by cases h;exact⟨trivial,rfl⟩
 |x::r,ps,h=>by
  obtain⟨p,f,h⟩:=Option.bind_eq_some_iff.1 h;obtain⟨qs,e,h⟩:=Option.bind_eq_some_iff.1 h;cases h;exact⟨⟨bE f,(aBK e).1⟩,congrArg (·+1) (aBK e).2⟩
theorem fY.app{H A:List HA}{β:Option Nat}{e:HA}(h:fY H β e):fY (H++A) β e:=by
 induction h with
 |a h=>exact .a h
 |b _ ih=>exact .b ih
inductive GD (l:List Oper) (ms:List Nat) (E:nV) (outs:List Ou) (i:Nat):Option (Nat×Bool)→Prop
 |p:GD l ms E outs i none
 |g {j d:Nat} {b:Bool} (hd:(l[j]?).bind (·.dst)=some d) (hl:∀G,uU l ms E outs G i d=some (.vc (pB b))):GD l ms E outs i (some (j,b))
structure DN (S:Sx) (H:List HA) (l0:List Oper) (ms:List Nat) (E:nV) (outs:List Ou) (n i:Nat) (l:List Oper) (r:List Ou):Prop where
 h:aDT S (fun _ _=>H) [] l0 ms E outs i l r
 len:r.length=n
section
variable {S:Sx} {H:List HA} {l0 l:List Oper} {ms:List Nat} {E:nV} {outs r:List Ou} {n i d:Nat} {ty:TypeId} {pos:String} {af:Array Edge} {g:Option (Nat×Bool)}
theorem aK4(hr:r=[]):DN S H l0 ms E outs 0 i l r:=by subst hr;exact⟨by cases l<;>trivial,rfl⟩
theorem aDX{o:Oper}{q:Ou}(e:o.dst.all (Nat.blt · S.N)=true)(f:DOp S (fun _ _=>H) [] l0 ms E outs i o q)(k:DN S H l0 ms E outs n (i+1) l r):DN S H l0 ms E outs (n+1) i (o::l) (q::r):=⟨⟨⟨e,f⟩,k.h⟩,congrArg (·+1) k.len⟩
theorem gA{op:Op}{ins:List (Operand×VP)}{out:VP}(t:∀A,Tr S ⟨some d,op,ty,pos,af,g⟩ (H++A) (H++A) ins out)(hs:∀G,aCh l0 ms E outs G i ins)(h:Nat.blt d S.N=true)(j:GD l0 ms E outs i g)(e:kF ms [] i [0]=true){f:List Ou}(hr:f=.v out::r)(k:DN S H l0 ms E outs n (i+1) l r):DN S H l0 ms E outs (n+1) i (⟨some d,op,ty,pos,af,g⟩::l) f:=by
 subst hr;refine aDX h ?_ k;cases j with
 |p=>exact .run (L:=[0]) (ins:=fun _=>ins) ⟨fun _ A=>t A,trivial⟩ hs rfl e rfl
 |g q s=>exact .runG (L:=[0]) (ins:=fun _=>ins) ⟨fun _ A=>t A,trivial⟩ hs rfl q s e rfl
theorem e_n{e:List Ou}{op:Op}{j dj:Nat}{b b':Bool}(f:(l0[j]?).bind (·.dst)=some dj)(h:∀G,uU l0 ms E outs G i dj=some (.vc (pB b')))(hb:(b' != b)=true)(q:Nat.blt d S.N=true)(hr:e=.v .un::r)(k:DN S H l0 ms E outs n (i+1) l r):DN S H l0 ms E outs (n+1) i (⟨some d,op,ty,pos,af,some (j,b)⟩::l) e:=hr▸aDX q (.skipN rfl f h hb rfl) k
theorem e_u{e:List Ou}{op:Op}{j dj:Nat}{b:Bool}(f:(l0[j]?).bind (·.dst)=some dj)(h:∀G,uU l0 ms E outs G i dj=some .un)(q:Nat.blt d S.N=true)(hr:e=.v .un::r)(k:DN S H l0 ms E outs n (i+1) l r):DN S H l0 ms E outs (n+1) i (⟨some d,op,ty,pos,af,some (j,b)⟩::l) e:=hr▸aDX q (.skipU rfl f h rfl) k
end
section
variable {S:Sx} {κ:Kt} {H H':List HA} {E:nV} {ops:Array Oper} {rest:List Oper} {Q:Prop} {ty:TypeId} {pos:String} {af:Array Edge} {g:Option (Nat×Bool)} {d:Nat} {l0 l:List Oper} {ms:List Nat} {outs ro:List Ou} {n i:Nat}
theorem aM5{x:Operand}{p:VP}(e:ev E x=some p)(f:Nat.blt d S.N=true)(h:cZ ops E g)(k:GL S ops κ rest H ((d,p)::E) Q):GL S ops κ (⟨some d,.move x,ty,pos,af,g⟩::rest) H E Q:=
 jH (aK (.inl rfl)) ⟨dB e,trivial⟩ h f k
theorem aNB{x:Operand}{p:VP}(f:∀G,o5 l0 ms E outs G i x=some p)(h:Nat.blt d S.N=true)(j:GD l0 ms E outs i g)(k:kF ms [] i [0]=true){e:List Ou}(hr:e=.v (p)::ro)(kk:DN S H l0 ms E outs n (i+1) l ro):DN S H l0 ms E outs (n+1) i (⟨some d,.move x,ty,pos,af,g⟩::l) e:=
 gA (fun A=>aK (.inl rfl)) (fun G=>⟨bE (f G),trivial⟩) h j k hr kk
theorem aNW{x:Operand}{b:Bool}{w:Bool}(f:∀G,o5 l0 ms E outs G i x=some (.vc (pB b)))(h:Nat.blt d S.N=true)(j:GD l0 ms E outs i g)(k:kF ms [] i [0]=true)(hb:b=w){e:List Ou}(hr:e=.v (.vc (pB w))::ro)(kk:DN S H l0 ms E outs n (i+1) l ro):DN S H l0 ms E outs (n+1) i (⟨some d,.move x,ty,pos,af,g⟩::l) e:=
 gA (fun A=>gN (aK (.inl rfl)) hb) (fun G=>⟨bE (f G),trivial⟩) h j k hr kk
theorem aM8{x:Operand}{p:VP}(e:ev E x=some p)(f:Nat.blt d S.N=true)(h:cZ ops E g)(k:GL S ops κ rest H ((d,p)::E) Q):GL S ops κ (⟨some d,.assign x,ty,pos,af,g⟩::rest) H E Q:=
 jH (aK (.inr rfl)) ⟨dB e,trivial⟩ h f k
theorem aNr{x:Operand}{p:VP}(f:∀G,o5 l0 ms E outs G i x=some p)(h:Nat.blt d S.N=true)(j:GD l0 ms E outs i g)(k:kF ms [] i [0]=true){e:List Ou}(hr:e=.v (p)::ro)(kk:DN S H l0 ms E outs n (i+1) l ro):DN S H l0 ms E outs (n+1) i (⟨some d,.assign x,ty,pos,af,g⟩::l) e:=
 gA (fun A=>aK (.inr rfl)) (fun G=>⟨bE (f G),trivial⟩) h j k hr kk
theorem aND{x:Operand}{b:Bool}{w:Bool}(f:∀G,o5 l0 ms E outs G i x=some (.vc (pB b)))(h:Nat.blt d S.N=true)(j:GD l0 ms E outs i g)(k:kF ms [] i [0]=true)(hb:b=w){e:List Ou}(hr:e=.v (.vc (pB w))::ro)(kk:DN S H l0 ms E outs n (i+1) l ro):DN S H l0 ms E outs (n+1) i (⟨some d,.assign x,ty,pos,af,g⟩::l) e:=
 gA (fun A=>gN (aK (.inr rfl)) hb) (fun G=>⟨bE (f G),trivial⟩) h j k hr kk
theorem aNf{α:Type}{C:Cd α}{t e bytes:Nat}{x y:Operand}{xs:List α}{j:Int}{z:α}{k:IntKind}(f:ev E x=some (.vc (pS C xs)))(h:ev E y=some (.vc (pI k j)))(q:TyS S.P t e C.n bytes)(s:Nat.blt d S.N=true)(u:cZ ops E g)(F:cT xs j=some z)(k:GL S ops κ rest H ((d,.vc (pM (C.e z)))::E) Q):GL S ops κ (⟨some d,.indexAddr t x y,ty,pos,af,g⟩::rest) H E Q:=
 jH (xT rfl q F) ⟨dB f,dB h,trivial⟩ u s k
theorem aNl{α:Type}{C:Cd α}{t e bytes:Nat}{x y:Operand}{xs:List α}{j:Int}{z:α}{k:IntKind}(h:∀G,o5 l0 ms E outs G i x=some (.vc (pS C xs)))(q:∀G,o5 l0 ms E outs G i y=some (.vc (pI k j)))(s:TyS S.P t e C.n bytes)(u:Nat.blt d S.N=true)(F:GD l0 ms E outs i g)(I:kF ms [] i [0]=true)(J:cT xs j=some z){f:List Ou}(hr:f=.v (.vc (pM (C.e z)))::ro)(kk:DN S H l0 ms E outs n (i+1) l ro):DN S H l0 ms E outs (n+1) i (⟨some d,.indexAddr t x y,ty,pos,af,g⟩::l) f:=
 gA (fun A=>xT rfl s J) (fun G=>⟨bE (h G),bE (q G),trivial⟩) u F I hr kk
theorem aLt{s f k:Nat}{x:Operand}{ps:List CP}(e:ev E x=some (.vc (pM ps)))(h:TyF S.P s f k)(j:Nat.blt d S.N=true)(q:cZ ops E g)(k:GL S ops κ rest H ((d,.vc (pM (ps.drop k)))::E) Q):GL S ops κ (⟨some d,.fieldAddr s x f,ty,pos,af,g⟩::rest) H E Q:=
 jH (yJ rfl h) ⟨dB e,trivial⟩ q j k
theorem aKK{s f k:Nat}{x:Operand}{ps:List CP}(h:∀G,o5 l0 ms E outs G i x=some (.vc (pM ps)))(j:TyF S.P s f k)(q:Nat.blt d S.N=true)(t:GD l0 ms E outs i g)(u:kF ms [] i [0]=true){e:List Ou}(hr:e=.v (.vc (pM (ps.drop k)))::ro)(kk:DN S H l0 ms E outs n (i+1) l ro):DN S H l0 ms E outs (n+1) i (⟨some d,.fieldAddr s x f,ty,pos,af,g⟩::l) e:=
 gA (fun A=>yJ rfl j) (fun G=>⟨bE (h G),trivial⟩) q t u hr kk
theorem aNa{s f off k:Nat}{x:Operand}{β:Option Nat}(e:ev E x=some (.vc (pP β off)))(h:TyF S.P s f k)(j:Nat.blt d S.N=true)(q:cZ ops E g)(k:GL S ops κ rest H ((d,.vc (pP β (off+k)))::E) Q):GL S ops κ (⟨some d,.fieldAddr s x f,ty,pos,af,g⟩::rest) H E Q:=
 jH (eZ rfl h) ⟨dB e,trivial⟩ q j k
theorem aM1{s f off k:Nat}{x:Operand}{β:Option Nat}(h:∀G,o5 l0 ms E outs G i x=some (.vc (pP β off)))(j:TyF S.P s f k)(q:Nat.blt d S.N=true)(t:GD l0 ms E outs i g)(u:kF ms [] i [0]=true){e:List Ou}(hr:e=.v (.vc (pP β (off+k)))::ro)(kk:DN S H l0 ms E outs n (i+1) l ro):DN S H l0 ms E outs (n+1) i (⟨some d,.fieldAddr s x f,ty,pos,af,g⟩::l) e:=
 gA (fun A=>eZ rfl j) (fun G=>⟨bE (h G),trivial⟩) q t u hr kk
theorem aKX{s f n off k:Nat}{x:Operand}{β:Option Nat}{j:Int}(e:ev E x=some (.vc (pE β j n off)))(h:TyF S.P s f k)(q:Nat.blt d S.N=true)(t:cZ ops E g)(k:GL S ops κ rest H ((d,.vc (pE β j n (off+k)))::E) Q):GL S ops κ (⟨some d,.fieldAddr s x f,ty,pos,af,g⟩::rest) H E Q:=
 jH (aLh rfl h) ⟨dB e,trivial⟩ t q k
theorem aLi{s f n off k:Nat}{x:Operand}{β:Option Nat}{j:Int}(h:∀G,o5 l0 ms E outs G i x=some (.vc (pE β j n off)))(q:TyF S.P s f k)(t:Nat.blt d S.N=true)(u:GD l0 ms E outs i g)(y:kF ms [] i [0]=true){e:List Ou}(hr:e=.v (.vc (pE β j n (off+k)))::ro)(kk:DN S H l0 ms E outs n (i+1) l ro):DN S H l0 ms E outs (n+1) i (⟨some d,.fieldAddr s x f,ty,pos,af,g⟩::l) e:=
 gA (fun A=>aLh rfl q) (fun G=>⟨bE (h G),trivial⟩) t u y hr kk
theorem aK0{t:Nat}{x:Operand}{ps:List CP}{q:CP}(e:ev E x=some (.vc (pM ps)))(f:Ty1 S.P t)(h:pW 1 ps=some [q])(j:Nat.blt d S.N=true)(s:cZ ops E g)(k:GL S ops κ rest H ((d,.vc q)::E) Q):GL S ops κ (⟨some d,.load t x,ty,pos,af,g⟩::rest) H E Q:=
 jH (vF 1 rfl h (.one f)) ⟨dB e,trivial⟩ s j k
theorem aLb{t:Nat}{x:Operand}{ps:List CP}{q:CP}(f:∀G,o5 l0 ms E outs G i x=some (.vc (pM ps)))(h:Ty1 S.P t)(j:pW 1 ps=some [q])(k:Nat.blt d S.N=true)(s:GD l0 ms E outs i g)(u:kF ms [] i [0]=true){e:List Ou}(hr:e=.v (.vc q)::ro)(kk:DN S H l0 ms E outs n (i+1) l ro):DN S H l0 ms E outs (n+1) i (⟨some d,.load t x,ty,pos,af,g⟩::l) e:=
 gA (fun A=>vF 1 rfl j (.one h)) (fun G=>⟨bE (f G),trivial⟩) k s u hr kk
theorem aLx{t q:Nat}{x:Operand}{ps qs:List CP}(f:ev E x=some (.vc (pM ps)))(h:TyA S.P t q)(e:pW q ps=some qs)(j:Nat.blt d S.N=true)(s:cZ ops E g)(k:GL S ops κ rest H ((d,.va qs)::E) Q):GL S ops κ (⟨some d,.load t x,ty,pos,af,g⟩::rest) H E Q:=
 jH (vF q rfl e (.agg h (tB e))) ⟨dB f,trivial⟩ s j k
theorem aKZ{t q:Nat}{x:Operand}{ps qs:List CP}(h:∀G,o5 l0 ms E outs G i x=some (.vc (pM ps)))(j:TyA S.P t q)(e:pW q ps=some qs)(k:Nat.blt d S.N=true)(s:GD l0 ms E outs i g)(u:kF ms [] i [0]=true){f:List Ou}(hr:f=.v (.va qs)::ro)(kk:DN S H l0 ms E outs n (i+1) l ro):DN S H l0 ms E outs (n+1) i (⟨some d,.load t x,ty,pos,af,g⟩::l) f:=
 gA (fun A=>vF q rfl e (.agg j (tB e))) (fun G=>⟨bE (h G),trivial⟩) k s u hr kk
theorem aMZ{t off:Nat}{x:Operand}{β:Option Nat}{e:HA}{q:CP}(j:ev E x=some (.vc (pP β off)))(s:Ty1 S.P t)(u:fY H β e)(y:pW 1 (e.ps.drop off)=some [q])(z:Nat.blt d S.N=true)(F:cZ ops E g)(k:GL S ops κ rest H ((d,.vc q)::E) Q):GL S ops κ (⟨some d,.load t x,ty,pos,af,g⟩::rest) H E Q:=by
 obtain⟨i,f,h⟩:=u.at;exact jH (iN i 1 rfl f h y (.one s)) ⟨dB j,trivial⟩ F z k
theorem aNU{t off:Nat}{x:Operand}{β:Option Nat}{e:HA}{q:CP}(k:∀G,o5 l0 ms E outs G i x=some (.vc (pP β off)))(s:Ty1 S.P t)(u:fY H β e)(y:pW 1 (e.ps.drop off)=some [q])(z:Nat.blt d S.N=true)(F:GD l0 ms E outs i g)(I:kF ms [] i [0]=true){j:List Ou}(hr:j=.v (.vc q)::ro)(kk:DN S H l0 ms E outs n (i+1) l ro):DN S H l0 ms E outs (n+1) i (⟨some d,.load t x,ty,pos,af,g⟩::l) j:=by
 refine gA (ins:=[(x,(.vc (pP β off)))]) (fun A=>?_) (fun G=>⟨bE (k G),trivial⟩) z F I hr kk;obtain⟨i,f,h⟩:=(u.app (A:=A)).at;exact iN i 1 rfl f h y (.one s)
theorem aNH{t m off:Nat}{x:Operand}{β:Option Nat}{e:HA}{qs:List CP}(q:ev E x=some (.vc (pP β off)))(s:TyA S.P t m)(u:fY H β e)(j:pW m (e.ps.drop off)=some qs)(y:Nat.blt d S.N=true)(z:cZ ops E g)(k:GL S ops κ rest H ((d,.va qs)::E) Q):GL S ops κ (⟨some d,.load t x,ty,pos,af,g⟩::rest) H E Q:=by
 obtain⟨i,f,h⟩:=u.at;exact jH (iN i m rfl f h j (.agg s (tB j))) ⟨dB q,trivial⟩ z y k
theorem aMX{t m off:Nat}{x:Operand}{β:Option Nat}{e:HA}{qs:List CP}(q:∀G,o5 l0 ms E outs G i x=some (.vc (pP β off)))(s:TyA S.P t m)(u:fY H β e)(j:pW m (e.ps.drop off)=some qs)(y:Nat.blt d S.N=true)(z:GD l0 ms E outs i g)(F:kF ms [] i [0]=true){k:List Ou}(hr:k=.v (.va qs)::ro)(kk:DN S H l0 ms E outs n (i+1) l ro):DN S H l0 ms E outs (n+1) i (⟨some d,.load t x,ty,pos,af,g⟩::l) k:=by
 refine gA (ins:=[(x,(.vc (pP β off)))]) (fun A=>?_) (fun G=>⟨bE (q G),trivial⟩) y z F hr kk;obtain⟨i,f,h⟩:=(u.app (A:=A)).at;exact iN i m rfl f h j (.agg s (tB j))
theorem aLa{α:Type}{C:Cd α}{xs:List α}{β:Option Nat}{c T f:Nat}{t e bytes:Nat}{x y:Operand}{j:Int}{k:IntKind}{z:α}(s:ev E x=some (.vc (pO β f c)))(u:ev E y=some (.vc (pI k j)))(F:fY H β (hO C β c T f xs))(G:xs.length=f)(I:TyS S.P t e C.n bytes)(J:Nat.blt d S.N=true)(K:cZ ops E g)(q:cT xs j=some z)(k:GL S ops κ rest H ((d,.vc (pE β j C.n 0))::E) Q):GL S ops κ (⟨some d,.indexAddr t x y,ty,pos,af,g⟩::rest) H E Q:=by
 obtain⟨i,h,L⟩:=F.at;exact jH (pV i rfl I h G (bD q).1 (bD q).2.1) ⟨dB s,dB u,trivial⟩ K J k
theorem aKB{α:Type}{C:Cd α}{xs:List α}{β:Option Nat}{c T f:Nat}{t e bytes:Nat}{x y:Operand}{j:Int}{k:IntKind}{z:α}(u:∀G,o5 l0 ms E outs G i x=some (.vc (pO β f c)))(F:∀G,o5 l0 ms E outs G i y=some (.vc (pI k j)))(I:fY H β (hO C β c T f xs))(J:xs.length=f)(K:TyS S.P t e C.n bytes)(L:Nat.blt d S.N=true)(O:GD l0 ms E outs i g)(U:kF ms [] i [0]=true)(q:cT xs j=some z){s:List Ou}(hr:s=.v (.vc (pE β j C.n 0))::ro)(kk:DN S H l0 ms E outs n (i+1) l ro):DN S H l0 ms E outs (n+1) i (⟨some d,.indexAddr t x y,ty,pos,af,g⟩::l) s:=by
 refine gA (ins:=[(x,(.vc (pO β f c))),(y,(.vc (pI k j)))]) (fun A=>?_) (fun G=>⟨bE (u G),bE (F G),trivial⟩) L O U hr kk;obtain⟨i,h,V⟩:=(I.app (A:=A)).at;exact pV i rfl K h J (bD q).1 (bD q).2.1
theorem aK7{α:Type}{C:Cd α}{xs:List α}{β:Option Nat}{c T f:Nat}{t e k bytes:Nat}{x:Operand}(h:ev E x=some (.vc (pO β f c)))(j:fY H β (hO C β c T f xs))(q:xs.length=f)(s:TyS S.P t e k bytes)(u:Nat.blt d S.N=true)(y:cZ ops E g)(k:GL S ops κ rest H ((d,.vc (pI .i64 xs.length))::E) Q):GL S ops κ (⟨some d,.call {callee:=.builtin .len,args:=#[x],argTypes:=#[t]},ty,pos,af,g⟩::rest) H E Q:=by
 obtain⟨i,z,F⟩:=j.at;exact jH (aDl (C:=C) (T:=T) rfl s q) ⟨dB h,trivial⟩ y u k
theorem aKM{α:Type}{C:Cd α}{xs:List α}{β:Option Nat}{c T f:Nat}{t e k bytes:Nat}{x:Operand}(j:∀G,o5 l0 ms E outs G i x=some (.vc (pO β f c)))(q:fY H β (hO C β c T f xs))(s:xs.length=f)(u:TyS S.P t e k bytes)(y:Nat.blt d S.N=true)(z:GD l0 ms E outs i g)(F:kF ms [] i [0]=true){h:List Ou}(hr:h=.v (.vc (pI .i64 xs.length))::ro)(kk:DN S H l0 ms E outs n (i+1) l ro):DN S H l0 ms E outs (n+1) i (⟨some d,.call {callee:=.builtin .len,args:=#[x],argTypes:=#[t]},ty,pos,af,g⟩::l) h:=by
 refine gA (ins:=[(x,(.vc (pO β f c)))]) (fun A=>?_) (fun G=>⟨bE (j G),trivial⟩) y z F hr kk;obtain⟨i,I,J⟩:=(q.app (A:=A)).at;exact aDl (C:=C) (T:=T) rfl u s
theorem aIH{α:Type}{C:Cd α}{xs:List α}{β:Option Nat}{c T h:Nat}{t off m:Nat}{x:Operand}{j:Int}{z:α}{q:CP}(s:ev E x=some (.vc (pE β j m off)))(u:fY H β (hO C β c T h xs))(hm:C.n=m)(y:cT xs j=some z)(F:Ty1 S.P t)(G:pW 1 ((C.e z).drop off)=some [q])(I:Nat.ble (off+1) C.n=true)(J:Nat.blt d S.N=true)(K:cZ ops E g)(k:GL S ops κ rest H ((d,.vc q)::E) Q):GL S ops κ (⟨some d,.load t x,ty,pos,af,g⟩::rest) H E Q:=by
 subst hm;obtain⟨i,f,L⟩:=u.at;exact jH (sP (k:=1) i rfl f y G (.one F) I) ⟨dB s,trivial⟩ K J k
theorem aHY{α:Type}{C:Cd α}{xs:List α}{β:Option Nat}{c T s:Nat}{t off m:Nat}{x:Operand}{j:Int}{z:α}{q:CP}(u:∀G,o5 l0 ms E outs G i x=some (.vc (pE β j m off)))(y:fY H β (hO C β c T s xs))(hm:C.n=m)(F:cT xs j=some z)(I:Ty1 S.P t)(J:pW 1 ((C.e z).drop off)=some [q])(K:Nat.ble (off+1) C.n=true)(L:Nat.blt d S.N=true)(O:GD l0 ms E outs i g)(U:kF ms [] i [0]=true){h:List Ou}(hr:h=.v (.vc q)::ro)(kk:DN S H l0 ms E outs n (i+1) l ro):DN S H l0 ms E outs (n+1) i (⟨some d,.load t x,ty,pos,af,g⟩::l) h:=by
 subst hm;refine gA (ins:=[(x,(.vc (pE β j C.n off)))]) (fun A=>?_) (fun G=>⟨bE (u G),trivial⟩) L O U hr kk;obtain⟨i,f,V⟩:=(y.app (A:=A)).at;exact sP (k:=1) i rfl f F J (.one I) K
theorem aH0{α:Type}{C:Cd α}{xs:List α}{β:Option Nat}{c T q:Nat}{t off m u:Nat}{x:Operand}{j:Int}{z:α}{qs:List CP}(s:ev E x=some (.vc (pE β j m off)))(y:fY H β (hO C β c T q xs))(hm:C.n=m)(F:cT xs j=some z)(G:TyA S.P t u)(h:pW u ((C.e z).drop off)=some qs)(I:Nat.ble (off+u) C.n=true)(J:Nat.blt d S.N=true)(K:cZ ops E g)(k:GL S ops κ rest H ((d,.va qs)::E) Q):GL S ops κ (⟨some d,.load t x,ty,pos,af,g⟩::rest) H E Q:=by
 subst hm;obtain⟨i,f,L⟩:=y.at;exact jH (sP (k:=u) i rfl f F h (.agg G (tB h)) I) ⟨dB s,trivial⟩ K J k
theorem aJj{α:Type}{C:Cd α}{xs:List α}{β:Option Nat}{c T s:Nat}{t off m u:Nat}{x:Operand}{j:Int}{z:α}{qs:List CP}(y:∀G,o5 l0 ms E outs G i x=some (.vc (pE β j m off)))(F:fY H β (hO C β c T s xs))(hm:C.n=m)(I:cT xs j=some z)(J:TyA S.P t u)(h:pW u ((C.e z).drop off)=some qs)(K:Nat.ble (off+u) C.n=true)(L:Nat.blt d S.N=true)(O:GD l0 ms E outs i g)(U:kF ms [] i [0]=true){q:List Ou}(hr:q=.v (.va qs)::ro)(kk:DN S H l0 ms E outs n (i+1) l ro):DN S H l0 ms E outs (n+1) i (⟨some d,.load t x,ty,pos,af,g⟩::l) q:=by
 subst hm;refine gA (ins:=[(x,(.vc (pE β j C.n off)))]) (fun A=>?_) (fun G=>⟨bE (y G),trivial⟩) L O U hr kk;obtain⟨i,f,V⟩:=(F.app (A:=A)).at;exact sP (k:=u) i rfl f I h (.agg J (tB h)) K
theorem ty1s{P:Program}{t:Nat}[h:Ty1 P t]:(P.info? t).map (·.size)=some 1:=h.s
theorem tyAs{P:Program}{t k:Nat}[h:TyA P t k]:(P.info? t).map (·.size)=some k:=h.s
theorem aGp{α:Type}{C:Cd α}{xs zs:List α}{β:Option Nat}{c T f:Nat}{t off m u:Nat}{x y:Operand}{j:Int}{z s:α}{p:VP}(F:ev E x=some (.vc (pE β j m off)))(G:ev E y=some p)(V:fY H β (hO C β c T f xs))(hm:C.n=m)(I:cT xs j=some z)(hs:oZ xs j s=some zs)(J:(S.P.info? t).map (·.size)=some u)(hr:t8 H β (hO C β c T f xs) (hO C β c T f zs) H')(hp:p.flat)(K:p.cells.length=u)(L:tM (C.e z) off p.cells=some (C.e s))(k:GL S ops κ rest H' E Q):GL S ops κ (⟨none,.store t x y,ty,pos,af,none⟩::rest) H E Q:=by
 obtain⟨i,O,h2,U⟩:=hr.at;subst hm;exact⟨fun q=>mU (aCa i rfl O I hs J hp K L U) ⟨dB F,dB G,trivial⟩ (k.h q) rfl rfl⟩
theorem aM6{α:Type}{C:Cd α}{xs:List α}{t e q bytes:Nat}{x:Operand}(f:ev E x=some (.vc (pS C xs)))(h:TyS S.P t e q bytes)(j:Nat.blt d S.N=true)(s:cZ ops E g)(k:GL S ops κ rest H ((d,.vc (pI .i64 xs.length))::E) Q):GL S ops κ (⟨some d,.call {callee:=.builtin .len,args:=#[x],argTypes:=#[t]},ty,pos,af,g⟩::rest) H E Q:=
 jH (aCV rfl h) ⟨dB f,trivial⟩ s j k
theorem aNv{α:Type}{C:Cd α}{xs:List α}{t e q bytes:Nat}{x:Operand}(h:∀G,o5 l0 ms E outs G i x=some (.vc (pS C xs)))(j:TyS S.P t e q bytes)(k:Nat.blt d S.N=true)(s:GD l0 ms E outs i g)(u:kF ms [] i [0]=true){f:List Ou}(hr:f=.v (.vc (pI .i64 xs.length))::ro)(kk:DN S H l0 ms E outs n (i+1) l ro):DN S H l0 ms E outs (n+1) i (⟨some d,.call {callee:=.builtin .len,args:=#[x],argTypes:=#[t]},ty,pos,af,g⟩::l) f:=
 gA (fun A=>aCV rfl j) (fun G=>⟨bE (h G),trivial⟩) k s u hr kk
theorem aN0{T T':Nat}{x y:Operand}{u v:Int}{k:IntKind}(e:ev E x=some (.vc (pI k u)))(f:ev E y=some (.vc (pI k v)))(h:Nat.blt d S.N=true)(j:cZ ops E g)(k:GL S ops κ rest H ((d,.vc (pB (decide (u<v))))::E) Q):GL S ops κ (⟨some d,.binOp .lss T x y T',ty,pos,af,g⟩::rest) H E Q:=
 jH (aFI rfl) ⟨dB e,dB f,trivial⟩ j h k
theorem aNS{T T':Nat}{x y:Operand}{u v:Int}{k:IntKind}(f:∀G,o5 l0 ms E outs G i x=some (.vc (pI k u)))(h:∀G,o5 l0 ms E outs G i y=some (.vc (pI k v)))(j:Nat.blt d S.N=true)(q:GD l0 ms E outs i g)(s:kF ms [] i [0]=true){e:List Ou}(hr:e=.v (.vc (pB (decide (u<v))))::ro)(kk:DN S H l0 ms E outs n (i+1) l ro):DN S H l0 ms E outs (n+1) i (⟨some d,.binOp .lss T x y T',ty,pos,af,g⟩::l) e:=
 gA (fun A=>aFI rfl) (fun G=>⟨bE (f G),bE (h G),trivial⟩) j q s hr kk
theorem aN2{T T':Nat}{x y:Operand}{u v:Int}{k:IntKind}{w:Bool}(f:∀G,o5 l0 ms E outs G i x=some (.vc (pI k u)))(h:∀G,o5 l0 ms E outs G i y=some (.vc (pI k v)))(j:Nat.blt d S.N=true)(q:GD l0 ms E outs i g)(s:kF ms [] i [0]=true)(hb:(decide (u<v))=w){e:List Ou}(hr:e=.v (.vc (pB w))::ro)(kk:DN S H l0 ms E outs n (i+1) l ro):DN S H l0 ms E outs (n+1) i (⟨some d,.binOp .lss T x y T',ty,pos,af,g⟩::l) e:=
 gA (fun A=>gN (aFI rfl) hb) (fun G=>⟨bE (f G),bE (h G),trivial⟩) j q s hr kk
theorem aM9{T T':Nat}{x y:Operand}{u v:Int}{k:IntKind}(e:ev E x=some (.vc (pI k u)))(f:ev E y=some (.vc (pI k v)))(h:Nat.blt d S.N=true)(j:cZ ops E g)(k:GL S ops κ rest H ((d,.vc (pB (u==v)))::E) Q):GL S ops κ (⟨some d,.binOp .eql T x y T',ty,pos,af,g⟩::rest) H E Q:=
 jH (vY rfl) ⟨dB e,dB f,trivial⟩ j h k
theorem aMR{T T':Nat}{x y:Operand}{u v:Int}{k:IntKind}(f:∀G,o5 l0 ms E outs G i x=some (.vc (pI k u)))(h:∀G,o5 l0 ms E outs G i y=some (.vc (pI k v)))(j:Nat.blt d S.N=true)(q:GD l0 ms E outs i g)(s:kF ms [] i [0]=true){e:List Ou}(hr:e=.v (.vc (pB (u==v)))::ro)(kk:DN S H l0 ms E outs n (i+1) l ro):DN S H l0 ms E outs (n+1) i (⟨some d,.binOp .eql T x y T',ty,pos,af,g⟩::l) e:=
 gA (fun A=>vY rfl) (fun G=>⟨bE (f G),bE (h G),trivial⟩) j q s hr kk
theorem aN1{T T':Nat}{x y:Operand}{u v:Int}{k:IntKind}{w:Bool}(f:∀G,o5 l0 ms E outs G i x=some (.vc (pI k u)))(h:∀G,o5 l0 ms E outs G i y=some (.vc (pI k v)))(j:Nat.blt d S.N=true)(q:GD l0 ms E outs i g)(s:kF ms [] i [0]=true)(hb:(u==v)=w){e:List Ou}(hr:e=.v (.vc (pB w))::ro)(kk:DN S H l0 ms E outs n (i+1) l ro):DN S H l0 ms E outs (n+1) i (⟨some d,.binOp .eql T x y T',ty,pos,af,g⟩::l) e:=
 gA (fun A=>gN (vY rfl) hb) (fun G=>⟨bE (f G),bE (h G),trivial⟩) j q s hr kk
theorem aNd{T T':Nat}{x y:Operand}{u v:Int}{k:IntKind}(e:ev E x=some (.vc (pI k u)))(f:ev E y=some (.vc (pI k v)))(h:Nat.blt d S.N=true)(j:cZ ops E g)(k:GL S ops κ rest H ((d,.vc (pB (u != v)))::E) Q):GL S ops κ (⟨some d,.binOp .neq T x y T',ty,pos,af,g⟩::rest) H E Q:=
 jH (z6 rfl) ⟨dB e,dB f,trivial⟩ j h k
theorem aMQ{T T':Nat}{x y:Operand}{u v:Int}{k:IntKind}(f:∀G,o5 l0 ms E outs G i x=some (.vc (pI k u)))(h:∀G,o5 l0 ms E outs G i y=some (.vc (pI k v)))(j:Nat.blt d S.N=true)(q:GD l0 ms E outs i g)(s:kF ms [] i [0]=true){e:List Ou}(hr:e=.v (.vc (pB (u != v)))::ro)(kk:DN S H l0 ms E outs n (i+1) l ro):DN S H l0 ms E outs (n+1) i (⟨some d,.binOp .neq T x y T',ty,pos,af,g⟩::l) e:=
 gA (fun A=>z6 rfl) (fun G=>⟨bE (f G),bE (h G),trivial⟩) j q s hr kk
theorem aNK{T T':Nat}{x y:Operand}{u v:Int}{k:IntKind}{w:Bool}(f:∀G,o5 l0 ms E outs G i x=some (.vc (pI k u)))(h:∀G,o5 l0 ms E outs G i y=some (.vc (pI k v)))(j:Nat.blt d S.N=true)(q:GD l0 ms E outs i g)(s:kF ms [] i [0]=true)(hb:(u != v)=w){e:List Ou}(hr:e=.v (.vc (pB w))::ro)(kk:DN S H l0 ms E outs n (i+1) l ro):DN S H l0 ms E outs (n+1) i (⟨some d,.binOp .neq T x y T',ty,pos,af,g⟩::l) e:=
 gA (fun A=>gN (z6 rfl) hb) (fun G=>⟨bE (f G),bE (h G),trivial⟩) j q s hr kk
theorem aNk{T T':Nat}{x y:Operand}{u v:Int}{k:IntKind}(e:ev E x=some (.vc (pI k u)))(f:ev E y=some (.vc (pI k v)))(h:Nat.blt d S.N=true)(j:cZ ops E g)(k:GL S ops κ rest H ((d,.vc (pB (decide (u≤v))))::E) Q):GL S ops κ (⟨some d,.binOp .leq T x y T',ty,pos,af,g⟩::rest) H E Q:=
 jH (aBU rfl) ⟨dB e,dB f,trivial⟩ j h k
theorem aNg{T T':Nat}{x y:Operand}{u v:Int}{k:IntKind}(f:∀G,o5 l0 ms E outs G i x=some (.vc (pI k u)))(h:∀G,o5 l0 ms E outs G i y=some (.vc (pI k v)))(j:Nat.blt d S.N=true)(q:GD l0 ms E outs i g)(s:kF ms [] i [0]=true){e:List Ou}(hr:e=.v (.vc (pB (decide (u≤v))))::ro)(kk:DN S H l0 ms E outs n (i+1) l ro):DN S H l0 ms E outs (n+1) i (⟨some d,.binOp .leq T x y T',ty,pos,af,g⟩::l) e:=
 gA (fun A=>aBU rfl) (fun G=>⟨bE (f G),bE (h G),trivial⟩) j q s hr kk
theorem aNq{T T':Nat}{x y:Operand}{u v:Int}{k:IntKind}{w:Bool}(f:∀G,o5 l0 ms E outs G i x=some (.vc (pI k u)))(h:∀G,o5 l0 ms E outs G i y=some (.vc (pI k v)))(j:Nat.blt d S.N=true)(q:GD l0 ms E outs i g)(s:kF ms [] i [0]=true)(hb:(decide (u≤v))=w){e:List Ou}(hr:e=.v (.vc (pB w))::ro)(kk:DN S H l0 ms E outs n (i+1) l ro):DN S H l0 ms E outs (n+1) i (⟨some d,.binOp .leq T x y T',ty,pos,af,g⟩::l) e:=
 gA (fun A=>gN (aBU rfl) hb) (fun G=>⟨bE (f G),bE (h G),trivial⟩) j q s hr kk
theorem aNy{T T':Nat}{x y:Operand}{u v:Int}{k:IntKind}(e:ev E x=some (.vc (pI k u)))(f:ev E y=some (.vc (pI k v)))(h:Nat.blt d S.N=true)(j:cZ ops E g)(k:GL S ops κ rest H ((d,.vc (pB (decide (v<u))))::E) Q):GL S ops κ (⟨some d,.binOp .gtr T x y T',ty,pos,af,g⟩::rest) H E Q:=
 jH (aMt rfl) ⟨dB e,dB f,trivial⟩ j h k
theorem aMN{T T':Nat}{x y:Operand}{u v:Int}{k:IntKind}(f:∀G,o5 l0 ms E outs G i x=some (.vc (pI k u)))(h:∀G,o5 l0 ms E outs G i y=some (.vc (pI k v)))(j:Nat.blt d S.N=true)(q:GD l0 ms E outs i g)(s:kF ms [] i [0]=true){e:List Ou}(hr:e=.v (.vc (pB (decide (v<u))))::ro)(kk:DN S H l0 ms E outs n (i+1) l ro):DN S H l0 ms E outs (n+1) i (⟨some d,.binOp .gtr T x y T',ty,pos,af,g⟩::l) e:=
 gA (fun A=>aMt rfl) (fun G=>⟨bE (f G),bE (h G),trivial⟩) j q s hr kk
theorem aMY{T T':Nat}{x y:Operand}{u v:Int}{k:IntKind}{w:Bool}(f:∀G,o5 l0 ms E outs G i x=some (.vc (pI k u)))(h:∀G,o5 l0 ms E outs G i y=some (.vc (pI k v)))(j:Nat.blt d S.N=true)(q:GD l0 ms E outs i g)(s:kF ms [] i [0]=true)(hb:(decide (v<u))=w){e:List Ou}(hr:e=.v (.vc (pB w))::ro)(kk:DN S H l0 ms E outs n (i+1) l ro):DN S H l0 ms E outs (n+1) i (⟨some d,.binOp .gtr T x y T',ty,pos,af,g⟩::l) e:=
 gA (fun A=>gN (aMt rfl) hb) (fun G=>⟨bE (f G),bE (h G),trivial⟩) j q s hr kk
theorem aNG{T T':Nat}{x y:Operand}{u v:Int}{k:IntKind}(e:ev E x=some (.vc (pI k u)))(f:ev E y=some (.vc (pI k v)))(h:Nat.blt d S.N=true)(j:cZ ops E g)(k:GL S ops κ rest H ((d,.vc (pB (decide (v≤u))))::E) Q):GL S ops κ (⟨some d,.binOp .geq T x y T',ty,pos,af,g⟩::rest) H E Q:=
 jH (aMo rfl) ⟨dB e,dB f,trivial⟩ j h k
theorem aM4{T T':Nat}{x y:Operand}{u v:Int}{k:IntKind}(f:∀G,o5 l0 ms E outs G i x=some (.vc (pI k u)))(h:∀G,o5 l0 ms E outs G i y=some (.vc (pI k v)))(j:Nat.blt d S.N=true)(q:GD l0 ms E outs i g)(s:kF ms [] i [0]=true){e:List Ou}(hr:e=.v (.vc (pB (decide (v≤u))))::ro)(kk:DN S H l0 ms E outs n (i+1) l ro):DN S H l0 ms E outs (n+1) i (⟨some d,.binOp .geq T x y T',ty,pos,af,g⟩::l) e:=
 gA (fun A=>aMo rfl) (fun G=>⟨bE (f G),bE (h G),trivial⟩) j q s hr kk
theorem aNY{T T':Nat}{x y:Operand}{u v:Int}{k:IntKind}{w:Bool}(f:∀G,o5 l0 ms E outs G i x=some (.vc (pI k u)))(h:∀G,o5 l0 ms E outs G i y=some (.vc (pI k v)))(j:Nat.blt d S.N=true)(q:GD l0 ms E outs i g)(s:kF ms [] i [0]=true)(hb:(decide (v≤u))=w){e:List Ou}(hr:e=.v (.vc (pB w))::ro)(kk:DN S H l0 ms E outs n (i+1) l ro):DN S H l0 ms E outs (n+1) i (⟨some d,.binOp .geq T x y T',ty,pos,af,g⟩::l) e:=
 gA (fun A=>gN (aMo rfl) hb) (fun G=>⟨bE (f G),bE (h G),trivial⟩) j q s hr kk
theorem aLI{T T':Nat}{x y:Operand}{u v r:Int}(e:ev E x=some (.vc (pI .i64 u)))(f:ev E y=some (.vc (pI .i64 v)))(j:Nat.blt d S.N=true)(q:cZ ops E g)(h:aV (u+v)=some r)(k:GL S ops κ rest H ((d,.vc (pI .i64 r))::E) Q):GL S ops κ (⟨some d,.binOp .add T x y T',ty,pos,af,g⟩::rest) H E Q:=
 jH (sS rfl h) ⟨dB e,dB f,trivial⟩ q j k
theorem aLd{T T':Nat}{x y:Operand}{u v r:Int}(f:∀G,o5 l0 ms E outs G i x=some (.vc (pI .i64 u)))(j:∀G,o5 l0 ms E outs G i y=some (.vc (pI .i64 v)))(k:Nat.blt d S.N=true)(q:GD l0 ms E outs i g)(s:kF ms [] i [0]=true)(h:aV (u+v)=some r){e:List Ou}(hr:e=.v (.vc (pI .i64 r))::ro)(kk:DN S H l0 ms E outs n (i+1) l ro):DN S H l0 ms E outs (n+1) i (⟨some d,.binOp .add T x y T',ty,pos,af,g⟩::l) e:=
 gA (fun A=>sS rfl h) (fun G=>⟨bE (f G),bE (j G),trivial⟩) k q s hr kk
theorem aKG{T T':Nat}{x y:Operand}{u v r:Int}(e:ev E x=some (.vc (pI .i64 u)))(f:ev E y=some (.vc (pI .i64 v)))(j:Nat.blt d S.N=true)(q:cZ ops E g)(h:aV (u-v)=some r)(k:GL S ops κ rest H ((d,.vc (pI .i64 r))::E) Q):GL S ops κ (⟨some d,.binOp .sub T x y T',ty,pos,af,g⟩::rest) H E Q:=
 jH (aBX rfl h) ⟨dB e,dB f,trivial⟩ q j k
theorem aKJ{T T':Nat}{x y:Operand}{u v r:Int}(f:∀G,o5 l0 ms E outs G i x=some (.vc (pI .i64 u)))(j:∀G,o5 l0 ms E outs G i y=some (.vc (pI .i64 v)))(k:Nat.blt d S.N=true)(q:GD l0 ms E outs i g)(s:kF ms [] i [0]=true)(h:aV (u-v)=some r){e:List Ou}(hr:e=.v (.vc (pI .i64 r))::ro)(kk:DN S H l0 ms E outs n (i+1) l ro):DN S H l0 ms E outs (n+1) i (⟨some d,.binOp .sub T x y T',ty,pos,af,g⟩::l) e:=
 gA (fun A=>aBX rfl h) (fun G=>⟨bE (f G),bE (j G),trivial⟩) k q s hr kk
theorem aLB{T T':Nat}{x y:Operand}{u v r:Int}(e:ev E x=some (.vc (pI .i64 u)))(f:ev E y=some (.vc (pI .i64 v)))(j:Nat.blt d S.N=true)(q:cZ ops E g)(h:aV (u*v)=some r)(k:GL S ops κ rest H ((d,.vc (pI .i64 r))::E) Q):GL S ops κ (⟨some d,.binOp .mul T x y T',ty,pos,af,g⟩::rest) H E Q:=
 jH (aEL rfl h) ⟨dB e,dB f,trivial⟩ q j k
theorem aLy{T T':Nat}{x y:Operand}{u v r:Int}(f:∀G,o5 l0 ms E outs G i x=some (.vc (pI .i64 u)))(j:∀G,o5 l0 ms E outs G i y=some (.vc (pI .i64 v)))(k:Nat.blt d S.N=true)(q:GD l0 ms E outs i g)(s:kF ms [] i [0]=true)(h:aV (u*v)=some r){e:List Ou}(hr:e=.v (.vc (pI .i64 r))::ro)(kk:DN S H l0 ms E outs n (i+1) l ro):DN S H l0 ms E outs (n+1) i (⟨some d,.binOp .mul T x y T',ty,pos,af,g⟩::l) e:=
 gA (fun A=>aEL rfl h) (fun G=>⟨bE (f G),bE (j G),trivial⟩) k q s hr kk
theorem aKy{T T':Nat}{x y:Operand}{u v r:Int}(e:ev E x=some (.vc (pI .i64 u)))(f:ev E y=some (.vc (pI .i64 v)))(j:Nat.blt d S.N=true)(q:cZ ops E g)(h:vX u v=some r)(k:GL S ops κ rest H ((d,.vc (pI .i64 r))::E) Q):GL S ops κ (⟨some d,.binOp .quo T x y T',ty,pos,af,g⟩::rest) H E Q:=
 jH (aDj rfl h) ⟨dB e,dB f,trivial⟩ q j k
theorem aLE{T T':Nat}{x y:Operand}{u v r:Int}(f:∀G,o5 l0 ms E outs G i x=some (.vc (pI .i64 u)))(j:∀G,o5 l0 ms E outs G i y=some (.vc (pI .i64 v)))(k:Nat.blt d S.N=true)(q:GD l0 ms E outs i g)(s:kF ms [] i [0]=true)(h:vX u v=some r){e:List Ou}(hr:e=.v (.vc (pI .i64 r))::ro)(kk:DN S H l0 ms E outs n (i+1) l ro):DN S H l0 ms E outs (n+1) i (⟨some d,.binOp .quo T x y T',ty,pos,af,g⟩::l) e:=
 gA (fun A=>aDj rfl h) (fun G=>⟨bE (f G),bE (j G),trivial⟩) k q s hr kk
theorem aKY{T T':Nat}{x y:Operand}{u v r:Int}{k:IntKind}(e:ev E x=some (.vc (pI k u)))(f:ev E y=some (.vc (pI k v)))(j:Nat.blt d S.N=true)(q:cZ ops E g)(h:wA u v=some r)(k:GL S ops κ rest H ((d,.vc (pI k r))::E) Q):GL S ops κ (⟨some d,.binOp .rem T x y T',ty,pos,af,g⟩::rest) H E Q:=
 jH (zR rfl h) ⟨dB e,dB f,trivial⟩ q j k
theorem aK9{T T':Nat}{x y:Operand}{u v r:Int}{k:IntKind}(f:∀G,o5 l0 ms E outs G i x=some (.vc (pI k u)))(j:∀G,o5 l0 ms E outs G i y=some (.vc (pI k v)))(q:Nat.blt d S.N=true)(s:GD l0 ms E outs i g)(t:kF ms [] i [0]=true)(h:wA u v=some r){e:List Ou}(hr:e=.v (.vc (pI k r))::ro)(kk:DN S H l0 ms E outs n (i+1) l ro):DN S H l0 ms E outs (n+1) i (⟨some d,.binOp .rem T x y T',ty,pos,af,g⟩::l) e:=
 gA (fun A=>zR rfl h) (fun G=>⟨bE (f G),bE (j G),trivial⟩) q s t hr kk
theorem aLf{T:Nat}{x:Operand}{u:Bool}(e:ev E x=some (.vc (pB u)))(f:Nat.blt d S.N=true)(h:cZ ops E g)(k:GL S ops κ rest H ((d,.vc (pB (!u)))::E) Q):GL S ops κ (⟨some d,.unOp .not T x,ty,pos,af,g⟩::rest) H E Q:=
 jH (aGh rfl) ⟨dB e,trivial⟩ h f k
theorem aLz{T:Nat}{x:Operand}{u:Bool}(f:∀G,o5 l0 ms E outs G i x=some (.vc (pB u)))(h:Nat.blt d S.N=true)(j:GD l0 ms E outs i g)(k:kF ms [] i [0]=true){e:List Ou}(hr:e=.v (.vc (pB (!u)))::ro)(kk:DN S H l0 ms E outs n (i+1) l ro):DN S H l0 ms E outs (n+1) i (⟨some d,.unOp .not T x,ty,pos,af,g⟩::l) e:=
 gA (fun A=>aGh rfl) (fun G=>⟨bE (f G),trivial⟩) h j k hr kk
theorem aMd{T:Nat}{x:Operand}{u:Bool}{w:Bool}(f:∀G,o5 l0 ms E outs G i x=some (.vc (pB u)))(h:Nat.blt d S.N=true)(j:GD l0 ms E outs i g)(k:kF ms [] i [0]=true)(hb:(!u)=w){e:List Ou}(hr:e=.v (.vc (pB w))::ro)(kk:DN S H l0 ms E outs n (i+1) l ro):DN S H l0 ms E outs (n+1) i (⟨some d,.unOp .not T x,ty,pos,af,g⟩::l) e:=
 gA (fun A=>gN (aGh rfl) hb) (fun G=>⟨bE (f G),trivial⟩) h j k hr kk
theorem aLp{T:Nat}{x:Operand}{u r:Int}(e:ev E x=some (.vc (pI .i64 u)))(f:Nat.blt d S.N=true)(j:cZ ops E g)(h:aV (-u)=some r)(k:GL S ops κ rest H ((d,.vc (pI .i64 r))::E) Q):GL S ops κ (⟨some d,.unOp .neg T x,ty,pos,af,g⟩::rest) H E Q:=
 jH (aKU rfl h) ⟨dB e,trivial⟩ j f k
theorem aLu{T:Nat}{x:Operand}{u r:Int}(f:∀G,o5 l0 ms E outs G i x=some (.vc (pI .i64 u)))(j:Nat.blt d S.N=true)(k:GD l0 ms E outs i g)(q:kF ms [] i [0]=true)(h:aV (-u)=some r){e:List Ou}(hr:e=.v (.vc (pI .i64 r))::ro)(kk:DN S H l0 ms E outs n (i+1) l ro):DN S H l0 ms E outs (n+1) i (⟨some d,.unOp .neg T x,ty,pos,af,g⟩::l) e:=
 gA (fun A=>aKU rfl h) (fun G=>⟨bE (f G),trivial⟩) j k q hr kk
theorem aLm{x:Operand}{p q:VP}(e:ev E x=some (.t2 p q))(f:Nat.blt d S.N=true)(h:cZ ops E g)(k:GL S ops κ rest H ((d,p)::E) Q):GL S ops κ (⟨some d,.extract x 0,ty,pos,af,g⟩::rest) H E Q:=
 jH (sG rfl) ⟨dB e,trivial⟩ h f k
theorem aK1{x:Operand}{p q:VP}(f:∀G,o5 l0 ms E outs G i x=some (.t2 p q))(h:Nat.blt d S.N=true)(j:GD l0 ms E outs i g)(k:kF ms [] i [0]=true){e:List Ou}(hr:e=.v (p)::ro)(kk:DN S H l0 ms E outs n (i+1) l ro):DN S H l0 ms E outs (n+1) i (⟨some d,.extract x 0,ty,pos,af,g⟩::l) e:=
 gA (fun A=>sG rfl) (fun G=>⟨bE (f G),trivial⟩) h j k hr kk
theorem aKW{x:Operand}{p q:VP}(e:ev E x=some (.t2 p q))(f:Nat.blt d S.N=true)(h:cZ ops E g)(k:GL S ops κ rest H ((d,q)::E) Q):GL S ops κ (⟨some d,.extract x 1,ty,pos,af,g⟩::rest) H E Q:=
 jH (rE rfl) ⟨dB e,trivial⟩ h f k
theorem aKE{x:Operand}{p q:VP}(f:∀G,o5 l0 ms E outs G i x=some (.t2 p q))(h:Nat.blt d S.N=true)(j:GD l0 ms E outs i g)(k:kF ms [] i [0]=true){e:List Ou}(hr:e=.v (q)::ro)(kk:DN S H l0 ms E outs n (i+1) l ro):DN S H l0 ms E outs (n+1) i (⟨some d,.extract x 1,ty,pos,af,g⟩::l) e:=
 gA (fun A=>rE rfl) (fun G=>⟨bE (f G),trivial⟩) h j k hr kk
theorem aKA{x:Operand}{p q r:VP}(e:ev E x=some (.t3 p q r))(f:Nat.blt d S.N=true)(h:cZ ops E g)(k:GL S ops κ rest H ((d,p)::E) Q):GL S ops κ (⟨some d,.extract x 0,ty,pos,af,g⟩::rest) H E Q:=
 jH (aGs rfl) ⟨dB e,trivial⟩ h f k
theorem aLD{x:Operand}{p q r:VP}(f:∀G,o5 l0 ms E outs G i x=some (.t3 p q r))(h:Nat.blt d S.N=true)(j:GD l0 ms E outs i g)(k:kF ms [] i [0]=true){e:List Ou}(hr:e=.v (p)::ro)(kk:DN S H l0 ms E outs n (i+1) l ro):DN S H l0 ms E outs (n+1) i (⟨some d,.extract x 0,ty,pos,af,g⟩::l) e:=
 gA (fun A=>aGs rfl) (fun G=>⟨bE (f G),trivial⟩) h j k hr kk
theorem aKH{x:Operand}{p q r:VP}(e:ev E x=some (.t3 p q r))(f:Nat.blt d S.N=true)(h:cZ ops E g)(k:GL S ops κ rest H ((d,q)::E) Q):GL S ops κ (⟨some d,.extract x 1,ty,pos,af,g⟩::rest) H E Q:=
 jH (aGK rfl) ⟨dB e,trivial⟩ h f k
theorem aLk{x:Operand}{p q r:VP}(f:∀G,o5 l0 ms E outs G i x=some (.t3 p q r))(h:Nat.blt d S.N=true)(j:GD l0 ms E outs i g)(k:kF ms [] i [0]=true){e:List Ou}(hr:e=.v (q)::ro)(kk:DN S H l0 ms E outs n (i+1) l ro):DN S H l0 ms E outs (n+1) i (⟨some d,.extract x 1,ty,pos,af,g⟩::l) e:=
 gA (fun A=>aGK rfl) (fun G=>⟨bE (f G),trivial⟩) h j k hr kk
theorem aLw{x:Operand}{p q r:VP}(e:ev E x=some (.t3 p q r))(f:Nat.blt d S.N=true)(h:cZ ops E g)(k:GL S ops κ rest H ((d,r)::E) Q):GL S ops κ (⟨some d,.extract x 2,ty,pos,af,g⟩::rest) H E Q:=
 jH (aGX rfl) ⟨dB e,trivial⟩ h f k
theorem aLg{x:Operand}{p q r:VP}(f:∀G,o5 l0 ms E outs G i x=some (.t3 p q r))(h:Nat.blt d S.N=true)(j:GD l0 ms E outs i g)(k:kF ms [] i [0]=true){e:List Ou}(hr:e=.v (r)::ro)(kk:DN S H l0 ms E outs n (i+1) l ro):DN S H l0 ms E outs (n+1) i (⟨some d,.extract x 2,ty,pos,af,g⟩::l) e:=
 gA (fun A=>aGX rfl) (fun G=>⟨bE (f G),trivial⟩) h j k hr kk
theorem aMK{x y:Operand}{u v:Int}{ts:Array TypeId}(e:ev E x=some (.vc (pI .i64 u)))(f:ev E y=some (.vc (pI .i64 v)))(h:Nat.blt d S.N=true)(j:cZ ops E g)(k:GL S ops κ rest H ((d,.vc (pI .i64 (min u v)))::E) Q):GL S ops κ (⟨some d,.call {callee:=.builtin .min,args:=#[x,y],argTypes:=ts},ty,pos,af,g⟩::rest) H E Q:=
 jH (aKS rfl) ⟨dB e,dB f,trivial⟩ j h k
theorem aM3{x y:Operand}{u v:Int}{ts:Array TypeId}(f:∀G,o5 l0 ms E outs G i x=some (.vc (pI .i64 u)))(h:∀G,o5 l0 ms E outs G i y=some (.vc (pI .i64 v)))(j:Nat.blt d S.N=true)(k:GD l0 ms E outs i g)(q:kF ms [] i [0]=true){e:List Ou}(hr:e=.v (.vc (pI .i64 (min u v)))::ro)(kk:DN S H l0 ms E outs n (i+1) l ro):DN S H l0 ms E outs (n+1) i (⟨some d,.call {callee:=.builtin .min,args:=#[x,y],argTypes:=ts},ty,pos,af,g⟩::l) e:=
 gA (fun A=>aKS rfl) (fun G=>⟨bE (f G),bE (h G),trivial⟩) j k q hr kk
theorem aNR{x y:Operand}{u v:Int}{ts:Array TypeId}(e:ev E x=some (.vc (pI .i64 u)))(f:ev E y=some (.vc (pI .i64 v)))(h:Nat.blt d S.N=true)(j:cZ ops E g)(k:GL S ops κ rest H ((d,.vc (pI .i64 (max u v)))::E) Q):GL S ops κ (⟨some d,.call {callee:=.builtin .max,args:=#[x,y],argTypes:=ts},ty,pos,af,g⟩::rest) H E Q:=
 jH (aKC rfl) ⟨dB e,dB f,trivial⟩ j h k
theorem aMP{x y:Operand}{u v:Int}{ts:Array TypeId}(f:∀G,o5 l0 ms E outs G i x=some (.vc (pI .i64 u)))(h:∀G,o5 l0 ms E outs G i y=some (.vc (pI .i64 v)))(j:Nat.blt d S.N=true)(k:GD l0 ms E outs i g)(q:kF ms [] i [0]=true){e:List Ou}(hr:e=.v (.vc (pI .i64 (max u v)))::ro)(kk:DN S H l0 ms E outs n (i+1) l ro):DN S H l0 ms E outs (n+1) i (⟨some d,.call {callee:=.builtin .max,args:=#[x,y],argTypes:=ts},ty,pos,af,g⟩::l) e:=
 gA (fun A=>aKC rfl) (fun G=>⟨bE (f G),bE (h G),trivial⟩) j k q hr kk
theorem aNA{α:Type}{C:Cd α}{xs zs:List α}{t e bytes:Nat}{x y:Operand}{f:Int}{k:IntKind}(j:ev E x=some (.vc (pS C xs)))(q:ev E y=some (.vc (pI k f)))(s:TyS S.P t e C.n bytes)(u:Nat.blt d S.N=true)(z:cZ ops E g)(h:xN xs 0 f=some zs)(k:GL S ops κ rest H ((d,.vc (pS C zs))::E) Q):GL S ops κ (⟨some d,.slice t x none (some y) none,ty,pos,af,g⟩::rest) H E Q:=
 jH (aDG rfl s h) ⟨dB j,dB q,trivial⟩ z u k
theorem aNX{α:Type}{C:Cd α}{xs zs:List α}{t e bytes:Nat}{x y:Operand}{f:Int}{k:IntKind}(q:∀G,o5 l0 ms E outs G i x=some (.vc (pS C xs)))(s:∀G,o5 l0 ms E outs G i y=some (.vc (pI k f)))(u:TyS S.P t e C.n bytes)(z:Nat.blt d S.N=true)(F:GD l0 ms E outs i g)(I:kF ms [] i [0]=true)(h:xN xs 0 f=some zs){j:List Ou}(hr:j=.v (.vc (pS C zs))::ro)(kk:DN S H l0 ms E outs n (i+1) l ro):DN S H l0 ms E outs (n+1) i (⟨some d,.slice t x none (some y) none,ty,pos,af,g⟩::l) j:=
 gA (fun A=>aDG rfl u h) (fun G=>⟨bE (q G),bE (s G),trivial⟩) z F I hr kk
theorem aNc{α:Type}{C:Cd α}{xs zs:List α}{t e bytes:Nat}{x y:Operand}{lo:Int}{k:IntKind}(f:ev E x=some (.vc (pS C xs)))(j:ev E y=some (.vc (pI k lo)))(q:TyS S.P t e C.n bytes)(s:Nat.blt d S.N=true)(u:cZ ops E g)(h:xN xs lo xs.length=some zs)(k:GL S ops κ rest H ((d,.vc (pS C zs))::E) Q):GL S ops κ (⟨some d,.slice t x (some y) none none,ty,pos,af,g⟩::rest) H E Q:=
 jH (aIo rfl q h) ⟨dB f,dB j,trivial⟩ u s k
theorem aNx{α:Type}{C:Cd α}{xs zs:List α}{t e bytes:Nat}{x y:Operand}{lo:Int}{k:IntKind}(j:∀G,o5 l0 ms E outs G i x=some (.vc (pS C xs)))(q:∀G,o5 l0 ms E outs G i y=some (.vc (pI k lo)))(s:TyS S.P t e C.n bytes)(u:Nat.blt d S.N=true)(z:GD l0 ms E outs i g)(F:kF ms [] i [0]=true)(h:xN xs lo xs.length=some zs){f:List Ou}(hr:f=.v (.vc (pS C zs))::ro)(kk:DN S H l0 ms E outs n (i+1) l ro):DN S H l0 ms E outs (n+1) i (⟨some d,.slice t x (some y) none none,ty,pos,af,g⟩::l) f:=
 gA (fun A=>aIo rfl s h) (fun G=>⟨bE (j G),bE (q G),trivial⟩) u z F hr kk
theorem aKN{α:Type}{C:Cd α}{xs zs:List α}{t e bytes:Nat}{x y z:Operand}{lo f:Int}{k j:IntKind}(q:ev E x=some (.vc (pS C xs)))(s:ev E y=some (.vc (pI k lo)))(u:ev E z=some (.vc (pI j f)))(F:TyS S.P t e C.n bytes)(G:Nat.blt d S.N=true)(I:cZ ops E g)(h:xN xs lo f=some zs)(k:GL S ops κ rest H ((d,.vc (pS C zs))::E) Q):GL S ops κ (⟨some d,.slice t x (some y) (some z) none,ty,pos,af,g⟩::rest) H E Q:=
 jH (aGx rfl F h) ⟨dB q,dB s,dB u,trivial⟩ I G k
theorem aKF{α:Type}{C:Cd α}{xs zs:List α}{t e bytes:Nat}{x y z:Operand}{lo f:Int}{k q:IntKind}(s:∀G,o5 l0 ms E outs G i x=some (.vc (pS C xs)))(u:∀G,o5 l0 ms E outs G i y=some (.vc (pI k lo)))(F:∀G,o5 l0 ms E outs G i z=some (.vc (pI q f)))(I:TyS S.P t e C.n bytes)(J:Nat.blt d S.N=true)(K:GD l0 ms E outs i g)(L:kF ms [] i [0]=true)(h:xN xs lo f=some zs){j:List Ou}(hr:j=.v (.vc (pS C zs))::ro)(kk:DN S H l0 ms E outs n (i+1) l ro):DN S H l0 ms E outs (n+1) i (⟨some d,.slice t x (some y) (some z) none,ty,pos,af,g⟩::l) j:=
 gA (fun A=>aGx rfl I h) (fun G=>⟨bE (s G),bE (u G),bE (F G),trivial⟩) J K L hr kk
theorem aNV{c x y:Operand}{p:VP}(hc:ev E c=some (.vc (pB true)))(e:ev E x=some p)(f:Nat.blt d S.N=true)(h:cZ ops E g)(k:GL S ops κ rest H ((d,p)::E) Q):GL S ops κ (⟨some d,.pick c x y,ty,pos,af,g⟩::rest) H E Q:=
 jH (cE rfl) ⟨dB hc,dB e,trivial⟩ h f k
theorem aNh{c x y:Operand}{p:VP}(hc:∀G,o5 l0 ms E outs G i c=some (.vc (pB true)))(f:∀G,o5 l0 ms E outs G i x=some p)(h:Nat.blt d S.N=true)(j:GD l0 ms E outs i g)(k:kF ms [] i [0]=true){e:List Ou}(hr:e=.v (p)::ro)(kk:DN S H l0 ms E outs n (i+1) l ro):DN S H l0 ms E outs (n+1) i (⟨some d,.pick c x y,ty,pos,af,g⟩::l) e:=
 gA (fun A=>cE rfl) (fun G=>⟨bE (hc G),bE (f G),trivial⟩) h j k hr kk
theorem aNz{c x y:Operand}{p:VP}(hc:ev E c=some (.vc (pB false)))(e:ev E y=some p)(f:Nat.blt d S.N=true)(h:cZ ops E g)(k:GL S ops κ rest H ((d,p)::E) Q):GL S ops κ (⟨some d,.pick c x y,ty,pos,af,g⟩::rest) H E Q:=
 jH (aP rfl) ⟨dB hc,dB e,trivial⟩ h f k
theorem aMS{c x y:Operand}{p:VP}(hc:∀G,o5 l0 ms E outs G i c=some (.vc (pB false)))(f:∀G,o5 l0 ms E outs G i y=some p)(h:Nat.blt d S.N=true)(j:GD l0 ms E outs i g)(k:kF ms [] i [0]=true){e:List Ou}(hr:e=.v (p)::ro)(kk:DN S H l0 ms E outs n (i+1) l ro):DN S H l0 ms E outs (n+1) i (⟨some d,.pick c x y,ty,pos,af,g⟩::l) e:=
 gA (fun A=>aP rfl) (fun G=>⟨bE (hc G),bE (f G),trivial⟩) h j k hr kk
theorem aMV{x:Operand}{β:Option Nat}{off:Nat}(e:ev E x=some (.vc (pP β off)))(f:Nat.blt d S.N=true)(h:cZ ops E g)(k:GL S ops κ rest H ((d,.vc (pP β off))::E) Q):GL S ops κ (⟨some d,.nilCheck x,ty,pos,af,g⟩::rest) H E Q:=
 jH (tX rfl) ⟨dB e,trivial⟩ h f k
theorem aNN{x:Operand}{β:Option Nat}{off:Nat}(f:∀G,o5 l0 ms E outs G i x=some (.vc (pP β off)))(h:Nat.blt d S.N=true)(j:GD l0 ms E outs i g)(k:kF ms [] i [0]=true){e:List Ou}(hr:e=.v (.vc (pP β off))::ro)(kk:DN S H l0 ms E outs n (i+1) l ro):DN S H l0 ms E outs (n+1) i (⟨some d,.nilCheck x,ty,pos,af,g⟩::l) e:=
 gA (fun A=>tX rfl) (fun G=>⟨bE (f G),trivial⟩) h j k hr kk
theorem aLo{x:Operand}{β:Option Nat}{j:Int}{n f:Nat}(e:ev E x=some (.vc (pE β j n f)))(h:Nat.blt d S.N=true)(q:cZ ops E g)(k:GL S ops κ rest H ((d,.vc (pE β j n f))::E) Q):GL S ops κ (⟨some d,.nilCheck x,ty,pos,af,g⟩::rest) H E Q:=
 jH (aHP rfl) ⟨dB e,trivial⟩ q h k
theorem aK6{x:Operand}{β:Option Nat}{j:Int}{n f:Nat}(h:∀G,o5 l0 ms E outs G i x=some (.vc (pE β j n f)))(k:Nat.blt d S.N=true)(q:GD l0 ms E outs i g)(s:kF ms [] i [0]=true){e:List Ou}(hr:e=.v (.vc (pE β j n f))::ro)(kk:DN S H l0 ms E outs n (i+1) l ro):DN S H l0 ms E outs (n+1) i (⟨some d,.nilCheck x,ty,pos,af,g⟩::l) e:=
 gA (fun A=>aHP rfl) (fun G=>⟨bE (h G),trivial⟩) k q s hr kk
theorem aKD{x:Operand}{ps:List CP}(e:ev E x=some (.vc (pM ps)))(f:Nat.blt d S.N=true)(h:cZ ops E g)(k:GL S ops κ rest H ((d,.vc (pM ps))::E) Q):GL S ops κ (⟨some d,.nilCheck x,ty,pos,af,g⟩::rest) H E Q:=
 jH (aHR rfl) ⟨dB e,trivial⟩ h f k
theorem aK2{x:Operand}{ps:List CP}(f:∀G,o5 l0 ms E outs G i x=some (.vc (pM ps)))(h:Nat.blt d S.N=true)(j:GD l0 ms E outs i g)(k:kF ms [] i [0]=true){e:List Ou}(hr:e=.v (.vc (pM ps))::ro)(kk:DN S H l0 ms E outs n (i+1) l ro):DN S H l0 ms E outs (n+1) i (⟨some d,.nilCheck x,ty,pos,af,g⟩::l) e:=
 gA (fun A=>aHR rfl) (fun G=>⟨bE (f G),trivial⟩) h j k hr kk
theorem aJm{f:Nat}{xs:List Operand}{ps:List VP}{post:VP}{ts:Array TypeId}(he:evs E xs=some ps)(e:Nat.blt d S.N=true)(h:cZ ops E g)(c:Ct S.P f ps post)(k:GL S ops κ rest H ((d,post)::E) Q):GL S ops κ (⟨some d,.call {callee:=.value (.func f),args:=xs.toArray,argTypes:=ts},ty,pos,af,g⟩::rest) H E Q:=
 jH (aT rfl c (aDK he).2) (aDK he).1 h e k
theorem aLv{T:Nat}{zs:List CP}(f:TyZ S.P T zs)(h:Nat.blt d S.N=true){e:List Ou}(hr:e=.a T zs::ro)(k:DN S H l0 ms E outs n (i+1) l ro):DN S H l0 ms E outs (n+1) i (⟨some d,.alloc T,ty,pos,af,none⟩::l) e:=by
 subst hr;exact aDX h (.alc f rfl rfl rfl) k
theorem aI0{f:Nat}{xs:List Operand}{ps:List VP}{post:VP}{ts:Array TypeId}(he:∀G,aMl l0 ms E outs G i xs=some ps)(h:Nat.blt d S.N=true)(j:GD l0 ms E outs i g)(q:kF ms [] i [0]=true)(c:Ct S.P f ps post){e:List Ou}(hr:e=.v post::ro)(k:DN S H l0 ms E outs n (i+1) l ro):DN S H l0 ms E outs (n+1) i (⟨some d,.call {callee:=.value (.func f),args:=xs.toArray,argTypes:=ts},ty,pos,af,g⟩::l) e:=
 gA (fun A=>aT rfl c (aBK (he fun _=>(none,0))).2) (fun G=>(aBK (he G)).1) h j q hr k
theorem aMJ{t off:Nat}{x y:Operand}{β:Option Nat}{e:HA}{p:VP}{ps:List CP}(f:ev E x=some (.vc (pP β off)))(j:ev E y=some p)(u:Ty1 S.P t)(z:t8 H β e ⟨e.β,e.c,e.T,e.sz,e.n,ps⟩ H')(hp:p.flat)(F:p.cells.length=1)(G:tM e.ps off p.cells=some ps)(k:GL S ops κ rest H' E Q):GL S ops κ (⟨none,.store t x y,ty,pos,af,none⟩::rest) H E Q:=by
 obtain⟨i,I,J,K⟩:=z.at;exact⟨fun q=>mU (xY i rfl I J u.s hp F G K) ⟨dB f,dB j,trivial⟩ (k.h q) rfl rfl⟩
theorem aNo{t off r:Nat}{x y:Operand}{β:Option Nat}{e:HA}{p:VP}{ps:List CP}(f:ev E x=some (.vc (pP β off)))(j:ev E y=some p)(u:TyA S.P t r)(z:t8 H β e ⟨e.β,e.c,e.T,e.sz,e.n,ps⟩ H')(hp:p.flat)(F:p.cells.length=r)(G:tM e.ps off p.cells=some ps)(k:GL S ops κ rest H' E Q):GL S ops κ (⟨none,.store t x y,ty,pos,af,none⟩::rest) H E Q:=by
 obtain⟨i,I,J,K⟩:=z.at;exact⟨fun q=>mU (xY i rfl I J u.s hp F G K) ⟨dB f,dB j,trivial⟩ (k.h q) rfl rfl⟩
theorem dr{id:Nat}(ms:List Nat)(m n:Nat)(outs:List Ou)(k:∀bs G,WL S l.toArray κ (l.drop outs.length) (aAJ bs 0 outs++H) (aAT bs G 0 l outs++E))(hops:DN S H l ms E outs m 0 l outs:=by
 repeat (first
  |(apply aNB;exact fun _=>rfl;exact rfl;(first|exact GD.p|exact GD.g rfl (fun _=>rfl));exact rfl;exact rfl)
  |(apply aNr;exact fun _=>rfl;exact rfl;(first|exact GD.p|exact GD.g rfl (fun _=>rfl));exact rfl;exact rfl)
  |(apply e_n;exact rfl;exact fun _=>rfl;exact rfl;exact rfl;exact rfl)
  |(apply aNl;exact fun _=>rfl;exact fun _=>rfl;exact inferInstance;exact rfl;(first|exact GD.p|exact GD.g rfl (fun _=>rfl));exact rfl;(with_reducible assumption);exact rfl)
  |(apply aKK;exact fun _=>rfl;exact inferInstance;exact rfl;(first|exact GD.p|exact GD.g rfl (fun _=>rfl));exact rfl;exact rfl)
  |(apply aM1;exact fun _=>rfl;exact inferInstance;exact rfl;(first|exact GD.p|exact GD.g rfl (fun _=>rfl));exact rfl;exact rfl)
  |(apply aLi;exact fun _=>rfl;exact inferInstance;exact rfl;(first|exact GD.p|exact GD.g rfl (fun _=>rfl));exact rfl;exact rfl)
  |(apply aLb;exact fun _=>rfl;exact inferInstance;exact rfl;exact rfl;(first|exact GD.p|exact GD.g rfl (fun _=>rfl));exact rfl;exact rfl)
  |(apply aKZ;exact fun _=>rfl;exact inferInstance;exact rfl;exact rfl;(first|exact GD.p|exact GD.g rfl (fun _=>rfl));exact rfl;exact rfl)
  |(apply aNU;exact fun _=>rfl;exact inferInstance;(repeat (first|exact fY.a rfl|apply fY.b));exact rfl;exact rfl;(first|exact GD.p|exact GD.g rfl (fun _=>rfl));exact rfl;exact rfl)
  |(apply aMX;exact fun _=>rfl;exact inferInstance;(repeat (first|exact fY.a rfl|apply fY.b));exact rfl;exact rfl;(first|exact GD.p|exact GD.g rfl (fun _=>rfl));exact rfl;exact rfl)
  |(apply aKB;exact fun _=>rfl;exact fun _=>rfl;(repeat (first|exact fY.a rfl|apply fY.b));(first|exact rfl|with_reducible assumption|exact cC (by with_reducible assumption) (by first|with_reducible assumption|exact rfl));exact inferInstance;exact rfl;(first|exact GD.p|exact GD.g rfl (fun _=>rfl));exact rfl;(with_reducible assumption);exact rfl)
  |(apply aKM;exact fun _=>rfl;(repeat (first|exact fY.a rfl|apply fY.b));(first|exact rfl|with_reducible assumption|exact cC (by with_reducible assumption) (by first|with_reducible assumption|exact rfl));exact inferInstance;exact rfl;(first|exact GD.p|exact GD.g rfl (fun _=>rfl));exact rfl;exact rfl)
  |(apply aHY;exact fun _=>rfl;(repeat (first|exact fY.a rfl|apply fY.b));exact rfl;(with_reducible assumption);exact inferInstance;exact rfl;exact rfl;exact rfl;(first|exact GD.p|exact GD.g rfl (fun _=>rfl));exact rfl;exact rfl)
  |(apply aJj;exact fun _=>rfl;(repeat (first|exact fY.a rfl|apply fY.b));exact rfl;(with_reducible assumption);exact inferInstance;exact rfl;exact rfl;exact rfl;(first|exact GD.p|exact GD.g rfl (fun _=>rfl));exact rfl;exact rfl)
  |(apply aNv;exact fun _=>rfl;exact inferInstance;exact rfl;(first|exact GD.p|exact GD.g rfl (fun _=>rfl));exact rfl;exact rfl)
  |(apply aNS;exact fun _=>rfl;exact fun _=>rfl;exact rfl;(first|exact GD.p|exact GD.g rfl (fun _=>rfl));exact rfl;exact rfl)
  |(apply aMR;exact fun _=>rfl;exact fun _=>rfl;exact rfl;(first|exact GD.p|exact GD.g rfl (fun _=>rfl));exact rfl;exact rfl)
  |(apply aMQ;exact fun _=>rfl;exact fun _=>rfl;exact rfl;(first|exact GD.p|exact GD.g rfl (fun _=>rfl));exact rfl;exact rfl)
  |(apply aNg;exact fun _=>rfl;exact fun _=>rfl;exact rfl;(first|exact GD.p|exact GD.g rfl (fun _=>rfl));exact rfl;exact rfl)
  |(apply aMN;exact fun _=>rfl;exact fun _=>rfl;exact rfl;(first|exact GD.p|exact GD.g rfl (fun _=>rfl));exact rfl;exact rfl)
  |(apply aM4;exact fun _=>rfl;exact fun _=>rfl;exact rfl;(first|exact GD.p|exact GD.g rfl (fun _=>rfl));exact rfl;exact rfl)
  |(apply aLd;exact fun _=>rfl;exact fun _=>rfl;exact rfl;(first|exact GD.p|exact GD.g rfl (fun _=>rfl));exact rfl;(with_reducible assumption);exact rfl)
  |(apply aKJ;exact fun _=>rfl;exact fun _=>rfl;exact rfl;(first|exact GD.p|exact GD.g rfl (fun _=>rfl));exact rfl;(with_reducible assumption);exact rfl)
  |(apply aLy;exact fun _=>rfl;exact fun _=>rfl;exact rfl;(first|exact GD.p|exact GD.g rfl (fun _=>rfl));exact rfl;(with_reducible assumption);exact rfl)
  |(apply aLE;exact fun _=>rfl;exact fun _=>rfl;exact rfl;(first|exact GD.p|exact GD.g rfl (fun _=>rfl));exact rfl;(with_reducible assumption);exact rfl)
  |(apply aK9;exact fun _=>rfl;exact fun _=>rfl;exact rfl;(first|exact GD.p|exact GD.g rfl (fun _=>rfl));exact rfl;(with_reducible assumption);exact rfl)
  |(apply aLz;exact fun _=>rfl;exact rfl;(first|exact GD.p|exact GD.g rfl (fun _=>rfl));exact rfl;exact rfl)
  |(apply aLu;exact fun _=>rfl;exact rfl;(first|exact GD.p|exact GD.g rfl (fun _=>rfl));exact rfl;(with_reducible assumption);exact rfl)
  |(apply aK1;exact fun _=>rfl;exact rfl;(first|exact GD.p|exact GD.g rfl (fun _=>rfl));exact rfl;exact rfl)
  |(apply aKE;exact fun _=>rfl;exact rfl;(first|exact GD.p|exact GD.g rfl (fun _=>rfl));exact rfl;exact rfl)
  |(apply aLD;exact fun _=>rfl;exact rfl;(first|exact GD.p|exact GD.g rfl (fun _=>rfl));exact rfl;exact rfl)
  |(apply aLk;exact fun _=>rfl;exact rfl;(first|exact GD.p|exact GD.g rfl (fun _=>rfl));exact rfl;exact rfl)
  |(apply aLg;exact fun _=>rfl;exact rfl;(first|exact GD.p|exact GD.g rfl (fun _=>rfl));exact rfl;exact rfl)
  |(apply aM3;exact fun _=>rfl;exact fun _=>rfl;exact rfl;(first|exact GD.p|exact GD.g rfl (fun _=>rfl));exact rfl;exact rfl)
  |(apply aMP;exact fun _=>rfl;exact fun _=>rfl;exact rfl;(first|exact GD.p|exact GD.g rfl (fun _=>rfl));exact rfl;exact rfl)
  |(apply aNX;exact fun _=>rfl;exact fun _=>rfl;exact inferInstance;exact rfl;(first|exact GD.p|exact GD.g rfl (fun _=>rfl));exact rfl;(with_reducible assumption);exact rfl)
  |(apply aNx;exact fun _=>rfl;exact fun _=>rfl;exact inferInstance;exact rfl;(first|exact GD.p|exact GD.g rfl (fun _=>rfl));exact rfl;(with_reducible assumption);exact rfl)
  |(apply aKF;exact fun _=>rfl;exact fun _=>rfl;exact fun _=>rfl;exact inferInstance;exact rfl;(first|exact GD.p|exact GD.g rfl (fun _=>rfl));exact rfl;(with_reducible assumption);exact rfl)
  |(apply aNh;exact fun _=>rfl;exact fun _=>rfl;exact rfl;(first|exact GD.p|exact GD.g rfl (fun _=>rfl));exact rfl;exact rfl)
  |(apply aMS;exact fun _=>rfl;exact fun _=>rfl;exact rfl;(first|exact GD.p|exact GD.g rfl (fun _=>rfl));exact rfl;exact rfl)
  |(apply aNN;exact fun _=>rfl;exact rfl;(first|exact GD.p|exact GD.g rfl (fun _=>rfl));exact rfl;exact rfl)
  |(apply aK6;exact fun _=>rfl;exact rfl;(first|exact GD.p|exact GD.g rfl (fun _=>rfl));exact rfl;exact rfl)
  |(apply aK2;exact fun _=>rfl;exact rfl;(first|exact GD.p|exact GD.g rfl (fun _=>rfl));exact rfl;exact rfl)
  |(apply aI0;exact fun _=>rfl;exact rfl;(first|exact GD.p|exact GD.g rfl (fun _=>rfl));exact rfl;assumption;exact rfl)
  |(apply aLv;exact inferInstance;exact rfl;exact rfl)
  |(apply e_u;exact rfl;exact fun _=>rfl;exact rfl;exact rfl)
  |(apply aK4;exact rfl)))(hx:Mix S.P:=by infer_instance)
  (hm:zL ms l ms=true:=by kernel_rfl)(hb:tN l 0=true:=by kernel_rfl)(hq:xL l=true:=by kernel_rfl)(hm2:Nat.beq l.length (m+n)=true:=by kernel_rfl)(ht:zV l ms m n=true:=by kernel_rfl):WC S (.region id l.toArray true) κ H E:=
 gJ ms m n outs hx.h hops.h k hm hb hq (by rw[hops.len];simp) hm2 ht
theorem drb{id:Nat}(ms:List Nat)(m n:Nat)(outs:List Ou)(k:∀bs G,WL S l.toArray κ (l.drop outs.length) (aAJ bs 0 outs++H) (aAT bs G 0 l outs++E))(hops:DN S H l ms E outs m 0 l outs:=by
 repeat (first
  |(apply aNW;exact fun _=>rfl;exact rfl;(first|exact GD.p|exact GD.g rfl (fun _=>rfl));exact rfl;(with_reducible assumption);exact rfl)
  |(apply aND;exact fun _=>rfl;exact rfl;(first|exact GD.p|exact GD.g rfl (fun _=>rfl));exact rfl;(with_reducible assumption);exact rfl)
  |(apply aN2;exact fun _=>rfl;exact fun _=>rfl;exact rfl;(first|exact GD.p|exact GD.g rfl (fun _=>rfl));exact rfl;(with_reducible assumption);exact rfl)
  |(apply aN1;exact fun _=>rfl;exact fun _=>rfl;exact rfl;(first|exact GD.p|exact GD.g rfl (fun _=>rfl));exact rfl;(with_reducible assumption);exact rfl)
  |(apply aNK;exact fun _=>rfl;exact fun _=>rfl;exact rfl;(first|exact GD.p|exact GD.g rfl (fun _=>rfl));exact rfl;(with_reducible assumption);exact rfl)
  |(apply aNq;exact fun _=>rfl;exact fun _=>rfl;exact rfl;(first|exact GD.p|exact GD.g rfl (fun _=>rfl));exact rfl;(with_reducible assumption);exact rfl)
  |(apply aMY;exact fun _=>rfl;exact fun _=>rfl;exact rfl;(first|exact GD.p|exact GD.g rfl (fun _=>rfl));exact rfl;(with_reducible assumption);exact rfl)
  |(apply aNY;exact fun _=>rfl;exact fun _=>rfl;exact rfl;(first|exact GD.p|exact GD.g rfl (fun _=>rfl));exact rfl;(with_reducible assumption);exact rfl)
  |(apply aMd;exact fun _=>rfl;exact rfl;(first|exact GD.p|exact GD.g rfl (fun _=>rfl));exact rfl;(with_reducible assumption);exact rfl)
  |(apply aNB;exact fun _=>rfl;exact rfl;(first|exact GD.p|exact GD.g rfl (fun _=>rfl));exact rfl;exact rfl)
  |(apply aNr;exact fun _=>rfl;exact rfl;(first|exact GD.p|exact GD.g rfl (fun _=>rfl));exact rfl;exact rfl)
  |(apply e_n;exact rfl;exact fun _=>rfl;exact rfl;exact rfl;exact rfl)
  |(apply aNl;exact fun _=>rfl;exact fun _=>rfl;exact inferInstance;exact rfl;(first|exact GD.p|exact GD.g rfl (fun _=>rfl));exact rfl;(with_reducible assumption);exact rfl)
  |(apply aKK;exact fun _=>rfl;exact inferInstance;exact rfl;(first|exact GD.p|exact GD.g rfl (fun _=>rfl));exact rfl;exact rfl)
  |(apply aM1;exact fun _=>rfl;exact inferInstance;exact rfl;(first|exact GD.p|exact GD.g rfl (fun _=>rfl));exact rfl;exact rfl)
  |(apply aLi;exact fun _=>rfl;exact inferInstance;exact rfl;(first|exact GD.p|exact GD.g rfl (fun _=>rfl));exact rfl;exact rfl)
  |(apply aLb;exact fun _=>rfl;exact inferInstance;exact rfl;exact rfl;(first|exact GD.p|exact GD.g rfl (fun _=>rfl));exact rfl;exact rfl)
  |(apply aKZ;exact fun _=>rfl;exact inferInstance;exact rfl;exact rfl;(first|exact GD.p|exact GD.g rfl (fun _=>rfl));exact rfl;exact rfl)
  |(apply aNU;exact fun _=>rfl;exact inferInstance;(repeat (first|exact fY.a rfl|apply fY.b));exact rfl;exact rfl;(first|exact GD.p|exact GD.g rfl (fun _=>rfl));exact rfl;exact rfl)
  |(apply aMX;exact fun _=>rfl;exact inferInstance;(repeat (first|exact fY.a rfl|apply fY.b));exact rfl;exact rfl;(first|exact GD.p|exact GD.g rfl (fun _=>rfl));exact rfl;exact rfl)
  |(apply aKB;exact fun _=>rfl;exact fun _=>rfl;(repeat (first|exact fY.a rfl|apply fY.b));(first|exact rfl|with_reducible assumption|exact cC (by with_reducible assumption) (by first|with_reducible assumption|exact rfl));exact inferInstance;exact rfl;(first|exact GD.p|exact GD.g rfl (fun _=>rfl));exact rfl;(with_reducible assumption);exact rfl)
  |(apply aKM;exact fun _=>rfl;(repeat (first|exact fY.a rfl|apply fY.b));(first|exact rfl|with_reducible assumption|exact cC (by with_reducible assumption) (by first|with_reducible assumption|exact rfl));exact inferInstance;exact rfl;(first|exact GD.p|exact GD.g rfl (fun _=>rfl));exact rfl;exact rfl)
  |(apply aHY;exact fun _=>rfl;(repeat (first|exact fY.a rfl|apply fY.b));exact rfl;(with_reducible assumption);exact inferInstance;exact rfl;exact rfl;exact rfl;(first|exact GD.p|exact GD.g rfl (fun _=>rfl));exact rfl;exact rfl)
  |(apply aJj;exact fun _=>rfl;(repeat (first|exact fY.a rfl|apply fY.b));exact rfl;(with_reducible assumption);exact inferInstance;exact rfl;exact rfl;exact rfl;(first|exact GD.p|exact GD.g rfl (fun _=>rfl));exact rfl;exact rfl)
  |(apply aNv;exact fun _=>rfl;exact inferInstance;exact rfl;(first|exact GD.p|exact GD.g rfl (fun _=>rfl));exact rfl;exact rfl)
  |(apply aNS;exact fun _=>rfl;exact fun _=>rfl;exact rfl;(first|exact GD.p|exact GD.g rfl (fun _=>rfl));exact rfl;exact rfl)
  |(apply aMR;exact fun _=>rfl;exact fun _=>rfl;exact rfl;(first|exact GD.p|exact GD.g rfl (fun _=>rfl));exact rfl;exact rfl)
  |(apply aMQ;exact fun _=>rfl;exact fun _=>rfl;exact rfl;(first|exact GD.p|exact GD.g rfl (fun _=>rfl));exact rfl;exact rfl)
  |(apply aNg;exact fun _=>rfl;exact fun _=>rfl;exact rfl;(first|exact GD.p|exact GD.g rfl (fun _=>rfl));exact rfl;exact rfl)
  |(apply aMN;exact fun _=>rfl;exact fun _=>rfl;exact rfl;(first|exact GD.p|exact GD.g rfl (fun _=>rfl));exact rfl;exact rfl)
  |(apply aM4;exact fun _=>rfl;exact fun _=>rfl;exact rfl;(first|exact GD.p|exact GD.g rfl (fun _=>rfl));exact rfl;exact rfl)
  |(apply aLd;exact fun _=>rfl;exact fun _=>rfl;exact rfl;(first|exact GD.p|exact GD.g rfl (fun _=>rfl));exact rfl;(with_reducible assumption);exact rfl)
  |(apply aKJ;exact fun _=>rfl;exact fun _=>rfl;exact rfl;(first|exact GD.p|exact GD.g rfl (fun _=>rfl));exact rfl;(with_reducible assumption);exact rfl)
  |(apply aLy;exact fun _=>rfl;exact fun _=>rfl;exact rfl;(first|exact GD.p|exact GD.g rfl (fun _=>rfl));exact rfl;(with_reducible assumption);exact rfl)
  |(apply aLE;exact fun _=>rfl;exact fun _=>rfl;exact rfl;(first|exact GD.p|exact GD.g rfl (fun _=>rfl));exact rfl;(with_reducible assumption);exact rfl)
  |(apply aK9;exact fun _=>rfl;exact fun _=>rfl;exact rfl;(first|exact GD.p|exact GD.g rfl (fun _=>rfl));exact rfl;(with_reducible assumption);exact rfl)
  |(apply aLz;exact fun _=>rfl;exact rfl;(first|exact GD.p|exact GD.g rfl (fun _=>rfl));exact rfl;exact rfl)
  |(apply aLu;exact fun _=>rfl;exact rfl;(first|exact GD.p|exact GD.g rfl (fun _=>rfl));exact rfl;(with_reducible assumption);exact rfl)
  |(apply aK1;exact fun _=>rfl;exact rfl;(first|exact GD.p|exact GD.g rfl (fun _=>rfl));exact rfl;exact rfl)
  |(apply aKE;exact fun _=>rfl;exact rfl;(first|exact GD.p|exact GD.g rfl (fun _=>rfl));exact rfl;exact rfl)
  |(apply aLD;exact fun _=>rfl;exact rfl;(first|exact GD.p|exact GD.g rfl (fun _=>rfl));exact rfl;exact rfl)
  |(apply aLk;exact fun _=>rfl;exact rfl;(first|exact GD.p|exact GD.g rfl (fun _=>rfl));exact rfl;exact rfl)
  |(apply aLg;exact fun _=>rfl;exact rfl;(first|exact GD.p|exact GD.g rfl (fun _=>rfl));exact rfl;exact rfl)
  |(apply aM3;exact fun _=>rfl;exact fun _=>rfl;exact rfl;(first|exact GD.p|exact GD.g rfl (fun _=>rfl));exact rfl;exact rfl)
  |(apply aMP;exact fun _=>rfl;exact fun _=>rfl;exact rfl;(first|exact GD.p|exact GD.g rfl (fun _=>rfl));exact rfl;exact rfl)
  |(apply aNX;exact fun _=>rfl;exact fun _=>rfl;exact inferInstance;exact rfl;(first|exact GD.p|exact GD.g rfl (fun _=>rfl));exact rfl;(with_reducible assumption);exact rfl)
  |(apply aNx;exact fun _=>rfl;exact fun _=>rfl;exact inferInstance;exact rfl;(first|exact GD.p|exact GD.g rfl (fun _=>rfl));exact rfl;(with_reducible assumption);exact rfl)
  |(apply aKF;exact fun _=>rfl;exact fun _=>rfl;exact fun _=>rfl;exact inferInstance;exact rfl;(first|exact GD.p|exact GD.g rfl (fun _=>rfl));exact rfl;(with_reducible assumption);exact rfl)
  |(apply aNh;exact fun _=>rfl;exact fun _=>rfl;exact rfl;(first|exact GD.p|exact GD.g rfl (fun _=>rfl));exact rfl;exact rfl)
  |(apply aMS;exact fun _=>rfl;exact fun _=>rfl;exact rfl;(first|exact GD.p|exact GD.g rfl (fun _=>rfl));exact rfl;exact rfl)
  |(apply aNN;exact fun _=>rfl;exact rfl;(first|exact GD.p|exact GD.g rfl (fun _=>rfl));exact rfl;exact rfl)
  |(apply aK6;exact fun _=>rfl;exact rfl;(first|exact GD.p|exact GD.g rfl (fun _=>rfl));exact rfl;exact rfl)
  |(apply aK2;exact fun _=>rfl;exact rfl;(first|exact GD.p|exact GD.g rfl (fun _=>rfl));exact rfl;exact rfl)
  |(apply aI0;exact fun _=>rfl;exact rfl;(first|exact GD.p|exact GD.g rfl (fun _=>rfl));exact rfl;assumption;exact rfl)
  |(apply aLv;exact inferInstance;exact rfl;exact rfl)
  |(apply e_u;exact rfl;exact fun _=>rfl;exact rfl;exact rfl)
  |(apply aK4;exact rfl)))(hx:Mix S.P:=by infer_instance)
  (hm:zL ms l ms=true:=by kernel_rfl)(hb:tN l 0=true:=by kernel_rfl)(hq:xL l=true:=by kernel_rfl)(hm2:Nat.beq l.length (m+n)=true:=by kernel_rfl)(ht:zV l ms m n=true:=by kernel_rfl):WC S (.region id l.toArray true) κ H E:=
 gJ ms m n outs hx.h hops.h k hm hb hq (by rw[hops.len];simp) hm2 ht
theorem go{P:Prop}(Q:Prop)(k:Q)(h:D P Q:=by
 first
  |with_reducible refine sL ?_
  |with_reducible refine sC ?_
  |with_reducible refine sX ?_
 repeat (first
  |(apply aLG)
  |(apply aIj)
  |(apply aLe)
  |(apply aLq)
  |(apply aM5;exact rfl;exact rfl;(first|exact cZ.p|exact cZ.g rfl rfl rfl))
  |(apply aM8;exact rfl;exact rfl;(first|exact cZ.p|exact cZ.g rfl rfl rfl))
  |(apply b_n;exact rfl;exact rfl;exact rfl;exact rfl;exact rfl)
  |(apply aNf;exact rfl;exact rfl;exact inferInstance;exact rfl;(first|exact cZ.p|exact cZ.g rfl rfl rfl);(with_reducible assumption))
  |(apply aLt;exact rfl;exact inferInstance;exact rfl;(first|exact cZ.p|exact cZ.g rfl rfl rfl))
  |(apply aNa;exact rfl;exact inferInstance;exact rfl;(first|exact cZ.p|exact cZ.g rfl rfl rfl))
  |(apply aKX;exact rfl;exact inferInstance;exact rfl;(first|exact cZ.p|exact cZ.g rfl rfl rfl))
  |(apply aK0;exact rfl;exact inferInstance;exact rfl;exact rfl;(first|exact cZ.p|exact cZ.g rfl rfl rfl))
  |(apply aLx;exact rfl;exact inferInstance;exact rfl;exact rfl;(first|exact cZ.p|exact cZ.g rfl rfl rfl))
  |(apply aMZ;exact rfl;exact inferInstance;(repeat (first|exact fY.a rfl|apply fY.b));exact rfl;exact rfl;(first|exact cZ.p|exact cZ.g rfl rfl rfl))
  |(apply aNH;exact rfl;exact inferInstance;(repeat (first|exact fY.a rfl|apply fY.b));exact rfl;exact rfl;(first|exact cZ.p|exact cZ.g rfl rfl rfl))
  |(apply aLa;exact rfl;exact rfl;(repeat (first|exact fY.a rfl|apply fY.b));(first|exact rfl|with_reducible assumption|exact cC (by with_reducible assumption) (by first|with_reducible assumption|exact rfl));exact inferInstance;exact rfl;(first|exact cZ.p|exact cZ.g rfl rfl rfl);(with_reducible assumption))
  |(apply aK7;exact rfl;(repeat (first|exact fY.a rfl|apply fY.b));(first|exact rfl|with_reducible assumption|exact cC (by with_reducible assumption) (by first|with_reducible assumption|exact rfl));exact inferInstance;exact rfl;(first|exact cZ.p|exact cZ.g rfl rfl rfl))
  |(apply aIH;exact rfl;(repeat (first|exact fY.a rfl|apply fY.b));exact rfl;(with_reducible assumption);exact inferInstance;exact rfl;exact rfl;exact rfl;(first|exact cZ.p|exact cZ.g rfl rfl rfl))
  |(apply aH0;exact rfl;(repeat (first|exact fY.a rfl|apply fY.b));exact rfl;(with_reducible assumption);exact inferInstance;exact rfl;exact rfl;exact rfl;(first|exact cZ.p|exact cZ.g rfl rfl rfl))
  |(apply aM6;exact rfl;exact inferInstance;exact rfl;(first|exact cZ.p|exact cZ.g rfl rfl rfl))
  |(apply aN0;exact rfl;exact rfl;exact rfl;(first|exact cZ.p|exact cZ.g rfl rfl rfl))
  |(apply aM9;exact rfl;exact rfl;exact rfl;(first|exact cZ.p|exact cZ.g rfl rfl rfl))
  |(apply aNd;exact rfl;exact rfl;exact rfl;(first|exact cZ.p|exact cZ.g rfl rfl rfl))
  |(apply aNk;exact rfl;exact rfl;exact rfl;(first|exact cZ.p|exact cZ.g rfl rfl rfl))
  |(apply aNy;exact rfl;exact rfl;exact rfl;(first|exact cZ.p|exact cZ.g rfl rfl rfl))
  |(apply aNG;exact rfl;exact rfl;exact rfl;(first|exact cZ.p|exact cZ.g rfl rfl rfl))
  |(apply aLI;exact rfl;exact rfl;exact rfl;(first|exact cZ.p|exact cZ.g rfl rfl rfl);(with_reducible assumption))
  |(apply aKG;exact rfl;exact rfl;exact rfl;(first|exact cZ.p|exact cZ.g rfl rfl rfl);(with_reducible assumption))
  |(apply aLB;exact rfl;exact rfl;exact rfl;(first|exact cZ.p|exact cZ.g rfl rfl rfl);(with_reducible assumption))
  |(apply aKy;exact rfl;exact rfl;exact rfl;(first|exact cZ.p|exact cZ.g rfl rfl rfl);(with_reducible assumption))
  |(apply aKY;exact rfl;exact rfl;exact rfl;(first|exact cZ.p|exact cZ.g rfl rfl rfl);(with_reducible assumption))
  |(apply aLf;exact rfl;exact rfl;(first|exact cZ.p|exact cZ.g rfl rfl rfl))
  |(apply aLp;exact rfl;exact rfl;(first|exact cZ.p|exact cZ.g rfl rfl rfl);(with_reducible assumption))
  |(apply aLm;exact rfl;exact rfl;(first|exact cZ.p|exact cZ.g rfl rfl rfl))
  |(apply aKW;exact rfl;exact rfl;(first|exact cZ.p|exact cZ.g rfl rfl rfl))
  |(apply aKA;exact rfl;exact rfl;(first|exact cZ.p|exact cZ.g rfl rfl rfl))
  |(apply aKH;exact rfl;exact rfl;(first|exact cZ.p|exact cZ.g rfl rfl rfl))
  |(apply aLw;exact rfl;exact rfl;(first|exact cZ.p|exact cZ.g rfl rfl rfl))
  |(apply aMK;exact rfl;exact rfl;exact rfl;(first|exact cZ.p|exact cZ.g rfl rfl rfl))
  |(apply aNR;exact rfl;exact rfl;exact rfl;(first|exact cZ.p|exact cZ.g rfl rfl rfl))
  |(apply aNA;exact rfl;exact rfl;exact inferInstance;exact rfl;(first|exact cZ.p|exact cZ.g rfl rfl rfl);(with_reducible assumption))
  |(apply aNc;exact rfl;exact rfl;exact inferInstance;exact rfl;(first|exact cZ.p|exact cZ.g rfl rfl rfl);(with_reducible assumption))
  |(apply aKN;exact rfl;exact rfl;exact rfl;exact inferInstance;exact rfl;(first|exact cZ.p|exact cZ.g rfl rfl rfl);(with_reducible assumption))
  |(apply aNV;exact rfl;exact rfl;exact rfl;(first|exact cZ.p|exact cZ.g rfl rfl rfl))
  |(apply aNz;exact rfl;exact rfl;exact rfl;(first|exact cZ.p|exact cZ.g rfl rfl rfl))
  |(apply aMV;exact rfl;exact rfl;(first|exact cZ.p|exact cZ.g rfl rfl rfl))
  |(apply aLo;exact rfl;exact rfl;(first|exact cZ.p|exact cZ.g rfl rfl rfl))
  |(apply aKD;exact rfl;exact rfl;(first|exact cZ.p|exact cZ.g rfl rfl rfl))
  |(apply aJm;exact rfl;exact rfl;(first|exact cZ.p|exact cZ.g rfl rfl rfl);assumption)
  |(apply aMJ;exact rfl;exact rfl;exact inferInstance;(repeat (first|exact t8.a rfl|apply t8.b));exact trivial;exact rfl;exact rfl)
  |(apply aNo;exact rfl;exact rfl;exact inferInstance;(repeat (first|exact t8.a rfl|apply t8.b));exact trivial;exact rfl;exact rfl)
  |(apply aGp;exact rfl;exact rfl;(repeat (first|exact fY.a rfl|apply fY.b));exact rfl;(with_reducible assumption);(with_reducible assumption);exact ty1s;(repeat (first|exact t8.a rfl|apply t8.b));exact trivial;exact rfl;exact rfl)
  |(apply aGp;exact rfl;exact rfl;(repeat (first|exact fY.a rfl|apply fY.b));exact rfl;(with_reducible assumption);(with_reducible assumption);exact tyAs;(repeat (first|exact t8.a rfl|apply t8.b));exact trivial;exact rfl;exact rfl)
  |(apply b_u;exact rfl;exact rfl;exact rfl;exact rfl)
  |(apply aJt)
  |(apply aIZ)
  |(apply aGi)
  |(apply aGo)
  |(apply aLj))
 first
  |exact eL
  |exact eC
  |exact eX):P:=h.h k
theorem rv_1{t T off:Nat}{β:Option Nat}{e:HA}{q:CP}{rs:List ResultVar}{ps:List VP}(h:iQ E t=some (.vc (pP β off)))(f:Ty1 S.P T)(j:fY H β e)(k:pW 1 (e.ps.drop off)=some [q])(kk:RVs S H E rs ps):RVs S H E (.cell t T::rs) (.vc q::ps):=by
 obtain⟨i,s,u⟩:=j.at;exact tE i 1 h s u k (.one f) kk
theorem rv_A{t T off k:Nat}{β:Option Nat}{e:HA}{qs:List CP}{rs:List ResultVar}{ps:List VP}(h:iQ E t=some (.vc (pP β off)))(j:TyA S.P T k)(q:fY H β e)(f:pW k (e.ps.drop off)=some qs)(kk:RVs S H E rs ps):RVs S H E (.cell t T::rs) (.va qs::ps):=by
 obtain⟨i,s,u⟩:=q.at;exact tE i k h s u f (.agg j (tB f)) kk
theorem aNT{P:Program}{fn:Func}{w0:World}{M0:iE}{B:List Nat}{post:VP}{N:NX}{rs:List ResultVar}{ps:List VP}(e:κ.to .ret=(.ret,.base (aCK P fn (Rp P w0 M0 B (fun Ho q=>Ho=[]∧q=post)))))(hrs:fn.results=rs.toArray)(hv:RVs ⟨P,w0,M0,B,N⟩ H E rs ps)(f:Nat.ble ps.length 4=true)(hpost:aFC ps=post)(hfr:∀D,N.fr D→w0.heap.size≤D∧M0 D=none):GC ⟨P,w0,M0,B,N⟩ .ret κ H E Q:=
 ⟨fun _=>bW (bV (by rw[e];exact bS (.inl rfl) hrs hv f hpost hfr))⟩
theorem cX{P:Prop}(h:D P True:=by
 first
  |with_reducible refine sL ?_
  |with_reducible refine sC ?_
  |with_reducible refine sX ?_
 repeat (first
  |(apply aLG)
  |(apply aIj)
  |(apply aLe)
  |(apply aLq)
  |(apply aM5;exact rfl;exact rfl;(first|exact cZ.p|exact cZ.g rfl rfl rfl))
  |(apply aM8;exact rfl;exact rfl;(first|exact cZ.p|exact cZ.g rfl rfl rfl))
  |(apply b_n;exact rfl;exact rfl;exact rfl;exact rfl;exact rfl)
  |(apply aNf;exact rfl;exact rfl;exact inferInstance;exact rfl;(first|exact cZ.p|exact cZ.g rfl rfl rfl);(with_reducible assumption))
  |(apply aLt;exact rfl;exact inferInstance;exact rfl;(first|exact cZ.p|exact cZ.g rfl rfl rfl))
  |(apply aNa;exact rfl;exact inferInstance;exact rfl;(first|exact cZ.p|exact cZ.g rfl rfl rfl))
  |(apply aKX;exact rfl;exact inferInstance;exact rfl;(first|exact cZ.p|exact cZ.g rfl rfl rfl))
  |(apply aK0;exact rfl;exact inferInstance;exact rfl;exact rfl;(first|exact cZ.p|exact cZ.g rfl rfl rfl))
  |(apply aLx;exact rfl;exact inferInstance;exact rfl;exact rfl;(first|exact cZ.p|exact cZ.g rfl rfl rfl))
  |(apply aMZ;exact rfl;exact inferInstance;(repeat (first|exact fY.a rfl|apply fY.b));exact rfl;exact rfl;(first|exact cZ.p|exact cZ.g rfl rfl rfl))
  |(apply aNH;exact rfl;exact inferInstance;(repeat (first|exact fY.a rfl|apply fY.b));exact rfl;exact rfl;(first|exact cZ.p|exact cZ.g rfl rfl rfl))
  |(apply aLa;exact rfl;exact rfl;(repeat (first|exact fY.a rfl|apply fY.b));(first|exact rfl|with_reducible assumption|exact cC (by with_reducible assumption) (by first|with_reducible assumption|exact rfl));exact inferInstance;exact rfl;(first|exact cZ.p|exact cZ.g rfl rfl rfl);(with_reducible assumption))
  |(apply aK7;exact rfl;(repeat (first|exact fY.a rfl|apply fY.b));(first|exact rfl|with_reducible assumption|exact cC (by with_reducible assumption) (by first|with_reducible assumption|exact rfl));exact inferInstance;exact rfl;(first|exact cZ.p|exact cZ.g rfl rfl rfl))
  |(apply aIH;exact rfl;(repeat (first|exact fY.a rfl|apply fY.b));exact rfl;(with_reducible assumption);exact inferInstance;exact rfl;exact rfl;exact rfl;(first|exact cZ.p|exact cZ.g rfl rfl rfl))
  |(apply aH0;exact rfl;(repeat (first|exact fY.a rfl|apply fY.b));exact rfl;(with_reducible assumption);exact inferInstance;exact rfl;exact rfl;exact rfl;(first|exact cZ.p|exact cZ.g rfl rfl rfl))
  |(apply aM6;exact rfl;exact inferInstance;exact rfl;(first|exact cZ.p|exact cZ.g rfl rfl rfl))
  |(apply aN0;exact rfl;exact rfl;exact rfl;(first|exact cZ.p|exact cZ.g rfl rfl rfl))
  |(apply aM9;exact rfl;exact rfl;exact rfl;(first|exact cZ.p|exact cZ.g rfl rfl rfl))
  |(apply aNd;exact rfl;exact rfl;exact rfl;(first|exact cZ.p|exact cZ.g rfl rfl rfl))
  |(apply aNk;exact rfl;exact rfl;exact rfl;(first|exact cZ.p|exact cZ.g rfl rfl rfl))
  |(apply aNy;exact rfl;exact rfl;exact rfl;(first|exact cZ.p|exact cZ.g rfl rfl rfl))
  |(apply aNG;exact rfl;exact rfl;exact rfl;(first|exact cZ.p|exact cZ.g rfl rfl rfl))
  |(apply aLI;exact rfl;exact rfl;exact rfl;(first|exact cZ.p|exact cZ.g rfl rfl rfl);(with_reducible assumption))
  |(apply aKG;exact rfl;exact rfl;exact rfl;(first|exact cZ.p|exact cZ.g rfl rfl rfl);(with_reducible assumption))
  |(apply aLB;exact rfl;exact rfl;exact rfl;(first|exact cZ.p|exact cZ.g rfl rfl rfl);(with_reducible assumption))
  |(apply aKy;exact rfl;exact rfl;exact rfl;(first|exact cZ.p|exact cZ.g rfl rfl rfl);(with_reducible assumption))
  |(apply aKY;exact rfl;exact rfl;exact rfl;(first|exact cZ.p|exact cZ.g rfl rfl rfl);(with_reducible assumption))
  |(apply aLf;exact rfl;exact rfl;(first|exact cZ.p|exact cZ.g rfl rfl rfl))
  |(apply aLp;exact rfl;exact rfl;(first|exact cZ.p|exact cZ.g rfl rfl rfl);(with_reducible assumption))
  |(apply aLm;exact rfl;exact rfl;(first|exact cZ.p|exact cZ.g rfl rfl rfl))
  |(apply aKW;exact rfl;exact rfl;(first|exact cZ.p|exact cZ.g rfl rfl rfl))
  |(apply aKA;exact rfl;exact rfl;(first|exact cZ.p|exact cZ.g rfl rfl rfl))
  |(apply aKH;exact rfl;exact rfl;(first|exact cZ.p|exact cZ.g rfl rfl rfl))
  |(apply aLw;exact rfl;exact rfl;(first|exact cZ.p|exact cZ.g rfl rfl rfl))
  |(apply aMK;exact rfl;exact rfl;exact rfl;(first|exact cZ.p|exact cZ.g rfl rfl rfl))
  |(apply aNR;exact rfl;exact rfl;exact rfl;(first|exact cZ.p|exact cZ.g rfl rfl rfl))
  |(apply aNA;exact rfl;exact rfl;exact inferInstance;exact rfl;(first|exact cZ.p|exact cZ.g rfl rfl rfl);(with_reducible assumption))
  |(apply aNc;exact rfl;exact rfl;exact inferInstance;exact rfl;(first|exact cZ.p|exact cZ.g rfl rfl rfl);(with_reducible assumption))
  |(apply aKN;exact rfl;exact rfl;exact rfl;exact inferInstance;exact rfl;(first|exact cZ.p|exact cZ.g rfl rfl rfl);(with_reducible assumption))
  |(apply aNV;exact rfl;exact rfl;exact rfl;(first|exact cZ.p|exact cZ.g rfl rfl rfl))
  |(apply aNz;exact rfl;exact rfl;exact rfl;(first|exact cZ.p|exact cZ.g rfl rfl rfl))
  |(apply aMV;exact rfl;exact rfl;(first|exact cZ.p|exact cZ.g rfl rfl rfl))
  |(apply aLo;exact rfl;exact rfl;(first|exact cZ.p|exact cZ.g rfl rfl rfl))
  |(apply aKD;exact rfl;exact rfl;(first|exact cZ.p|exact cZ.g rfl rfl rfl))
  |(apply aJm;exact rfl;exact rfl;(first|exact cZ.p|exact cZ.g rfl rfl rfl);assumption)
  |(apply aMJ;exact rfl;exact rfl;exact inferInstance;(repeat (first|exact t8.a rfl|apply t8.b));exact trivial;exact rfl;exact rfl)
  |(apply aNo;exact rfl;exact rfl;exact inferInstance;(repeat (first|exact t8.a rfl|apply t8.b));exact trivial;exact rfl;exact rfl)
  |(apply aGp;exact rfl;exact rfl;(repeat (first|exact fY.a rfl|apply fY.b));exact rfl;(with_reducible assumption);(with_reducible assumption);exact ty1s;(repeat (first|exact t8.a rfl|apply t8.b));exact trivial;exact rfl;exact rfl)
  |(apply aGp;exact rfl;exact rfl;(repeat (first|exact fY.a rfl|apply fY.b));exact rfl;(with_reducible assumption);(with_reducible assumption);exact tyAs;(repeat (first|exact t8.a rfl|apply t8.b));exact trivial;exact rfl;exact rfl)
  |(apply b_u;exact rfl;exact rfl;exact rfl;exact rfl)
  |(apply aJt)
  |(apply aIZ)
  |(apply aGi)
  |(apply aGo)
  |(apply aLj))
 repeat (cases(by with_reducible assumption:some _=some _))
 apply aNT
 ·exact rfl
 ·exact rfl
 ·repeat (first
   |exact RVs.nil
   |(apply RVs.tmp;exact rfl)
   |(apply rv_A;exact rfl;exact inferInstance;(repeat (first|exact fY.a rfl|apply fY.b));exact rfl)
   |(apply rv_1;exact rfl;exact inferInstance;(repeat (first|exact fY.a rfl|apply fY.b));exact rfl))
 ·exact rfl
 ·exact rfl
 ·exact fun _ h=>h):P:=h.h trivial
theorem kK{E':nV}(l:List Nat){a:Act}{w:World}(h:hs S H E a w)(hp:dS H l=some H':=by exact rfl)(hl:l.Nodup:=by decide)(hE:aB6 E E':=by repeat (first|exact trivial|refine⟨rfl,?_⟩)):hs S H' E' a w:=qA l hp hl hE h
theorem qG{PJ:List HA→nV→Prop}{E':nV}(J:∀H E,PJ H E→WX S .normal κ H E)(h:PJ H' E')(l:List Nat)(hp:dS H l=some H':=by exact rfl)(hE:aB6 E E':=by repeat (first|exact trivial|refine⟨rfl,?_⟩))(hl:l.Nodup:=by decide):WX S .normal κ H E:=aA7 J h l hp hE hl
theorem aI{α:Type}{A B:Option α}{r:α}{t:Nat}{b:Bool}{x y:Code}(e:(bif b then A else B)=some r)(f:iQ E t=some (.vc (pB b)))(j:b=true→A=some r→WC S x κ H E)(k:b=false→B=some r→WC S y κ H E):WC S (.cond (.tmp t) x y) κ H E:=
 xZ f (fun h=>j h (eG h e)) (fun h=>k h (dY h e))
theorem jW{α:Type}{A B:Option α}{r:α}{d:Nat}{c:Bool}(e:(bif c then A else B)=some r)(f:c=true→A=some r→WL S ops κ rest H ((d,.vc (pB true))::E))(j:c=false→B=some r→WL S ops κ rest H ((d,.vc (pB false))::E)):WL S ops κ rest H ((d,.vc (pB c))::E):=
 kR (fun h=>f h (eG h e)) (fun h=>j h (dY h e))
end
end Go.Proofs.YtnmdhmfofbfkjaaGreat
set_option linter.unusedVariables false
set_option maxRecDepth 100000
namespace Go.Proofs.YtnmdhmfofbfkjaaGreat
theorem aS:Tryz.prog.follows .mixedOrders=true:=by kernel_rfl
instance Tryz_mix:Mix Tryz.prog:=⟨aS⟩
instance tyA30:TyA Tryz.prog 30 2:=mkA Tryz.underlying30 rfl (by kernel_rfl)
theorem tyB30:TyB Tryz.prog 30 [(0,1),(1,1)] ([pB false]++[pS cI ([]:List Int)]):=mkB (z:=.agg #[.bool false,.slice none 0 0]) (by kernel_rfl) Tryz.underlying30 (by kernel_rfl) (fun M=>bC.app (show bC M [pB false] [.bool false] from zU1) (show bC M [pS cI ([]:List Int)] [.slice none 0 0] from⟨jV cI M,zT⟩))
instance tyF30_0:TyF Tryz.prog 30 0 0:=mkF (ft:=4) (k:=0) Tryz.underlying30 rfl rfl rfl (by kernel_rfl)
instance tyF30_1:TyF Tryz.prog 30 1 1:=mkF (ft:=22) (k:=0) Tryz.underlying30 rfl rfl rfl (by kernel_rfl)
instance tyO22:Ty1 Tryz.prog 22:=mk1 Tryz.underlying22 rfl (by kernel_rfl)
instance tyO3:Ty1 Tryz.prog 3:=mk1 Tryz.underlying3 rfl (by kernel_rfl)
instance tyO4:Ty1 Tryz.prog 4:=mk1 Tryz.underlying4 rfl (by kernel_rfl)
instance tyS22:TyS Tryz.prog 22 3 1 8:=mkS (z:=.int .i64 0) (k:=0) Tryz.underlying22 (by kernel_rfl) rfl
instance tyZ3:TyZ Tryz.prog 3 [vJ 0]:=mkZ (z:=.int .i64 0) (k:=1) (by kernel_rfl) rfl (fun M=>show bC M [vJ 0] [.int .i64 0] from zU1)
instance tyZ30:TyZ Tryz.prog 30 ([pB false]++[pS cI ([]:List Int)]):=mkZ (z:=.agg #[.bool false,.slice none 0 0]) (k:=2) (by kernel_rfl) rfl (fun M=>bC.app (show bC M [pB false] [.bool false] from zU1) (show bC M [pS cI ([]:List Int)] [.slice none 0 0] from⟨jV cI M,zT⟩))
def gZ(e:Int):Option Bool:=
 some (e != e)
theorem mP{e:Int}{r:Bool}(f:gZ e=some r):Ct Tryz.prog 167 [vI e] (.vc (pB r)):=by
 unfold gZ at f;refine aD Tryz.func167 rfl (by kernel_rfl) Tryz.ntmps167 rfl (fun w0 M0=>?_);exact cX
def gH(e:Int)(a1:Int):Option Int:=
 (gZ e).bind fun v1=>(gZ a1).bind fun f=>bif v1 then(bif f then(some 0) else(some (-1))) else(bif f then(some 1) else(bif(decide (e<a1)) then(some (-1)) else(bif(decide (a1<e)) then(some 1) else(some 0))))
theorem qV{f:Int}{a1:Int}{r:Int}(e:gH f a1=some r):Ct Tryz.prog 142 [vI f,vI a1] (vI r):=by
 unfold gH at e;refine aD Tryz.func142 rfl (by kernel_rfl) Tryz.ntmps142 rfl (fun w0 M0=>?_);obtain⟨v1,t,e⟩:=bQ e mP;obtain⟨u,x,e⟩:=bQ e mP;refine go ?_ ?_;refine aI e rfl (fun h e=>?_) (fun h e=>?_)
 ·refine go ?_ ?_;refine aI e rfl (fun j e=>?_) (fun j e=>?_)
  ·exact cX
  exact cX
 refine go ?_ ?_;refine aI e rfl (fun k e=>?_) (fun k e=>?_)
 ·exact cX
 refine go ?_ ?_;refine aI e rfl (fun q e=>?_) (fun q e=>?_)
 ·exact cX
 refine go ?_ ?_;refine aI e rfl (fun s e=>?_) (fun s e=>?_)
 ·exact cX
 exact cX
def qU(K:Nat):Option Int:=
 some 0
def fC(K:Nat)(f:List Int)(a1:List Int):Nat→Int→Option (LR Int Unit)
 |0,_=>none
 |k+1,e=>bif(decide (0≤e)) then((cT f e).bind fun h=>(cT a1 e).bind fun j=>bif(h != j) then((cT f e).bind fun v20=>(cT a1 e).bind fun q=>(gH v20 q).bind fun s=>some (.ret s)) else((aV (e-1)).bind fun t=>fC K f a1 k t)) else(some (.go ()))
def fB(K:Nat)(e:List Int)(a1:List Int):Option Int:=
 bif((e.length:Int) != (a1.length:Int)) then((gH (e.length:Int) (a1.length:Int)).bind fun v2=>some v2) else((aV ((e.length:Int)-1)).bind fun v4=>(fC K e a1 K v4).bind fun o=>match o with| .ret r=>some r| .go _=>qU K)
theorem lM{K:Nat}{h:List Int}{a1:List Int}{r:Int}(e:fB K h a1=some r):Ct Tryz.prog 109 [.vc (pS cI h),.vc (pS cI a1)] (vI r):=by
 unfold fB at e;refine aD Tryz.func109 rfl (by kernel_rfl) Tryz.ntmps109 rfl (fun w0 M0=>?_);refine go ?_ ?_;refine aI e rfl (fun I e=>?_) (fun I e=>?_)
 ·obtain⟨v2,h3,e⟩:=bQ e qV;exact cX
 obtain⟨v4,h5,e⟩:=aR e;refine go ?_ ?_;refine aO (bM (fun H E=>qU K=some r∧H=[]∧E=[]) ?_ (fun j=>?_))
 ·rintro _ _ ⟨e,rfl,rfl⟩;unfold qU at e;exact cX
 obtain⟨q,J,f⟩:=aR e;refine iO (fun k a w=>∃(s:Int),fC K h a1 k s=some q∧hs _ [] [(0,.vc (pS cI h)),(1,.vc (pS cI a1)),(5,vI s)] a w) K (fun a w ⟨_,e,_⟩=>by cases e) (fun k a w ⟨s,e,hh⟩=>iR ?_ hh) (fun a w hh=>⟨v4,J,kK [] hh⟩);rw[fC.eq_2]at e;refine go ?_ ?_;refine aI e rfl (fun t e=>?_) (fun t e=>?_)
 ·refine go ?_ ?_;refine aO (aG ?_);obtain⟨L,u,e⟩:=aR e;obtain⟨O,x,e⟩:=aR e;refine dr [0,0,3,7,0,0,48,112,255] 9 0 ?_ (fun F U=>?_);refine aJ (aC (aI e rfl (fun y e=>?_) (fun y e=>?_)))
  ·refine aG ?_;have e:=sQ u e;have e:=sQ x e;obtain⟨V,h25,e⟩:=bQ e qV;refine dr [0,0,3,7,0,0,48,112,255,511] 10 0 ?_ (fun G G18=>?_);refine aJ (aC ?_);exact cX
  obtain⟨z,h27,e⟩:=aR e;refine go ?_ ?_;exact aN (fun a w hh=>⟨z,e,kK [] hh⟩)
 refine cO ?_;obtain rfl:=f8 e;exact qG j ⟨f,rfl,rfl⟩ []
def kN(K:Nat)(e:aF)(a1:aF):Option Int:=
 bif(e.neg != a1.neg) then(bif e.neg then(some (-1)) else(bif(e.neg != a1.neg) then(some 1) else(bif e.neg then((fB K a1.d e.d).bind fun j=>some j) else((fB K e.d a1.d).bind fun k=>some k)))) else(bif(e.neg != a1.neg) then(some 1) else(bif e.neg then((fB K a1.d e.d).bind fun f=>some f) else((fB K e.d a1.d).bind fun h=>some h)))
theorem r4{K:Nat}{k:aF}{a1:aF}{r:Int}(f:kN K k a1=some r):Ct Tryz.prog 58 [.va (aF.e k),.va (aF.e a1)] (vI r):=by
 unfold kN at f;refine aD Tryz.func58 rfl (by kernel_rfl) Tryz.ntmps58 rfl (fun w0 M0=>?_);refine aG (aH (dC rfl rfl zT (fun I=>?_)));refine dC rfl rfl zT (fun b2=>?_);refine go ?_ ?_;refine aO (go ?_ ?_);refine aE (zU rfl Tryz.underlying4) zU2 ?_;refine cK ?_;refine jW f (fun q f=>?_) (fun q f=>?_)
 ·refine go ?_ ?_;refine aI f rfl (fun s f=>?_) (fun s f=>?_)
  ·exact cX
  refine go ?_ ?_;refine aE (zU rfl Tryz.underlying4) zU2 ?_;refine go ?_ ?_;refine aI f rfl (fun t f=>?_) (fun t f=>?_)
  ·exact cX
  refine go ?_ ?_;refine aI f rfl (fun u f=>?_) (fun u f=>?_)
  ·obtain⟨J,L,f⟩:=bQ f lM;exact cX
  obtain⟨O,x,f⟩:=bQ f lM;exact cX
 refine go ?_ ?_;refine r9 rfl ?_;refine go ?_ ?_;refine aE (zU rfl Tryz.underlying4) zU2 ?_;refine go ?_ ?_;refine aI f rfl (fun h f=>?_) (fun h f=>?_)
 ·exact cX
 refine go ?_ ?_;refine aI f rfl (fun j f=>?_) (fun j f=>?_)
 ·obtain⟨y,z,f⟩:=bQ f lM;exact cX
 obtain⟨F,G,f⟩:=bQ f lM;exact cX
def eE(e:Bool)(a1:Int):Option aF:=
 bif(a1==0) then(some (⟨false,([]:List Int)⟩:aF)) else(bif(decide (a1<1000000000)) then(some (⟨e,[(IntKind.i64.wrap a1)]⟩:aF)) else(bif(decide (a1<1000000000000000000)) then((wA a1 1000000000).bind fun k=>(uq a1 1000000000).bind fun q=>some (⟨e,[(IntKind.i64.wrap k),(IntKind.i64.wrap q)]⟩:aF)) else((wA a1 1000000000).bind fun s=>(uq a1 1000000000).bind fun v11=>(wA v11 1000000000).bind fun f=>(uq a1 1000000000).bind fun h=>(uq h 1000000000).bind fun j=>some (⟨e,[(IntKind.i64.wrap s),(IntKind.i64.wrap f),(IntKind.i64.wrap j)]⟩:aF))))
theorem jB{q:Bool}{a1:Int}{r:aF}(f:eE q a1=some r):Ct Tryz.prog 110 [.vc (pB q),.vc (pI .u64 a1)] (.va (aF.e r)):=by
 unfold eE at f;refine aD Tryz.func110 rfl (by kernel_rfl) Tryz.ntmps110 rfl (fun w0 M0=>?_);refine aG (aH (aM rfl tyZ30 (fun K=>?_)));refine go ?_ ?_;refine aO (go ?_ ?_);refine aI f rfl (fun z f=>?_) (fun z f=>?_)
 ·refine aG (aH (aE (gP (is:=[]) (xs:=[]) (ps:=[]) rfl tyB30 rfl rfl zT rfl) zT ?_));exact cX
 refine go ?_ ?_;refine aI f rfl (fun F f=>?_) (fun F f=>?_)
 ·refine go ?_ ?_;refine aE (zP rfl ⟨_,Tryz.underlying123⟩ Tryz.underlying3) zU1 ?_;refine aE (qP (C:=cI) (xs:=[.tmp 14]) (ps:=[vI (IntKind.i64.wrap a1)]) (zs:=[(IntKind.i64.wrap a1)]) rfl tyS22 rfl ⟨⟨zT,rfl⟩,zT⟩ rfl) zU1 ?_;refine aE (gP (is:=[0,1]) (xs:=[.tmp 12,.tmp 15]) (ps:=[.vc (pB q),.vc (pS cI [(IntKind.i64.wrap a1)])]) rfl tyB30 rfl rfl ⟨zT,zT,zT⟩ rfl) zU2 ?_;exact cX
 refine go ?_ ?_;refine aI f rfl (fun G f=>?_) (fun G f=>?_)
 ·obtain⟨s,L,f⟩:=aR f;refine go ?_ ?_;refine aE (zP rfl ⟨_,Tryz.underlying123⟩ Tryz.underlying3) zU1 ?_;refine cK ?_;obtain⟨t,I,f⟩:=aR f;refine aE (aEh rfl I) ⟨rfl,hU _ _,zT⟩ ?_;refine aE (zP rfl ⟨_,Tryz.underlying123⟩ Tryz.underlying3) zU1 ?_;refine aE (qP (C:=cI) (xs:=[.tmp 23,.tmp 26]) (ps:=[vI (IntKind.i64.wrap s),vI (IntKind.i64.wrap t)]) (zs:=[(IntKind.i64.wrap s),(IntKind.i64.wrap t)]) rfl tyS22 rfl ⟨⟨zT,rfl⟩,⟨zT,rfl⟩,zT⟩ rfl) zU2 ?_;refine aE (gP (is:=[0,1]) (xs:=[.tmp 20,.tmp 27]) (ps:=[.vc (pB q),.vc (pS cI [(IntKind.i64.wrap s),(IntKind.i64.wrap t)])]) rfl tyB30 rfl rfl ⟨zT,zT,zT⟩ rfl) zU2 ?_;exact cX
 obtain⟨u,J,f⟩:=aR f;refine go ?_ ?_;refine aE (zP rfl ⟨_,Tryz.underlying123⟩ Tryz.underlying3) zU1 ?_;refine cK ?_;obtain⟨v11,h,f⟩:=aR f;refine aE (aEh rfl h) ⟨rfl,hU _ _,zT⟩ ?_;obtain⟨j,x,f⟩:=aR f;refine aE (zR rfl x) ⟨rfl,hU _ _,zT⟩ ?_;refine aE (zP rfl ⟨_,Tryz.underlying123⟩ Tryz.underlying3) zU1 ?_;refine cK ?_;have f:=sQ h f;refine aE (aEh rfl h) ⟨rfl,hU _ _,zT⟩ ?_;obtain⟨k,y,f⟩:=aR f;refine aE (aEh rfl y) ⟨rfl,hU _ _,zT⟩ ?_;refine aE (zP rfl ⟨_,Tryz.underlying123⟩ Tryz.underlying3) zU1 ?_;refine aE (qP (C:=cI) (xs:=[.tmp 32,.tmp 36,.tmp 40]) (ps:=[vI (IntKind.i64.wrap u),vI (IntKind.i64.wrap j),vI (IntKind.i64.wrap k)]) (zs:=[(IntKind.i64.wrap u),(IntKind.i64.wrap j),(IntKind.i64.wrap k)]) rfl tyS22 rfl ⟨⟨zT,rfl⟩,⟨zT,rfl⟩,⟨zT,rfl⟩,zT⟩ rfl) ⟨rfl,rfl,rfl,zT⟩ ?_;refine aE (gP (is:=[0,1]) (xs:=[.tmp 29,.tmp 41]) (ps:=[.vc (pB q),.vc (pS cI [(IntKind.i64.wrap u),(IntKind.i64.wrap j),(IntKind.i64.wrap k)])]) rfl tyB30 rfl rfl ⟨zT,zT,zT⟩ rfl) zU2 ?_;exact cX
def kP(e:Int):Option aF:=
 bif(decide (e<0)) then((eE (decide (e<0)) (wu (-(IntKind.u64.wrap e)))).bind fun f=>some f) else((eE (decide (e<0)) (IntKind.u64.wrap e)).bind fun h=>some h)
theorem oM{h:Int}{r:aF}(f:kP h=some r):Ct Tryz.prog 59 [vI h] (.va (aF.e r)):=by
 unfold kP at f;refine aD Tryz.func59 rfl (by kernel_rfl) Tryz.ntmps59 rfl (fun w0 M0=>?_);refine aG (aH (aM rfl tyZ30 (fun k=>?_)));refine go ?_ ?_;refine aE (zP rfl ⟨_,Tryz.underlying3⟩ Tryz.underlying123) zU1 ?_;refine go ?_ ?_;refine aI f rfl (fun j f=>?_) (fun j f=>?_)
 ·refine aH (cK ?_);refine aE (aMa rfl) zU1 ?_;obtain⟨q,s,f⟩:=bQ f jB;exact cX
 obtain⟨t,u,f⟩:=bQ f jB;exact cX
def rW(K:Nat)(f:Bool)(a1:List Int)(e:Int):Option aF:=
 bif(e==0) then(some (⟨false,([]:List Int)⟩:aF)) else((xN a1 0 e).bind fun h=>some (⟨f,h⟩:aF))
def k5(K:Nat)(a1:List Int):Nat→Int→Option Int
 |0,_=>none
 |k+1,e=>bif(decide (0<e)) then((aV (e-1)).bind fun v11=>(cT a1 v11).bind fun f=>bif(f==0) then((aV (e-1)).bind fun h=>k5 K a1 k h) else(some e)) else(some e)
def d6(K:Nat)(e:Bool)(a1:List Int):Option aF:=
 (k5 K a1 K (a1.length:Int)).bind fun f=>rW K e a1 f
theorem gS{K:Nat}{j:Bool}{a1:List Int}{r:aF}(f:d6 K j a1=some r):Ct Tryz.prog 111 [.vc (pB j),.vc (pS cI a1)] (.va (aF.e r)):=by
 unfold d6 at f;refine aD Tryz.func111 rfl (by kernel_rfl) Tryz.ntmps111 rfl (fun w0 M0=>?_);refine aG (aH (aM rfl tyZ30 (fun t=>?_)));refine go ?_ ?_;refine aO (bM (fun H E=>∃(u:Int),rW K j a1 u=some r∧H=[⟨some t,1,30,2,1,([pB false]++[pS cI ([]:List Int)])⟩]∧E=[(0,.vc (pB j)),(1,.vc (pS cI a1)),(4,.vc (pP (some t) 0)),(5,vI u)]) ?_ (fun q=>?_))
 ·rintro _ _ ⟨u,f,rfl,rfl⟩;unfold rW at f;refine go ?_ ?_;refine aI f rfl (fun G f=>?_) (fun G f=>?_)
  ·refine aG (aH (aE (gP (is:=[]) (xs:=[]) (ps:=[]) rfl tyB30 rfl rfl zT rfl) zT ?_));exact cX
  obtain⟨I,J,f⟩:=aR f;refine go ?_ ?_;refine aE (aJV rfl tyS22 J) ⟨rfl,rfl,rfl,zT⟩ ?_;refine aE (gP (is:=[0,1]) (xs:=[.tmp 23,.tmp 27]) (ps:=[.vc (pB j),.vc (pS cI I)]) rfl tyB30 rfl rfl ⟨zT,zT,zT⟩ rfl) zU2 ?_;exact cX
 obtain⟨x,L,h⟩:=aR f;refine iO (fun k a w=>∃(s:Int),k5 K a1 k s=some x∧hs _ [⟨some t,1,30,2,1,([pB false]++[pS cI ([]:List Int)])⟩] [(0,.vc (pB j)),(1,.vc (pS cI a1)),(4,.vc (pP (some t) 0)),(5,vI s)] a w) K (fun a w ⟨_,f,_⟩=>by cases f) (fun k a w ⟨s,f,hh⟩=>iR ?_ hh) (fun a w hh=>⟨(a1.length:Int),L,kK [0] hh⟩);rw[k5.eq_2]at f;refine go ?_ ?_;refine jW f (fun y f=>?_) (fun y f=>?_)
 ·obtain⟨v11,z,O,U,f⟩:=sU f;refine go ?_ ?_;refine aI f rfl (fun F f=>?_) (fun F f=>?_)
  ·refine fG (aC (aO ?_));have f:=sQ z f;refine go ?_ ?_;exact aN (fun a w hh=>⟨v11,f,kK [0] hh⟩)
  refine cO ?_;obtain rfl:=f8 f;exact qG q ⟨s,h,rfl,rfl⟩ [0]
 refine go ?_ ?_;refine r9 rfl ?_;refine cO ?_;obtain rfl:=f8 f;exact qG q ⟨s,h,rfl,rfl⟩ [0]
def nX(K:Nat)(h:aF)(a1:aF)(e:List Int):Option aF:=
 (d6 K (h.neg != a1.neg) e).bind fun f=>some f
def n5(K:Nat)(a1:aF)(f:Int)(e:(List Int)→Int→Option (List Int))(h:List Int)(k:Int):Option (List Int):=
 (aV (f+(a1.d.length:Int))).bind fun j=>(cT h j).bind fun t=>(oZ h j k).bind fun q=>(aV (f+1)).bind fun s=>e q s
def f7(K:Nat)(a1:aF)(h:Int)(j:Int):Nat→(List Int)→Int→Int→Option ((List Int)×Int)
 |0,_,_,_=>none
 |k+1,f,q,e=>bif(decide (e<(a1.d.length:Int))) then((cT a1.d e).bind fun G=>(aV (h+e)).bind fun I=>(cT f I).bind fun J=>(aV (j*G)).bind fun L=>(aV (J+L)).bind fun O=>(aV (O+q)).bind fun s=>(vX s 1000000000).bind fun t=>(aV (h+e)).bind fun u=>(aV (t*1000000000)).bind fun x=>(aV (s-x)).bind fun y=>(cT f u).bind fun U=>(oZ f u y).bind fun z=>(aV (e+1)).bind fun F=>f7 K a1 h j k z t F) else(some (f,q))
def fD(K:Nat)(h:aF)(a1:aF):Nat→(List Int)→Int→Option (List Int)
 |0,_,_=>none
 |k+1,f,e=>bif(decide (e<(h.d.length:Int))) then((cT h.d e).bind fun j=>(f7 K a1 e j K f 0 0).bind fun(q,s)=>n5 K a1 e (fD K h a1 k) q s) else(some f)
def r3(K:Nat)(h:aF)(a1:aF)(e:List Int):Option aF:=
 (d6 K (h.neg != a1.neg) e).bind fun f=>some f
def pN(K:Nat)(a1:aF)(f:Int)(e:(List Int)→Int→Option (List Int))(h:List Int)(k:Int):Option (List Int):=
 (aV (f+(a1.d.length:Int))).bind fun j=>(cT h j).bind fun t=>(oZ h j k).bind fun q=>(aV (f+1)).bind fun s=>e q s
def lL(K:Nat)(a1:aF)(h:Int)(j:Int):Nat→(List Int)→Int→Int→Option ((List Int)×Int)
 |0,_,_,_=>none
 |k+1,f,q,e=>bif(decide (e<(a1.d.length:Int))) then((cT a1.d e).bind fun x=>(aV (h+e)).bind fun y=>(cT f y).bind fun z=>(aV (j*x)).bind fun F=>(aV (z+F)).bind fun G=>(aV (G+q)).bind fun s=>(vX s 1000000000).bind fun t=>(aV (h+e)).bind fun u=>(aV (t*1000000000)).bind fun I=>(aV (s-I)).bind fun J=>(cT f u).bind fun U=>(oZ f u J).bind fun L=>(aV (e+1)).bind fun O=>lL K a1 h j k L t O) else(some (f,q))
def kB(K:Nat)(s:aF)(a1:aF):Nat→(List Int)→Int→Option (List Int)
 |0,_,_=>none
 |k+1,f,e=>bif(decide (e<(s.d.length:Int))) then((cT s.d e).bind fun h=>(lL K a1 e h K f 0 0).bind fun(j,q)=>pN K a1 e (kB K s a1 k) j q) else(some f)
def bL(K:Nat)(e:aF)(a1:aF):Option aF:=
 bif((e.d.length:Int)==1) then(bif((a1.d.length:Int)==1) then((cT e.d 0).bind fun v10=>(cT a1.d 0).bind fun k=>(eE (e.neg != a1.neg) (wu ((IntKind.u64.wrap v10)*(IntKind.u64.wrap k)))).bind fun q=>some q) else((aV ((e.d.length:Int)+(a1.d.length:Int))).bind fun s=>(xU s 0).bind fun t=>(fD K e a1 K t 0).bind fun u=>nX K e a1 u)) else((aV ((e.d.length:Int)+(a1.d.length:Int))).bind fun f=>(xU f 0).bind fun h=>(kB K e a1 K h 0).bind fun j=>r3 K e a1 j)
theorem fZ{K:Nat}{q:aF}{a1:aF}{r:aF}(f:bL K q a1=some r):Ct Tryz.prog 60 [.va (aF.e q),.va (aF.e a1)] (.va (aF.e r)):=by
 unfold bL at f;refine aD Tryz.func60 rfl (by kernel_rfl) Tryz.ntmps60 rfl (fun w0 M0=>?_);refine aG (aH (dC rfl rfl zT (fun y=>?_)));refine dC rfl rfl zT (fun b2=>?_);refine aM rfl tyZ30 (fun G=>?_);refine go ?_ ?_;refine dr [0,1,0,4,3,31] 6 0 ?_ (fun bs5 G4=>?_);refine go ?_ ?_;refine jW f (fun h6 f=>?_) (fun h6 f=>?_)
 ·refine go ?_ ?_;refine aI f rfl (fun h7 f=>?_) (fun h7 f=>?_)
  ·refine aG ?_;obtain⟨v10,h11,f⟩:=aR f;obtain⟨v12,h13,f⟩:=aR f;obtain⟨v14,h15,f⟩:=bQ f jB;refine gJ [0,1,0,4,15,0,32,96,224,0,512,1536,3584,8160,16383,32767] 15 1 [.v (.vc (pP (some y) 0)),.v (.vc (pB q.neg)),.v (.vc (pP (some b2) 0)),.v (.vc (pB a1.neg)),.v (.vc (pB (q.neg != a1.neg))),.v (.vc (pS cI q.d)),.v (.vc (pM (cI.e v10))),.v (vI v10),.v (.vc (pI .u64 (IntKind.u64.wrap v10))),.v (.vc (pS cI a1.d)),.v (.vc (pM (cI.e v12))),.v (vI v12),.v (.vc (pI .u64 (IntKind.u64.wrap v12))),.v (.vc (pI .u64 (wu ((IntKind.u64.wrap v10)*(IntKind.u64.wrap v12))))),.v (.va (aF.e v14))] aS ⟨d0 (eZ (off:=0) (k:=0) rfl tyF30_0) zU1,d0 (iN 2 1 rfl rfl rfl rfl (.one tyO4)) zU1,d0 (eZ (off:=0) (k:=0) rfl tyF30_0) zU1,d0 (iN 1 1 rfl rfl rfl rfl (.one tyO4)) zU1,⟨rfl,.run (L:=[0]) ⟨fun G8 A=>zU rfl Tryz.underlying4,zT⟩ (fun G8=>zU2)⟩,d0 (aK (.inl rfl)) zU1,d0 (xT rfl tyS22 h11) ⟨rfl,hU _ _,zT⟩,d0 (vF 1 rfl rfl (.one tyO3)) zU1,⟨rfl,.run (L:=[0]) ⟨fun G8 A=>zP rfl ⟨_,Tryz.underlying3⟩ Tryz.underlying123,zT⟩ (fun G8=>zU1)⟩,d0 (aK (.inl rfl)) zU1,d0 (xT rfl tyS22 h13) ⟨rfl,hU _ _,zT⟩,d0 (vF 1 rfl rfl (.one tyO3)) zU1,⟨rfl,.run (L:=[0]) ⟨fun G8 A=>zP rfl ⟨_,Tryz.underlying3⟩ Tryz.underlying123,zT⟩ (fun G8=>zU1)⟩,d0 (aL8 rfl) zU2,d0 (aT rfl h15 rfl) zU2,zT⟩ (fun bs9 G8=>?_);exact cX
  obtain⟨v16,h17,j,h19,f⟩:=sU f;refine go ?_ ?_;refine rY (C:=cI) rfl tyS22 rfl tyZ3 rfl h19 (fun z=>?_);refine go ?_ ?_;refine aO (bM (fun H E=>∃(x37:List Int),nX K q a1 x37=some r∧x37.length=j.length∧H=[hO cI z j.length 3 j.length x37,⟨some G,1,30,2,1,([pB false]++[pS cI ([]:List Int)])⟩,⟨some b2,1,30,2,1,(aF.e a1)⟩,⟨some y,1,30,2,1,(aF.e q)⟩]∧E=[(2,.vc (pP (some y) 0)),(3,.vc (pP (some b2) 0)),(4,.vc (pP (some G) 0)),(7,.vc (pO z j.length j.length))]) ?_ (fun Jj44=>?_))
  ·rintro _ _ ⟨x37,f,q41,rfl,rfl⟩;unfold nX at f;refine go ?_ ?_;refine aE (zU rfl Tryz.underlying4) zU2 ?_;refine cK ?_;refine xI 0 [7,98] rfl q41 zU2 rfl ?_;obtain⟨v45,h46,f⟩:=bQ f gS;exact cX
  obtain⟨x37',hL,hRl43⟩:=aR f;refine iO (fun k a w=>∃(U:List Int),∃(x:Int),fD K q a1 k U x=some x37'∧U.length=j.length∧hs _ [hO cI z j.length 3 j.length U,⟨some G,1,30,2,1,([pB false]++[pS cI ([]:List Int)])⟩,⟨some b2,1,30,2,1,(aF.e a1)⟩,⟨some y,1,30,2,1,(aF.e q)⟩] [(2,.vc (pP (some y) 0)),(3,.vc (pP (some b2) 0)),(4,.vc (pP (some G) 0)),(6,.vc (pS cI a1.d)),(7,.vc (pO z j.length j.length)),(47,.vc (pS cI q.d)),(48,vI (q.d.length:Int)),(49,vI x)] a w) K (fun a w ⟨_,_,f,_,_⟩=>by cases f) (fun k a w ⟨U,x,f,q34,hh⟩=>iR ?_ hh) (fun a w hh=>⟨j,0,hL,rfl,kK [0,1,2,3] hh⟩);rw[fD.eq_2]at f;refine go ?_ ?_;refine aI f rfl (fun h47 f=>?_) (fun h47 f=>?_)
  ·refine go ?_ ?_;refine aO ?_;obtain⟨v48,h49,f⟩:=aR f;refine go ?_ ?_;refine aO (bM (fun H E=>∃(x66:List Int),∃(x72:Int),n5 K a1 x (fD K q a1 k) x66 x72=some x37'∧x66.length=j.length∧H=[hO cI z j.length 3 j.length x66,⟨some G,1,30,2,1,([pB false]++[pS cI ([]:List Int)])⟩,⟨some b2,1,30,2,1,(aF.e a1)⟩,⟨some y,1,30,2,1,(aF.e q)⟩]∧E=[(2,.vc (pP (some y) 0)),(3,.vc (pP (some b2) 0)),(4,.vc (pP (some G) 0)),(6,.vc (pS cI a1.d)),(7,.vc (pO z j.length j.length)),(8,vI x),(10,vI x72),(47,.vc (pS cI q.d)),(48,vI (q.d.length:Int)),(49,vI x)]) ?_ (fun Jj74=>?_))
   ·rintro _ _ ⟨x66,x72,f,q70,rfl,rfl⟩;unfold n5 at f;obtain⟨v75,h76,v77,h78,x79,h80,v82,h83,f⟩:=bn4 f;refine go ?_ ?_;exact aN (fun a w hh=>⟨x79,v82,f,(cC h80 q70),kK [0,1,2,3] hh⟩)
   obtain⟨⟨x66',x72'⟩,hL,hRl73⟩:=aR f;refine iO (fun k a w=>∃(V:List Int),∃(x64:Int),∃(x65:Int),f7 K a1 x v48 k V x64 x65=some (x66',x72')∧V.length=j.length∧hs _ [hO cI z j.length 3 j.length V,⟨some G,1,30,2,1,([pB false]++[pS cI ([]:List Int)])⟩,⟨some b2,1,30,2,1,(aF.e a1)⟩,⟨some y,1,30,2,1,(aF.e q)⟩] [(2,.vc (pP (some y) 0)),(3,.vc (pP (some b2) 0)),(4,.vc (pP (some G) 0)),(6,.vc (pS cI a1.d)),(7,.vc (pO z j.length j.length)),(8,vI x),(9,vI v48),(10,vI x64),(47,.vc (pS cI q.d)),(48,vI (q.d.length:Int)),(49,vI x),(54,.vc (pS cI a1.d)),(55,vI (a1.d.length:Int)),(56,vI x65)] a w) K (fun a w ⟨_,_,_,f,_,_⟩=>by cases f) (fun k a w ⟨V,x64,x65,f,q62,hh⟩=>iR ?_ hh) (fun a w hh=>⟨U,0,0,hL,q34,kK [0,1,2,3] hh⟩);rw[f7.eq_2]at f;refine go ?_ ?_;refine aI f rfl (fun h84 f=>?_) (fun h84 f=>?_)
   ·refine go ?_ ?_;refine aO ?_;obtain⟨v85,h86,v87,h88,v89,h90,v91,h92,f⟩:=bn4 f;obtain⟨v93,h94,v95,h96,v97,h98,f⟩:=bn3 f;have f:=sQ h88 f;obtain⟨v101,h102,v103,h104,f⟩:=sU f;have f:=sQ h90 f;obtain⟨x107,h108,v110,h111,f⟩:=sU f;refine go ?_ ?_;exact aN (fun a w hh=>⟨x107,v97,v110,f,(cC h108 q62),kK [0,1,2,3] hh⟩)
   refine cO ?_;obtain⟨rfl,rfl⟩:=sm2 f;exact qG Jj74 ⟨V,x64,hRl73,q62,rfl,rfl⟩ [0,1,2,3]
  refine cO ?_;obtain rfl:=f8 f;exact qG Jj44 ⟨U,hRl43,q34,rfl,rfl⟩ [0,1,2,3]
 refine go ?_ ?_;refine r9 rfl ?_;obtain⟨v112,h113,h,h115,f⟩:=sU f;refine go ?_ ?_;refine rY (C:=cI) rfl tyS22 rfl tyZ3 rfl h115 (fun t=>?_);refine go ?_ ?_;refine aO (bM (fun H E=>∃(I:List Int),r3 K q a1 I=some r∧I.length=h.length∧H=[hO cI t h.length 3 h.length I,⟨some G,1,30,2,1,([pB false]++[pS cI ([]:List Int)])⟩,⟨some b2,1,30,2,1,(aF.e a1)⟩,⟨some y,1,30,2,1,(aF.e q)⟩]∧E=[(2,.vc (pP (some y) 0)),(3,.vc (pP (some b2) 0)),(4,.vc (pP (some G) 0)),(7,.vc (pO t h.length h.length))]) ?_ (fun Jj140=>?_))
 ·rintro _ _ ⟨I,f,q137,rfl,rfl⟩;unfold r3 at f;refine go ?_ ?_;refine aE (zU rfl Tryz.underlying4) zU2 ?_;refine cK ?_;refine xI 0 [7,98] rfl q137 zU2 rfl ?_;obtain⟨v141,h142,f⟩:=bQ f gS;exact cX
 obtain⟨x133',hL,hRl139⟩:=aR f;refine iO (fun k a w=>∃(u:List Int),∃(s:Int),kB K q a1 k u s=some x133'∧u.length=h.length∧hs _ [hO cI t h.length 3 h.length u,⟨some G,1,30,2,1,([pB false]++[pS cI ([]:List Int)])⟩,⟨some b2,1,30,2,1,(aF.e a1)⟩,⟨some y,1,30,2,1,(aF.e q)⟩] [(2,.vc (pP (some y) 0)),(3,.vc (pP (some b2) 0)),(4,.vc (pP (some G) 0)),(6,.vc (pS cI a1.d)),(7,.vc (pO t h.length h.length)),(47,.vc (pS cI q.d)),(48,vI (q.d.length:Int)),(49,vI s)] a w) K (fun a w ⟨_,_,f,_,_⟩=>by cases f) (fun k a w ⟨u,s,f,q130,hh⟩=>iR ?_ hh) (fun a w hh=>⟨h,0,hL,rfl,kK [0,1,2,3] hh⟩);rw[kB.eq_2]at f;refine go ?_ ?_;refine aI f rfl (fun h143 f=>?_) (fun h143 f=>?_)
 ·refine go ?_ ?_;refine aO ?_;obtain⟨v144,h145,f⟩:=aR f;refine go ?_ ?_;refine aO (bM (fun H E=>∃(J:List Int),∃(x168:Int),pN K a1 s (kB K q a1 k) J x168=some x133'∧J.length=h.length∧H=[hO cI t h.length 3 h.length J,⟨some G,1,30,2,1,([pB false]++[pS cI ([]:List Int)])⟩,⟨some b2,1,30,2,1,(aF.e a1)⟩,⟨some y,1,30,2,1,(aF.e q)⟩]∧E=[(2,.vc (pP (some y) 0)),(3,.vc (pP (some b2) 0)),(4,.vc (pP (some G) 0)),(6,.vc (pS cI a1.d)),(7,.vc (pO t h.length h.length)),(8,vI s),(10,vI x168),(47,.vc (pS cI q.d)),(48,vI (q.d.length:Int)),(49,vI s)]) ?_ (fun Jj170=>?_))
  ·rintro _ _ ⟨J,x168,f,q166,rfl,rfl⟩;unfold pN at f;obtain⟨v171,h172,v173,h174,x175,h176,v178,h179,f⟩:=bn4 f;refine go ?_ ?_;exact aN (fun a w hh=>⟨x175,v178,f,(cC h176 q166),kK [0,1,2,3] hh⟩)
  obtain⟨⟨x162',x168'⟩,hL,hRl169⟩:=aR f;refine iO (fun k a w=>∃(F:List Int),∃(O:Int),∃(x161:Int),lL K a1 s v144 k F O x161=some (x162',x168')∧F.length=h.length∧hs _ [hO cI t h.length 3 h.length F,⟨some G,1,30,2,1,([pB false]++[pS cI ([]:List Int)])⟩,⟨some b2,1,30,2,1,(aF.e a1)⟩,⟨some y,1,30,2,1,(aF.e q)⟩] [(2,.vc (pP (some y) 0)),(3,.vc (pP (some b2) 0)),(4,.vc (pP (some G) 0)),(6,.vc (pS cI a1.d)),(7,.vc (pO t h.length h.length)),(8,vI s),(9,vI v144),(10,vI O),(47,.vc (pS cI q.d)),(48,vI (q.d.length:Int)),(49,vI s),(54,.vc (pS cI a1.d)),(55,vI (a1.d.length:Int)),(56,vI x161)] a w) K (fun a w ⟨_,_,_,f,_,_⟩=>by cases f) (fun k a w ⟨F,O,x161,f,q158,hh⟩=>iR ?_ hh) (fun a w hh=>⟨u,0,0,hL,q130,kK [0,1,2,3] hh⟩);rw[lL.eq_2]at f;refine go ?_ ?_;refine aI f rfl (fun h180 f=>?_) (fun h180 f=>?_)
  ·refine go ?_ ?_;refine aO ?_;obtain⟨v181,h182,v183,h184,v185,h186,v187,h188,f⟩:=bn4 f;obtain⟨v189,h190,v191,h192,v193,h194,f⟩:=bn3 f;have f:=sQ h184 f;obtain⟨v197,h198,v199,h200,f⟩:=sU f;have f:=sQ h186 f;obtain⟨x203,h204,v206,h207,f⟩:=sU f;refine go ?_ ?_;exact aN (fun a w hh=>⟨x203,v193,v206,f,(cC h204 q158),kK [0,1,2,3] hh⟩)
  refine cO ?_;obtain⟨rfl,rfl⟩:=sm2 f;exact qG Jj170 ⟨F,O,hRl169,q158,rfl,rfl⟩ [0,1,2,3]
 refine cO ?_;obtain rfl:=f8 f;exact qG Jj140 ⟨u,hRl139,q130,rfl,rfl⟩ [0,1,2,3]
def oK(e:aF):Option aF:=
 bif(!e.neg) then(some (⟨(decide (0<(e.d.length:Int))),e.d⟩:aF)) else(some (⟨false,e.d⟩:aF))
theorem u7{h:aF}{r:aF}(f:oK h=some r):Ct Tryz.prog 62 [.va (aF.e h)] (.va (aF.e r)):=by
 unfold oK at f;refine aD Tryz.func62 rfl (by kernel_rfl) Tryz.ntmps62 rfl (fun w0 M0=>?_);refine aG (aH (dC rfl rfl zT (fun k=>?_)));refine aM rfl tyZ30 (fun b2=>?_);refine go ?_ ?_;refine jW f (fun j f=>?_) (fun j f=>?_)
 ·exact cX
 exact cX
def mD(K:Nat)(f:Bool)(a1:List Int)(e:Int):Option aF:=
 bif(e==0) then(some (⟨false,([]:List Int)⟩:aF)) else((xN a1 0 e).bind fun h=>some (⟨f,h⟩:aF))
def eN(K:Nat)(a1:List Int):Nat→Int→Option Int
 |0,_=>none
 |k+1,e=>bif(decide (0<e)) then((aV (e-1)).bind fun v11=>(cT a1 (max v11 0)).bind fun f=>bif(f==0) then((aV (e-1)).bind fun h=>eN K a1 k h) else(some e)) else(some e)
def aU(K:Nat)(e:Bool)(a1:List Int):Option aF:=
 (eN K a1 K (a1.length:Int)).bind fun f=>mD K e a1 f
theorem bB{K:Nat}{j:Bool}{a1:List Int}{r:aF}(f:aU K j a1=some r):Ct Tryz.prog 133 [.vc (pB j),.vc (pS cI a1)] (.va (aF.e r)):=by
 unfold aU at f;refine aD Tryz.func133 rfl (by kernel_rfl) Tryz.ntmps133 rfl (fun w0 M0=>?_);refine aG (aH (aM rfl tyZ30 (fun t=>?_)));refine go ?_ ?_;refine aO (bM (fun H E=>∃(u:Int),mD K j a1 u=some r∧H=[⟨some t,1,30,2,1,([pB false]++[pS cI ([]:List Int)])⟩]∧E=[(0,.vc (pB j)),(1,.vc (pS cI a1)),(4,.vc (pP (some t) 0)),(5,vI u)]) ?_ (fun q=>?_))
 ·rintro _ _ ⟨u,f,rfl,rfl⟩;unfold mD at f;refine go ?_ ?_;refine aI f rfl (fun G f=>?_) (fun G f=>?_)
  ·refine aG (aH (aE (gP (is:=[]) (xs:=[]) (ps:=[]) rfl tyB30 rfl rfl zT rfl) zT ?_));exact cX
  obtain⟨I,U,f⟩:=aR f;refine go ?_ ?_;refine aE (gP (is:=[0,1]) (xs:=[.tmp 24,.tmp 27]) (ps:=[.vc (pB j),.vc (pS cI I)]) rfl tyB30 rfl rfl ⟨zT,zT,zT⟩ rfl) zU2 ?_;exact cX
 obtain⟨x,J,h⟩:=aR f;refine iO (fun k a w=>∃(s:Int),eN K a1 k s=some x∧hs _ [⟨some t,1,30,2,1,([pB false]++[pS cI ([]:List Int)])⟩] [(0,.vc (pB j)),(1,.vc (pS cI a1)),(4,.vc (pP (some t) 0)),(5,vI s)] a w) K (fun a w ⟨_,f,_⟩=>by cases f) (fun k a w ⟨s,f,hh⟩=>iR ?_ hh) (fun a w hh=>⟨(a1.length:Int),J,kK [0] hh⟩);rw[eN.eq_2]at f;refine go ?_ ?_;refine jW f (fun y f=>?_) (fun y f=>?_)
 ·obtain⟨v11,z,L,O,f⟩:=sU f;refine go ?_ ?_;refine aI f rfl (fun F f=>?_) (fun F f=>?_)
  ·refine fG (aC (aO ?_));have f:=sQ z f;refine go ?_ ?_;exact aN (fun a w hh=>⟨v11,f,kK [0] hh⟩)
  refine cO ?_;obtain rfl:=f8 f;exact qG q ⟨s,h,rfl,rfl⟩ [0]
 refine go ?_ ?_;refine r9 rfl ?_;refine cO ?_;obtain rfl:=f8 f;exact qG q ⟨s,h,rfl,rfl⟩ [0]
def n8(K:Nat)(h:Int)(e:List Int):Option aF:=
 (aU K (decide (h<0)) e).bind fun f=>some f
def dD(K:Nat):Nat→(List Int)→Int→Option (List Int)
 |0,_,_=>none
 |k+1,f,e=>bif(e != 0) then((wA e 1000000000).bind fun h=>bif(decide (h<0)) then((aV (-h)).bind fun j=>(uK f [j]).bind fun q=>(vX e 1000000000).bind fun s=>dD K k q s) else((uK f [h]).bind fun t=>(vX e 1000000000).bind fun u=>dD K k t u)) else(some f)
def gR(K:Nat)(f:Int):Option aF:=
 (dD K K ([]:List Int) f).bind fun e=>n8 K f e
theorem mH{K:Nat}{L:Int}{r:aF}(f:gR K L=some r):Ct Tryz.prog 89 [vI L] (.va (aF.e r)):=by
 unfold gR at f;refine aD Tryz.func89 rfl (by kernel_rfl) Tryz.ntmps89 rfl (fun w0 M0=>?_);refine aG (aH (aM rfl tyZ30 (fun b1=>?_)));refine aJ (aC (aG (aH (tS cI 3 rfl ?_))));refine go ?_ ?_;refine aO (bM (fun H E=>∃(s:List Int),∃(y:Option Nat),∃(z:Nat),∃(t:Nat),n8 K L s=some r∧s.length=t∧H=[hO cI y z 3 t s,⟨some b1,1,30,2,1,([pB false]++[pS cI ([]:List Int)])⟩]∧E=[(2,.vc (pP (some b1) 0)),(3,.vc (pO y t z)),(4,.vc (pB (decide (L<0))))]) ?_ (fun O=>?_))
 ·rintro _ _ ⟨s,y,z,t,f,q22,rfl,rfl⟩;unfold n8 at f;refine aC (aG (aH (cK ?_)));refine cK ?_;refine xI 0 [3,23] rfl q22 zU2 rfl ?_;obtain⟨v26,h27,f⟩:=bQ f bB;exact cX
 obtain⟨U,hL,F⟩:=aR f;refine iO (fun k a w=>∃(j:List Int),∃(G:Int),∃(u:Option Nat),∃(x:Nat),∃(h:Nat),dD K k j G=some U∧j.length=h∧hs _ [hO cI u x 3 h j,⟨some b1,1,30,2,1,([pB false]++[pS cI ([]:List Int)])⟩] [(0,vI G),(2,.vc (pP (some b1) 0)),(3,.vc (pO u h x)),(4,.vc (pB (decide (L<0))))] a w) K (fun a w ⟨_,_,_,_,_,f,_,_⟩=>by cases f) (fun k a w ⟨j,G,u,x,h,f,q,hh⟩=>iR ?_ hh) (fun a w hh=>⟨([]:List Int),L,none,0,0,hL,rfl,kK [0,1] hh⟩);rw[dD.eq_2]at f;refine go ?_ ?_;refine aI f rfl (fun h28 f=>?_) (fun h28 f=>?_)
 ·refine fG (aC (aO ?_));obtain⟨I,h30,f⟩:=aR f;refine go ?_ ?_;refine aI f rfl (fun h31 f=>?_) (fun h31 f=>?_)
  ·obtain⟨J,h33,f⟩:=aR f;refine go ?_ ?_;refine aE (qP (C:=cI) (xs:=[.tmp 17]) (ps:=[vI J]) (zs:=[J]) rfl tyS22 rfl ⟨⟨zT,rfl⟩,zT⟩ rfl) zU1 ?_;obtain⟨x34,V,f⟩:=aR f;refine rJ 0 rfl tyS22 rfl rfl q rfl rfl V (fun b36 c37 H38 e39=>?_);cases e39;obtain⟨v41,h42,f⟩:=aR f;refine go ?_ ?_;exact aN (fun a w hh=>⟨x34,v41,b36,c37,(h+[J].length),f,(jE V q),kK [0,1] hh⟩)
  refine go ?_ ?_;refine aE (qP (C:=cI) (xs:=[.tmp 17]) (ps:=[vI I]) (zs:=[I]) rfl tyS22 rfl ⟨⟨zT,rfl⟩,zT⟩ rfl) zU1 ?_;obtain⟨x43,h44,f⟩:=aR f;refine rJ 0 rfl tyS22 rfl rfl q rfl rfl h44 (fun b45 c46 H47 e48=>?_);cases e48;obtain⟨v50,h51,f⟩:=aR f;refine go ?_ ?_;exact aN (fun a w hh=>⟨x43,v50,b45,c46,(h+[I].length),f,(jE h44 q),kK [0,1] hh⟩)
 refine cO ?_;obtain rfl:=f8 f;exact qG O ⟨j,u,x,h,F,q,rfl,rfl⟩ [0,1]
def pD(K:Nat)(j:List Int)(e:List Int)(f:Int):Option (List Int):=
 (cT e (j.length:Int)).bind fun k=>(oZ e (j.length:Int) f).bind fun h=>some h
def cY(K:Nat)(q:List Int)(s:List Int):Nat→(List Int)→Int→Int→Option ((List Int)×Int)
 |0,_,_,_=>none
 |k+1,f,t,e=>bif(decide (e<(q.length:Int))) then((cT q e).bind fun u=>(aV (u+t)).bind fun h=>bif(decide (e<(s.length:Int))) then((cT s e).bind fun x=>(aV (h+x)).bind fun j=>bif(decide (1000000000≤j)) then((aV (j-1000000000)).bind fun y=>(cT f e).bind fun v55=>(oZ f e y).bind fun z=>(aV (e+1)).bind fun F=>cY K q s k z 1 F) else((cT f e).bind fun v62=>(oZ f e j).bind fun G=>(aV (e+1)).bind fun I=>cY K q s k G 0 I)) else(bif(decide (1000000000≤h)) then((aV (h-1000000000)).bind fun J=>(cT f e).bind fun v72=>(oZ f e J).bind fun L=>(aV (e+1)).bind fun O=>cY K q s k L 1 O) else((cT f e).bind fun v79=>(oZ f e h).bind fun U=>(aV (e+1)).bind fun V=>cY K q s k U 0 V))) else(some (f,t))
def mA(K:Nat)(e:List Int)(j:List Int):Option (List Int):=
 (aV ((e.length:Int)+1)).bind fun k=>(xU k 0).bind fun q=>(cY K e j K q 0 0).bind fun(f,h)=>pD K e f h
def m5(K:Nat)(e:List Int)(a1:List Int):Option (List Int):=
 bif(decide ((e.length:Int)<(a1.length:Int))) then(mA K a1 e) else(mA K e a1)
theorem xJ{K:Nat}{L:List Int}{a1:List Int}{r:List Int}(e:m5 K L a1=some r):Ct Tryz.prog 137 [.vc (pS cI L),.vc (pS cI a1)] (.vc (pS cI r)):=by
 unfold m5 at e;refine aD Tryz.func137 rfl (by kernel_rfl) Tryz.ntmps137 rfl (fun w0 M0=>?_);refine aG (aH (aE (aK (.inr rfl)) ⟨jV cI,zT⟩ ?_));refine aJ (aC (aG (vQ (fun H E=>∃(q:List Int),∃(z:List Int),mA K q z=some r∧H=[]∧E=[(0,.vc (pS cI q)),(1,.vc (pS cI z))]) ?_ (fun F=>?_))))
 ·rintro _ _ ⟨q,z,e,rfl,rfl⟩;unfold mA at e;obtain⟨v5,h6,f,h8,e⟩:=sU e;refine go ?_ ?_;refine rY (C:=cI) rfl tyS22 rfl tyZ3 rfl h8 (fun O=>?_);refine go ?_ ?_;refine aO (bM (fun H E=>∃(s:List Int),∃(u:Int),pD K q s u=some r∧s.length=f.length∧H=[hO cI O f.length 3 f.length s]∧E=[(0,.vc (pS cI q)),(5,.vc (pO O f.length f.length)),(6,vI u)]) ?_ (fun G=>?_))
  ·rintro _ _ ⟨s,u,e,U,rfl,rfl⟩;unfold pD at e;obtain⟨v37,h38,x39,V,e⟩:=sU e;refine go ?_ ?_;refine bW (bV (z4 0 [4,5,50,55] rfl (cC V U) ⟨rfl,rfl,rfl,rfl,zT⟩ rfl ?_));obtain rfl:=f8 e;exact bS (.inl rfl) Tryz.results137 (.tmp rfl .nil) rfl rfl
  obtain⟨⟨I,J⟩,hL,x⟩:=aR e;refine iO (fun k a w=>∃(h:List Int),∃(t:Int),∃(y:Int),cY K q z k h t y=some (I,J)∧h.length=f.length∧hs _ [hO cI O f.length 3 f.length h] [(0,.vc (pS cI q)),(1,.vc (pS cI z)),(5,.vc (pO O f.length f.length)),(6,vI t),(21,.vc (pS cI q)),(22,vI (q.length:Int)),(23,vI y)] a w) K (fun a w ⟨_,_,_,e,_,_⟩=>by cases e) (fun k a w ⟨h,t,y,e,j,hh⟩=>iR ?_ hh) (fun a w hh=>⟨f,0,0,hL,rfl,kK [0] hh⟩);rw[cY.eq_2]at e;refine go ?_ ?_;refine aI e rfl (fun h42 e=>?_) (fun h42 e=>?_)
  ·refine go ?_ ?_;refine aO ?_;obtain⟨v43,h44,v45,h46,e⟩:=sU e;refine go ?_ ?_;refine aI e rfl (fun h47 e=>?_) (fun h47 e=>?_)
   ·obtain⟨v48,h49,v50,h51,e⟩:=sU e;refine go ?_ ?_;refine aI e rfl (fun h52 e=>?_) (fun h52 e=>?_)
    ·obtain⟨v53,h54,v55,h56,x57,h58,v60,h61,e⟩:=bn4 e;refine go ?_ ?_;exact aN (fun a w hh=>⟨x57,1,v60,e,(cC h58 j),kK [0] hh⟩)
    obtain⟨v62,h63,x64,h65,v67,h68,e⟩:=bn3 e;refine go ?_ ?_;exact aN (fun a w hh=>⟨x64,0,v67,e,(cC h65 j),kK [0] hh⟩)
   refine go ?_ ?_;refine aI e rfl (fun h69 e=>?_) (fun h69 e=>?_)
   ·obtain⟨v70,h71,v72,h73,x74,h75,v77,h78,e⟩:=bn4 e;refine go ?_ ?_;exact aN (fun a w hh=>⟨x74,1,v77,e,(cC h75 j),kK [0] hh⟩)
   obtain⟨v79,h80,x81,h82,v84,h85,e⟩:=bn3 e;refine go ?_ ?_;exact aN (fun a w hh=>⟨x81,0,v84,e,(cC h82 j),kK [0] hh⟩)
  refine cO ?_;obtain⟨rfl,rfl⟩:=sm2 e;exact qG G ⟨h,t,x,j,rfl,rfl⟩ [0]
 refine go ?_ ?_;refine aI e rfl (fun h86 e=>?_) (fun h86 e=>?_)
 ·refine aH (cK ?_);refine cK ?_;refine kL ?_;refine kL ?_;refine aJ ?_;exact qG F ⟨a1,L,e,rfl,rfl⟩ []
 refine fG ?_;exact qG F ⟨L,a1,e,rfl,rfl⟩ []
def oR(K:Nat)(e:List Int):Option (List Int):=
 some e
def jD(K:Nat)(e:Int)(f:(List Int)→Int→Option (List Int))(h:List Int):Option (List Int):=
 (cT h e).bind fun q=>bif(decide (q<0)) then((cT h e).bind fun s=>(aV (s+1000000000)).bind fun t=>(cT h e).bind fun G=>(oZ h e t).bind fun j=>(aV (e+1)).bind fun k=>(cT j k).bind fun u=>(aV (u-1)).bind fun x=>(cT j k).bind fun I=>(oZ j k x).bind fun y=>(aV (e+1)).bind fun z=>f y z) else((aV (e+1)).bind fun F=>f h F)
def dV(K:Nat)(h:List Int)(a1:List Int)(x1:List Int):Nat→(List Int)→Int→Option (List Int)
 |0,_,_=>none
 |k+1,f,e=>bif(decide (e<((cpL x1 h).length:Int))) then(bif(decide (e<(a1.length:Int))) then((cT f e).bind fun j=>(cT a1 e).bind fun q=>(aV (j-q)).bind fun s=>(cT f e).bind fun u=>(oZ f e s).bind fun t=>jD K e (dV K h a1 x1 k) t) else(jD K e (dV K h a1 x1 k) f)) else(some f)
def k6(K:Nat)(e:List Int)(a1:List Int):Option (List Int):=
 (xU (e.length:Int) 0).bind fun x1=>(dV K e a1 x1 K (cpL x1 e) 0).bind fun f=>oR K f
theorem tD{K:Nat}{t:List Int}{a1:List Int}{r:List Int}(e:k6 K t a1=some r):Ct Tryz.prog 138 [.vc (pS cI t),.vc (pS cI a1)] (.vc (pS cI r)):=by
 unfold k6 at e;refine aD Tryz.func138 rfl (by kernel_rfl) Tryz.ntmps138 rfl (fun w0 M0=>?_);refine aG (aH (aE (aK (.inr rfl)) ⟨jV cI,zT⟩ ?_));obtain⟨x1,h2,e⟩:=aR e;refine go ?_ ?_;refine rY (C:=cI) rfl tyS22 rfl tyZ3 rfl h2 (fun F=>?_);refine go ?_ ?_;refine aE (t_cp 0 rfl tyS22 rfl rfl rfl) zU2 ?_;refine go ?_ ?_;refine aE (aDl (C:=cI) (xs:=(cpL x1 t)) (T:=3) rfl tyS22 (aGH rfl)) zU1 ?_;refine go ?_ ?_;refine aO (bM (fun H E=>∃(q:List Int),oR K q=some r∧q.length=x1.length∧H=[hO cI F x1.length 3 x1.length q]∧E=[(5,.vc (pO F x1.length x1.length))]) ?_ (fun G=>?_))
 ·rintro _ _ ⟨q,e,U,rfl,rfl⟩;unfold oR at e;refine go ?_ ?_;refine bW (bV (z4 0 [4,5,51] rfl U ⟨rfl,rfl,rfl,zT⟩ rfl ?_));obtain rfl:=f8 e;exact bS (.inl rfl) Tryz.results138 (.tmp rfl .nil) rfl rfl
 obtain⟨u,hL,y⟩:=aR e;refine iO (fun k a w=>∃(f:List Int),∃(h:Int),dV K t a1 x1 k f h=some u∧f.length=x1.length∧hs _ [hO cI F x1.length 3 x1.length f] [(1,.vc (pS cI a1)),(5,.vc (pO F x1.length x1.length)),(14,vI ((cpL x1 t).length:Int)),(15,vI h)] a w) K (fun a w ⟨_,_,e,_,_⟩=>by cases e) (fun k a w ⟨f,h,e,z,hh⟩=>iR ?_ hh) (fun a w hh=>⟨(cpL x1 t),0,hL,(aGH rfl),kK [0] hh⟩);rw[dV.eq_2]at e;refine go ?_ ?_;refine aI e rfl (fun V e=>?_) (fun V e=>?_)
 ·refine go ?_ ?_;refine aO (aG (aH (cK ?_)));refine kL ?_;refine aJ (aC (aG (vQ (fun H E=>∃(j:List Int),jD K h (dV K t a1 x1 k) j=some u∧j.length=x1.length∧H=[hO cI F x1.length 3 x1.length j]∧E=[(1,.vc (pS cI a1)),(5,.vc (pO F x1.length x1.length)),(6,vI h),(14,vI ((cpL x1 t).length:Int)),(15,vI h)]) ?_ (fun x=>?_))))
  ·rintro _ _ ⟨j,e,I,rfl,rfl⟩;unfold jD at e;obtain⟨v38,J,e⟩:=aR e;refine go ?_ ?_;refine aI e rfl (fun h40 e=>?_) (fun h40 e=>?_)
   ·have e:=sQ J e;obtain⟨v43,h44,e⟩:=aR e;have e:=sQ J e;obtain⟨x47,h48,v50,h51,v52,h53,v54,h55,e⟩:=bn4 e;have e:=sQ h53 e;obtain⟨x58,h59,e⟩:=aR e;have e:=sQ h51 e;refine go ?_ ?_;exact aN (fun a w hh=>⟨x58,v50,e,(cC h59 (cC h48 I)),kK [0] hh⟩)
   obtain⟨v63,h64,e⟩:=aR e;refine go ?_ ?_;exact aN (fun a w hh=>⟨j,v63,e,I,kK [0] hh⟩)
  refine go ?_ ?_;refine aI e rfl (fun h65 e=>?_) (fun h65 e=>?_)
  ·obtain⟨v68,L,e⟩:=aR e;obtain⟨v70,h71,e⟩:=aR e;obtain⟨v72,h73,e⟩:=aR e;have e:=sQ L e;refine dr [0,0,3,7,0,0,48,112,255,511,1023] 10 1 ?_ (fun bs67 G66=>?_);obtain⟨x76,O,e⟩:=aR e;refine mU (aCa 0 rfl rfl L O tyO3.s) zU2 ?_;refine aJ ?_;exact qG x ⟨x76,e,(cC O z),rfl,rfl⟩ [0]
  refine fG ?_;exact qG x ⟨f,e,z,rfl,rfl⟩ [0]
 refine cO ?_;obtain rfl:=f8 e;exact qG G ⟨f,y,z,rfl,rfl⟩ [0]
def lS(K:Nat)(e:aF)(a1:aF):Option aF:=
 bif(e.neg==a1.neg) then((m5 K e.d a1.d).bind fun q=>(d6 K e.neg q).bind fun s=>some s) else((fB K e.d a1.d).bind fun v11=>bif(decide (v11<0)) then((k6 K a1.d e.d).bind fun f=>(d6 K a1.neg f).bind fun h=>some h) else((k6 K e.d a1.d).bind fun j=>(d6 K e.neg j).bind fun k=>some k))
theorem uR{K:Nat}{j:aF}{a1:aF}{r:aF}(f:lS K j a1=some r):Ct Tryz.prog 92 [.va (aF.e j),.va (aF.e a1)] (.va (aF.e r)):=by
 unfold lS at f;refine aD Tryz.func92 rfl (by kernel_rfl) Tryz.ntmps92 rfl (fun w0 M0=>?_);refine aG (aH (dC rfl rfl zT (fun b1=>?_)));refine dC rfl rfl zT (fun b2=>?_);refine aM rfl tyZ30 (fun b3=>?_);refine go ?_ ?_;refine aO (go ?_ ?_);refine aE (aJe rfl Tryz.underlying4) zU2 ?_;refine go ?_ ?_;refine aI f rfl (fun s f=>?_) (fun s f=>?_)
 ·refine aG ?_;obtain⟨v7,h8,f⟩:=bQ f xJ;obtain⟨v9,t,f⟩:=bQ f gS;refine dr [0,1,0,4,0,16,60,127,255] 8 1 ?_ (fun u G5=>?_);exact cX
 obtain⟨v11,x,f⟩:=bQ f lM;refine go ?_ ?_;refine aI f rfl (fun h f=>?_) (fun h f=>?_)
 ·refine aG ?_;obtain⟨y,z,f⟩:=bQ f tD;obtain⟨F,G,f⟩:=bQ f gS;refine dr [0,1,0,4,0,16,60,127,255] 8 1 ?_ (fun k I=>?_);exact cX
 obtain⟨J,L,f⟩:=bQ f tD;obtain⟨O,U,f⟩:=bQ f gS;refine go ?_ ?_;refine dr [0,1,0,4,0,16,60,127,255] 8 1 ?_ (fun q V=>?_);exact cX
def qO(e:aF):Option Int:=
 bif e.neg then(some (-1)) else(bif((e.d.length:Int)==0) then(some 0) else(some 1))
theorem aBB{h:aF}{r:Int}(f:qO h=some r):Ct Tryz.prog 100 [.va (aF.e h)] (vI r):=by
 unfold qO at f;refine aD Tryz.func100 rfl (by kernel_rfl) Tryz.ntmps100 rfl (fun w0 M0=>?_);refine aG (aH (dC rfl rfl zT (fun q=>?_)));refine go ?_ ?_;refine aO (go ?_ ?_);refine aI f rfl (fun j f=>?_) (fun j f=>?_)
 ·exact cX
 refine go ?_ ?_;refine aI f rfl (fun k f=>?_) (fun k f=>?_)
 ·exact cX
 exact cX
def nQ(K:Nat):Option Int:=
 some 0
def cU(K:Nat)(f:List Int)(a1:List Int):Nat→Int→Option (LR Int Unit)
 |0,_=>none
 |k+1,e=>bif(decide (0≤e)) then((cT f e).bind fun h=>(cT a1 e).bind fun j=>bif(decide (h<j)) then(some (.ret (-1))) else((cT f e).bind fun q=>(cT a1 e).bind fun s=>bif(decide (s<q)) then(some (.ret 1)) else((aV (e-1)).bind fun t=>cU K f a1 k t))) else(some (.go ()))
def cN(K:Nat)(e:List Int)(a1:List Int):Option Int:=
 bif(decide ((e.length:Int)<(a1.length:Int))) then(some (-1)) else(bif(decide ((a1.length:Int)<(e.length:Int))) then(some 1) else((aV ((e.length:Int)-1)).bind fun f=>(cU K e a1 K f).bind fun o=>match o with| .ret r=>some r| .go _=>nQ K))
theorem kG{K:Nat}{h:List Int}{a1:List Int}{r:Int}(e:cN K h a1=some r):Ct Tryz.prog 143 [.vc (pS cI h),.vc (pS cI a1)] (vI r):=by
 unfold cN at e;refine aD Tryz.func143 rfl (by kernel_rfl) Tryz.ntmps143 rfl (fun w0 M0=>?_);refine go ?_ ?_;refine aI e rfl (fun I e=>?_) (fun I e=>?_)
 ·exact cX
 refine go ?_ ?_;refine aI e rfl (fun J e=>?_) (fun J e=>?_)
 ·exact cX
 obtain⟨L,h4,e⟩:=aR e;refine go ?_ ?_;refine aO (bM (fun H E=>nQ K=some r∧H=[]∧E=[]) ?_ (fun j=>?_))
 ·rintro _ _ ⟨e,rfl,rfl⟩;unfold nQ at e;exact cX
 obtain⟨q,O,f⟩:=aR e;refine iO (fun k a w=>∃(s:Int),cU K h a1 k s=some q∧hs _ [] [(0,.vc (pS cI h)),(1,.vc (pS cI a1)),(5,vI s)] a w) K (fun a w ⟨_,e,_⟩=>by cases e) (fun k a w ⟨s,e,hh⟩=>iR ?_ hh) (fun a w hh=>⟨L,O,kK [] hh⟩);rw[cU.eq_2]at e;refine go ?_ ?_;refine aI e rfl (fun U e=>?_) (fun U e=>?_)
 ·refine go ?_ ?_;refine aO (aG (aG ?_));obtain⟨V,t,e⟩:=aR e;obtain⟨v14,u,e⟩:=aR e;refine dr [0,0,3,7,0,0,48,112,255] 9 0 ?_ (fun F G10=>?_);refine aJ (aC (aI e rfl (fun x e=>?_) (fun x e=>?_)))
  ·exact cX
  have e:=sQ t e;have e:=sQ u e;refine go ?_ ?_;refine dr [0,0,3,7,0,0,48,112,255] 9 0 ?_ (fun G G17=>?_);refine aJ (aC (aI e rfl (fun y e=>?_) (fun y e=>?_)))
  ·exact cX
  obtain⟨z,h25,e⟩:=aR e;refine go ?_ ?_;exact aN (fun a w hh=>⟨z,e,kK [] hh⟩)
 refine cO ?_;obtain rfl:=f8 e;exact qG j ⟨f,rfl,rfl⟩ []
def nJ(K:Nat)(h:aF)(a1:aF)(e:List Int):Option aF:=
 (aU K (h.neg != a1.neg) e).bind fun f=>some f
def nC(K:Nat)(a1:aF)(f:Int)(e:(List Int)→Int→Option (List Int))(h:List Int)(k:Int):Option (List Int):=
 (aV (f+(a1.d.length:Int))).bind fun j=>(cT h j).bind fun t=>(oZ h j k).bind fun q=>(aV (f+1)).bind fun s=>e q s
def fR(K:Nat)(O:aF)(a1:aF)(f:Int):Nat→(List Int)→Int→Int→Option ((List Int)×Int)
 |0,_,_,_=>none
 |k+1,h,j,e=>bif(decide (e<(a1.d.length:Int))) then((aV (f+e)).bind fun t=>(cT h t).bind fun u=>(cT O.d f).bind fun x=>(cT a1.d e).bind fun y=>(aV (x*y)).bind fun z=>(aV (u+z)).bind fun F=>(aV (F+j)).bind fun q=>(aV (f+e)).bind fun s=>(wA q 1000000000).bind fun G=>(cT h s).bind fun U=>(oZ h s G).bind fun I=>(vX q 1000000000).bind fun J=>(aV (e+1)).bind fun L=>fR K O a1 f k I J L) else(some (h,j))
def fS(K:Nat)(h:aF)(a1:aF):Nat→(List Int)→Int→Option (List Int)
 |0,_,_=>none
 |k+1,f,e=>bif(decide (e<(h.d.length:Int))) then((fR K h a1 e K f 0 0).bind fun(j,q)=>nC K a1 e (fS K h a1 k) j q) else(some f)
def nZ(K:Nat)(e:aF)(a1:aF):Option aF:=
 (aV ((e.d.length:Int)+(a1.d.length:Int))).bind fun v4=>(xU v4 0).bind fun h=>(fS K e a1 K h 0).bind fun f=>nJ K e a1 f
theorem z5{K:Nat}{t:aF}{a1:aF}{r:aF}(f:nZ K t a1=some r):Ct Tryz.prog 115 [.va (aF.e t),.va (aF.e a1)] (.va (aF.e r)):=by
 unfold nZ at f;refine aD Tryz.func115 rfl (by kernel_rfl) Tryz.ntmps115 rfl (fun w0 M0=>?_);refine aG (aH (dC rfl rfl zT (fun z=>?_)));refine dC rfl rfl zT (fun b2=>?_);refine aM rfl tyZ30 (fun F=>?_);obtain⟨v4,h5,h,h7,f⟩:=sU f;refine go ?_ ?_;refine rY (C:=cI) rfl tyS22 rfl tyZ3 rfl h7 (fun G=>?_);refine go ?_ ?_;refine aO (bM (fun H E=>∃(u:List Int),nJ K t a1 u=some r∧u.length=h.length∧H=[hO cI G h.length 3 h.length u,⟨some F,1,30,2,1,([pB false]++[pS cI ([]:List Int)])⟩,⟨some b2,1,30,2,1,(aF.e a1)⟩,⟨some z,1,30,2,1,(aF.e t)⟩]∧E=[(2,.vc (pP (some z) 0)),(3,.vc (pP (some b2) 0)),(4,.vc (pP (some F) 0)),(5,.vc (pO G h.length h.length))]) ?_ (fun V=>?_))
 ·rintro _ _ ⟨u,f,q29,rfl,rfl⟩;unfold nJ at f;refine go ?_ ?_;refine aE (zU rfl Tryz.underlying4) zU2 ?_;refine cK ?_;refine xI 0 [5,74] rfl q29 zU2 rfl ?_;obtain⟨v33,h34,f⟩:=bQ f bB;exact cX
 obtain⟨I,hL,J⟩:=aR f;refine iO (fun k a w=>∃(q:List Int),∃(j:Int),fS K t a1 k q j=some I∧q.length=h.length∧hs _ [hO cI G h.length 3 h.length q,⟨some F,1,30,2,1,([pB false]++[pS cI ([]:List Int)])⟩,⟨some b2,1,30,2,1,(aF.e a1)⟩,⟨some z,1,30,2,1,(aF.e t)⟩] [(2,.vc (pP (some z) 0)),(3,.vc (pP (some b2) 0)),(4,.vc (pP (some F) 0)),(5,.vc (pO G h.length h.length)),(6,vI j)] a w) K (fun a w ⟨_,_,f,_,_⟩=>by cases f) (fun k a w ⟨q,j,f,q22,hh⟩=>iR ?_ hh) (fun a w hh=>⟨h,0,hL,rfl,kK [0,1,2,3] hh⟩);rw[fS.eq_2]at f;refine go ?_ ?_;refine aI f rfl (fun h35 f=>?_) (fun h35 f=>?_)
 ·refine go ?_ ?_;refine aO (go ?_ ?_);refine aO (bM (fun H E=>∃(x:List Int),∃(L:Int),nC K a1 j (fS K t a1 k) x L=some I∧x.length=h.length∧H=[hO cI G h.length 3 h.length x,⟨some F,1,30,2,1,([pB false]++[pS cI ([]:List Int)])⟩,⟨some b2,1,30,2,1,(aF.e a1)⟩,⟨some z,1,30,2,1,(aF.e t)⟩]∧E=[(2,.vc (pP (some z) 0)),(3,.vc (pP (some b2) 0)),(4,.vc (pP (some F) 0)),(5,.vc (pO G h.length h.length)),(6,vI j),(7,vI L)]) ?_ (fun Jj60=>?_))
  ·rintro _ _ ⟨x,L,f,q56,rfl,rfl⟩;unfold nC at f;obtain⟨v61,h62,v63,h64,x65,h66,v68,h69,f⟩:=bn4 f;refine go ?_ ?_;exact aN (fun a w hh=>⟨x65,v68,f,(cC h66 q56),kK [0,1,2,3] hh⟩)
  obtain⟨⟨x52',x58'⟩,hL,O⟩:=aR f;refine iO (fun k a w=>∃(s:List Int),∃(y:Int),∃(U:Int),fR K t a1 j k s y U=some (x52',x58')∧s.length=h.length∧hs _ [hO cI G h.length 3 h.length s,⟨some F,1,30,2,1,([pB false]++[pS cI ([]:List Int)])⟩,⟨some b2,1,30,2,1,(aF.e a1)⟩,⟨some z,1,30,2,1,(aF.e t)⟩] [(2,.vc (pP (some z) 0)),(3,.vc (pP (some b2) 0)),(4,.vc (pP (some F) 0)),(5,.vc (pO G h.length h.length)),(6,vI j),(7,vI y),(8,vI U)] a w) K (fun a w ⟨_,_,_,f,_,_⟩=>by cases f) (fun k a w ⟨s,y,U,f,q48,hh⟩=>iR ?_ hh) (fun a w hh=>⟨q,0,0,hL,q22,kK [0,1,2,3] hh⟩);rw[fR.eq_2]at f;refine go ?_ ?_;refine aI f rfl (fun h70 f=>?_) (fun h70 f=>?_)
  ·refine go ?_ ?_;refine aO (aG ?_);obtain⟨v73,h74,f⟩:=aR f;obtain⟨v75,h76,f⟩:=aR f;obtain⟨v77,h78,f⟩:=aR f;obtain⟨v79,h80,f⟩:=aR f;obtain⟨v81,h82,f⟩:=aR f;obtain⟨v83,h84,f⟩:=aR f;obtain⟨v85,h86,f⟩:=aR f;refine dr [0,0,0,6,15,31,0,64,0,448,960,0,2048,0,14336,30720,65472,131071,0,524287,1048575] 21 0 ?_ (fun bs72 G71=>?_);have f:=sQ h74 f;obtain⟨v89,h90,f⟩:=aR f;have f:=sQ h76 f;obtain⟨x93,h94,v96,h97,v98,h99,f⟩:=bn3 f;refine go ?_ ?_;exact aN (fun a w hh=>⟨x93,v96,v98,f,(cC h94 q48),kK [0,1,2,3] hh⟩)
  refine cO ?_;obtain⟨rfl,rfl⟩:=sm2 f;exact qG Jj60 ⟨s,y,O,q48,rfl,rfl⟩ [0,1,2,3]
 refine cO ?_;obtain rfl:=f8 f;exact qG V ⟨q,J,q22,rfl,rfl⟩ [0,1,2,3]
def cP(e:List Int)(a1:Int):Option Int:=
 bif(decide (a1<(e.length:Int))) then((cT e a1).bind fun v2=>some v2) else(some 0)
theorem fA{f:List Int}{a1:Int}{r:Int}(e:cP f a1=some r):Ct Tryz.prog 168 [.vc (pS cI f),vI a1] (vI r):=by
 unfold cP at e;refine aD Tryz.func168 rfl (by kernel_rfl) Tryz.ntmps168 rfl (fun w0 M0=>?_);refine go ?_ ?_;refine aI e rfl (fun h e=>?_) (fun h e=>?_)
 ·obtain⟨v2,j,e⟩:=aR e;exact cX
 exact cX
def mO(K:Nat)(e:List Int):Option (List Int):=
 some e
def bN(K:Nat)(j:List Int)(a1:List Int):Nat→(List Int)→Int→Int→Option (List Int)
 |0,_,_,_=>none
 |k+1,f,h,e=>bif(decide (e<(j.length:Int))) then((cP j e).bind fun u=>(cP a1 e).bind fun v30=>(aV (u+v30)).bind fun x=>(aV (x+h)).bind fun q=>(wA q 1000000000).bind fun y=>(uK f [y]).bind fun z=>(vX q 1000000000).bind fun F=>(aV (e+1)).bind fun G=>bN K j a1 k z F G) else(bif(decide (e<(a1.length:Int))) then((cP j e).bind fun I=>(cP a1 e).bind fun J=>(aV (I+J)).bind fun L=>(aV (L+h)).bind fun s=>(wA s 1000000000).bind fun O=>(uK f [O]).bind fun U=>(vX s 1000000000).bind fun V=>(aV (e+1)).bind fun v69=>bN K j a1 k U V v69) else(bif(decide (0<h)) then((cP j e).bind fun v72=>(cP a1 e).bind fun v74=>(aV (v72+v74)).bind fun v76=>(aV (v76+h)).bind fun t=>(wA t 1000000000).bind fun v80=>(uK f [v80]).bind fun x82=>(vX t 1000000000).bind fun v89=>(aV (e+1)).bind fun v91=>bN K j a1 k x82 v89 v91) else(some f)))
def mZ(K:Nat)(f:List Int)(a1:List Int):Option (List Int):=
 (bN K f a1 K ([]:List Int) 0 0).bind fun e=>mO K e
theorem zN{K:Nat}{a0:List Int}{a1:List Int}{r:List Int}(e:mZ K a0 a1=some r):Ct Tryz.prog 150 [.vc (pS cI a0),.vc (pS cI a1)] (.vc (pS cI r)):=by
 unfold mZ at e;refine aD Tryz.func150 rfl (by kernel_rfl) Tryz.ntmps150 rfl (fun w0 M0=>?_);refine aG (aH (aE (aK (.inr rfl)) ⟨jV cI,zT⟩ ?_));refine aJ (aC (aG (aH (tS cI 3 rfl ?_))));refine go ?_ ?_;refine aO (bM (fun H E=>∃(q:List Int),∃(x:Option Nat),∃(y:Nat),∃(s:Nat),mO K q=some r∧q.length=s∧H=[hO cI x y 3 s q]∧E=[(5,.vc (pO x s y))]) ?_ (fun O=>?_))
 ·rintro _ _ ⟨q,x,y,s,e,q23,rfl,rfl⟩;unfold mO at e;refine go ?_ ?_;refine bW (bV (z4 0 [4,5,41] rfl q23 ⟨rfl,rfl,rfl,zT⟩ rfl ?_));obtain rfl:=f8 e;exact bS (.inl rfl) Tryz.results150 (.tmp rfl .nil) rfl rfl
 obtain⟨U,hL,z⟩:=aR e;refine iO (fun k a w=>∃(j:List Int),∃(F:Int),∃(G:Int),∃(t:Option Nat),∃(u:Nat),∃(f:Nat),bN K a0 a1 k j F G=some U∧j.length=f∧hs _ [hO cI t u 3 f j] [(0,.vc (pS cI a0)),(1,.vc (pS cI a1)),(5,.vc (pO t f u)),(6,vI F),(7,vI G)] a w) K (fun a w ⟨_,_,_,_,_,_,e,_,_⟩=>by cases e) (fun k a w ⟨j,F,G,t,u,f,e,h,hh⟩=>iR ?_ hh) (fun a w hh=>⟨([]:List Int),0,0,none,0,0,hL,rfl,kK [0] hh⟩);rw[bN.eq_2]at e;refine go ?_ ?_;refine jW e (fun h27 e=>?_) (fun h27 e=>?_)
 ·refine go ?_ ?_;refine rK rfl ?_;refine go ?_ ?_;refine aO ?_;obtain⟨v28,h29,e⟩:=bQ e fA;obtain⟨v30,h31,e⟩:=bQ e fA;obtain⟨v32,h33,v34,h35,I,h37,e⟩:=bn3 e;refine go ?_ ?_;refine aE (qP (C:=cI) (xs:=[.tmp 36]) (ps:=[vI I]) (zs:=[I]) rfl tyS22 rfl ⟨⟨zT,rfl⟩,zT⟩ rfl) zU1 ?_;obtain⟨x38,V,e⟩:=aR e;refine rJ 0 rfl tyS22 rfl rfl h rfl rfl V (fun b40 c41 H42 e43=>?_);cases e43;obtain⟨v45,h46,v47,h48,e⟩:=sU e;refine go ?_ ?_;exact aN (fun a w hh=>⟨x38,v45,v47,b40,c41,(f+[I].length),e,(jE V h),kK [0] hh⟩)
 refine go ?_ ?_;refine jW e (fun h49 e=>?_) (fun h49 e=>?_)
 ·refine go ?_ ?_;refine rK rfl ?_;refine go ?_ ?_;refine aO ?_;obtain⟨v50,h51,e⟩:=bQ e fA;obtain⟨v52,h53,e⟩:=bQ e fA;obtain⟨v54,h55,v56,h57,J,h59,e⟩:=bn3 e;refine go ?_ ?_;refine aE (qP (C:=cI) (xs:=[.tmp 36]) (ps:=[vI J]) (zs:=[J]) rfl tyS22 rfl ⟨⟨zT,rfl⟩,zT⟩ rfl) zU1 ?_;obtain⟨x60,h61,e⟩:=aR e;refine rJ 0 rfl tyS22 rfl rfl h rfl rfl h61 (fun b62 c63 H64 e65=>?_);cases e65;obtain⟨v67,h68,v69,h70,e⟩:=sU e;refine go ?_ ?_;exact aN (fun a w hh=>⟨x60,v67,v69,b62,c63,(f+[J].length),e,(jE h61 h),kK [0] hh⟩)
 refine go ?_ ?_;refine aI e rfl (fun h71 e=>?_) (fun h71 e=>?_)
 ·refine go ?_ ?_;refine aO ?_;obtain⟨v72,h73,e⟩:=bQ e fA;obtain⟨v74,h75,e⟩:=bQ e fA;obtain⟨v76,h77,v78,h79,L,h81,e⟩:=bn3 e;refine go ?_ ?_;refine aE (qP (C:=cI) (xs:=[.tmp 36]) (ps:=[vI L]) (zs:=[L]) rfl tyS22 rfl ⟨⟨zT,rfl⟩,zT⟩ rfl) zU1 ?_;obtain⟨x82,h83,e⟩:=aR e;refine rJ 0 rfl tyS22 rfl rfl h rfl rfl h83 (fun b84 c85 H86 e87=>?_);cases e87;obtain⟨v89,h90,v91,h92,e⟩:=sU e;refine go ?_ ?_;exact aN (fun a w hh=>⟨x82,v89,v91,b84,c85,(f+[L].length),e,(jE h83 h),kK [0] hh⟩)
 refine cO ?_;obtain rfl:=f8 e;exact qG O ⟨j,t,u,f,z,h,rfl,rfl⟩ [0]
def l8(K:Nat)(e:List Int):Option (List Int):=
 some e
def dJ(K:Nat)(j:List Int)(a1:List Int):Nat→(List Int)→Int→Int→Option (List Int)
 |0,_,_,_=>none
 |k+1,f,q,e=>bif(decide (e<(j.length:Int))) then((cT j e).bind fun v30=>(cP a1 e).bind fun s=>(aV (v30-s)).bind fun t=>(aV (t-q)).bind fun h=>bif(decide (h<0)) then((aV (h+1000000000)).bind fun u=>(uK f [u]).bind fun x=>(aV (e+1)).bind fun y=>dJ K j a1 k x 1 y) else((uK f [h]).bind fun z=>(aV (e+1)).bind fun F=>dJ K j a1 k z 0 F)) else(some f)
def eU(K:Nat)(f:List Int)(a1:List Int):Option (List Int):=
 (dJ K f a1 K ([]:List Int) 0 0).bind fun e=>l8 K e
theorem lX{K:Nat}{a0:List Int}{a1:List Int}{r:List Int}(e:eU K a0 a1=some r):Ct Tryz.prog 151 [.vc (pS cI a0),.vc (pS cI a1)] (.vc (pS cI r)):=by
 unfold eU at e;refine aD Tryz.func151 rfl (by kernel_rfl) Tryz.ntmps151 rfl (fun w0 M0=>?_);refine aG (aH (aE (aK (.inr rfl)) ⟨jV cI,zT⟩ ?_));refine aJ (aC (aG (aH (tS cI 3 rfl ?_))));refine go ?_ ?_;refine aO (bM (fun H E=>∃(q:List Int),∃(x:Option Nat),∃(y:Nat),∃(s:Nat),l8 K q=some r∧q.length=s∧H=[hO cI x y 3 s q]∧E=[(5,.vc (pO x s y))]) ?_ (fun L=>?_))
 ·rintro _ _ ⟨q,x,y,s,e,q23,rfl,rfl⟩;unfold l8 at e;refine go ?_ ?_;refine bW (bV (z4 0 [4,5,33] rfl q23 ⟨rfl,rfl,rfl,zT⟩ rfl ?_));obtain rfl:=f8 e;exact bS (.inl rfl) Tryz.results151 (.tmp rfl .nil) rfl rfl
 obtain⟨O,hL,z⟩:=aR e;refine iO (fun k a w=>∃(h:List Int),∃(F:Int),∃(G:Int),∃(t:Option Nat),∃(u:Nat),∃(f:Nat),dJ K a0 a1 k h F G=some O∧h.length=f∧hs _ [hO cI t u 3 f h] [(0,.vc (pS cI a0)),(1,.vc (pS cI a1)),(5,.vc (pO t f u)),(6,vI F),(7,vI G)] a w) K (fun a w ⟨_,_,_,_,_,_,e,_,_⟩=>by cases e) (fun k a w ⟨h,F,G,t,u,f,e,j,hh⟩=>iR ?_ hh) (fun a w hh=>⟨([]:List Int),0,0,none,0,0,hL,rfl,kK [0] hh⟩);rw[dJ.eq_2]at e;refine go ?_ ?_;refine aI e rfl (fun h27 e=>?_) (fun h27 e=>?_)
 ·refine go ?_ ?_;refine aO (aG ?_);obtain⟨v30,h31,e⟩:=aR e;obtain⟨v32,h33,e⟩:=bQ e fA;obtain⟨v34,h35,e⟩:=aR e;obtain⟨I,h37,e⟩:=aR e;refine dr [0,0,3,7,0,0,48,127,0,511,1023] 11 0 ?_ (fun bs29 G28=>?_);refine go ?_ ?_;refine aI e rfl (fun h38 e=>?_) (fun h38 e=>?_)
  ·obtain⟨J,h40,e⟩:=aR e;refine go ?_ ?_;refine aE (qP (C:=cI) (xs:=[.tmp 30]) (ps:=[vI J]) (zs:=[J]) rfl tyS22 rfl ⟨⟨zT,rfl⟩,zT⟩ rfl) zU1 ?_;obtain⟨x41,U,e⟩:=aR e;refine rJ 0 rfl tyS22 rfl rfl j rfl rfl U (fun b43 c44 H45 e46=>?_);cases e46;obtain⟨v48,h49,e⟩:=aR e;refine go ?_ ?_;exact aN (fun a w hh=>⟨x41,1,v48,b43,c44,(f+[J].length),e,(jE U j),kK [0] hh⟩)
  refine go ?_ ?_;refine aE (qP (C:=cI) (xs:=[.tmp 30]) (ps:=[vI I]) (zs:=[I]) rfl tyS22 rfl ⟨⟨zT,rfl⟩,zT⟩ rfl) zU1 ?_;obtain⟨x50,V,e⟩:=aR e;refine rJ 0 rfl tyS22 rfl rfl j rfl rfl V (fun b52 c53 H54 e55=>?_);cases e55;obtain⟨v57,h58,e⟩:=aR e;refine go ?_ ?_;exact aN (fun a w hh=>⟨x50,0,v57,b52,c53,(f+[I].length),e,(jE V j),kK [0] hh⟩)
 refine cO ?_;obtain rfl:=f8 e;exact qG L ⟨h,t,u,f,z,j,rfl,rfl⟩ [0]
def nY(K:Nat)(e:aF)(a1:aF):Option aF:=
 bif(e.neg==a1.neg) then((mZ K e.d a1.d).bind fun q=>(aU K e.neg q).bind fun s=>some s) else((cN K e.d a1.d).bind fun v11=>bif(decide (v11<0)) then((eU K a1.d e.d).bind fun f=>(aU K a1.neg f).bind fun h=>some h) else((eU K e.d a1.d).bind fun j=>(aU K e.neg j).bind fun k=>some k))
theorem aAd{K:Nat}{j:aF}{a1:aF}{r:aF}(f:nY K j a1=some r):Ct Tryz.prog 124 [.va (aF.e j),.va (aF.e a1)] (.va (aF.e r)):=by
 unfold nY at f;refine aD Tryz.func124 rfl (by kernel_rfl) Tryz.ntmps124 rfl (fun w0 M0=>?_);refine aG (aH (dC rfl rfl zT (fun b1=>?_)));refine dC rfl rfl zT (fun b2=>?_);refine aM rfl tyZ30 (fun b3=>?_);refine go ?_ ?_;refine aE (aJe rfl Tryz.underlying4) zU2 ?_;refine aJ (aC (aI f rfl (fun s f=>?_) (fun s f=>?_)))
 ·refine aG ?_;obtain⟨v7,h8,f⟩:=bQ f zN;obtain⟨v9,t,f⟩:=bQ f bB;refine dr [0,1,0,4,0,16,60,127,255] 8 1 ?_ (fun u G5=>?_);exact cX
 obtain⟨v11,x,f⟩:=bQ f kG;refine go ?_ ?_;refine aI f rfl (fun h f=>?_) (fun h f=>?_)
 ·refine aG ?_;obtain⟨y,z,f⟩:=bQ f lX;obtain⟨F,G,f⟩:=bQ f bB;refine dr [0,1,0,4,0,16,60,127,255] 8 1 ?_ (fun k I=>?_);exact cX
 obtain⟨J,L,f⟩:=bQ f lX;obtain⟨O,U,f⟩:=bQ f bB;refine go ?_ ?_;refine dr [0,1,0,4,0,16,60,127,255] 8 1 ?_ (fun q V=>?_);exact cX
def fJ(e:List Int):Option Int:=
 (cP e 1).bind fun v1=>(aV (v1*1000000000)).bind fun f=>(cP e 0).bind fun h=>(aV (f+h)).bind fun j=>some j
theorem kW{f:List Int}{r:Int}(e:fJ f=some r):Ct Tryz.prog 163 [.vc (pS cI f)] (vI r):=by
 unfold fJ at e;refine aD Tryz.func163 rfl (by kernel_rfl) Tryz.ntmps163 rfl (fun w0 M0=>?_);obtain⟨v1,h,e⟩:=bQ e fA;obtain⟨j,k,e⟩:=aR e;obtain⟨q,s,e⟩:=bQ e fA;obtain⟨t,u,e⟩:=aR e;exact cX
def gU(K:Nat)(e:List Int)(a1:Int):Option (List Int):=
 (aU K false e).bind fun v1=>(gR K a1).bind fun f=>(nZ K v1 f).bind fun h=>some h.d
theorem oD{K:Nat}{f:List Int}{a1:Int}{r:List Int}(e:gU K f a1=some r):Ct Tryz.prog 174 [.vc (pS cI f),vI a1] (.vc (pS cI r)):=by
 unfold gU at e;refine aD Tryz.func174 rfl (by kernel_rfl) Tryz.ntmps174 rfl (fun w0 M0=>?_);refine aG (aH (aE (aK (.inr rfl)) ⟨jV cI,zT⟩ ?_));obtain⟨v1,h,e⟩:=bQ e bB;obtain⟨j,k,e⟩:=bQ e mH;obtain⟨q,s,e⟩:=bQ e z5;refine go ?_ ?_;refine aM rfl tyZ30 (fun t=>?_);exact cX
def iZ(K:Nat)(e:List Int)(f:List Int):Option ((List Int)×(List Int)):=
 some (e,f)
def gG(K:Nat)(a1:List Int)(h:List Int)(f:Int)(k:aF)(e:(List Int)→(List Int)→Int→Option ((List Int)×(List Int)))(j:Int):Option ((List Int)×(List Int)):=
 (gU K a1 j).bind fun q=>(eU K k.d q).bind fun s=>(aU K false s).bind fun t=>(cT h f).bind fun y=>(oZ h f j).bind fun u=>(aV (f-1)).bind fun x=>e u t.d x
def bG(K:Nat)(a1:List Int)(h:aF):Nat→Int→Int→Option Int
 |0,_,_=>none
 |k+1,f,j=>bif(decide (f<j)) then((aV (f+j)).bind fun u=>(aV (u+1)).bind fun x=>(vX x 2).bind fun e=>(gU K a1 e).bind fun q=>(cN K q h.d).bind fun s=>bif(decide (s≤0)) then(bG K a1 h k e j) else((aV (e-1)).bind fun t=>bG K a1 h k f t)) else(some f)
def eY(K:Nat)(a1:List Int)(h:List Int)(j:Int)(f:aF)(e:(List Int)→(List Int)→Int→Option ((List Int)×(List Int)))(k:Int):Option ((List Int)×(List Int)):=
 (bG K a1 f K 0 k).bind fun q=>gG K a1 h j f e q
def aW(K:Nat)(s:List Int)(a1:List Int):Nat→(List Int)→(List Int)→Int→Option ((List Int)×(List Int))
 |0,_,_,_=>none
 |k+1,f,j,e=>bif(decide (0≤e)) then((cT s e).bind fun t=>(uK [t] j).bind fun u=>(aU K false u).bind fun h=>(cN K h.d a1).bind fun q=>bif(decide (q<0)) then(eY K a1 f e h (aW K s a1 k) 0) else(eY K a1 f e h (aW K s a1 k) 999999999)) else(some (f,j))
def m6(K:Nat)(e:List Int)(f:List Int):Option ((List Int)×(List Int)):=
 some (e,f)
def kS(K:Nat)(a1:List Int)(h:List Int)(e:Int)(k:aF)(f:(List Int)→(List Int)→Int→Option ((List Int)×(List Int)))(j:Int):Option ((List Int)×(List Int)):=
 (gU K a1 j).bind fun q=>(eU K k.d q).bind fun s=>(aU K false s).bind fun t=>(cT h e).bind fun y=>(oZ h e j).bind fun u=>(aV (e-1)).bind fun x=>f u t.d x
def eF(K:Nat)(a1:List Int)(f:aF):Nat→Int→Int→Option Int
 |0,_,_=>none
 |k+1,e,h=>bif(decide (e<h)) then((aV (e+h)).bind fun q=>(aV (q+1)).bind fun s=>(vX s 2).bind fun j=>(gU K a1 j).bind fun t=>(cN K t f.d).bind fun u=>bif(decide (u≤0)) then(eF K a1 f k j h) else((aV (j-1)).bind fun x=>eF K a1 f k e x)) else(some e)
def iM(K:Nat)(a1:List Int)(h:List Int)(j:Int)(f:aF)(e:(List Int)→(List Int)→Int→Option ((List Int)×(List Int)))(k:Int):Option ((List Int)×(List Int)):=
 (eF K a1 f K 0 k).bind fun q=>kS K a1 h j f e q
def cA(K:Nat)(u:List Int)(a1:List Int):Nat→(List Int)→(List Int)→Int→Option ((List Int)×(List Int))
 |0,_,_,_=>none
 |k+1,f,j,e=>bif(decide (0≤e)) then((cT u e).bind fun q=>(uK [q] j).bind fun s=>(aU K false s).bind fun h=>(cN K h.d a1).bind fun t=>bif(decide (t<0)) then(iM K a1 f e h (cA K u a1 k) 0) else(iM K a1 f e h (cA K u a1 k) 999999999)) else(some (f,j))
def gX(K:Nat)(e:List Int)(a1:List Int):Option ((List Int)×(List Int)):=
 bif(decide ((e.length:Int)≤2)) then(bif(decide ((a1.length:Int)≤2)) then((fJ e).bind fun G=>(fJ a1).bind fun I=>(vX G I).bind fun J=>(gR K J).bind fun L=>(fJ e).bind fun q=>(fJ a1).bind fun s=>(wA q s).bind fun t=>(gR K t).bind fun u=>some (L.d,u.d)) else((xU (e.length:Int) 0).bind fun x=>(aV ((e.length:Int)-1)).bind fun y=>(aW K e a1 K x [] y).bind fun(z,F)=>iZ K z F)) else((xU (e.length:Int) 0).bind fun f=>(aV ((e.length:Int)-1)).bind fun h=>(cA K e a1 K f [] h).bind fun(j,k)=>m6 K j k)
theorem wT{K:Nat}{G:List Int}{a1:List Int}{r:(List Int)×(List Int)}(e:gX K G a1=some r):Ct Tryz.prog 164 [.vc (pS cI G),.vc (pS cI a1)] (.t2 (.vc (pS cI r.1)) (.vc (pS cI r.2))):=by
 unfold gX at e;refine aD Tryz.func164 rfl (by kernel_rfl) Tryz.ntmps164 rfl (fun w0 M0=>?_);refine aG (aH (aE (aK (.inr rfl)) ⟨jV cI,zT⟩ ?_));refine aE (aK (.inr rfl)) ⟨jV cI,zT⟩ ?_;refine go ?_ ?_;refine jW e (fun h1 e=>?_) (fun h1 e=>?_)
 ·refine go ?_ ?_;refine aI e rfl (fun h2 e=>?_) (fun h2 e=>?_)
  ·obtain⟨v3,h4,e⟩:=bQ e kW;obtain⟨v5,h6,e⟩:=bQ e kW;obtain⟨v7,h8,e⟩:=aR e;obtain⟨v9,h10,e⟩:=bQ e mH;refine go ?_ ?_;refine aM rfl tyZ30 (fun b11=>?_);obtain⟨v12,h13,e⟩:=bQ e kW;obtain⟨v14,h15,e⟩:=bQ e kW;obtain⟨v16,h17,e⟩:=aR e;obtain⟨v18,h19,e⟩:=bQ e mH;refine go ?_ ?_;refine aM rfl tyZ30 (fun b20=>?_);refine go ?_ ?_;refine dr [0,1,0,4,3,31] 6 0 ?_ (fun bs22 G21=>?_);refine aJ (aC ?_);exact cX
  obtain⟨h,h24,e⟩:=aR e;refine go ?_ ?_;refine rY (C:=cI) rfl tyS22 rfl tyZ3 rfl h24 (fun u=>?_);refine go ?_ ?_;refine aE (aK (.inr rfl)) ⟨jV cI,zT⟩ ?_;obtain⟨v28,h29,e⟩:=aR e;refine go ?_ ?_;refine aO (bM (fun H E=>∃(x46:List Int),∃(x52:List Int),iZ K x46 x52=some r∧x46.length=h.length∧H=[hO cI u h.length 3 h.length x46]∧E=[(8,.vc (pO u h.length h.length)),(9,.vc (pS cI x52))]) ?_ (fun Jj54=>?_))
  ·rintro _ _ ⟨x46,x52,e,q50,rfl,rfl⟩;unfold iZ at e;refine go ?_ ?_;refine bW (bV (z4 0 [4,8,93] rfl q50 ⟨rfl,rfl,rfl,zT⟩ rfl ?_));obtain rfl:=f8 e;exact bS (.inl rfl) Tryz.results164 (.tmp rfl (.tmp rfl .nil)) rfl rfl
  obtain⟨⟨x46',x52'⟩,hL,hRl53⟩:=aR e;refine iO (fun k a w=>∃(x:List Int),∃(x44:List Int),∃(z:Int),aW K G a1 k x x44 z=some (x46',x52')∧x.length=h.length∧hs _ [hO cI u h.length 3 h.length x] [(0,.vc (pS cI G)),(1,.vc (pS cI a1)),(8,.vc (pO u h.length h.length)),(9,.vc (pS cI x44)),(10,vI z)] a w) K (fun a w ⟨_,_,_,e,_,_⟩=>by cases e) (fun k a w ⟨x,x44,z,e,q42,hh⟩=>iR ?_ hh) (fun a w hh=>⟨h,[],v28,hL,rfl,kK [0] hh⟩);rw[aW.eq_2]at e;refine go ?_ ?_;refine aI e rfl (fun h55 e=>?_) (fun h55 e=>?_)
  ·refine go ?_ ?_;refine aO ?_;obtain⟨v56,h57,e⟩:=aR e;refine go ?_ ?_;refine aDM (aCy (C:=cI) (xs:=[.tmp 53]) (ps:=[vI v56]) (zs:=[v56]) rfl tyS22 rfl ⟨⟨zT,rfl⟩,zT⟩ rfl) zU1 (fun b58 _=>?_);refine cK ?_;obtain⟨x61,h62,e⟩:=aR e;refine rJ 0 rfl tyS22 rfl rfl rfl rfl rfl h62 (fun b63 c64 H65 e66=>?_);cases e66;refine xI 0 [56] rfl (jE h62 rfl) zU1 rfl ?_;obtain⟨v68,h69,e⟩:=bQ e bB;refine aE (aT rfl h69 rfl) ⟨lU _,rfl,zT⟩ ?_;refine aM rfl tyZ30 (fun b70=>?_);refine mU (xY 0 rfl rfl rfl tyA30.s) zU2 ?_;refine aJ (aC (aG (aH (aE (eZ (off:=0) (k:=1) rfl tyF30_1) zU1 ?_))));refine aE (iN 0 1 rfl rfl rfl rfl (.one tyO22)) zU1 ?_;refine kL ?_;refine aJ (aC (aG (aH (aE (aK (.inr rfl)) ⟨hU _ _,zT⟩ ?_))));refine aJ (aC (aG (aH (aE (aK (.inr rfl)) ⟨hU _ _,zT⟩ ?_))));refine aJ (aC (aG (vQ (fun H E=>∃(x72:Int),eY K a1 x z v68 (aW K G a1 k) x72=some (x46',x52')∧H=[hO cI u h.length 3 h.length x]∧E=[(0,.vc (pS cI G)),(1,.vc (pS cI a1)),(8,.vc (pO u h.length h.length)),(9,.vc (pS cI v68.d)),(10,vI z),(12,vI 0),(13,vI x72)]) ?_ (fun Jj73=>?_))))
   ·rintro _ _ ⟨x72,e,rfl,rfl⟩;unfold eY at e;refine aG (aO (bM (fun H E=>∃(x78:Int),gG K a1 x z v68 (aW K G a1 k) x78=some (x46',x52')∧H=[hO cI u h.length 3 h.length x]∧E=[(0,.vc (pS cI G)),(1,.vc (pS cI a1)),(8,.vc (pO u h.length h.length)),(9,.vc (pS cI v68.d)),(10,vI z),(12,vI x78)]) ?_ (fun Jj80=>?_)))
    ·rintro _ _ ⟨x78,e,rfl,rfl⟩;unfold gG at e;obtain⟨v81,h82,e⟩:=bQ e oD;obtain⟨v83,h84,e⟩:=bQ e lX;obtain⟨v85,h86,e⟩:=bQ e bB;refine go ?_ ?_;refine aM rfl tyZ30 (fun b87=>?_);obtain⟨v88,h89,x90,h91,v93,h94,e⟩:=bn3 e;refine go ?_ ?_;exact aN (fun a w hh=>⟨x90,v85.d,v93,e,(cC h91 q42),kK [1] hh⟩)
    obtain⟨x78',hL,hRl79⟩:=aR e;refine iO (fun k a w=>∃(x76:Int),∃(x77:Int),bG K a1 v68 k x76 x77=some x78'∧hs _ [hO cI u h.length 3 h.length x] [(0,.vc (pS cI G)),(1,.vc (pS cI a1)),(8,.vc (pO u h.length h.length)),(9,.vc (pS cI v68.d)),(10,vI z),(12,vI x76),(13,vI x77)] a w) K (fun a w ⟨_,_,e,_⟩=>by cases e) (fun k a w ⟨x76,x77,e,hh⟩=>iR ?_ hh) (fun a w hh=>⟨0,x72,hL,kK [0] hh⟩);rw[bG.eq_2]at e;refine go ?_ ?_;refine aI e rfl (fun h95 e=>?_) (fun h95 e=>?_)
    ·refine fG (aC (aO ?_));obtain⟨v96,h97,v98,h99,v100,h101,e⟩:=bn3 e;obtain⟨v102,h103,e⟩:=bQ e oD;obtain⟨v104,h105,e⟩:=bQ e kG;refine go ?_ ?_;refine aI e rfl (fun h106 e=>?_) (fun h106 e=>?_)
     ·refine go ?_ ?_;exact aN (fun a w hh=>⟨v100,x77,e,kK [0] hh⟩)
     obtain⟨v107,h108,e⟩:=aR e;refine go ?_ ?_;exact aN (fun a w hh=>⟨x76,v107,e,kK [0] hh⟩)
    refine cO ?_;obtain rfl:=f8 e;exact qG Jj80 ⟨x76,hRl79,rfl,rfl⟩ [0]
   obtain⟨v109,h110,e⟩:=bQ e kG;refine go ?_ ?_;refine aI e rfl (fun h111 e=>?_) (fun h111 e=>?_)
   ·refine aH (aE (aK (.inr rfl)) ⟨hU _ _,zT⟩ ?_);refine aJ ?_;exact qG Jj73 ⟨0,e,rfl,rfl⟩ [1]
   refine fG ?_;exact qG Jj73 ⟨999999999,e,rfl,rfl⟩ [1]
  refine cO ?_;obtain⟨rfl,rfl⟩:=sm2 e;exact qG Jj54 ⟨x,x44,hRl53,q42,rfl,rfl⟩ [0]
 refine go ?_ ?_;refine r9 rfl ?_;obtain⟨f,h113,e⟩:=aR e;refine go ?_ ?_;refine rY (C:=cI) rfl tyS22 rfl tyZ3 rfl h113 (fun j=>?_);refine go ?_ ?_;refine aE (aK (.inr rfl)) ⟨jV cI,zT⟩ ?_;obtain⟨v117,h118,e⟩:=aR e;refine go ?_ ?_;refine aO (bM (fun H E=>∃(L:List Int),∃(x141:List Int),m6 K L x141=some r∧L.length=f.length∧H=[hO cI j f.length 3 f.length L]∧E=[(8,.vc (pO j f.length f.length)),(9,.vc (pS cI x141))]) ?_ (fun Jj143=>?_))
 ·rintro _ _ ⟨L,x141,e,q139,rfl,rfl⟩;unfold m6 at e;refine go ?_ ?_;refine bW (bV (z4 0 [4,8,93] rfl q139 ⟨rfl,rfl,rfl,zT⟩ rfl ?_));obtain rfl:=f8 e;exact bS (.inl rfl) Tryz.results164 (.tmp rfl (.tmp rfl .nil)) rfl rfl
 obtain⟨⟨I,J⟩,hL,hRl142⟩:=aR e;refine iO (fun k a w=>∃(q:List Int),∃(O:List Int),∃(t:Int),cA K G a1 k q O t=some (I,J)∧q.length=f.length∧hs _ [hO cI j f.length 3 f.length q] [(0,.vc (pS cI G)),(1,.vc (pS cI a1)),(8,.vc (pO j f.length f.length)),(9,.vc (pS cI O)),(10,vI t)] a w) K (fun a w ⟨_,_,_,e,_,_⟩=>by cases e) (fun k a w ⟨q,O,t,e,q131,hh⟩=>iR ?_ hh) (fun a w hh=>⟨f,[],v117,hL,rfl,kK [0] hh⟩);rw[cA.eq_2]at e;refine go ?_ ?_;refine aI e rfl (fun h144 e=>?_) (fun h144 e=>?_)
 ·refine go ?_ ?_;refine aO ?_;obtain⟨v145,h146,e⟩:=aR e;refine go ?_ ?_;refine aDM (aCy (C:=cI) (xs:=[.tmp 53]) (ps:=[vI v145]) (zs:=[v145]) rfl tyS22 rfl ⟨⟨zT,rfl⟩,zT⟩ rfl) zU1 (fun b147 _=>?_);refine cK ?_;obtain⟨x150,h151,e⟩:=aR e;refine rJ 0 rfl tyS22 rfl rfl rfl rfl rfl h151 (fun b152 c153 H154 e155=>?_);cases e155;refine xI 0 [56] rfl (jE h151 rfl) zU1 rfl ?_;obtain⟨y,h158,e⟩:=bQ e bB;refine aE (aT rfl h158 rfl) ⟨lU _,rfl,zT⟩ ?_;refine aM rfl tyZ30 (fun b159=>?_);refine mU (xY 0 rfl rfl rfl tyA30.s) zU2 ?_;refine aJ (aC (aG (aH (aE (eZ (off:=0) (k:=1) rfl tyF30_1) zU1 ?_))));refine aE (iN 0 1 rfl rfl rfl rfl (.one tyO22)) zU1 ?_;refine kL ?_;refine aJ (aC (aG (aH (aE (aK (.inr rfl)) ⟨hU _ _,zT⟩ ?_))));refine aJ (aC (aG (aH (aE (aK (.inr rfl)) ⟨hU _ _,zT⟩ ?_))));refine aJ (aC (aG (vQ (fun H E=>∃(U:Int),iM K a1 q t y (cA K G a1 k) U=some (I,J)∧H=[hO cI j f.length 3 f.length q]∧E=[(0,.vc (pS cI G)),(1,.vc (pS cI a1)),(8,.vc (pO j f.length f.length)),(9,.vc (pS cI y.d)),(10,vI t),(12,vI 0),(13,vI U)]) ?_ (fun Jj162=>?_))))
  ·rintro _ _ ⟨U,e,rfl,rfl⟩;unfold iM at e;refine aG (aO (bM (fun H E=>∃(x167:Int),kS K a1 q t y (cA K G a1 k) x167=some (I,J)∧H=[hO cI j f.length 3 f.length q]∧E=[(0,.vc (pS cI G)),(1,.vc (pS cI a1)),(8,.vc (pO j f.length f.length)),(9,.vc (pS cI y.d)),(10,vI t),(12,vI x167)]) ?_ (fun Jj169=>?_)))
   ·rintro _ _ ⟨x167,e,rfl,rfl⟩;unfold kS at e;obtain⟨v170,h171,e⟩:=bQ e oD;obtain⟨v172,h173,e⟩:=bQ e lX;obtain⟨v174,h175,e⟩:=bQ e bB;refine go ?_ ?_;refine aM rfl tyZ30 (fun b176=>?_);obtain⟨v177,h178,x179,h180,v182,h183,e⟩:=bn3 e;refine go ?_ ?_;exact aN (fun a w hh=>⟨x179,v174.d,v182,e,(cC h180 q131),kK [1] hh⟩)
   obtain⟨x167',hL,hRl168⟩:=aR e;refine iO (fun k a w=>∃(F:Int),∃(V:Int),eF K a1 y k F V=some x167'∧hs _ [hO cI j f.length 3 f.length q] [(0,.vc (pS cI G)),(1,.vc (pS cI a1)),(8,.vc (pO j f.length f.length)),(9,.vc (pS cI y.d)),(10,vI t),(12,vI F),(13,vI V)] a w) K (fun a w ⟨_,_,e,_⟩=>by cases e) (fun k a w ⟨F,V,e,hh⟩=>iR ?_ hh) (fun a w hh=>⟨0,U,hL,kK [0] hh⟩);rw[eF.eq_2]at e;refine go ?_ ?_;refine aI e rfl (fun h184 e=>?_) (fun h184 e=>?_)
   ·refine fG (aC (aO ?_));obtain⟨v185,h186,v187,h188,v189,h190,e⟩:=bn3 e;obtain⟨v191,h192,e⟩:=bQ e oD;obtain⟨v193,h194,e⟩:=bQ e kG;refine go ?_ ?_;refine aI e rfl (fun h195 e=>?_) (fun h195 e=>?_)
    ·refine go ?_ ?_;exact aN (fun a w hh=>⟨v189,V,e,kK [0] hh⟩)
    obtain⟨v196,h197,e⟩:=aR e;refine go ?_ ?_;exact aN (fun a w hh=>⟨F,v196,e,kK [0] hh⟩)
   refine cO ?_;obtain rfl:=f8 e;exact qG Jj169 ⟨F,hRl168,rfl,rfl⟩ [0]
  obtain⟨v198,h199,e⟩:=bQ e kG;refine go ?_ ?_;refine aI e rfl (fun h200 e=>?_) (fun h200 e=>?_)
  ·refine aH (aE (aK (.inr rfl)) ⟨hU _ _,zT⟩ ?_);refine aJ ?_;exact qG Jj162 ⟨0,e,rfl,rfl⟩ [1]
  refine fG ?_;exact qG Jj162 ⟨999999999,e,rfl,rfl⟩ [1]
 refine cO ?_;obtain⟨rfl,rfl⟩:=sm2 e;exact qG Jj143 ⟨q,O,hRl142,q131,rfl,rfl⟩ [0]
def jI(K:Nat)(e:aF)(a1:aF):Option (aF×aF):=
 bif((a1.d.length:Int)==0) then(some ((⟨false,([]:List Int)⟩:aF),(⟨false,([]:List Int)⟩:aF))) else((gX K e.d a1.d).bind fun v6=>(aU K (e.neg != a1.neg) v6.1).bind fun f=>(aU K false v6.2).bind fun v11=>bif e.neg then(bif(decide (0<(v11.d.length:Int))) then((aU K (e.neg != a1.neg) [1]).bind fun h=>(nY K f h).bind fun v20=>(eU K a1.d v11.d).bind fun j=>(aU K false j).bind fun k=>some (v20,k)) else(some (f,v11))) else(some (f,v11)))
theorem pL{K:Nat}{x:aF}{a1:aF}{r:aF×aF}(f:jI K x a1=some r):Ct Tryz.prog 130 [.va (aF.e x),.va (aF.e a1)] (.t2 (.va (aF.e r.1)) (.va (aF.e r.2))):=by
 unfold jI at f;refine aD Tryz.func130 rfl (by kernel_rfl) Tryz.ntmps130 rfl (fun w0 M0=>?_);refine aG (aH (dC rfl rfl zT (fun z=>?_)));refine dC rfl rfl zT (fun b2=>?_);refine aM rfl tyZ30 (fun G=>?_);refine aM rfl tyZ30 (fun I=>?_);refine go ?_ ?_;refine aI f rfl (fun h5 f=>?_) (fun h5 f=>?_)
 ·refine aG (aH (aE (gP (is:=[]) (xs:=[]) (ps:=[]) rfl tyB30 rfl rfl zT rfl) zT ?_));refine aE (gP (is:=[]) (xs:=[]) (ps:=[]) rfl tyB30 rfl rfl zT rfl) zT ?_;exact cX
 obtain⟨v6,h7,f⟩:=bQ f wT;refine go ?_ ?_;refine aE (zU rfl Tryz.underlying4) zU2 ?_;refine cK ?_;obtain⟨y,h9,f⟩:=bQ f bB;refine aE (aT rfl h9 rfl) zU2 ?_;refine aM rfl tyZ30 (fun t=>?_);obtain⟨v11,h12,f⟩:=bQ f bB;refine go ?_ ?_;refine aM rfl tyZ30 (fun u=>?_);refine go ?_ ?_;refine jW f (fun O f=>?_) (fun O f=>?_)
 ·refine go ?_ ?_;refine aI f rfl (fun U f=>?_) (fun U f=>?_)
  ·refine aG ?_;obtain⟨V,h19,f⟩:=bQ f bB;obtain⟨v20,h21,f⟩:=bQ f aAd;refine gJ [0,0,2,0,8,30,0,126,255,511] 9 1 [.v (.va (aF.e y)),.v (.vc (pP (some z) 0)),.v (.vc (pB x.neg)),.v (.vc (pP (some b2) 0)),.v (.vc (pB a1.neg)),.v (.vc (pB (x.neg != a1.neg))),.v (.vc (pS cI [1])),.v (.va (aF.e V)),.v (.va (aF.e v20))] aS ⟨d0 (iN 1 2 rfl rfl rfl rfl (.agg tyA30)) zU1,d0 (eZ (off:=0) (k:=0) rfl tyF30_0) zU1,d0 (iN 5 1 rfl rfl rfl rfl (.one tyO4)) zU1,d0 (eZ (off:=0) (k:=0) rfl tyF30_0) zU1,d0 (iN 4 1 rfl rfl rfl rfl (.one tyO4)) zU1,⟨rfl,.run (L:=[0]) ⟨fun J A=>zU rfl Tryz.underlying4,zT⟩ (fun J=>zU2)⟩,d0 (qP (C:=cI) (xs:=[.const (.int .i64 (1))]) (ps:=[vI 1]) (zs:=[1]) rfl tyS22 rfl ⟨⟨zT,rfl⟩,zT⟩ rfl) ⟨hU _ _,zT⟩,d0 (aT rfl h19 rfl) zU2,d0 (aT rfl h21 rfl) zU2,zT⟩ (fun bs17 J=>?_);obtain⟨v22,h23,f⟩:=bQ f lX;obtain⟨F,h25,f⟩:=bQ f bB;refine go ?_ ?_;refine p9 (HsM [(0,fun h=>[⟨some u,1,30,2,1,(aF.e F)⟩,⟨some t,1,30,2,1,(aF.e v20)⟩,⟨some I,1,30,2,1,([pB false]++[pS cI ([]:List Int)])⟩,⟨some G,1,30,2,1,([pB false]++[pS cI ([]:List Int)])⟩,⟨some b2,1,30,2,1,(aF.e a1)⟩,⟨some z,1,30,2,1,(aF.e x)⟩]),(1,fun h=>[⟨some u,1,30,2,1,(aF.e F)⟩,⟨some t,1,30,2,1,(aF.e v20)⟩,⟨some I,1,30,2,1,([pB false]++[pS cI ([]:List Int)])⟩,⟨some G,1,30,2,1,(aF.e v20)⟩,⟨some b2,1,30,2,1,(aF.e a1)⟩,⟨some z,1,30,2,1,(aF.e x)⟩])]) [2] [0,0,1,7] 3 1 [.v (.va (aF.e v20)),.v (.va (aF.e F)),.g (fun _ _=>.any)] aS ⟨d1 0 (iN 1 2 rfl rfl rfl rfl (.agg tyA30)) zU1,⟨rfl,.run (L:=[0,1]) ⟨fun h A=>iN 0 2 rfl rfl rfl rfl (.agg tyA30),fun h A=>iN 0 2 rfl rfl rfl rfl (.agg tyA30),zT⟩ (fun h=>zU1)⟩,⟨rfl,.hvy [0] ⟨fun h A=>aAQ (xY 3 rfl rfl rfl tyA30.s),zT⟩ (fun h=>zU2)⟩,zT⟩ (fun bs27 h=>?_);exact cX
  refine go ?_ ?_;refine p9 (HsM [(0,fun j=>[⟨some u,1,30,2,1,(aF.e v11)⟩,⟨some t,1,30,2,1,(aF.e y)⟩,⟨some I,1,30,2,1,([pB false]++[pS cI ([]:List Int)])⟩,⟨some G,1,30,2,1,([pB false]++[pS cI ([]:List Int)])⟩,⟨some b2,1,30,2,1,(aF.e a1)⟩,⟨some z,1,30,2,1,(aF.e x)⟩]),(1,fun j=>[⟨some u,1,30,2,1,(aF.e v11)⟩,⟨some t,1,30,2,1,(aF.e y)⟩,⟨some I,1,30,2,1,([pB false]++[pS cI ([]:List Int)])⟩,⟨some G,1,30,2,1,(aF.e y)⟩,⟨some b2,1,30,2,1,(aF.e a1)⟩,⟨some z,1,30,2,1,(aF.e x)⟩])]) [2] [0,0,1,7] 3 1 [.v (.va (aF.e y)),.v (.va (aF.e v11)),.g (fun _ _=>.any)] aS ⟨d1 0 (iN 1 2 rfl rfl rfl rfl (.agg tyA30)) zU1,⟨rfl,.run (L:=[0,1]) ⟨fun j A=>iN 0 2 rfl rfl rfl rfl (.agg tyA30),fun j A=>iN 0 2 rfl rfl rfl rfl (.agg tyA30),zT⟩ (fun j=>zU1)⟩,⟨rfl,.hvy [0] ⟨fun j A=>aAQ (xY 3 rfl rfl rfl tyA30.s),zT⟩ (fun j=>zU2)⟩,zT⟩ (fun bs29 j=>?_);exact cX
 refine go ?_ ?_;refine r9 rfl ?_;refine go ?_ ?_;refine p9 (HsM [(0,fun q=>[⟨some u,1,30,2,1,(aF.e v11)⟩,⟨some t,1,30,2,1,(aF.e y)⟩,⟨some I,1,30,2,1,([pB false]++[pS cI ([]:List Int)])⟩,⟨some G,1,30,2,1,([pB false]++[pS cI ([]:List Int)])⟩,⟨some b2,1,30,2,1,(aF.e a1)⟩,⟨some z,1,30,2,1,(aF.e x)⟩]),(1,fun q=>[⟨some u,1,30,2,1,(aF.e v11)⟩,⟨some t,1,30,2,1,(aF.e y)⟩,⟨some I,1,30,2,1,([pB false]++[pS cI ([]:List Int)])⟩,⟨some G,1,30,2,1,(aF.e y)⟩,⟨some b2,1,30,2,1,(aF.e a1)⟩,⟨some z,1,30,2,1,(aF.e x)⟩])]) [2] [0,0,1,7] 3 1 [.v (.va (aF.e y)),.v (.va (aF.e v11)),.g (fun _ _=>.any)] aS ⟨d1 0 (iN 1 2 rfl rfl rfl rfl (.agg tyA30)) zU1,⟨rfl,.run (L:=[0,1]) ⟨fun q A=>iN 0 2 rfl rfl rfl rfl (.agg tyA30),fun q A=>iN 0 2 rfl rfl rfl rfl (.agg tyA30),zT⟩ (fun q=>zU1)⟩,⟨rfl,.hvy [0] ⟨fun q A=>aAQ (xY 3 rfl rfl rfl tyA30.s),zT⟩ (fun q=>zU2)⟩,zT⟩ (fun bs31 q=>?_);exact cX
def pZ(K:Nat)(e:aF):Option aF:=
 some e
def nK(K:Nat)(e:Int):Option (LR aF aF):=
 (gR K e).bind fun f=>some (.ret f)
def fO(K:Nat):Nat→Int→Int→Option Int
 |0,_,_=>none
 |k+1,f,e=>bif(decide (0<e)) then((wA f e).bind fun h=>fO K k e h) else(some f)
def eJ(K:Nat):Nat→aF→aF→Option (LR aF aF)
 |0,_,_=>none
 |k+1,e,f=>bif(decide (0<(e.d.length:Int))) then(bif(decide ((f.d.length:Int)≤2)) then(bif(decide ((e.d.length:Int)≤2)) then((fJ f.d).bind fun v20=>(fJ e.d).bind fun h=>(fO K K v20 h).bind fun j=>nK K j) else((jI K f e).bind fun q=>eJ K k q.2 e)) else((jI K f e).bind fun s=>eJ K k s.2 e)) else(some (.go f))
def oI(K:Nat)(f:aF)(a1:aF):Option aF:=
 (aU K false f.d).bind fun v4=>(aU K false a1.d).bind fun h=>(eJ K K h v4).bind fun o=>match o with| .ret r=>some r| .go e=>pZ K e
theorem aAm{K:Nat}{a0:aF}{a1:aF}{r:aF}(f:oI K a0 a1=some r):Ct Tryz.prog 129 [.va (aF.e a0),.va (aF.e a1)] (.va (aF.e r)):=by
 unfold oI at f;refine aD Tryz.func129 rfl (by kernel_rfl) Tryz.ntmps129 rfl (fun w0 M0=>?_);refine aG (aH (dC rfl rfl zT (fun b1=>?_)));refine dC rfl rfl zT (fun b2=>?_);refine aM rfl tyZ30 (fun t=>?_);obtain⟨v4,h5,f⟩:=bQ f bB;refine go ?_ ?_;refine aM rfl tyZ30 (fun L=>?_);obtain⟨v7,h8,f⟩:=bQ f bB;refine go ?_ ?_;refine aM rfl tyZ30 (fun b9=>?_);refine go ?_ ?_;refine aO (bM (fun H E=>∃(x:aF),pZ K x=some r∧H=[⟨some L,1,30,2,1,(aF.e x)⟩,⟨some t,1,30,2,1,([pB false]++[pS cI ([]:List Int)])⟩]∧E=[(4,.vc (pP (some t) 0)),(5,.vc (pP (some L) 0))]) ?_ (fun G=>?_))
 ·rintro _ _ ⟨x,f,rfl,rfl⟩;unfold pZ at f;exact cX
 obtain⟨u,O,y⟩:=aR f;refine iO (fun k a w=>∃(h:aF),∃(j:aF),eJ K k h j=some u∧hs _ [⟨some b9,1,30,2,1,(aF.e h)⟩,⟨some L,1,30,2,1,(aF.e j)⟩,⟨some t,1,30,2,1,([pB false]++[pS cI ([]:List Int)])⟩] [(4,.vc (pP (some t) 0)),(5,.vc (pP (some L) 0)),(6,.vc (pP (some b9) 0))] a w) K (fun a w ⟨_,_,f,_⟩=>by cases f) (fun k a w ⟨h,j,f,hh⟩=>iR ?_ hh) (fun a w hh=>⟨v7,v4,O,kK [0,1,2] hh⟩);rw[eJ.eq_2]at f;refine go ?_ ?_;refine aI f rfl (fun U f=>?_) (fun U f=>?_)
 ·refine fG (aC (aO (go ?_ ?_)));refine jW f (fun V f=>?_) (fun V f=>?_)
  ·refine go ?_ ?_;refine aI f rfl (fun h19 f=>?_) (fun h19 f=>?_)
   ·obtain⟨v20,h21,f⟩:=bQ f kW;obtain⟨v22,h23,f⟩:=bQ f kW;refine go ?_ ?_;refine aO (bM (fun H E=>∃(z:Int),nK K z=some u∧H=[⟨some t,1,30,2,1,([pB false]++[pS cI ([]:List Int)])⟩]∧E=[(4,.vc (pP (some t) 0)),(7,vI z)]) ?_ (fun I=>?_))
    ·rintro _ _ ⟨z,f,rfl,rfl⟩;unfold nK at f;obtain⟨v31,h32,f⟩:=bQ f mH;exact cX
    obtain⟨J,O,F⟩:=aR f;refine iO (fun k a w=>∃(q:Int),∃(s:Int),fO K k q s=some J∧hs _ [⟨some t,1,30,2,1,([pB false]++[pS cI ([]:List Int)])⟩] [(4,.vc (pP (some t) 0)),(7,vI q),(8,vI s)] a w) K (fun a w ⟨_,_,f,_⟩=>by cases f) (fun k a w ⟨q,s,f,hh⟩=>iR ?_ hh) (fun a w hh=>⟨v20,v22,O,kK [2] hh⟩);rw[fO.eq_2]at f;refine go ?_ ?_;refine aI f rfl (fun h33 f=>?_) (fun h33 f=>?_)
    ·refine fG (aC (aO ?_));obtain⟨v34,h35,f⟩:=aR f;refine go ?_ ?_;exact aN (fun a w hh=>⟨s,v34,f,kK [0] hh⟩)
    refine cO ?_;obtain rfl:=f8 f;exact qG I ⟨q,F,rfl,rfl⟩ [0]
   obtain⟨v36,h37,f⟩:=bQ f pL;refine go ?_ ?_;refine aM rfl tyZ30 (fun b38=>?_);refine aM rfl tyZ30 (fun b39=>?_);refine go ?_ ?_;exact aN (fun a w hh=>⟨v36.2,h,f,kK [2,3,4] hh⟩)
  refine go ?_ ?_;refine r9 rfl ?_;obtain⟨v40,h41,f⟩:=bQ f pL;refine go ?_ ?_;refine aM rfl tyZ30 (fun b42=>?_);refine aM rfl tyZ30 (fun b43=>?_);refine go ?_ ?_;exact aN (fun a w hh=>⟨v40.2,h,f,kK [2,3,4] hh⟩)
 refine cO ?_;obtain rfl:=f8 f;exact qG G ⟨j,y,rfl,rfl⟩ [1,2]
def mI(K:Nat)(e:aF):Option aF:=
 (aU K (!e.neg) e.d).bind fun f=>some f
theorem vA{K:Nat}{h:aF}{r:aF}(f:mI K h=some r):Ct Tryz.prog 131 [.va (aF.e h)] (.va (aF.e r)):=by
 unfold mI at f;refine aD Tryz.func131 rfl (by kernel_rfl) Tryz.ntmps131 rfl (fun w0 M0=>?_);refine aG (aH (dC rfl rfl zT (fun j=>?_)));refine aM rfl tyZ30 (fun b2=>?_);obtain⟨k,q,f⟩:=bQ f bB;exact cX
def mT(e:List Int):Option (Int×Bool):=
 bif((e.length:Int)==0) then(some (0,true)) else(bif((e.length:Int)==1) then((cT e 0).bind fun j=>some (j,true)) else(bif((e.length:Int)==2) then((cT e 1).bind fun k=>(aV (k*1000000000)).bind fun v10=>(cT e 0).bind fun f=>(aV (v10+f)).bind fun h=>some (h,true)) else(some (0,false))))
theorem sK{f:List Int}{r:Int×Bool}(e:mT f=some r):Ct Tryz.prog 165 [.vc (pS cI f)] (.t2 (vI r.1) (.vc (pB r.2))):=by
 unfold mT at e;refine aD Tryz.func165 rfl (by kernel_rfl) Tryz.ntmps165 rfl (fun w0 M0=>?_);refine go ?_ ?_;refine aO (go ?_ ?_);refine aI e rfl (fun h e=>?_) (fun h e=>?_)
 ·exact cX
 refine go ?_ ?_;refine aI e rfl (fun j e=>?_) (fun j e=>?_)
 ·obtain⟨z,F,e⟩:=aR e;exact cX
 refine go ?_ ?_;refine aI e rfl (fun k e=>?_) (fun k e=>?_)
 ·refine aG ?_;obtain⟨G,I,e⟩:=aR e;obtain⟨v10,q,e⟩:=aR e;obtain⟨s,t,e⟩:=aR e;obtain⟨u,x,e⟩:=aR e;refine dr [0,1,3,7,0,16,48,127,255,511] 10 0 ?_ (fun y G6=>?_);refine aJ (aC ?_);exact cX
 exact cX
def oS(K:Nat)(e:List Int)(f:Int):Option ((List Int)×Int):=
 some (e,f)
def jC(K:Nat)(z:List Int)(a1:Int):Nat→(List Int)→Int→Int→Option ((List Int)×Int)
 |0,_,_,_=>none
 |k+1,f,h,e=>bif(decide (0≤e)) then((aV (h*1000000000)).bind fun q=>(cT z e).bind fun s=>(aV (q+s)).bind fun j=>(vX j a1).bind fun t=>(wA j a1).bind fun u=>(cT f e).bind fun F=>(oZ f e t).bind fun x=>(aV (e-1)).bind fun y=>jC K z a1 k x u y) else(some (f,h))
def nW(K:Nat)(e:List Int)(a1:Int):Option ((List Int)×Int):=
 (xU (e.length:Int) 0).bind fun x1=>(aV ((e.length:Int)-1)).bind fun v6=>(jC K e a1 K x1 0 v6).bind fun(f,h)=>oS K f h
theorem wH{K:Nat}{a0:List Int}{a1:Int}{r:(List Int)×Int}(f:nW K a0 a1=some r):Ct Tryz.prog 175 [.vc (pS cI a0),vI a1] (.t2 (.vc (pS cI r.1)) (vI r.2)):=by
 unfold nW at f;refine aD Tryz.func175 rfl (by kernel_rfl) Tryz.ntmps175 rfl (fun w0 M0=>?_);refine aG (aH (aE (aK (.inr rfl)) ⟨jV cI,zT⟩ ?_));obtain⟨x1,h2,f⟩:=aR f;refine go ?_ ?_;refine rY (C:=cI) rfl tyS22 rfl tyZ3 rfl h2 (fun u=>?_);obtain⟨v6,h7,f⟩:=aR f;refine go ?_ ?_;refine aO (bM (fun H E=>∃(q:List Int),∃(x:Int),oS K q x=some r∧q.length=x1.length∧H=[hO cI u x1.length 3 x1.length q]∧E=[(6,.vc (pO u x1.length x1.length)),(7,vI x)]) ?_ (fun I=>?_))
 ·rintro _ _ ⟨q,x,f,q28,rfl,rfl⟩;unfold oS at f;refine go ?_ ?_;refine bW (bV (z4 0 [4,6,36] rfl q28 ⟨rfl,rfl,rfl,zT⟩ rfl ?_));obtain rfl:=f8 f;exact bS (.inl rfl) Tryz.results175 (.tmp rfl (.tmp rfl .nil)) rfl rfl
 obtain⟨⟨J,O⟩,hL,y⟩:=aR f;refine iO (fun k a w=>∃(h:List Int),∃(t:Int),∃(j:Int),jC K a0 a1 k h t j=some (J,O)∧h.length=x1.length∧hs _ [hO cI u x1.length 3 x1.length h] [(0,.vc (pS cI a0)),(1,vI a1),(6,.vc (pO u x1.length x1.length)),(7,vI t),(8,vI j)] a w) K (fun a w ⟨_,_,_,f,_,_⟩=>by cases f) (fun k a w ⟨h,t,j,f,z,hh⟩=>iR ?_ hh) (fun a w hh=>⟨x1,0,v6,hL,rfl,kK [0] hh⟩);rw[jC.eq_2]at f;refine go ?_ ?_;refine aI f rfl (fun h33 f=>?_) (fun h33 f=>?_)
 ·refine go ?_ ?_;refine aO ?_;obtain⟨v34,h35,v36,h37,U,h39,v42,h43,f⟩:=bn4 f;obtain⟨F,V,v46,G,x48,h49,f⟩:=bn3 f;refine go ?_ ?_;refine p9 (HsM [(0,fun e=>[hO cI u x1.length 3 x1.length h]),(1,fun e=>[hO cI u x1.length 3 x1.length x48])]) [9] [0,0,0,0,12,0,0,96,31,287,1023] 11 0 [.v (.vc (pO u x1.length x1.length)),.v (vI j),.v (vI U),.v (vI a1),.v (vI v42),.v (vI U),.v (vI a1),.v (vI F),.v (.vc (pE u j cI.n 0)),.g (fun _ _=>.any),.v (vI F)] aS ⟨d1 0 (aK (.inl rfl)) zU1,d1 0 (aK (.inl rfl)) zU1,d1 0 (aK (.inl rfl)) zU1,d1 0 (aK (.inl rfl)) zU1,d1 0 (aDj rfl h43) zU2,⟨rfl,.run (L:=[0,1]) ⟨fun e A=>aK (.inl rfl),fun e A=>aK (.inl rfl),zT⟩ (fun e=>zU1)⟩,⟨rfl,.run (L:=[0,1]) ⟨fun e A=>aK (.inl rfl),fun e A=>aK (.inl rfl),zT⟩ (fun e=>zU1)⟩,⟨rfl,.run (L:=[0,1]) ⟨fun e A=>zR rfl V,fun e A=>zR rfl V,zT⟩ (fun e=>zU2)⟩,d1 0 (pV (C:=cI) 0 rfl tyS22 rfl z (bD G).1 (bD G).2.1) zU2,⟨rfl,.hvy [0] ⟨fun e A=>aAQ (aCa 0 rfl rfl G h49 tyO3.s),zT⟩ (fun e=>zU2)⟩,d1 1 (aK (.inr rfl)) zU1,zT⟩ (fun bs41 e=>?_);obtain⟨v52,h53,f⟩:=aR f;refine go ?_ ?_;exact aN (fun a w hh=>⟨x48,F,v52,f,(cC h49 z),kK [0] hh⟩)
 refine cO ?_;obtain⟨rfl,rfl⟩:=sm2 f;exact qG I ⟨h,t,y,z,rfl,rfl⟩ [0]
def n0(K:Nat)(j:List Int)(e:List Int)(f:Int):Option (List Int):=
 (cT e (j.length:Int)).bind fun k=>(oZ e (j.length:Int) f).bind fun h=>some h
def iL(K:Nat)(q:List Int)(a1:Int):Nat→(List Int)→Int→Int→Option ((List Int)×Int)
 |0,_,_,_=>none
 |k+1,f,h,e=>bif(decide (e<(q.length:Int))) then((cT q e).bind fun s=>(aV (s*a1)).bind fun t=>(aV (t+h)).bind fun j=>(wA j 1000000000).bind fun u=>(vX j 1000000000).bind fun x=>(cT f e).bind fun F=>(oZ f e u).bind fun y=>(aV (e+1)).bind fun z=>iL K q a1 k y x z) else(some (f,h))
def lN(K:Nat)(e:List Int)(a1:Int):Option (List Int):=
 (aV ((e.length:Int)+1)).bind fun j=>(xU j 0).bind fun k=>(iL K e a1 K k 0 0).bind fun(f,h)=>n0 K e f h
theorem uN{K:Nat}{t:List Int}{a1:Int}{r:List Int}(e:lN K t a1=some r):xD Tryz.prog 178 [] [.vc (pS cI t),vI a1] (fun Ho q=>∃F G u,r.length=u∧Ho=[hO cI F G 3 u r]∧q=.vc (pO F u G)):=by
 unfold lN at e;refine aD Tryz.func178 rfl (by kernel_rfl) Tryz.ntmps178 rfl (fun w0 M0=>?_);refine aG (aH (tS cI 3 rfl ?_));obtain⟨v3,h4,f,h6,e⟩:=sU e;refine go ?_ ?_;refine rY (C:=cI) rfl tyS22 rfl tyZ3 rfl h6 (fun I=>?_);refine go ?_ ?_;refine aO (bM (fun H E=>∃(j:List Int),∃(x:Int),n0 K t j x=some r∧j.length=f.length∧H=[hO cI I f.length 3 f.length j]∧E=[(0,.vc (pS cI t)),(5,.vc (pO I f.length f.length)),(6,vI x)]) ?_ (fun J=>?_))
 ·rintro _ _ ⟨j,x,e,V,rfl,rfl⟩;unfold n0 at e;obtain⟨v35,h36,x37,h38,e⟩:=sU e;refine go ?_ ?_;refine bW (bV ?_);obtain rfl:=f8 e;exact oL (.inl rfl) Tryz.results178 (.tmp rfl .nil) rfl [0] rfl (by decide) ⟨I,f.length,f.length,(cC h38 V),rfl,rfl⟩
 obtain⟨⟨L,O⟩,hL,y⟩:=aR e;refine iO (fun k a w=>∃(h:List Int),∃(s:Int),∃(z:Int),iL K t a1 k h s z=some (L,O)∧h.length=f.length∧hs _ [hO cI I f.length 3 f.length h] [(0,.vc (pS cI t)),(1,vI a1),(5,.vc (pO I f.length f.length)),(6,vI s),(14,.vc (pS cI t)),(15,vI (t.length:Int)),(16,vI z)] a w) K (fun a w ⟨_,_,_,e,_,_⟩=>by cases e) (fun k a w ⟨h,s,z,e,U,hh⟩=>iR ?_ hh) (fun a w hh=>⟨f,0,0,hL,rfl,kK [0] hh⟩);rw[iL.eq_2]at e;refine go ?_ ?_;refine aI e rfl (fun h40 e=>?_) (fun h40 e=>?_)
 ·refine go ?_ ?_;refine aO ?_;obtain⟨v41,h42,v43,h44,v45,h46,v47,h48,e⟩:=bn4 e;obtain⟨v49,h50,v51,h52,x53,h54,v56,h57,e⟩:=bn4 e;refine go ?_ ?_;exact aN (fun a w hh=>⟨x53,v49,v56,e,(cC h54 U),kK [0] hh⟩)
 refine cO ?_;obtain⟨rfl,rfl⟩:=sm2 e;exact qG J ⟨h,s,y,U,rfl,rfl⟩ [0]
theorem aAR{K:Nat}{e:List Int}{a1:Int}{r:List Int}(f:lN K e a1=some r):Ct Tryz.prog 178 [.vc (pS cI e),vI a1] (.vc (pS cI r)):=aFu (uN f)
def pH(K:Nat)(a1:List Int)(k:Int)(e:List Int)(f:List Int):Option ((List Int)×(List Int)):=
 (xN f 0 (a1.length:Int)).bind fun h=>(nW K h k).bind fun j=>some (e,j.1)
def oQ(K:Nat)(a1:List Int)(k:List Int)(h:Int)(q:Int)(j:(List Int)→(List Int)→Int→Option ((List Int)×(List Int)))(e:List Int)(s:Int):Option ((List Int)×(List Int)):=
 (aV (h+(a1.length:Int))).bind fun f=>(cT e f).bind fun t=>(aV (t+s)).bind fun u=>(cT e f).bind fun F=>(oZ e f u).bind fun x=>(cT k h).bind fun G=>(oZ k h q).bind fun y=>(aV (h-1)).bind fun z=>j y x z
def gV(K:Nat)(a1:List Int)(t:List Int)(s:Int):Nat→(List Int)→Int→Int→Option ((List Int)×Int)
 |0,_,_,_=>none
 |k+1,f,h,e=>bif(decide (e<(a1.length:Int))) then((aV (e+s)).bind fun u=>(cT f u).bind fun x=>(cT t e).bind fun y=>(aV (x+y)).bind fun z=>(aV (z+h)).bind fun j=>(aV (e+s)).bind fun q=>(wA j 1000000000).bind fun F=>(vX j 1000000000).bind fun G=>(cT f q).bind fun L=>(oZ f q F).bind fun I=>(aV (e+1)).bind fun J=>gV K a1 t s k I G J) else(some (f,h))
def mL(K:Nat)(a1:List Int)(O:List Int)(s:List Int)(e:Int)(q:Int)(f:(List Int)→(List Int)→Int→Option ((List Int)×(List Int)))(h:List Int)(t:Int):Option ((List Int)×(List Int)):=
 (aV (e+(a1.length:Int))).bind fun j=>(cT h j).bind fun u=>(aV (u-t)).bind fun x=>(cT h j).bind fun U=>(oZ h j x).bind fun k=>(aV (e+(a1.length:Int))).bind fun y=>(cT k y).bind fun z=>bif(decide (z<0)) then((aV (q-1)).bind fun F=>(gV K a1 O e K k 0 0).bind fun(G,I)=>oQ K a1 s e F f G I) else((cT s e).bind fun V=>(oZ s e q).bind fun J=>(aV (e-1)).bind fun L=>f J k L)
def eV(K:Nat)(a1:List Int)(y:List Int)(j:Int)(q:Int):Nat→(List Int)→Int→Int→Option ((List Int)×Int)
 |0,_,_,_=>none
 |k+1,f,s,e=>bif(decide (e<(a1.length:Int))) then((aV (e+j)).bind fun z=>(cT f z).bind fun F=>(cT y e).bind fun G=>(aV (q*G)).bind fun I=>(aV (F-I)).bind fun J=>(aV (J-s)).bind fun h=>bif(decide (h<0)) then((aV (-h)).bind fun L=>(aV (L+1000000000)).bind fun O=>(aV (O-1)).bind fun U=>(vX U 1000000000).bind fun t=>(aV (t*1000000000)).bind fun V=>(aV (h+V)).bind fun v261=>(aV (e+j)).bind fun u=>(cT f u).bind fun v265=>(oZ f u v261).bind fun x267=>(aV (e+1)).bind fun v270=>eV K a1 y j q k x267 t v270) else((aV (e+j)).bind fun x=>(cT f x).bind fun v274=>(oZ f x h).bind fun x276=>(aV (e+1)).bind fun v279=>eV K a1 y j q k x276 0 v279)) else(some (f,s))
def mK(K:Nat)(a1:List Int)(h:List Int)(s:List Int)(t:List Int)(j:Int)(e:(List Int)→(List Int)→Int→Option ((List Int)×(List Int)))(f:Int):Option ((List Int)×(List Int)):=
 (eV K a1 h j f K t 0 0).bind fun(k,q)=>mL K a1 h s j f e k q
def dW(K:Nat)(a1:List Int)(f:List Int)(u:List Int)(x:Int):Nat→Int→Int→Option Int
 |0,_,_=>none
 |k+1,e,h=>bif(decide (1000000000≤e)) then((aV (e-1)).bind fun j=>(aV ((a1.length:Int)-1)).bind fun y=>(cT f y).bind fun z=>(aV (h+z)).bind fun q=>bif(decide (1000000000≤q)) then(some j) else(dW K a1 f u x k j q)) else((aV ((a1.length:Int)-2)).bind fun F=>(cT f F).bind fun G=>(aV (e*G)).bind fun I=>(aV (h*1000000000)).bind fun J=>(aV (x+(a1.length:Int))).bind fun L=>(aV (L-2)).bind fun O=>(cT u O).bind fun U=>(aV (J+U)).bind fun V=>bif(decide (V<I)) then((aV (e-1)).bind fun s=>(aV ((a1.length:Int)-1)).bind fun v312=>(cT f v312).bind fun v314=>(aV (h+v314)).bind fun t=>bif(decide (1000000000≤t)) then(some s) else(dW K a1 f u x k s t)) else(some e))
def eH(K:Nat)(a1:List Int)(e:List Int):Nat→(List Int)→(List Int)→Int→Option ((List Int)×(List Int))
 |0,_,_,_=>none
 |k+1,j,f,h=>bif(decide (0≤h)) then((aV (h+(a1.length:Int))).bind fun z=>(cT f z).bind fun F=>(aV (F*1000000000)).bind fun G=>(aV (h+(a1.length:Int))).bind fun I=>(aV (I-1)).bind fun J=>(cT f J).bind fun L=>(aV (G+L)).bind fun q=>(aV ((a1.length:Int)-1)).bind fun O=>(cT e O).bind fun U=>(vX q U).bind fun s=>(aV ((a1.length:Int)-1)).bind fun t=>(cT e t).bind fun u=>(wA q u).bind fun x=>(dW K a1 e f h K s x).bind fun y=>mK K a1 e j f h (eH K a1 e k) y) else(some (j,f))
def qJ(K:Nat)(e:List Int)(a1:List Int):Option ((List Int)×(List Int)):=
 (aV ((a1.length:Int)-1)).bind fun v1=>(cT a1 v1).bind fun y=>(aV (y+1)).bind fun z=>(vX 1000000000 z).bind fun f=>(lN K e f).bind fun v11=>(lN K a1 f).bind fun h=>(xN h 0 (a1.length:Int)).bind fun j=>(aV ((e.length:Int)-(a1.length:Int))).bind fun k=>(aV (k+1)).bind fun q=>(xU q 0).bind fun s=>(aV ((e.length:Int)-(a1.length:Int))).bind fun t=>(eH K a1 j K s v11 t).bind fun(u,x)=>pH K a1 f u x
theorem aBw{K:Nat}{a0:List Int}{a1:List Int}{r:(List Int)×(List Int)}(e:qJ K a0 a1=some r):Ct Tryz.prog 176 [.vc (pS cI a0),.vc (pS cI a1)] (.t2 (.vc (pS cI r.1)) (.vc (pS cI r.2))):=by
 unfold qJ at e;refine aD Tryz.func176 rfl (by kernel_rfl) Tryz.ntmps176 rfl (fun w0 M0=>?_);refine aG (aH (aE (aK (.inr rfl)) ⟨jV cI,zT⟩ ?_));refine aE (aK (.inr rfl)) ⟨jV cI,zT⟩ ?_;obtain⟨v1,h2,v3,h4,v5,h6,v7,h8,e⟩:=bn4 e;obtain⟨v11,h12,e⟩:=aR e;obtain⟨v15,h16,e⟩:=bQ e aAR;obtain⟨j,h18,e⟩:=aR e;refine go ?_ ?_;refine p9 (HsM [(0,fun h=>[]),(1,fun h=>[hO cI ((h 2).1) ((h 2).2) 3 v11.length v11]),(3,fun h=>[hO cI ((h 9).1) ((h 9).2) 3 v11.length v11])]) [2,9] [0,0,3,0,0,31,0,64,255,63,1023] 11 0 [.v (.vc (pS cI a0)),.v (vI v7),.g (fun b c=>.vc (pO b v11.length c)),.v (.vc (pS cI a1)),.v (vI v7),.v (.vc (pS cI v15)),.v (.vc (pS cI a1)),.v (vI (a1.length:Int)),.v (.vc (pS cI j)),.g (fun b c=>.vc (pO b v11.length c)),.v (.vc (pS cI j))] aS ⟨d1 0 (aK (.inl rfl)) zU1,d1 0 (aK (.inl rfl)) zU1,⟨rfl,.hvy [0] ⟨fun h A=>aJ5 rfl (uN h12) rfl,zT⟩ (fun h=>zU2)⟩,⟨rfl,.run (L:=[0,1]) ⟨fun h A=>aK (.inl rfl),fun h A=>aK (.inl rfl),zT⟩ (fun h=>zU1)⟩,⟨rfl,.run (L:=[0,1]) ⟨fun h A=>aK (.inl rfl),fun h A=>aK (.inl rfl),zT⟩ (fun h=>zU1)⟩,d1 1 (aT rfl h16 rfl) zU2,⟨rfl,.run (L:=[0,1,3]) ⟨fun h A=>aK (.inl rfl),fun h A=>aK (.inl rfl),fun h A=>aK (.inl rfl),zT⟩ (fun h=>zU1)⟩,⟨rfl,.run (L:=[0,1,3]) ⟨fun h A=>aCV rfl tyS22,fun h A=>aCV rfl tyS22,fun h A=>aCV rfl tyS22,zT⟩ (fun h=>zU1)⟩,⟨rfl,.run (L:=[1,3]) ⟨fun h A=>aDG rfl tyS22 h18,fun h A=>aDG rfl tyS22 h18,zT⟩ (fun h=>zU2)⟩,⟨rfl,.hvy [1] ⟨fun h A=>aI9 ((h 2).1) ((h 2).2) (aK (.inr rfl)),zT⟩ (fun h=>zU1)⟩,d1 3 (aK (.inr rfl)) zU1,zT⟩ (fun bs10 h=>?_);obtain⟨v23,h24,v25,h26,f,h28,e⟩:=bn3 e;refine go ?_ ?_;refine rY (C:=cI) rfl tyS22 rfl tyZ3 rfl h28 (fun q=>?_);have e:=sQ h24 e;refine go ?_ ?_;refine aO (bM (fun H E=>∃(x60:List Int),∃(x66:List Int),pH K a1 v7 x60 x66=some r∧x60.length=f.length∧x66.length=v11.length∧H=[hO cI q f.length 3 f.length x60,hO cI ((h 9).1) ((h 9).2) 3 v11.length x66]∧E=[(6,vI v7),(7,.vc (pO ((h 9).1) v11.length ((h 9).2))),(9,vI (a1.length:Int)),(10,.vc (pO q f.length f.length))]) ?_ (fun Jj73=>?_))
 ·rintro _ _ ⟨x60,x66,e,q64,q70,rfl,rfl⟩;unfold pH at e;refine aC (aG (aH (cK ?_)));refine cK ?_;refine xI 1 [7,213] rfl q70 zU2 rfl ?_;obtain⟨x74,h75,e⟩:=aR e;obtain⟨v76,h77,e⟩:=bQ e wH;refine go ?_ ?_;refine bW (bV (z4 0 [4,10,220] rfl q64 ⟨rfl,rfl,rfl,zT⟩ rfl ?_));obtain rfl:=f8 e;exact bS (.inl rfl) Tryz.results176 (.tmp rfl (.tmp rfl .nil)) rfl rfl
 obtain⟨⟨J,O⟩,hL,hRl72⟩:=aR e;refine iO (fun k a w=>∃(t:List Int),∃(x:List Int),∃(s:Int),eH K a1 j k t x s=some (J,O)∧t.length=f.length∧x.length=v11.length∧hs _ [hO cI q f.length 3 f.length t,hO cI ((h 9).1) ((h 9).2) 3 v11.length x] [(6,vI v7),(7,.vc (pO ((h 9).1) v11.length ((h 9).2))),(8,.vc (pS cI j)),(9,vI (a1.length:Int)),(10,.vc (pO q f.length f.length)),(11,vI s)] a w) K (fun a w ⟨_,_,_,e,_,_,_⟩=>by cases e) (fun k a w ⟨t,x,s,e,q51,q57,hh⟩=>iR ?_ hh) (fun a w hh=>⟨f,v11,v23,hL,rfl,rfl,kK [0,1] hh⟩);rw[eH.eq_2]at e;refine go ?_ ?_;refine aI e rfl (fun h78 e=>?_) (fun h78 e=>?_)
 ·refine go ?_ ?_;refine aO (aGt (aG ?_));obtain⟨v81,h82,e⟩:=aR e;obtain⟨v83,h84,e⟩:=aR e;obtain⟨v85,h86,e⟩:=aR e;have e:=sQ h82 e;obtain⟨v89,h90,e⟩:=aR e;obtain⟨v91,h92,e⟩:=aR e;obtain⟨v93,h94,e⟩:=aR e;refine dr [0,0,0,6,15,31,63,0,0,0,768,1792,3968,8064,16383,32767] 16 0 ?_ (fun bs80 G79=>?_);have e:=sQ h2 e;obtain⟨v99,h100,v101,h102,e⟩:=sU e;have e:=sQ h2 e;have e:=sQ h100 e;obtain⟨v107,h108,e⟩:=aR e;refine go ?_ ?_;refine dr [0,0,0,4,14,30,63,0,0,0,512,1792,3840,8064,127,32767] 16 0 ?_ (fun bs96 G95=>?_);refine go ?_ ?_;refine aO (bM (fun H E=>∃(u:Int),mK K a1 j t x s (eH K a1 j k) u=some (J,O)∧H=[hO cI q f.length 3 f.length t,hO cI ((h 9).1) ((h 9).2) 3 v11.length x]∧E=[(6,vI v7),(7,.vc (pO ((h 9).1) v11.length ((h 9).2))),(8,.vc (pS cI j)),(9,vI (a1.length:Int)),(10,.vc (pO q f.length f.length)),(11,vI s),(13,vI u)]) ?_ (fun I=>?_))
  ·rintro _ _ ⟨u,e,rfl,rfl⟩;unfold mK at e;refine go ?_ ?_;refine aO (bM (fun H E=>∃(U:List Int),∃(x138:Int),mL K a1 j t s u (eH K a1 j k) U x138=some (J,O)∧U.length=v11.length∧H=[hO cI q f.length 3 f.length t,hO cI ((h 9).1) ((h 9).2) 3 v11.length U]∧E=[(6,vI v7),(7,.vc (pO ((h 9).1) v11.length ((h 9).2))),(8,.vc (pS cI j)),(9,vI (a1.length:Int)),(10,.vc (pO q f.length f.length)),(11,vI s),(13,vI u),(15,vI x138)]) ?_ (fun Jj140=>?_))
   ·rintro _ _ ⟨U,x138,e,q136,rfl,rfl⟩;unfold mL at e;have e:=sQ h82 e;obtain⟨v143,h144,v145,h146,e⟩:=sU e;have e:=sQ h144 e;obtain⟨x149,h150,e⟩:=aR e;have e:=sQ h82 e;obtain⟨v154,h155,e⟩:=aR e;refine go ?_ ?_;refine aI e rfl (fun h156 e=>?_) (fun h156 e=>?_)
    ·obtain⟨v157,h158,e⟩:=aR e;refine go ?_ ?_;refine aO (bM (fun H E=>∃(V:List Int),∃(x181:Int),oQ K a1 t s v157 (eH K a1 j k) V x181=some (J,O)∧V.length=v11.length∧H=[hO cI q f.length 3 f.length t,hO cI ((h 9).1) ((h 9).2) 3 v11.length V]∧E=[(6,vI v7),(7,.vc (pO ((h 9).1) v11.length ((h 9).2))),(8,.vc (pS cI j)),(9,vI (a1.length:Int)),(10,.vc (pO q f.length f.length)),(11,vI s),(13,vI v157),(15,vI x181)]) ?_ (fun Jj183=>?_))
     ·rintro _ _ ⟨V,x181,e,q179,rfl,rfl⟩;unfold oQ at e;have e:=sQ h82 e;obtain⟨v186,h187,v188,h189,e⟩:=sU e;have e:=sQ h187 e;obtain⟨x192,h193,v195,h196,x197,h198,v200,h201,e⟩:=bn4 e;refine go ?_ ?_;exact aN (fun a w hh=>⟨x197,x192,v200,e,(cC h198 q51),(cC h193 q179),kK [0,1] hh⟩)
     obtain⟨⟨x175',x181'⟩,hL,hRl182⟩:=aR e;refine iO (fun k a w=>∃(z:List Int),∃(x173:Int),∃(x174:Int),gV K a1 j s k z x173 x174=some (x175',x181')∧z.length=v11.length∧hs _ [hO cI q f.length 3 f.length t,hO cI ((h 9).1) ((h 9).2) 3 v11.length z] [(6,vI v7),(7,.vc (pO ((h 9).1) v11.length ((h 9).2))),(8,.vc (pS cI j)),(9,vI (a1.length:Int)),(10,.vc (pO q f.length f.length)),(11,vI s),(13,vI v157),(15,vI x173),(172,vI (a1.length:Int)),(173,vI x174)] a w) K (fun a w ⟨_,_,_,e,_,_⟩=>by cases e) (fun k a w ⟨z,x173,x174,e,q171,hh⟩=>iR ?_ hh) (fun a w hh=>⟨x149,0,0,hL,(cC h150 q136),kK [0,1] hh⟩);rw[gV.eq_2]at e;refine go ?_ ?_;refine aI e rfl (fun h202 e=>?_) (fun h202 e=>?_)
     ·refine go ?_ ?_;refine aO ?_;obtain⟨v205,h206,v207,h208,v209,h210,v211,h212,e⟩:=bn4 e;obtain⟨v213,h214,e⟩:=aR e;refine go ?_ ?_;refine dr [0,0,0,6,15,31,0,0,192,448,1023,0,4095,8191] 14 0 ?_ (fun bs204 G203=>?_);have e:=sQ h206 e;obtain⟨v217,h218,v219,h220,e⟩:=sU e;have e:=sQ h208 e;obtain⟨x223,h224,v226,h227,e⟩:=sU e;refine go ?_ ?_;exact aN (fun a w hh=>⟨x223,v219,v226,e,(cC h224 q171),kK [0,1] hh⟩)
     refine cO ?_;obtain⟨rfl,rfl⟩:=sm2 e;exact qG Jj183 ⟨z,x173,hRl182,q171,rfl,rfl⟩ [0,1]
    obtain⟨v228,h229,x230,h231,v233,h234,e⟩:=bn3 e;refine go ?_ ?_;exact aN (fun a w hh=>⟨x230,x149,v233,e,(cC h231 q51),(cC h150 q136),kK [0,1] hh⟩)
   obtain⟨⟨x132',x138'⟩,hL,hRl139⟩:=aR e;refine iO (fun k a w=>∃(F:List Int),∃(x130:Int),∃(x131:Int),eV K a1 j s u k F x130 x131=some (x132',x138')∧F.length=v11.length∧hs _ [hO cI q f.length 3 f.length t,hO cI ((h 9).1) ((h 9).2) 3 v11.length F] [(6,vI v7),(7,.vc (pO ((h 9).1) v11.length ((h 9).2))),(8,.vc (pS cI j)),(9,vI (a1.length:Int)),(10,.vc (pO q f.length f.length)),(11,vI s),(13,vI u),(15,vI x130),(117,vI (a1.length:Int)),(118,vI x131)] a w) K (fun a w ⟨_,_,_,e,_,_⟩=>by cases e) (fun k a w ⟨F,x130,x131,e,q128,hh⟩=>iR ?_ hh) (fun a w hh=>⟨x,0,0,hL,q57,kK [0,1] hh⟩);rw[eV.eq_2]at e;refine go ?_ ?_;refine aI e rfl (fun h235 e=>?_) (fun h235 e=>?_)
   ·refine go ?_ ?_;refine aO ?_;obtain⟨v238,h239,v240,h241,v242,h243,v244,h245,e⟩:=bn4 e;obtain⟨v246,h247,v248,h249,e⟩:=sU e;refine go ?_ ?_;refine dr [0,0,0,6,15,31,0,0,0,384,896,1984,4095,0,16383,32767] 16 0 ?_ (fun bs237 G236=>?_);refine go ?_ ?_;refine aI e rfl (fun h250 e=>?_) (fun h250 e=>?_)
    ·obtain⟨v251,h252,v253,h254,v255,h256,v257,h258,e⟩:=bn4 e;obtain⟨v259,h260,v261,h262,e⟩:=sU e;have e:=sQ h239 e;have e:=sQ h241 e;obtain⟨x267,h268,v270,h271,e⟩:=sU e;refine go ?_ ?_;exact aN (fun a w hh=>⟨x267,v257,v270,e,(cC h268 q128),kK [0,1] hh⟩)
    have e:=sQ h239 e;have e:=sQ h241 e;obtain⟨x276,h277,v279,h280,e⟩:=sU e;refine go ?_ ?_;exact aN (fun a w hh=>⟨x276,0,v279,e,(cC h277 q128),kK [0,1] hh⟩)
   refine cO ?_;obtain⟨rfl,rfl⟩:=sm2 e;exact qG Jj140 ⟨F,x130,hRl139,q128,rfl,rfl⟩ [0,1]
  obtain⟨x113',hL,y⟩:=aR e;refine iO (fun k a w=>∃(G:Int),∃(x112:Int),dW K a1 j x s k G x112=some x113'∧hs _ [hO cI q f.length 3 f.length t,hO cI ((h 9).1) ((h 9).2) 3 v11.length x] [(6,vI v7),(7,.vc (pO ((h 9).1) v11.length ((h 9).2))),(8,.vc (pS cI j)),(9,vI (a1.length:Int)),(10,.vc (pO q f.length f.length)),(11,vI s),(13,vI G),(14,vI x112)] a w) K (fun a w ⟨_,_,e,_⟩=>by cases e) (fun k a w ⟨G,x112,e,hh⟩=>iR ?_ hh) (fun a w hh=>⟨v101,v107,hL,kK [0,1] hh⟩);rw[dW.eq_2]at e;refine aG (aG ?_);rcases Bool.eq_false_or_eq_true (decide (1000000000≤G)) with h283|h283
  ·have e:=eG h283 e;refine drb [0,1,3,7,7,7,39,119,247,511,7,1031,7,7,7,24583,57351,126983,258055,523271,1048575,2097151] 22 0 ?_ (fun bs282 G281=>?_);refine aJ (aC (rK rfl ?_));refine fG (aC (aO ?_));obtain⟨v284,h285,e⟩:=aR e;have e:=sQ h2 e;have e:=sQ h100 e;obtain⟨v290,h291,e⟩:=aR e;refine go ?_ ?_;refine aI e rfl (fun h292 e=>?_) (fun h292 e=>?_)
   ·refine cO ?_;obtain rfl:=f8 e;exact qG I ⟨v284,y,rfl,rfl⟩ [0,1]
   refine fG (tR ?_);exact aN (fun a w hh=>⟨v284,v290,e,kK [0,1] hh⟩)
  have e:=dY h283 e;obtain⟨v293,h294,e⟩:=aR e;obtain⟨v295,h296,e⟩:=aR e;obtain⟨v297,h298,e⟩:=aR e;obtain⟨v299,h300,e⟩:=aR e;have e:=sQ h82 e;obtain⟨v303,h304,e⟩:=aR e;obtain⟨v305,h306,e⟩:=aR e;obtain⟨v307,h308,e⟩:=aR e;refine drb [0,1,3,7,7,7,39,119,247,511,7,1031,7,7,7,24583,57351,126983,258055,523271,1048575,2097151] 22 0 ?_ (fun bs282 G281=>?_);refine aJ (aC (aI e rfl (fun h309 e=>?_) (fun h309 e=>?_)))
  ·refine fG (aC (aO ?_));obtain⟨v310,h311,e⟩:=aR e;have e:=sQ h2 e;have e:=sQ h100 e;obtain⟨v316,h317,e⟩:=aR e;refine go ?_ ?_;refine aI e rfl (fun h318 e=>?_) (fun h318 e=>?_)
   ·refine cO ?_;obtain rfl:=f8 e;exact qG I ⟨v310,y,rfl,rfl⟩ [0,1]
   refine fG (tR ?_);exact aN (fun a w hh=>⟨v310,v316,e,kK [0,1] hh⟩)
  refine cO ?_;obtain rfl:=f8 e;exact qG I ⟨G,y,rfl,rfl⟩ [0,1]
 refine cO ?_;obtain⟨rfl,rfl⟩:=sm2 e;exact qG Jj73 ⟨t,x,hRl72,q51,q57,rfl,rfl⟩ [0,1]
def kY(K:Nat)(h:List Int)(a1:List Int):Option (aF×aF):=
 (fB K h a1).bind fun t=>bif(decide (t<0)) then((d6 K false h).bind fun u=>some ((⟨false,([]:List Int)⟩:aF),u)) else(bif((a1.length:Int)==1) then((cT a1 0).bind fun v11=>(nW K h v11).bind fun e=>(d6 K false e.1).bind fun j=>(eE false (IntKind.u64.wrap e.2)).bind fun k=>some (j,k)) else((qJ K h a1).bind fun f=>(d6 K false f.1).bind fun q=>(d6 K false f.2).bind fun s=>some (q,s)))
def lK(K:Nat)(h:List Int)(a1:List Int):Option (aF×aF):=
 (mT h).bind fun e=>bif e.2 then((mT a1).bind fun f=>bif f.2 then((vX e.1 f.1).bind fun j=>(eE false (IntKind.u64.wrap j)).bind fun k=>(wA e.1 f.1).bind fun q=>(eE false (IntKind.u64.wrap q)).bind fun s=>some (k,s)) else(kY K h a1)) else(kY K h a1)
theorem sH{K:Nat}{u:List Int}{a1:List Int}{r:aF×aF}(f:lK K u a1=some r):Ct Tryz.prog 166 [.vc (pS cI u),.vc (pS cI a1)] (.t2 (.va (aF.e r.1)) (.va (aF.e r.2))):=by
 unfold lK at f;refine aD Tryz.func166 rfl (by kernel_rfl) Tryz.ntmps166 rfl (fun w0 M0=>?_);refine aG (aH (aM rfl tyZ30 (fun V=>?_)));refine aM rfl tyZ30 (fun b2=>?_);refine aJ (aC (aG (vQ (fun H E=>kY K u a1=some r∧H=[⟨some b2,1,30,2,1,([pB false]++[pS cI ([]:List Int)])⟩,⟨some V,1,30,2,1,([pB false]++[pS cI ([]:List Int)])⟩]∧E=[(0,.vc (pS cI u)),(1,.vc (pS cI a1)),(4,.vc (pP (some V) 0)),(5,.vc (pP (some b2) 0))]) ?_ (fun j=>?_))))
 ·rintro _ _ ⟨f,rfl,rfl⟩;unfold kY at f;obtain⟨v5,h6,f⟩:=bQ f lM;refine go ?_ ?_;refine aI f rfl (fun h7 f=>?_) (fun h7 f=>?_)
  ·refine aG (aH (aE (gP (is:=[]) (xs:=[]) (ps:=[]) rfl tyB30 rfl rfl zT rfl) zT ?_));obtain⟨v8,h9,f⟩:=bQ f gS;exact cX
  refine go ?_ ?_;refine aI f rfl (fun x f=>?_) (fun x f=>?_)
  ·obtain⟨v11,h12,f⟩:=aR f;obtain⟨v13,h14,f⟩:=bQ f wH;obtain⟨v15,h16,f⟩:=bQ f gS;refine go ?_ ?_;refine aE (zP rfl ⟨_,Tryz.underlying3⟩ Tryz.underlying123) zU1 ?_;obtain⟨v17,h18,f⟩:=bQ f jB;exact cX
  obtain⟨v19,h20,f⟩:=bQ f aBw;obtain⟨v21,h22,f⟩:=bQ f gS;obtain⟨v23,h24,f⟩:=bQ f gS;exact cX
 obtain⟨k,h26,f⟩:=bQ f sK;refine go ?_ ?_;refine aI f rfl (fun y f=>?_) (fun y f=>?_)
 ·obtain⟨q,h29,f⟩:=bQ f sK;refine go ?_ ?_;refine aI f rfl (fun z f=>?_) (fun z f=>?_)
  ·refine aG ?_;obtain⟨s,F,f⟩:=aR f;obtain⟨G,I,f⟩:=bQ f jB;obtain⟨t,J,f⟩:=aR f;obtain⟨O,U,f⟩:=bQ f jB;refine gJ [0,0,3,7,15,0,0,96,224,511,1023,2047] 10 2 [.v (vI k.1),.v (vI q.1),.v (vI s),.v (.vc (pI .u64 (IntKind.u64.wrap s))),.v (.va (aF.e G)),.v (vI k.1),.v (vI q.1),.v (vI t),.v (.vc (pI .u64 (IntKind.u64.wrap t))),.v (.va (aF.e O))] aS ⟨d0 (aK (.inl rfl)) zU1,d0 (aK (.inl rfl)) zU1,d0 (aDj rfl F) zU2,⟨rfl,.run (L:=[0]) ⟨fun h A=>zP rfl ⟨_,Tryz.underlying3⟩ Tryz.underlying123,zT⟩ (fun h=>zU1)⟩,d0 (aT rfl I rfl) ⟨lU _,rfl,zT⟩,d0 (aK (.inl rfl)) zU1,d0 (aK (.inl rfl)) zU1,d0 (zR rfl J) zU2,⟨rfl,.run (L:=[0]) ⟨fun h A=>zP rfl ⟨_,Tryz.underlying3⟩ Tryz.underlying123,zT⟩ (fun h=>zU1)⟩,d0 (aT rfl U rfl) ⟨lU _,rfl,zT⟩,zT⟩ (fun bs32 h=>?_);exact cX
  refine fG ?_;exact qG j ⟨f,rfl,rfl⟩ [0,1]
 refine fG ?_;exact qG j ⟨f,rfl,rfl⟩ [0,1]
def sI(K:Nat)(e:aF):Option aF:=
 some e
def qD(K:Nat)(e:Int):Option (LR aF aF):=
 (eE false (IntKind.u64.wrap e)).bind fun f=>some (.ret f)
def jJ(K:Nat):Nat→Int→Int→Option Int
 |0,_,_=>none
 |k+1,f,e=>bif(decide (0<e)) then((wA f e).bind fun h=>jJ K k e h) else(some f)
def g8(K:Nat):Nat→aF→aF→Option (LR aF aF)
 |0,_,_=>none
 |k+1,f,e=>bif(decide (0<(e.d.length:Int))) then((mT f.d).bind fun h=>(mT e.d).bind fun v20=>bif h.2 then(bif v20.2 then((jJ K K h.1 v20.1).bind fun j=>qD K j) else((lK K f.d e.d).bind fun q=>g8 K k e q.2)) else((lK K f.d e.d).bind fun s=>g8 K k e s.2)) else(some (.go f))
def rN(K:Nat)(f:aF)(a1:aF):Option aF:=
 (d6 K false f.d).bind fun v6=>(d6 K false a1.d).bind fun h=>(g8 K K v6 h).bind fun o=>match o with| .ret r=>some r| .go e=>sI K e
theorem aCH{K:Nat}{a0:aF}{a1:aF}{r:aF}(f:rN K a0 a1=some r):Ct Tryz.prog 134 [.va (aF.e a0),.va (aF.e a1)] (.va (aF.e r)):=by
 unfold rN at f;refine aD Tryz.func134 rfl (by kernel_rfl) Tryz.ntmps134 rfl (fun w0 M0=>?_);refine aG (aH (dC rfl rfl zT (fun b1=>?_)));refine dC rfl rfl zT (fun b2=>?_);refine aM rfl tyZ30 (fun z=>?_);obtain⟨v6,h7,f⟩:=bQ f gS;obtain⟨v8,h9,f⟩:=bQ f gS;refine go ?_ ?_;refine dr [0,1,3,0,8,31,0,0,255,511] 8 2 ?_ (fun h G4=>?_);refine go ?_ ?_;refine aO (bM (fun H E=>∃(J:aF),sI K J=some r∧H=[⟨some (h 6),1,30,2,1,(aF.e J)⟩,⟨some z,1,30,2,1,([pB false]++[pS cI ([]:List Int)])⟩]∧E=[(4,.vc (pP (some z) 0)),(5,.vc (pP (some (h 6)) 0))]) ?_ (fun Jj16=>?_))
 ·rintro _ _ ⟨J,f,rfl,rfl⟩;unfold sI at f;exact cX
 obtain⟨I,hL,O⟩:=aR f;refine iO (fun k a w=>∃(u:aF),∃(j:aF),g8 K k u j=some I∧hs _ [⟨some (h 6),1,30,2,1,(aF.e u)⟩,⟨some (h 7),1,30,2,1,(aF.e j)⟩,⟨some z,1,30,2,1,([pB false]++[pS cI ([]:List Int)])⟩] [(4,.vc (pP (some z) 0)),(5,.vc (pP (some (h 6)) 0)),(6,.vc (pP (some (h 7)) 0))] a w) K (fun a w ⟨_,_,f,_⟩=>by cases f) (fun k a w ⟨u,j,f,hh⟩=>iR ?_ hh) (fun a w hh=>⟨v6,v8,hL,kK [0,1,2] hh⟩);rw[g8.eq_2]at f;refine go ?_ ?_;refine aI f rfl (fun h17 f=>?_) (fun h17 f=>?_)
 ·refine fG (aC (aO ?_));obtain⟨v18,h19,f⟩:=bQ f sK;obtain⟨v20,h21,f⟩:=bQ f sK;refine go ?_ ?_;refine jW f (fun h22 f=>?_) (fun h22 f=>?_)
  ·refine go ?_ ?_;refine aI f rfl (fun h23 f=>?_) (fun h23 f=>?_)
   ·refine aG (aO (bM (fun H E=>∃(U:Int),qD K U=some I∧H=[⟨some z,1,30,2,1,([pB false]++[pS cI ([]:List Int)])⟩]∧E=[(4,.vc (pP (some z) 0)),(7,vI U)]) ?_ (fun Jj30=>?_)))
    ·rintro _ _ ⟨U,f,rfl,rfl⟩;unfold qD at f;refine go ?_ ?_;refine aE (zP rfl ⟨_,Tryz.underlying3⟩ Tryz.underlying123) zU1 ?_;obtain⟨v31,h32,f⟩:=bQ f jB;exact cX
    obtain⟨x28',hL,V⟩:=aR f;refine iO (fun k a w=>∃(F:Int),∃(G:Int),jJ K k F G=some x28'∧hs _ [⟨some z,1,30,2,1,([pB false]++[pS cI ([]:List Int)])⟩] [(4,.vc (pP (some z) 0)),(7,vI F),(9,vI G)] a w) K (fun a w ⟨_,_,f,_⟩=>by cases f) (fun k a w ⟨F,G,f,hh⟩=>iR ?_ hh) (fun a w hh=>⟨v18.1,v20.1,hL,kK [2] hh⟩);rw[jJ.eq_2]at f;refine go ?_ ?_;refine aI f rfl (fun h33 f=>?_) (fun h33 f=>?_)
    ·refine fG (aC (aO ?_));obtain⟨v36,h37,f⟩:=aR f;refine dr [0,0,0,6,3,31] 6 0 ?_ (fun bs35 G34=>?_);refine aJ (tR ?_);exact aN (fun a w hh=>⟨G,v36,f,kK [0] hh⟩)
    refine cO ?_;obtain rfl:=f8 f;exact qG Jj30 ⟨F,V,rfl,rfl⟩ [0]
   obtain⟨x,h39,f⟩:=bQ f sH;refine go ?_ ?_;refine aM rfl tyZ30 (fun b40=>?_);refine aM rfl tyZ30 (fun b41=>?_);refine go ?_ ?_;refine p9 (HsM [(0,fun q=>[⟨some b41,1,30,2,1,(aF.e x.2)⟩,⟨some b40,1,30,2,1,(aF.e x.1)⟩,⟨some (h 6),1,30,2,1,(aF.e u)⟩,⟨some (h 7),1,30,2,1,(aF.e j)⟩,⟨some z,1,30,2,1,([pB false]++[pS cI ([]:List Int)])⟩]),(1,fun q=>[⟨some b41,1,30,2,1,(aF.e x.2)⟩,⟨some b40,1,30,2,1,(aF.e x.1)⟩,⟨some (h 6),1,30,2,1,(aF.e j)⟩,⟨some (h 7),1,30,2,1,(aF.e j)⟩,⟨some z,1,30,2,1,([pB false]++[pS cI ([]:List Int)])⟩])]) [2] [0,0,1,7] 3 1 [.v (.va (aF.e j)),.v (.va (aF.e x.2)),.g (fun _ _=>.any)] aS ⟨d1 0 (iN 3 2 rfl rfl rfl rfl (.agg tyA30)) zU1,⟨rfl,.run (L:=[0,1]) ⟨fun q A=>iN 0 2 rfl rfl rfl rfl (.agg tyA30),fun q A=>iN 0 2 rfl rfl rfl rfl (.agg tyA30),zT⟩ (fun q=>zU1)⟩,⟨rfl,.hvy [0] ⟨fun q A=>aAQ (xY 2 rfl rfl rfl tyA30.s),zT⟩ (fun q=>zU2)⟩,zT⟩ (fun bs43 q=>?_);refine go ?_ ?_;exact aN (fun a w hh=>⟨j,x.2,f,kK [2,3,4] hh⟩)
  refine go ?_ ?_;refine r9 rfl ?_;obtain⟨y,h45,f⟩:=bQ f sH;refine go ?_ ?_;refine aM rfl tyZ30 (fun b46=>?_);refine aM rfl tyZ30 (fun b47=>?_);refine go ?_ ?_;refine p9 (HsM [(0,fun t=>[⟨some b47,1,30,2,1,(aF.e y.2)⟩,⟨some b46,1,30,2,1,(aF.e y.1)⟩,⟨some (h 6),1,30,2,1,(aF.e u)⟩,⟨some (h 7),1,30,2,1,(aF.e j)⟩,⟨some z,1,30,2,1,([pB false]++[pS cI ([]:List Int)])⟩]),(1,fun t=>[⟨some b47,1,30,2,1,(aF.e y.2)⟩,⟨some b46,1,30,2,1,(aF.e y.1)⟩,⟨some (h 6),1,30,2,1,(aF.e j)⟩,⟨some (h 7),1,30,2,1,(aF.e j)⟩,⟨some z,1,30,2,1,([pB false]++[pS cI ([]:List Int)])⟩])]) [2] [0,0,1,7] 3 1 [.v (.va (aF.e j)),.v (.va (aF.e y.2)),.g (fun _ _=>.any)] aS ⟨d1 0 (iN 3 2 rfl rfl rfl rfl (.agg tyA30)) zU1,⟨rfl,.run (L:=[0,1]) ⟨fun t A=>iN 0 2 rfl rfl rfl rfl (.agg tyA30),fun t A=>iN 0 2 rfl rfl rfl rfl (.agg tyA30),zT⟩ (fun t=>zU1)⟩,⟨rfl,.hvy [0] ⟨fun t A=>aAQ (xY 2 rfl rfl rfl tyA30.s),zT⟩ (fun t=>zU2)⟩,zT⟩ (fun bs49 t=>?_);refine go ?_ ?_;exact aN (fun a w hh=>⟨j,y.2,f,kK [2,3,4] hh⟩)
 refine cO ?_;obtain rfl:=f8 f;exact qG Jj16 ⟨u,O,rfl,rfl⟩ [0,2]
def kV(K:Nat)(h:aF)(a1:aF)(f:aF)(e:aF):Option (aF×aF):=
 bif(h.neg != a1.neg) then(some ((⟨(decide (0<(e.d.length:Int))),e.d⟩:aF),f)) else(some ((⟨false,e.d⟩:aF),f))
def pX(K:Nat)(e:aF)(a1:aF):Option (aF×aF):=
 bif((a1.d.length:Int)==0) then(some ((⟨false,([]:List Int)⟩:aF),(⟨false,([]:List Int)⟩:aF))) else((lK K e.d a1.d).bind fun v6=>bif e.neg then(bif(decide (0<(v6.2.d.length:Int))) then((m5 K v6.1.d [1]).bind fun f=>(d6 K false f).bind fun h=>(k6 K a1.d v6.2.d).bind fun j=>(d6 K false j).bind fun k=>kV K e a1 k h) else(kV K e a1 v6.2 v6.1)) else(kV K e a1 v6.2 v6.1))
theorem yE{K:Nat}{x:aF}{a1:aF}{r:aF×aF}(h:pX K x a1=some r):Ct Tryz.prog 136 [.va (aF.e x),.va (aF.e a1)] (.t2 (.va (aF.e r.1)) (.va (aF.e r.2))):=by
 unfold pX at h;refine aD Tryz.func136 rfl (by kernel_rfl) Tryz.ntmps136 rfl (fun w0 M0=>?_);refine aG (aH (dC rfl rfl zT (fun y=>?_)));refine dC rfl rfl zT (fun b2=>?_);refine aM rfl tyZ30 (fun z=>?_);refine aM rfl tyZ30 (fun F=>?_);refine go ?_ ?_;refine aI h rfl (fun h5 h=>?_) (fun h5 h=>?_)
 ·refine aG (aH (aE (gP (is:=[]) (xs:=[]) (ps:=[]) rfl tyB30 rfl rfl zT rfl) zT ?_));refine aE (gP (is:=[]) (xs:=[]) (ps:=[]) rfl tyB30 rfl rfl zT rfl) zT ?_;exact cX
 obtain⟨v6,h7,h⟩:=bQ h sH;refine go ?_ ?_;refine aM rfl tyZ30 (fun G=>?_);refine aM rfl tyZ30 (fun I=>?_);refine mU (xY 1 rfl rfl rfl tyA30.s) zU2 ?_;refine mU (xY 0 rfl rfl rfl tyA30.s) zU2 ?_;refine aJ (aC (aG (vQ (fun H E=>∃(j:aF),∃(f:aF),kV K x a1 j f=some r∧H=[⟨some I,1,30,2,1,(aF.e j)⟩,⟨some G,1,30,2,1,(aF.e f)⟩,⟨some F,1,30,2,1,([pB false]++[pS cI ([]:List Int)])⟩,⟨some z,1,30,2,1,([pB false]++[pS cI ([]:List Int)])⟩,⟨some b2,1,30,2,1,(aF.e a1)⟩,⟨some y,1,30,2,1,(aF.e x)⟩]∧E=[(2,.vc (pP (some y) 0)),(3,.vc (pP (some b2) 0)),(4,.vc (pP (some z) 0)),(5,.vc (pP (some F) 0)),(6,.vc (pP (some G) 0)),(7,.vc (pP (some I) 0))]) ?_ (fun u=>?_))))
 ·rintro _ _ ⟨j,f,h,rfl,rfl⟩;unfold kV at h;refine go ?_ ?_;refine aE (zU rfl Tryz.underlying4) zU2 ?_;refine cK ?_;refine jW h (fun J h=>?_) (fun J h=>?_)
  ·refine go ?_ ?_;refine p9 (HsM [(0,fun q=>[⟨some I,1,30,2,1,(aF.e j)⟩,⟨some G,1,30,2,1,([pB (decide (0<(f.d.length:Int)))]++[pS cI f.d])⟩,⟨some F,1,30,2,1,([pB false]++[pS cI ([]:List Int)])⟩,⟨some z,1,30,2,1,([pB false]++[pS cI ([]:List Int)])⟩,⟨some b2,1,30,2,1,(aF.e a1)⟩,⟨some y,1,30,2,1,(aF.e x)⟩]),(1,fun q=>[⟨some I,1,30,2,1,(aF.e j)⟩,⟨some G,1,30,2,1,([pB (decide (0<(f.d.length:Int)))]++[pS cI f.d])⟩,⟨some F,1,30,2,1,([pB false]++[pS cI ([]:List Int)])⟩,⟨some z,1,30,2,1,([pB (decide (0<(f.d.length:Int)))]++[pS cI f.d])⟩,⟨some b2,1,30,2,1,(aF.e a1)⟩,⟨some y,1,30,2,1,(aF.e x)⟩])]) [2] [0,0,1,7] 3 1 [.v (.va ([pB (decide (0<(f.d.length:Int)))]++[pS cI f.d])),.v (.va (aF.e j)),.g (fun _ _=>.any)] aS ⟨d1 0 (iN 1 2 rfl rfl rfl rfl (.agg tyA30)) zU1,⟨rfl,.run (L:=[0,1]) ⟨fun q A=>iN 0 2 rfl rfl rfl rfl (.agg tyA30),fun q A=>iN 0 2 rfl rfl rfl rfl (.agg tyA30),zT⟩ (fun q=>zU1)⟩,⟨rfl,.hvy [0] ⟨fun q A=>aAQ (xY 3 rfl rfl rfl tyA30.s),zT⟩ (fun q=>zU2)⟩,zT⟩ (fun bs16 q=>?_);exact cX
  refine go ?_ ?_;refine p9 (HsM [(0,fun t=>[⟨some I,1,30,2,1,(aF.e j)⟩,⟨some G,1,30,2,1,([pB false]++[pS cI f.d])⟩,⟨some F,1,30,2,1,([pB false]++[pS cI ([]:List Int)])⟩,⟨some z,1,30,2,1,([pB false]++[pS cI ([]:List Int)])⟩,⟨some b2,1,30,2,1,(aF.e a1)⟩,⟨some y,1,30,2,1,(aF.e x)⟩]),(1,fun t=>[⟨some I,1,30,2,1,(aF.e j)⟩,⟨some G,1,30,2,1,([pB false]++[pS cI f.d])⟩,⟨some F,1,30,2,1,([pB false]++[pS cI ([]:List Int)])⟩,⟨some z,1,30,2,1,([pB false]++[pS cI f.d])⟩,⟨some b2,1,30,2,1,(aF.e a1)⟩,⟨some y,1,30,2,1,(aF.e x)⟩])]) [2] [0,0,1,7] 3 1 [.v (.va ([pB false]++[pS cI f.d])),.v (.va (aF.e j)),.g (fun _ _=>.any)] aS ⟨d1 0 (iN 1 2 rfl rfl rfl rfl (.agg tyA30)) zU1,⟨rfl,.run (L:=[0,1]) ⟨fun t A=>iN 0 2 rfl rfl rfl rfl (.agg tyA30),fun t A=>iN 0 2 rfl rfl rfl rfl (.agg tyA30),zT⟩ (fun t=>zU1)⟩,⟨rfl,.hvy [0] ⟨fun t A=>aAQ (xY 3 rfl rfl rfl tyA30.s),zT⟩ (fun t=>zU2)⟩,zT⟩ (fun bs18 t=>?_);exact cX
 refine go ?_ ?_;refine jW h (fun O h=>?_) (fun O h=>?_)
 ·refine go ?_ ?_;refine aI h rfl (fun U h=>?_) (fun U h=>?_)
  ·refine go ?_ ?_;refine aE (qP (C:=cI) (xs:=[.const (.int .i64 (1))]) (ps:=[vI 1]) (zs:=[1]) rfl tyS22 rfl ⟨⟨zT,rfl⟩,zT⟩ rfl) ⟨hU _ _,zT⟩ ?_;obtain⟨v21,V,h⟩:=bQ h xJ;refine aE (aT rfl V rfl) zU2 ?_;obtain⟨v23,h24,h⟩:=bQ h gS;refine aE (aT rfl h24 rfl) ⟨lU _,rfl,zT⟩ ?_;refine mU (xY 1 rfl rfl rfl tyA30.s) zU2 ?_;refine aJ (aC (aH (aE (eZ (off:=0) (k:=1) rfl tyF30_1) zU1 ?_)));refine aE (iN 4 1 rfl rfl rfl rfl (.one tyO22)) zU1 ?_;refine aE (eZ (off:=0) (k:=1) rfl tyF30_1) zU1 ?_;refine aE (iN 0 1 rfl rfl rfl rfl (.one tyO22)) zU1 ?_;obtain⟨v25,h26,h⟩:=bQ h tD;refine aE (aT rfl h26 rfl) zU2 ?_;obtain⟨v27,h28,h⟩:=bQ h gS;refine aE (aT rfl h28 rfl) ⟨lU _,rfl,zT⟩ ?_;refine mU (xY 0 rfl rfl rfl tyA30.s) zU2 ?_;refine aJ ?_;exact qG u ⟨v27,v23,h,rfl,rfl⟩ [0,1,2,3,4,5]
  refine fG ?_;exact qG u ⟨v6.2,v6.1,h,rfl,rfl⟩ [0,1,2,3,4,5]
 refine go ?_ ?_;refine r9 rfl ?_;refine fG ?_;exact qG u ⟨v6.2,v6.1,h,rfl,rfl⟩ [0,1,2,3,4,5]
def gW(e:Int)(a1:Int):Option Bool:=
 (gZ e).bind fun v1=>bif v1 then((gZ a1).bind fun v4=>bif(!v4) then(some true) else(some (decide (e<a1)))) else(some (decide (e<a1)))
theorem yM{f:Int}{a1:Int}{r:Bool}(e:gW f a1=some r):Ct Tryz.prog 158 [vI f,vI a1] (.vc (pB r)):=by
 unfold gW at e;refine aD Tryz.func158 rfl (by kernel_rfl) Tryz.ntmps158 rfl (fun w0 M0=>?_);obtain⟨v1,k,e⟩:=bQ e mP;refine go ?_ ?_;refine jW e (fun h e=>?_) (fun h e=>?_)
 ·obtain⟨v4,q,e⟩:=bQ e mP;refine go ?_ ?_;refine jW e (fun j e=>?_) (fun j e=>?_)
  ·exact cX
  exact cX
 exact cX
end Go.Proofs.YtnmdhmfofbfkjaaGreat
set_option linter.unusedVariables false
set_option maxRecDepth 100000
namespace Go.Proofs.YtnmdhmfofbfkjaaGreat
theorem tK{n m:Nat}{x:Int}(h:x=n)(e:n≤9000000000000000000):aV x=some (n:Int):=by
 subst h;exact qB ⟨by omega,by omega⟩
theorem cF{k n:Nat}(h:n<k):∃e,k=e+1∧n≤e:=⟨k-1,by omega,by omega⟩
theorem x0{u:List Int}{i:Nat}{v:Int}(h:Dr u 0 i)(f:i<u.length)(j:0≤v)(k:v<1000000000):Dr (u.set i v) 0 (i+1):=fun t q=>by
 by_cases e:t=i
 ·subst e;rw[Nat.zero_add,dU f];exact⟨j,k⟩
 ·rw[eO (by omega)];exact h t (by omega)
def mkG(neg:Bool)(n:Nat):aF:=if n=0 then⟨false,[]⟩ else⟨neg,bP n⟩
theorem l9(n:Nat):mkG false n=Z n:=by
 unfold mkG Z;by_cases h:n=0
 ·subst h;simp[vG]
 ·rw[if_neg h];simp
theorem aGu(n:Nat):mkG true n=Z (-n):=by
 unfold mkG Z;by_cases h:n=0
 ·subst h;simp[vG]
 ·rw[if_neg h];simp;omega
theorem rF(b:Bool)(n:Nat):mkG b n=Z (if b then -(n:Int) else n):=by
 cases b
 ·simpa using l9 n
 ·simpa using aGu n
theorem aKO(u:List Int):∀(n:Nat),n≤u.length→n≤9000000000000→∃m:Nat,m≤n∧(∀i,m≤i→i<n→u.getD i 0=0)∧(m=0∨u.getD (m-1) 0≠0)∧∀K k,n<k→k5 K u k n=some (m:Int)
 |0,_,_=>⟨0,Nat.le_refl _,fun i _ h=>by omega,.inl rfl,fun K k f=>by
   obtain⟨q,rfl,_⟩:=cF f;simp[k5]⟩
 |n+1,h,J=>by
  have t:aV (((n+1:Nat):Int)-1)=some (n:Int):=tK (m:=0) (by omega) (by omega);have x:decide (0<((n+1:Nat):Int))=true:=decide_eq_true (by omega);have y:=cV (xs:=u) (i:=n) (by omega);by_cases j:u.getD n 0=0
  ·obtain⟨m,L,z,F,G⟩:=aKO u n (by omega) (by omega);refine⟨m,by omega,fun i a b=>?_,F,fun K k f=>?_⟩
   ·by_cases e:i=n
    ·subst e;exact j
    ·exact z i a (by omega)
   ·obtain⟨q,rfl,s⟩:=cF f;simp only[k5,t,x,y,j,d9,oB,beq_self_eq_true];exact G K q (by omega)
  ·refine⟨n+1,by omega,fun i a b=>by omega,.inr (by simpa using j),fun K k f=>?_⟩;obtain⟨q,rfl,s⟩:=cF f;have I:(u.getD n 0==0)=false:=by simpa using j
   simp only[k5,t,x,y,I,d9,eD,oB]
theorem aMU{u:List Int}(s:kM u){m:Nat}(t:m≤u.length)(x:∀i,m≤i→i<u.length→u.getD i 0=0)(y:m=0∨u.getD (m-1) 0≠0):u.take m=bP (vD u).toNat∧(m=0↔vD u=0):=by
 have f:∀i,i<m→(u.take m).getD i 0=u.getD i 0:=fun i e=>by
  simp only[List.getD_eq_getElem?_getD,List.getElem?_take];rw[if_pos e]
 have q:(u.take m).length=m:=by simp;omega
 have hok:kM (u.take m):=fun i=>by
  rcases Nat.lt_or_ge i m with h|h
  ·rw[f i h];exact s i
  ·rw[rQ (by omega)];omega
 have hv:vD (u.take m)=vD u:=by
  unfold vD;rw[q];obtain⟨c,hc⟩:=Nat.exists_eq_add_of_le t;rw[hc,s0,aBI (j:=0+m) (fun i e=>x _ (by omega) (by omega))];rw[aAH (v:=u) (k:=0) (fun i e=>by rw[Nat.zero_add];exact f i e)];simp
 have z:Top (u.take m):=by
  rcases y with h|h
  ·subst h;exact .inl (by simp)
  ·by_cases F:m=0
   ·subst F;exact .inl (by simp)
   ·refine .inr ?_;rw[q,f _ (by omega)];exact h
 have:=aJ6 hok z;rw[hv]at this;refine⟨this.symm,fun h=>?_,fun h=>?_⟩
 ·subst h;rw[←hv];simp;rfl
 ·rw[h]at this;simp only[Int.toNat_zero,vG]at this;have:(u.take m).length=0:=by rw[←this];rfl
  omega
theorem tP(neg:Bool){u:List Int}(j:kM u)(s:u.length≤9000000000000):Ev (fun K=>d6 K neg u) (mkG neg (vD u).toNat):=by
 obtain⟨m,k,t,x,y⟩:=aKO u u.length (Nat.le_refl _) s;obtain⟨z,q⟩:=aMU j k t x;have F:=j.nonneg;refine⟨u.length+1,fun K G=>?_⟩;simp only[d6,y K K (by omega),oB,rW];unfold mkG;by_cases f:m=0
 ·have e:((m:Int)==0)=true:=by simp[f]
  rw[e,d9,if_pos (by have:=q.1 f;omega)]
 ·have e:((m:Int)==0)=false:=by simp[f]
  rw[e,eD,aDY k,oB,if_neg (by intro h;exact f (q.2 (by omega))),z]
theorem y9{out a b:List Int}{i:Nat}{c c' v:Int}(e:i<out.length)(f:W out 0 i+c*PB i=W a 0 i+W b 0 i)(hv:v+1000000000*c'=a.getD i 0+b.getD i 0+c):
  W (out.set i v) 0 (i+1)+c'*PB (i+1)=W a 0 (i+1)+W b 0 (i+1):=by
 rw[dG,dG,dG,Nat.zero_add,dU e,t5 (.inr (by omega))];simp only[PB];grind
theorem yQ{a b:List Int}(G:kM a)(hb:kM b)(hab:b.length≤a.length)(L:a.length≤9000000000000):∀(t i:Nat) (out:List Int) (c:Int),i+t=a.length→out.length=a.length+1→Dr out 0 i→0≤c→c≤1→W out 0 i+c*PB i=W a 0 i+W b 0 i→
  ∃out' c',out'.length=a.length+1∧Dr out' 0 a.length∧0≤c'∧c'≤1∧W out' 0 a.length+c'*PB a.length=W a 0 a.length+W b 0 a.length∧∀K k,t<k→cY K a b k out c (i:Int)=some (out',c')
 |0,i,out,c,hi,y,z,I,J,F=>by
  have:i=a.length:=by omega
  subst this;refine⟨out,c,y,z,I,J,F,fun K k e=>?_⟩;obtain⟨f,rfl,_⟩:=cF e;simp[cY]
 |t+1,i,out,c,hi,y,z,I,J,F=>by
  have ha':=G i;have hb':=hb i;have O:decide ((i:Int)<(a.length:Int))=true:=decide_eq_true (by omega);have U:=cV (xs:=a) (i:=i) (by omega);have V:aV ((i:Int)+1)=some ((i+1:Nat):Int):=tK (m:=0) (by omega) (by omega);have e4:=cV (xs:=out) (i:=i) (by omega);have e5:∀v,oZ out (i:Int) v=some (out.set i v):=fun v=>p7 (by omega)
  have e6:aV (a.getD i 0+c)=some (a.getD i 0+c):=qB (by omega);have e7:aV (a.getD i 0+c+b.getD i 0)=some (a.getD i 0+c+b.getD i 0):=qB (by omega);have e8:aV (a.getD i 0+c+b.getD i 0-1000000000)=some (a.getD i 0+c+b.getD i 0-1000000000):=qB (by omega);have e9:aV (a.getD i 0+c-1000000000)=some (a.getD i 0+c-1000000000):=qB (by omega);by_cases hbl:i<b.length
  ·have f1:decide ((i:Int)<(b.length:Int))=true:=decide_eq_true (by omega);have f2:=cV (xs:=b) (i:=i) hbl;by_cases hs:1000000000≤a.getD i 0+c+b.getD i 0
   ·obtain⟨o,d,h,j,q,s,u,x⟩:=yQ G hb hab L t (i+1) (out.set i (a.getD i 0+c+b.getD i 0-1000000000)) 1 (by omega) (by simpa using y) (x0 z (by omega) (by omega) (by omega)) (by omega) (by omega) (y9 (by omega) F (by omega));refine⟨o,d,h,j,q,s,u,fun K k e=>?_⟩;obtain⟨f,rfl,_⟩:=cF e;simp only[cY,O,U,V,e4,e5,e6,e7,e8,f1,f2,decide_eq_true hs,d9,oB];exact x K f (by omega)
   ·obtain⟨o,d,h,j,q,s,u,x⟩:=yQ G hb hab L t (i+1) (out.set i (a.getD i 0+c+b.getD i 0)) 0 (by omega) (by simpa using y) (x0 z (by omega) (by omega) (by omega)) (by omega) (by omega) (y9 (by omega) F (by omega));refine⟨o,d,h,j,q,s,u,fun K k e=>?_⟩;obtain⟨f,rfl,_⟩:=cF e;simp only[cY,O,U,V,e4,e5,e6,e7,f1,f2,decide_eq_false hs,d9,eD,oB];exact x K f (by omega)
  ·have f1:decide ((i:Int)<(b.length:Int))=false:=decide_eq_false (by omega);have f2:b.getD i 0=0:=rQ (by omega);by_cases hs:1000000000≤a.getD i 0+c
   ·obtain⟨o,d,h,j,q,s,u,x⟩:=yQ G hb hab L t (i+1) (out.set i (a.getD i 0+c-1000000000)) 1 (by omega) (by simpa using y) (x0 z (by omega) (by omega) (by omega)) (by omega) (by omega) (y9 (by omega) F (by omega));refine⟨o,d,h,j,q,s,u,fun K k e=>?_⟩;obtain⟨f,rfl,_⟩:=cF e;simp only[cY,O,U,V,e4,e5,e6,e9,f1,decide_eq_true hs,d9,eD,oB];exact x K f (by omega)
   ·obtain⟨o,d,h,j,q,s,u,x⟩:=yQ G hb hab L t (i+1) (out.set i (a.getD i 0+c)) 0 (by omega) (by simpa using y) (x0 z (by omega) (by omega) (by omega)) (by omega) (by omega) (y9 (by omega) F (by omega));refine⟨o,d,h,j,q,s,u,fun K k e=>?_⟩;obtain⟨f,rfl,_⟩:=cF e;simp only[cY,O,U,V,e4,e5,e6,f1,decide_eq_false hs,d9,eD,oB];exact x K f (by omega)
theorem aEi(n j m:Nat):Dr (List.replicate n 0) j m:=fun i _=>by
 simp only[List.getD_eq_getElem?_getD,List.getElem?_replicate];split<;>simp
theorem aGU{a b:List Int}(h:kM a)(hb:kM b)(hab:b.length≤a.length)(u:a.length≤60000000000):∃r,kM r∧r.length=a.length+1∧vD r=vD a+vD b∧Ev (fun K=>mA K a b) r:=by
 obtain⟨o,c,f,j,x,y,k,q⟩:=yQ h hb hab (by omega) a.length 0 (List.replicate (a.length+1) 0) 0 (by omega) (by simp) (aEi _ _ _) (by omega) (by omega) (by simp[W]);have s:aV ((a.length:Int)+1)=some ((a.length+1:Nat):Int):=tK (m:=0) (by omega) (by omega);have t:xU ((a.length+1:Nat):Int) (0:Int)=some (List.replicate (a.length+1) 0):=xC (by omega);refine⟨o.set a.length c,Dr.ok ?_,by simpa using f,?_,⟨a.length+1,fun K z=>?_⟩⟩
 ·rw[show(o.set a.length c).length=a.length+1 by simpa using f];exact x0 j (by omega) (by omega) (by omega)
 ·unfold vD;rw[show(o.set a.length c).length=a.length+1 by simpa using f,dG,Nat.zero_add,dU (by omega),t5 (.inr (by omega)),k,w7 hab]
 ·have e:=q K K (by omega);simp only[Int.natCast_zero]at e;simp only[mA,s,t,oB,e,pD,cV (xs:=o) (i:=a.length) (by omega),p7 (xs:=o) (i:=a.length) (v:=c) (by omega)]
theorem aFe{a b:List Int}(j:kM a)(hb:kM b)(k:a.length≤60000000000)(hM:b.length≤60000000000):∃r,kM r∧r.length≤max a.length b.length+1∧vD r=vD a+vD b∧Ev (fun K=>m5 K a b) r:=by
 by_cases h:a.length<b.length
 ·obtain⟨r,e,q,s,f⟩:=aGU hb j (by omega) hM;refine⟨r,e,by omega,by omega,f.congr fun K=>?_⟩;simp only[m5,show decide ((a.length:Int)<(b.length:Int))=true from decide_eq_true (by omega),d9]
 ·obtain⟨r,e,q,s,f⟩:=aGU j hb (by omega) k;refine⟨r,e,by omega,by omega,f.congr fun K=>?_⟩;simp only[m5,show decide ((a.length:Int)<(b.length:Int))=false from decide_eq_false (by omega),eD]
theorem dT{p:Prop}[Decidable p](h:p):decide p=true:=decide_eq_true h
theorem dF{p:Prop}[Decidable p](h:¬p):decide p=false:=decide_eq_false h
theorem nT{x y:Int}(h:x≠y):(x != y)=true:=bne_iff_ne.2 h
theorem nF{x y:Int}(h:x=y):(x != y)=false:=by subst h;exact bne_self_eq_false x
theorem qT{x y:Int}(h:x=y):(x==y)=true:=beq_iff_eq.2 h
theorem qF{x y:Int}(h:x≠y):(x==y)=false:=beq_false_of_ne h
theorem aJr{u:List Int}{k n:Nat}{v:Int}(h:k<n)(e:k<u.length):W (u.set k v) 0 n=W u 0 n+(v-u.getD k 0)*PB k:=by
 obtain⟨c,rfl⟩:=Nat.exists_eq_add_of_le h;rw[s0,s0,dG,dG,Nat.zero_add,dU e,t5 (.inr (by omega)),t5 (.inl (by omega))];grind
theorem aKc{n:Nat}{a:List Int}(h:n=a.length):cpL (List.replicate n 0) a=a:=by
 subst h;simp[cpL]
theorem aBg{a b x1:List Int}(I:kM a)(hb:kM b)(hbl:b.length≤a.length)(hv:vD b≤vD a)(hL:a.length≤9000000000000)(L:(cpL x1 a).length=a.length):∀(t i:Nat) (out:List Int),i+t=a.length→out.length=a.length→Dr out 0 i→
  (∀s,i<s→out.getD s 0=a.getD s 0)→a.getD i 0-1≤out.getD i 0→out.getD i 0≤a.getD i 0→W out 0 a.length+W b 0 i=vD a→
  ∃r,r.length=a.length∧kM r∧vD r=vD a-vD b∧∀K k,t<k→dV K a b x1 k out (i:Int)=some r
 |0,i,out,hi,G,O,hs,h1,h2,hW=>by
  have:i=a.length:=by omega
  subst this;refine⟨out,G,Dr.ok (by rwa [G]),?_,fun K k j=>?_⟩
  ·unfold vD;rw[G];rw[w7 hbl]at hW;have U:vD b=W b 0 b.length:=rfl;have V:vD a=W a 0 a.length:=rfl;omega
  ·obtain⟨J,rfl,_⟩:=cF j;simp[dV,L]
 |t+1,i,out,hi,G,O,hs,h1,h2,hW=>by
  have ha':=I i;have hb':=hb i;have U:decide ((i:Int)<((cpL x1 a).length:Int))=true:=dT (by omega);have e3:aV ((i:Int)+1)=some ((i+1:Nat):Int):=tK (m:=0) (by omega) (by omega);have key:∀o:List Int,o.length=a.length→Dr o 0 i→(∀s,i<s→o.getD s 0=a.getD s 0)→o.getD i 0=out.getD i 0-b.getD i 0→W o 0 a.length+W b 0 (i+1)=vD a→
    ∃r,r.length=a.length∧kM r∧vD r=vD a-vD b∧∀K k,t≤k→t<k→jD K (i:Int) (dV K a b x1 k) o=some r:=by
   intro o hlo q hso hoi u;have V:=cV (xs:=o) (i:=i) (by omega);by_cases hneg:o.getD i 0<0
   ·have e4:aV (o.getD i 0+1000000000)=some (o.getD i 0+1000000000):=qB (by omega);have hlt:i+1<a.length:=by
     rcases Nat.lt_or_ge (i+1) a.length with h|h
     ·exact h
     ·exfalso;have hia:a.length=i+1:=by omega
      have w1:=(wV q).2;rw[hia]at u;rw[dG,Nat.zero_add]at u;have w2:vD b=W b 0 (i+1):=by rw[w7 (n:=i+1) (by omega)]
      have hp:=oU i;have:o.getD i 0*PB i≤(-1)*PB i:=Int.mul_le_mul_of_nonneg_right (by omega) (by omega);have hbn:=hb.nonneg;omega
    have e5:oZ o (i:Int) (o.getD i 0+1000000000)=some (o.set i (o.getD i 0+1000000000)):=p7 (by omega);have e6:cT (o.set i (o.getD i 0+1000000000)) ((i+1:Nat):Int)=some (a.getD (i+1) 0):=by
     rw[cV (by simp;omega),eO (by omega),hso _ (by omega)]
    have ha2:=I (i+1);have e7:aV (a.getD (i+1) 0-1)=some (a.getD (i+1) 0-1):=qB (by omega);have e8:oZ (o.set i (o.getD i 0+1000000000)) ((i+1:Nat):Int) (a.getD (i+1) 0-1)=some ((o.set i (o.getD i 0+1000000000)).set (i+1) (a.getD (i+1) 0-1)):=p7 (by simp;omega);obtain⟨r,g1,x,y,z⟩:=aBg I hb hbl hv hL L t (i+1) ((o.set i (o.getD i 0+1000000000)).set (i+1) (a.getD (i+1) 0-1)) (by omega) (by simpa using hlo)
     (fun s f=>by
      rw[eO (by omega)];exact x0 q (by omega) (by omega) (by omega) s f)
     (fun s f=>by rw[eO (by omega),eO (by omega),hso s (by omega)])
     (by rw[dU (by simp;omega)];omega) (by rw[dU (by simp;omega)];omega)
     (by
      rw[aJr (k:=i+1) (by omega) (by simp;omega),aJr (k:=i) (by omega) (by omega),eO (by omega),hso (i+1) (by omega)];simp only[PB]at *;have:o.getD i 0+1000000000-o.getD i 0=1000000000:=by omega
      rw[this];have:a.getD (i+1) 0-1-a.getD (i+1) 0=-1:=by omega
      rw[this];omega)
    refine⟨r,g1,x,y,fun K k j F=>?_⟩;simp only[jD,V,e3,e4,e5,e6,e7,e8,dT hneg,d9,oB];exact z K k F
   ·obtain⟨r,g1,x,y,z⟩:=aBg I hb hbl hv hL L t (i+1) o (by omega) hlo (fun s f=>by
      by_cases e:s=i
      ·subst e;rw[Nat.zero_add];omega
      ·exact q s (by omega)) (fun s f=>hso s (by omega)) (by rw[hso _ (by omega)];omega) (by rw[hso _ (by omega)];omega) u
    refine⟨r,g1,x,y,fun K k j F=>?_⟩;simp only[jD,V,e3,dF hneg,eD,oB];exact z K k F
  by_cases hib:i<b.length
  ·have f1:decide ((i:Int)<(b.length:Int))=true:=dT (by omega);have f2:=cV (xs:=b) (i:=i) hib;have f3:=cV (xs:=out) (i:=i) (by omega);have f4:aV (out.getD i 0-b.getD i 0)=some (out.getD i 0-b.getD i 0):=qB (by omega);have f5:oZ out (i:Int) (out.getD i 0-b.getD i 0)=some (out.set i (out.getD i 0-b.getD i 0)):=p7 (by omega);obtain⟨r,g1,x,y,z⟩:=key (out.set i (out.getD i 0-b.getD i 0)) (by simpa using G) (fun s f=>by rw[eO (by omega)];exact O s f) (fun s f=>by rw[eO (by omega)];exact hs s f) (dU (by omega)) (by
    rw[aJr (by omega) (by omega),dG,Nat.zero_add];have:(out.getD i 0-b.getD i 0-out.getD i 0)=- b.getD i 0:=by omega
    rw[this,Int.neg_mul];omega)
   refine⟨r,g1,x,y,fun K k j=>?_⟩;obtain⟨J,rfl,_⟩:=cF j;simp only[dV,U,f1,f2,f3,f4,f5,d9,oB];exact z K J (by omega) (by omega)
  ·have f1:decide ((i:Int)<(b.length:Int))=false:=dF (by omega);have f2:b.getD i 0=0:=rQ (by omega);obtain⟨r,g1,x,y,z⟩:=key out G O hs (by omega) (by rw[dG,Nat.zero_add,f2];omega);refine⟨r,g1,x,y,fun K k j=>?_⟩;obtain⟨J,rfl,_⟩:=cF j;simp only[dV,U,f1,d9,eD];exact z K J (by omega) (by omega)
theorem aBm{a b:List Int}(f:kM a)(hb:kM b)(hbl:b.length≤a.length)(hv:vD b≤vD a)(u:a.length≤60000000000):
  ∃r,r.length=a.length∧kM r∧vD r=vD a-vD b∧Ev (fun K=>k6 K a b) r:=by
 have j:xU (a.length:Int) (0:Int)=some (List.replicate a.length 0):=xC (by omega);have e:cpL (List.replicate a.length 0) a=a:=aKc rfl;obtain⟨r,g1,k,q,t⟩:=aBg (x1:=List.replicate a.length 0) f hb hbl hv (by omega) (by rw[e]) a.length 0 a (by omega) rfl (fun s h=>by omega) (fun s h=>rfl) (by omega) (by omega) (by simp[W]);refine⟨r,g1,k,q,⟨a.length+1,fun K x=>?_⟩⟩;have h:=t K K (by omega);simp only[Int.natCast_zero]at h;simp only[k6,j,e,oB,h,oR]
theorem aEf(x y:Int):gH x y=some (if x<y then -1 else if y<x then 1 else 0):=by
 unfold gH gZ;have f:(x != x)=false:=by simp
 have j:(y != y)=false:=by simp
 simp only[f,j,oB,eD];by_cases h:x<y
 ·rw[dT h,d9,if_pos h]
 ·rw[dF h,eD,if_neg h];by_cases e:y<x
  ·rw[dT e,d9,if_pos e]
  ·rw[dF e,eD,if_neg e]
theorem aF7{u v:List Int}{n:Nat}(hu:kM u)(hv:kM v)(h:u.getD n 0<v.getD n 0):W u 0 (n+1)<W v 0 (n+1):=by
 rw[dG,dG,Nat.zero_add];have e:=(wV (hu.dr 0 n)).2;have f:=(wV (hv.dr 0 n)).1;have hp:=oU n;have:(u.getD n 0+1)*PB n≤v.getD n 0*PB n:=Int.mul_le_mul_of_nonneg_right (by omega) (by omega);rw[Int.add_mul]at this;omega
def uP(x y:Int):Int:=if x<y then -1 else if y<x then 1 else 0
theorem aCo{u v:List Int}(hu:kM u)(hv:kM v)(y:u.length=v.length)(z:u.length≤9000000000000):∀(j:Nat),j≤u.length→∀K k,j<k→
  fC K u v k ((j:Int)-1)=some (if W u 0 j<W v 0 j then .ret (-1) else if W v 0 j<W u 0 j then .ret 1 else .go ())
 |0,_,K,k,f=>by
  obtain⟨x,rfl,_⟩:=cF f;simp[fC,W]
 |j+1,L,K,k,f=>by
  obtain⟨x,rfl,F⟩:=cF f;have G:((j+1:Nat):Int)-1=(j:Int):=by omega
  have q:decide (0≤(j:Int))=true:=dT (by omega);have s:=cV (xs:=u) (i:=j) (by omega);have t:=cV (xs:=v) (i:=j) (by omega);rw[G];rcases Int.lt_trichotomy (u.getD j 0) (v.getD j 0) with h|h|h
  ·have:=aF7 hu hv h;have e:(u.getD j 0 != v.getD j 0)=true:=nT (by omega);simp only[fC,q,s,t,e,d9,oB,aEf];rw[if_pos h,if_pos this]
  ·have e:(u.getD j 0 != v.getD j 0)=false:=nF h;have I:aV ((j:Int)-1)=some ((j:Int)-1):=qB (by omega);have ih:=aCo hu hv y z j (by omega) K x (by omega);have c1:(W u 0 (j+1)<W v 0 (j+1))↔(W u 0 j<W v 0 j):=by rw[dG,dG,Nat.zero_add,h];omega
   have J:(W v 0 (j+1)<W u 0 (j+1))↔(W v 0 j<W u 0 j):=by rw[dG,dG,Nat.zero_add,h];omega
   simp only[fC,q,s,t,e,I,d9,eD,oB,c1,J];exact ih
  ·have:=aF7 hv hu h;have e:(u.getD j 0 != v.getD j 0)=true:=nT (by omega);simp only[fC,q,s,t,e,d9,oB,aEf];rw[if_neg (by omega),if_pos h,if_neg (by omega),if_pos this]
theorem aDL{u v:List Int}(hu:kM u)(hv:kM v)(tv:Top v)(h:u.length<v.length):vD u<vD v:=by
 have f:=hu.lt;have j:=tv.pos hv (by intro e;subst e;simp at h);have k:=aA4 (a:=u.length) (b:=v.length-1) (by omega);omega
theorem vH{u v:List Int}(hu:kM u)(hv:kM v)(tu:Top u)(tv:Top v)(k:u.length≤9000000000000):Ev (fun K=>fB K u v) (uP (vD u) (vD v)):=by
 refine⟨u.length+1,fun K t=>?_⟩;by_cases h:u.length=v.length
 ·have j:((u.length:Int) != (v.length:Int))=false:=nF (by omega);have q:aV ((u.length:Int)-1)=some ((u.length:Int)-1):=qB (by omega);have s:=aCo hu hv h k u.length (Nat.le_refl _) K K (by omega);simp only[fB,j,q,s,eD,oB];unfold uP vD;rw[←h];by_cases e:W u 0 u.length<W v 0 u.length
  ·rw[if_pos e,if_pos e]
  ·rw[if_neg e,if_neg e];by_cases f:W v 0 u.length<W u 0 u.length
   ·rw[if_pos f,if_pos f]
   ·rw[if_neg f,if_neg f];rfl
 ·have j:((u.length:Int) != (v.length:Int))=true:=nT (by omega);simp only[fB,j,d9,oB,aEf];unfold uP;rcases Nat.lt_or_ge u.length v.length with e|e
  ·have:=aDL hu hv tv e;rw[if_pos (by omega),if_pos this]
  ·have:=aDL hv hu tu (by omega);rw[if_neg (by omega),if_pos (by omega),if_neg (by omega),if_pos this]
theorem aCJ{x y:Int}(f:0≤x)(h:x<1000000000)(e:0≤y)(j:y<1000000000):0≤x*y∧x*y≤999999998000000001:=by
 refine⟨Int.mul_nonneg f e,?_⟩;have:x*y≤999999999*999999999:=Int.mul_le_mul (by omega) (by omega) e (by omega);omega
theorem W1(u:List Int)(j:Nat):W u j 1=u.getD j 0:=by simp[W,PB]
theorem W2(u:List Int)(j:Nat):W u j 2=u.getD j 0+u.getD (j+1) 0*1000000000:=by simp[W,PB]
theorem vD0:vD []=0:=rfl
theorem vD1(a:Int):vD [a]=a:=by show W _ 0 1=a;rw[W1];rfl
theorem vD2(a b:Int):vD [a,b]=a+b*1000000000:=by show W _ 0 2=_;rw[W2];rfl
theorem yS{u:List Int}(hu:kM u):mT u=some (if u.length≤2 then(vD u,true) else(0,false)):=by
 unfold mT;have h:=hu 0;have j:=hu 1
 match u,hu with
 |[],_=>simp[vD0]
 |[a],_=>
  have e:=cV (xs:=[a]) (i:=0) (by simp);simp only[Int.natCast_zero]at e;simp[e,vD1]
 |[a,b],_=>
  simp at h j;have e:=cV (xs:=[a,b]) (i:=0) (by simp);have f:=cV (xs:=[a,b]) (i:=1) (by simp);simp only[Int.natCast_zero,Int.natCast_one]at e f;have f1:aV (b*1000000000)=some (b*1000000000):=qB (by omega);have f2:aV (b*1000000000+a)=some (b*1000000000+a):=qB (by omega);simp[e,f,vD2,f1,f2];omega
 |a::b::c::t,_=>
  have k:(((a::b::c::t).length:Int)==0)=false:=qF (by simp;omega);have q:(((a::b::c::t).length:Int)==1)=false:=qF (by simp;omega);have s:(((a::b::c::t).length:Int)==2)=false:=qF (by simp;omega);simp only[k,q,s,eD];rw[if_neg (by simp)]
theorem aLF{x:Int}(e:0≤x)(f:x≤18446744073709551615):wu x=x:=IntWalk.u64_in x ⟨e,f⟩
theorem aKz{x y:Int}(e:0≤x)(f:0<y)(h:x≤18446744073709551615):uq x y=some (x/y):=by
 unfold uq;rw[if_neg (by omega),Int.tdiv_eq_ediv_of_nonneg e];have a:=Int.ediv_nonneg e (Int.le_of_lt f);have b:=Int.ediv_le_self y e;rw[aLF a (by omega)]
theorem aF6{n:Nat}(e:n≠0)(h:n<1000000000):bP n=[(n:Int)]:=by
 rw[sE e,show n/1000000000=0 by omega,vG,show n%1000000000=n by omega]
theorem o7(neg:Bool){n:Nat}(h:n≤18446744073709551615):eE neg (n:Int)=some (mkG neg n):=by
 unfold eE mkG;have i64:∀x:Int,0≤x→x≤9223372036854775807→IntKind.i64.wrap x=x:=fun x a b=>IntWalk.i64_in x ⟨by omega,b⟩
 by_cases e:n=0
 ·subst e;simp
 ·have k:((n:Int)==0)=false:=qF (by omega);rw[k,eD,if_neg e];by_cases q:n<1000000000
  ·rw[dT (by omega),d9,aF6 e q,i64 _ (by omega) (by omega)]
  ·rw[dF (by omega),eD,sE e];have f:uq (n:Int) 1000000000=some ((n:Int)/1000000000):=aKz (by omega) (by omega) (by omega);have j:wA (n:Int) 1000000000=some ((n:Int)%1000000000):=oV (by omega) (by omega);by_cases u:n<1000000000000000000
   ·rw[dT (by omega),d9];simp only[f,j,oB];rw[aF6 (n:=n/1000000000) (by omega) (by omega),i64 _ (by omega) (by omega),i64 _ (by omega) (by omega)];simp
   ·rw[dF (by omega),eD];have s:uq ((n:Int)/1000000000) 1000000000=some ((n:Int)/1000000000/1000000000):=aKz (by omega) (by omega) (by omega);have t:wA ((n:Int)/1000000000) 1000000000=some ((n:Int)/1000000000%1000000000):=oV (by omega) (by omega);simp only[f,j,s,t,oB];rw[sE (n:=n/1000000000) (by omega),aF6 (n:=n/1000000000/1000000000) (by omega) (by omega),i64 _ (by omega) (by omega),i64 _ (by omega) (by omega),i64 _ (by omega) (by omega)];simp
theorem aCL{n:Int}(h:-9223372036854775808≤n∧n≤9223372036854775807):kP n=some (Z n):=by
 unfold kP;by_cases f:n<0
 ·rw[dT f,d9];have e:wu (-(IntKind.u64.wrap n))=((-n).toNat:Int):=by
   show IntKind.u64.wrap (-(IntKind.u64.wrap n))=_;simp only[IntKind.wrap,IntKind.bits,IntKind.signed];simp;omega
  rw[e,o7 _ (by omega),oB,aGu];congr 2;omega
 ·rw[dF f,eD];have e:IntKind.u64.wrap n=((n.toNat:Nat):Int):=by rw[IntWalk.u64_in n (by omega)];omega
  rw[e,o7 _ (by omega),oB,l9];congr 2;omega
theorem Z_d(x:Int):(Z x).d=bP x.natAbs:=rfl
theorem sW(x:Int):(Z x).neg=decide (x<0):=rfl
theorem o6(x:Int):(Z x).d.length=dl x.natAbs:=rfl
theorem aHL(x:Int):qO (Z x)=some x.sign:=by
 unfold qO;rw[sW,o6];by_cases h:x<0
 ·rw[dT h,d9,Int.sign_eq_neg_one_of_neg h]
 ·rw[dF h,eD];by_cases f:x=0
  ·subst f;rw[show Int.natAbs 0=0 from rfl,uH];rfl
  ·have:dl x.natAbs≠0:=by rw[Ne,s5];omega
   have e:((dl x.natAbs:Int)==0)=false:=qF (by omega);rw[e,eD,Int.sign_eq_one_of_pos (by omega)]
theorem aGS(x:Int):oK (Z x)=some (Z (-x)):=by
 unfold oK;rw[sW,o6,Z_d];unfold Z;rw[Int.natAbs_neg];by_cases h:x<0
 ·have:dl x.natAbs≠0:=by rw[Ne,s5];omega
  rw[dT h,dF (p:=-x<0) (by omega)];rfl
 ·rw[dF h];simp only[Bool.not_false,d9];congr 2;by_cases e:x=0
  ·subst e;rw[show Int.natAbs 0=0 from rfl,uH];rfl
  ·have:dl x.natAbs≠0:=by rw[Ne,s5];omega
   rw[dT (by omega),dT (by omega)]
theorem aG3{x y:Int}(z:dl x.natAbs≤50000000000)(F:dl y.natAbs≤50000000000):Ev (fun K=>lS K (Z x) (Z y)) (Z (x+y)):=by
 have dx:=bT x.natAbs;have dy:=bT y.natAbs;have vx:=dX x.natAbs;have vy:=dX y.natAbs;have tx:=oJ x.natAbs;have ty:=oJ y.natAbs;have lx:(bP x.natAbs).length≤50000000000:=z;have ly:(bP y.natAbs).length≤50000000000:=F;unfold lS;simp only[Z_d,sW];by_cases hs:(decide (x<0)==decide (y<0))=true
 ·simp only[hs,d9];obtain⟨r,k,j,u,e⟩:=aFe dx dy (by omega) (by omega);have f:=tP (decide (x<0)) k (by omega);refine Ev.bind e (Ev.bind f ?_);rw[rF];have q:(x<0)↔(y<0):=by simpa using hs
  have:(if decide (x<0)=true then -(((vD r).toNat:Nat):Int) else(((vD r).toNat:Nat):Int))=x+y:=by
   by_cases h:x<0
   ·rw[if_pos (by simpa using h)];omega
   ·rw[if_neg (by simpa using h)];omega
  rw[this];exact Ev.pure _
 ·simp only[Bool.not_eq_true]at hs;simp only[hs,eD];have q:¬((x<0)↔(y<0)):=by simpa using hs
  refine Ev.bind (vH dx dy tx ty (by omega)) ?_;rw[vx,vy];unfold uP;by_cases hlt:x.natAbs<y.natAbs
  ·have hle:(bP x.natAbs).length≤(bP y.natAbs).length:=n9 (by omega);obtain⟨r,k,j,u,e⟩:=aBm dy dx hle (by omega) (by omega);have f:=tP (decide (y<0)) j (by omega);rw[if_pos (by omega)];refine Ev.congr (g:=fun K=>(k6 K (bP y.natAbs) (bP x.natAbs)).bind fun s=>(d6 K (decide (y<0)) s).bind fun t=>some t) ?_ (fun K=>rfl);refine Ev.bind e (Ev.bind f ?_);rw[rF];have:(if decide (y<0)=true then -(((vD r).toNat:Nat):Int) else(((vD r).toNat:Nat):Int))=x+y:=by
    by_cases h:y<0
    ·rw[if_pos (by simpa using h)];omega
    ·rw[if_neg (by simpa using h)];omega
   rw[this];exact Ev.pure _
  ·have hle:(bP y.natAbs).length≤(bP x.natAbs).length:=n9 (by omega);obtain⟨r,k,j,u,e⟩:=aBm dx dy hle (by omega) (by omega);have f:=tP (decide (x<0)) j (by omega);have hc:decide ((if(x.natAbs:Int)<y.natAbs then(-1:Int) else if(y.natAbs:Int)<x.natAbs then 1 else 0)<0)=false:=by
    rw[if_neg (by omega)];split<;>rfl
   simp only[hc,eD];refine Ev.bind e (Ev.bind f ?_);rw[rF];have:(if decide (x<0)=true then -(((vD r).toNat:Nat):Int) else(((vD r).toNat:Nat):Int))=x+y:=by
    by_cases h:x<0
    ·rw[if_pos (by simpa using h)];omega
    ·rw[if_neg (by simpa using h)];omega
   rw[this];exact Ev.pure _
theorem aJk{v:Int}(h:0≤v):0≤v/1000000000∧0≤v%1000000000∧v%1000000000<1000000000∧v%1000000000+1000000000*(v/1000000000)=v:=by omega
theorem aEV{out a:List Int}{i:Nat}{c c' k v:Int}(e:i<out.length)(f:W out 0 i+c*PB i=k*W a 0 i)(hv:v+1000000000*c'=a.getD i 0*k+c):
  W (out.set i v) 0 (i+1)+c'*PB (i+1)=k*W a 0 (i+1):=by
 rw[dG,dG,Nat.zero_add,dU e,t5 (.inr (by omega))];simp only[PB];grind
theorem aCE{a:List Int}{f:Int}(F:kM a)(e:0≤f)(h:f<1000000000)(I:a.length≤9000000000000):∀(t i:Nat) (out:List Int) (c:Int),i+t=a.length→out.length=a.length+1→Dr out 0 i→0≤c→c<1000000000→W out 0 i+c*PB i=f*W a 0 i→
  ∃out' c',out'.length=a.length+1∧Dr out' 0 a.length∧0≤c'∧c'<1000000000∧W out' 0 a.length+c'*PB a.length=f*vD a∧∀K k,t<k→iL K a f k out c (i:Int)=some (out',c')
 |0,i,out,c,J,u,x,j,q,y=>by
  have:i=a.length:=by omega
  subst this;refine⟨out,c,u,x,j,q,y,fun K k z=>?_⟩;obtain⟨G,rfl,_⟩:=cF z;simp[iL]
 |t+1,i,out,c,J,u,x,j,q,y=>by
  have s:=F i;have hm:=aCJ s.1 s.2 e h;obtain⟨d1,d2,d3,d4⟩:=aJk (v:=a.getD i 0*f+c) (by omega);have L:decide ((i:Int)<(a.length:Int))=true:=dT (by omega);have O:=cV (xs:=a) (i:=i) (by omega);have U:aV ((i:Int)+1)=some ((i+1:Nat):Int):=tK (m:=0) (by omega) (by omega);have V:=cV (xs:=out) (i:=i) (by omega);have e5:∀v,oZ out (i:Int) v=some (out.set i v):=fun v=>p7 (by omega)
  have e6:aV (a.getD i 0*f)=some (a.getD i 0*f):=qB (by omega);have e7:aV (a.getD i 0*f+c)=some (a.getD i 0*f+c):=qB (by omega);have e8:wA (a.getD i 0*f+c) 1000000000=some ((a.getD i 0*f+c)%1000000000):=oV (by omega) (by omega);have e9:vX (a.getD i 0*f+c) 1000000000=some ((a.getD i 0*f+c)/1000000000):=qL (by omega) (by omega) (by omega);obtain⟨o,d,h1,h2,h3,h4,h5,h6⟩:=aCE F e h I t (i+1) (out.set i ((a.getD i 0*f+c)%1000000000)) ((a.getD i 0*f+c)/1000000000) (by omega) (by simpa using u) (x0 x (by omega) (by omega) (by omega)) (by omega) (by omega) (aEV (by omega) y (by omega));refine⟨o,d,h1,h2,h3,h4,h5,fun K k z=>?_⟩;obtain⟨G,rfl,_⟩:=cF z;simp only[iL,L,O,U,V,e5,e6,e7,e8,e9,d9,oB];exact h6 K G (by omega)
theorem aB5{a:List Int}{f:Int}(s:kM a)(h:0≤f)(j:f<1000000000)(z:a.length≤60000000000):∃r,r.length=a.length+1∧kM r∧vD r=f*vD a∧Ev (fun K=>lN K a f) r:=by
 obtain⟨o,c,k,t,F,G,q,u⟩:=aCE s h j (by omega) a.length 0 (List.replicate (a.length+1) 0) 0 (by omega) (by simp) (aEi _ _ _) (by omega) (by omega) (by simp[W]);have x:aV ((a.length:Int)+1)=some ((a.length+1:Nat):Int):=tK (m:=0) (by omega) (by omega);have y:xU ((a.length+1:Nat):Int) (0:Int)=some (List.replicate (a.length+1) 0):=xC (by omega);refine⟨o.set a.length c,by simpa using k,Dr.ok ?_,?_,⟨a.length+1,fun K I=>?_⟩⟩
 ·rw[show(o.set a.length c).length=a.length+1 by simpa using k];exact x0 t (by omega) (by omega) (by omega)
 ·unfold vD at q ⊢;rw[show(o.set a.length c).length=a.length+1 by simpa using k,dG,Nat.zero_add,dU (by omega),t5 (.inr (by omega)),q]
 ·have e:=u K K (by omega);simp only[Int.natCast_zero]at e;simp only[lN,x,y,oB,e,n0,cV (xs:=o) (i:=a.length) (by omega),p7 (xs:=o) (i:=a.length) (v:=c) (by omega)]
theorem aAi(u:List Int)(j n:Nat):W u j (n+1)=u.getD j 0+1000000000*W u (j+1) n:=by
 rw[Nat.add_comm n 1,s0,W1,show PB 1=1000000000 from by decide]
theorem aC0{a:List Int}{b:Int}(U:kM a)(f:0<b)(z:b<1000000000)(hL:a.length≤9000000000000):∀(j:Nat) (q:List Int) (r:Int),j≤a.length→q.length=a.length→Dr q j (a.length-j)→0≤r→r<b→W a j (a.length-j)=b*W q j (a.length-j)+r→
  ∃h s,h.length=a.length∧kM h∧0≤s∧s<b∧vD a=b*vD h+s∧∀K k,j<k→jC K a b k q r ((j:Int)-1)=some (h,s)
 |0,q,r,hj,t,F,u,x,y=>by
  refine⟨q,r,t,Dr.ok (by rw[t];simpa using F),u,x,?_,fun K k G=>?_⟩
  ·simp only[Nat.sub_zero]at y;unfold vD;rw[t];exact y
  ·obtain⟨V,rfl,_⟩:=cF G;simp[jC]
 |j+1,q,r,hj,t,F,u,x,y=>by
  have ha':=U j;have e0:((j+1:Nat):Int)-1=(j:Int):=by omega
  have e1:decide (0≤(j:Int))=true:=dT (by omega);have e2:=cV (xs:=a) (i:=j) (by omega);have e3:aV ((j:Int)-1)=some ((j:Int)-1):=qB (by omega);have e4:=cV (xs:=q) (i:=j) (by omega);have e5:∀v,oZ q (j:Int) v=some (q.set j v):=fun v=>p7 (by omega)
  have e6:aV (r*1000000000)=some (r*1000000000):=qB (by omega);have e7:aV (r*1000000000+a.getD j 0)=some (r*1000000000+a.getD j 0):=qB (by omega);have e8:wA (r*1000000000+a.getD j 0) b=some ((r*1000000000+a.getD j 0)%b):=oV (by omega) f;have e9:vX (r*1000000000+a.getD j 0) b=some ((r*1000000000+a.getD j 0)/b):=qL (by omega) f (by omega);have I:0≤(r*1000000000+a.getD j 0)/b:=Int.ediv_nonneg (by omega) (by omega);have J:(r*1000000000+a.getD j 0)/b<1000000000:=Int.ediv_lt_of_lt_mul f (by
   have:(r+1)*1000000000≤b*1000000000:=Int.mul_le_mul_of_nonneg_right (by omega) (by omega);rw[Int.mul_comm 1000000000 b];omega)
  have L:=Int.emod_nonneg (r*1000000000+a.getD j 0) (show b≠0 by omega);have O:=Int.emod_lt_of_pos (r*1000000000+a.getD j 0) f;have hdm:=Int.mul_ediv_add_emod (r*1000000000+a.getD j 0) b;have es:a.length-j=(a.length-(j+1))+1:=by omega
  obtain⟨h,s,h1,h2,h3,h4,h5,h6⟩:=aC0 U f z hL j (q.set j ((r*1000000000+a.getD j 0)/b)) ((r*1000000000+a.getD j 0)%b) (by omega) (by simpa using t)
   (fun i hi=>by
    by_cases e:i=0
    ·subst e;rw[Nat.add_zero,dU (by omega)];exact⟨I,J⟩
    ·rw[eO (by omega)];have:=F (i-1) (by omega)
     rwa [show j+1+(i-1)=j+i by omega]at this) L O (by
    rw[es,aAi,aAi,dU (by omega),t5 (.inl (by omega)),y];grind)
  refine⟨h,s,h1,h2,h3,h4,h5,fun K k G=>?_⟩;obtain⟨V,rfl,_⟩:=cF G;rw[e0];simp only[jC,e1,e2,e3,e4,e5,e6,e7,e8,e9,d9,oB];exact h6 K V (by omega)
theorem aDp{a:List Int}{b:Int}(t:kM a)(e:0<b)(f:b<1000000000)(G:a.length≤60000000000):∃q r,q.length=a.length∧kM q∧vD q=vD a/b∧r=vD a%b∧Ev (fun K=>nW K a b) (q,r):=by
 obtain⟨q,r,u,x,j,k,s,y⟩:=aC0 t e f (by omega) a.length (List.replicate a.length 0) 0 (Nat.le_refl _) (by simp) (aEi _ _ _) (by omega) e (by simp[W]);have z:xU (a.length:Int) (0:Int)=some (List.replicate a.length 0):=xC (by omega);have F:aV ((a.length:Int)-1)=some ((a.length:Int)-1):=qB (by omega);refine⟨q,r,u,x,?_,?_,⟨a.length+1,fun K I=>?_⟩⟩
 ·rw[s,Int.add_comm,Int.add_mul_ediv_left _ _ (by omega),Int.ediv_eq_zero_of_lt j k,Int.zero_add]
 ·rw[s,Int.add_comm,Int.add_mul_emod_self_left,Int.emod_eq_of_lt j k]
 ·have h:=y K K (by omega);simp only[nW,z,F,oB,h,oS]
theorem aH9{out e b:List Int}{i k:Nat}{c c' f v:Int}(h:i+k<out.length)(j:W out i k+c*PB k=W e i k+f*W b 0 k)(hv:v+1000000000*c'=e.getD (i+k) 0+f*b.getD k 0+c):
  W (out.set (i+k) v) i (k+1)+c'*PB (k+1)=W e i (k+1)+f*W b 0 (k+1):=by
 rw[dG,dG,dG,dU h,t5 (.inr (by omega)),Nat.zero_add];simp only[PB];grind
structure aD2 (o0 b:List Int) (i:Nat) (f:Int) (out:List Int) (c:Int) (k:Nat):Prop where
 len:out.length=o0.length
 ok:kM out
 c0:0≤c
 c1:c<1000000000
 same:∀s,s<i∨i+k≤s→out.getD s 0=o0.getD s 0
 val:W out i k+c*PB k=W o0 i k+f*W b 0 k
theorem kM.set{u:List Int}{i:Nat}{v:Int}(h:kM u)(e:0≤v)(f:v<1000000000):kM (u.set i v):=fun t=>by
 rw[wF];split
 ·exact⟨e,f⟩
 ·exact h t
theorem aD2.step{j b out:List Int}{i k:Nat}{f c:Int}(h:aD2 j b i f out c k)(x:i+k<j.length)(q:0≤f)(t:f<1000000000)(hb:kM b):
  0≤out.getD (i+k) 0+f*b.getD k 0+c∧out.getD (i+k) 0+f*b.getD k 0+c≤999999999999999999∧0≤f*b.getD k 0∧f*b.getD k 0≤999999998000000001∧0≤out.getD (i+k) 0∧out.getD (i+k) 0<1000000000∧
  aD2 j b i f (out.set (i+k) ((out.getD (i+k) 0+f*b.getD k 0+c)%1000000000)) ((out.getD (i+k) 0+f*b.getD k 0+c)/1000000000) (k+1):=by
 have e:=hb k;have hm:=aCJ q t e.1 e.2;have u:=h.ok (i+k);have c0:=h.c0;have c1:=h.c1;obtain⟨d1,d2,d3,d4⟩:=aJk (v:=out.getD (i+k) 0+f*b.getD k 0+c) (by omega);have he:=h.same (i+k) (.inr (Nat.le_refl _));refine⟨by omega,by omega,hm.1,hm.2,u.1,u.2,by simpa using h.len,h.ok.set d2 d3,d1,by omega,fun s hs=>?_,by exact aH9 (by have:=h.len;omega) h.val (by omega)⟩;rw[eO (by omega)];exact h.same s (by omega)
theorem aF4{q:List Int}{y:aF}{i:Nat}{f:Int}(hb:kM y.d)(h:0≤f)(j:f<1000000000)(G:i+y.d.length≤q.length)(I:q.length≤9000000000000):∀(t k:Nat) (out:List Int) (c:Int),k+t=y.d.length→aD2 q y.d i f out c k→
  ∃out' c',aD2 q y.d i f out' c' y.d.length∧∀K n,t<n→f7 K y (i:Int) f n out c (k:Int)=some (out',c')
 |0,k,out,c,J,e=>by
  have:k=y.d.length:=by omega
  subst this;refine⟨out,c,e,fun K n s=>?_⟩;obtain⟨F,rfl,_⟩:=cF s;simp[f7]
 |t+1,k,out,c,J,e=>by
  obtain⟨g1,g2,g3,g4,g5,g6,L⟩:=e.step (by omega) h j hb;have c0:=e.c0;have c1:=e.c1;have hlo:=e.len;generalize hv:out.getD (i+k) 0+f*y.d.getD k 0+c=v at *;have O:decide ((k:Int)<(y.d.length:Int))=true:=dT (by omega);have U:=cV (xs:=y.d) (i:=k) (by omega);have V:aV ((k:Int)+1)=some ((k+1:Nat):Int):=tK (m:=0) (by omega) (by omega);have e4:aV ((i:Int)+(k:Int))=some ((i+k:Nat):Int):=tK (m:=0) (by omega) (by omega);have e5:=cV (xs:=out) (i:=i+k) (by omega);have e6:aV (f*y.d.getD k 0)=some (f*y.d.getD k 0):=qB (by omega);have e7:aV (out.getD (i+k) 0+f*y.d.getD k 0)=some (out.getD (i+k) 0+f*y.d.getD k 0):=qB (by omega);have e8:aV (out.getD (i+k) 0+f*y.d.getD k 0+c)=some v:=by rw[hv];exact qB (by omega)
  have e9:vX v 1000000000=some (v/1000000000):=qL (by omega) (by omega) (by omega);have u:aV (v/1000000000*1000000000)=some (v/1000000000*1000000000):=qB (by omega);have x:aV (v-v/1000000000*1000000000)=some (v%1000000000):=by
   rw[show v-v/1000000000*1000000000=v%1000000000 by omega];exact qB (by omega)
  have z:oZ out ((i+k:Nat):Int) (v%1000000000)=some (out.set (i+k) (v%1000000000)):=p7 (by omega);obtain⟨o,d,h1,h2⟩:=aF4 hb h j G I t (k+1) _ _ (by omega) L;refine⟨o,d,h1,fun K n s=>?_⟩;obtain⟨F,rfl,_⟩:=cF s;simp only[f7,O,U,V,e4,e5,e6,e7,e8,e9,u,x,z,d9,oB];exact h2 K F (by omega)
structure aBs (a b out:List Int) (i:Nat):Prop where
 len:out.length=a.length+b.length
 ok:kM out
 zero:∀s,i+b.length≤s→out.getD s 0=0
 val:W out 0 (i+b.length)=W a 0 i*vD b
theorem aBs.start(a b:List Int):aBs a b (List.replicate (a.length+b.length) 0) 0 where
 len:=by simp
 ok:=fun i=>by simp only[List.getD_eq_getElem?_getD,List.getElem?_replicate];split<;>simp
 zero:=fun s _=>by simp only[List.getD_eq_getElem?_getD,List.getElem?_replicate];split<;>simp
 val:=by
  rw[aBI]
  ·simp[W]
  ·intro i _;simp only[List.getD_eq_getElem?_getD,List.getElem?_replicate];split<;>simp
theorem aBs.row{a b out:List Int}{i:Nat}(h:aBs a b out i):aD2 out b i (a.getD i 0) out 0 0 where
 len:=rfl
 ok:=h.ok
 c0:=Int.le_refl _
 c1:=by decide
 same:=fun _ _=>rfl
 val:=by simp[W]
theorem aBs.next{a b out out':List Int}{i:Nat}{c:Int}(h:aBs a b out i)(j:i<a.length)(hr:aD2 out b i (a.getD i 0) out' c b.length):aBs a b (out'.set (i+b.length) c) (i+1) where
 len:=by simpa using hr.len.trans h.len
 ok:=hr.ok.set hr.c0 hr.c1
 zero:=fun s hs=>by
  rw[eO (by omega),hr.same s (by omega)];exact h.zero s (by omega)
 val:=by
  have hlen:=hr.len.trans h.len;rw[show i+1+b.length=(i+b.length)+1 by omega,dG,Nat.zero_add,dU (by omega),t5 (.inr (by omega)),s0,dG,Nat.zero_add];have k:=hr.val;have e:=h.val;rw[s0,Nat.zero_add]at e;have f:W out' 0 i=W out 0 i:=aAH fun s hs=>by
   rw[Nat.zero_add];exact hr.same s (.inl hs)
  rw[f,yK];unfold vD at *;grind
theorem aGe{x y:aF}(j:kM x.d)(hb:kM y.d)(u:x.d.length+y.d.length≤9000000000000):∀(t i:Nat) (out:List Int),i+t=x.d.length→aBs x.d y.d out i→
  ∃out',aBs x.d y.d out' x.d.length∧sB (fun K k=>fD K x y k out (i:Int)) out'
 |0,i,out,z,e=>by
  have:i=x.d.length:=by omega
  subst this;refine⟨out,e,sB.of 1 fun K n F=>?_⟩;obtain⟨n',rfl,_⟩:=cF (n:=0) F;simp[fD]
 |t+1,i,out,z,e=>by
  have h:=j i;have hlo:=e.len;obtain⟨o,c,q,G⟩:=aF4 hb h.1 h.2 (by omega) (by omega) y.d.length 0 out 0 (by omega) e.row;have s:=q.len;obtain⟨r,I,J⟩:=aGe j hb u t (i+1) _ (by omega) (e.next (by omega) q);refine⟨r,I,sB.step ?_⟩;have L:decide ((i:Int)<(x.d.length:Int))=true:=dT (by omega);have O:=cV (xs:=x.d) (i:=i) (by omega);have U:aV ((i:Int)+1)=some ((i+1:Nat):Int):=tK (m:=0) (by omega) (by omega);have V:aV ((i:Int)+(y.d.length:Int))=some ((i+y.d.length:Nat):Int):=tK (m:=0) (by omega) (by omega);have e5:=cV (xs:=o) (i:=i+y.d.length) (by omega);have e6:oZ o ((i+y.d.length:Nat):Int) c=some (o.set (i+y.d.length) c):=p7 (by omega);simp only[fD,L,O,d9,oB];refine sB.bind (x:=(o,c)) (f:=fun K=>f7 K y (i:Int) (x.d.getD i 0) K out 0 0) ⟨y.d.length+1,fun K hK=>G K K (by omega)⟩ ?_;simp only[n5,U,V,e5,e6,oB];exact J
theorem aDz(x y:Int):(if(decide (x<0) != decide (y<0))=true then -((x.natAbs:Int)*y.natAbs) else(x.natAbs:Int)*y.natAbs)=x*y:=by
 by_cases e:x<0<;>by_cases f:y<0
 ·rw[dT e,dT f,show(x.natAbs:Int)=-x by omega,show(y.natAbs:Int)=-y by omega];simp[Int.neg_mul_neg]
 ·rw[dT e,dF f,show(x.natAbs:Int)=-x by omega,show(y.natAbs:Int)=y by omega];simp[Int.neg_mul]
 ·rw[dF e,dT f,show(x.natAbs:Int)=x by omega,show(y.natAbs:Int)=-y by omega];simp[Int.mul_neg]
 ·rw[dF e,dF f,show(x.natAbs:Int)=x by omega,show(y.natAbs:Int)=y by omega];simp
theorem aHN{x y:Int}(z:dl x.natAbs+dl y.natAbs≤60000000000):Ev (fun K=>(aV (((Z x).d.length:Int)+((Z y).d.length:Int))).bind fun f=>(xU f 0).bind fun h=>(fD K (Z x) (Z y) K h 0).bind fun j=>nX K (Z x) (Z y) j) (Z (x*y)):=by
 have dx:=bT x.natAbs;have dy:=bT y.natAbs;have lx:(bP x.natAbs).length=dl x.natAbs:=rfl;have ly:(bP y.natAbs).length=dl y.natAbs:=rfl;obtain⟨r,e,k⟩:=aGe (x:=Z x) (y:=Z y) dx dy (by rw[o6,o6];omega) (Z x).d.length 0 _ (by omega) (aBs.start _ _);have q:aV (((Z x).d.length:Int)+((Z y).d.length:Int))=some (((Z x).d.length+(Z y).d.length:Nat):Int):=tK (m:=0) (by omega) (by rw[o6,o6];omega);have s:xU (((Z x).d.length+(Z y).d.length:Nat):Int) (0:Int)=some (List.replicate ((Z x).d.length+(Z y).d.length) 0):=xC (by rw[o6,o6];omega);simp only[q,s,oB];refine Ev.bind k.ev ?_;have t:=tP ((Z x).neg != (Z y).neg) e.ok (by rw[e.len,o6,o6];omega);unfold nX;refine Ev.bind t ?_;have hv:vD r=x.natAbs*y.natAbs:=by
  have:=e.val;rw[←e.len]at this;have vx:=dX x.natAbs;have vy:=dX y.natAbs;unfold vD at *;rw[this];show W (bP x.natAbs) 0 (bP x.natAbs).length*W (bP y.natAbs) 0 (bP y.natAbs).length=_;rw[vx,vy]
 rw[rF,sW,sW,hv];have:(if(decide (x<0) != decide (y<0))=true then -((((x.natAbs:Int)*y.natAbs).toNat:Nat):Int) else((((x.natAbs:Int)*y.natAbs).toNat:Nat):Int))=x*y:=by
  have u:0≤(x.natAbs:Int)*y.natAbs:=Int.mul_nonneg (by omega) (by omega);rw[Int.toNat_of_nonneg u];exact aDz x y
 rw[this];exact Ev.pure _
theorem aDb(K:Nat)(y:aF)(x v:Int):∀(k:Nat) (s:List Int) (c i:Int),lL K y x v k s c i=f7 K y x v k s c i
 |0,_,_,_=>rfl
 |k+1,s,c,i=>by simp only[lL,f7,aDb K y x v k]
theorem aDt(K:Nat)(x y:aF):∀(k:Nat) (s:List Int) (i:Int),kB K x y k s i=fD K x y k s i
 |0,_,_=>rfl
 |k+1,s,i=>by simp only[kB,fD,pN,n5,aDb,aDt K x y k]
theorem xS{n:Nat}(h:(bP n).length=1):(bP n).getD 0 0=n∧n<1000000000:=by
 have e:=dX n;unfold vD at e;rw[h,W1]at e;have:=bT n 0;omega
theorem vM{x y:Int}(q:dl x.natAbs+dl y.natAbs≤60000000000):Ev (fun K=>bL K (Z x) (Z y)) (Z (x*y)):=by
 have hc:=aHN q;unfold bL;by_cases s:(Z x).d.length=1
 ·have j:(((Z x).d.length:Int)==1)=true:=qT (by omega);simp only[j,d9];by_cases t:(Z y).d.length=1
  ·have e:(((Z y).d.length:Int)==1)=true:=qT (by omega);obtain⟨a1,a2⟩:=xS s;obtain⟨u,b2⟩:=xS t;have f:=cV (xs:=(Z x).d) (i:=0) (by omega);have h:=cV (xs:=(Z y).d) (i:=0) (by omega);simp only[Int.natCast_zero]at f h;rw[Z_d]at f h;rw[a1]at f;rw[u]at h;have hb:=aCJ (x:=(x.natAbs:Int)) (y:=(y.natAbs:Int)) (by omega) (by omega) (by omega) (by omega);have z:wu (IntKind.u64.wrap (x.natAbs:Int)*IntKind.u64.wrap (y.natAbs:Int))=((x.natAbs*y.natAbs:Nat):Int):=by
    rw[IntWalk.u64_in _ ⟨by omega,by omega⟩,IntWalk.u64_in _ ⟨by omega,by omega⟩,aLF hb.1 (by omega),Int.natCast_mul]
   have k:x.natAbs*y.natAbs≤18446744073709551615:=by
    have:((x.natAbs*y.natAbs:Nat):Int)=x.natAbs*y.natAbs:=Int.natCast_mul _ _;omega
   refine Ev.of fun K=>?_
   rw[Z_d]at e;simp only[e,d9,f,h,Z_d,sW,oB,z,o7 _ k];rw[rF];congr 2;rw[Int.natCast_mul];exact aDz x y
  ·have e:(((Z y).d.length:Int)==1)=false:=qF (by omega);simp only[e,eD];exact hc
 ·have j:(((Z x).d.length:Int)==1)=false:=qF (by omega);simp only[j,eD,aDt];exact hc
/-- The guess is too great. -/
theorem aE0{P V X Y w Q g:Int}(t:0<P)(e:X*P≤V)(j:w<(Y+1)*P)(k:Q*V≤w)(q:0≤g)(h:Y+1≤g*X)(s:0≤V):Q<g:=by
 rcases Int.lt_or_le Q g with f|f
 ·exact f
 ·exfalso;have a:g*V≤Q*V:=Int.mul_le_mul_of_nonneg_right f s;have b:(Y+1)*P≤g*X*P:=Int.mul_le_mul_of_nonneg_right h (by omega);have c:g*(X*P)≤g*V:=Int.mul_le_mul_of_nonneg_left e q;rw[Int.mul_assoc]at b;omega
theorem aEC{P V X Y w Q g:Int}(t:0<P)(j:V<(X+1)*P)(k:Y*P≤w)(q:w<(Q+1)*V)(u:g≤X)(h:g*X≤Y)(x:0≤Q)(s:0≤V):g≤Q+1:=by
 rcases Int.lt_or_le (Q+1) g with f|f
 ·exfalso;have a:(Q+1)*V≤(g-1)*V:=Int.mul_le_mul_of_nonneg_right (by omega) s;have b:(g-1)*V≤(g-1)*((X+1)*P):=Int.mul_le_mul_of_nonneg_left (by omega) (by omega);have c:g*X*P≤Y*P:=Int.mul_le_mul_of_nonneg_right h (by omega);have d:(g-1)*((X+1)*P)=g*X*P+(g-X-1)*P:=by grind
  have e:(g-X-1)*P≤(-1)*P:=Int.mul_le_mul_of_nonneg_right (by omega) (by omega);omega
 ·exact f
theorem q9{a b c:Int}(hc:0<c)(h:a*c<b*c):a<b:=Int.lt_of_mul_lt_mul_right h (by omega)
theorem aCZ{b v u:List Int}{N j:Nat}{P V w Q v1 v2 e top:Int}(hb:b.length=N+2)(hb2:b.length≤9000000000000)(hvl:v.length=N+2)(huj:j+N<u.length)(hj:j≤9000000000000)(e1:v.getD (N+1) 0=v1)(e2:v.getD N 0=v2)(e3:u.getD (j+N) 0=e)
  (I:0<P)(hV:0≤V)(hv1:500000000≤v1)(J:v1<1000000000)(s:0≤v2)(f:v2<1000000000)(hu2:0≤e)(L:e<1000000000)
  (O:(v1*1000000000+v2)*P≤V)(t:V<(v1*1000000000+v2+1)*P)(z:(top*1000000000+e)*P≤w)(U:w<(top*1000000000+e+1)*P)(hwV:w<V*1000000000)(hQ:0≤Q)(hQ1:Q*V≤w)(F:w<(Q+1)*V):
  ∀(n:Nat) (g r:Int),0≤r→r<1000000000→1000000000≤r+n*500000000→g*v1+r=top→Q≤g→g≤1000000001→
  ∃g',(Q≤g'∧g'≤Q+1∧g'<1000000000)∧∀K k,n<k→dW K b v u (j:Int) k g r=some g'
 |0,g,r,h0,h1,h2,_,_,_=>by omega
 |n+1,g,r,h0,h1,h2,h3,h4,h5=>by
  have QB:Q<1000000000:=by
   have G:0<V:=by
    rcases Int.lt_or_le 0 V with h|h
    ·exact h
    ·have:V=0:=by omega
     subst this;omega
   exact q9 G (by rw[Int.mul_comm 1000000000 V];omega)
  have htop:top≤v1*1000000000+v2:=by
   have t1:(top*1000000000)*P≤(top*1000000000+e)*P:=Int.mul_le_mul_of_nonneg_right (by omega) (by omega);have t2:(top*1000000000)*P<((v1*1000000000+v2+1)*1000000000)*P:=by
    have:(v1*1000000000+v2+1)*1000000000*P=(v1*1000000000+v2+1)*P*1000000000:=by grind
    rw[this];omega
   have t3:=q9 I t2;omega
  have c0:aV ((b.length:Int)-1)=some ((N+1:Nat):Int):=tK (m:=0) (by omega) (by omega);have c1:=cV (xs:=v) (i:=N+1) (by omega);rw[e1]at c1;have c2:aV ((b.length:Int)-2)=some ((N:Nat):Int):=tK (m:=0) (by omega) (by omega);have c3:=cV (xs:=v) (i:=N) (by omega);rw[e2]at c3;have c4:aV ((j:Int)+(b.length:Int))=some ((j+N+2:Nat):Int):=tK (m:=0) (by omega) (by omega);have c5:aV (((j+N+2:Nat):Int)-2)=some ((j+N:Nat):Int):=tK (m:=0) (by omega) (by omega);have c6:=cV (xs:=u) (i:=j+N) huj;rw[e3]at c6;have c7:aV (r+v1)=some (r+v1):=qB (by omega);have c8:aV (g-1)=some (g-1):=qB (by omega);have less:Q<g→∃g',(Q≤g'∧g'≤Q+1∧g'<1000000000)∧∀K k,n<k→(bif decide (1000000000≤r+v1) then some (g-1) else dW K b v u (j:Int) k (g-1) (r+v1))=some g':=by
   intro hlt;have h3':(g-1)*v1+(r+v1)=top:=by rw[Int.sub_mul];omega
   by_cases hr:1000000000≤r+v1
   ·have hg1:(g-1)*v1<1000000000*v1:=by omega
    have hg2:g-1<1000000000:=q9 (by omega) hg1;have hg3:(g-1)*(v1*1000000000+v2)≤top*1000000000+e:=by
     have m1:(g-1)*v2≤999999999*999999999:=Int.mul_le_mul (by omega) (by omega) s (by omega);have m2:(g-1)*(v1*1000000000+v2)=((g-1)*v1)*1000000000+(g-1)*v2:=by grind
     rw[m2];omega
    refine⟨g-1,⟨by omega,aEC I t z F (by omega) hg3 hQ hV,hg2⟩,fun K k q=>?_⟩;rw[dT hr,d9]
   ·obtain⟨g',i1,i2⟩:=aCZ hb hb2 hvl huj hj e1 e2 e3 I hV hv1 J s f hu2 L O t z U hwV hQ hQ1 F n (g-1) (r+v1) (by omega) (by omega) (by omega) h3' (by omega) (by omega);refine⟨g',i1,fun K k q=>?_⟩;rw[dF hr,eD];exact i2 K k q
  by_cases hg:1000000000≤g
  ·obtain⟨g',i1,i2⟩:=less (by omega);refine⟨g',i1,fun K k q=>?_⟩;obtain⟨k',rfl,_⟩:=cF q;simp only[dW,dT hg,d9,oB,c0,c1,c7,c8];exact i2 K k' (by omega)
  ·have m:=aCJ (x:=g) (y:=v2) (by omega) (by omega) s f;have c9:aV (g*v2)=some (g*v2):=qB (by omega);have c10:aV (r*1000000000)=some (r*1000000000):=qB (by omega);have c11:aV (r*1000000000+e)=some (r*1000000000+e):=qB (by omega);have m2:g*(v1*1000000000+v2)=(g*v1)*1000000000+g*v2:=by grind
   by_cases hc:r*1000000000+e<g*v2
   ·obtain⟨g',i1,i2⟩:=less (aE0 I O U hQ1 (by omega) (by rw[m2];omega) hV);refine⟨g',i1,fun K k q=>?_⟩;obtain⟨k',rfl,_⟩:=cF q;simp only[dW,dF hg,eD,d9,oB,c0,c1,c2,c3,c4,c5,c6,c7,c8,c9,c10,c11,dT hc];exact i2 K k' (by omega)
   ·refine⟨g,⟨h4,aEC I t z F (by omega) (by rw[m2];omega) hQ hV,by omega⟩,fun K k q=>?_⟩;obtain⟨k',rfl,_⟩:=cF q;simp only[dW,dF hg,eD,oB,c2,c3,c4,c5,c6,c9,c10,c11,dF hc]
structure aI3 (u0 v:List Int) (j:Nat) (g:Int) (u:List Int) (c:Int) (i:Nat):Prop where
 len:u.length=u0.length
 ok:kM u
 c0:0≤c
 c1:c<1000000000
 same:∀s,s<j∨j+i≤s→u.getD s 0=u0.getD s 0
 val:W u j i-c*PB i=W u0 j i-g*W v 0 i
theorem aI3.step{u0 v u:List Int}{j i:Nat}{g c x c':Int}(h:aI3 u0 v j g u c i)(t:j+i<u0.length)(e:0≤x)(f:x<1000000000)(k:0≤c')(q:c'<1000000000)(hv:x=u.getD (j+i) 0-g*v.getD i 0-c+c'*1000000000):aI3 u0 v j g (u.set (j+i) x) c' (i+1) where
 len:=by simpa using h.len
 ok:=h.ok.set e f
 c0:=k
 c1:=q
 same:=fun s hs=>by rw[eO (by omega)];exact h.same s (by omega)
 val:=by
  have hlen:=h.len;have hs:=h.same (j+i) (.inr (Nat.le_refl _));have hval:=h.val;rw[dG,dG,dG,dU (by omega),t5 (.inr (by omega)),Nat.zero_add];simp only[PB];rw[hs]at hv;grind
theorem aBp{b v u0:List Int}{j:Nat}{g:Int}(f:0≤g)(h:g<1000000000)(hv:kM v)(hvl:b.length≤v.length)(I:j+b.length≤u0.length)(J:u0.length≤9000000000000):∀(t i:Nat) (u:List Int) (c:Int),i+t=b.length→aI3 u0 v j g u c i→
  ∃q c',aI3 u0 v j g q c' b.length∧∀K k,t<k→eV K b v (j:Int) g k u c (i:Int)=some (q,c')
 |0,i,u,c,hi,e=>by
  have:i=b.length:=by omega
  subst this;refine⟨u,c,e,fun K k s=>?_⟩;obtain⟨y,rfl,_⟩:=cF s;simp[eV]
 |t+1,i,u,c,hi,e=>by
  have hlen:=e.len;have c0:=e.c0;have c1:=e.c1;have hu:=e.ok (j+i);have hvi:=hv i;have m:=aCJ f h hvi.1 hvi.2;have L:decide ((i:Int)<(b.length:Int))=true:=dT (by omega);have O:aV ((i:Int)+(j:Int))=some ((j+i:Nat):Int):=tK (m:=0) (by omega) (by omega);have U:=cV (xs:=u) (i:=j+i) (by omega);have V:=cV (xs:=v) (i:=i) (by omega);have e5:aV (g*v.getD i 0)=some (g*v.getD i 0):=qB (by omega);have e6:aV (u.getD (j+i) 0-g*v.getD i 0)=some (u.getD (j+i) 0-g*v.getD i 0):=qB (by omega);have e8:aV ((i:Int)+1)=some ((i+1:Nat):Int):=tK (m:=0) (by omega) (by omega);have e9:∀x,oZ u ((j+i:Nat):Int) x=some (u.set (j+i) x):=fun x=>p7 (by omega)
  obtain⟨z,hz⟩:∃z,u.getD (j+i) 0-g*v.getD i 0-c=z:=⟨_,rfl⟩;have e7:aV (u.getD (j+i) 0-g*v.getD i 0-c)=some z:=by rw[hz];exact qB (by omega)
  by_cases hneg:z<0
  ·have f1:aV (-z)=some (-z):=qB (by omega);have f2:aV (-z+1000000000)=some (-z+1000000000):=qB (by omega);have f3:aV (-z+1000000000-1)=some (-z+1000000000-1):=qB (by omega);have f4:vX (-z+1000000000-1) 1000000000=some ((-z+1000000000-1)/1000000000):=qL (by omega) (by omega) (by omega);have f5:aV ((-z+1000000000-1)/1000000000*1000000000)=some ((-z+1000000000-1)/1000000000*1000000000):=qB (by omega);have f6:aV (z+(-z+1000000000-1)/1000000000*1000000000)=some (z+(-z+1000000000-1)/1000000000*1000000000):=qB (by omega);obtain⟨q,c',F,G⟩:=aBp f h hv hvl I J t (i+1) _ _ (by omega) (e.step (x:=z+(-z+1000000000-1)/1000000000*1000000000) (c':=(-z+1000000000-1)/1000000000) (by omega) (by omega) (by omega) (by omega) (by omega) (by omega));refine⟨q,c',F,fun K k s=>?_⟩;obtain⟨y,rfl,_⟩:=cF s;simp only[eV,L,O,U,V,e5,e6,e7,e8,e9,f1,f2,f3,f4,f5,f6,dT hneg,d9,oB];exact G K y (by omega)
  ·obtain⟨q,c',F,G⟩:=aBp f h hv hvl I J t (i+1) _ _ (by omega) (e.step (x:=z) (c':=0) (by omega) (by omega) (by omega) (by omega) (by omega) (by omega));refine⟨q,c',F,fun K k s=>?_⟩;obtain⟨y,rfl,_⟩:=cF s;simp only[eV,L,O,U,V,e5,e6,e7,e8,e9,dF hneg,d9,eD,oB];exact G K y (by omega)
structure aFi (u0 v:List Int) (j:Nat) (u:List Int) (c:Int) (i:Nat):Prop where
 len:u.length=u0.length
 ok:∀s,s<j+v.length→0≤u.getD s 0∧u.getD s 0<1000000000
 c0:0≤c
 c1:c≤1
 same:∀s,s<j∨j+i≤s→u.getD s 0=u0.getD s 0
 val:W u j i+c*PB i=W u0 j i+W v 0 i
theorem aFi.step{u0 v u:List Int}{j i:Nat}{c x c':Int}(h:aFi u0 v j u c i)(t:j+i<u0.length)(e:0≤x)(f:x<1000000000)(k:0≤c')(q:c'≤1)(hv:x+c'*1000000000=u.getD (j+i) 0+v.getD i 0+c):aFi u0 v j (u.set (j+i) x) c' (i+1) where
 len:=by simpa using h.len
 ok:=fun s hs=>by
  rw[wF];split
  ·exact⟨e,f⟩
  ·exact h.ok s hs
 c0:=k
 c1:=q
 same:=fun s hs=>by rw[eO (by omega)];exact h.same s (by omega)
 val:=by
  have hlen:=h.len;have hs:=h.same (j+i) (.inr (Nat.le_refl _));have hval:=h.val;rw[dG,dG,dG,dU (by omega),t5 (.inr (by omega)),Nat.zero_add];simp only[PB];rw[hs]at hv;grind
theorem aDu{b v u0:List Int}{j:Nat}(hv:kM v)(hvl:b.length=v.length)(y:j+b.length≤u0.length)(z:u0.length≤9000000000000):∀(t i:Nat) (u:List Int) (c:Int),i+t=b.length→aFi u0 v j u c i→
  ∃f c',aFi u0 v j f c' b.length∧∀K k,t<k→gV K b v (j:Int) k u c (i:Int)=some (f,c')
 |0,i,u,c,F,e=>by
  have:i=b.length:=by omega
  subst this;refine⟨u,c,e,fun K k h=>?_⟩;obtain⟨s,rfl,_⟩:=cF h;simp[gV]
 |t+1,i,u,c,F,e=>by
  have hlen:=e.len;have c0:=e.c0;have c1:=e.c1;have hu:=e.ok (j+i) (by omega);have hvi:=hv i;have G:decide ((i:Int)<(b.length:Int))=true:=dT (by omega);have I:aV ((i:Int)+(j:Int))=some ((j+i:Nat):Int):=tK (m:=0) (by omega) (by omega);have J:=cV (xs:=u) (i:=j+i) (by omega);have L:=cV (xs:=v) (i:=i) (by omega);have O:aV (u.getD (j+i) 0+v.getD i 0)=some (u.getD (j+i) 0+v.getD i 0):=qB (by omega);have U:aV (u.getD (j+i) 0+v.getD i 0+c)=some (u.getD (j+i) 0+v.getD i 0+c):=qB (by omega);have V:wA (u.getD (j+i) 0+v.getD i 0+c) 1000000000=some ((u.getD (j+i) 0+v.getD i 0+c)%1000000000):=oV (by omega) (by omega);have e9:vX (u.getD (j+i) 0+v.getD i 0+c) 1000000000=some ((u.getD (j+i) 0+v.getD i 0+c)/1000000000):=qL (by omega) (by omega) (by omega);have e8:aV ((i:Int)+1)=some ((i+1:Nat):Int):=tK (m:=0) (by omega) (by omega);have q:∀x,oZ u ((j+i:Nat):Int) x=some (u.set (j+i) x):=fun x=>p7 (by omega)
  obtain⟨f,c',h1,h2⟩:=aDu hv hvl y z t (i+1) _ _ (by omega) (e.step (x:=(u.getD (j+i) 0+v.getD i 0+c)%1000000000) (c':=(u.getD (j+i) 0+v.getD i 0+c)/1000000000) (by omega) (by omega) (by omega) (by omega) (by omega) (by omega));refine⟨f,c',h1,fun K k h=>?_⟩;obtain⟨s,rfl,_⟩:=cF h;simp only[gV,G,I,J,L,O,U,V,e8,e9,q,d9,oB];exact h2 K s (by omega)
structure aDh (m n:Nat) (v:List Int) (S:Int) (q u:List Int) (J:Nat):Prop where
 ql:q.length=m-n+1
 ul:u.length=m+1
 uok:kM u
 qok:∀s,J≤s→0≤q.getD s 0∧q.getD s 0<1000000000
 lt:vD u<vD v*PB J
 val:S=vD v*(PB J*W q J (m-n+1-J))+vD u
theorem aFw{u:List Int}{k c:Nat}(hu:kM u)(h:W u 0 (k+c)<PB k):W u 0 (k+c)=W u 0 k:=by
 rw[s0]at h ⊢;have f:=(wV (hu.dr 0 k)).1;have j:=(wV (hu.dr (0+k) c)).1;have hp:=oU k;rcases Int.lt_or_le 0 (W u (0+k) c) with e|e
 ·have:PB k*1≤PB k*W u (0+k) c:=Int.mul_le_mul_of_nonneg_left e (by omega);omega
 ·have:W u (0+k) c=0:=by omega
  rw[this];simp
theorem aDh.next{m n j:Nat}{v q u f:List Int}{S Q w:Int}(h:aDh m n v S q u (j+1))(hj:j+1≤m-n+1)(hnm:n≤m)(hv:kM v)(hvl:v.length=n)(hw:W u j (n+1)=w)(L:0≤Q)(t:Q<1000000000)(O:Q*vD v≤w)(y:w<(Q+1)*vD v)
  (z:f.length=m+1)(U:kM f)(G:∀s,s<j∨j+n<s→f.getD s 0=u.getD s 0)(V:W f j (n+1)=w-Q*vD v):aDh m n v S (q.set j Q) f j:=by
 have I:=hv.lt;rw[hvl]at I;have J:W u 0 (m+1)=W u 0 j+PB j*w:=by
  have hlt:=h.lt;unfold vD at hlt I;rw[h.ul]at hlt;have hb:W v 0 v.length*PB (j+1)≤PB n*PB (j+1):=Int.mul_le_mul_of_nonneg_right (by omega) (by have:=oU (j+1);omega);rw[←yK,show n+(j+1)=j+(n+1) by omega]at hb;obtain⟨c,hc⟩:∃c,m+1=(j+(n+1))+c:=⟨m-j-n,by omega⟩;rw[hc]at hlt ⊢;rw[aFw h.uok (by omega),s0,Nat.zero_add,hw]
 have k:W f 0 (m+1)=W u 0 j+PB j*(w-Q*vD v):=by
  obtain⟨c,hc⟩:∃c,m+1=(j+(n+1))+c:=⟨m-j-n,by omega⟩;have hz:W f (j+(n+1)) c=W u (j+(n+1)) c:=aAH fun s _=>G _ (.inr (by omega))
  have F:PB (j+(n+1))*W u (j+(n+1)) c=0:=by
   have e:=J;rw[hc,s0,s0 u 0 j,Nat.zero_add,Nat.zero_add,hw]at e;omega
  have hl:W f 0 j=W u 0 j:=aAH fun s hs=>by rw[Nat.zero_add];exact G s (.inl hs)
  rw[hc,s0,s0 f 0 j,Nat.zero_add,Nat.zero_add,hz,F,hl,V];omega
 have hlo:=(wV (h.uok.dr 0 j)).2;have K:=(wV (h.uok.dr 0 j)).1;refine⟨by simpa using h.ql,z,U,fun s hs=>?_,?_,?_⟩
 ·rw[wF];by_cases e:s=j
  ·rw[if_pos ⟨e,by have:=h.ql;omega⟩];exact⟨L,t⟩
  ·rw[if_neg (fun x=>e x.1)];exact h.qok s (by omega)
 ·show W f 0 f.length<_;rw[z,k];have:PB j*(w-Q*vD v)≤PB j*(vD v-1):=Int.mul_le_mul_of_nonneg_left (by rw[Int.add_mul]at y;omega) (by omega);have e:PB j*(vD v-1)=vD v*PB j-PB j:=by grind
  omega
 ·have hval:=h.val;have e1:vD u=W u 0 (m+1):=by unfold vD;rw[h.ul]
  have e2:vD f=W f 0 (m+1):=by unfold vD;rw[z]
  rw[e1,J]at hval;have hql:=h.ql;rw[e2,k,show m-n+1-j=(m-n+1-(j+1))+1 by omega,aAi,dU (by omega),t5 (.inl (by omega))];simp only[PB]at hval;rw[hval];grind
theorem aCt{b v:List Int}{N m:Nat}{S:Int}(hb:b.length=N+2)(hL:m≤900000000000)(hnm:N+2≤m)(hv:kM v)(hvl:v.length=N+2)(I:500000000≤v.getD (N+1) 0):∀(J:Nat) (q u:List Int),J≤m-(N+2)+1→aDh m (N+2) v S q u J→
  ∃q' y,aDh m (N+2) v S q' y 0∧sB (fun K k=>eH K b v k q u ((J:Int)-1)) (q',y)
 |0,q,u,_,h=>⟨q,u,h,sB.of 1 fun K k hk=>by
   obtain⟨k',rfl,_⟩:=cF (n:=0) hk;simp[eH]⟩
 |j+1,q,u,hJ,h=>by
  have hul:=h.ul;have hql:=h.ql;obtain⟨v1,e1⟩:∃x,v.getD (N+1) 0=x:=⟨_,rfl⟩;obtain⟨v2,e2⟩:∃x,v.getD N 0=x:=⟨_,rfl⟩;obtain⟨u2,e3⟩:∃x,u.getD (j+N) 0=x:=⟨_,rfl⟩;obtain⟨u1,e4⟩:∃x,u.getD (j+N+1) 0=x:=⟨_,rfl⟩;obtain⟨u0,e5⟩:∃x,u.getD (j+N+2) 0=x:=⟨_,rfl⟩;have d1:=hv (N+1);have d2:=hv N;have d3:=h.uok (j+N);have d4:=h.uok (j+N+1);have d5:=h.uok (j+N+2);rw[e1]at d1 I;rw[e2]at d2;rw[e3]at d3;rw[e4]at d4;rw[e5]at d5;have hP:=oU N;have hVd:vD v=W v 0 N+(v1*1000000000+v2)*PB N:=by
   unfold vD;rw[hvl,s0,Nat.zero_add,W2,e1,e2,Int.mul_comm (PB N)];grind
  have hwl:=wV (h.uok.dr j N);have hvl2:=wV (hv.dr 0 N);obtain⟨w,hw⟩:∃x,W u j (N+2+1)=x:=⟨_,rfl⟩;have hwd:w=W u j N+((u0*1000000000+u1)*1000000000+u2)*PB N:=by
   rw[←hw,show N+2+1=N+3 by omega,s0,aAi,aAi,W1,e3,e4,show j+N+1+1=j+N+2 by omega,e5];grind
  have hVn:=hv.nonneg;have f:0<vD v:=by
   have:1*PB N≤(v1*1000000000+v2)*PB N:=Int.mul_le_mul_of_nonneg_right (by omega) (by omega);omega
  obtain⟨V,L⟩:∃x,vD v=x:=⟨_,rfl⟩;have U:=hv.lt;rw[hvl]at U;rw[L]at hVd f hVn U;have hwV:w<V*1000000000:=by
   have hlt:=h.lt;rw[L]at hlt;have hb':V*PB (j+1)≤PB (N+2)*PB (j+1):=Int.mul_le_mul_of_nonneg_right (by omega) (by have:=oU (j+1);omega);rw[←yK,show N+2+(j+1)=j+(N+2+1) by omega]at hb';obtain⟨c,hc⟩:∃c,m+1=(j+(N+2+1))+c:=⟨m-j-(N+2),by omega⟩;unfold vD at hlt;rw[hul,hc]at hlt;rw[aFw h.uok (by omega),s0,Nat.zero_add,hw]at hlt;have h0:=(wV (h.uok.dr 0 j)).1;simp only[PB]at hlt;have:w*PB j<V*1000000000*PB j:=by
    rw[Int.mul_assoc,Int.mul_comm 1000000000,Int.mul_comm w];omega
   exact q9 (oU j) this
  have hw0:0≤w:=by rw[←hw];exact(wV (h.uok.dr j _)).1
  obtain⟨Q,hQ⟩:∃x,w/V=x:=⟨_,rfl⟩;have hQ0:0≤Q:=by rw[←hQ];exact Int.ediv_nonneg hw0 (by omega)
  have hdm:=Int.mul_ediv_add_emod w V;have hm0:=Int.emod_nonneg w (show V≠0 by omega);have hm1:=Int.emod_lt_of_pos w f;rw[hQ]at hdm;have O:Q*V≤w:=by rw[Int.mul_comm];omega
  have z:w<(Q+1)*V:=by rw[Int.add_mul,Int.mul_comm];omega
  have hQB:Q<1000000000:=q9 f (by rw[Int.mul_comm 1000000000 V];omega);obtain⟨top,htop⟩:∃x,u0*1000000000+u1=x:=⟨_,rfl⟩;have hV1:(v1*1000000000+v2)*PB N≤V:=by omega
  have hV2:V<(v1*1000000000+v2+1)*PB N:=by rw[Int.add_mul,Int.one_mul];omega
  have hw1:(top*1000000000+u2)*PB N≤w:=by rw[←htop];omega
  have hw2:w<(top*1000000000+u2+1)*PB N:=by rw[←htop,Int.add_mul _ 1,Int.one_mul];omega
  have htlim:top≤v1*1000000000+v2:=by
   have t1:(top*1000000000)*PB N≤(top*1000000000+u2)*PB N:=Int.mul_le_mul_of_nonneg_right (by omega) (by omega);have t2:(top*1000000000)*PB N<((v1*1000000000+v2+1)*1000000000)*PB N:=by
    have:(v1*1000000000+v2+1)*1000000000*PB N=(v1*1000000000+v2+1)*PB N*1000000000:=by grind
    rw[this];omega
   have t3:=q9 hP t2;omega
  obtain⟨g0,hg0⟩:∃x,top/v1=x:=⟨_,rfl⟩;obtain⟨r0,hr0⟩:∃x,top%v1=x:=⟨_,rfl⟩;have hdm2:=Int.mul_ediv_add_emod top v1;have hr1:=Int.emod_nonneg top (show v1≠0 by omega);have hr2:=Int.emod_lt_of_pos top (show 0<v1 by omega);rw[hg0,hr0]at hdm2;rw[hr0]at hr1 hr2;have hg00:0≤g0:=by rw[←hg0];exact Int.ediv_nonneg (by omega) (by omega)
  have hgq:Q<g0+1:=by
   refine aE0 hP hV1 hw2 O (by omega) ?_ (by omega);have m1:(g0+1)*(v1*1000000000+v2)=(v1*g0+v1)*1000000000+(g0+1)*v2:=by grind
   have m2:0≤(g0+1)*v2:=Int.mul_nonneg (by omega) d2.1;rw[m1];omega
  have hgm:g0≤1000000001:=by
   have:g0*v1<1000000002*v1:=by rw[Int.mul_comm g0];omega
   have:=q9 (show 0<v1 by omega) this;omega
  obtain⟨g,⟨hg1,hg2,hg3⟩,hgF⟩:=aCZ (b:=b) (v:=v) (u:=u) (j:=j) hb (by omega) hvl (by omega) (by omega) e1 e2 e3 hP (Int.le_of_lt f) I d1.2 d2.1 d2.2 d3.1 d3.2 hV1 hV2 hw1 hw2 hwV hQ0 O z 2 g0 r0 hr1 (by omega) (by omega) (by rw[Int.mul_comm];omega) (by omega) hgm;obtain⟨y,c',F,hSF⟩:=aBp (b:=b) (v:=v) (u0:=u) (j:=j) (g:=g) (by omega) hg3 hv (by omega) (by omega) (by omega) b.length 0 u 0 (by omega) ⟨rfl,h.uok,by omega,by omega,fun _ _=>rfl,by simp[W]⟩;have hSl:=F.len;have hSc0:=F.c0;have hSc1:=F.c1;have hSv:=F.val;rw[hb]at hSv;have hSs:y.getD (j+N+2) 0=u0:=by rw[F.same _ (.inr (by omega)),e5]
  obtain⟨t,ht⟩:∃x,u0-c'=x:=⟨_,rfl⟩;have hVW:W v 0 (N+2)=V:=by rw[←L];unfold vD;rw[hvl]
  rw[hVW]at hSv;have hWn:w=W u j (N+2)+u0*PB (N+2):=by rw[←hw,dG,←Nat.add_assoc,e5]
  have hWu':=wV (F.ok.dr j (N+2));have hPn:=oU (N+2);have hD:W y j (N+2)+t*PB (N+2)=w-g*V:=by rw[←ht,Int.sub_mul];omega
  have i1:decide (0≤(j:Int))=true:=dT (by omega);have i0:((j+1:Nat):Int)-1=(j:Int):=by omega
  have i2:aV ((j:Int)+(b.length:Int))=some ((j+N+2:Nat):Int):=tK (m:=0) (by omega) (by omega);have i3:=cV (xs:=u) (i:=j+N+2) (by omega);rw[e5]at i3;have i4:aV (u0*1000000000)=some (u0*1000000000):=qB (by omega);have i5:aV (((j+N+2:Nat):Int)-1)=some ((j+N+1:Nat):Int):=tK (m:=0) (by omega) (by omega);have i6:=cV (xs:=u) (i:=j+N+1) (by omega);rw[e4]at i6;have i7:aV (u0*1000000000+u1)=some top:=by rw[htop];exact qB (by omega)
  have i8:aV ((b.length:Int)-1)=some ((N+1:Nat):Int):=tK (m:=0) (by omega) (by omega);have i9:=cV (xs:=v) (i:=N+1) (by omega);rw[e1]at i9;have i10:vX top v1=some g0:=by rw[←hg0];exact qL (by omega) (by omega) (by omega)
  have i11:wA top v1=some r0:=by rw[←hr0];exact oV (by omega) (by omega)
  have i12:=cV (xs:=y) (i:=j+N+2) (by omega);rw[hSs]at i12;have i13:aV (u0-c')=some t:=by rw[ht];exact qB (by omega)
  have i14:oZ y ((j+N+2:Nat):Int) t=some (y.set (j+N+2) t):=p7 (by omega);have i15:cT (y.set (j+N+2) t) ((j+N+2:Nat):Int)=some t:=by rw[cV (by simp;omega),dU (by omega)]
  have i16:aV ((j:Int)-1)=some ((j:Int)-1):=qB (by omega);have i17:=cV (xs:=q) (i:=j) (by omega);have i18:∀x,oZ q (j:Int) x=some (q.set j x):=fun x=>p7 (by omega)
  have hgF':Ev (fun K=>dW K b v u (j:Int) K g0 r0) g:=⟨3,fun K hK=>hgF K K (by omega)⟩;have hSF':Ev (fun K=>eV K b v (j:Int) g K u 0 0) (y,c'):=⟨b.length+1,fun K hK=>hSF K K (by omega)⟩;by_cases hneg:t<0
  ·
   have hgQ:g=Q+1:=by
    have:t*PB (N+2)≤(-1)*PB (N+2):=Int.mul_le_mul_of_nonneg_right (by omega) (by omega);rcases Int.lt_or_le Q g with h1|h1
    ·omega
    ·have:g=Q:=by omega
     subst this;omega
   obtain⟨u3,G,hB,hBF⟩:=aDu (b:=b) (v:=v) (u0:=y.set (j+N+2) t) (j:=j) hv (by omega) (by simp;omega) (by simp;omega) b.length 0 (y.set (j+N+2) t) 0 (by omega)
    ⟨rfl,fun s hs=>by rw[eO (by omega)];exact F.ok s,by omega,by omega,fun _ _=>rfl,by simp[W]⟩
   have hBl:=hB.len;simp only[List.length_set]at hBl;have hBs:u3.getD (j+N+2) 0=t:=by rw[hB.same _ (.inr (by omega)),dU (by omega)]
   have hBv:=hB.val;rw[hb,t5 (.inr (by omega)),hVW]at hBv;have hWu3:=wV (u:=u3) (j:=j) (n:=N+2) fun s hs=>hB.ok _ (by omega)
   have hx:t+G=0:=by
    have hfin:W u3 j (N+2)+(t+G)*PB (N+2)=w-Q*V:=by
     rw[hgQ,Int.add_mul,Int.one_mul]at hD;rw[Int.add_mul];omega
    have hlim:w-Q*V<V:=by rw[Int.add_mul]at z;omega
    rcases Int.lt_trichotomy (t+G) 0 with hx|hx|hx
    ·have:(t+G)*PB (N+2)≤(-1)*PB (N+2):=Int.mul_le_mul_of_nonneg_right (by omega) (by omega);omega
    ·exact hx
    ·have:1*PB (N+2)≤(t+G)*PB (N+2):=Int.mul_le_mul_of_nonneg_right (by omega) (by omega);omega
   obtain⟨q',u'',h5,h6⟩:=aCt hb hL hnm hv hvl (by rw[e1];exact I) j (q.set j Q) (u3.set (j+N+2) (t+G)) (by omega)
    (h.next hJ hnm hv hvl hw hQ0 hQB (by rw[L];exact O) (by rw[L];exact z) (by simp;omega) (fun s=>by
      rw[wF];by_cases e:s=j+N+2
      ·rw[if_pos ⟨e,by omega⟩,hx];omega
      ·rw[if_neg (fun x=>e x.1)];rcases Nat.lt_or_ge s (j+N+2) with h1|h1
       ·exact hB.ok s (by omega)
       ·rw[hB.same s (.inr (by omega)),eO (by omega),F.same s (.inr (by omega))];exact h.uok s) (fun s hs=>by
      rw[eO (by omega)];rw[hB.same s (by omega),eO (by omega),F.same s (by omega)]) (by
      rw[dG,←Nat.add_assoc,dU (by omega),t5 (.inr (by omega)),L];rw[hgQ,Int.add_mul,Int.one_mul]at hD;rw[Int.add_mul];omega))
   refine⟨q',u'',h5,sB.step ?_⟩;have k1:aV (g-1)=some Q:=by rw[show g-1=Q by omega];exact qB (by omega)
   have k2:=cV (xs:=u3) (i:=j+N+2) (by omega);rw[hBs]at k2;have hc30:=hB.c0;have hc31:=hB.c1;have k3:aV (t+G)=some (t+G):=qB (by omega);have k4:oZ u3 ((j+N+2:Nat):Int) (t+G)=some (u3.set (j+N+2) (t+G)):=p7 (by omega);have hBF':Ev (fun K=>gV K b v (j:Int) K (y.set (j+N+2) t) 0 0) (u3,G):=⟨b.length+1,fun K hK=>hBF K K (by omega)⟩;rw[i0];simp only[eH,i1,i2,i3,i4,i5,i6,i7,i8,i9,i10,i11,d9,oB];refine sB.bind hgF' ?_;simp only[mK];refine sB.bind hSF' ?_;simp only[mL,i2,i12,i13,i14,i15,dT hneg,d9,oB,k1];refine sB.bind hBF' ?_;simp only[oQ,i2,k2,k3,k4,i17,i18,i16,oB];exact h6
  ·have hgQ:g=Q:=by
    have:0≤t*PB (N+2):=Int.mul_nonneg (by omega) (by omega);rcases Int.lt_or_le Q g with h1|h1
    ·have:g=Q+1:=by omega
     subst this;omega
    ·omega
   subst hgQ;have hx:t=0:=by
    have hlim:w-g*V<V:=by rw[Int.add_mul]at z;omega
    rcases Int.lt_or_le 0 t with hx|hx
    ·have:1*PB (N+2)≤t*PB (N+2):=Int.mul_le_mul_of_nonneg_right (by omega) (by omega);omega
    ·omega
   obtain⟨q',u'',h5,h6⟩:=aCt hb hL hnm hv hvl (by rw[e1];exact I) j (q.set j g) (y.set (j+N+2) t) (by omega)
    (h.next hJ hnm hv hvl hw hQ0 hQB (by rw[L];exact O) (by rw[L];exact z) (by simp;omega) (F.ok.set (by omega) (by omega)) (fun s hs=>by
      rw[eO (by omega)];rw[F.same s (by omega)]) (by
      rw[dG,←Nat.add_assoc,dU (by omega),t5 (.inr (by omega)),L];omega))
   refine⟨q',u'',h5,sB.step ?_⟩;rw[i0];simp only[eH,i1,i2,i3,i4,i5,i6,i7,i8,i9,i10,i11,d9,oB];refine sB.bind hgF' ?_;simp only[mK];refine sB.bind hSF' ?_;simp only[mL,i2,i12,i13,i14,i15,dF hneg,eD,oB,i17,i18,i16];exact h6
end Go.Proofs.YtnmdhmfofbfkjaaGreat
