/- Texts of the proof, part 2: K15 I1 IZ P2 P3 P4. -/
import Derived.Test.YtcjdedkdoagifaaGreatProg
import Derived.KernelRfl
import Derived.IntWalk
import Derived.Test.YtcjdedkdoagifaaGreatZ1
set_option linter.unusedSimpArgs false
set_option linter.unusedVariables false
namespace Go.Proofs.YtcjdedkdoagifaaGreat
structure GC (S:Sx) (c:Code) (κ:Kt) (H:List HA) (E:p9) (Q:Prop):Prop where
 h:Q→WC S c κ H E
structure GX (S:Sx) (e:Exit) (κ:Kt) (H:List HA) (E:p9) (Q:Prop):Prop where
 h:Q→WX S e κ H E
structure GL (S:Sx) (ops:Array Oper) (κ:Kt) (l:List Oper) (H:List HA) (E:p9) (Q:Prop):Prop where
 h:Q→WL S ops κ l H E
inductive D:Prop→Prop→Prop
 |mk {P Q:Prop} (h:Q→P):D P Q
theorem D.h {P Q:Prop} (h:D P Q):Q→P:=by cases h;assumption
section
variable {S:Sx} {κ:Kt} {H:List HA} {E:p9} {Q:Prop}
theorem sC {c:Code} (k:GC S c κ H E Q):D (WC S c κ H E) Q:=⟨k.h⟩
theorem sX {e:Exit} (k:GX S e κ H E Q):D (WX S e κ H E) Q:=⟨k.h⟩
theorem sL {ops:Array Oper} {l:List Oper} (k:GL S ops κ l H E Q):D (WL S ops κ l H E) Q:=⟨k.h⟩
theorem eC {c:Code}:GC S c κ H E (WC S c κ H E):=⟨fun q=>q⟩
theorem eX {e:Exit}:GX S e κ H E (WX S e κ H E):=⟨fun q=>q⟩
theorem eL {ops:Array Oper} {l:List Oper}:GL S ops κ l H E (WL S ops κ l H E):=⟨fun q=>q⟩
theorem aOK {x y:Code} (k:GC S x (.seq y κ) H E Q):GC S (.seq x y) κ H E Q:=⟨fun q=>aM (k.h q)⟩
theorem aNy {y:Code} (k:GC S y κ H E Q):GX S .normal (.seq y κ) H E Q:=⟨fun q=>aS (k.h q)⟩
theorem aMN (k:GX S .normal κ H E Q):GC S .skip κ H E Q:=⟨fun q=>iO (k.h q)⟩
theorem aKk {l:Nat} (k:GX S .normal κ H E Q):GC S (.label l) κ H E Q:=⟨fun q=>aN4 (k.h q)⟩
theorem aLL {id:Nat} (k:GX S .normal κ H E Q):GX S .normal (.blk id κ) H E Q:=⟨fun q=>yY (k.h q)⟩
theorem aJs {c:Code} (k:GC S c (.sc κ) H E Q):GC S (.scope c) κ H E Q:=⟨fun q=>aI6 (k.h q)⟩
theorem aO5 (k:GX S .normal κ H E Q):GX S .normal (.sc κ) H E Q:=⟨fun q=>aR4 (k.h q)⟩
theorem aPk {id:Nat} {l:List Oper} (k:GL S l.toArray κ l H E Q):GC S (.region id l.toArray false) κ H E Q:=⟨fun q=>aX (k.h q)⟩
theorem aOV {ops:Array Oper} (k:GX S .normal κ H E Q):GL S ops κ [] H E Q:=⟨fun q=>bQ (k.h q)⟩
end
def ev (E:p9):Operand→Option VP
 | .tmp d=>iU E d
 | .const (.int k n)=>some (.vc (pI k n))
 | .const (.bool b)=>some (.vc (pB b))
 |_=>none
theorem dP {E:p9}:∀{x:Operand} {p:VP},ev E x=some p→aDJ E x p
 | .tmp d,p,h=>h
 | .const (.int k n),p,h=>by cases h;exact kL k n
 | .const (.bool b),p,h=>by cases h;exact k_B b
def evs (E:p9):List Operand→Option (List VP)
 |[]=>some []
 |x::l=>(ev E x).bind fun p=>(evs E l).bind fun ps=>some (p::ps)
theorem aFN {E:p9}:∀{l:List Operand} {ps:List VP},evs E l=some ps→xF E (l.zip ps)∧l.length=ps.length
 |[],ps,h=>by cases h;exact⟨trivial,rfl⟩
 |x::l,ps,h=>by
  obtain⟨p,h1,h⟩:=Option.bind_eq_some_iff.1 h
  obtain⟨qs,h2,h⟩:=Option.bind_eq_some_iff.1 h
  cases h
  exact⟨⟨dP h1,(aFN h2).1⟩,congrArg (·+1) (aFN h2).2⟩
theorem wB {k:Nat} {l qs:List CP} (h:rM k l=some qs):qs.length=k:=(zQ h).2
inductive gE:List HA→Option Nat→HA→Prop
 |a {e:HA} {H:List HA} {β:Option Nat} (h:e.β=β):gE (e::H) β e
 |b {e x:HA} {H:List HA} {β:Option Nat} (h:gE H β e):gE (x::H) β e
theorem gE.at {H:List HA} {β:Option Nat} {e:HA} (h:gE H β e):∃i:Nat,H[i]?=some e∧e.β=β:=by
 induction h with
 |a h=>exact⟨0,rfl,h⟩
 |b _ ih=>obtain⟨i,h1,h2⟩:=ih;exact⟨i+1,by simpa using h1,h2⟩
inductive w8:List HA→Option Nat→HA→HA→List HA→Prop
 |a {e e':HA} {H:List HA} {β:Option Nat} (h:e.β=β):w8 (e::H) β e e' (e'::H)
 |b {e e' x:HA} {H H':List HA} {β:Option Nat} (h:w8 H β e e' H'):w8 (x::H) β e e' (x::H')
theorem w8.at {H H':List HA} {β:Option Nat} {e e':HA} (h:w8 H β e e' H'):∃i:Nat,H[i]?=some e∧e.β=β∧yU H i e'=some H':=by
 induction h with
 |a h=>exact⟨0,rfl,h,rfl⟩
 |@b e e' x H H' β _ ih=>
  obtain⟨i,h1,h2,h3⟩:=ih
  exact⟨i+1,by simpa using h1,h2,by simp only [yU,h3,Option.map_some]⟩
inductive dM (ops:Array Oper) (E:p9):Option (Nat×Bool)→Prop
 |p:dM ops E none
 |g {j dj:Nat} {b:Bool} {og:Oper} (hj:ops[j]?=some og) (hdj:og.dst=some dj) (hl:iU E dj=some (.vc (pB b))):dM ops E (some (j,b))
theorem vN {α β γ:Type} {a:Option α} {b:α→Option β} {f:α→β→Option γ} {r:γ} (h:(a.bind fun x=>(b x).bind fun y=>f x y)=some r):∃x,a=some x∧∃y,b x=some y∧f x y=some r:=by
 obtain⟨x,h1,h⟩:=a9 h
 exact⟨x,h1,a9 h⟩
theorem bn3 {α β γ δ:Type} {a:Option α} {b:α→Option β} {c:α→β→Option γ} {f:α→β→γ→Option δ} {r:δ} (h:(a.bind fun x=>(b x).bind fun y=>(c x y).bind fun z=>f x y z)=some r):∃x,a=some x∧∃y,b x=some y∧∃z,c x y=some z∧f x y z=some r:=by
 obtain⟨x,h1,h⟩:=a9 h
 exact⟨x,h1,vN h⟩
theorem bn4 {α β γ δ ε:Type} {a:Option α} {b:α→Option β} {c:α→β→Option γ} {d:α→β→γ→Option δ} {f:α→β→γ→δ→Option ε} {r:ε} (h:(a.bind fun x=>(b x).bind fun y=>(c x y).bind fun z=>(d x y z).bind fun t=>f x y z t)=some r):∃x,a=some x∧∃y,b x=some y∧∃z,c x y=some z∧∃t,d x y z=some t∧f x y z t=some r:=by
 obtain⟨x,h1,h⟩:=a9 h
 exact⟨x,h1,bn3 h⟩
theorem tC {α β:Type} {o:Option α} {f:α→Option β} {v:α} {r:β} (h:o=some v) (k:o.bind f=some r):f v=some r:=by rw [h] at k;exact k
theorem bD {α β:Type} {o:Option α} {f:α→Option β} {q:β} {C:α→Prop} (h:o.bind f=some q) (c:∀{r:α},o=some r→C r):∃v,C v∧f v=some q:=by
 obtain⟨v,h1,h⟩:=a9 h
 exact⟨v,c h1,h⟩
section
variable {S:Sx} {κ:Kt} {H H':List HA} {E:p9} {ops:Array Oper} {rest:List Oper} {Q:Prop} {ty:TypeId} {pos:String} {af:Array Edge} {g:Option (Nat×Bool)} {d:Nat}
theorem jR {op:Op} {ins:List (Operand×VP)} {out:VP} (t:Tr S ⟨some d,op,ty,pos,af,g⟩ H H' ins out) (hi:xF E ins) (hg:dM ops E g) (hN:Nat.blt d S.N=true) (k:GL S ops κ rest H' ((d,out)::E) Q):GL S ops κ (⟨some d,op,ty,pos,af,g⟩::rest) H E Q:=by
 refine⟨fun q=>?_⟩
 cases hg with
 |p=>exact aR t hi (k.h q) rfl rfl hN
 |g hj hdj hl=>exact aHS t hi (k.h q) rfl hj hdj hl rfl hN
theorem b_n {op:Op} {j dj:Nat} {b b':Bool} {og:Oper} (hj:ops[j]?=some og) (hdj:og.dst=some dj) (hl:iU E dj=some (.vc (pB b'))) (hb:(b' != b)=true) (hN:Nat.blt d S.N=true) (k:GL S ops κ rest H ((d,.un)::E) Q):GL S ops κ (⟨some d,op,ty,pos,af,some (j,b)⟩::rest) H E Q:=⟨fun q=>aMD (k.h q) rfl hj hdj hl hb rfl hN⟩
theorem b_u {op:Op} {j dj:Nat} {b:Bool} {og:Oper} (hj:ops[j]?=some og) (hdj:og.dst=some dj) (hl:iU E dj=some .un) (hN:Nat.blt d S.N=true) (k:GL S ops κ rest H ((d,.un)::E) Q):GL S ops κ (⟨some d,op,ty,pos,af,some (j,b)⟩::rest) H E Q:=⟨fun q=>aQ9 (k.h q) rfl hj hdj hl rfl hN⟩
end
class Mix (P:Program):Prop where
 h:P.follows .mixedOrders=true
def qP (l:List Oper) (ms:List Nat) (E:p9) (outs:List Ou) (G:Gh) (i:Nat):Operand→Option VP
 | .tmp d=>xM l ms E outs G i d
 | .const (.int k n)=>some (.vc (pI k n))
 | .const (.bool b)=>some (.vc (pB b))
 |_=>none
theorem bP {l:List Oper} {ms:List Nat} {E:p9} {outs:List Ou} {G:Gh} {i:Nat}:∀{x:Operand} {p:VP},qP l ms E outs G i x=some p→aPc l ms E outs G i x p
 | .tmp d,p,h=>h
 | .const (.int k n),p,h=>by cases h;exact kL k n
 | .const (.bool b),p,h=>by cases h;exact k_B b
def aQe (l:List Oper) (ms:List Nat) (E:p9) (outs:List Ou) (G:Gh) (i:Nat):List Operand→Option (List VP)
 |[]=>some []
 |x::r=>(qP l ms E outs G i x).bind fun p=>(aQe l ms E outs G i r).bind fun ps=>some (p::ps)
theorem aDo {l:List Oper} {ms:List Nat} {E:p9} {outs:List Ou} {G:Gh} {i:Nat}:∀{r:List Operand} {ps:List VP},aQe l ms E outs G i r=some ps→aEf l ms E outs G i (r.zip ps)∧r.length=ps.length
 |[],ps,h=>by cases h;exact⟨trivial,rfl⟩
 |x::r,ps,h=>by
  obtain⟨p,h1,h⟩:=Option.bind_eq_some_iff.1 h
  obtain⟨qs,h2,h⟩:=Option.bind_eq_some_iff.1 h
  cases h
  exact⟨⟨bP h1,(aDo h2).1⟩,congrArg (·+1) (aDo h2).2⟩
theorem gE.app {H A:List HA} {β:Option Nat} {e:HA} (h:gE H β e):gE (H++A) β e:=by
 induction h with
 |a h=>exact .a h
 |b _ ih=>exact .b ih
inductive GD (l:List Oper) (ms:List Nat) (E:p9) (outs:List Ou) (i:Nat):Option (Nat×Bool)→Prop
 |p:GD l ms E outs i none
 |g {j d:Nat} {b:Bool} (hd:(l[j]?).bind (·.dst)=some d) (hl:∀G,xM l ms E outs G i d=some (.vc (pB b))):GD l ms E outs i (some (j,b))
structure DN (S:Sx) (H:List HA) (l0:List Oper) (ms:List Nat) (E:p9) (outs:List Ou) (n i:Nat) (l:List Oper) (r:List Ou):Prop where
 h:aGD S (fun _ _=>H) [] l0 ms E outs i l r
 len:r.length=n
section
variable {S:Sx} {H:List HA} {l0 l:List Oper} {ms:List Nat} {E:p9} {outs r:List Ou} {n i d:Nat} {ty:TypeId} {pos:String} {af:Array Edge} {g:Option (Nat×Bool)}
theorem aPw (hr:r=[]):DN S H l0 ms E outs 0 i l r:=by subst hr;exact⟨by cases l<;>trivial,rfl⟩
theorem aFY {o:Oper} {q:Ou} (h1:o.dst.all (Nat.blt · S.N)=true) (h2:DOp S (fun _ _=>H) [] l0 ms E outs i o q) (k:DN S H l0 ms E outs n (i+1) l r):DN S H l0 ms E outs (n+1) i (o::l) (q::r):=⟨⟨⟨h1,h2⟩,k.h⟩,congrArg (·+1) k.len⟩
theorem gJ {op:Op} {ins:List (Operand×VP)} {out:VP} (t:∀A,Tr S ⟨some d,op,ty,pos,af,g⟩ (H++A) (H++A) ins out) (hs:∀G,aEf l0 ms E outs G i ins) (hN:Nat.blt d S.N=true) (hg:GD l0 ms E outs i g) (h1:kN ms [] i [0]=true) {r0:List Ou} (hr:r0=.v out::r) (k:DN S H l0 ms E outs n (i+1) l r):DN S H l0 ms E outs (n+1) i (⟨some d,op,ty,pos,af,g⟩::l) r0:=by
 subst hr
 refine aFY hN ?_ k
 cases hg with
 |p=>exact .run (L:=[0]) (ins:=fun _=>ins) ⟨fun _ A=>t A,trivial⟩ hs rfl h1 rfl
 |g hd hl=>exact .runG (L:=[0]) (ins:=fun _=>ins) ⟨fun _ A=>t A,trivial⟩ hs rfl hd hl h1 rfl
theorem e_n {r0:List Ou} {op:Op} {j dj:Nat} {b b':Bool} (hd:(l0[j]?).bind (·.dst)=some dj) (hl:∀G,xM l0 ms E outs G i dj=some (.vc (pB b'))) (hb:(b' != b)=true) (hN:Nat.blt d S.N=true) (hr:r0=.v .un::r) (k:DN S H l0 ms E outs n (i+1) l r):DN S H l0 ms E outs (n+1) i (⟨some d,op,ty,pos,af,some (j,b)⟩::l) r0:=hr▸aFY hN (.skipN rfl hd hl hb rfl) k
theorem e_u {r0:List Ou} {op:Op} {j dj:Nat} {b:Bool} (hd:(l0[j]?).bind (·.dst)=some dj) (hl:∀G,xM l0 ms E outs G i dj=some .un) (hN:Nat.blt d S.N=true) (hr:r0=.v .un::r) (k:DN S H l0 ms E outs n (i+1) l r):DN S H l0 ms E outs (n+1) i (⟨some d,op,ty,pos,af,some (j,b)⟩::l) r0:=hr▸aFY hN (.skipU rfl hd hl rfl) k
end
section
variable {S:Sx} {κ:Kt} {H H':List HA} {E:p9} {ops:Array Oper} {rest:List Oper} {Q:Prop} {ty:TypeId} {pos:String} {af:Array Edge} {g:Option (Nat×Bool)} {d:Nat} {l0 l:List Oper} {ms:List Nat} {outs ro:List Ou} {n i:Nat}
theorem aSp {x:Operand} {p:VP} (hx:ev E x=some p) (hN:Nat.blt d S.N=true) (hg:dM ops E g) (k:GL S ops κ rest H ((d,p)::E) Q):GL S ops κ (⟨some d,.move x,ty,pos,af,g⟩::rest) H E Q:=
 jR (bW (.inl rfl)) ⟨dP hx,trivial⟩ hg hN k
theorem aRF {x:Operand} {p:VP} (hx:∀G,qP l0 ms E outs G i x=some p) (hN:Nat.blt d S.N=true) (hg:GD l0 ms E outs i g) (h1:kN ms [] i [0]=true) {r0:List Ou} (hr:r0=.v (p)::ro) (kk:DN S H l0 ms E outs n (i+1) l ro):DN S H l0 ms E outs (n+1) i (⟨some d,.move x,ty,pos,af,g⟩::l) r0:=
 gJ (fun A=>bW (.inl rfl)) (fun G=>⟨bP (hx G),trivial⟩) hN hg h1 hr kk
theorem aRt {x:Operand} {b:Bool} {w:Bool} (hx:∀G,qP l0 ms E outs G i x=some (.vc (pB b))) (hN:Nat.blt d S.N=true) (hg:GD l0 ms E outs i g) (h1:kN ms [] i [0]=true) (hb:b=w) {r0:List Ou} (hr:r0=.v (.vc (pB w))::ro) (kk:DN S H l0 ms E outs n (i+1) l ro):DN S H l0 ms E outs (n+1) i (⟨some d,.move x,ty,pos,af,g⟩::l) r0:=
 gJ (fun A=>kW (bW (.inl rfl)) hb) (fun G=>⟨bP (hx G),trivial⟩) hN hg h1 hr kk
theorem aRs {x:Operand} {p:VP} (hx:ev E x=some p) (hN:Nat.blt d S.N=true) (hg:dM ops E g) (k:GL S ops κ rest H ((d,p)::E) Q):GL S ops κ (⟨some d,.assign x,ty,pos,af,g⟩::rest) H E Q:=
 jR (bW (.inr rfl)) ⟨dP hx,trivial⟩ hg hN k
theorem aRD {x:Operand} {p:VP} (hx:∀G,qP l0 ms E outs G i x=some p) (hN:Nat.blt d S.N=true) (hg:GD l0 ms E outs i g) (h1:kN ms [] i [0]=true) {r0:List Ou} (hr:r0=.v (p)::ro) (kk:DN S H l0 ms E outs n (i+1) l ro):DN S H l0 ms E outs (n+1) i (⟨some d,.assign x,ty,pos,af,g⟩::l) r0:=
 gJ (fun A=>bW (.inr rfl)) (fun G=>⟨bP (hx G),trivial⟩) hN hg h1 hr kk
theorem aSo {x:Operand} {b:Bool} {w:Bool} (hx:∀G,qP l0 ms E outs G i x=some (.vc (pB b))) (hN:Nat.blt d S.N=true) (hg:GD l0 ms E outs i g) (h1:kN ms [] i [0]=true) (hb:b=w) {r0:List Ou} (hr:r0=.v (.vc (pB w))::ro) (kk:DN S H l0 ms E outs n (i+1) l ro):DN S H l0 ms E outs (n+1) i (⟨some d,.assign x,ty,pos,af,g⟩::l) r0:=
 gJ (fun A=>kW (bW (.inr rfl)) hb) (fun G=>⟨bP (hx G),trivial⟩) hN hg h1 hr kk
theorem aSl {α:Type} {C:Cd α} {t e bytes:Nat} {x y:Operand} {xs:List α} {j:Int} {z:α} {k:IntKind} (hx:ev E x=some (.vc (pS C xs))) (hy:ev E y=some (.vc (pI k j))) (ht:TyS S.P t e C.n bytes) (hN:Nat.blt d S.N=true) (hg:dM ops E g) (hj:bM xs j=some z) (k:GL S ops κ rest H ((d,.vc (pM (C.e z)))::E) Q):GL S ops κ (⟨some d,.indexAddr t x y,ty,pos,af,g⟩::rest) H E Q:=
 jR (aLY rfl ht hj) ⟨dP hx,dP hy,trivial⟩ hg hN k
theorem aRg {α:Type} {C:Cd α} {t e bytes:Nat} {x y:Operand} {xs:List α} {j:Int} {z:α} {k:IntKind} (hx:∀G,qP l0 ms E outs G i x=some (.vc (pS C xs))) (hy:∀G,qP l0 ms E outs G i y=some (.vc (pI k j))) (ht:TyS S.P t e C.n bytes) (hN:Nat.blt d S.N=true) (hg:GD l0 ms E outs i g) (h1:kN ms [] i [0]=true) (hj:bM xs j=some z) {r0:List Ou} (hr:r0=.v (.vc (pM (C.e z)))::ro) (kk:DN S H l0 ms E outs n (i+1) l ro):DN S H l0 ms E outs (n+1) i (⟨some d,.indexAddr t x y,ty,pos,af,g⟩::l) r0:=
 gJ (fun A=>aLY rfl ht hj) (fun G=>⟨bP (hx G),bP (hy G),trivial⟩) hN hg h1 hr kk
theorem aOF {s f k:Nat} {x:Operand} {ps:List CP} (hx:ev E x=some (.vc (pM ps))) (hf:TyF S.P s f k) (hN:Nat.blt d S.N=true) (hg:dM ops E g) (k:GL S ops κ rest H ((d,.vc (pM (ps.drop k)))::E) Q):GL S ops κ (⟨some d,.fieldAddr s x f,ty,pos,af,g⟩::rest) H E Q:=
 jR (aPC rfl hf) ⟨dP hx,trivial⟩ hg hN k
theorem aOG {s f k:Nat} {x:Operand} {ps:List CP} (hx:∀G,qP l0 ms E outs G i x=some (.vc (pM ps))) (hf:TyF S.P s f k) (hN:Nat.blt d S.N=true) (hg:GD l0 ms E outs i g) (h1:kN ms [] i [0]=true) {r0:List Ou} (hr:r0=.v (.vc (pM (ps.drop k)))::ro) (kk:DN S H l0 ms E outs n (i+1) l ro):DN S H l0 ms E outs (n+1) i (⟨some d,.fieldAddr s x f,ty,pos,af,g⟩::l) r0:=
 gJ (fun A=>aPC rfl hf) (fun G=>⟨bP (hx G),trivial⟩) hN hg h1 hr kk
theorem aRP {s f off k:Nat} {x:Operand} {β:Option Nat} (hx:ev E x=some (.vc (pP β off))) (hf:TyF S.P s f k) (hN:Nat.blt d S.N=true) (hg:dM ops E g) (k:GL S ops κ rest H ((d,.vc (pP β (off+k)))::E) Q):GL S ops κ (⟨some d,.fieldAddr s x f,ty,pos,af,g⟩::rest) H E Q:=
 jR (oK rfl hf) ⟨dP hx,trivial⟩ hg hN k
theorem aSk {s f off k:Nat} {x:Operand} {β:Option Nat} (hx:∀G,qP l0 ms E outs G i x=some (.vc (pP β off))) (hf:TyF S.P s f k) (hN:Nat.blt d S.N=true) (hg:GD l0 ms E outs i g) (h1:kN ms [] i [0]=true) {r0:List Ou} (hr:r0=.v (.vc (pP β (off+k)))::ro) (kk:DN S H l0 ms E outs n (i+1) l ro):DN S H l0 ms E outs (n+1) i (⟨some d,.fieldAddr s x f,ty,pos,af,g⟩::l) r0:=
 gJ (fun A=>oK rfl hf) (fun G=>⟨bP (hx G),trivial⟩) hN hg h1 hr kk
theorem aOE {s f n off k:Nat} {x:Operand} {β:Option Nat} {j:Int} (hx:ev E x=some (.vc (pE β j n off))) (hf:TyF S.P s f k) (hN:Nat.blt d S.N=true) (hg:dM ops E g) (k:GL S ops κ rest H ((d,.vc (pE β j n (off+k)))::E) Q):GL S ops κ (⟨some d,.fieldAddr s x f,ty,pos,af,g⟩::rest) H E Q:=
 jR (aM8 rfl hf) ⟨dP hx,trivial⟩ hg hN k
theorem aOX {s f n off k:Nat} {x:Operand} {β:Option Nat} {j:Int} (hx:∀G,qP l0 ms E outs G i x=some (.vc (pE β j n off))) (hf:TyF S.P s f k) (hN:Nat.blt d S.N=true) (hg:GD l0 ms E outs i g) (h1:kN ms [] i [0]=true) {r0:List Ou} (hr:r0=.v (.vc (pE β j n (off+k)))::ro) (kk:DN S H l0 ms E outs n (i+1) l ro):DN S H l0 ms E outs (n+1) i (⟨some d,.fieldAddr s x f,ty,pos,af,g⟩::l) r0:=
 gJ (fun A=>aM8 rfl hf) (fun G=>⟨bP (hx G),trivial⟩) hN hg h1 hr kk
theorem aPH {t:Nat} {x:Operand} {ps:List CP} {q:CP} (hx:ev E x=some (.vc (pM ps))) (ht:Ty1 S.P t) (hq:rM 1 ps=some [q]) (hN:Nat.blt d S.N=true) (hg:dM ops E g) (k:GL S ops κ rest H ((d,.vc q)::E) Q):GL S ops κ (⟨some d,.load t x,ty,pos,af,g⟩::rest) H E Q:=
 jR (aGw 1 rfl hq (.one ht)) ⟨dP hx,trivial⟩ hg hN k
theorem aPJ {t:Nat} {x:Operand} {ps:List CP} {q:CP} (hx:∀G,qP l0 ms E outs G i x=some (.vc (pM ps))) (ht:Ty1 S.P t) (hq:rM 1 ps=some [q]) (hN:Nat.blt d S.N=true) (hg:GD l0 ms E outs i g) (h1:kN ms [] i [0]=true) {r0:List Ou} (hr:r0=.v (.vc q)::ro) (kk:DN S H l0 ms E outs n (i+1) l ro):DN S H l0 ms E outs (n+1) i (⟨some d,.load t x,ty,pos,af,g⟩::l) r0:=
 gJ (fun A=>aGw 1 rfl hq (.one ht)) (fun G=>⟨bP (hx G),trivial⟩) hN hg h1 hr kk
theorem aPx {t q:Nat} {x:Operand} {ps qs:List CP} (hx:ev E x=some (.vc (pM ps))) (ht:TyA S.P t q) (hq:rM q ps=some qs) (hN:Nat.blt d S.N=true) (hg:dM ops E g) (k:GL S ops κ rest H ((d,.va qs)::E) Q):GL S ops κ (⟨some d,.load t x,ty,pos,af,g⟩::rest) H E Q:=
 jR (aGw q rfl hq (.agg ht (wB hq))) ⟨dP hx,trivial⟩ hg hN k
theorem aOC {t q:Nat} {x:Operand} {ps qs:List CP} (hx:∀G,qP l0 ms E outs G i x=some (.vc (pM ps))) (ht:TyA S.P t q) (hq:rM q ps=some qs) (hN:Nat.blt d S.N=true) (hg:GD l0 ms E outs i g) (h1:kN ms [] i [0]=true) {r0:List Ou} (hr:r0=.v (.va qs)::ro) (kk:DN S H l0 ms E outs n (i+1) l ro):DN S H l0 ms E outs (n+1) i (⟨some d,.load t x,ty,pos,af,g⟩::l) r0:=
 gJ (fun A=>aGw q rfl hq (.agg ht (wB hq))) (fun G=>⟨bP (hx G),trivial⟩) hN hg h1 hr kk
theorem aRU {t off:Nat} {x:Operand} {β:Option Nat} {e:HA} {q:CP} (hx:ev E x=some (.vc (pP β off))) (ht:Ty1 S.P t) (hi:gE H β e) (hq:rM 1 (e.ps.drop off)=some [q]) (hN:Nat.blt d S.N=true) (hg:dM ops E g) (k:GL S ops κ rest H ((d,.vc q)::E) Q):GL S ops κ (⟨some d,.load t x,ty,pos,af,g⟩::rest) H E Q:=by
 obtain⟨i,hi1,hi2⟩:=hi.at
 exact jR (gF i 1 rfl hi1 hi2 hq (.one ht)) ⟨dP hx,trivial⟩ hg hN k
theorem aSB {t off:Nat} {x:Operand} {β:Option Nat} {e:HA} {q:CP} (hx:∀G,qP l0 ms E outs G i x=some (.vc (pP β off))) (ht:Ty1 S.P t) (hi:gE H β e) (hq:rM 1 (e.ps.drop off)=some [q]) (hN:Nat.blt d S.N=true) (hg:GD l0 ms E outs i g) (h1:kN ms [] i [0]=true) {r0:List Ou} (hr:r0=.v (.vc q)::ro) (kk:DN S H l0 ms E outs n (i+1) l ro):DN S H l0 ms E outs (n+1) i (⟨some d,.load t x,ty,pos,af,g⟩::l) r0:=by
 refine gJ (ins:=[(x,(.vc (pP β off)))]) (fun A=>?_) (fun G=>⟨bP (hx G),trivial⟩) hN hg h1 hr kk
 obtain⟨i,hi1,hi2⟩:=(hi.app (A:=A)).at
 exact gF i 1 rfl hi1 hi2 hq (.one ht)
theorem aRO {t m off:Nat} {x:Operand} {β:Option Nat} {e:HA} {qs:List CP} (hx:ev E x=some (.vc (pP β off))) (ht:TyA S.P t m) (hi:gE H β e) (hq:rM m (e.ps.drop off)=some qs) (hN:Nat.blt d S.N=true) (hg:dM ops E g) (k:GL S ops κ rest H ((d,.va qs)::E) Q):GL S ops κ (⟨some d,.load t x,ty,pos,af,g⟩::rest) H E Q:=by
 obtain⟨i,hi1,hi2⟩:=hi.at
 exact jR (gF i m rfl hi1 hi2 hq (.agg ht (wB hq))) ⟨dP hx,trivial⟩ hg hN k
theorem aSy {t m off:Nat} {x:Operand} {β:Option Nat} {e:HA} {qs:List CP} (hx:∀G,qP l0 ms E outs G i x=some (.vc (pP β off))) (ht:TyA S.P t m) (hi:gE H β e) (hq:rM m (e.ps.drop off)=some qs) (hN:Nat.blt d S.N=true) (hg:GD l0 ms E outs i g) (h1:kN ms [] i [0]=true) {r0:List Ou} (hr:r0=.v (.va qs)::ro) (kk:DN S H l0 ms E outs n (i+1) l ro):DN S H l0 ms E outs (n+1) i (⟨some d,.load t x,ty,pos,af,g⟩::l) r0:=by
 refine gJ (ins:=[(x,(.vc (pP β off)))]) (fun A=>?_) (fun G=>⟨bP (hx G),trivial⟩) hN hg h1 hr kk
 obtain⟨i,hi1,hi2⟩:=(hi.app (A:=A)).at
 exact gF i m rfl hi1 hi2 hq (.agg ht (wB hq))
theorem aPD {α:Type} {C:Cd α} {xs:List α} {β:Option Nat} {c T n1:Nat} {t e bytes:Nat} {x y:Operand} {j:Int} {k:IntKind} {z:α} (hx:ev E x=some (.vc (pO β n1 c))) (hy:ev E y=some (.vc (pI k j))) (hi:gE H β (hO C β c T n1 xs)) (hn:xs.length=n1) (ht:TyS S.P t e C.n bytes) (hN:Nat.blt d S.N=true) (hg:dM ops E g) (hj:bM xs j=some z) (k:GL S ops κ rest H ((d,.vc (pE β j C.n 0))::E) Q):GL S ops κ (⟨some d,.indexAddr t x y,ty,pos,af,g⟩::rest) H E Q:=by
 obtain⟨i,hi1,hi2⟩:=hi.at
 exact jR (l9 i rfl ht hi1 hn (aU hj).1 (aU hj).2.1) ⟨dP hx,dP hy,trivial⟩ hg hN k
theorem aO4 {α:Type} {C:Cd α} {xs:List α} {β:Option Nat} {c T n1:Nat} {t e bytes:Nat} {x y:Operand} {j:Int} {k:IntKind} {z:α} (hx:∀G,qP l0 ms E outs G i x=some (.vc (pO β n1 c))) (hy:∀G,qP l0 ms E outs G i y=some (.vc (pI k j))) (hi:gE H β (hO C β c T n1 xs)) (hn:xs.length=n1) (ht:TyS S.P t e C.n bytes) (hN:Nat.blt d S.N=true) (hg:GD l0 ms E outs i g) (h1:kN ms [] i [0]=true) (hj:bM xs j=some z) {r0:List Ou} (hr:r0=.v (.vc (pE β j C.n 0))::ro) (kk:DN S H l0 ms E outs n (i+1) l ro):DN S H l0 ms E outs (n+1) i (⟨some d,.indexAddr t x y,ty,pos,af,g⟩::l) r0:=by
 refine gJ (ins:=[(x,(.vc (pO β n1 c))),(y,(.vc (pI k j)))]) (fun A=>?_) (fun G=>⟨bP (hx G),bP (hy G),trivial⟩) hN hg h1 hr kk
 obtain⟨i,hi1,hi2⟩:=(hi.app (A:=A)).at
 exact l9 i rfl ht hi1 hn (aU hj).1 (aU hj).2.1
theorem aPs {α:Type} {C:Cd α} {xs:List α} {β:Option Nat} {c T n1:Nat} {t e k bytes:Nat} {x:Operand} (hx:ev E x=some (.vc (pO β n1 c))) (hi:gE H β (hO C β c T n1 xs)) (hn:xs.length=n1) (ht:TyS S.P t e k bytes) (hN:Nat.blt d S.N=true) (hg:dM ops E g) (k:GL S ops κ rest H ((d,.vc (pI .i64 xs.length))::E) Q):GL S ops κ (⟨some d,.call {callee:=.builtin .len,args:=#[x],argTypes:=#[t]},ty,pos,af,g⟩::rest) H E Q:=by
 obtain⟨i,hi1,hi2⟩:=hi.at
 exact jR (aFF (C:=C) (T:=T) rfl ht hn) ⟨dP hx,trivial⟩ hg hN k
theorem aOP {α:Type} {C:Cd α} {xs:List α} {β:Option Nat} {c T n1:Nat} {t e k bytes:Nat} {x:Operand} (hx:∀G,qP l0 ms E outs G i x=some (.vc (pO β n1 c))) (hi:gE H β (hO C β c T n1 xs)) (hn:xs.length=n1) (ht:TyS S.P t e k bytes) (hN:Nat.blt d S.N=true) (hg:GD l0 ms E outs i g) (h1:kN ms [] i [0]=true) {r0:List Ou} (hr:r0=.v (.vc (pI .i64 xs.length))::ro) (kk:DN S H l0 ms E outs n (i+1) l ro):DN S H l0 ms E outs (n+1) i (⟨some d,.call {callee:=.builtin .len,args:=#[x],argTypes:=#[t]},ty,pos,af,g⟩::l) r0:=by
 refine gJ (ins:=[(x,(.vc (pO β n1 c)))]) (fun A=>?_) (fun G=>⟨bP (hx G),trivial⟩) hN hg h1 hr kk
 obtain⟨i,hi1,hi2⟩:=(hi.app (A:=A)).at
 exact aFF (C:=C) (T:=T) rfl ht hn
theorem aLo {α:Type} {C:Cd α} {xs:List α} {β:Option Nat} {c T n1:Nat} {t off m:Nat} {x:Operand} {j:Int} {z:α} {q:CP} (hx:ev E x=some (.vc (pE β j m off))) (hi:gE H β (hO C β c T n1 xs)) (hm:C.n=m) (hj:bM xs j=some z) (ht:Ty1 S.P t) (hq:rM 1 ((C.e z).drop off)=some [q]) (hC:Nat.ble (off+1) C.n=true) (hN:Nat.blt d S.N=true) (hg:dM ops E g) (k:GL S ops κ rest H ((d,.vc q)::E) Q):GL S ops κ (⟨some d,.load t x,ty,pos,af,g⟩::rest) H E Q:=by
 subst hm;obtain⟨i,hi1,hi2⟩:=hi.at
 exact jR (p5 (k:=1) i rfl hi1 hj hq (.one ht) hC) ⟨dP hx,trivial⟩ hg hN k
theorem aNc {α:Type} {C:Cd α} {xs:List α} {β:Option Nat} {c T n1:Nat} {t off m:Nat} {x:Operand} {j:Int} {z:α} {q:CP} (hx:∀G,qP l0 ms E outs G i x=some (.vc (pE β j m off))) (hi:gE H β (hO C β c T n1 xs)) (hm:C.n=m) (hj:bM xs j=some z) (ht:Ty1 S.P t) (hq:rM 1 ((C.e z).drop off)=some [q]) (hC:Nat.ble (off+1) C.n=true) (hN:Nat.blt d S.N=true) (hg:GD l0 ms E outs i g) (h1:kN ms [] i [0]=true) {r0:List Ou} (hr:r0=.v (.vc q)::ro) (kk:DN S H l0 ms E outs n (i+1) l ro):DN S H l0 ms E outs (n+1) i (⟨some d,.load t x,ty,pos,af,g⟩::l) r0:=by
 subst hm;refine gJ (ins:=[(x,(.vc (pE β j C.n off)))]) (fun A=>?_) (fun G=>⟨bP (hx G),trivial⟩) hN hg h1 hr kk
 obtain⟨i,hi1,hi2⟩:=(hi.app (A:=A)).at
 exact p5 (k:=1) i rfl hi1 hj hq (.one ht) hC
theorem aNo {α:Type} {C:Cd α} {xs:List α} {β:Option Nat} {c T n1:Nat} {t off m u:Nat} {x:Operand} {j:Int} {z:α} {qs:List CP} (hx:ev E x=some (.vc (pE β j m off))) (hi:gE H β (hO C β c T n1 xs)) (hm:C.n=m) (hj:bM xs j=some z) (ht:TyA S.P t u) (hq:rM u ((C.e z).drop off)=some qs) (hC:Nat.ble (off+u) C.n=true) (hN:Nat.blt d S.N=true) (hg:dM ops E g) (k:GL S ops κ rest H ((d,.va qs)::E) Q):GL S ops κ (⟨some d,.load t x,ty,pos,af,g⟩::rest) H E Q:=by
 subst hm;obtain⟨i,hi1,hi2⟩:=hi.at
 exact jR (p5 (k:=u) i rfl hi1 hj hq (.agg ht (wB hq)) hC) ⟨dP hx,trivial⟩ hg hN k
theorem aNe {α:Type} {C:Cd α} {xs:List α} {β:Option Nat} {c T n1:Nat} {t off m u:Nat} {x:Operand} {j:Int} {z:α} {qs:List CP} (hx:∀G,qP l0 ms E outs G i x=some (.vc (pE β j m off))) (hi:gE H β (hO C β c T n1 xs)) (hm:C.n=m) (hj:bM xs j=some z) (ht:TyA S.P t u) (hq:rM u ((C.e z).drop off)=some qs) (hC:Nat.ble (off+u) C.n=true) (hN:Nat.blt d S.N=true) (hg:GD l0 ms E outs i g) (h1:kN ms [] i [0]=true) {r0:List Ou} (hr:r0=.v (.va qs)::ro) (kk:DN S H l0 ms E outs n (i+1) l ro):DN S H l0 ms E outs (n+1) i (⟨some d,.load t x,ty,pos,af,g⟩::l) r0:=by
 subst hm;refine gJ (ins:=[(x,(.vc (pE β j C.n off)))]) (fun A=>?_) (fun G=>⟨bP (hx G),trivial⟩) hN hg h1 hr kk
 obtain⟨i,hi1,hi2⟩:=(hi.app (A:=A)).at
 exact p5 (k:=u) i rfl hi1 hj hq (.agg ht (wB hq)) hC
theorem ty1s {P:Program} {t:Nat} [h:Ty1 P t]:(P.info? t).map (·.size)=some 1:=h.s
theorem tyAs {P:Program} {t k:Nat} [h:TyA P t k]:(P.info? t).map (·.size)=some k:=h.s
theorem aI3 {α:Type} {C:Cd α} {xs zs:List α} {β:Option Nat} {c T n1:Nat} {t off m u:Nat} {x y:Operand} {j:Int} {z z':α} {p:VP} (hx:ev E x=some (.vc (pE β j m off))) (hy:ev E y=some p) (hi:gE H β (hO C β c T n1 xs)) (hm:C.n=m) (hj:bM xs j=some z) (hs:nU xs j z'=some zs) (hT:(S.P.info? t).map (·.size)=some u) (hr:w8 H β (hO C β c T n1 xs) (hO C β c T n1 zs) H') (hp:p.flat) (hk:p.cells.length=u) (hq:w9 (C.e z) off p.cells=some (C.e z')) (k:GL S ops κ rest H' E Q):GL S ops κ (⟨none,.store t x y,ty,pos,af,none⟩::rest) H E Q:=by
 obtain⟨i,h1,h2,h3⟩:=hr.at
 subst hm
 exact⟨fun q=>oS (xT i rfl h1 hj hs hT hp hk hq h3) ⟨dP hx,dP hy,trivial⟩ (k.h q) rfl rfl⟩
theorem aSw {α:Type} {C:Cd α} {xs:List α} {t e q bytes:Nat} {x:Operand} (hx:ev E x=some (.vc (pS C xs))) (ht:TyS S.P t e q bytes) (hN:Nat.blt d S.N=true) (hg:dM ops E g) (k:GL S ops κ rest H ((d,.vc (pI .i64 xs.length))::E) Q):GL S ops κ (⟨some d,.call {callee:=.builtin .len,args:=#[x],argTypes:=#[t]},ty,pos,af,g⟩::rest) H E Q:=
 jR (uN rfl ht) ⟨dP hx,trivial⟩ hg hN k
theorem aRQ {α:Type} {C:Cd α} {xs:List α} {t e q bytes:Nat} {x:Operand} (hx:∀G,qP l0 ms E outs G i x=some (.vc (pS C xs))) (ht:TyS S.P t e q bytes) (hN:Nat.blt d S.N=true) (hg:GD l0 ms E outs i g) (h1:kN ms [] i [0]=true) {r0:List Ou} (hr:r0=.v (.vc (pI .i64 xs.length))::ro) (kk:DN S H l0 ms E outs n (i+1) l ro):DN S H l0 ms E outs (n+1) i (⟨some d,.call {callee:=.builtin .len,args:=#[x],argTypes:=#[t]},ty,pos,af,g⟩::l) r0:=
 gJ (fun A=>uN rfl ht) (fun G=>⟨bP (hx G),trivial⟩) hN hg h1 hr kk
theorem aRw {T T':Nat} {x y:Operand} {u v:Int} {k:IntKind} (hx:ev E x=some (.vc (pI k u))) (hy:ev E y=some (.vc (pI k v))) (hN:Nat.blt d S.N=true) (hg:dM ops E g) (k:GL S ops κ rest H ((d,.vc (pB (decide (u<v))))::E) Q):GL S ops κ (⟨some d,.binOp .lss T x y T',ty,pos,af,g⟩::rest) H E Q:=
 jR (aKU rfl) ⟨dP hx,dP hy,trivial⟩ hg hN k
theorem aSt {T T':Nat} {x y:Operand} {u v:Int} {k:IntKind} (hx:∀G,qP l0 ms E outs G i x=some (.vc (pI k u))) (hy:∀G,qP l0 ms E outs G i y=some (.vc (pI k v))) (hN:Nat.blt d S.N=true) (hg:GD l0 ms E outs i g) (h1:kN ms [] i [0]=true) {r0:List Ou} (hr:r0=.v (.vc (pB (decide (u<v))))::ro) (kk:DN S H l0 ms E outs n (i+1) l ro):DN S H l0 ms E outs (n+1) i (⟨some d,.binOp .lss T x y T',ty,pos,af,g⟩::l) r0:=
 gJ (fun A=>aKU rfl) (fun G=>⟨bP (hx G),bP (hy G),trivial⟩) hN hg h1 hr kk
theorem aR5 {T T':Nat} {x y:Operand} {u v:Int} {k:IntKind} {w:Bool} (hx:∀G,qP l0 ms E outs G i x=some (.vc (pI k u))) (hy:∀G,qP l0 ms E outs G i y=some (.vc (pI k v))) (hN:Nat.blt d S.N=true) (hg:GD l0 ms E outs i g) (h1:kN ms [] i [0]=true) (hb:(decide (u<v))=w) {r0:List Ou} (hr:r0=.v (.vc (pB w))::ro) (kk:DN S H l0 ms E outs n (i+1) l ro):DN S H l0 ms E outs (n+1) i (⟨some d,.binOp .lss T x y T',ty,pos,af,g⟩::l) r0:=
 gJ (fun A=>kW (aKU rfl) hb) (fun G=>⟨bP (hx G),bP (hy G),trivial⟩) hN hg h1 hr kk
theorem aRC {T T':Nat} {x y:Operand} {u v:Int} {k:IntKind} (hx:ev E x=some (.vc (pI k u))) (hy:ev E y=some (.vc (pI k v))) (hN:Nat.blt d S.N=true) (hg:dM ops E g) (k:GL S ops κ rest H ((d,.vc (pB (u==v)))::E) Q):GL S ops κ (⟨some d,.binOp .eql T x y T',ty,pos,af,g⟩::rest) H E Q:=
 jR (aQT rfl) ⟨dP hx,dP hy,trivial⟩ hg hN k
theorem aRy {T T':Nat} {x y:Operand} {u v:Int} {k:IntKind} (hx:∀G,qP l0 ms E outs G i x=some (.vc (pI k u))) (hy:∀G,qP l0 ms E outs G i y=some (.vc (pI k v))) (hN:Nat.blt d S.N=true) (hg:GD l0 ms E outs i g) (h1:kN ms [] i [0]=true) {r0:List Ou} (hr:r0=.v (.vc (pB (u==v)))::ro) (kk:DN S H l0 ms E outs n (i+1) l ro):DN S H l0 ms E outs (n+1) i (⟨some d,.binOp .eql T x y T',ty,pos,af,g⟩::l) r0:=
 gJ (fun A=>aQT rfl) (fun G=>⟨bP (hx G),bP (hy G),trivial⟩) hN hg h1 hr kk
theorem aSa {T T':Nat} {x y:Operand} {u v:Int} {k:IntKind} {w:Bool} (hx:∀G,qP l0 ms E outs G i x=some (.vc (pI k u))) (hy:∀G,qP l0 ms E outs G i y=some (.vc (pI k v))) (hN:Nat.blt d S.N=true) (hg:GD l0 ms E outs i g) (h1:kN ms [] i [0]=true) (hb:(u==v)=w) {r0:List Ou} (hr:r0=.v (.vc (pB w))::ro) (kk:DN S H l0 ms E outs n (i+1) l ro):DN S H l0 ms E outs (n+1) i (⟨some d,.binOp .eql T x y T',ty,pos,af,g⟩::l) r0:=
 gJ (fun A=>kW (aQT rfl) hb) (fun G=>⟨bP (hx G),bP (hy G),trivial⟩) hN hg h1 hr kk
theorem aRk {T T':Nat} {x y:Operand} {u v:Int} {k:IntKind} (hx:ev E x=some (.vc (pI k u))) (hy:ev E y=some (.vc (pI k v))) (hN:Nat.blt d S.N=true) (hg:dM ops E g) (k:GL S ops κ rest H ((d,.vc (pB (u != v)))::E) Q):GL S ops κ (⟨some d,.binOp .neq T x y T',ty,pos,af,g⟩::rest) H E Q:=
 jR (aQg rfl) ⟨dP hx,dP hy,trivial⟩ hg hN k
theorem aSn {T T':Nat} {x y:Operand} {u v:Int} {k:IntKind} (hx:∀G,qP l0 ms E outs G i x=some (.vc (pI k u))) (hy:∀G,qP l0 ms E outs G i y=some (.vc (pI k v))) (hN:Nat.blt d S.N=true) (hg:GD l0 ms E outs i g) (h1:kN ms [] i [0]=true) {r0:List Ou} (hr:r0=.v (.vc (pB (u != v)))::ro) (kk:DN S H l0 ms E outs n (i+1) l ro):DN S H l0 ms E outs (n+1) i (⟨some d,.binOp .neq T x y T',ty,pos,af,g⟩::l) r0:=
 gJ (fun A=>aQg rfl) (fun G=>⟨bP (hx G),bP (hy G),trivial⟩) hN hg h1 hr kk
theorem aRY {T T':Nat} {x y:Operand} {u v:Int} {k:IntKind} {w:Bool} (hx:∀G,qP l0 ms E outs G i x=some (.vc (pI k u))) (hy:∀G,qP l0 ms E outs G i y=some (.vc (pI k v))) (hN:Nat.blt d S.N=true) (hg:GD l0 ms E outs i g) (h1:kN ms [] i [0]=true) (hb:(u != v)=w) {r0:List Ou} (hr:r0=.v (.vc (pB w))::ro) (kk:DN S H l0 ms E outs n (i+1) l ro):DN S H l0 ms E outs (n+1) i (⟨some d,.binOp .neq T x y T',ty,pos,af,g⟩::l) r0:=
 gJ (fun A=>kW (aQg rfl) hb) (fun G=>⟨bP (hx G),bP (hy G),trivial⟩) hN hg h1 hr kk
theorem aRz {T T':Nat} {x y:Operand} {u v:Int} {k:IntKind} (hx:ev E x=some (.vc (pI k u))) (hy:ev E y=some (.vc (pI k v))) (hN:Nat.blt d S.N=true) (hg:dM ops E g) (k:GL S ops κ rest H ((d,.vc (pB (decide (u≤v))))::E) Q):GL S ops κ (⟨some d,.binOp .leq T x y T',ty,pos,af,g⟩::rest) H E Q:=
 jR (aPQ rfl) ⟨dP hx,dP hy,trivial⟩ hg hN k
theorem aSG {T T':Nat} {x y:Operand} {u v:Int} {k:IntKind} (hx:∀G,qP l0 ms E outs G i x=some (.vc (pI k u))) (hy:∀G,qP l0 ms E outs G i y=some (.vc (pI k v))) (hN:Nat.blt d S.N=true) (hg:GD l0 ms E outs i g) (h1:kN ms [] i [0]=true) {r0:List Ou} (hr:r0=.v (.vc (pB (decide (u≤v))))::ro) (kk:DN S H l0 ms E outs n (i+1) l ro):DN S H l0 ms E outs (n+1) i (⟨some d,.binOp .leq T x y T',ty,pos,af,g⟩::l) r0:=
 gJ (fun A=>aPQ rfl) (fun G=>⟨bP (hx G),bP (hy G),trivial⟩) hN hg h1 hr kk
theorem aRB {T T':Nat} {x y:Operand} {u v:Int} {k:IntKind} {w:Bool} (hx:∀G,qP l0 ms E outs G i x=some (.vc (pI k u))) (hy:∀G,qP l0 ms E outs G i y=some (.vc (pI k v))) (hN:Nat.blt d S.N=true) (hg:GD l0 ms E outs i g) (h1:kN ms [] i [0]=true) (hb:(decide (u≤v))=w) {r0:List Ou} (hr:r0=.v (.vc (pB w))::ro) (kk:DN S H l0 ms E outs n (i+1) l ro):DN S H l0 ms E outs (n+1) i (⟨some d,.binOp .leq T x y T',ty,pos,af,g⟩::l) r0:=
 gJ (fun A=>kW (aPQ rfl) hb) (fun G=>⟨bP (hx G),bP (hy G),trivial⟩) hN hg h1 hr kk
theorem aRu {T T':Nat} {x y:Operand} {u v:Int} {k:IntKind} (hx:ev E x=some (.vc (pI k u))) (hy:ev E y=some (.vc (pI k v))) (hN:Nat.blt d S.N=true) (hg:dM ops E g) (k:GL S ops κ rest H ((d,.vc (pB (decide (v<u))))::E) Q):GL S ops κ (⟨some d,.binOp .gtr T x y T',ty,pos,af,g⟩::rest) H E Q:=
 jR (aKG rfl) ⟨dP hx,dP hy,trivial⟩ hg hN k
theorem aSs {T T':Nat} {x y:Operand} {u v:Int} {k:IntKind} (hx:∀G,qP l0 ms E outs G i x=some (.vc (pI k u))) (hy:∀G,qP l0 ms E outs G i y=some (.vc (pI k v))) (hN:Nat.blt d S.N=true) (hg:GD l0 ms E outs i g) (h1:kN ms [] i [0]=true) {r0:List Ou} (hr:r0=.v (.vc (pB (decide (v<u))))::ro) (kk:DN S H l0 ms E outs n (i+1) l ro):DN S H l0 ms E outs (n+1) i (⟨some d,.binOp .gtr T x y T',ty,pos,af,g⟩::l) r0:=
 gJ (fun A=>aKG rfl) (fun G=>⟨bP (hx G),bP (hy G),trivial⟩) hN hg h1 hr kk
theorem aQ7 {T T':Nat} {x y:Operand} {u v:Int} {k:IntKind} {w:Bool} (hx:∀G,qP l0 ms E outs G i x=some (.vc (pI k u))) (hy:∀G,qP l0 ms E outs G i y=some (.vc (pI k v))) (hN:Nat.blt d S.N=true) (hg:GD l0 ms E outs i g) (h1:kN ms [] i [0]=true) (hb:(decide (v<u))=w) {r0:List Ou} (hr:r0=.v (.vc (pB w))::ro) (kk:DN S H l0 ms E outs n (i+1) l ro):DN S H l0 ms E outs (n+1) i (⟨some d,.binOp .gtr T x y T',ty,pos,af,g⟩::l) r0:=
 gJ (fun A=>kW (aKG rfl) hb) (fun G=>⟨bP (hx G),bP (hy G),trivial⟩) hN hg h1 hr kk
theorem aRb {T T':Nat} {x y:Operand} {u v:Int} {k:IntKind} (hx:ev E x=some (.vc (pI k u))) (hy:ev E y=some (.vc (pI k v))) (hN:Nat.blt d S.N=true) (hg:dM ops E g) (k:GL S ops κ rest H ((d,.vc (pB (decide (v≤u))))::E) Q):GL S ops κ (⟨some d,.binOp .geq T x y T',ty,pos,af,g⟩::rest) H E Q:=
 jR (aQz rfl) ⟨dP hx,dP hy,trivial⟩ hg hN k
theorem aSI {T T':Nat} {x y:Operand} {u v:Int} {k:IntKind} (hx:∀G,qP l0 ms E outs G i x=some (.vc (pI k u))) (hy:∀G,qP l0 ms E outs G i y=some (.vc (pI k v))) (hN:Nat.blt d S.N=true) (hg:GD l0 ms E outs i g) (h1:kN ms [] i [0]=true) {r0:List Ou} (hr:r0=.v (.vc (pB (decide (v≤u))))::ro) (kk:DN S H l0 ms E outs n (i+1) l ro):DN S H l0 ms E outs (n+1) i (⟨some d,.binOp .geq T x y T',ty,pos,af,g⟩::l) r0:=
 gJ (fun A=>aQz rfl) (fun G=>⟨bP (hx G),bP (hy G),trivial⟩) hN hg h1 hr kk
theorem aRn {T T':Nat} {x y:Operand} {u v:Int} {k:IntKind} {w:Bool} (hx:∀G,qP l0 ms E outs G i x=some (.vc (pI k u))) (hy:∀G,qP l0 ms E outs G i y=some (.vc (pI k v))) (hN:Nat.blt d S.N=true) (hg:GD l0 ms E outs i g) (h1:kN ms [] i [0]=true) (hb:(decide (v≤u))=w) {r0:List Ou} (hr:r0=.v (.vc (pB w))::ro) (kk:DN S H l0 ms E outs n (i+1) l ro):DN S H l0 ms E outs (n+1) i (⟨some d,.binOp .geq T x y T',ty,pos,af,g⟩::l) r0:=
 gJ (fun A=>kW (aQz rfl) hb) (fun G=>⟨bP (hx G),bP (hy G),trivial⟩) hN hg h1 hr kk
theorem aOA {T T':Nat} {x y:Operand} {u v r:Int} (hx:ev E x=some (.vc (pI .i64 u))) (hy:ev E y=some (.vc (pI .i64 v))) (hN:Nat.blt d S.N=true) (hg:dM ops E g) (h:aP (u+v)=some r) (k:GL S ops κ rest H ((d,.vc (pI .i64 r))::E) Q):GL S ops κ (⟨some d,.binOp .add T x y T',ty,pos,af,g⟩::rest) H E Q:=
 jR (w6 rfl h) ⟨dP hx,dP hy,trivial⟩ hg hN k
theorem aOL {T T':Nat} {x y:Operand} {u v r:Int} (hx:∀G,qP l0 ms E outs G i x=some (.vc (pI .i64 u))) (hy:∀G,qP l0 ms E outs G i y=some (.vc (pI .i64 v))) (hN:Nat.blt d S.N=true) (hg:GD l0 ms E outs i g) (h1:kN ms [] i [0]=true) (h:aP (u+v)=some r) {r0:List Ou} (hr:r0=.v (.vc (pI .i64 r))::ro) (kk:DN S H l0 ms E outs n (i+1) l ro):DN S H l0 ms E outs (n+1) i (⟨some d,.binOp .add T x y T',ty,pos,af,g⟩::l) r0:=
 gJ (fun A=>w6 rfl h) (fun G=>⟨bP (hx G),bP (hy G),trivial⟩) hN hg h1 hr kk
theorem aPz {T T':Nat} {x y:Operand} {u v r:Int} (hx:ev E x=some (.vc (pI .i64 u))) (hy:ev E y=some (.vc (pI .i64 v))) (hN:Nat.blt d S.N=true) (hg:dM ops E g) (h:aP (u-v)=some r) (k:GL S ops κ rest H ((d,.vc (pI .i64 r))::E) Q):GL S ops κ (⟨some d,.binOp .sub T x y T',ty,pos,af,g⟩::rest) H E Q:=
 jR (aCk rfl h) ⟨dP hx,dP hy,trivial⟩ hg hN k
theorem aPO {T T':Nat} {x y:Operand} {u v r:Int} (hx:∀G,qP l0 ms E outs G i x=some (.vc (pI .i64 u))) (hy:∀G,qP l0 ms E outs G i y=some (.vc (pI .i64 v))) (hN:Nat.blt d S.N=true) (hg:GD l0 ms E outs i g) (h1:kN ms [] i [0]=true) (h:aP (u-v)=some r) {r0:List Ou} (hr:r0=.v (.vc (pI .i64 r))::ro) (kk:DN S H l0 ms E outs n (i+1) l ro):DN S H l0 ms E outs (n+1) i (⟨some d,.binOp .sub T x y T',ty,pos,af,g⟩::l) r0:=
 gJ (fun A=>aCk rfl h) (fun G=>⟨bP (hx G),bP (hy G),trivial⟩) hN hg h1 hr kk
theorem aOY {T T':Nat} {x y:Operand} {u v r:Int} (hx:ev E x=some (.vc (pI .i64 u))) (hy:ev E y=some (.vc (pI .i64 v))) (hN:Nat.blt d S.N=true) (hg:dM ops E g) (h:aP (u*v)=some r) (k:GL S ops κ rest H ((d,.vc (pI .i64 r))::E) Q):GL S ops κ (⟨some d,.binOp .mul T x y T',ty,pos,af,g⟩::rest) H E Q:=
 jR (aJF rfl h) ⟨dP hx,dP hy,trivial⟩ hg hN k
theorem aPr {T T':Nat} {x y:Operand} {u v r:Int} (hx:∀G,qP l0 ms E outs G i x=some (.vc (pI .i64 u))) (hy:∀G,qP l0 ms E outs G i y=some (.vc (pI .i64 v))) (hN:Nat.blt d S.N=true) (hg:GD l0 ms E outs i g) (h1:kN ms [] i [0]=true) (h:aP (u*v)=some r) {r0:List Ou} (hr:r0=.v (.vc (pI .i64 r))::ro) (kk:DN S H l0 ms E outs n (i+1) l ro):DN S H l0 ms E outs (n+1) i (⟨some d,.binOp .mul T x y T',ty,pos,af,g⟩::l) r0:=
 gJ (fun A=>aJF rfl h) (fun G=>⟨bP (hx G),bP (hy G),trivial⟩) hN hg h1 hr kk
theorem aOB {T T':Nat} {x y:Operand} {u v r:Int} (hx:ev E x=some (.vc (pI .i64 u))) (hy:ev E y=some (.vc (pI .i64 v))) (hN:Nat.blt d S.N=true) (hg:dM ops E g) (h:w4 u v=some r) (k:GL S ops κ rest H ((d,.vc (pI .i64 r))::E) Q):GL S ops κ (⟨some d,.binOp .quo T x y T',ty,pos,af,g⟩::rest) H E Q:=
 jR (aD0 rfl h) ⟨dP hx,dP hy,trivial⟩ hg hN k
theorem aPi {T T':Nat} {x y:Operand} {u v r:Int} (hx:∀G,qP l0 ms E outs G i x=some (.vc (pI .i64 u))) (hy:∀G,qP l0 ms E outs G i y=some (.vc (pI .i64 v))) (hN:Nat.blt d S.N=true) (hg:GD l0 ms E outs i g) (h1:kN ms [] i [0]=true) (h:w4 u v=some r) {r0:List Ou} (hr:r0=.v (.vc (pI .i64 r))::ro) (kk:DN S H l0 ms E outs n (i+1) l ro):DN S H l0 ms E outs (n+1) i (⟨some d,.binOp .quo T x y T',ty,pos,af,g⟩::l) r0:=
 gJ (fun A=>aD0 rfl h) (fun G=>⟨bP (hx G),bP (hy G),trivial⟩) hN hg h1 hr kk
theorem aPp {T T':Nat} {x y:Operand} {u v r:Int} {k:IntKind} (hx:ev E x=some (.vc (pI k u))) (hy:ev E y=some (.vc (pI k v))) (hN:Nat.blt d S.N=true) (hg:dM ops E g) (h:wH u v=some r) (k:GL S ops κ rest H ((d,.vc (pI k r))::E) Q):GL S ops κ (⟨some d,.binOp .rem T x y T',ty,pos,af,g⟩::rest) H E Q:=
 jR (aBA rfl h) ⟨dP hx,dP hy,trivial⟩ hg hN k
theorem aPm {T T':Nat} {x y:Operand} {u v r:Int} {k:IntKind} (hx:∀G,qP l0 ms E outs G i x=some (.vc (pI k u))) (hy:∀G,qP l0 ms E outs G i y=some (.vc (pI k v))) (hN:Nat.blt d S.N=true) (hg:GD l0 ms E outs i g) (h1:kN ms [] i [0]=true) (h:wH u v=some r) {r0:List Ou} (hr:r0=.v (.vc (pI k r))::ro) (kk:DN S H l0 ms E outs n (i+1) l ro):DN S H l0 ms E outs (n+1) i (⟨some d,.binOp .rem T x y T',ty,pos,af,g⟩::l) r0:=
 gJ (fun A=>aBA rfl h) (fun G=>⟨bP (hx G),bP (hy G),trivial⟩) hN hg h1 hr kk
theorem aOQ {T:Nat} {x:Operand} {u:Bool} (hx:ev E x=some (.vc (pB u))) (hN:Nat.blt d S.N=true) (hg:dM ops E g) (k:GL S ops κ rest H ((d,.vc (pB (!u)))::E) Q):GL S ops κ (⟨some d,.unOp .not T x,ty,pos,af,g⟩::rest) H E Q:=
 jR (aJI rfl) ⟨dP hx,trivial⟩ hg hN k
theorem aPE {T:Nat} {x:Operand} {u:Bool} (hx:∀G,qP l0 ms E outs G i x=some (.vc (pB u))) (hN:Nat.blt d S.N=true) (hg:GD l0 ms E outs i g) (h1:kN ms [] i [0]=true) {r0:List Ou} (hr:r0=.v (.vc (pB (!u)))::ro) (kk:DN S H l0 ms E outs n (i+1) l ro):DN S H l0 ms E outs (n+1) i (⟨some d,.unOp .not T x,ty,pos,af,g⟩::l) r0:=
 gJ (fun A=>aJI rfl) (fun G=>⟨bP (hx G),trivial⟩) hN hg h1 hr kk
theorem aQk {T:Nat} {x:Operand} {u:Bool} {w:Bool} (hx:∀G,qP l0 ms E outs G i x=some (.vc (pB u))) (hN:Nat.blt d S.N=true) (hg:GD l0 ms E outs i g) (h1:kN ms [] i [0]=true) (hb:(!u)=w) {r0:List Ou} (hr:r0=.v (.vc (pB w))::ro) (kk:DN S H l0 ms E outs n (i+1) l ro):DN S H l0 ms E outs (n+1) i (⟨some d,.unOp .not T x,ty,pos,af,g⟩::l) r0:=
 gJ (fun A=>kW (aJI rfl) hb) (fun G=>⟨bP (hx G),trivial⟩) hN hg h1 hr kk
theorem aPe {T:Nat} {x:Operand} {u r:Int} (hx:ev E x=some (.vc (pI .i64 u))) (hN:Nat.blt d S.N=true) (hg:dM ops E g) (h:aP (-u)=some r) (k:GL S ops κ rest H ((d,.vc (pI .i64 r))::E) Q):GL S ops κ (⟨some d,.unOp .neg T x,ty,pos,af,g⟩::rest) H E Q:=
 jR (aPN rfl h) ⟨dP hx,trivial⟩ hg hN k
theorem aOR {T:Nat} {x:Operand} {u r:Int} (hx:∀G,qP l0 ms E outs G i x=some (.vc (pI .i64 u))) (hN:Nat.blt d S.N=true) (hg:GD l0 ms E outs i g) (h1:kN ms [] i [0]=true) (h:aP (-u)=some r) {r0:List Ou} (hr:r0=.v (.vc (pI .i64 r))::ro) (kk:DN S H l0 ms E outs n (i+1) l ro):DN S H l0 ms E outs (n+1) i (⟨some d,.unOp .neg T x,ty,pos,af,g⟩::l) r0:=
 gJ (fun A=>aPN rfl h) (fun G=>⟨bP (hx G),trivial⟩) hN hg h1 hr kk
theorem aPd {x:Operand} {p q:VP} (hx:ev E x=some (.t2 p q)) (hN:Nat.blt d S.N=true) (hg:dM ops E g) (k:GL S ops κ rest H ((d,p)::E) Q):GL S ops κ (⟨some d,.extract x 0,ty,pos,af,g⟩::rest) H E Q:=
 jR (aI8 rfl) ⟨dP hx,trivial⟩ hg hN k
theorem aO1 {x:Operand} {p q:VP} (hx:∀G,qP l0 ms E outs G i x=some (.t2 p q)) (hN:Nat.blt d S.N=true) (hg:GD l0 ms E outs i g) (h1:kN ms [] i [0]=true) {r0:List Ou} (hr:r0=.v (p)::ro) (kk:DN S H l0 ms E outs n (i+1) l ro):DN S H l0 ms E outs (n+1) i (⟨some d,.extract x 0,ty,pos,af,g⟩::l) r0:=
 gJ (fun A=>aI8 rfl) (fun G=>⟨bP (hx G),trivial⟩) hN hg h1 hr kk
theorem aPo {x:Operand} {p q:VP} (hx:ev E x=some (.t2 p q)) (hN:Nat.blt d S.N=true) (hg:dM ops E g) (k:GL S ops κ rest H ((d,q)::E) Q):GL S ops κ (⟨some d,.extract x 1,ty,pos,af,g⟩::rest) H E Q:=
 jR (aKc rfl) ⟨dP hx,trivial⟩ hg hN k
theorem aO2 {x:Operand} {p q:VP} (hx:∀G,qP l0 ms E outs G i x=some (.t2 p q)) (hN:Nat.blt d S.N=true) (hg:GD l0 ms E outs i g) (h1:kN ms [] i [0]=true) {r0:List Ou} (hr:r0=.v (q)::ro) (kk:DN S H l0 ms E outs n (i+1) l ro):DN S H l0 ms E outs (n+1) i (⟨some d,.extract x 1,ty,pos,af,g⟩::l) r0:=
 gJ (fun A=>aKc rfl) (fun G=>⟨bP (hx G),trivial⟩) hN hg h1 hr kk
theorem aPn {x:Operand} {p q r:VP} (hx:ev E x=some (.t3 p q r)) (hN:Nat.blt d S.N=true) (hg:dM ops E g) (k:GL S ops κ rest H ((d,p)::E) Q):GL S ops κ (⟨some d,.extract x 0,ty,pos,af,g⟩::rest) H E Q:=
 jR (aDp rfl) ⟨dP hx,trivial⟩ hg hN k
theorem aPB {x:Operand} {p q r:VP} (hx:∀G,qP l0 ms E outs G i x=some (.t3 p q r)) (hN:Nat.blt d S.N=true) (hg:GD l0 ms E outs i g) (h1:kN ms [] i [0]=true) {r0:List Ou} (hr:r0=.v (p)::ro) (kk:DN S H l0 ms E outs n (i+1) l ro):DN S H l0 ms E outs (n+1) i (⟨some d,.extract x 0,ty,pos,af,g⟩::l) r0:=
 gJ (fun A=>aDp rfl) (fun G=>⟨bP (hx G),trivial⟩) hN hg h1 hr kk
theorem aPh {x:Operand} {p q r:VP} (hx:ev E x=some (.t3 p q r)) (hN:Nat.blt d S.N=true) (hg:dM ops E g) (k:GL S ops κ rest H ((d,q)::E) Q):GL S ops κ (⟨some d,.extract x 1,ty,pos,af,g⟩::rest) H E Q:=
 jR (aDr rfl) ⟨dP hx,trivial⟩ hg hN k
theorem aOT {x:Operand} {p q r:VP} (hx:∀G,qP l0 ms E outs G i x=some (.t3 p q r)) (hN:Nat.blt d S.N=true) (hg:GD l0 ms E outs i g) (h1:kN ms [] i [0]=true) {r0:List Ou} (hr:r0=.v (q)::ro) (kk:DN S H l0 ms E outs n (i+1) l ro):DN S H l0 ms E outs (n+1) i (⟨some d,.extract x 1,ty,pos,af,g⟩::l) r0:=
 gJ (fun A=>aDr rfl) (fun G=>⟨bP (hx G),trivial⟩) hN hg h1 hr kk
theorem aO9 {x:Operand} {p q r:VP} (hx:ev E x=some (.t3 p q r)) (hN:Nat.blt d S.N=true) (hg:dM ops E g) (k:GL S ops κ rest H ((d,r)::E) Q):GL S ops κ (⟨some d,.extract x 2,ty,pos,af,g⟩::rest) H E Q:=
 jR (aDm rfl) ⟨dP hx,trivial⟩ hg hN k
theorem aPy {x:Operand} {p q r:VP} (hx:∀G,qP l0 ms E outs G i x=some (.t3 p q r)) (hN:Nat.blt d S.N=true) (hg:GD l0 ms E outs i g) (h1:kN ms [] i [0]=true) {r0:List Ou} (hr:r0=.v (r)::ro) (kk:DN S H l0 ms E outs n (i+1) l ro):DN S H l0 ms E outs (n+1) i (⟨some d,.extract x 2,ty,pos,af,g⟩::l) r0:=
 gJ (fun A=>aDm rfl) (fun G=>⟨bP (hx G),trivial⟩) hN hg h1 hr kk
theorem aRT {x y:Operand} {u v:Int} {ts:Array TypeId} (hx:ev E x=some (.vc (pI .i64 u))) (hy:ev E y=some (.vc (pI .i64 v))) (hN:Nat.blt d S.N=true) (hg:dM ops E g) (k:GL S ops κ rest H ((d,.vc (pI .i64 (min u v)))::E) Q):GL S ops κ (⟨some d,.call {callee:=.builtin .min,args:=#[x,y],argTypes:=ts},ty,pos,af,g⟩::rest) H E Q:=
 jR (aON rfl) ⟨dP hx,dP hy,trivial⟩ hg hN k
theorem aRq {x y:Operand} {u v:Int} {ts:Array TypeId} (hx:∀G,qP l0 ms E outs G i x=some (.vc (pI .i64 u))) (hy:∀G,qP l0 ms E outs G i y=some (.vc (pI .i64 v))) (hN:Nat.blt d S.N=true) (hg:GD l0 ms E outs i g) (h1:kN ms [] i [0]=true) {r0:List Ou} (hr:r0=.v (.vc (pI .i64 (min u v)))::ro) (kk:DN S H l0 ms E outs n (i+1) l ro):DN S H l0 ms E outs (n+1) i (⟨some d,.call {callee:=.builtin .min,args:=#[x,y],argTypes:=ts},ty,pos,af,g⟩::l) r0:=
 gJ (fun A=>aON rfl) (fun G=>⟨bP (hx G),bP (hy G),trivial⟩) hN hg h1 hr kk
theorem aRp {x y:Operand} {u v:Int} {ts:Array TypeId} (hx:ev E x=some (.vc (pI .i64 u))) (hy:ev E y=some (.vc (pI .i64 v))) (hN:Nat.blt d S.N=true) (hg:dM ops E g) (k:GL S ops κ rest H ((d,.vc (pI .i64 (max u v)))::E) Q):GL S ops κ (⟨some d,.call {callee:=.builtin .max,args:=#[x,y],argTypes:=ts},ty,pos,af,g⟩::rest) H E Q:=
 jR (aPj rfl) ⟨dP hx,dP hy,trivial⟩ hg hN k
theorem aRG {x y:Operand} {u v:Int} {ts:Array TypeId} (hx:∀G,qP l0 ms E outs G i x=some (.vc (pI .i64 u))) (hy:∀G,qP l0 ms E outs G i y=some (.vc (pI .i64 v))) (hN:Nat.blt d S.N=true) (hg:GD l0 ms E outs i g) (h1:kN ms [] i [0]=true) {r0:List Ou} (hr:r0=.v (.vc (pI .i64 (max u v)))::ro) (kk:DN S H l0 ms E outs n (i+1) l ro):DN S H l0 ms E outs (n+1) i (⟨some d,.call {callee:=.builtin .max,args:=#[x,y],argTypes:=ts},ty,pos,af,g⟩::l) r0:=
 gJ (fun A=>aPj rfl) (fun G=>⟨bP (hx G),bP (hy G),trivial⟩) hN hg h1 hr kk
theorem aRZ {α:Type} {C:Cd α} {xs zs:List α} {t e bytes:Nat} {x y:Operand} {hi:Int} {k:IntKind} (hx:ev E x=some (.vc (pS C xs))) (hy:ev E y=some (.vc (pI k hi))) (ht:TyS S.P t e C.n bytes) (hN:Nat.blt d S.N=true) (hg:dM ops E g) (h:slL xs 0 hi=some zs) (k:GL S ops κ rest H ((d,.vc (pS C zs))::E) Q):GL S ops κ (⟨some d,.slice t x none (some y) none,ty,pos,af,g⟩::rest) H E Q:=
 jR (aF7 rfl ht h) ⟨dP hx,dP hy,trivial⟩ hg hN k
theorem aQ8 {α:Type} {C:Cd α} {xs zs:List α} {t e bytes:Nat} {x y:Operand} {hi:Int} {k:IntKind} (hx:∀G,qP l0 ms E outs G i x=some (.vc (pS C xs))) (hy:∀G,qP l0 ms E outs G i y=some (.vc (pI k hi))) (ht:TyS S.P t e C.n bytes) (hN:Nat.blt d S.N=true) (hg:GD l0 ms E outs i g) (h1:kN ms [] i [0]=true) (h:slL xs 0 hi=some zs) {r0:List Ou} (hr:r0=.v (.vc (pS C zs))::ro) (kk:DN S H l0 ms E outs n (i+1) l ro):DN S H l0 ms E outs (n+1) i (⟨some d,.slice t x none (some y) none,ty,pos,af,g⟩::l) r0:=
 gJ (fun A=>aF7 rfl ht h) (fun G=>⟨bP (hx G),bP (hy G),trivial⟩) hN hg h1 hr kk
theorem aSe {α:Type} {C:Cd α} {xs zs:List α} {t e bytes:Nat} {x y:Operand} {lo:Int} {k:IntKind} (hx:ev E x=some (.vc (pS C xs))) (hy:ev E y=some (.vc (pI k lo))) (ht:TyS S.P t e C.n bytes) (hN:Nat.blt d S.N=true) (hg:dM ops E g) (h:slL xs lo xs.length=some zs) (k:GL S ops κ rest H ((d,.vc (pS C zs))::E) Q):GL S ops κ (⟨some d,.slice t x (some y) none none,ty,pos,af,g⟩::rest) H E Q:=
 jR (aLR rfl ht h) ⟨dP hx,dP hy,trivial⟩ hg hN k
theorem aSr {α:Type} {C:Cd α} {xs zs:List α} {t e bytes:Nat} {x y:Operand} {lo:Int} {k:IntKind} (hx:∀G,qP l0 ms E outs G i x=some (.vc (pS C xs))) (hy:∀G,qP l0 ms E outs G i y=some (.vc (pI k lo))) (ht:TyS S.P t e C.n bytes) (hN:Nat.blt d S.N=true) (hg:GD l0 ms E outs i g) (h1:kN ms [] i [0]=true) (h:slL xs lo xs.length=some zs) {r0:List Ou} (hr:r0=.v (.vc (pS C zs))::ro) (kk:DN S H l0 ms E outs n (i+1) l ro):DN S H l0 ms E outs (n+1) i (⟨some d,.slice t x (some y) none none,ty,pos,af,g⟩::l) r0:=
 gJ (fun A=>aLR rfl ht h) (fun G=>⟨bP (hx G),bP (hy G),trivial⟩) hN hg h1 hr kk
theorem aPI {α:Type} {C:Cd α} {xs zs:List α} {t e bytes:Nat} {x y z:Operand} {lo hi:Int} {k k2:IntKind} (hx:ev E x=some (.vc (pS C xs))) (hy:ev E y=some (.vc (pI k lo))) (hz:ev E z=some (.vc (pI k2 hi))) (ht:TyS S.P t e C.n bytes) (hN:Nat.blt d S.N=true) (hg:dM ops E g) (h:slL xs lo hi=some zs) (k:GL S ops κ rest H ((d,.vc (pS C zs))::E) Q):GL S ops κ (⟨some d,.slice t x (some y) (some z) none,ty,pos,af,g⟩::rest) H E Q:=
 jR (aJ9 rfl ht h) ⟨dP hx,dP hy,dP hz,trivial⟩ hg hN k
theorem aOI {α:Type} {C:Cd α} {xs zs:List α} {t e bytes:Nat} {x y z:Operand} {lo hi:Int} {k k2:IntKind} (hx:∀G,qP l0 ms E outs G i x=some (.vc (pS C xs))) (hy:∀G,qP l0 ms E outs G i y=some (.vc (pI k lo))) (hz:∀G,qP l0 ms E outs G i z=some (.vc (pI k2 hi))) (ht:TyS S.P t e C.n bytes) (hN:Nat.blt d S.N=true) (hg:GD l0 ms E outs i g) (h1:kN ms [] i [0]=true) (h:slL xs lo hi=some zs) {r0:List Ou} (hr:r0=.v (.vc (pS C zs))::ro) (kk:DN S H l0 ms E outs n (i+1) l ro):DN S H l0 ms E outs (n+1) i (⟨some d,.slice t x (some y) (some z) none,ty,pos,af,g⟩::l) r0:=
 gJ (fun A=>aJ9 rfl ht h) (fun G=>⟨bP (hx G),bP (hy G),bP (hz G),trivial⟩) hN hg h1 hr kk
theorem aRX {c x y:Operand} {p:VP} (hc:ev E c=some (.vc (pB true))) (hx:ev E x=some p) (hN:Nat.blt d S.N=true) (hg:dM ops E g) (k:GL S ops κ rest H ((d,p)::E) Q):GL S ops κ (⟨some d,.pick c x y,ty,pos,af,g⟩::rest) H E Q:=
 jR (wO rfl) ⟨dP hc,dP hx,trivial⟩ hg hN k
theorem aRN {c x y:Operand} {p:VP} (hc:∀G,qP l0 ms E outs G i c=some (.vc (pB true))) (hx:∀G,qP l0 ms E outs G i x=some p) (hN:Nat.blt d S.N=true) (hg:GD l0 ms E outs i g) (h1:kN ms [] i [0]=true) {r0:List Ou} (hr:r0=.v (p)::ro) (kk:DN S H l0 ms E outs n (i+1) l ro):DN S H l0 ms E outs (n+1) i (⟨some d,.pick c x y,ty,pos,af,g⟩::l) r0:=
 gJ (fun A=>wO rfl) (fun G=>⟨bP (hc G),bP (hx G),trivial⟩) hN hg h1 hr kk
theorem aRf {c x y:Operand} {p:VP} (hc:ev E c=some (.vc (pB false))) (hy:ev E y=some p) (hN:Nat.blt d S.N=true) (hg:dM ops E g) (k:GL S ops κ rest H ((d,p)::E) Q):GL S ops κ (⟨some d,.pick c x y,ty,pos,af,g⟩::rest) H E Q:=
 jR (xD rfl) ⟨dP hc,dP hy,trivial⟩ hg hN k
theorem aRv {c x y:Operand} {p:VP} (hc:∀G,qP l0 ms E outs G i c=some (.vc (pB false))) (hy:∀G,qP l0 ms E outs G i y=some p) (hN:Nat.blt d S.N=true) (hg:GD l0 ms E outs i g) (h1:kN ms [] i [0]=true) {r0:List Ou} (hr:r0=.v (p)::ro) (kk:DN S H l0 ms E outs n (i+1) l ro):DN S H l0 ms E outs (n+1) i (⟨some d,.pick c x y,ty,pos,af,g⟩::l) r0:=
 gJ (fun A=>xD rfl) (fun G=>⟨bP (hc G),bP (hy G),trivial⟩) hN hg h1 hr kk
theorem aSm {x:Operand} {β:Option Nat} {off:Nat} (hx:ev E x=some (.vc (pP β off))) (hN:Nat.blt d S.N=true) (hg:dM ops E g) (k:GL S ops κ rest H ((d,.vc (pP β off))::E) Q):GL S ops κ (⟨some d,.nilCheck x,ty,pos,af,g⟩::rest) H E Q:=
 jR (xX rfl) ⟨dP hx,trivial⟩ hg hN k
theorem aRR {x:Operand} {β:Option Nat} {off:Nat} (hx:∀G,qP l0 ms E outs G i x=some (.vc (pP β off))) (hN:Nat.blt d S.N=true) (hg:GD l0 ms E outs i g) (h1:kN ms [] i [0]=true) {r0:List Ou} (hr:r0=.v (.vc (pP β off))::ro) (kk:DN S H l0 ms E outs n (i+1) l ro):DN S H l0 ms E outs (n+1) i (⟨some d,.nilCheck x,ty,pos,af,g⟩::l) r0:=
 gJ (fun A=>xX rfl) (fun G=>⟨bP (hx G),trivial⟩) hN hg h1 hr kk
theorem aPg {x:Operand} {β:Option Nat} {j:Int} {n f:Nat} (hx:ev E x=some (.vc (pE β j n f))) (hN:Nat.blt d S.N=true) (hg:dM ops E g) (k:GL S ops κ rest H ((d,.vc (pE β j n f))::E) Q):GL S ops κ (⟨some d,.nilCheck x,ty,pos,af,g⟩::rest) H E Q:=
 jR (aLm rfl) ⟨dP hx,trivial⟩ hg hN k
theorem aPP {x:Operand} {β:Option Nat} {j:Int} {n f:Nat} (hx:∀G,qP l0 ms E outs G i x=some (.vc (pE β j n f))) (hN:Nat.blt d S.N=true) (hg:GD l0 ms E outs i g) (h1:kN ms [] i [0]=true) {r0:List Ou} (hr:r0=.v (.vc (pE β j n f))::ro) (kk:DN S H l0 ms E outs n (i+1) l ro):DN S H l0 ms E outs (n+1) i (⟨some d,.nilCheck x,ty,pos,af,g⟩::l) r0:=
 gJ (fun A=>aLm rfl) (fun G=>⟨bP (hx G),trivial⟩) hN hg h1 hr kk
theorem aPG {x:Operand} {ps:List CP} (hx:ev E x=some (.vc (pM ps))) (hN:Nat.blt d S.N=true) (hg:dM ops E g) (k:GL S ops κ rest H ((d,.vc (pM ps))::E) Q):GL S ops κ (⟨some d,.nilCheck x,ty,pos,af,g⟩::rest) H E Q:=
 jR (aLC rfl) ⟨dP hx,trivial⟩ hg hN k
theorem aOJ {x:Operand} {ps:List CP} (hx:∀G,qP l0 ms E outs G i x=some (.vc (pM ps))) (hN:Nat.blt d S.N=true) (hg:GD l0 ms E outs i g) (h1:kN ms [] i [0]=true) {r0:List Ou} (hr:r0=.v (.vc (pM ps))::ro) (kk:DN S H l0 ms E outs n (i+1) l ro):DN S H l0 ms E outs (n+1) i (⟨some d,.nilCheck x,ty,pos,af,g⟩::l) r0:=
 gJ (fun A=>aLC rfl) (fun G=>⟨bP (hx G),trivial⟩) hN hg h1 hr kk
theorem aLN {f:Nat} {xs:List Operand} {ps:List VP} {post:VP} {ts:Array TypeId} (he:evs E xs=some ps) (hN:Nat.blt d S.N=true) (hg:dM ops E g) (c:Ct S.P f ps post) (k:GL S ops κ rest H ((d,post)::E) Q):GL S ops κ (⟨some d,.call {callee:=.value (.func f),args:=xs.toArray,argTypes:=ts},ty,pos,af,g⟩::rest) H E Q:=
 jR (bS rfl c (aFN he).2) (aFN he).1 hg hN k
theorem aOW {T:Nat} {zs:List CP} (hz:TyZ S.P T zs) (hN:Nat.blt d S.N=true) {r0:List Ou} (hr:r0=.a T zs::ro) (k:DN S H l0 ms E outs n (i+1) l ro):DN S H l0 ms E outs (n+1) i (⟨some d,.alloc T,ty,pos,af,none⟩::l) r0:=by
 subst hr
 exact aFY hN (.alc hz rfl rfl rfl) k
theorem aLw {f:Nat} {xs:List Operand} {ps:List VP} {post:VP} {ts:Array TypeId} (he:∀G,aQe l0 ms E outs G i xs=some ps) (hN:Nat.blt d S.N=true) (hg:GD l0 ms E outs i g) (h1:kN ms [] i [0]=true) (c:Ct S.P f ps post) {r0:List Ou} (hr:r0=.v post::ro) (k:DN S H l0 ms E outs n (i+1) l ro):DN S H l0 ms E outs (n+1) i (⟨some d,.call {callee:=.value (.func f),args:=xs.toArray,argTypes:=ts},ty,pos,af,g⟩::l) r0:=
 gJ (fun A=>bS rfl c (aDo (he fun _=>(none,0))).2) (fun G=>(aDo (he G)).1) hN hg h1 hr k
theorem aSd {t off:Nat} {x y:Operand} {β:Option Nat} {e:HA} {p:VP} {ps:List CP} (hx:ev E x=some (.vc (pP β off))) (hy:ev E y=some p) (ht:Ty1 S.P t) (hi:w8 H β e ⟨e.β,e.c,e.T,e.sz,e.n,ps⟩ H') (hp:p.flat) (hk:p.cells.length=1) (hq:w9 e.ps off p.cells=some ps) (k:GL S ops κ rest H' E Q):GL S ops κ (⟨none,.store t x y,ty,pos,af,none⟩::rest) H E Q:=by
 obtain⟨i,h1,h2,h3⟩:=hi.at
 exact⟨fun q=>oS (t_s i rfl h1 h2 ht.s hp hk hq h3) ⟨dP hx,dP hy,trivial⟩ (k.h q) rfl rfl⟩
theorem aSc {t off r:Nat} {x y:Operand} {β:Option Nat} {e:HA} {p:VP} {ps:List CP} (hx:ev E x=some (.vc (pP β off))) (hy:ev E y=some p) (ht:TyA S.P t r) (hi:w8 H β e ⟨e.β,e.c,e.T,e.sz,e.n,ps⟩ H') (hp:p.flat) (hk:p.cells.length=r) (hq:w9 e.ps off p.cells=some ps) (k:GL S ops κ rest H' E Q):GL S ops κ (⟨none,.store t x y,ty,pos,af,none⟩::rest) H E Q:=by
 obtain⟨i,h1,h2,h3⟩:=hi.at
 exact⟨fun q=>oS (t_s i rfl h1 h2 ht.s hp hk hq h3) ⟨dP hx,dP hy,trivial⟩ (k.h q) rfl rfl⟩
theorem dr {id:Nat} (ms:List Nat) (m n:Nat) (outs:List Ou) (k:∀bs G,WL S l.toArray κ (l.drop outs.length) (aCl bs 0 outs++H) (aB3 bs G 0 l outs++E)) (hops:DN S H l ms E outs m 0 l outs:=by
 repeat (first
  |(apply aRF;exact fun _=>rfl;exact rfl;(first|exact GD.p|exact GD.g rfl (fun _=>rfl));exact rfl;exact rfl)
  |(apply aRD;exact fun _=>rfl;exact rfl;(first|exact GD.p|exact GD.g rfl (fun _=>rfl));exact rfl;exact rfl)
  |(apply e_n;exact rfl;exact fun _=>rfl;exact rfl;exact rfl;exact rfl)
  |(apply aRg;exact fun _=>rfl;exact fun _=>rfl;exact inferInstance;exact rfl;(first|exact GD.p|exact GD.g rfl (fun _=>rfl));exact rfl;(with_reducible assumption);exact rfl)
  |(apply aOG;exact fun _=>rfl;exact inferInstance;exact rfl;(first|exact GD.p|exact GD.g rfl (fun _=>rfl));exact rfl;exact rfl)
  |(apply aSk;exact fun _=>rfl;exact inferInstance;exact rfl;(first|exact GD.p|exact GD.g rfl (fun _=>rfl));exact rfl;exact rfl)
  |(apply aOX;exact fun _=>rfl;exact inferInstance;exact rfl;(first|exact GD.p|exact GD.g rfl (fun _=>rfl));exact rfl;exact rfl)
  |(apply aPJ;exact fun _=>rfl;exact inferInstance;exact rfl;exact rfl;(first|exact GD.p|exact GD.g rfl (fun _=>rfl));exact rfl;exact rfl)
  |(apply aOC;exact fun _=>rfl;exact inferInstance;exact rfl;exact rfl;(first|exact GD.p|exact GD.g rfl (fun _=>rfl));exact rfl;exact rfl)
  |(apply aSB;exact fun _=>rfl;exact inferInstance;(repeat (first|exact gE.a rfl|apply gE.b));exact rfl;exact rfl;(first|exact GD.p|exact GD.g rfl (fun _=>rfl));exact rfl;exact rfl)
  |(apply aSy;exact fun _=>rfl;exact inferInstance;(repeat (first|exact gE.a rfl|apply gE.b));exact rfl;exact rfl;(first|exact GD.p|exact GD.g rfl (fun _=>rfl));exact rfl;exact rfl)
  |(apply aO4;exact fun _=>rfl;exact fun _=>rfl;(repeat (first|exact gE.a rfl|apply gE.b));(first|exact rfl|with_reducible assumption|exact bI (by with_reducible assumption) (by first|with_reducible assumption|exact rfl));exact inferInstance;exact rfl;(first|exact GD.p|exact GD.g rfl (fun _=>rfl));exact rfl;(with_reducible assumption);exact rfl)
  |(apply aOP;exact fun _=>rfl;(repeat (first|exact gE.a rfl|apply gE.b));(first|exact rfl|with_reducible assumption|exact bI (by with_reducible assumption) (by first|with_reducible assumption|exact rfl));exact inferInstance;exact rfl;(first|exact GD.p|exact GD.g rfl (fun _=>rfl));exact rfl;exact rfl)
  |(apply aNc;exact fun _=>rfl;(repeat (first|exact gE.a rfl|apply gE.b));exact rfl;(with_reducible assumption);exact inferInstance;exact rfl;exact rfl;exact rfl;(first|exact GD.p|exact GD.g rfl (fun _=>rfl));exact rfl;exact rfl)
  |(apply aNe;exact fun _=>rfl;(repeat (first|exact gE.a rfl|apply gE.b));exact rfl;(with_reducible assumption);exact inferInstance;exact rfl;exact rfl;exact rfl;(first|exact GD.p|exact GD.g rfl (fun _=>rfl));exact rfl;exact rfl)
  |(apply aRQ;exact fun _=>rfl;exact inferInstance;exact rfl;(first|exact GD.p|exact GD.g rfl (fun _=>rfl));exact rfl;exact rfl)
  |(apply aSt;exact fun _=>rfl;exact fun _=>rfl;exact rfl;(first|exact GD.p|exact GD.g rfl (fun _=>rfl));exact rfl;exact rfl)
  |(apply aRy;exact fun _=>rfl;exact fun _=>rfl;exact rfl;(first|exact GD.p|exact GD.g rfl (fun _=>rfl));exact rfl;exact rfl)
  |(apply aSn;exact fun _=>rfl;exact fun _=>rfl;exact rfl;(first|exact GD.p|exact GD.g rfl (fun _=>rfl));exact rfl;exact rfl)
  |(apply aSG;exact fun _=>rfl;exact fun _=>rfl;exact rfl;(first|exact GD.p|exact GD.g rfl (fun _=>rfl));exact rfl;exact rfl)
  |(apply aSs;exact fun _=>rfl;exact fun _=>rfl;exact rfl;(first|exact GD.p|exact GD.g rfl (fun _=>rfl));exact rfl;exact rfl)
  |(apply aSI;exact fun _=>rfl;exact fun _=>rfl;exact rfl;(first|exact GD.p|exact GD.g rfl (fun _=>rfl));exact rfl;exact rfl)
  |(apply aOL;exact fun _=>rfl;exact fun _=>rfl;exact rfl;(first|exact GD.p|exact GD.g rfl (fun _=>rfl));exact rfl;(with_reducible assumption);exact rfl)
  |(apply aPO;exact fun _=>rfl;exact fun _=>rfl;exact rfl;(first|exact GD.p|exact GD.g rfl (fun _=>rfl));exact rfl;(with_reducible assumption);exact rfl)
  |(apply aPr;exact fun _=>rfl;exact fun _=>rfl;exact rfl;(first|exact GD.p|exact GD.g rfl (fun _=>rfl));exact rfl;(with_reducible assumption);exact rfl)
  |(apply aPi;exact fun _=>rfl;exact fun _=>rfl;exact rfl;(first|exact GD.p|exact GD.g rfl (fun _=>rfl));exact rfl;(with_reducible assumption);exact rfl)
  |(apply aPm;exact fun _=>rfl;exact fun _=>rfl;exact rfl;(first|exact GD.p|exact GD.g rfl (fun _=>rfl));exact rfl;(with_reducible assumption);exact rfl)
  |(apply aPE;exact fun _=>rfl;exact rfl;(first|exact GD.p|exact GD.g rfl (fun _=>rfl));exact rfl;exact rfl)
  |(apply aOR;exact fun _=>rfl;exact rfl;(first|exact GD.p|exact GD.g rfl (fun _=>rfl));exact rfl;(with_reducible assumption);exact rfl)
  |(apply aO1;exact fun _=>rfl;exact rfl;(first|exact GD.p|exact GD.g rfl (fun _=>rfl));exact rfl;exact rfl)
  |(apply aO2;exact fun _=>rfl;exact rfl;(first|exact GD.p|exact GD.g rfl (fun _=>rfl));exact rfl;exact rfl)
  |(apply aPB;exact fun _=>rfl;exact rfl;(first|exact GD.p|exact GD.g rfl (fun _=>rfl));exact rfl;exact rfl)
  |(apply aOT;exact fun _=>rfl;exact rfl;(first|exact GD.p|exact GD.g rfl (fun _=>rfl));exact rfl;exact rfl)
  |(apply aPy;exact fun _=>rfl;exact rfl;(first|exact GD.p|exact GD.g rfl (fun _=>rfl));exact rfl;exact rfl)
  |(apply aRq;exact fun _=>rfl;exact fun _=>rfl;exact rfl;(first|exact GD.p|exact GD.g rfl (fun _=>rfl));exact rfl;exact rfl)
  |(apply aRG;exact fun _=>rfl;exact fun _=>rfl;exact rfl;(first|exact GD.p|exact GD.g rfl (fun _=>rfl));exact rfl;exact rfl)
  |(apply aQ8;exact fun _=>rfl;exact fun _=>rfl;exact inferInstance;exact rfl;(first|exact GD.p|exact GD.g rfl (fun _=>rfl));exact rfl;(with_reducible assumption);exact rfl)
  |(apply aSr;exact fun _=>rfl;exact fun _=>rfl;exact inferInstance;exact rfl;(first|exact GD.p|exact GD.g rfl (fun _=>rfl));exact rfl;(with_reducible assumption);exact rfl)
  |(apply aOI;exact fun _=>rfl;exact fun _=>rfl;exact fun _=>rfl;exact inferInstance;exact rfl;(first|exact GD.p|exact GD.g rfl (fun _=>rfl));exact rfl;(with_reducible assumption);exact rfl)
  |(apply aRN;exact fun _=>rfl;exact fun _=>rfl;exact rfl;(first|exact GD.p|exact GD.g rfl (fun _=>rfl));exact rfl;exact rfl)
  |(apply aRv;exact fun _=>rfl;exact fun _=>rfl;exact rfl;(first|exact GD.p|exact GD.g rfl (fun _=>rfl));exact rfl;exact rfl)
  |(apply aRR;exact fun _=>rfl;exact rfl;(first|exact GD.p|exact GD.g rfl (fun _=>rfl));exact rfl;exact rfl)
  |(apply aPP;exact fun _=>rfl;exact rfl;(first|exact GD.p|exact GD.g rfl (fun _=>rfl));exact rfl;exact rfl)
  |(apply aOJ;exact fun _=>rfl;exact rfl;(first|exact GD.p|exact GD.g rfl (fun _=>rfl));exact rfl;exact rfl)
  |(apply aLw;exact fun _=>rfl;exact rfl;(first|exact GD.p|exact GD.g rfl (fun _=>rfl));exact rfl;assumption;exact rfl)
  |(apply aOW;exact inferInstance;exact rfl;exact rfl)
  |(apply e_u;exact rfl;exact fun _=>rfl;exact rfl;exact rfl)
  |(apply aPw;exact rfl))) (hx:Mix S.P:=by infer_instance)
  (hm:aBv ms l ms=true:=by kernel_rfl) (hb:wS l 0=true:=by kernel_rfl) (hq:aAr l=true:=by kernel_rfl) (hm2:Nat.beq l.length (m+n)=true:=by kernel_rfl) (ht:aBy l ms m n=true:=by kernel_rfl):WC S (.region id l.toArray true) κ H E:=
 kG ms m n outs hx.h hops.h k hm hb hq (by rw [hops.len];simp) hm2 ht
theorem drb {id:Nat} (ms:List Nat) (m n:Nat) (outs:List Ou) (k:∀bs G,WL S l.toArray κ (l.drop outs.length) (aCl bs 0 outs++H) (aB3 bs G 0 l outs++E)) (hops:DN S H l ms E outs m 0 l outs:=by
 repeat (first
  |(apply aRt;exact fun _=>rfl;exact rfl;(first|exact GD.p|exact GD.g rfl (fun _=>rfl));exact rfl;(with_reducible assumption);exact rfl)
  |(apply aSo;exact fun _=>rfl;exact rfl;(first|exact GD.p|exact GD.g rfl (fun _=>rfl));exact rfl;(with_reducible assumption);exact rfl)
  |(apply aR5;exact fun _=>rfl;exact fun _=>rfl;exact rfl;(first|exact GD.p|exact GD.g rfl (fun _=>rfl));exact rfl;(with_reducible assumption);exact rfl)
  |(apply aSa;exact fun _=>rfl;exact fun _=>rfl;exact rfl;(first|exact GD.p|exact GD.g rfl (fun _=>rfl));exact rfl;(with_reducible assumption);exact rfl)
  |(apply aRY;exact fun _=>rfl;exact fun _=>rfl;exact rfl;(first|exact GD.p|exact GD.g rfl (fun _=>rfl));exact rfl;(with_reducible assumption);exact rfl)
  |(apply aRB;exact fun _=>rfl;exact fun _=>rfl;exact rfl;(first|exact GD.p|exact GD.g rfl (fun _=>rfl));exact rfl;(with_reducible assumption);exact rfl)
  |(apply aQ7;exact fun _=>rfl;exact fun _=>rfl;exact rfl;(first|exact GD.p|exact GD.g rfl (fun _=>rfl));exact rfl;(with_reducible assumption);exact rfl)
  |(apply aRn;exact fun _=>rfl;exact fun _=>rfl;exact rfl;(first|exact GD.p|exact GD.g rfl (fun _=>rfl));exact rfl;(with_reducible assumption);exact rfl)
  |(apply aQk;exact fun _=>rfl;exact rfl;(first|exact GD.p|exact GD.g rfl (fun _=>rfl));exact rfl;(with_reducible assumption);exact rfl)
  |(apply aRF;exact fun _=>rfl;exact rfl;(first|exact GD.p|exact GD.g rfl (fun _=>rfl));exact rfl;exact rfl)
  |(apply aRD;exact fun _=>rfl;exact rfl;(first|exact GD.p|exact GD.g rfl (fun _=>rfl));exact rfl;exact rfl)
  |(apply e_n;exact rfl;exact fun _=>rfl;exact rfl;exact rfl;exact rfl)
  |(apply aRg;exact fun _=>rfl;exact fun _=>rfl;exact inferInstance;exact rfl;(first|exact GD.p|exact GD.g rfl (fun _=>rfl));exact rfl;(with_reducible assumption);exact rfl)
  |(apply aOG;exact fun _=>rfl;exact inferInstance;exact rfl;(first|exact GD.p|exact GD.g rfl (fun _=>rfl));exact rfl;exact rfl)
  |(apply aSk;exact fun _=>rfl;exact inferInstance;exact rfl;(first|exact GD.p|exact GD.g rfl (fun _=>rfl));exact rfl;exact rfl)
  |(apply aOX;exact fun _=>rfl;exact inferInstance;exact rfl;(first|exact GD.p|exact GD.g rfl (fun _=>rfl));exact rfl;exact rfl)
  |(apply aPJ;exact fun _=>rfl;exact inferInstance;exact rfl;exact rfl;(first|exact GD.p|exact GD.g rfl (fun _=>rfl));exact rfl;exact rfl)
  |(apply aOC;exact fun _=>rfl;exact inferInstance;exact rfl;exact rfl;(first|exact GD.p|exact GD.g rfl (fun _=>rfl));exact rfl;exact rfl)
  |(apply aSB;exact fun _=>rfl;exact inferInstance;(repeat (first|exact gE.a rfl|apply gE.b));exact rfl;exact rfl;(first|exact GD.p|exact GD.g rfl (fun _=>rfl));exact rfl;exact rfl)
  |(apply aSy;exact fun _=>rfl;exact inferInstance;(repeat (first|exact gE.a rfl|apply gE.b));exact rfl;exact rfl;(first|exact GD.p|exact GD.g rfl (fun _=>rfl));exact rfl;exact rfl)
  |(apply aO4;exact fun _=>rfl;exact fun _=>rfl;(repeat (first|exact gE.a rfl|apply gE.b));(first|exact rfl|with_reducible assumption|exact bI (by with_reducible assumption) (by first|with_reducible assumption|exact rfl));exact inferInstance;exact rfl;(first|exact GD.p|exact GD.g rfl (fun _=>rfl));exact rfl;(with_reducible assumption);exact rfl)
  |(apply aOP;exact fun _=>rfl;(repeat (first|exact gE.a rfl|apply gE.b));(first|exact rfl|with_reducible assumption|exact bI (by with_reducible assumption) (by first|with_reducible assumption|exact rfl));exact inferInstance;exact rfl;(first|exact GD.p|exact GD.g rfl (fun _=>rfl));exact rfl;exact rfl)
  |(apply aNc;exact fun _=>rfl;(repeat (first|exact gE.a rfl|apply gE.b));exact rfl;(with_reducible assumption);exact inferInstance;exact rfl;exact rfl;exact rfl;(first|exact GD.p|exact GD.g rfl (fun _=>rfl));exact rfl;exact rfl)
  |(apply aNe;exact fun _=>rfl;(repeat (first|exact gE.a rfl|apply gE.b));exact rfl;(with_reducible assumption);exact inferInstance;exact rfl;exact rfl;exact rfl;(first|exact GD.p|exact GD.g rfl (fun _=>rfl));exact rfl;exact rfl)
  |(apply aRQ;exact fun _=>rfl;exact inferInstance;exact rfl;(first|exact GD.p|exact GD.g rfl (fun _=>rfl));exact rfl;exact rfl)
  |(apply aSt;exact fun _=>rfl;exact fun _=>rfl;exact rfl;(first|exact GD.p|exact GD.g rfl (fun _=>rfl));exact rfl;exact rfl)
  |(apply aRy;exact fun _=>rfl;exact fun _=>rfl;exact rfl;(first|exact GD.p|exact GD.g rfl (fun _=>rfl));exact rfl;exact rfl)
  |(apply aSn;exact fun _=>rfl;exact fun _=>rfl;exact rfl;(first|exact GD.p|exact GD.g rfl (fun _=>rfl));exact rfl;exact rfl)
  |(apply aSG;exact fun _=>rfl;exact fun _=>rfl;exact rfl;(first|exact GD.p|exact GD.g rfl (fun _=>rfl));exact rfl;exact rfl)
  |(apply aSs;exact fun _=>rfl;exact fun _=>rfl;exact rfl;(first|exact GD.p|exact GD.g rfl (fun _=>rfl));exact rfl;exact rfl)
  |(apply aSI;exact fun _=>rfl;exact fun _=>rfl;exact rfl;(first|exact GD.p|exact GD.g rfl (fun _=>rfl));exact rfl;exact rfl)
  |(apply aOL;exact fun _=>rfl;exact fun _=>rfl;exact rfl;(first|exact GD.p|exact GD.g rfl (fun _=>rfl));exact rfl;(with_reducible assumption);exact rfl)
  |(apply aPO;exact fun _=>rfl;exact fun _=>rfl;exact rfl;(first|exact GD.p|exact GD.g rfl (fun _=>rfl));exact rfl;(with_reducible assumption);exact rfl)
  |(apply aPr;exact fun _=>rfl;exact fun _=>rfl;exact rfl;(first|exact GD.p|exact GD.g rfl (fun _=>rfl));exact rfl;(with_reducible assumption);exact rfl)
  |(apply aPi;exact fun _=>rfl;exact fun _=>rfl;exact rfl;(first|exact GD.p|exact GD.g rfl (fun _=>rfl));exact rfl;(with_reducible assumption);exact rfl)
  |(apply aPm;exact fun _=>rfl;exact fun _=>rfl;exact rfl;(first|exact GD.p|exact GD.g rfl (fun _=>rfl));exact rfl;(with_reducible assumption);exact rfl)
  |(apply aPE;exact fun _=>rfl;exact rfl;(first|exact GD.p|exact GD.g rfl (fun _=>rfl));exact rfl;exact rfl)
  |(apply aOR;exact fun _=>rfl;exact rfl;(first|exact GD.p|exact GD.g rfl (fun _=>rfl));exact rfl;(with_reducible assumption);exact rfl)
  |(apply aO1;exact fun _=>rfl;exact rfl;(first|exact GD.p|exact GD.g rfl (fun _=>rfl));exact rfl;exact rfl)
  |(apply aO2;exact fun _=>rfl;exact rfl;(first|exact GD.p|exact GD.g rfl (fun _=>rfl));exact rfl;exact rfl)
  |(apply aPB;exact fun _=>rfl;exact rfl;(first|exact GD.p|exact GD.g rfl (fun _=>rfl));exact rfl;exact rfl)
  |(apply aOT;exact fun _=>rfl;exact rfl;(first|exact GD.p|exact GD.g rfl (fun _=>rfl));exact rfl;exact rfl)
  |(apply aPy;exact fun _=>rfl;exact rfl;(first|exact GD.p|exact GD.g rfl (fun _=>rfl));exact rfl;exact rfl)
  |(apply aRq;exact fun _=>rfl;exact fun _=>rfl;exact rfl;(first|exact GD.p|exact GD.g rfl (fun _=>rfl));exact rfl;exact rfl)
  |(apply aRG;exact fun _=>rfl;exact fun _=>rfl;exact rfl;(first|exact GD.p|exact GD.g rfl (fun _=>rfl));exact rfl;exact rfl)
  |(apply aQ8;exact fun _=>rfl;exact fun _=>rfl;exact inferInstance;exact rfl;(first|exact GD.p|exact GD.g rfl (fun _=>rfl));exact rfl;(with_reducible assumption);exact rfl)
  |(apply aSr;exact fun _=>rfl;exact fun _=>rfl;exact inferInstance;exact rfl;(first|exact GD.p|exact GD.g rfl (fun _=>rfl));exact rfl;(with_reducible assumption);exact rfl)
  |(apply aOI;exact fun _=>rfl;exact fun _=>rfl;exact fun _=>rfl;exact inferInstance;exact rfl;(first|exact GD.p|exact GD.g rfl (fun _=>rfl));exact rfl;(with_reducible assumption);exact rfl)
  |(apply aRN;exact fun _=>rfl;exact fun _=>rfl;exact rfl;(first|exact GD.p|exact GD.g rfl (fun _=>rfl));exact rfl;exact rfl)
  |(apply aRv;exact fun _=>rfl;exact fun _=>rfl;exact rfl;(first|exact GD.p|exact GD.g rfl (fun _=>rfl));exact rfl;exact rfl)
  |(apply aRR;exact fun _=>rfl;exact rfl;(first|exact GD.p|exact GD.g rfl (fun _=>rfl));exact rfl;exact rfl)
  |(apply aPP;exact fun _=>rfl;exact rfl;(first|exact GD.p|exact GD.g rfl (fun _=>rfl));exact rfl;exact rfl)
  |(apply aOJ;exact fun _=>rfl;exact rfl;(first|exact GD.p|exact GD.g rfl (fun _=>rfl));exact rfl;exact rfl)
  |(apply aLw;exact fun _=>rfl;exact rfl;(first|exact GD.p|exact GD.g rfl (fun _=>rfl));exact rfl;assumption;exact rfl)
  |(apply aOW;exact inferInstance;exact rfl;exact rfl)
  |(apply e_u;exact rfl;exact fun _=>rfl;exact rfl;exact rfl)
  |(apply aPw;exact rfl))) (hx:Mix S.P:=by infer_instance)
  (hm:aBv ms l ms=true:=by kernel_rfl) (hb:wS l 0=true:=by kernel_rfl) (hq:aAr l=true:=by kernel_rfl) (hm2:Nat.beq l.length (m+n)=true:=by kernel_rfl) (ht:aBy l ms m n=true:=by kernel_rfl):WC S (.region id l.toArray true) κ H E:=
 kG ms m n outs hx.h hops.h k hm hb hq (by rw [hops.len];simp) hm2 ht
theorem go {P:Prop} (Q:Prop) (k:Q) (h:D P Q:=by
 first
  |with_reducible refine sL ?_
  |with_reducible refine sC ?_
  |with_reducible refine sX ?_
 repeat (first
  |(apply aOV)
  |(apply aNy)
  |(apply aPk)
  |(apply aOK)
  |(apply aSp;exact rfl;exact rfl;(first|exact dM.p|exact dM.g rfl rfl rfl))
  |(apply aRs;exact rfl;exact rfl;(first|exact dM.p|exact dM.g rfl rfl rfl))
  |(apply b_n;exact rfl;exact rfl;exact rfl;exact rfl;exact rfl)
  |(apply aSl;exact rfl;exact rfl;exact inferInstance;exact rfl;(first|exact dM.p|exact dM.g rfl rfl rfl);(with_reducible assumption))
  |(apply aOF;exact rfl;exact inferInstance;exact rfl;(first|exact dM.p|exact dM.g rfl rfl rfl))
  |(apply aRP;exact rfl;exact inferInstance;exact rfl;(first|exact dM.p|exact dM.g rfl rfl rfl))
  |(apply aOE;exact rfl;exact inferInstance;exact rfl;(first|exact dM.p|exact dM.g rfl rfl rfl))
  |(apply aPH;exact rfl;exact inferInstance;exact rfl;exact rfl;(first|exact dM.p|exact dM.g rfl rfl rfl))
  |(apply aPx;exact rfl;exact inferInstance;exact rfl;exact rfl;(first|exact dM.p|exact dM.g rfl rfl rfl))
  |(apply aRU;exact rfl;exact inferInstance;(repeat (first|exact gE.a rfl|apply gE.b));exact rfl;exact rfl;(first|exact dM.p|exact dM.g rfl rfl rfl))
  |(apply aRO;exact rfl;exact inferInstance;(repeat (first|exact gE.a rfl|apply gE.b));exact rfl;exact rfl;(first|exact dM.p|exact dM.g rfl rfl rfl))
  |(apply aPD;exact rfl;exact rfl;(repeat (first|exact gE.a rfl|apply gE.b));(first|exact rfl|with_reducible assumption|exact bI (by with_reducible assumption) (by first|with_reducible assumption|exact rfl));exact inferInstance;exact rfl;(first|exact dM.p|exact dM.g rfl rfl rfl);(with_reducible assumption))
  |(apply aPs;exact rfl;(repeat (first|exact gE.a rfl|apply gE.b));(first|exact rfl|with_reducible assumption|exact bI (by with_reducible assumption) (by first|with_reducible assumption|exact rfl));exact inferInstance;exact rfl;(first|exact dM.p|exact dM.g rfl rfl rfl))
  |(apply aLo;exact rfl;(repeat (first|exact gE.a rfl|apply gE.b));exact rfl;(with_reducible assumption);exact inferInstance;exact rfl;exact rfl;exact rfl;(first|exact dM.p|exact dM.g rfl rfl rfl))
  |(apply aNo;exact rfl;(repeat (first|exact gE.a rfl|apply gE.b));exact rfl;(with_reducible assumption);exact inferInstance;exact rfl;exact rfl;exact rfl;(first|exact dM.p|exact dM.g rfl rfl rfl))
  |(apply aSw;exact rfl;exact inferInstance;exact rfl;(first|exact dM.p|exact dM.g rfl rfl rfl))
  |(apply aRw;exact rfl;exact rfl;exact rfl;(first|exact dM.p|exact dM.g rfl rfl rfl))
  |(apply aRC;exact rfl;exact rfl;exact rfl;(first|exact dM.p|exact dM.g rfl rfl rfl))
  |(apply aRk;exact rfl;exact rfl;exact rfl;(first|exact dM.p|exact dM.g rfl rfl rfl))
  |(apply aRz;exact rfl;exact rfl;exact rfl;(first|exact dM.p|exact dM.g rfl rfl rfl))
  |(apply aRu;exact rfl;exact rfl;exact rfl;(first|exact dM.p|exact dM.g rfl rfl rfl))
  |(apply aRb;exact rfl;exact rfl;exact rfl;(first|exact dM.p|exact dM.g rfl rfl rfl))
  |(apply aOA;exact rfl;exact rfl;exact rfl;(first|exact dM.p|exact dM.g rfl rfl rfl);(with_reducible assumption))
  |(apply aPz;exact rfl;exact rfl;exact rfl;(first|exact dM.p|exact dM.g rfl rfl rfl);(with_reducible assumption))
  |(apply aOY;exact rfl;exact rfl;exact rfl;(first|exact dM.p|exact dM.g rfl rfl rfl);(with_reducible assumption))
  |(apply aOB;exact rfl;exact rfl;exact rfl;(first|exact dM.p|exact dM.g rfl rfl rfl);(with_reducible assumption))
  |(apply aPp;exact rfl;exact rfl;exact rfl;(first|exact dM.p|exact dM.g rfl rfl rfl);(with_reducible assumption))
  |(apply aOQ;exact rfl;exact rfl;(first|exact dM.p|exact dM.g rfl rfl rfl))
  |(apply aPe;exact rfl;exact rfl;(first|exact dM.p|exact dM.g rfl rfl rfl);(with_reducible assumption))
  |(apply aPd;exact rfl;exact rfl;(first|exact dM.p|exact dM.g rfl rfl rfl))
  |(apply aPo;exact rfl;exact rfl;(first|exact dM.p|exact dM.g rfl rfl rfl))
  |(apply aPn;exact rfl;exact rfl;(first|exact dM.p|exact dM.g rfl rfl rfl))
  |(apply aPh;exact rfl;exact rfl;(first|exact dM.p|exact dM.g rfl rfl rfl))
  |(apply aO9;exact rfl;exact rfl;(first|exact dM.p|exact dM.g rfl rfl rfl))
  |(apply aRT;exact rfl;exact rfl;exact rfl;(first|exact dM.p|exact dM.g rfl rfl rfl))
  |(apply aRp;exact rfl;exact rfl;exact rfl;(first|exact dM.p|exact dM.g rfl rfl rfl))
  |(apply aRZ;exact rfl;exact rfl;exact inferInstance;exact rfl;(first|exact dM.p|exact dM.g rfl rfl rfl);(with_reducible assumption))
  |(apply aSe;exact rfl;exact rfl;exact inferInstance;exact rfl;(first|exact dM.p|exact dM.g rfl rfl rfl);(with_reducible assumption))
  |(apply aPI;exact rfl;exact rfl;exact rfl;exact inferInstance;exact rfl;(first|exact dM.p|exact dM.g rfl rfl rfl);(with_reducible assumption))
  |(apply aRX;exact rfl;exact rfl;exact rfl;(first|exact dM.p|exact dM.g rfl rfl rfl))
  |(apply aRf;exact rfl;exact rfl;exact rfl;(first|exact dM.p|exact dM.g rfl rfl rfl))
  |(apply aSm;exact rfl;exact rfl;(first|exact dM.p|exact dM.g rfl rfl rfl))
  |(apply aPg;exact rfl;exact rfl;(first|exact dM.p|exact dM.g rfl rfl rfl))
  |(apply aPG;exact rfl;exact rfl;(first|exact dM.p|exact dM.g rfl rfl rfl))
  |(apply aLN;exact rfl;exact rfl;(first|exact dM.p|exact dM.g rfl rfl rfl);assumption)
  |(apply aSd;exact rfl;exact rfl;exact inferInstance;(repeat (first|exact w8.a rfl|apply w8.b));exact trivial;exact rfl;exact rfl)
  |(apply aSc;exact rfl;exact rfl;exact inferInstance;(repeat (first|exact w8.a rfl|apply w8.b));exact trivial;exact rfl;exact rfl)
  |(apply aI3;exact rfl;exact rfl;(repeat (first|exact gE.a rfl|apply gE.b));exact rfl;(with_reducible assumption);(with_reducible assumption);exact ty1s;(repeat (first|exact w8.a rfl|apply w8.b));exact trivial;exact rfl;exact rfl)
  |(apply aI3;exact rfl;exact rfl;(repeat (first|exact gE.a rfl|apply gE.b));exact rfl;(with_reducible assumption);(with_reducible assumption);exact tyAs;(repeat (first|exact w8.a rfl|apply w8.b));exact trivial;exact rfl;exact rfl)
  |(apply b_u;exact rfl;exact rfl;exact rfl;exact rfl)
  |(apply aMN)
  |(apply aLL)
  |(apply aKk)
  |(apply aJs)
  |(apply aO5))
 first
  |exact eL
  |exact eC
  |exact eX):P:=h.h k
theorem rv_1 {t T off:Nat} {β:Option Nat} {e:HA} {q:CP} {rs:List ResultVar} {ps:List VP} (h:iU E t=some (.vc (pP β off))) (ht:Ty1 S.P T) (hi:gE H β e) (hq:rM 1 (e.ps.drop off)=some [q]) (kk:RVs S H E rs ps):RVs S H E (.cell t T::rs) (.vc q::ps):=by
 obtain⟨i,h1,h2⟩:=hi.at
 exact aGr i 1 h h1 h2 hq (.one ht) kk
theorem rv_A {t T off k:Nat} {β:Option Nat} {e:HA} {qs:List CP} {rs:List ResultVar} {ps:List VP} (h:iU E t=some (.vc (pP β off))) (ht:TyA S.P T k) (hi:gE H β e) (hq:rM k (e.ps.drop off)=some qs) (kk:RVs S H E rs ps):RVs S H E (.cell t T::rs) (.va qs::ps):=by
 obtain⟨i,h1,h2⟩:=hi.at
 exact aGr i k h h1 h2 hq (.agg ht (wB hq)) kk
theorem aRo {P:Program} {fn:Func} {w0:World} {M0:oX} {B:List Nat} {post:VP} {N:Nat} {rs:List ResultVar} {ps:List VP} (hk:κ.to .ret=(.ret,.base (bodyPost P fn (Rp P w0 M0 B (fun Ho q=>Ho=[]∧q=post))))) (hrs:fn.results=rs.toArray) (hv:RVs ⟨P,w0,M0,B,N⟩ H E rs ps) (hl:Nat.ble ps.length 4=true) (hpost:aIN ps=post):GC ⟨P,w0,M0,B,N⟩ .ret κ H E Q:=
 ⟨fun _=>sP (sS (by rw [hk];exact s7 (.inl rfl) hrs hv hl hpost))⟩
theorem cA {P:Prop} (h:D P True:=by
 first
  |with_reducible refine sL ?_
  |with_reducible refine sC ?_
  |with_reducible refine sX ?_
 repeat (first
  |(apply aOV)
  |(apply aNy)
  |(apply aPk)
  |(apply aOK)
  |(apply aSp;exact rfl;exact rfl;(first|exact dM.p|exact dM.g rfl rfl rfl))
  |(apply aRs;exact rfl;exact rfl;(first|exact dM.p|exact dM.g rfl rfl rfl))
  |(apply b_n;exact rfl;exact rfl;exact rfl;exact rfl;exact rfl)
  |(apply aSl;exact rfl;exact rfl;exact inferInstance;exact rfl;(first|exact dM.p|exact dM.g rfl rfl rfl);(with_reducible assumption))
  |(apply aOF;exact rfl;exact inferInstance;exact rfl;(first|exact dM.p|exact dM.g rfl rfl rfl))
  |(apply aRP;exact rfl;exact inferInstance;exact rfl;(first|exact dM.p|exact dM.g rfl rfl rfl))
  |(apply aOE;exact rfl;exact inferInstance;exact rfl;(first|exact dM.p|exact dM.g rfl rfl rfl))
  |(apply aPH;exact rfl;exact inferInstance;exact rfl;exact rfl;(first|exact dM.p|exact dM.g rfl rfl rfl))
  |(apply aPx;exact rfl;exact inferInstance;exact rfl;exact rfl;(first|exact dM.p|exact dM.g rfl rfl rfl))
  |(apply aRU;exact rfl;exact inferInstance;(repeat (first|exact gE.a rfl|apply gE.b));exact rfl;exact rfl;(first|exact dM.p|exact dM.g rfl rfl rfl))
  |(apply aRO;exact rfl;exact inferInstance;(repeat (first|exact gE.a rfl|apply gE.b));exact rfl;exact rfl;(first|exact dM.p|exact dM.g rfl rfl rfl))
  |(apply aPD;exact rfl;exact rfl;(repeat (first|exact gE.a rfl|apply gE.b));(first|exact rfl|with_reducible assumption|exact bI (by with_reducible assumption) (by first|with_reducible assumption|exact rfl));exact inferInstance;exact rfl;(first|exact dM.p|exact dM.g rfl rfl rfl);(with_reducible assumption))
  |(apply aPs;exact rfl;(repeat (first|exact gE.a rfl|apply gE.b));(first|exact rfl|with_reducible assumption|exact bI (by with_reducible assumption) (by first|with_reducible assumption|exact rfl));exact inferInstance;exact rfl;(first|exact dM.p|exact dM.g rfl rfl rfl))
  |(apply aLo;exact rfl;(repeat (first|exact gE.a rfl|apply gE.b));exact rfl;(with_reducible assumption);exact inferInstance;exact rfl;exact rfl;exact rfl;(first|exact dM.p|exact dM.g rfl rfl rfl))
  |(apply aNo;exact rfl;(repeat (first|exact gE.a rfl|apply gE.b));exact rfl;(with_reducible assumption);exact inferInstance;exact rfl;exact rfl;exact rfl;(first|exact dM.p|exact dM.g rfl rfl rfl))
  |(apply aSw;exact rfl;exact inferInstance;exact rfl;(first|exact dM.p|exact dM.g rfl rfl rfl))
  |(apply aRw;exact rfl;exact rfl;exact rfl;(first|exact dM.p|exact dM.g rfl rfl rfl))
  |(apply aRC;exact rfl;exact rfl;exact rfl;(first|exact dM.p|exact dM.g rfl rfl rfl))
  |(apply aRk;exact rfl;exact rfl;exact rfl;(first|exact dM.p|exact dM.g rfl rfl rfl))
  |(apply aRz;exact rfl;exact rfl;exact rfl;(first|exact dM.p|exact dM.g rfl rfl rfl))
  |(apply aRu;exact rfl;exact rfl;exact rfl;(first|exact dM.p|exact dM.g rfl rfl rfl))
  |(apply aRb;exact rfl;exact rfl;exact rfl;(first|exact dM.p|exact dM.g rfl rfl rfl))
  |(apply aOA;exact rfl;exact rfl;exact rfl;(first|exact dM.p|exact dM.g rfl rfl rfl);(with_reducible assumption))
  |(apply aPz;exact rfl;exact rfl;exact rfl;(first|exact dM.p|exact dM.g rfl rfl rfl);(with_reducible assumption))
  |(apply aOY;exact rfl;exact rfl;exact rfl;(first|exact dM.p|exact dM.g rfl rfl rfl);(with_reducible assumption))
  |(apply aOB;exact rfl;exact rfl;exact rfl;(first|exact dM.p|exact dM.g rfl rfl rfl);(with_reducible assumption))
  |(apply aPp;exact rfl;exact rfl;exact rfl;(first|exact dM.p|exact dM.g rfl rfl rfl);(with_reducible assumption))
  |(apply aOQ;exact rfl;exact rfl;(first|exact dM.p|exact dM.g rfl rfl rfl))
  |(apply aPe;exact rfl;exact rfl;(first|exact dM.p|exact dM.g rfl rfl rfl);(with_reducible assumption))
  |(apply aPd;exact rfl;exact rfl;(first|exact dM.p|exact dM.g rfl rfl rfl))
  |(apply aPo;exact rfl;exact rfl;(first|exact dM.p|exact dM.g rfl rfl rfl))
  |(apply aPn;exact rfl;exact rfl;(first|exact dM.p|exact dM.g rfl rfl rfl))
  |(apply aPh;exact rfl;exact rfl;(first|exact dM.p|exact dM.g rfl rfl rfl))
  |(apply aO9;exact rfl;exact rfl;(first|exact dM.p|exact dM.g rfl rfl rfl))
  |(apply aRT;exact rfl;exact rfl;exact rfl;(first|exact dM.p|exact dM.g rfl rfl rfl))
  |(apply aRp;exact rfl;exact rfl;exact rfl;(first|exact dM.p|exact dM.g rfl rfl rfl))
  |(apply aRZ;exact rfl;exact rfl;exact inferInstance;exact rfl;(first|exact dM.p|exact dM.g rfl rfl rfl);(with_reducible assumption))
  |(apply aSe;exact rfl;exact rfl;exact inferInstance;exact rfl;(first|exact dM.p|exact dM.g rfl rfl rfl);(with_reducible assumption))
  |(apply aPI;exact rfl;exact rfl;exact rfl;exact inferInstance;exact rfl;(first|exact dM.p|exact dM.g rfl rfl rfl);(with_reducible assumption))
  |(apply aRX;exact rfl;exact rfl;exact rfl;(first|exact dM.p|exact dM.g rfl rfl rfl))
  |(apply aRf;exact rfl;exact rfl;exact rfl;(first|exact dM.p|exact dM.g rfl rfl rfl))
  |(apply aSm;exact rfl;exact rfl;(first|exact dM.p|exact dM.g rfl rfl rfl))
  |(apply aPg;exact rfl;exact rfl;(first|exact dM.p|exact dM.g rfl rfl rfl))
  |(apply aPG;exact rfl;exact rfl;(first|exact dM.p|exact dM.g rfl rfl rfl))
  |(apply aLN;exact rfl;exact rfl;(first|exact dM.p|exact dM.g rfl rfl rfl);assumption)
  |(apply aSd;exact rfl;exact rfl;exact inferInstance;(repeat (first|exact w8.a rfl|apply w8.b));exact trivial;exact rfl;exact rfl)
  |(apply aSc;exact rfl;exact rfl;exact inferInstance;(repeat (first|exact w8.a rfl|apply w8.b));exact trivial;exact rfl;exact rfl)
  |(apply aI3;exact rfl;exact rfl;(repeat (first|exact gE.a rfl|apply gE.b));exact rfl;(with_reducible assumption);(with_reducible assumption);exact ty1s;(repeat (first|exact w8.a rfl|apply w8.b));exact trivial;exact rfl;exact rfl)
  |(apply aI3;exact rfl;exact rfl;(repeat (first|exact gE.a rfl|apply gE.b));exact rfl;(with_reducible assumption);(with_reducible assumption);exact tyAs;(repeat (first|exact w8.a rfl|apply w8.b));exact trivial;exact rfl;exact rfl)
  |(apply b_u;exact rfl;exact rfl;exact rfl;exact rfl)
  |(apply aMN)
  |(apply aLL)
  |(apply aKk)
  |(apply aJs)
  |(apply aO5))
 repeat (cases(by with_reducible assumption:some _=some _))
 apply aRo
 ·exact rfl
 ·exact rfl
 ·repeat (first
   |exact RVs.nil
   |(apply RVs.tmp;exact rfl)
   |(apply rv_A;exact rfl;exact inferInstance;(repeat (first|exact gE.a rfl|apply gE.b));exact rfl)
   |(apply rv_1;exact rfl;exact inferInstance;(repeat (first|exact gE.a rfl|apply gE.b));exact rfl))
 ·exact rfl
 ·exact rfl):P:=h.h trivial
theorem iH {E':p9} (l:List Nat) {a:Act} {w:World} (h:hs S H E a w) (hp:fD H l=some H':=by exact rfl) (hl:l.Nodup:=by decide) (hE:aED E E':=by repeat (first|exact trivial|refine⟨rfl,?_⟩)):hs S H' E' a w:=aKf l hp hl hE h
theorem qB {PJ:List HA→p9→Prop} {E':p9} (J:∀H E,PJ H E→WX S .normal κ H E) (h:PJ H' E') (l:List Nat) (hp:fD H l=some H':=by exact rfl) (hE:aED E E':=by repeat (first|exact trivial|refine⟨rfl,?_⟩)) (hl:l.Nodup:=by decide):WX S .normal κ H E:=aNZ J h l hp hE hl
theorem aJ {α:Type} {A B:Option α} {r:α} {t:Nat} {b:Bool} {x y:Code} (hF:(bif b then A else B)=some r) (ht:iU E t=some (.vc (pB b))) (hx:b=true→A=some r→WC S x κ H E) (hy:b=false→B=some r→WC S y κ H E):WC S (.cond (.tmp t) x y) κ H E:=
 aQV ht (fun h=>hx h (vZ h hF)) (fun h=>hy h (vX h hF))
theorem dQ {α:Type} {A B:Option α} {r:α} {d:Nat} {c:Bool} (hF:(bif c then A else B)=some r) (ht:c=true→A=some r→WL S ops κ rest H ((d,.vc (pB true))::E)) (hf:c=false→B=some r→WL S ops κ rest H ((d,.vc (pB false))::E)):WL S ops κ rest H ((d,.vc (pB c))::E):=
 aQL (fun h=>ht h (vZ h hF)) (fun h=>hf h (vX h hF))
end
end Go.Proofs.YtcjdedkdoagifaaGreat
set_option linter.unusedVariables false
set_option maxRecDepth 100000
namespace Go.Proofs.YtcjdedkdoagifaaGreat
theorem bK:Tryz.prog.follows .mixedOrders=true:=by kernel_rfl
instance Tryz_mix:Mix Tryz.prog:=⟨bK⟩
instance tyA42:TyA Tryz.prog 42 2:=mkA Tryz.underlying42 rfl (by kernel_rfl)
theorem tyB42:TyB Tryz.prog 42 [(0,1),(1,1)] ([pB false]++[pS cI ([]:List Int)]):=mkB (z:=.agg #[.bool false,.slice none 0 0]) (by kernel_rfl) Tryz.underlying42 (by kernel_rfl) (fun M=>aZ.app (show aZ M [pB false] [.bool false] from zU1) (show aZ M [pS cI ([]:List Int)] [.slice none 0 0] from⟨eJ cI M,trivial⟩))
instance tyF42_0:TyF Tryz.prog 42 0 0:=mkF (ft:=4) (k:=0) Tryz.underlying42 rfl rfl rfl (by kernel_rfl)
instance tyF42_1:TyF Tryz.prog 42 1 1:=mkF (ft:=22) (k:=0) Tryz.underlying42 rfl rfl rfl (by kernel_rfl)
instance tyO22:Ty1 Tryz.prog 22:=mk1 Tryz.underlying22 rfl (by kernel_rfl)
instance tyO3:Ty1 Tryz.prog 3:=mk1 Tryz.underlying3 rfl (by kernel_rfl)
instance tyO4:Ty1 Tryz.prog 4:=mk1 Tryz.underlying4 rfl (by kernel_rfl)
instance tyS22:TyS Tryz.prog 22 3 1 8:=mkS (z:=.int .i64 0) (k:=0) Tryz.underlying22 (by kernel_rfl) rfl
instance tyZ3:TyZ Tryz.prog 3 [pI .i64 0]:=mkZ (z:=.int .i64 0) (k:=1) (by kernel_rfl) rfl (fun M=>show aZ M [pI .i64 0] [.int .i64 0] from zU1)
instance tyZ42:TyZ Tryz.prog 42 ([pB false]++[pS cI ([]:List Int)]):=mkZ (z:=.agg #[.bool false,.slice none 0 0]) (k:=2) (by kernel_rfl) rfl (fun M=>aZ.app (show aZ M [pB false] [.bool false] from zU1) (show aZ M [pS cI ([]:List Int)] [.slice none 0 0] from⟨eJ cI M,trivial⟩))
def m6 (K:Nat) (a0:Bool) (a1:List Int) (x4:Int):Option aH:=
 bif(x4==0) then(some (⟨false,([]:List Int)⟩:aH)) else((slL a1 0 x4).bind fun x8=>some (⟨a0,x8⟩:aH))
def eW (K:Nat) (a1:List Int):Nat→Int→Option Int
 |0,_=>none
 |k+1,x3=>bif(decide (0<x3)) then((aP (x3-1)).bind fun v11=>(bM a1 (max v11 0)).bind fun v13=>bif(v13==0) then((aP (x3-1)).bind fun v16=>eW K a1 k v16) else(some x3)) else(some x3)
def bA (K:Nat) (a0:Bool) (a1:List Int):Option aH:=
 (eW K a1 K (a1.length:Int)).bind fun x4=>m6 K a0 a1 x4
theorem bN {K:Nat} {a0:Bool} {a1:List Int} {r:aH} (hF:bA K a0 a1=some r):Ct Tryz.prog 181 [.vc (pB a0),.vc (pS cI a1)] (.va (aH.e r)):=by
 unfold bA at hF
 refine aI Tryz.func181 rfl (by kernel_rfl) Tryz.ntmps181 rfl (fun w0 M0=>?_)
 refine aM (aX (aN rfl tyZ42 (fun b1=>?_)))
 refine go ?_ ?_
 refine aV (cJ (fun H E=>∃(x4:Int),m6 K a0 a1 x4=some r∧H=[⟨some b1,1,42,2,1,([pB false]++[pS cI ([]:List Int)])⟩]∧E=[(0,.vc (pB a0)),(1,.vc (pS cI a1)),(4,.vc (pP (some b1) 0)),(5,.vc (pI .i64 x4))]) ?_ (fun Jj6=>?_))
 ·rintro _ _ ⟨x4,hF,rfl,rfl⟩
  unfold m6 at hF
  refine go ?_ ?_
  refine aJ hF rfl (fun h7 hF=>?_) (fun h7 hF=>?_)
  ·refine aM (aX (aR (fC (is:=[]) (xs:=[]) (ps:=[]) rfl tyB42 rfl rfl trivial rfl) trivial ?_))
   exact cA
  obtain⟨x8,h9,hF⟩:=a9 hF
  refine go ?_ ?_
  refine aR (fC (is:=[0,1]) (xs:=[.tmp 24,.tmp 27]) (ps:=[.vc (pB a0),.vc (pS cI x8)]) rfl tyB42 rfl rfl ⟨trivial,trivial,trivial⟩ rfl) zU2 ?_
  exact cA
 obtain⟨x4',hL,hRl5⟩:=a9 hF
 refine iT (fun k a w=>∃(x3:Int),eW K a1 k x3=some x4'∧hs _ [⟨some b1,1,42,2,1,([pB false]++[pS cI ([]:List Int)])⟩] [(0,.vc (pB a0)),(1,.vc (pS cI a1)),(4,.vc (pP (some b1) 0)),(5,.vc (pI .i64 x3))] a w) K (fun a w ⟨_,hF,_⟩=>by cases hF) (fun k a w ⟨x3,hF,hh⟩=>iS ?_ hh) (fun a w hh=>⟨(a1.length:Int),hL,iH [0] hh⟩)
 rw [eW.eq_2] at hF
 refine go ?_ ?_
 refine dQ hF (fun h10 hF=>?_) (fun h10 hF=>?_)
 ·obtain⟨v11,h12,v13,h14,hF⟩:=vN hF
  refine go ?_ ?_
  refine aJ hF rfl (fun h15 hF=>?_) (fun h15 hF=>?_)
  ·refine iO (aS (aV ?_))
   have hF:=tC h12 hF
   refine go ?_ ?_
   exact aL (fun a w hh=>⟨v11,hF,iH [0] hh⟩)
  refine dJ ?_
  obtain rfl:=qN hF
  exact qB Jj6 ⟨x3,hRl5,rfl,rfl⟩ [0]
 refine go ?_ ?_
 refine uP rfl ?_
 refine dJ ?_
 obtain rfl:=qN hF
 exact qB Jj6 ⟨x3,hRl5,rfl,rfl⟩ [0]
def pN (K:Nat) (a0:Int) (x18:List Int):Option aH:=
 (bA K (decide (a0<0)) x18).bind fun v26=>some v26
def dS (K:Nat):Nat→(List Int)→Int→Option (List Int)
 |0,_,_=>none
 |k+1,x11,x17=>bif(x17 != 0) then((wH x17 1000000000).bind fun v29=>bif(decide (v29<0)) then((aP (-v29)).bind fun v32=>(qD x11 [v32]).bind fun x34=>(w4 x17 1000000000).bind fun v41=>dS K k x34 v41) else((qD x11 [v29]).bind fun x43=>(w4 x17 1000000000).bind fun v50=>dS K k x43 v50)) else(some x11)
def gV (K:Nat) (a0:Int):Option aH:=
 (dS K K ([]:List Int) a0).bind fun x18=>pN K a0 x18
theorem nD {K:Nat} {a0:Int} {r:aH} (hF:gV K a0=some r):Ct Tryz.prog 94 [.vc (pI .i64 a0)] (.va (aH.e r)):=by
 unfold gV at hF
 refine aI Tryz.func94 rfl (by kernel_rfl) Tryz.ntmps94 rfl (fun w0 M0=>?_)
 refine aM (aX (aN rfl tyZ42 (fun b1=>?_)))
 refine bQ (aS (aM (aX (wV cI 3 rfl ?_))))
 refine go ?_ ?_
 refine aV (cJ (fun H E=>∃(x18:List Int),∃(b19:Option Nat),∃(c20:Nat),∃(n21:Nat),pN K a0 x18=some r∧x18.length=n21∧H=[hO cI b19 c20 3 n21 x18,⟨some b1,1,42,2,1,([pB false]++[pS cI ([]:List Int)])⟩]∧E=[(2,.vc (pP (some b1) 0)),(3,.vc (pO b19 n21 c20)),(4,.vc (pB (decide (a0<0))))]) ?_ (fun Jj25=>?_))
 ·rintro _ _ ⟨x18,b19,c20,n21,hF,q22,rfl,rfl⟩
  unfold pN at hF
  refine aS (aM (aX (mF ?_)))
  refine mF ?_
  refine aAZ 0 [3,23] rfl q22 zU2 rfl ?_
  obtain⟨v26,h27,hF⟩:=bD hF bN
  exact cA
 obtain⟨x18',hL,hRl24⟩:=a9 hF
 refine iT (fun k a w=>∃(x11:List Int),∃(x17:Int),∃(b12:Option Nat),∃(c13:Nat),∃(n14:Nat),dS K k x11 x17=some x18'∧x11.length=n14∧hs _ [hO cI b12 c13 3 n14 x11,⟨some b1,1,42,2,1,([pB false]++[pS cI ([]:List Int)])⟩] [(0,.vc (pI .i64 x17)),(2,.vc (pP (some b1) 0)),(3,.vc (pO b12 n14 c13)),(4,.vc (pB (decide (a0<0))))] a w) K (fun a w ⟨_,_,_,_,_,hF,_,_⟩=>by cases hF) (fun k a w ⟨x11,x17,b12,c13,n14,hF,q15,hh⟩=>iS ?_ hh) (fun a w hh=>⟨([]:List Int),a0,none,0,0,hL,rfl,iH [0,1] hh⟩)
 rw [dS.eq_2] at hF
 refine go ?_ ?_
 refine aJ hF rfl (fun h28 hF=>?_) (fun h28 hF=>?_)
 ·refine iO (aS (aV ?_))
  obtain⟨v29,h30,hF⟩:=a9 hF
  refine go ?_ ?_
  refine aJ hF rfl (fun h31 hF=>?_) (fun h31 hF=>?_)
  ·obtain⟨v32,h33,hF⟩:=a9 hF
   refine go ?_ ?_
   refine aR (sM (C:=cI) (xs:=[.tmp 17]) (ps:=[.vc (pI .i64 v32)]) (zs:=[v32]) rfl tyS22 rfl ⟨⟨trivial,rfl⟩,trivial⟩ rfl) zU1 ?_
   obtain⟨x34,h35,hF⟩:=a9 hF
   refine o8 0 rfl tyS22 rfl rfl q15 rfl rfl h35 (fun b36 c37 H38 e39=>?_)
   cases e39
   obtain⟨v41,h42,hF⟩:=a9 hF
   refine go ?_ ?_
   exact aL (fun a w hh=>⟨x34,v41,b36,c37,(n14+[v32].length),hF,(f7 h35 q15),iH [0,1] hh⟩)
  refine go ?_ ?_
  refine aR (sM (C:=cI) (xs:=[.tmp 17]) (ps:=[.vc (pI .i64 v29)]) (zs:=[v29]) rfl tyS22 rfl ⟨⟨trivial,rfl⟩,trivial⟩ rfl) zU1 ?_
  obtain⟨x43,h44,hF⟩:=a9 hF
  refine o8 0 rfl tyS22 rfl rfl q15 rfl rfl h44 (fun b45 c46 H47 e48=>?_)
  cases e48
  obtain⟨v50,h51,hF⟩:=a9 hF
  refine go ?_ ?_
  exact aL (fun a w hh=>⟨x43,v50,b45,c46,(n14+[v29].length),hF,(f7 h44 q15),iH [0,1] hh⟩)
 refine dJ ?_
 obtain rfl:=qN hF
 exact qB Jj25 ⟨x11,b12,c13,n14,hRl24,q15,rfl,rfl⟩ [0,1]
def eS (a0:Bool) (a1:Int):Option aH:=
 bif(a1==0) then(some (⟨false,([]:List Int)⟩:aH)) else(bif(decide (a1<1000000000)) then(some (⟨a0,[(IntKind.i64.wrap a1)]⟩:aH)) else(bif(decide (a1<1000000000000000000)) then((wH a1 1000000000).bind fun v5=>(uq a1 1000000000).bind fun v7=>some (⟨a0,[(IntKind.i64.wrap v5),(IntKind.i64.wrap v7)]⟩:aH)) else((wH a1 1000000000).bind fun v9=>(uq a1 1000000000).bind fun v11=>(wH v11 1000000000).bind fun v13=>(uq a1 1000000000).bind fun v15=>(uq v15 1000000000).bind fun v17=>some (⟨a0,[(IntKind.i64.wrap v9),(IntKind.i64.wrap v13),(IntKind.i64.wrap v17)]⟩:aH))))
theorem jN {a0:Bool} {a1:Int} {r:aH} (hF:eS a0 a1=some r):Ct Tryz.prog 182 [.vc (pB a0),.vc (pI .u64 a1)] (.va (aH.e r)):=by
 unfold eS at hF
 refine aI Tryz.func182 rfl (by kernel_rfl) Tryz.ntmps182 rfl (fun w0 M0=>?_)
 refine aM (aX (aN rfl tyZ42 (fun b1=>?_)))
 refine go ?_ ?_
 refine aV (go ?_ ?_)
 refine aJ hF rfl (fun h2 hF=>?_) (fun h2 hF=>?_)
 ·refine aM (aX (aR (fC (is:=[]) (xs:=[]) (ps:=[]) rfl tyB42 rfl rfl trivial rfl) trivial ?_))
  exact cA
 refine go ?_ ?_
 refine aJ hF rfl (fun h3 hF=>?_) (fun h3 hF=>?_)
 ·refine go ?_ ?_
  refine aR (aCK rfl ⟨_,Tryz.underlying213⟩ Tryz.underlying3) zU1 ?_
  refine aR (sM (C:=cI) (xs:=[.tmp 14]) (ps:=[.vc (pI .i64 (IntKind.i64.wrap a1))]) (zs:=[(IntKind.i64.wrap a1)]) rfl tyS22 rfl ⟨⟨trivial,rfl⟩,trivial⟩ rfl) zU1 ?_
  refine aR (fC (is:=[0,1]) (xs:=[.tmp 12,.tmp 15]) (ps:=[.vc (pB a0),.vc (pS cI [(IntKind.i64.wrap a1)])]) rfl tyB42 rfl rfl ⟨trivial,trivial,trivial⟩ rfl) zU2 ?_
  exact cA
 refine go ?_ ?_
 refine aJ hF rfl (fun h4 hF=>?_) (fun h4 hF=>?_)
 ·obtain⟨v5,h6,hF⟩:=a9 hF
  refine go ?_ ?_
  refine aR (aCK rfl ⟨_,Tryz.underlying213⟩ Tryz.underlying3) zU1 ?_
  refine mF ?_
  obtain⟨v7,h8,hF⟩:=a9 hF
  refine aR (aF0 rfl h8) ⟨rfl,kL _ _,trivial⟩ ?_
  refine aR (aCK rfl ⟨_,Tryz.underlying213⟩ Tryz.underlying3) zU1 ?_
  refine aR (sM (C:=cI) (xs:=[.tmp 23,.tmp 26]) (ps:=[.vc (pI .i64 (IntKind.i64.wrap v5)),.vc (pI .i64 (IntKind.i64.wrap v7))]) (zs:=[(IntKind.i64.wrap v5),(IntKind.i64.wrap v7)]) rfl tyS22 rfl ⟨⟨trivial,rfl⟩,⟨trivial,rfl⟩,trivial⟩ rfl) zU2 ?_
  refine aR (fC (is:=[0,1]) (xs:=[.tmp 20,.tmp 27]) (ps:=[.vc (pB a0),.vc (pS cI [(IntKind.i64.wrap v5),(IntKind.i64.wrap v7)])]) rfl tyB42 rfl rfl ⟨trivial,trivial,trivial⟩ rfl) zU2 ?_
  exact cA
 obtain⟨v9,h10,hF⟩:=a9 hF
 refine go ?_ ?_
 refine aR (aCK rfl ⟨_,Tryz.underlying213⟩ Tryz.underlying3) zU1 ?_
 refine mF ?_
 obtain⟨v11,h12,hF⟩:=a9 hF
 refine aR (aF0 rfl h12) ⟨rfl,kL _ _,trivial⟩ ?_
 obtain⟨v13,h14,hF⟩:=a9 hF
 refine aR (aBA rfl h14) ⟨rfl,kL _ _,trivial⟩ ?_
 refine aR (aCK rfl ⟨_,Tryz.underlying213⟩ Tryz.underlying3) zU1 ?_
 refine mF ?_
 have hF:=tC h12 hF
 refine aR (aF0 rfl h12) ⟨rfl,kL _ _,trivial⟩ ?_
 obtain⟨v17,h18,hF⟩:=a9 hF
 refine aR (aF0 rfl h18) ⟨rfl,kL _ _,trivial⟩ ?_
 refine aR (aCK rfl ⟨_,Tryz.underlying213⟩ Tryz.underlying3) zU1 ?_
 refine aR (sM (C:=cI) (xs:=[.tmp 32,.tmp 36,.tmp 40]) (ps:=[.vc (pI .i64 (IntKind.i64.wrap v9)),.vc (pI .i64 (IntKind.i64.wrap v13)),.vc (pI .i64 (IntKind.i64.wrap v17))]) (zs:=[(IntKind.i64.wrap v9),(IntKind.i64.wrap v13),(IntKind.i64.wrap v17)]) rfl tyS22 rfl ⟨⟨trivial,rfl⟩,⟨trivial,rfl⟩,⟨trivial,rfl⟩,trivial⟩ rfl) ⟨rfl,rfl,rfl,trivial⟩ ?_
 refine aR (fC (is:=[0,1]) (xs:=[.tmp 29,.tmp 41]) (ps:=[.vc (pB a0),.vc (pS cI [(IntKind.i64.wrap v9),(IntKind.i64.wrap v13),(IntKind.i64.wrap v17)])]) rfl tyB42 rfl rfl ⟨trivial,trivial,trivial⟩ rfl) zU2 ?_
 exact cA
def uA (K:Nat) (a0:Bool) (a1:List Int) (x4:Int):Option aH:=
 bif(x4==0) then(some (⟨false,([]:List Int)⟩:aH)) else((slL a1 0 x4).bind fun x8=>some (⟨a0,x8⟩:aH))
def lP (K:Nat) (a1:List Int):Nat→Int→Option Int
 |0,_=>none
 |k+1,x3=>bif(decide (0<x3)) then((aP (x3-1)).bind fun v11=>(bM a1 v11).bind fun v13=>bif(v13==0) then((aP (x3-1)).bind fun v16=>lP K a1 k v16) else(some x3)) else(some x3)
def eG (K:Nat) (a0:Bool) (a1:List Int):Option aH:=
 (lP K a1 K (a1.length:Int)).bind fun x4=>uA K a0 a1 x4
theorem gU {K:Nat} {a0:Bool} {a1:List Int} {r:aH} (hF:eG K a0 a1=some r):Ct Tryz.prog 183 [.vc (pB a0),.vc (pS cI a1)] (.va (aH.e r)):=by
 unfold eG at hF
 refine aI Tryz.func183 rfl (by kernel_rfl) Tryz.ntmps183 rfl (fun w0 M0=>?_)
 refine aM (aX (aN rfl tyZ42 (fun b1=>?_)))
 refine go ?_ ?_
 refine aV (cJ (fun H E=>∃(x4:Int),uA K a0 a1 x4=some r∧H=[⟨some b1,1,42,2,1,([pB false]++[pS cI ([]:List Int)])⟩]∧E=[(0,.vc (pB a0)),(1,.vc (pS cI a1)),(4,.vc (pP (some b1) 0)),(5,.vc (pI .i64 x4))]) ?_ (fun Jj6=>?_))
 ·rintro _ _ ⟨x4,hF,rfl,rfl⟩
  unfold uA at hF
  refine go ?_ ?_
  refine aJ hF rfl (fun h7 hF=>?_) (fun h7 hF=>?_)
  ·refine aM (aX (aR (fC (is:=[]) (xs:=[]) (ps:=[]) rfl tyB42 rfl rfl trivial rfl) trivial ?_))
   exact cA
  obtain⟨x8,h9,hF⟩:=a9 hF
  refine go ?_ ?_
  refine aR (aOn rfl tyS22 h9) ⟨rfl,rfl,rfl,trivial⟩ ?_
  refine aR (fC (is:=[0,1]) (xs:=[.tmp 23,.tmp 27]) (ps:=[.vc (pB a0),.vc (pS cI x8)]) rfl tyB42 rfl rfl ⟨trivial,trivial,trivial⟩ rfl) zU2 ?_
  exact cA
 obtain⟨x4',hL,hRl5⟩:=a9 hF
 refine iT (fun k a w=>∃(x3:Int),lP K a1 k x3=some x4'∧hs _ [⟨some b1,1,42,2,1,([pB false]++[pS cI ([]:List Int)])⟩] [(0,.vc (pB a0)),(1,.vc (pS cI a1)),(4,.vc (pP (some b1) 0)),(5,.vc (pI .i64 x3))] a w) K (fun a w ⟨_,hF,_⟩=>by cases hF) (fun k a w ⟨x3,hF,hh⟩=>iS ?_ hh) (fun a w hh=>⟨(a1.length:Int),hL,iH [0] hh⟩)
 rw [lP.eq_2] at hF
 refine go ?_ ?_
 refine dQ hF (fun h10 hF=>?_) (fun h10 hF=>?_)
 ·obtain⟨v11,h12,v13,h14,hF⟩:=vN hF
  refine go ?_ ?_
  refine aJ hF rfl (fun h15 hF=>?_) (fun h15 hF=>?_)
  ·refine iO (aS (aV ?_))
   have hF:=tC h12 hF
   refine go ?_ ?_
   exact aL (fun a w hh=>⟨v11,hF,iH [0] hh⟩)
  refine dJ ?_
  obtain rfl:=qN hF
  exact qB Jj6 ⟨x3,hRl5,rfl,rfl⟩ [0]
 refine go ?_ ?_
 refine uP rfl ?_
 refine dJ ?_
 obtain rfl:=qN hF
 exact qB Jj6 ⟨x3,hRl5,rfl,rfl⟩ [0]
def pJ (K:Nat) (a0:aH) (a1:aH) (x37:List Int):Option aH:=
 (eG K (a0.neg != a1.neg) x37).bind fun v45=>some v45
def o5 (K:Nat) (a1:aH) (x36:Int) (recl43:(List Int)→Int→Option (List Int)) (x66:List Int) (x72:Int):Option (List Int):=
 (aP (x36+(a1.d.length:Int))).bind fun v75=>(bM x66 v75).bind fun v77=>(nU x66 v75 x72).bind fun x79=>(aP (x36+1)).bind fun v82=>recl43 x79 v82
def gG (K:Nat) (a1:aH) (x36:Int) (v48:Int):Nat→(List Int)→Int→Int→Option ((List Int)×Int)
 |0,_,_,_=>none
 |k+1,x58,x64,x65=>bif(decide (x65<(a1.d.length:Int))) then((bM a1.d x65).bind fun v85=>(aP (x36+x65)).bind fun v87=>(bM x58 v87).bind fun v89=>(aP (v48*v85)).bind fun v91=>(aP (v89+v91)).bind fun v93=>(aP (v93+x64)).bind fun v95=>(w4 v95 1000000000).bind fun v97=>(aP (x36+x65)).bind fun v99=>(aP (v97*1000000000)).bind fun v101=>(aP (v95-v101)).bind fun v103=>(bM x58 v99).bind fun v105=>(nU x58 v99 v103).bind fun x107=>(aP (x65+1)).bind fun v110=>gG K a1 x36 v48 k x107 v97 v110) else(some (x58,x64))
def fL (K:Nat) (a0:aH) (a1:aH):Nat→(List Int)→Int→Option (List Int)
 |0,_,_=>none
 |k+1,x30,x36=>bif(decide (x36<(a0.d.length:Int))) then((bM a0.d x36).bind fun v48=>(gG K a1 x36 v48 K x30 0 0).bind fun(x66,x72)=>o5 K a1 x36 (fL K a0 a1 k) x66 x72) else(some x30)
def uE (K:Nat) (a0:aH) (a1:aH) (x133:List Int):Option aH:=
 (eG K (a0.neg != a1.neg) x133).bind fun v141=>some v141
def qX (K:Nat) (a1:aH) (x132:Int) (recl139:(List Int)→Int→Option (List Int)) (x162:List Int) (x168:Int):Option (List Int):=
 (aP (x132+(a1.d.length:Int))).bind fun v171=>(bM x162 v171).bind fun v173=>(nU x162 v171 x168).bind fun x175=>(aP (x132+1)).bind fun v178=>recl139 x175 v178
def mH (K:Nat) (a1:aH) (x132:Int) (v144:Int):Nat→(List Int)→Int→Int→Option ((List Int)×Int)
 |0,_,_,_=>none
 |k+1,x154,x160,x161=>bif(decide (x161<(a1.d.length:Int))) then((bM a1.d x161).bind fun v181=>(aP (x132+x161)).bind fun v183=>(bM x154 v183).bind fun v185=>(aP (v144*v181)).bind fun v187=>(aP (v185+v187)).bind fun v189=>(aP (v189+x160)).bind fun v191=>(w4 v191 1000000000).bind fun v193=>(aP (x132+x161)).bind fun v195=>(aP (v193*1000000000)).bind fun v197=>(aP (v191-v197)).bind fun v199=>(bM x154 v195).bind fun v201=>(nU x154 v195 v199).bind fun x203=>(aP (x161+1)).bind fun v206=>mH K a1 x132 v144 k x203 v193 v206) else(some (x154,x160))
def kH (K:Nat) (a0:aH) (a1:aH):Nat→(List Int)→Int→Option (List Int)
 |0,_,_=>none
 |k+1,x126,x132=>bif(decide (x132<(a0.d.length:Int))) then((bM a0.d x132).bind fun v144=>(mH K a1 x132 v144 K x126 0 0).bind fun(x162,x168)=>qX K a1 x132 (kH K a0 a1 k) x162 x168) else(some x126)
def cF (K:Nat) (a0:aH) (a1:aH):Option aH:=
 bif((a0.d.length:Int)==1) then(bif((a1.d.length:Int)==1) then((bM a0.d 0).bind fun v10=>(bM a1.d 0).bind fun v12=>(eS (a0.neg != a1.neg) (wu ((IntKind.u64.wrap v10)*(IntKind.u64.wrap v12)))).bind fun v14=>some v14) else((aP ((a0.d.length:Int)+(a1.d.length:Int))).bind fun v16=>(wG v16 0).bind fun x18=>(fL K a0 a1 K x18 0).bind fun x37=>pJ K a0 a1 x37)) else((aP ((a0.d.length:Int)+(a1.d.length:Int))).bind fun v112=>(wG v112 0).bind fun x114=>(kH K a0 a1 K x114 0).bind fun x133=>uE K a0 a1 x133)
theorem f8 {K:Nat} {a0:aH} {a1:aH} {r:aH} (hF:cF K a0 a1=some r):Ct Tryz.prog 95 [.va (aH.e a0),.va (aH.e a1)] (.va (aH.e r)):=by
 unfold cF at hF
 refine aI Tryz.func95 rfl (by kernel_rfl) Tryz.ntmps95 rfl (fun w0 M0=>?_)
 refine aM (aX (cT rfl rfl trivial (fun b1=>?_)))
 refine cT rfl rfl trivial (fun b2=>?_)
 refine aN rfl tyZ42 (fun b3=>?_)
 refine go ?_ ?_
 refine dr [0,1,0,4,3,31] 6 0 ?_ (fun bs5 G4=>?_)
 refine go ?_ ?_
 refine dQ hF (fun h6 hF=>?_) (fun h6 hF=>?_)
 ·refine go ?_ ?_
  refine aJ hF rfl (fun h7 hF=>?_) (fun h7 hF=>?_)
  ·refine aM ?_
   obtain⟨v10,h11,hF⟩:=a9 hF
   obtain⟨v12,h13,hF⟩:=a9 hF
   obtain⟨v14,h15,hF⟩:=bD hF jN
   refine kG [0,1,0,4,15,0,32,96,224,0,512,1536,3584,8160,16383,32767] 15 1 [.v (.vc (pP (some b1) 0)),.v (.vc (pB a0.neg)),.v (.vc (pP (some b2) 0)),.v (.vc (pB a1.neg)),.v (.vc (pB (a0.neg != a1.neg))),.v (.vc (pS cI a0.d)),.v (.vc (pM (cI.e v10))),.v (.vc (pI .i64 v10)),.v (.vc (pI .u64 (IntKind.u64.wrap v10))),.v (.vc (pS cI a1.d)),.v (.vc (pM (cI.e v12))),.v (.vc (pI .i64 v12)),.v (.vc (pI .u64 (IntKind.u64.wrap v12))),.v (.vc (pI .u64 (wu ((IntKind.u64.wrap v10)*(IntKind.u64.wrap v12))))),.v (.va (aH.e v14))] bK ⟨d0 (oK (off:=0) (k:=0) rfl tyF42_0) zU1,d0 (gF 2 1 rfl rfl rfl rfl (.one tyO4)) zU1,d0 (oK (off:=0) (k:=0) rfl tyF42_0) zU1,d0 (gF 1 1 rfl rfl rfl rfl (.one tyO4)) zU1,⟨rfl,.run (L:=[0]) ⟨fun G8 A=>aAs rfl Tryz.underlying4,trivial⟩ (fun G8=>zU2)⟩,d0 (bW (.inl rfl)) zU1,d0 (aLY rfl tyS22 h11) ⟨rfl,kL _ _,trivial⟩,d0 (aGw 1 rfl rfl (.one tyO3)) zU1,⟨rfl,.run (L:=[0]) ⟨fun G8 A=>aCK rfl ⟨_,Tryz.underlying3⟩ Tryz.underlying213,trivial⟩ (fun G8=>zU1)⟩,d0 (bW (.inl rfl)) zU1,d0 (aLY rfl tyS22 h13) ⟨rfl,kL _ _,trivial⟩,d0 (aGw 1 rfl rfl (.one tyO3)) zU1,⟨rfl,.run (L:=[0]) ⟨fun G8 A=>aCK rfl ⟨_,Tryz.underlying3⟩ Tryz.underlying213,trivial⟩ (fun G8=>zU1)⟩,d0 (aP4 rfl) zU2,d0 (bS rfl h15 rfl) zU2,trivial⟩ (fun bs9 G8=>?_)
   exact cA
  obtain⟨v16,h17,x18,h19,hF⟩:=vN hF
  refine go ?_ ?_
  refine uY (C:=cI) rfl tyS22 rfl tyZ3 rfl h19 (fun b20=>?_)
  refine go ?_ ?_
  refine aV (cJ (fun H E=>∃(x37:List Int),pJ K a0 a1 x37=some r∧x37.length=x18.length∧H=[hO cI b20 x18.length 3 x18.length x37,⟨some b3,1,42,2,1,([pB false]++[pS cI ([]:List Int)])⟩,⟨some b2,1,42,2,1,(aH.e a1)⟩,⟨some b1,1,42,2,1,(aH.e a0)⟩]∧E=[(2,.vc (pP (some b1) 0)),(3,.vc (pP (some b2) 0)),(4,.vc (pP (some b3) 0)),(7,.vc (pO b20 x18.length x18.length))]) ?_ (fun Jj44=>?_))
  ·rintro _ _ ⟨x37,hF,q41,rfl,rfl⟩
   unfold pJ at hF
   refine go ?_ ?_
   refine aR (aAs rfl Tryz.underlying4) zU2 ?_
   refine mF ?_
   refine aAZ 0 [7,98] rfl q41 zU2 rfl ?_
   obtain⟨v45,h46,hF⟩:=bD hF gU
   exact cA
  obtain⟨x37',hL,hRl43⟩:=a9 hF
  refine iT (fun k a w=>∃(x30:List Int),∃(x36:Int),fL K a0 a1 k x30 x36=some x37'∧x30.length=x18.length∧hs _ [hO cI b20 x18.length 3 x18.length x30,⟨some b3,1,42,2,1,([pB false]++[pS cI ([]:List Int)])⟩,⟨some b2,1,42,2,1,(aH.e a1)⟩,⟨some b1,1,42,2,1,(aH.e a0)⟩] [(2,.vc (pP (some b1) 0)),(3,.vc (pP (some b2) 0)),(4,.vc (pP (some b3) 0)),(6,.vc (pS cI a1.d)),(7,.vc (pO b20 x18.length x18.length)),(47,.vc (pS cI a0.d)),(48,.vc (pI .i64 (a0.d.length:Int))),(49,.vc (pI .i64 x36))] a w) K (fun a w ⟨_,_,hF,_,_⟩=>by cases hF) (fun k a w ⟨x30,x36,hF,q34,hh⟩=>iS ?_ hh) (fun a w hh=>⟨x18,0,hL,rfl,iH [0,1,2,3] hh⟩)
  rw [fL.eq_2] at hF
  refine go ?_ ?_
  refine aJ hF rfl (fun h47 hF=>?_) (fun h47 hF=>?_)
  ·refine go ?_ ?_
   refine aV ?_
   obtain⟨v48,h49,hF⟩:=a9 hF
   refine go ?_ ?_
   refine aV (cJ (fun H E=>∃(x66:List Int),∃(x72:Int),o5 K a1 x36 (fL K a0 a1 k) x66 x72=some x37'∧x66.length=x18.length∧H=[hO cI b20 x18.length 3 x18.length x66,⟨some b3,1,42,2,1,([pB false]++[pS cI ([]:List Int)])⟩,⟨some b2,1,42,2,1,(aH.e a1)⟩,⟨some b1,1,42,2,1,(aH.e a0)⟩]∧E=[(2,.vc (pP (some b1) 0)),(3,.vc (pP (some b2) 0)),(4,.vc (pP (some b3) 0)),(6,.vc (pS cI a1.d)),(7,.vc (pO b20 x18.length x18.length)),(8,.vc (pI .i64 x36)),(10,.vc (pI .i64 x72)),(47,.vc (pS cI a0.d)),(48,.vc (pI .i64 (a0.d.length:Int))),(49,.vc (pI .i64 x36))]) ?_ (fun Jj74=>?_))
   ·rintro _ _ ⟨x66,x72,hF,q70,rfl,rfl⟩
    unfold o5 at hF
    obtain⟨v75,h76,v77,h78,x79,h80,v82,h83,hF⟩:=bn4 hF
    refine go ?_ ?_
    exact aL (fun a w hh=>⟨x79,v82,hF,(bI h80 q70),iH [0,1,2,3] hh⟩)
   obtain⟨⟨x66',x72'⟩,hL,hRl73⟩:=a9 hF
   refine iT (fun k a w=>∃(x58:List Int),∃(x64:Int),∃(x65:Int),gG K a1 x36 v48 k x58 x64 x65=some (x66',x72')∧x58.length=x18.length∧hs _ [hO cI b20 x18.length 3 x18.length x58,⟨some b3,1,42,2,1,([pB false]++[pS cI ([]:List Int)])⟩,⟨some b2,1,42,2,1,(aH.e a1)⟩,⟨some b1,1,42,2,1,(aH.e a0)⟩] [(2,.vc (pP (some b1) 0)),(3,.vc (pP (some b2) 0)),(4,.vc (pP (some b3) 0)),(6,.vc (pS cI a1.d)),(7,.vc (pO b20 x18.length x18.length)),(8,.vc (pI .i64 x36)),(9,.vc (pI .i64 v48)),(10,.vc (pI .i64 x64)),(47,.vc (pS cI a0.d)),(48,.vc (pI .i64 (a0.d.length:Int))),(49,.vc (pI .i64 x36)),(54,.vc (pS cI a1.d)),(55,.vc (pI .i64 (a1.d.length:Int))),(56,.vc (pI .i64 x65))] a w) K (fun a w ⟨_,_,_,hF,_,_⟩=>by cases hF) (fun k a w ⟨x58,x64,x65,hF,q62,hh⟩=>iS ?_ hh) (fun a w hh=>⟨x30,0,0,hL,q34,iH [0,1,2,3] hh⟩)
   rw [gG.eq_2] at hF
   refine go ?_ ?_
   refine aJ hF rfl (fun h84 hF=>?_) (fun h84 hF=>?_)
   ·refine go ?_ ?_
    refine aV ?_
    obtain⟨v85,h86,v87,h88,v89,h90,v91,h92,hF⟩:=bn4 hF
    obtain⟨v93,h94,v95,h96,v97,h98,hF⟩:=bn3 hF
    have hF:=tC h88 hF
    obtain⟨v101,h102,v103,h104,hF⟩:=vN hF
    have hF:=tC h90 hF
    obtain⟨x107,h108,v110,h111,hF⟩:=vN hF
    refine go ?_ ?_
    exact aL (fun a w hh=>⟨x107,v97,v110,hF,(bI h108 q62),iH [0,1,2,3] hh⟩)
   refine dJ ?_
   obtain⟨rfl,rfl⟩:=sm2 hF
   exact qB Jj74 ⟨x58,x64,hRl73,q62,rfl,rfl⟩ [0,1,2,3]
  refine dJ ?_
  obtain rfl:=qN hF
  exact qB Jj44 ⟨x30,hRl43,q34,rfl,rfl⟩ [0,1,2,3]
 refine go ?_ ?_
 refine uP rfl ?_
 obtain⟨v112,h113,x114,h115,hF⟩:=vN hF
 refine go ?_ ?_
 refine uY (C:=cI) rfl tyS22 rfl tyZ3 rfl h115 (fun b116=>?_)
 refine go ?_ ?_
 refine aV (cJ (fun H E=>∃(x133:List Int),uE K a0 a1 x133=some r∧x133.length=x114.length∧H=[hO cI b116 x114.length 3 x114.length x133,⟨some b3,1,42,2,1,([pB false]++[pS cI ([]:List Int)])⟩,⟨some b2,1,42,2,1,(aH.e a1)⟩,⟨some b1,1,42,2,1,(aH.e a0)⟩]∧E=[(2,.vc (pP (some b1) 0)),(3,.vc (pP (some b2) 0)),(4,.vc (pP (some b3) 0)),(7,.vc (pO b116 x114.length x114.length))]) ?_ (fun Jj140=>?_))
 ·rintro _ _ ⟨x133,hF,q137,rfl,rfl⟩
  unfold uE at hF
  refine go ?_ ?_
  refine aR (aAs rfl Tryz.underlying4) zU2 ?_
  refine mF ?_
  refine aAZ 0 [7,98] rfl q137 zU2 rfl ?_
  obtain⟨v141,h142,hF⟩:=bD hF gU
  exact cA
 obtain⟨x133',hL,hRl139⟩:=a9 hF
 refine iT (fun k a w=>∃(x126:List Int),∃(x132:Int),kH K a0 a1 k x126 x132=some x133'∧x126.length=x114.length∧hs _ [hO cI b116 x114.length 3 x114.length x126,⟨some b3,1,42,2,1,([pB false]++[pS cI ([]:List Int)])⟩,⟨some b2,1,42,2,1,(aH.e a1)⟩,⟨some b1,1,42,2,1,(aH.e a0)⟩] [(2,.vc (pP (some b1) 0)),(3,.vc (pP (some b2) 0)),(4,.vc (pP (some b3) 0)),(6,.vc (pS cI a1.d)),(7,.vc (pO b116 x114.length x114.length)),(47,.vc (pS cI a0.d)),(48,.vc (pI .i64 (a0.d.length:Int))),(49,.vc (pI .i64 x132))] a w) K (fun a w ⟨_,_,hF,_,_⟩=>by cases hF) (fun k a w ⟨x126,x132,hF,q130,hh⟩=>iS ?_ hh) (fun a w hh=>⟨x114,0,hL,rfl,iH [0,1,2,3] hh⟩)
 rw [kH.eq_2] at hF
 refine go ?_ ?_
 refine aJ hF rfl (fun h143 hF=>?_) (fun h143 hF=>?_)
 ·refine go ?_ ?_
  refine aV ?_
  obtain⟨v144,h145,hF⟩:=a9 hF
  refine go ?_ ?_
  refine aV (cJ (fun H E=>∃(x162:List Int),∃(x168:Int),qX K a1 x132 (kH K a0 a1 k) x162 x168=some x133'∧x162.length=x114.length∧H=[hO cI b116 x114.length 3 x114.length x162,⟨some b3,1,42,2,1,([pB false]++[pS cI ([]:List Int)])⟩,⟨some b2,1,42,2,1,(aH.e a1)⟩,⟨some b1,1,42,2,1,(aH.e a0)⟩]∧E=[(2,.vc (pP (some b1) 0)),(3,.vc (pP (some b2) 0)),(4,.vc (pP (some b3) 0)),(6,.vc (pS cI a1.d)),(7,.vc (pO b116 x114.length x114.length)),(8,.vc (pI .i64 x132)),(10,.vc (pI .i64 x168)),(47,.vc (pS cI a0.d)),(48,.vc (pI .i64 (a0.d.length:Int))),(49,.vc (pI .i64 x132))]) ?_ (fun Jj170=>?_))
  ·rintro _ _ ⟨x162,x168,hF,q166,rfl,rfl⟩
   unfold qX at hF
   obtain⟨v171,h172,v173,h174,x175,h176,v178,h179,hF⟩:=bn4 hF
   refine go ?_ ?_
   exact aL (fun a w hh=>⟨x175,v178,hF,(bI h176 q166),iH [0,1,2,3] hh⟩)
  obtain⟨⟨x162',x168'⟩,hL,hRl169⟩:=a9 hF
  refine iT (fun k a w=>∃(x154:List Int),∃(x160:Int),∃(x161:Int),mH K a1 x132 v144 k x154 x160 x161=some (x162',x168')∧x154.length=x114.length∧hs _ [hO cI b116 x114.length 3 x114.length x154,⟨some b3,1,42,2,1,([pB false]++[pS cI ([]:List Int)])⟩,⟨some b2,1,42,2,1,(aH.e a1)⟩,⟨some b1,1,42,2,1,(aH.e a0)⟩] [(2,.vc (pP (some b1) 0)),(3,.vc (pP (some b2) 0)),(4,.vc (pP (some b3) 0)),(6,.vc (pS cI a1.d)),(7,.vc (pO b116 x114.length x114.length)),(8,.vc (pI .i64 x132)),(9,.vc (pI .i64 v144)),(10,.vc (pI .i64 x160)),(47,.vc (pS cI a0.d)),(48,.vc (pI .i64 (a0.d.length:Int))),(49,.vc (pI .i64 x132)),(54,.vc (pS cI a1.d)),(55,.vc (pI .i64 (a1.d.length:Int))),(56,.vc (pI .i64 x161))] a w) K (fun a w ⟨_,_,_,hF,_,_⟩=>by cases hF) (fun k a w ⟨x154,x160,x161,hF,q158,hh⟩=>iS ?_ hh) (fun a w hh=>⟨x126,0,0,hL,q130,iH [0,1,2,3] hh⟩)
  rw [mH.eq_2] at hF
  refine go ?_ ?_
  refine aJ hF rfl (fun h180 hF=>?_) (fun h180 hF=>?_)
  ·refine go ?_ ?_
   refine aV ?_
   obtain⟨v181,h182,v183,h184,v185,h186,v187,h188,hF⟩:=bn4 hF
   obtain⟨v189,h190,v191,h192,v193,h194,hF⟩:=bn3 hF
   have hF:=tC h184 hF
   obtain⟨v197,h198,v199,h200,hF⟩:=vN hF
   have hF:=tC h186 hF
   obtain⟨x203,h204,v206,h207,hF⟩:=vN hF
   refine go ?_ ?_
   exact aL (fun a w hh=>⟨x203,v193,v206,hF,(bI h204 q158),iH [0,1,2,3] hh⟩)
  refine dJ ?_
  obtain⟨rfl,rfl⟩:=sm2 hF
  exact qB Jj170 ⟨x154,x160,hRl169,q158,rfl,rfl⟩ [0,1,2,3]
 refine dJ ?_
 obtain rfl:=qN hF
 exact qB Jj140 ⟨x126,hRl139,q130,rfl,rfl⟩ [0,1,2,3]
def rE (K:Nat) (x2:List Int) (x28:List Int) (x34:Int):Option (List Int):=
 (bM x28 (x2.length:Int)).bind fun v37=>(nU x28 (x2.length:Int) x34).bind fun x39=>some x39
def dN (K:Nat) (x2:List Int) (x3:List Int):Nat→(List Int)→Int→Int→Option ((List Int)×Int)
 |0,_,_,_=>none
 |k+1,x20,x26,x27=>bif(decide (x27<(x2.length:Int))) then((bM x2 x27).bind fun v43=>(aP (v43+x26)).bind fun v45=>bif(decide (x27<(x3.length:Int))) then((bM x3 x27).bind fun v48=>(aP (v45+v48)).bind fun v50=>bif(decide (1000000000≤v50)) then((aP (v50-1000000000)).bind fun v53=>(bM x20 x27).bind fun v55=>(nU x20 x27 v53).bind fun x57=>(aP (x27+1)).bind fun v60=>dN K x2 x3 k x57 1 v60) else((bM x20 x27).bind fun v62=>(nU x20 x27 v50).bind fun x64=>(aP (x27+1)).bind fun v67=>dN K x2 x3 k x64 0 v67)) else(bif(decide (1000000000≤v45)) then((aP (v45-1000000000)).bind fun v70=>(bM x20 x27).bind fun v72=>(nU x20 x27 v70).bind fun x74=>(aP (x27+1)).bind fun v77=>dN K x2 x3 k x74 1 v77) else((bM x20 x27).bind fun v79=>(nU x20 x27 v45).bind fun x81=>(aP (x27+1)).bind fun v84=>dN K x2 x3 k x81 0 v84))) else(some (x20,x26))
def nG (K:Nat) (x2:List Int) (x3:List Int):Option (List Int):=
 (aP ((x2.length:Int)+1)).bind fun v5=>(wG v5 0).bind fun x7=>(dN K x2 x3 K x7 0 0).bind fun(x28,x34)=>rE K x2 x28 x34
def oH (K:Nat) (a0:List Int) (a1:List Int):Option (List Int):=
 bif(decide ((a0.length:Int)<(a1.length:Int))) then(nG K a1 a0) else(nG K a0 a1)
theorem aAq {K:Nat} {a0:List Int} {a1:List Int} {r:List Int} (hF:oH K a0 a1=some r):Ct Tryz.prog 187 [.vc (pS cI a0),.vc (pS cI a1)] (.vc (pS cI r)):=by
 unfold oH at hF
 refine aI Tryz.func187 rfl (by kernel_rfl) Tryz.ntmps187 rfl (fun w0 M0=>?_)
 refine aM (aX (aR (bW (.inr rfl)) ⟨eJ cI,trivial⟩ ?_))
 refine bQ (aS (aM (uM (fun H E=>∃(x2:List Int),∃(x3:List Int),nG K x2 x3=some r∧H=[]∧E=[(0,.vc (pS cI x2)),(1,.vc (pS cI x3))]) ?_ (fun Jj4=>?_))))
 ·rintro _ _ ⟨x2,x3,hF,rfl,rfl⟩
  unfold nG at hF
  obtain⟨v5,h6,x7,h8,hF⟩:=vN hF
  refine go ?_ ?_
  refine uY (C:=cI) rfl tyS22 rfl tyZ3 rfl h8 (fun b9=>?_)
  refine go ?_ ?_
  refine aV (cJ (fun H E=>∃(x28:List Int),∃(x34:Int),rE K x2 x28 x34=some r∧x28.length=x7.length∧H=[hO cI b9 x7.length 3 x7.length x28]∧E=[(0,.vc (pS cI x2)),(5,.vc (pO b9 x7.length x7.length)),(6,.vc (pI .i64 x34))]) ?_ (fun Jj36=>?_))
  ·rintro _ _ ⟨x28,x34,hF,q32,rfl,rfl⟩
   unfold rE at hF
   obtain⟨v37,h38,x39,h40,hF⟩:=vN hF
   refine go ?_ ?_
   refine sP (sS (yF 0 [4,5,50,55] rfl (bI h40 q32) ⟨rfl,rfl,rfl,rfl,trivial⟩ rfl ?_))
   obtain rfl:=qN hF
   exact s7 (.inl rfl) Tryz.results187 (.tmp rfl .nil) rfl rfl
  obtain⟨⟨x28',x34'⟩,hL,hRl35⟩:=a9 hF
  refine iT (fun k a w=>∃(x20:List Int),∃(x26:Int),∃(x27:Int),dN K x2 x3 k x20 x26 x27=some (x28',x34')∧x20.length=x7.length∧hs _ [hO cI b9 x7.length 3 x7.length x20] [(0,.vc (pS cI x2)),(1,.vc (pS cI x3)),(5,.vc (pO b9 x7.length x7.length)),(6,.vc (pI .i64 x26)),(21,.vc (pS cI x2)),(22,.vc (pI .i64 (x2.length:Int))),(23,.vc (pI .i64 x27))] a w) K (fun a w ⟨_,_,_,hF,_,_⟩=>by cases hF) (fun k a w ⟨x20,x26,x27,hF,q24,hh⟩=>iS ?_ hh) (fun a w hh=>⟨x7,0,0,hL,rfl,iH [0] hh⟩)
  rw [dN.eq_2] at hF
  refine go ?_ ?_
  refine aJ hF rfl (fun h42 hF=>?_) (fun h42 hF=>?_)
  ·refine go ?_ ?_
   refine aV ?_
   obtain⟨v43,h44,v45,h46,hF⟩:=vN hF
   refine go ?_ ?_
   refine aJ hF rfl (fun h47 hF=>?_) (fun h47 hF=>?_)
   ·obtain⟨v48,h49,v50,h51,hF⟩:=vN hF
    refine go ?_ ?_
    refine aJ hF rfl (fun h52 hF=>?_) (fun h52 hF=>?_)
    ·obtain⟨v53,h54,v55,h56,x57,h58,v60,h61,hF⟩:=bn4 hF
     refine go ?_ ?_
     exact aL (fun a w hh=>⟨x57,1,v60,hF,(bI h58 q24),iH [0] hh⟩)
    obtain⟨v62,h63,x64,h65,v67,h68,hF⟩:=bn3 hF
    refine go ?_ ?_
    exact aL (fun a w hh=>⟨x64,0,v67,hF,(bI h65 q24),iH [0] hh⟩)
   refine go ?_ ?_
   refine aJ hF rfl (fun h69 hF=>?_) (fun h69 hF=>?_)
   ·obtain⟨v70,h71,v72,h73,x74,h75,v77,h78,hF⟩:=bn4 hF
    refine go ?_ ?_
    exact aL (fun a w hh=>⟨x74,1,v77,hF,(bI h75 q24),iH [0] hh⟩)
   obtain⟨v79,h80,x81,h82,v84,h85,hF⟩:=bn3 hF
   refine go ?_ ?_
   exact aL (fun a w hh=>⟨x81,0,v84,hF,(bI h82 q24),iH [0] hh⟩)
  refine dJ ?_
  obtain⟨rfl,rfl⟩:=sm2 hF
  exact qB Jj36 ⟨x20,x26,hRl35,q24,rfl,rfl⟩ [0]
 refine go ?_ ?_
 refine aJ hF rfl (fun h86 hF=>?_) (fun h86 hF=>?_)
 ·refine aX (mF ?_)
  refine mF ?_
  refine wX ?_
  refine wX ?_
  refine bQ ?_
  exact qB Jj4 ⟨a1,a0,hF,rfl,rfl⟩ []
 refine iO ?_
 exact qB Jj4 ⟨a0,a1,hF,rfl,rfl⟩ []
def mE (a0:Int):Option Bool:=
 some (a0 != a0)
theorem vM {a0:Int} {r:Bool} (hF:mE a0=some r):Ct Tryz.prog 261 [.vc (pI .i64 a0)] (.vc (pB r)):=by
 unfold mE at hF
 refine aI Tryz.func261 rfl (by kernel_rfl) Tryz.ntmps261 rfl (fun w0 M0=>?_)
 exact cA
def gN (a0:Int) (a1:Int):Option Int:=
 (mE a0).bind fun v1=>(mE a1).bind fun v3=>bif v1 then(bif v3 then(some 0) else(some (-1))) else(bif v3 then(some 1) else(bif(decide (a0<a1)) then(some (-1)) else(bif(decide (a1<a0)) then(some 1) else(some 0))))
theorem sW {a0:Int} {a1:Int} {r:Int} (hF:gN a0 a1=some r):Ct Tryz.prog 233 [.vc (pI .i64 a0),.vc (pI .i64 a1)] (.vc (pI .i64 r)):=by
 unfold gN at hF
 refine aI Tryz.func233 rfl (by kernel_rfl) Tryz.ntmps233 rfl (fun w0 M0=>?_)
 obtain⟨v1,h2,hF⟩:=bD hF vM
 obtain⟨v3,h4,hF⟩:=bD hF vM
 refine go ?_ ?_
 refine aJ hF rfl (fun h5 hF=>?_) (fun h5 hF=>?_)
 ·refine go ?_ ?_
  refine aJ hF rfl (fun h6 hF=>?_) (fun h6 hF=>?_)
  ·exact cA
  exact cA
 refine go ?_ ?_
 refine aJ hF rfl (fun h7 hF=>?_) (fun h7 hF=>?_)
 ·exact cA
 refine go ?_ ?_
 refine aJ hF rfl (fun h8 hF=>?_) (fun h8 hF=>?_)
 ·exact cA
 refine go ?_ ?_
 refine aJ hF rfl (fun h9 hF=>?_) (fun h9 hF=>?_)
 ·exact cA
 exact cA
def sU (K:Nat):Option Int:=
 some 0
def fO (K:Nat) (a0:List Int) (a1:List Int):Nat→Int→Option (LR Int Unit)
 |0,_=>none
 |k+1,x7=>bif(decide (0≤x7)) then((bM a0 x7).bind fun v13=>(bM a1 x7).bind fun v15=>bif(v13 != v15) then((bM a0 x7).bind fun v20=>(bM a1 x7).bind fun v22=>(gN v20 v22).bind fun v24=>some (.ret v24)) else((aP (x7-1)).bind fun v26=>fO K a0 a1 k v26)) else(some (.go ()))
def fK (K:Nat) (a0:List Int) (a1:List Int):Option Int:=
 bif((a0.length:Int) != (a1.length:Int)) then((gN (a0.length:Int) (a1.length:Int)).bind fun v2=>some v2) else((aP ((a0.length:Int)-1)).bind fun v4=>(fO K a0 a1 K v4).bind fun o=>match o with| .ret r=>some r| .go _=>sU K)
theorem mL {K:Nat} {a0:List Int} {a1:List Int} {r:Int} (hF:fK K a0 a1=some r):Ct Tryz.prog 188 [.vc (pS cI a0),.vc (pS cI a1)] (.vc (pI .i64 r)):=by
 unfold fK at hF
 refine aI Tryz.func188 rfl (by kernel_rfl) Tryz.ntmps188 rfl (fun w0 M0=>?_)
 refine go ?_ ?_
 refine aJ hF rfl (fun h1 hF=>?_) (fun h1 hF=>?_)
 ·obtain⟨v2,h3,hF⟩:=bD hF sW
  exact cA
 obtain⟨v4,h5,hF⟩:=a9 hF
 refine go ?_ ?_
 refine aV (cJ (fun H E=>sU K=some r∧H=[]∧E=[]) ?_ (fun Jj9=>?_))
 ·rintro _ _ ⟨hF,rfl,rfl⟩
  unfold sU at hF
  exact cA
 obtain⟨ol8,hL,hRl8⟩:=a9 hF
 refine iT (fun k a w=>∃(x7:Int),fO K a0 a1 k x7=some ol8∧hs _ [] [(0,.vc (pS cI a0)),(1,.vc (pS cI a1)),(5,.vc (pI .i64 x7))] a w) K (fun a w ⟨_,hF,_⟩=>by cases hF) (fun k a w ⟨x7,hF,hh⟩=>iS ?_ hh) (fun a w hh=>⟨v4,hL,iH [] hh⟩)
 rw [fO.eq_2] at hF
 refine go ?_ ?_
 refine aJ hF rfl (fun h10 hF=>?_) (fun h10 hF=>?_)
 ·refine go ?_ ?_
  refine aV (aM ?_)
  obtain⟨v13,h14,hF⟩:=a9 hF
  obtain⟨v15,h16,hF⟩:=a9 hF
  refine dr [0,0,3,7,0,0,48,112,255] 9 0 ?_ (fun bs12 G11=>?_)
  refine bQ (aS (aJ hF rfl (fun h17 hF=>?_) (fun h17 hF=>?_)))
  ·refine aM ?_
   have hF:=tC h14 hF
   have hF:=tC h16 hF
   obtain⟨v24,h25,hF⟩:=bD hF sW
   refine dr [0,0,3,7,0,0,48,112,255,511] 10 0 ?_ (fun bs19 G18=>?_)
   refine bQ (aS ?_)
   exact cA
  obtain⟨v26,h27,hF⟩:=a9 hF
  refine go ?_ ?_
  exact aL (fun a w hh=>⟨v26,hF,iH [] hh⟩)
 refine dJ ?_
 obtain rfl:=qN hF
 exact qB Jj9 ⟨hRl8,rfl,rfl⟩ []
def p8 (K:Nat) (x21:List Int):Option (List Int):=
 some x21
def jK (K:Nat) (x20:Int) (recl27:(List Int)→Int→Option (List Int)) (x31:List Int):Option (List Int):=
 (bM x31 x20).bind fun v38=>bif(decide (v38<0)) then((bM x31 x20).bind fun v41=>(aP (v41+1000000000)).bind fun v43=>(bM x31 x20).bind fun v45=>(nU x31 x20 v43).bind fun x47=>(aP (x20+1)).bind fun v50=>(bM x47 v50).bind fun v52=>(aP (v52-1)).bind fun v54=>(bM x47 v50).bind fun v56=>(nU x47 v50 v54).bind fun x58=>(aP (x20+1)).bind fun v61=>recl27 x58 v61) else((aP (x20+1)).bind fun v63=>recl27 x31 v63)
def eD (K:Nat) (a0:List Int) (a1:List Int) (x1:List Int):Nat→(List Int)→Int→Option (List Int)
 |0,_,_=>none
 |k+1,x14,x20=>bif(decide (x20<((cpL x1 a0).length:Int))) then(bif(decide (x20<(a1.length:Int))) then((bM x14 x20).bind fun v68=>(bM a1 x20).bind fun v70=>(aP (v68-v70)).bind fun v72=>(bM x14 x20).bind fun v74=>(nU x14 x20 v72).bind fun x76=>jK K x20 (eD K a0 a1 x1 k) x76) else(jK K x20 (eD K a0 a1 x1 k) x14)) else(some x14)
def lQ (K:Nat) (a0:List Int) (a1:List Int):Option (List Int):=
 (wG (a0.length:Int) 0).bind fun x1=>(eD K a0 a1 x1 K (cpL x1 a0) 0).bind fun x21=>p8 K x21
theorem wJ {K:Nat} {a0:List Int} {a1:List Int} {r:List Int} (hF:lQ K a0 a1=some r):Ct Tryz.prog 189 [.vc (pS cI a0),.vc (pS cI a1)] (.vc (pS cI r)):=by
 unfold lQ at hF
 refine aI Tryz.func189 rfl (by kernel_rfl) Tryz.ntmps189 rfl (fun w0 M0=>?_)
 refine aM (aX (aR (bW (.inr rfl)) ⟨eJ cI,trivial⟩ ?_))
 obtain⟨x1,h2,hF⟩:=a9 hF
 refine go ?_ ?_
 refine uY (C:=cI) rfl tyS22 rfl tyZ3 rfl h2 (fun b3=>?_)
 refine go ?_ ?_
 refine aR (t_cp 0 rfl tyS22 rfl rfl rfl) zU2 ?_
 refine go ?_ ?_
 refine aR (aFF (C:=cI) (xs:=(cpL x1 a0)) (T:=3) rfl tyS22 (aCz rfl)) zU1 ?_
 refine go ?_ ?_
 refine aV (cJ (fun H E=>∃(x21:List Int),p8 K x21=some r∧x21.length=x1.length∧H=[hO cI b3 x1.length 3 x1.length x21]∧E=[(5,.vc (pO b3 x1.length x1.length))]) ?_ (fun Jj28=>?_))
 ·rintro _ _ ⟨x21,hF,q25,rfl,rfl⟩
  unfold p8 at hF
  refine go ?_ ?_
  refine sP (sS (yF 0 [4,5,51] rfl q25 ⟨rfl,rfl,rfl,trivial⟩ rfl ?_))
  obtain rfl:=qN hF
  exact s7 (.inl rfl) Tryz.results189 (.tmp rfl .nil) rfl rfl
 obtain⟨x21',hL,hRl27⟩:=a9 hF
 refine iT (fun k a w=>∃(x14:List Int),∃(x20:Int),eD K a0 a1 x1 k x14 x20=some x21'∧x14.length=x1.length∧hs _ [hO cI b3 x1.length 3 x1.length x14] [(1,.vc (pS cI a1)),(5,.vc (pO b3 x1.length x1.length)),(14,.vc (pI .i64 ((cpL x1 a0).length:Int))),(15,.vc (pI .i64 x20))] a w) K (fun a w ⟨_,_,hF,_,_⟩=>by cases hF) (fun k a w ⟨x14,x20,hF,q18,hh⟩=>iS ?_ hh) (fun a w hh=>⟨(cpL x1 a0),0,hL,(aCz rfl),iH [0] hh⟩)
 rw [eD.eq_2] at hF
 refine go ?_ ?_
 refine aJ hF rfl (fun h29 hF=>?_) (fun h29 hF=>?_)
 ·refine go ?_ ?_
  refine aV (aM (aX (mF ?_)))
  refine wX ?_
  refine bQ (aS (aM (uM (fun H E=>∃(x31:List Int),jK K x20 (eD K a0 a1 x1 k) x31=some x21'∧x31.length=x1.length∧H=[hO cI b3 x1.length 3 x1.length x31]∧E=[(1,.vc (pS cI a1)),(5,.vc (pO b3 x1.length x1.length)),(6,.vc (pI .i64 x20)),(14,.vc (pI .i64 ((cpL x1 a0).length:Int))),(15,.vc (pI .i64 x20))]) ?_ (fun Jj37=>?_))))
  ·rintro _ _ ⟨x31,hF,q35,rfl,rfl⟩
   unfold jK at hF
   obtain⟨v38,h39,hF⟩:=a9 hF
   refine go ?_ ?_
   refine aJ hF rfl (fun h40 hF=>?_) (fun h40 hF=>?_)
   ·have hF:=tC h39 hF
    obtain⟨v43,h44,hF⟩:=a9 hF
    have hF:=tC h39 hF
    obtain⟨x47,h48,v50,h51,v52,h53,v54,h55,hF⟩:=bn4 hF
    have hF:=tC h53 hF
    obtain⟨x58,h59,hF⟩:=a9 hF
    have hF:=tC h51 hF
    refine go ?_ ?_
    exact aL (fun a w hh=>⟨x58,v50,hF,(bI h59 (bI h48 q35)),iH [0] hh⟩)
   obtain⟨v63,h64,hF⟩:=a9 hF
   refine go ?_ ?_
   exact aL (fun a w hh=>⟨x31,v63,hF,q35,iH [0] hh⟩)
  refine go ?_ ?_
  refine aJ hF rfl (fun h65 hF=>?_) (fun h65 hF=>?_)
  ·obtain⟨v68,h69,hF⟩:=a9 hF
   obtain⟨v70,h71,hF⟩:=a9 hF
   obtain⟨v72,h73,hF⟩:=a9 hF
   have hF:=tC h69 hF
   refine dr [0,0,3,7,0,0,48,112,255,511,1023] 10 1 ?_ (fun bs67 G66=>?_)
   obtain⟨x76,h77,hF⟩:=a9 hF
   refine oS (xT 0 rfl rfl h69 h77 tyO3.s) zU2 ?_
   refine bQ ?_
   exact qB Jj37 ⟨x76,hF,(bI h77 q18),rfl,rfl⟩ [0]
  refine iO ?_
  exact qB Jj37 ⟨x14,hF,q18,rfl,rfl⟩ [0]
 refine dJ ?_
 obtain rfl:=qN hF
 exact qB Jj28 ⟨x14,hRl27,q18,rfl,rfl⟩ [0]
def mR (K:Nat) (a0:aH) (a1:aH):Option aH:=
 bif(a0.neg==a1.neg) then((oH K a0.d a1.d).bind fun v7=>(eG K a0.neg v7).bind fun v9=>some v9) else((fK K a0.d a1.d).bind fun v11=>bif(decide (v11<0)) then((lQ K a1.d a0.d).bind fun v16=>(eG K a1.neg v16).bind fun v18=>some v18) else((lQ K a0.d a1.d).bind fun v22=>(eG K a0.neg v22).bind fun v24=>some v24))
theorem xP {K:Nat} {a0:aH} {a1:aH} {r:aH} (hF:mR K a0 a1=some r):Ct Tryz.prog 101 [.va (aH.e a0),.va (aH.e a1)] (.va (aH.e r)):=by
 unfold mR at hF
 refine aI Tryz.func101 rfl (by kernel_rfl) Tryz.ntmps101 rfl (fun w0 M0=>?_)
 refine aM (aX (cT rfl rfl trivial (fun b1=>?_)))
 refine cT rfl rfl trivial (fun b2=>?_)
 refine aN rfl tyZ42 (fun b3=>?_)
 refine go ?_ ?_
 refine aV (go ?_ ?_)
 refine aR (aMR rfl Tryz.underlying4) zU2 ?_
 refine go ?_ ?_
 refine aJ hF rfl (fun h4 hF=>?_) (fun h4 hF=>?_)
 ·refine aM ?_
  obtain⟨v7,h8,hF⟩:=bD hF aAq
  obtain⟨v9,h10,hF⟩:=bD hF gU
  refine dr [0,1,0,4,0,16,60,127,255] 8 1 ?_ (fun bs6 G5=>?_)
  exact cA
 obtain⟨v11,h12,hF⟩:=bD hF mL
 refine go ?_ ?_
 refine aJ hF rfl (fun h13 hF=>?_) (fun h13 hF=>?_)
 ·refine aM ?_
  obtain⟨v16,h17,hF⟩:=bD hF wJ
  obtain⟨v18,h19,hF⟩:=bD hF gU
  refine dr [0,1,0,4,0,16,60,127,255] 8 1 ?_ (fun bs15 G14=>?_)
  exact cA
 obtain⟨v22,h23,hF⟩:=bD hF wJ
 obtain⟨v24,h25,hF⟩:=bD hF gU
 refine go ?_ ?_
 refine dr [0,1,0,4,0,16,60,127,255] 8 1 ?_ (fun bs21 G20=>?_)
 exact cA
def sT (a0:aH):Option Int:=
 bif a0.neg then(some (-1)) else(bif((a0.d.length:Int)==0) then(some 0) else(some 1))
theorem aDf {a0:aH} {r:Int} (hF:sT a0=some r):Ct Tryz.prog 102 [.va (aH.e a0)] (.vc (pI .i64 r)):=by
 unfold sT at hF
 refine aI Tryz.func102 rfl (by kernel_rfl) Tryz.ntmps102 rfl (fun w0 M0=>?_)
 refine aM (aX (cT rfl rfl trivial (fun b1=>?_)))
 refine go ?_ ?_
 refine aV (go ?_ ?_)
 refine aJ hF rfl (fun h2 hF=>?_) (fun h2 hF=>?_)
 ·exact cA
 refine go ?_ ?_
 refine aJ hF rfl (fun h3 hF=>?_) (fun h3 hF=>?_)
 ·exact cA
 exact cA
def rT (K:Nat):Option Bool:=
 some true
def fW (K:Nat) (a0:aH) (a1:aH):Nat→Int→Option (LR Bool Unit)
 |0,_=>none
 |k+1,x6=>bif(decide (x6<(a0.d.length:Int))) then((bM a0.d x6).bind fun v12=>(bM a1.d x6).bind fun v14=>bif(v12 != v14) then(some (.ret false)) else((aP (x6+1)).bind fun v17=>fW K a0 a1 k v17)) else(some (.go ()))
def mJ (K:Nat) (a0:aH) (a1:aH):Option Bool:=
 bif(a0.neg != a1.neg) then(some false) else(bif((a0.d.length:Int) != (a1.d.length:Int)) then(some false) else((fW K a0 a1 K 0).bind fun o=>match o with| .ret r=>some r| .go _=>rT K))
theorem wZ {K:Nat} {a0:aH} {a1:aH} {r:Bool} (hF:mJ K a0 a1=some r):Ct Tryz.prog 142 [.va (aH.e a0),.va (aH.e a1)] (.vc (pB r)):=by
 unfold mJ at hF
 refine aI Tryz.func142 rfl (by kernel_rfl) Tryz.ntmps142 rfl (fun w0 M0=>?_)
 refine aM (aX (cT rfl rfl trivial (fun b1=>?_)))
 refine cT rfl rfl trivial (fun b2=>?_)
 refine go ?_ ?_
 refine aR (aAs rfl Tryz.underlying4) zU2 ?_
 refine mF ?_
 refine dQ hF (fun h3 hF=>?_) (fun h3 hF=>?_)
 ·refine go ?_ ?_
  refine mD rfl ?_
  exact cA
 refine go ?_ ?_
 refine aJ hF rfl (fun h4 hF=>?_) (fun h4 hF=>?_)
 ·exact cA
 refine go ?_ ?_
 refine aV (cJ (fun H E=>rT K=some r∧H=[]∧E=[]) ?_ (fun Jj8=>?_))
 ·rintro _ _ ⟨hF,rfl,rfl⟩
  unfold rT at hF
  exact cA
 obtain⟨ol7,hL,hRl7⟩:=a9 hF
 refine iT (fun k a w=>∃(x6:Int),fW K a0 a1 k x6=some ol7∧hs _ [⟨some b2,1,42,2,1,(aH.e a1)⟩,⟨some b1,1,42,2,1,(aH.e a0)⟩] [(2,.vc (pP (some b1) 0)),(3,.vc (pP (some b2) 0)),(5,.vc (pI .i64 x6))] a w) K (fun a w ⟨_,hF,_⟩=>by cases hF) (fun k a w ⟨x6,hF,hh⟩=>iS ?_ hh) (fun a w hh=>⟨0,hL,iH [0,1] hh⟩)
 rw [fW.eq_2] at hF
 refine go ?_ ?_
 refine aJ hF rfl (fun h9 hF=>?_) (fun h9 hF=>?_)
 ·refine go ?_ ?_
  refine aV (aM ?_)
  obtain⟨v12,h13,hF⟩:=a9 hF
  obtain⟨v14,h15,hF⟩:=a9 hF
  refine dr [0,1,0,7,15,0,32,0,224,480,1023] 11 0 ?_ (fun bs11 G10=>?_)
  refine bQ (aS (aJ hF rfl (fun h16 hF=>?_) (fun h16 hF=>?_)))
  ·exact cA
  obtain⟨v17,h18,hF⟩:=a9 hF
  refine go ?_ ?_
  exact aL (fun a w hh=>⟨v17,hF,iH [0,1] hh⟩)
 refine dJ ?_
 obtain rfl:=qN hF
 exact qB Jj8 ⟨hRl7,rfl,rfl⟩ []
def oY (K:Nat):Option Int:=
 some 0
def dK (K:Nat) (a0:List Int) (a1:List Int):Nat→Int→Option (LR Int Unit)
 |0,_=>none
 |k+1,x6=>bif(decide (0≤x6)) then((bM a0 x6).bind fun v12=>(bM a1 x6).bind fun v14=>bif(decide (v12<v14)) then(some (.ret (-1))) else((bM a0 x6).bind fun v19=>(bM a1 x6).bind fun v21=>bif(decide (v21<v19)) then(some (.ret 1)) else((aP (x6-1)).bind fun v24=>dK K a0 a1 k v24))) else(some (.go ()))
def cL (K:Nat) (a0:List Int) (a1:List Int):Option Int:=
 bif(decide ((a0.length:Int)<(a1.length:Int))) then(some (-1)) else(bif(decide ((a1.length:Int)<(a0.length:Int))) then(some 1) else((aP ((a0.length:Int)-1)).bind fun v3=>(dK K a0 a1 K v3).bind fun o=>match o with| .ret r=>some r| .go _=>oY K))
theorem gC {K:Nat} {a0:List Int} {a1:List Int} {r:Int} (hF:cL K a0 a1=some r):Ct Tryz.prog 230 [.vc (pS cI a0),.vc (pS cI a1)] (.vc (pI .i64 r)):=by
 unfold cL at hF
 refine aI Tryz.func230 rfl (by kernel_rfl) Tryz.ntmps230 rfl (fun w0 M0=>?_)
 refine go ?_ ?_
 refine aJ hF rfl (fun h1 hF=>?_) (fun h1 hF=>?_)
 ·exact cA
 refine go ?_ ?_
 refine aJ hF rfl (fun h2 hF=>?_) (fun h2 hF=>?_)
 ·exact cA
 obtain⟨v3,h4,hF⟩:=a9 hF
 refine go ?_ ?_
 refine aV (cJ (fun H E=>oY K=some r∧H=[]∧E=[]) ?_ (fun Jj8=>?_))
 ·rintro _ _ ⟨hF,rfl,rfl⟩
  unfold oY at hF
  exact cA
 obtain⟨ol7,hL,hRl7⟩:=a9 hF
 refine iT (fun k a w=>∃(x6:Int),dK K a0 a1 k x6=some ol7∧hs _ [] [(0,.vc (pS cI a0)),(1,.vc (pS cI a1)),(5,.vc (pI .i64 x6))] a w) K (fun a w ⟨_,hF,_⟩=>by cases hF) (fun k a w ⟨x6,hF,hh⟩=>iS ?_ hh) (fun a w hh=>⟨v3,hL,iH [] hh⟩)
 rw [dK.eq_2] at hF
 refine go ?_ ?_
 refine aJ hF rfl (fun h9 hF=>?_) (fun h9 hF=>?_)
 ·refine go ?_ ?_
  refine aV (aM (aM ?_))
  obtain⟨v12,h13,hF⟩:=a9 hF
  obtain⟨v14,h15,hF⟩:=a9 hF
  refine dr [0,0,3,7,0,0,48,112,255] 9 0 ?_ (fun bs11 G10=>?_)
  refine bQ (aS (aJ hF rfl (fun h16 hF=>?_) (fun h16 hF=>?_)))
  ·exact cA
  have hF:=tC h13 hF
  have hF:=tC h15 hF
  refine go ?_ ?_
  refine dr [0,0,3,7,0,0,48,112,255] 9 0 ?_ (fun bs18 G17=>?_)
  refine bQ (aS (aJ hF rfl (fun h23 hF=>?_) (fun h23 hF=>?_)))
  ·exact cA
  obtain⟨v24,h25,hF⟩:=a9 hF
  refine go ?_ ?_
  exact aL (fun a w hh=>⟨v24,hF,iH [] hh⟩)
 refine dJ ?_
 obtain rfl:=qN hF
 exact qB Jj8 ⟨hRl7,rfl,rfl⟩ []
def lZ (K:Nat) (a0:aH) (a1:aH):Option Int:=
 bif(a0.neg != a1.neg) then(bif a0.neg then(some (-1)) else(some 1)) else(bif a0.neg then((cL K a1.d a0.d).bind fun v6=>some v6) else((cL K a0.d a1.d).bind fun v8=>some v8))
theorem aAe {K:Nat} {a0:aH} {a1:aH} {r:Int} (hF:lZ K a0 a1=some r):Ct Tryz.prog 221 [.va (aH.e a0),.va (aH.e a1)] (.vc (pI .i64 r)):=by
 unfold lZ at hF
 refine aI Tryz.func221 rfl (by kernel_rfl) Tryz.ntmps221 rfl (fun w0 M0=>?_)
 refine aM (aX (cT rfl rfl trivial (fun b1=>?_)))
 refine cT rfl rfl trivial (fun b2=>?_)
 refine go ?_ ?_
 refine aR (aAs rfl Tryz.underlying4) zU2 ?_
 refine bQ (aS (aJ hF rfl (fun h3 hF=>?_) (fun h3 hF=>?_)))
 ·refine go ?_ ?_
  refine aJ hF rfl (fun h4 hF=>?_) (fun h4 hF=>?_)
  ·exact cA
  exact cA
 refine go ?_ ?_
 refine aJ hF rfl (fun h5 hF=>?_) (fun h5 hF=>?_)
 ·obtain⟨v6,h7,hF⟩:=bD hF gC
  exact cA
 obtain⟨v8,h9,hF⟩:=bD hF gC
 exact cA
def oE (K:Nat) (a0:aH):Option Int:=
 (lZ K a0 (⟨false,([]:List Int)⟩:aH)).bind fun v2=>some v2
theorem aBu {K:Nat} {a0:aH} {r:Int} (hF:oE K a0=some r):Ct Tryz.prog 152 [.va (aH.e a0)] (.vc (pI .i64 r)):=by
 unfold oE at hF
 refine aI Tryz.func152 rfl (by kernel_rfl) Tryz.ntmps152 rfl (fun w0 M0=>?_)
 refine aM (aX (cT rfl rfl trivial (fun b1=>?_)))
 refine go ?_ ?_
 refine aR (fC (is:=[]) (xs:=[]) (ps:=[]) rfl tyB42 rfl rfl trivial rfl) trivial ?_
 obtain⟨v2,h3,hF⟩:=bD hF aAe
 exact cA
def oV (K:Nat):Option Int:=
 some (-1)
def fF (K:Nat) (a0:List Int) (a1:(Int→Option Bool)):Nat→Int→Option (LR Int Unit)
 |0,_=>none
 |k+1,x2=>bif(decide (x2<(a0.length:Int))) then((bM a0 x2).bind fun v6=>(a1 v6).bind fun v8=>bif v8 then(some (.ret x2)) else((aP (x2+1)).bind fun v11=>fF K a0 a1 k v11)) else(some (.go ()))
def nV (K:Nat) (a0:List Int) (a1:(Int→Option Bool)):Option Int:=
 (fF K a0 a1 K 0).bind fun o=>match o with| .ret r=>some r| .go _=>oV K
theorem zJ {K:Nat} {a0:List Int} {a1:(Int→Option Bool)} {r:Int} (hF:nV K a0 a1=some r):Ct Tryz.prog 256 [.vc (pS cI a0),.vc (pFn Tryz.prog (fun x:Int=>[.vc (pI .i64 x)]) (fun r:Bool=>.vc (pB r)) a1)] (.vc (pI .i64 r)):=by
 unfold nV at hF
 refine aI Tryz.func256 rfl (by kernel_rfl) Tryz.ntmps256 rfl (fun w0 M0=>?_)
 refine go ?_ ?_
 refine aV (cJ (fun H E=>oV K=some r∧H=[]∧E=[]) ?_ (fun Jj4=>?_))
 ·rintro _ _ ⟨hF,rfl,rfl⟩
  unfold oV at hF
  exact cA
 obtain⟨ol3,hL,hRl3⟩:=a9 hF
 refine iT (fun k a w=>∃(x2:Int),fF K a0 a1 k x2=some ol3∧hs _ [] [(0,.vc (pS cI a0)),(1,.vc (pFn Tryz.prog (fun x:Int=>[.vc (pI .i64 x)]) (fun r:Bool=>.vc (pB r)) a1)),(7,.vc (pI .i64 (a0.length:Int))),(8,.vc (pI .i64 x2))] a w) K (fun a w ⟨_,hF,_⟩=>by cases hF) (fun k a w ⟨x2,hF,hh⟩=>iS ?_ hh) (fun a w hh=>⟨0,hL,iH [] hh⟩)
 rw [fF.eq_2] at hF
 refine go ?_ ?_
 refine aJ hF rfl (fun h5 hF=>?_) (fun h5 hF=>?_)
 ·refine go ?_ ?_
  refine aV ?_
  obtain⟨v6,h7,v8,h9,hF⟩:=vN hF
  refine go ?_ ?_
  refine aR (aCg (pre:=fun x:Int=>[.vc (pI .i64 x)]) (post:=fun r:Bool=>.vc (pB r)) (x:=v6) (r:=v8) rfl h9 rfl) zU2 ?_
  refine bQ (aS (aJ hF rfl (fun h10 hF=>?_) (fun h10 hF=>?_)))
  ·exact cA
  obtain⟨v11,h12,hF⟩:=a9 hF
  refine go ?_ ?_
  exact aL (fun a w hh=>⟨v11,hF,iH [] hh⟩)
 refine dJ ?_
 obtain rfl:=qN hF
 exact qB Jj4 ⟨hRl3,rfl,rfl⟩ []
def jJ (K:Nat) (a0:List Int) (a1:(Int→Option Bool)):Option Bool:=
 (nV K a0 a1).bind fun v1=>some (decide (0≤v1))
theorem xZ {K:Nat} {a0:List Int} {a1:(Int→Option Bool)} {r:Bool} (hF:jJ K a0 a1=some r):Ct Tryz.prog 223 [.vc (pS cI a0),.vc (pFn Tryz.prog (fun x:Int=>[.vc (pI .i64 x)]) (fun r:Bool=>.vc (pB r)) a1)] (.vc (pB r)):=by
 unfold jJ at hF
 refine aI Tryz.func223 rfl (by kernel_rfl) Tryz.ntmps223 rfl (fun w0 M0=>?_)
 obtain⟨v1,h2,hF⟩:=bD hF zJ
 exact cA
def jS (a0:Int):Option Bool:=
 bif(decide (a0<0)) then(some true) else(some (decide (1000000000≤a0)))
theorem aBR {a0:Int} {r:Bool} (hF:jS a0=some r):Ct Tryz.prog 224 [.vc (pI .i64 a0)] (.vc (pB r)):=by
 unfold jS at hF
 refine aI Tryz.func224 rfl (by kernel_rfl) Tryz.ntmps224 rfl (fun w0 M0=>?_)
 refine go ?_ ?_
 refine dQ hF (fun h1 hF=>?_) (fun h1 hF=>?_)
 ·exact cA
 exact cA
def nK (K:Nat) (a0:aH):Option Bool:=
 (jJ K a0.d (jS)).bind fun v2=>bif v2 then(some false) else(bif((a0.d.length:Int)==0) then(bif(!a0.neg) then(some true) else(bif(decide (0<(a0.d.length:Int))) then((aP ((a0.d.length:Int)-1)).bind fun v8=>(bM a0.d v8).bind fun v10=>some (v10 != 0)) else(some false))) else(bif(decide (0<(a0.d.length:Int))) then((aP ((a0.d.length:Int)-1)).bind fun v13=>(bM a0.d v13).bind fun v15=>some (v15 != 0)) else(some false)))
theorem y6 {K:Nat} {a0:aH} {r:Bool} (hF:nK K a0=some r):Ct Tryz.prog 164 [.va (aH.e a0)] (.vc (pB r)):=by
 unfold nK at hF
 refine aI Tryz.func164 rfl (by kernel_rfl) Tryz.ntmps164 rfl (fun w0 M0=>?_)
 refine aM (aX (cT rfl rfl trivial (fun b1=>?_)))
 obtain⟨v2,h3,hF⟩:=bD hF xZ
 refine go ?_ ?_
 refine aR (bS rfl h3 rfl) ⟨rfl,(aNY (P:=Tryz.prog) (φ:=(jS)) (pre:=fun x:Int=>[.vc (pI .i64 x)]) (post:=fun r:Bool=>.vc (pB r)) (fun x r h=>aBR h)),trivial⟩ ?_
 refine bQ (aS (aJ hF rfl (fun h4 hF=>?_) (fun h4 hF=>?_)))
 ·exact cA
 refine go ?_ ?_
 refine dQ hF (fun h5 hF=>?_) (fun h5 hF=>?_)
 ·refine go ?_ ?_
  refine dQ hF (fun h6 hF=>?_) (fun h6 hF=>?_)
  ·exact cA
  refine go ?_ ?_
  refine dQ hF (fun h7 hF=>?_) (fun h7 hF=>?_)
  ·obtain⟨v8,h9,v10,h11,hF⟩:=vN hF
   exact cA
  exact cA
 refine go ?_ ?_
 refine dQ hF (fun h12 hF=>?_) (fun h12 hF=>?_)
 ·obtain⟨v13,h14,v15,h16,hF⟩:=vN hF
  exact cA
 exact cA
def n9 (a0:List Int):Option (Int×Bool):=
 bif((a0.length:Int)==0) then(some (0,true)) else(bif((a0.length:Int)==1) then((bM a0 0).bind fun v3=>some (v3,true)) else(bif((a0.length:Int)==2) then((bM a0 1).bind fun v8=>(aP (v8*1000000000)).bind fun v10=>(bM a0 0).bind fun v12=>(aP (v10+v12)).bind fun v14=>some (v14,true)) else(some (0,false))))
theorem vG {a0:List Int} {r:Int×Bool} (hF:n9 a0=some r):Ct Tryz.prog 225 [.vc (pS cI a0)] (.t2 (.vc (pI .i64 r.1)) (.vc (pB r.2))):=by
 unfold n9 at hF
 refine aI Tryz.func225 rfl (by kernel_rfl) Tryz.ntmps225 rfl (fun w0 M0=>?_)
 refine go ?_ ?_
 refine aV (go ?_ ?_)
 refine aJ hF rfl (fun h1 hF=>?_) (fun h1 hF=>?_)
 ·exact cA
 refine go ?_ ?_
 refine aJ hF rfl (fun h2 hF=>?_) (fun h2 hF=>?_)
 ·obtain⟨v3,h4,hF⟩:=a9 hF
  exact cA
 refine go ?_ ?_
 refine aJ hF rfl (fun h5 hF=>?_) (fun h5 hF=>?_)
 ·refine aM ?_
  obtain⟨v8,h9,hF⟩:=a9 hF
  obtain⟨v10,h11,hF⟩:=a9 hF
  obtain⟨v12,h13,hF⟩:=a9 hF
  obtain⟨v14,h15,hF⟩:=a9 hF
  refine dr [0,1,3,7,0,16,48,127,255,511] 10 0 ?_ (fun bs7 G6=>?_)
  refine bQ (aS ?_)
  exact cA
 exact cA
def qG (K:Nat) (x24:List Int) (x30:Int):Option ((List Int)×Int):=
 some (x24,x30)
def jM (K:Nat) (a0:List Int) (a1:Int):Nat→(List Int)→Int→Int→Option ((List Int)×Int)
 |0,_,_,_=>none
 |k+1,x16,x22,x23=>bif(decide (0≤x23)) then((aP (x22*1000000000)).bind fun v34=>(bM a0 x23).bind fun v36=>(aP (v34+v36)).bind fun v38=>(w4 v38 a1).bind fun v42=>(wH v38 a1).bind fun v44=>(bM x16 x23).bind fun v46=>(nU x16 x23 v42).bind fun x48=>(aP (x23-1)).bind fun v52=>jM K a0 a1 k x48 v44 v52) else(some (x16,x22))
def oZ (K:Nat) (a0:List Int) (a1:Int):Option ((List Int)×Int):=
 (wG (a0.length:Int) 0).bind fun x1=>(aP ((a0.length:Int)-1)).bind fun v6=>(jM K a0 a1 K x1 0 v6).bind fun(x24,x30)=>qG K x24 x30
theorem y8 {K:Nat} {a0:List Int} {a1:Int} {r:(List Int)×Int} (hF:oZ K a0 a1=some r):Ct Tryz.prog 257 [.vc (pS cI a0),.vc (pI .i64 a1)] (.t2 (.vc (pS cI r.1)) (.vc (pI .i64 r.2))):=by
 unfold oZ at hF
 refine aI Tryz.func257 rfl (by kernel_rfl) Tryz.ntmps257 rfl (fun w0 M0=>?_)
 refine aM (aX (aR (bW (.inr rfl)) ⟨eJ cI,trivial⟩ ?_))
 obtain⟨x1,h2,hF⟩:=a9 hF
 refine go ?_ ?_
 refine uY (C:=cI) rfl tyS22 rfl tyZ3 rfl h2 (fun b3=>?_)
 obtain⟨v6,h7,hF⟩:=a9 hF
 refine go ?_ ?_
 refine aV (cJ (fun H E=>∃(x24:List Int),∃(x30:Int),qG K x24 x30=some r∧x24.length=x1.length∧H=[hO cI b3 x1.length 3 x1.length x24]∧E=[(6,.vc (pO b3 x1.length x1.length)),(7,.vc (pI .i64 x30))]) ?_ (fun Jj32=>?_))
 ·rintro _ _ ⟨x24,x30,hF,q28,rfl,rfl⟩
  unfold qG at hF
  refine go ?_ ?_
  refine sP (sS (yF 0 [4,6,36] rfl q28 ⟨rfl,rfl,rfl,trivial⟩ rfl ?_))
  obtain rfl:=qN hF
  exact s7 (.inl rfl) Tryz.results257 (.tmp rfl (.tmp rfl .nil)) rfl rfl
 obtain⟨⟨x24',x30'⟩,hL,hRl31⟩:=a9 hF
 refine iT (fun k a w=>∃(x16:List Int),∃(x22:Int),∃(x23:Int),jM K a0 a1 k x16 x22 x23=some (x24',x30')∧x16.length=x1.length∧hs _ [hO cI b3 x1.length 3 x1.length x16] [(0,.vc (pS cI a0)),(1,.vc (pI .i64 a1)),(6,.vc (pO b3 x1.length x1.length)),(7,.vc (pI .i64 x22)),(8,.vc (pI .i64 x23))] a w) K (fun a w ⟨_,_,_,hF,_,_⟩=>by cases hF) (fun k a w ⟨x16,x22,x23,hF,q20,hh⟩=>iS ?_ hh) (fun a w hh=>⟨x1,0,v6,hL,rfl,iH [0] hh⟩)
 rw [jM.eq_2] at hF
 refine go ?_ ?_
 refine aJ hF rfl (fun h33 hF=>?_) (fun h33 hF=>?_)
 ·refine go ?_ ?_
  refine aV ?_
  obtain⟨v34,h35,v36,h37,v38,h39,v42,h43,hF⟩:=bn4 hF
  obtain⟨v44,h45,v46,h47,x48,h49,hF⟩:=bn3 hF
  refine go ?_ ?_
  refine sI (HsM [(0,fun G40=>[hO cI b3 x1.length 3 x1.length x16]),(1,fun G40=>[hO cI b3 x1.length 3 x1.length x48])]) [9] [0,0,0,0,12,0,0,96,31,287,1023] 11 0 [.v (.vc (pO b3 x1.length x1.length)),.v (.vc (pI .i64 x23)),.v (.vc (pI .i64 v38)),.v (.vc (pI .i64 a1)),.v (.vc (pI .i64 v42)),.v (.vc (pI .i64 v38)),.v (.vc (pI .i64 a1)),.v (.vc (pI .i64 v44)),.v (.vc (pE b3 x23 cI.n 0)),.g (fun _ _=>.any),.v (.vc (pI .i64 v44))] bK ⟨d1 0 (bW (.inl rfl)) zU1,d1 0 (bW (.inl rfl)) zU1,d1 0 (bW (.inl rfl)) zU1,d1 0 (bW (.inl rfl)) zU1,d1 0 (aD0 rfl h43) zU2,⟨rfl,.run (L:=[0,1]) ⟨fun G40 A=>bW (.inl rfl),fun G40 A=>bW (.inl rfl),trivial⟩ (fun G40=>zU1)⟩,⟨rfl,.run (L:=[0,1]) ⟨fun G40 A=>bW (.inl rfl),fun G40 A=>bW (.inl rfl),trivial⟩ (fun G40=>zU1)⟩,⟨rfl,.run (L:=[0,1]) ⟨fun G40 A=>aBA rfl h45,fun G40 A=>aBA rfl h45,trivial⟩ (fun G40=>zU2)⟩,d1 0 (l9 (C:=cI) 0 rfl tyS22 rfl q20 (aU h47).1 (aU h47).2.1) zU2,⟨rfl,.hvy [0] ⟨fun G40 A=>aCx (xT 0 rfl rfl h47 h49 tyO3.s),trivial⟩ (fun G40=>zU2)⟩,d1 1 (bW (.inr rfl)) zU1,trivial⟩ (fun bs41 G40=>?_)
  obtain⟨v52,h53,hF⟩:=a9 hF
  refine go ?_ ?_
  exact aL (fun a w hh=>⟨x48,v44,v52,hF,(bI h49 q20),iH [0] hh⟩)
 refine dJ ?_
 obtain⟨rfl,rfl⟩:=sm2 hF
 exact qB Jj32 ⟨x16,x22,hRl31,q20,rfl,rfl⟩ [0]
def pV (K:Nat) (a0:List Int) (x26:List Int) (x32:Int):Option (List Int):=
 (bM x26 (a0.length:Int)).bind fun v35=>(nU x26 (a0.length:Int) x32).bind fun x37=>some x37
def iN (K:Nat) (a0:List Int) (a1:Int):Nat→(List Int)→Int→Int→Option ((List Int)×Int)
 |0,_,_,_=>none
 |k+1,x18,x24,x25=>bif(decide (x25<(a0.length:Int))) then((bM a0 x25).bind fun v41=>(aP (v41*a1)).bind fun v43=>(aP (v43+x24)).bind fun v45=>(wH v45 1000000000).bind fun v47=>(w4 v45 1000000000).bind fun v49=>(bM x18 x25).bind fun v51=>(nU x18 x25 v47).bind fun x53=>(aP (x25+1)).bind fun v56=>iN K a0 a1 k x53 v49 v56) else(some (x18,x24))
def mG (K:Nat) (a0:List Int) (a1:Int):Option (List Int):=
 (aP ((a0.length:Int)+1)).bind fun v3=>(wG v3 0).bind fun x5=>(iN K a0 a1 K x5 0 0).bind fun(x26,x32)=>pV K a0 x26 x32
theorem xQ {K:Nat} {a0:List Int} {a1:Int} {r:List Int} (hF:mG K a0 a1=some r):CtO Tryz.prog 268 [] [.vc (pS cI a0),.vc (pI .i64 a1)] (fun Ho q=>∃b60 c61 n59,r.length=n59∧Ho=[hO cI b60 c61 3 n59 r]∧q=.vc (pO b60 n59 c61)):=by
 unfold mG at hF
 refine aI Tryz.func268 rfl (by kernel_rfl) Tryz.ntmps268 rfl (fun w0 M0=>?_)
 refine aM (aX (wV cI 3 rfl ?_))
 obtain⟨v3,h4,x5,h6,hF⟩:=vN hF
 refine go ?_ ?_
 refine uY (C:=cI) rfl tyS22 rfl tyZ3 rfl h6 (fun b7=>?_)
 refine go ?_ ?_
 refine aV (cJ (fun H E=>∃(x26:List Int),∃(x32:Int),pV K a0 x26 x32=some r∧x26.length=x5.length∧H=[hO cI b7 x5.length 3 x5.length x26]∧E=[(0,.vc (pS cI a0)),(5,.vc (pO b7 x5.length x5.length)),(6,.vc (pI .i64 x32))]) ?_ (fun Jj34=>?_))
 ·rintro _ _ ⟨x26,x32,hF,q30,rfl,rfl⟩
  unfold pV at hF
  obtain⟨v35,h36,x37,h38,hF⟩:=vN hF
  refine go ?_ ?_
  refine sP (sS ?_)
  obtain rfl:=qN hF
  exact aAG (.inl rfl) Tryz.results268 (.tmp rfl .nil) rfl [0] rfl (by decide) ⟨b7,x5.length,x5.length,(bI h38 q30),rfl,rfl⟩
 obtain⟨⟨x26',x32'⟩,hL,hRl33⟩:=a9 hF
 refine iT (fun k a w=>∃(x18:List Int),∃(x24:Int),∃(x25:Int),iN K a0 a1 k x18 x24 x25=some (x26',x32')∧x18.length=x5.length∧hs _ [hO cI b7 x5.length 3 x5.length x18] [(0,.vc (pS cI a0)),(1,.vc (pI .i64 a1)),(5,.vc (pO b7 x5.length x5.length)),(6,.vc (pI .i64 x24)),(14,.vc (pS cI a0)),(15,.vc (pI .i64 (a0.length:Int))),(16,.vc (pI .i64 x25))] a w) K (fun a w ⟨_,_,_,hF,_,_⟩=>by cases hF) (fun k a w ⟨x18,x24,x25,hF,q22,hh⟩=>iS ?_ hh) (fun a w hh=>⟨x5,0,0,hL,rfl,iH [0] hh⟩)
 rw [iN.eq_2] at hF
 refine go ?_ ?_
 refine aJ hF rfl (fun h40 hF=>?_) (fun h40 hF=>?_)
 ·refine go ?_ ?_
  refine aV ?_
  obtain⟨v41,h42,v43,h44,v45,h46,v47,h48,hF⟩:=bn4 hF
  obtain⟨v49,h50,v51,h52,x53,h54,v56,h57,hF⟩:=bn4 hF
  refine go ?_ ?_
  exact aL (fun a w hh=>⟨x53,v49,v56,hF,(bI h54 q22),iH [0] hh⟩)
 refine dJ ?_
 obtain⟨rfl,rfl⟩:=sm2 hF
 exact qB Jj34 ⟨x18,x24,hRl33,q22,rfl,rfl⟩ [0]
theorem aB8 {K:Nat} {a0:List Int} {a1:Int} {r:List Int} (hF:mG K a0 a1=some r):Ct Tryz.prog 268 [.vc (pS cI a0),.vc (pI .i64 a1)] (.vc (pS cI r)):=aQD (xQ hF)
def rD (K:Nat) (a1:List Int) (v7:Int) (x60:List Int) (x66:List Int):Option ((List Int)×(List Int)):=
 (slL x66 0 (a1.length:Int)).bind fun x74=>(oZ K x74 v7).bind fun v76=>some (x60,v76.1)
def p7 (K:Nat) (a1:List Int) (x47:List Int) (x59:Int) (v157:Int) (recl72:(List Int)→(List Int)→Int→Option ((List Int)×(List Int))) (x175:List Int) (x181:Int):Option ((List Int)×(List Int)):=
 (aP (x59+(a1.length:Int))).bind fun v184=>(bM x175 v184).bind fun v186=>(aP (v186+x181)).bind fun v188=>(bM x175 v184).bind fun v190=>(nU x175 v184 v188).bind fun x192=>(bM x47 x59).bind fun v195=>(nU x47 x59 v157).bind fun x197=>(aP (x59-1)).bind fun v200=>recl72 x197 x192 v200
def gW (K:Nat) (a1:List Int) (x17:List Int) (x59:Int):Nat→(List Int)→Int→Int→Option ((List Int)×Int)
 |0,_,_,_=>none
 |k+1,x167,x173,x174=>bif(decide (x174<(a1.length:Int))) then((aP (x174+x59)).bind fun v205=>(bM x167 v205).bind fun v207=>(bM x17 x174).bind fun v209=>(aP (v207+v209)).bind fun v211=>(aP (v211+x173)).bind fun v213=>(aP (x174+x59)).bind fun v215=>(wH v213 1000000000).bind fun v217=>(w4 v213 1000000000).bind fun v219=>(bM x167 v215).bind fun v221=>(nU x167 v215 v217).bind fun x223=>(aP (x174+1)).bind fun v226=>gW K a1 x17 x59 k x223 v219 v226) else(some (x167,x173))
def nQ (K:Nat) (a1:List Int) (x17:List Int) (x47:List Int) (x59:Int) (x113:Int) (recl72:(List Int)→(List Int)→Int→Option ((List Int)×(List Int))) (x132:List Int) (x138:Int):Option ((List Int)×(List Int)):=
 (aP (x59+(a1.length:Int))).bind fun v141=>(bM x132 v141).bind fun v143=>(aP (v143-x138)).bind fun v145=>(bM x132 v141).bind fun v147=>(nU x132 v141 v145).bind fun x149=>(aP (x59+(a1.length:Int))).bind fun v152=>(bM x149 v152).bind fun v154=>bif(decide (v154<0)) then((aP (x113-1)).bind fun v157=>(gW K a1 x17 x59 K x149 0 0).bind fun(x175,x181)=>p7 K a1 x47 x59 v157 recl72 x175 x181) else((bM x47 x59).bind fun v228=>(nU x47 x59 x113).bind fun x230=>(aP (x59-1)).bind fun v233=>recl72 x230 x149 v233)
def fB (K:Nat) (a1:List Int) (x17:List Int) (x59:Int) (x113:Int):Nat→(List Int)→Int→Int→Option ((List Int)×Int)
 |0,_,_,_=>none
 |k+1,x124,x130,x131=>bif(decide (x131<(a1.length:Int))) then((aP (x131+x59)).bind fun v238=>(bM x124 v238).bind fun v240=>(bM x17 x131).bind fun v242=>(aP (x113*v242)).bind fun v244=>(aP (v240-v244)).bind fun v246=>(aP (v246-x130)).bind fun v248=>bif(decide (v248<0)) then((aP (-v248)).bind fun v251=>(aP (v251+1000000000)).bind fun v253=>(aP (v253-1)).bind fun v255=>(w4 v255 1000000000).bind fun v257=>(aP (v257*1000000000)).bind fun v259=>(aP (v248+v259)).bind fun v261=>(aP (x131+x59)).bind fun v263=>(bM x124 v263).bind fun v265=>(nU x124 v263 v261).bind fun x267=>(aP (x131+1)).bind fun v270=>fB K a1 x17 x59 x113 k x267 v257 v270) else((aP (x131+x59)).bind fun v272=>(bM x124 v272).bind fun v274=>(nU x124 v272 v248).bind fun x276=>(aP (x131+1)).bind fun v279=>fB K a1 x17 x59 x113 k x276 0 v279)) else(some (x124,x130))
def nM (K:Nat) (a1:List Int) (x17:List Int) (x47:List Int) (x53:List Int) (x59:Int) (recl72:(List Int)→(List Int)→Int→Option ((List Int)×(List Int))) (x113:Int):Option ((List Int)×(List Int)):=
 (fB K a1 x17 x59 x113 K x53 0 0).bind fun(x132,x138)=>nQ K a1 x17 x47 x59 x113 recl72 x132 x138
def eE (K:Nat) (a1:List Int) (x17:List Int) (x53:List Int) (x59:Int):Nat→Int→Int→Option Int
 |0,_,_=>none
 |k+1,x111,x112=>bif(decide (1000000000≤x111)) then((aP (x111-1)).bind fun v284=>(aP ((a1.length:Int)-1)).bind fun v286=>(bM x17 v286).bind fun v288=>(aP (x112+v288)).bind fun v290=>bif(decide (1000000000≤v290)) then(some v284) else(eE K a1 x17 x53 x59 k v284 v290)) else((aP ((a1.length:Int)-2)).bind fun v293=>(bM x17 v293).bind fun v295=>(aP (x111*v295)).bind fun v297=>(aP (x112*1000000000)).bind fun v299=>(aP (x59+(a1.length:Int))).bind fun v301=>(aP (v301-2)).bind fun v303=>(bM x53 v303).bind fun v305=>(aP (v299+v305)).bind fun v307=>bif(decide (v307<v297)) then((aP (x111-1)).bind fun v310=>(aP ((a1.length:Int)-1)).bind fun v312=>(bM x17 v312).bind fun v314=>(aP (x112+v314)).bind fun v316=>bif(decide (1000000000≤v316)) then(some v310) else(eE K a1 x17 x53 x59 k v310 v316)) else(some x111))
def eN (K:Nat) (a1:List Int) (x17:List Int):Nat→(List Int)→(List Int)→Int→Option ((List Int)×(List Int))
 |0,_,_,_=>none
 |k+1,x47,x53,x59=>bif(decide (0≤x59)) then((aP (x59+(a1.length:Int))).bind fun v81=>(bM x53 v81).bind fun v83=>(aP (v83*1000000000)).bind fun v85=>(aP (x59+(a1.length:Int))).bind fun v87=>(aP (v87-1)).bind fun v89=>(bM x53 v89).bind fun v91=>(aP (v85+v91)).bind fun v93=>(aP ((a1.length:Int)-1)).bind fun v97=>(bM x17 v97).bind fun v99=>(w4 v93 v99).bind fun v101=>(aP ((a1.length:Int)-1)).bind fun v103=>(bM x17 v103).bind fun v105=>(wH v93 v105).bind fun v107=>(eE K a1 x17 x53 x59 K v101 v107).bind fun x113=>nM K a1 x17 x47 x53 x59 (eN K a1 x17 k) x113) else(some (x47,x53))
def sN (K:Nat) (a0:List Int) (a1:List Int):Option ((List Int)×(List Int)):=
 (aP ((a1.length:Int)-1)).bind fun v1=>(bM a1 v1).bind fun v3=>(aP (v3+1)).bind fun v5=>(w4 1000000000 v5).bind fun v7=>(mG K a0 v7).bind fun v11=>(mG K a1 v7).bind fun v15=>(slL v15 0 (a1.length:Int)).bind fun x17=>(aP ((a0.length:Int)-(a1.length:Int))).bind fun v23=>(aP (v23+1)).bind fun v25=>(wG v25 0).bind fun x27=>(aP ((a0.length:Int)-(a1.length:Int))).bind fun v32=>(eN K a1 x17 K x27 v11 v32).bind fun(x60,x66)=>rD K a1 v7 x60 x66
theorem aDg {K:Nat} {a0:List Int} {a1:List Int} {r:(List Int)×(List Int)} (hF:sN K a0 a1=some r):Ct Tryz.prog 258 [.vc (pS cI a0),.vc (pS cI a1)] (.t2 (.vc (pS cI r.1)) (.vc (pS cI r.2))):=by
 unfold sN at hF
 refine aI Tryz.func258 rfl (by kernel_rfl) Tryz.ntmps258 rfl (fun w0 M0=>?_)
 refine aM (aX (aR (bW (.inr rfl)) ⟨eJ cI,trivial⟩ ?_))
 refine aR (bW (.inr rfl)) ⟨eJ cI,trivial⟩ ?_
 obtain⟨v1,h2,v3,h4,v5,h6,v7,h8,hF⟩:=bn4 hF
 obtain⟨v11,h12,hF⟩:=a9 hF
 obtain⟨v15,h16,hF⟩:=bD hF aB8
 obtain⟨x17,h18,hF⟩:=a9 hF
 refine go ?_ ?_
 refine sI (HsM [(0,fun G9=>[]),(1,fun G9=>[hO cI ((G9 2).1) ((G9 2).2) 3 v11.length v11]),(3,fun G9=>[hO cI ((G9 9).1) ((G9 9).2) 3 v11.length v11])]) [2,9] [0,0,3,0,0,31,0,64,255,63,1023] 11 0 [.v (.vc (pS cI a0)),.v (.vc (pI .i64 v7)),.g (fun b c=>.vc (pO b v11.length c)),.v (.vc (pS cI a1)),.v (.vc (pI .i64 v7)),.v (.vc (pS cI v15)),.v (.vc (pS cI a1)),.v (.vc (pI .i64 (a1.length:Int))),.v (.vc (pS cI x17)),.g (fun b c=>.vc (pO b v11.length c)),.v (.vc (pS cI x17))] bK ⟨d1 0 (bW (.inl rfl)) zU1,d1 0 (bW (.inl rfl)) zU1,⟨rfl,.hvy [0] ⟨fun G9 A=>aNR rfl (xQ h12) rfl,trivial⟩ (fun G9=>zU2)⟩,⟨rfl,.run (L:=[0,1]) ⟨fun G9 A=>bW (.inl rfl),fun G9 A=>bW (.inl rfl),trivial⟩ (fun G9=>zU1)⟩,⟨rfl,.run (L:=[0,1]) ⟨fun G9 A=>bW (.inl rfl),fun G9 A=>bW (.inl rfl),trivial⟩ (fun G9=>zU1)⟩,d1 1 (bS rfl h16 rfl) zU2,⟨rfl,.run (L:=[0,1,3]) ⟨fun G9 A=>bW (.inl rfl),fun G9 A=>bW (.inl rfl),fun G9 A=>bW (.inl rfl),trivial⟩ (fun G9=>zU1)⟩,⟨rfl,.run (L:=[0,1,3]) ⟨fun G9 A=>uN rfl tyS22,fun G9 A=>uN rfl tyS22,fun G9 A=>uN rfl tyS22,trivial⟩ (fun G9=>zU1)⟩,⟨rfl,.run (L:=[1,3]) ⟨fun G9 A=>aF7 rfl tyS22 h18,fun G9 A=>aF7 rfl tyS22 h18,trivial⟩ (fun G9=>zU2)⟩,⟨rfl,.hvy [1] ⟨fun G9 A=>aR1 ((G9 2).1) ((G9 2).2) (bW (.inr rfl)),trivial⟩ (fun G9=>zU1)⟩,d1 3 (bW (.inr rfl)) zU1,trivial⟩ (fun bs10 G9=>?_)
 obtain⟨v23,h24,v25,h26,x27,h28,hF⟩:=bn3 hF
 refine go ?_ ?_
 refine uY (C:=cI) rfl tyS22 rfl tyZ3 rfl h28 (fun b29=>?_)
 have hF:=tC h24 hF
 refine go ?_ ?_
 refine aV (cJ (fun H E=>∃(x60:List Int),∃(x66:List Int),rD K a1 v7 x60 x66=some r∧x60.length=x27.length∧x66.length=v11.length∧H=[hO cI b29 x27.length 3 x27.length x60,hO cI ((G9 9).1) ((G9 9).2) 3 v11.length x66]∧E=[(6,.vc (pI .i64 v7)),(7,.vc (pO ((G9 9).1) v11.length ((G9 9).2))),(9,.vc (pI .i64 (a1.length:Int))),(10,.vc (pO b29 x27.length x27.length))]) ?_ (fun Jj73=>?_))
 ·rintro _ _ ⟨x60,x66,hF,q64,q70,rfl,rfl⟩
  unfold rD at hF
  refine aS (aM (aX (mF ?_)))
  refine mF ?_
  refine aAZ 1 [7,213] rfl q70 zU2 rfl ?_
  obtain⟨x74,h75,hF⟩:=a9 hF
  obtain⟨v76,h77,hF⟩:=bD hF y8
  refine go ?_ ?_
  refine sP (sS (yF 0 [4,10,220] rfl q64 ⟨rfl,rfl,rfl,trivial⟩ rfl ?_))
  obtain rfl:=qN hF
  exact s7 (.inl rfl) Tryz.results258 (.tmp rfl (.tmp rfl .nil)) rfl rfl
 obtain⟨⟨x60',x66'⟩,hL,hRl72⟩:=a9 hF
 refine iT (fun k a w=>∃(x47:List Int),∃(x53:List Int),∃(x59:Int),eN K a1 x17 k x47 x53 x59=some (x60',x66')∧x47.length=x27.length∧x53.length=v11.length∧hs _ [hO cI b29 x27.length 3 x27.length x47,hO cI ((G9 9).1) ((G9 9).2) 3 v11.length x53] [(6,.vc (pI .i64 v7)),(7,.vc (pO ((G9 9).1) v11.length ((G9 9).2))),(8,.vc (pS cI x17)),(9,.vc (pI .i64 (a1.length:Int))),(10,.vc (pO b29 x27.length x27.length)),(11,.vc (pI .i64 x59))] a w) K (fun a w ⟨_,_,_,hF,_,_,_⟩=>by cases hF) (fun k a w ⟨x47,x53,x59,hF,q51,q57,hh⟩=>iS ?_ hh) (fun a w hh=>⟨x27,v11,v23,hL,rfl,rfl,iH [0,1] hh⟩)
 rw [eN.eq_2] at hF
 refine go ?_ ?_
 refine aJ hF rfl (fun h78 hF=>?_) (fun h78 hF=>?_)
 ·refine go ?_ ?_
  refine aV (aI6 (aM ?_))
  obtain⟨v81,h82,hF⟩:=a9 hF
  obtain⟨v83,h84,hF⟩:=a9 hF
  obtain⟨v85,h86,hF⟩:=a9 hF
  have hF:=tC h82 hF
  obtain⟨v89,h90,hF⟩:=a9 hF
  obtain⟨v91,h92,hF⟩:=a9 hF
  obtain⟨v93,h94,hF⟩:=a9 hF
  refine dr [0,0,0,6,15,31,63,0,0,0,768,1792,3968,8064,16383,32767] 16 0 ?_ (fun bs80 G79=>?_)
  have hF:=tC h2 hF
  obtain⟨v99,h100,v101,h102,hF⟩:=vN hF
  have hF:=tC h2 hF
  have hF:=tC h100 hF
  obtain⟨v107,h108,hF⟩:=a9 hF
  refine go ?_ ?_
  refine dr [0,0,0,4,14,30,63,0,0,0,512,1792,3840,8064,127,32767] 16 0 ?_ (fun bs96 G95=>?_)
  refine go ?_ ?_
  refine aV (cJ (fun H E=>∃(x113:Int),nM K a1 x17 x47 x53 x59 (eN K a1 x17 k) x113=some (x60',x66')∧H=[hO cI b29 x27.length 3 x27.length x47,hO cI ((G9 9).1) ((G9 9).2) 3 v11.length x53]∧E=[(6,.vc (pI .i64 v7)),(7,.vc (pO ((G9 9).1) v11.length ((G9 9).2))),(8,.vc (pS cI x17)),(9,.vc (pI .i64 (a1.length:Int))),(10,.vc (pO b29 x27.length x27.length)),(11,.vc (pI .i64 x59)),(13,.vc (pI .i64 x113))]) ?_ (fun Jj115=>?_))
  ·rintro _ _ ⟨x113,hF,rfl,rfl⟩
   unfold nM at hF
   refine go ?_ ?_
   refine aV (cJ (fun H E=>∃(x132:List Int),∃(x138:Int),nQ K a1 x17 x47 x59 x113 (eN K a1 x17 k) x132 x138=some (x60',x66')∧x132.length=v11.length∧H=[hO cI b29 x27.length 3 x27.length x47,hO cI ((G9 9).1) ((G9 9).2) 3 v11.length x132]∧E=[(6,.vc (pI .i64 v7)),(7,.vc (pO ((G9 9).1) v11.length ((G9 9).2))),(8,.vc (pS cI x17)),(9,.vc (pI .i64 (a1.length:Int))),(10,.vc (pO b29 x27.length x27.length)),(11,.vc (pI .i64 x59)),(13,.vc (pI .i64 x113)),(15,.vc (pI .i64 x138))]) ?_ (fun Jj140=>?_))
   ·rintro _ _ ⟨x132,x138,hF,q136,rfl,rfl⟩
    unfold nQ at hF
    have hF:=tC h82 hF
    obtain⟨v143,h144,v145,h146,hF⟩:=vN hF
    have hF:=tC h144 hF
    obtain⟨x149,h150,hF⟩:=a9 hF
    have hF:=tC h82 hF
    obtain⟨v154,h155,hF⟩:=a9 hF
    refine go ?_ ?_
    refine aJ hF rfl (fun h156 hF=>?_) (fun h156 hF=>?_)
    ·obtain⟨v157,h158,hF⟩:=a9 hF
     refine go ?_ ?_
     refine aV (cJ (fun H E=>∃(x175:List Int),∃(x181:Int),p7 K a1 x47 x59 v157 (eN K a1 x17 k) x175 x181=some (x60',x66')∧x175.length=v11.length∧H=[hO cI b29 x27.length 3 x27.length x47,hO cI ((G9 9).1) ((G9 9).2) 3 v11.length x175]∧E=[(6,.vc (pI .i64 v7)),(7,.vc (pO ((G9 9).1) v11.length ((G9 9).2))),(8,.vc (pS cI x17)),(9,.vc (pI .i64 (a1.length:Int))),(10,.vc (pO b29 x27.length x27.length)),(11,.vc (pI .i64 x59)),(13,.vc (pI .i64 v157)),(15,.vc (pI .i64 x181))]) ?_ (fun Jj183=>?_))
     ·rintro _ _ ⟨x175,x181,hF,q179,rfl,rfl⟩
      unfold p7 at hF
      have hF:=tC h82 hF
      obtain⟨v186,h187,v188,h189,hF⟩:=vN hF
      have hF:=tC h187 hF
      obtain⟨x192,h193,v195,h196,x197,h198,v200,h201,hF⟩:=bn4 hF
      refine go ?_ ?_
      exact aL (fun a w hh=>⟨x197,x192,v200,hF,(bI h198 q51),(bI h193 q179),iH [0,1] hh⟩)
     obtain⟨⟨x175',x181'⟩,hL,hRl182⟩:=a9 hF
     refine iT (fun k a w=>∃(x167:List Int),∃(x173:Int),∃(x174:Int),gW K a1 x17 x59 k x167 x173 x174=some (x175',x181')∧x167.length=v11.length∧hs _ [hO cI b29 x27.length 3 x27.length x47,hO cI ((G9 9).1) ((G9 9).2) 3 v11.length x167] [(6,.vc (pI .i64 v7)),(7,.vc (pO ((G9 9).1) v11.length ((G9 9).2))),(8,.vc (pS cI x17)),(9,.vc (pI .i64 (a1.length:Int))),(10,.vc (pO b29 x27.length x27.length)),(11,.vc (pI .i64 x59)),(13,.vc (pI .i64 v157)),(15,.vc (pI .i64 x173)),(172,.vc (pI .i64 (a1.length:Int))),(173,.vc (pI .i64 x174))] a w) K (fun a w ⟨_,_,_,hF,_,_⟩=>by cases hF) (fun k a w ⟨x167,x173,x174,hF,q171,hh⟩=>iS ?_ hh) (fun a w hh=>⟨x149,0,0,hL,(bI h150 q136),iH [0,1] hh⟩)
     rw [gW.eq_2] at hF
     refine go ?_ ?_
     refine aJ hF rfl (fun h202 hF=>?_) (fun h202 hF=>?_)
     ·refine go ?_ ?_
      refine aV ?_
      obtain⟨v205,h206,v207,h208,v209,h210,v211,h212,hF⟩:=bn4 hF
      obtain⟨v213,h214,hF⟩:=a9 hF
      refine go ?_ ?_
      refine dr [0,0,0,6,15,31,0,0,192,448,1023,0,4095,8191] 14 0 ?_ (fun bs204 G203=>?_)
      have hF:=tC h206 hF
      obtain⟨v217,h218,v219,h220,hF⟩:=vN hF
      have hF:=tC h208 hF
      obtain⟨x223,h224,v226,h227,hF⟩:=vN hF
      refine go ?_ ?_
      exact aL (fun a w hh=>⟨x223,v219,v226,hF,(bI h224 q171),iH [0,1] hh⟩)
     refine dJ ?_
     obtain⟨rfl,rfl⟩:=sm2 hF
     exact qB Jj183 ⟨x167,x173,hRl182,q171,rfl,rfl⟩ [0,1]
    obtain⟨v228,h229,x230,h231,v233,h234,hF⟩:=bn3 hF
    refine go ?_ ?_
    exact aL (fun a w hh=>⟨x230,x149,v233,hF,(bI h231 q51),(bI h150 q136),iH [0,1] hh⟩)
   obtain⟨⟨x132',x138'⟩,hL,hRl139⟩:=a9 hF
   refine iT (fun k a w=>∃(x124:List Int),∃(x130:Int),∃(x131:Int),fB K a1 x17 x59 x113 k x124 x130 x131=some (x132',x138')∧x124.length=v11.length∧hs _ [hO cI b29 x27.length 3 x27.length x47,hO cI ((G9 9).1) ((G9 9).2) 3 v11.length x124] [(6,.vc (pI .i64 v7)),(7,.vc (pO ((G9 9).1) v11.length ((G9 9).2))),(8,.vc (pS cI x17)),(9,.vc (pI .i64 (a1.length:Int))),(10,.vc (pO b29 x27.length x27.length)),(11,.vc (pI .i64 x59)),(13,.vc (pI .i64 x113)),(15,.vc (pI .i64 x130)),(117,.vc (pI .i64 (a1.length:Int))),(118,.vc (pI .i64 x131))] a w) K (fun a w ⟨_,_,_,hF,_,_⟩=>by cases hF) (fun k a w ⟨x124,x130,x131,hF,q128,hh⟩=>iS ?_ hh) (fun a w hh=>⟨x53,0,0,hL,q57,iH [0,1] hh⟩)
   rw [fB.eq_2] at hF
   refine go ?_ ?_
   refine aJ hF rfl (fun h235 hF=>?_) (fun h235 hF=>?_)
   ·refine go ?_ ?_
    refine aV ?_
    obtain⟨v238,h239,v240,h241,v242,h243,v244,h245,hF⟩:=bn4 hF
    obtain⟨v246,h247,v248,h249,hF⟩:=vN hF
    refine go ?_ ?_
    refine dr [0,0,0,6,15,31,0,0,0,384,896,1984,4095,0,16383,32767] 16 0 ?_ (fun bs237 G236=>?_)
    refine go ?_ ?_
    refine aJ hF rfl (fun h250 hF=>?_) (fun h250 hF=>?_)
    ·obtain⟨v251,h252,v253,h254,v255,h256,v257,h258,hF⟩:=bn4 hF
     obtain⟨v259,h260,v261,h262,hF⟩:=vN hF
     have hF:=tC h239 hF
     have hF:=tC h241 hF
     obtain⟨x267,h268,v270,h271,hF⟩:=vN hF
     refine go ?_ ?_
     exact aL (fun a w hh=>⟨x267,v257,v270,hF,(bI h268 q128),iH [0,1] hh⟩)
    have hF:=tC h239 hF
    have hF:=tC h241 hF
    obtain⟨x276,h277,v279,h280,hF⟩:=vN hF
    refine go ?_ ?_
    exact aL (fun a w hh=>⟨x276,0,v279,hF,(bI h277 q128),iH [0,1] hh⟩)
   refine dJ ?_
   obtain⟨rfl,rfl⟩:=sm2 hF
   exact qB Jj140 ⟨x124,x130,hRl139,q128,rfl,rfl⟩ [0,1]
  obtain⟨x113',hL,hRl114⟩:=a9 hF
  refine iT (fun k a w=>∃(x111:Int),∃(x112:Int),eE K a1 x17 x53 x59 k x111 x112=some x113'∧hs _ [hO cI b29 x27.length 3 x27.length x47,hO cI ((G9 9).1) ((G9 9).2) 3 v11.length x53] [(6,.vc (pI .i64 v7)),(7,.vc (pO ((G9 9).1) v11.length ((G9 9).2))),(8,.vc (pS cI x17)),(9,.vc (pI .i64 (a1.length:Int))),(10,.vc (pO b29 x27.length x27.length)),(11,.vc (pI .i64 x59)),(13,.vc (pI .i64 x111)),(14,.vc (pI .i64 x112))] a w) K (fun a w ⟨_,_,hF,_⟩=>by cases hF) (fun k a w ⟨x111,x112,hF,hh⟩=>iS ?_ hh) (fun a w hh=>⟨v101,v107,hL,iH [0,1] hh⟩)
  rw [eE.eq_2] at hF
  refine aM (aM ?_)
  rcases Bool.eq_false_or_eq_true (decide (1000000000≤x111)) with h283|h283
  ·have hF:=vZ h283 hF
   refine drb [0,1,3,7,7,7,39,119,247,511,7,1031,7,7,7,24583,57351,126983,258055,523271,1048575,2097151] 22 0 ?_ (fun bs282 G281=>?_)
   refine bQ (aS (mD rfl ?_))
   refine iO (aS (aV ?_))
   obtain⟨v284,h285,hF⟩:=a9 hF
   have hF:=tC h2 hF
   have hF:=tC h100 hF
   obtain⟨v290,h291,hF⟩:=a9 hF
   refine go ?_ ?_
   refine aJ hF rfl (fun h292 hF=>?_) (fun h292 hF=>?_)
   ·refine dJ ?_
    obtain rfl:=qN hF
    exact qB Jj115 ⟨v284,hRl114,rfl,rfl⟩ [0,1]
   refine iO (yY ?_)
   exact aL (fun a w hh=>⟨v284,v290,hF,iH [0,1] hh⟩)
  have hF:=vX h283 hF
  obtain⟨v293,h294,hF⟩:=a9 hF
  obtain⟨v295,h296,hF⟩:=a9 hF
  obtain⟨v297,h298,hF⟩:=a9 hF
  obtain⟨v299,h300,hF⟩:=a9 hF
  have hF:=tC h82 hF
  obtain⟨v303,h304,hF⟩:=a9 hF
  obtain⟨v305,h306,hF⟩:=a9 hF
  obtain⟨v307,h308,hF⟩:=a9 hF
  refine drb [0,1,3,7,7,7,39,119,247,511,7,1031,7,7,7,24583,57351,126983,258055,523271,1048575,2097151] 22 0 ?_ (fun bs282 G281=>?_)
  refine bQ (aS (aJ hF rfl (fun h309 hF=>?_) (fun h309 hF=>?_)))
  ·refine iO (aS (aV ?_))
   obtain⟨v310,h311,hF⟩:=a9 hF
   have hF:=tC h2 hF
   have hF:=tC h100 hF
   obtain⟨v316,h317,hF⟩:=a9 hF
   refine go ?_ ?_
   refine aJ hF rfl (fun h318 hF=>?_) (fun h318 hF=>?_)
   ·refine dJ ?_
    obtain rfl:=qN hF
    exact qB Jj115 ⟨v310,hRl114,rfl,rfl⟩ [0,1]
   refine iO (yY ?_)
   exact aL (fun a w hh=>⟨v310,v316,hF,iH [0,1] hh⟩)
  refine dJ ?_
  obtain rfl:=qN hF
  exact qB Jj115 ⟨x111,hRl114,rfl,rfl⟩ [0,1]
 refine dJ ?_
 obtain⟨rfl,rfl⟩:=sm2 hF
 exact qB Jj73 ⟨x47,x53,hRl72,q51,q57,rfl,rfl⟩ [0,1]
def lN (K:Nat) (a0:List Int) (a1:List Int):Option (aH×aH):=
 (fK K a0 a1).bind fun v5=>bif(decide (v5<0)) then((eG K false a0).bind fun v8=>some ((⟨false,([]:List Int)⟩:aH),v8)) else(bif((a1.length:Int)==1) then((bM a1 0).bind fun v11=>(oZ K a0 v11).bind fun v13=>(eG K false v13.1).bind fun v15=>(eS false (IntKind.u64.wrap v13.2)).bind fun v17=>some (v15,v17)) else((sN K a0 a1).bind fun v19=>(eG K false v19.1).bind fun v21=>(eG K false v19.2).bind fun v23=>some (v21,v23)))
def mK (K:Nat) (a0:List Int) (a1:List Int):Option (aH×aH):=
 (n9 a0).bind fun v25=>bif v25.2 then((n9 a1).bind fun v28=>bif v28.2 then((w4 v25.1 v28.1).bind fun v33=>(eS false (IntKind.u64.wrap v33)).bind fun v35=>(wH v25.1 v28.1).bind fun v37=>(eS false (IntKind.u64.wrap v37)).bind fun v39=>some (v35,v39)) else(lN K a0 a1)) else(lN K a0 a1)
theorem vH {K:Nat} {a0:List Int} {a1:List Int} {r:aH×aH} (hF:mK K a0 a1=some r):Ct Tryz.prog 226 [.vc (pS cI a0),.vc (pS cI a1)] (.t2 (.va (aH.e r.1)) (.va (aH.e r.2))):=by
 unfold mK at hF
 refine aI Tryz.func226 rfl (by kernel_rfl) Tryz.ntmps226 rfl (fun w0 M0=>?_)
 refine aM (aX (aN rfl tyZ42 (fun b1=>?_)))
 refine aN rfl tyZ42 (fun b2=>?_)
 refine bQ (aS (aM (uM (fun H E=>lN K a0 a1=some r∧H=[⟨some b2,1,42,2,1,([pB false]++[pS cI ([]:List Int)])⟩,⟨some b1,1,42,2,1,([pB false]++[pS cI ([]:List Int)])⟩]∧E=[(0,.vc (pS cI a0)),(1,.vc (pS cI a1)),(4,.vc (pP (some b1) 0)),(5,.vc (pP (some b2) 0))]) ?_ (fun Jj4=>?_))))
 ·rintro _ _ ⟨hF,rfl,rfl⟩
  unfold lN at hF
  obtain⟨v5,h6,hF⟩:=bD hF mL
  refine go ?_ ?_
  refine aJ hF rfl (fun h7 hF=>?_) (fun h7 hF=>?_)
  ·refine aM (aX (aR (fC (is:=[]) (xs:=[]) (ps:=[]) rfl tyB42 rfl rfl trivial rfl) trivial ?_))
   obtain⟨v8,h9,hF⟩:=bD hF gU
   exact cA
  refine go ?_ ?_
  refine aJ hF rfl (fun h10 hF=>?_) (fun h10 hF=>?_)
  ·obtain⟨v11,h12,hF⟩:=a9 hF
   obtain⟨v13,h14,hF⟩:=bD hF y8
   obtain⟨v15,h16,hF⟩:=bD hF gU
   refine go ?_ ?_
   refine aR (aCK rfl ⟨_,Tryz.underlying3⟩ Tryz.underlying213) zU1 ?_
   obtain⟨v17,h18,hF⟩:=bD hF jN
   exact cA
  obtain⟨v19,h20,hF⟩:=bD hF aDg
  obtain⟨v21,h22,hF⟩:=bD hF gU
  obtain⟨v23,h24,hF⟩:=bD hF gU
  exact cA
 obtain⟨v25,h26,hF⟩:=bD hF vG
 refine go ?_ ?_
 refine aJ hF rfl (fun h27 hF=>?_) (fun h27 hF=>?_)
 ·obtain⟨v28,h29,hF⟩:=bD hF vG
  refine go ?_ ?_
  refine aJ hF rfl (fun h30 hF=>?_) (fun h30 hF=>?_)
  ·refine aM ?_
   obtain⟨v33,h34,hF⟩:=a9 hF
   obtain⟨v35,h36,hF⟩:=bD hF jN
   obtain⟨v37,h38,hF⟩:=a9 hF
   obtain⟨v39,h40,hF⟩:=bD hF jN
   refine kG [0,0,3,7,15,0,0,96,224,511,1023,2047] 10 2 [.v (.vc (pI .i64 v25.1)),.v (.vc (pI .i64 v28.1)),.v (.vc (pI .i64 v33)),.v (.vc (pI .u64 (IntKind.u64.wrap v33))),.v (.va (aH.e v35)),.v (.vc (pI .i64 v25.1)),.v (.vc (pI .i64 v28.1)),.v (.vc (pI .i64 v37)),.v (.vc (pI .u64 (IntKind.u64.wrap v37))),.v (.va (aH.e v39))] bK ⟨d0 (bW (.inl rfl)) zU1,d0 (bW (.inl rfl)) zU1,d0 (aD0 rfl h34) zU2,⟨rfl,.run (L:=[0]) ⟨fun G31 A=>aCK rfl ⟨_,Tryz.underlying3⟩ Tryz.underlying213,trivial⟩ (fun G31=>zU1)⟩,d0 (bS rfl h36 rfl) ⟨k_B _,rfl,trivial⟩,d0 (bW (.inl rfl)) zU1,d0 (bW (.inl rfl)) zU1,d0 (aBA rfl h38) zU2,⟨rfl,.run (L:=[0]) ⟨fun G31 A=>aCK rfl ⟨_,Tryz.underlying3⟩ Tryz.underlying213,trivial⟩ (fun G31=>zU1)⟩,d0 (bS rfl h40 rfl) ⟨k_B _,rfl,trivial⟩,trivial⟩ (fun bs32 G31=>?_)
   exact cA
  refine iO ?_
  exact qB Jj4 ⟨hF,rfl,rfl⟩ [0,1]
 refine iO ?_
 exact qB Jj4 ⟨hF,rfl,rfl⟩ [0,1]
def u5 (K:Nat) (x14:aH):Option aH:=
 some x14
def sE (K:Nat) (x28:Int):Option (LR aH aH):=
 (eS false (IntKind.u64.wrap x28)).bind fun v31=>some (.ret v31)
def jU (K:Nat):Nat→Int→Int→Option Int
 |0,_,_=>none
 |k+1,x26,x27=>bif(decide (0<x27)) then((wH x26 x27).bind fun v36=>jU K k x27 v36) else(some x26)
def iB (K:Nat):Nat→aH→aH→Option (LR aH aH)
 |0,_,_=>none
 |k+1,x12,x13=>bif(decide (0<(x13.d.length:Int))) then((n9 x12.d).bind fun v18=>(n9 x13.d).bind fun v20=>bif v18.2 then(bif v20.2 then((jU K K v18.1 v20.1).bind fun x28=>sE K x28) else((mK K x12.d x13.d).bind fun v38=>iB K k x13 v38.2)) else((mK K x12.d x13.d).bind fun v44=>iB K k x13 v44.2)) else(some (.go x12))
def rP (K:Nat) (a0:aH) (a1:aH):Option aH:=
 (eG K false a0.d).bind fun v6=>(eG K false a1.d).bind fun v8=>(iB K K v6 v8).bind fun o=>match o with| .ret r=>some r| .go x14=>u5 K x14
theorem aAB {K:Nat} {a0:aH} {a1:aH} {r:aH} (hF:rP K a0 a1=some r):Ct Tryz.prog 166 [.va (aH.e a0),.va (aH.e a1)] (.va (aH.e r)):=by
 unfold rP at hF
 refine aI Tryz.func166 rfl (by kernel_rfl) Tryz.ntmps166 rfl (fun w0 M0=>?_)
 refine aM (aX (cT rfl rfl trivial (fun b1=>?_)))
 refine cT rfl rfl trivial (fun b2=>?_)
 refine aN rfl tyZ42 (fun b3=>?_)
 obtain⟨v6,h7,hF⟩:=bD hF gU
 obtain⟨v8,h9,hF⟩:=bD hF gU
 refine go ?_ ?_
 refine dr [0,1,3,0,8,31,0,0,255,511] 8 2 ?_ (fun bs5 G4=>?_)
 refine go ?_ ?_
 refine aV (cJ (fun H E=>∃(x14:aH),u5 K x14=some r∧H=[⟨some (bs5 6),1,42,2,1,(aH.e x14)⟩,⟨some b3,1,42,2,1,([pB false]++[pS cI ([]:List Int)])⟩]∧E=[(4,.vc (pP (some b3) 0)),(5,.vc (pP (some (bs5 6)) 0))]) ?_ (fun Jj16=>?_))
 ·rintro _ _ ⟨x14,hF,rfl,rfl⟩
  unfold u5 at hF
  exact cA
 obtain⟨ol15,hL,hRl15⟩:=a9 hF
 refine iT (fun k a w=>∃(x12:aH),∃(x13:aH),iB K k x12 x13=some ol15∧hs _ [⟨some (bs5 6),1,42,2,1,(aH.e x12)⟩,⟨some (bs5 7),1,42,2,1,(aH.e x13)⟩,⟨some b3,1,42,2,1,([pB false]++[pS cI ([]:List Int)])⟩] [(4,.vc (pP (some b3) 0)),(5,.vc (pP (some (bs5 6)) 0)),(6,.vc (pP (some (bs5 7)) 0))] a w) K (fun a w ⟨_,_,hF,_⟩=>by cases hF) (fun k a w ⟨x12,x13,hF,hh⟩=>iS ?_ hh) (fun a w hh=>⟨v6,v8,hL,iH [0,1,2] hh⟩)
 rw [iB.eq_2] at hF
 refine go ?_ ?_
 refine aJ hF rfl (fun h17 hF=>?_) (fun h17 hF=>?_)
 ·refine iO (aS (aV ?_))
  obtain⟨v18,h19,hF⟩:=bD hF vG
  obtain⟨v20,h21,hF⟩:=bD hF vG
  refine go ?_ ?_
  refine dQ hF (fun h22 hF=>?_) (fun h22 hF=>?_)
  ·refine go ?_ ?_
   refine aJ hF rfl (fun h23 hF=>?_) (fun h23 hF=>?_)
   ·refine aM (aV (cJ (fun H E=>∃(x28:Int),sE K x28=some ol15∧H=[⟨some b3,1,42,2,1,([pB false]++[pS cI ([]:List Int)])⟩]∧E=[(4,.vc (pP (some b3) 0)),(7,.vc (pI .i64 x28))]) ?_ (fun Jj30=>?_)))
    ·rintro _ _ ⟨x28,hF,rfl,rfl⟩
     unfold sE at hF
     refine go ?_ ?_
     refine aR (aCK rfl ⟨_,Tryz.underlying3⟩ Tryz.underlying213) zU1 ?_
     obtain⟨v31,h32,hF⟩:=bD hF jN
     exact cA
    obtain⟨x28',hL,hRl29⟩:=a9 hF
    refine iT (fun k a w=>∃(x26:Int),∃(x27:Int),jU K k x26 x27=some x28'∧hs _ [⟨some b3,1,42,2,1,([pB false]++[pS cI ([]:List Int)])⟩] [(4,.vc (pP (some b3) 0)),(7,.vc (pI .i64 x26)),(9,.vc (pI .i64 x27))] a w) K (fun a w ⟨_,_,hF,_⟩=>by cases hF) (fun k a w ⟨x26,x27,hF,hh⟩=>iS ?_ hh) (fun a w hh=>⟨v18.1,v20.1,hL,iH [2] hh⟩)
    rw [jU.eq_2] at hF
    refine go ?_ ?_
    refine aJ hF rfl (fun h33 hF=>?_) (fun h33 hF=>?_)
    ·refine iO (aS (aV ?_))
     obtain⟨v36,h37,hF⟩:=a9 hF
     refine dr [0,0,0,6,3,31] 6 0 ?_ (fun bs35 G34=>?_)
     refine bQ (yY ?_)
     exact aL (fun a w hh=>⟨x27,v36,hF,iH [0] hh⟩)
    refine dJ ?_
    obtain rfl:=qN hF
    exact qB Jj30 ⟨x26,hRl29,rfl,rfl⟩ [0]
   obtain⟨v38,h39,hF⟩:=bD hF vH
   refine go ?_ ?_
   refine aN rfl tyZ42 (fun b40=>?_)
   refine aN rfl tyZ42 (fun b41=>?_)
   refine go ?_ ?_
   refine sI (HsM [(0,fun G42=>[⟨some b41,1,42,2,1,(aH.e v38.2)⟩,⟨some b40,1,42,2,1,(aH.e v38.1)⟩,⟨some (bs5 6),1,42,2,1,(aH.e x12)⟩,⟨some (bs5 7),1,42,2,1,(aH.e x13)⟩,⟨some b3,1,42,2,1,([pB false]++[pS cI ([]:List Int)])⟩]),(1,fun G42=>[⟨some b41,1,42,2,1,(aH.e v38.2)⟩,⟨some b40,1,42,2,1,(aH.e v38.1)⟩,⟨some (bs5 6),1,42,2,1,(aH.e x13)⟩,⟨some (bs5 7),1,42,2,1,(aH.e x13)⟩,⟨some b3,1,42,2,1,([pB false]++[pS cI ([]:List Int)])⟩])]) [2] [0,0,1,7] 3 1 [.v (.va (aH.e x13)),.v (.va (aH.e v38.2)),.g (fun _ _=>.any)] bK ⟨d1 0 (gF 3 2 rfl rfl rfl rfl (.agg tyA42)) zU1,⟨rfl,.run (L:=[0,1]) ⟨fun G42 A=>gF 0 2 rfl rfl rfl rfl (.agg tyA42),fun G42 A=>gF 0 2 rfl rfl rfl rfl (.agg tyA42),trivial⟩ (fun G42=>zU1)⟩,⟨rfl,.hvy [0] ⟨fun G42 A=>aCx (t_s 2 rfl rfl rfl tyA42.s),trivial⟩ (fun G42=>zU2)⟩,trivial⟩ (fun bs43 G42=>?_)
   refine go ?_ ?_
   exact aL (fun a w hh=>⟨x13,v38.2,hF,iH [2,3,4] hh⟩)
  refine go ?_ ?_
  refine uP rfl ?_
  obtain⟨v44,h45,hF⟩:=bD hF vH
  refine go ?_ ?_
  refine aN rfl tyZ42 (fun b46=>?_)
  refine aN rfl tyZ42 (fun b47=>?_)
  refine go ?_ ?_
  refine sI (HsM [(0,fun G48=>[⟨some b47,1,42,2,1,(aH.e v44.2)⟩,⟨some b46,1,42,2,1,(aH.e v44.1)⟩,⟨some (bs5 6),1,42,2,1,(aH.e x12)⟩,⟨some (bs5 7),1,42,2,1,(aH.e x13)⟩,⟨some b3,1,42,2,1,([pB false]++[pS cI ([]:List Int)])⟩]),(1,fun G48=>[⟨some b47,1,42,2,1,(aH.e v44.2)⟩,⟨some b46,1,42,2,1,(aH.e v44.1)⟩,⟨some (bs5 6),1,42,2,1,(aH.e x13)⟩,⟨some (bs5 7),1,42,2,1,(aH.e x13)⟩,⟨some b3,1,42,2,1,([pB false]++[pS cI ([]:List Int)])⟩])]) [2] [0,0,1,7] 3 1 [.v (.va (aH.e x13)),.v (.va (aH.e v44.2)),.g (fun _ _=>.any)] bK ⟨d1 0 (gF 3 2 rfl rfl rfl rfl (.agg tyA42)) zU1,⟨rfl,.run (L:=[0,1]) ⟨fun G48 A=>gF 0 2 rfl rfl rfl rfl (.agg tyA42),fun G48 A=>gF 0 2 rfl rfl rfl rfl (.agg tyA42),trivial⟩ (fun G48=>zU1)⟩,⟨rfl,.hvy [0] ⟨fun G48 A=>aCx (t_s 2 rfl rfl rfl tyA42.s),trivial⟩ (fun G48=>zU2)⟩,trivial⟩ (fun bs49 G48=>?_)
  refine go ?_ ?_
  exact aL (fun a w hh=>⟨x13,v44.2,hF,iH [2,3,4] hh⟩)
 refine dJ ?_
 obtain rfl:=qN hF
 exact qB Jj16 ⟨x12,hRl15,rfl,rfl⟩ [0,2]
def dG (a0:List Int) (a1:Int):Option Int:=
 bif(decide (a1<(a0.length:Int))) then((bM a0 a1).bind fun v2=>some v2) else(some 0)
theorem fN {a0:List Int} {a1:Int} {r:Int} (hF:dG a0 a1=some r):Ct Tryz.prog 259 [.vc (pS cI a0),.vc (pI .i64 a1)] (.vc (pI .i64 r)):=by
 unfold dG at hF
 refine aI Tryz.func259 rfl (by kernel_rfl) Tryz.ntmps259 rfl (fun w0 M0=>?_)
 refine go ?_ ?_
 refine aJ hF rfl (fun h1 hF=>?_) (fun h1 hF=>?_)
 ·obtain⟨v2,h3,hF⟩:=a9 hF
  exact cA
 exact cA
def nR (K:Nat) (x19:List Int):Option (List Int):=
 some x19
def cK (K:Nat) (a0:List Int) (a1:List Int):Nat→(List Int)→Int→Int→Option (List Int)
 |0,_,_,_=>none
 |k+1,x11,x17,x18=>bif(decide (x18<(a0.length:Int))) then((dG a0 x18).bind fun v28=>(dG a1 x18).bind fun v30=>(aP (v28+v30)).bind fun v32=>(aP (v32+x17)).bind fun v34=>(wH v34 1000000000).bind fun v36=>(qD x11 [v36]).bind fun x38=>(w4 v34 1000000000).bind fun v45=>(aP (x18+1)).bind fun v47=>cK K a0 a1 k x38 v45 v47) else(bif(decide (x18<(a1.length:Int))) then((dG a0 x18).bind fun v50=>(dG a1 x18).bind fun v52=>(aP (v50+v52)).bind fun v54=>(aP (v54+x17)).bind fun v56=>(wH v56 1000000000).bind fun v58=>(qD x11 [v58]).bind fun x60=>(w4 v56 1000000000).bind fun v67=>(aP (x18+1)).bind fun v69=>cK K a0 a1 k x60 v67 v69) else(bif(decide (0<x17)) then((dG a0 x18).bind fun v72=>(dG a1 x18).bind fun v74=>(aP (v72+v74)).bind fun v76=>(aP (v76+x17)).bind fun v78=>(wH v78 1000000000).bind fun v80=>(qD x11 [v80]).bind fun x82=>(w4 v78 1000000000).bind fun v89=>(aP (x18+1)).bind fun v91=>cK K a0 a1 k x82 v89 v91) else(some x11)))
def oG (K:Nat) (a0:List Int) (a1:List Int):Option (List Int):=
 (cK K a0 a1 K ([]:List Int) 0 0).bind fun x19=>nR K x19
theorem aBo {K:Nat} {a0:List Int} {a1:List Int} {r:List Int} (hF:oG K a0 a1=some r):Ct Tryz.prog 229 [.vc (pS cI a0),.vc (pS cI a1)] (.vc (pS cI r)):=by
 unfold oG at hF
 refine aI Tryz.func229 rfl (by kernel_rfl) Tryz.ntmps229 rfl (fun w0 M0=>?_)
 refine aM (aX (aR (bW (.inr rfl)) ⟨eJ cI,trivial⟩ ?_))
 refine bQ (aS (aM (aX (wV cI 3 rfl ?_))))
 refine go ?_ ?_
 refine aV (cJ (fun H E=>∃(x19:List Int),∃(b20:Option Nat),∃(c21:Nat),∃(n22:Nat),nR K x19=some r∧x19.length=n22∧H=[hO cI b20 c21 3 n22 x19]∧E=[(5,.vc (pO b20 n22 c21))]) ?_ (fun Jj26=>?_))
 ·rintro _ _ ⟨x19,b20,c21,n22,hF,q23,rfl,rfl⟩
  unfold nR at hF
  refine go ?_ ?_
  refine sP (sS (yF 0 [4,5,41] rfl q23 ⟨rfl,rfl,rfl,trivial⟩ rfl ?_))
  obtain rfl:=qN hF
  exact s7 (.inl rfl) Tryz.results229 (.tmp rfl .nil) rfl rfl
 obtain⟨x19',hL,hRl25⟩:=a9 hF
 refine iT (fun k a w=>∃(x11:List Int),∃(x17:Int),∃(x18:Int),∃(b12:Option Nat),∃(c13:Nat),∃(n14:Nat),cK K a0 a1 k x11 x17 x18=some x19'∧x11.length=n14∧hs _ [hO cI b12 c13 3 n14 x11] [(0,.vc (pS cI a0)),(1,.vc (pS cI a1)),(5,.vc (pO b12 n14 c13)),(6,.vc (pI .i64 x17)),(7,.vc (pI .i64 x18))] a w) K (fun a w ⟨_,_,_,_,_,_,hF,_,_⟩=>by cases hF) (fun k a w ⟨x11,x17,x18,b12,c13,n14,hF,q15,hh⟩=>iS ?_ hh) (fun a w hh=>⟨([]:List Int),0,0,none,0,0,hL,rfl,iH [0] hh⟩)
 rw [cK.eq_2] at hF
 refine go ?_ ?_
 refine dQ hF (fun h27 hF=>?_) (fun h27 hF=>?_)
 ·refine go ?_ ?_
  refine mD rfl ?_
  refine go ?_ ?_
  refine aV ?_
  obtain⟨v28,h29,hF⟩:=bD hF fN
  obtain⟨v30,h31,hF⟩:=bD hF fN
  obtain⟨v32,h33,v34,h35,v36,h37,hF⟩:=bn3 hF
  refine go ?_ ?_
  refine aR (sM (C:=cI) (xs:=[.tmp 36]) (ps:=[.vc (pI .i64 v36)]) (zs:=[v36]) rfl tyS22 rfl ⟨⟨trivial,rfl⟩,trivial⟩ rfl) zU1 ?_
  obtain⟨x38,h39,hF⟩:=a9 hF
  refine o8 0 rfl tyS22 rfl rfl q15 rfl rfl h39 (fun b40 c41 H42 e43=>?_)
  cases e43
  obtain⟨v45,h46,v47,h48,hF⟩:=vN hF
  refine go ?_ ?_
  exact aL (fun a w hh=>⟨x38,v45,v47,b40,c41,(n14+[v36].length),hF,(f7 h39 q15),iH [0] hh⟩)
 refine go ?_ ?_
 refine dQ hF (fun h49 hF=>?_) (fun h49 hF=>?_)
 ·refine go ?_ ?_
  refine mD rfl ?_
  refine go ?_ ?_
  refine aV ?_
  obtain⟨v50,h51,hF⟩:=bD hF fN
  obtain⟨v52,h53,hF⟩:=bD hF fN
  obtain⟨v54,h55,v56,h57,v58,h59,hF⟩:=bn3 hF
  refine go ?_ ?_
  refine aR (sM (C:=cI) (xs:=[.tmp 36]) (ps:=[.vc (pI .i64 v58)]) (zs:=[v58]) rfl tyS22 rfl ⟨⟨trivial,rfl⟩,trivial⟩ rfl) zU1 ?_
  obtain⟨x60,h61,hF⟩:=a9 hF
  refine o8 0 rfl tyS22 rfl rfl q15 rfl rfl h61 (fun b62 c63 H64 e65=>?_)
  cases e65
  obtain⟨v67,h68,v69,h70,hF⟩:=vN hF
  refine go ?_ ?_
  exact aL (fun a w hh=>⟨x60,v67,v69,b62,c63,(n14+[v58].length),hF,(f7 h61 q15),iH [0] hh⟩)
 refine go ?_ ?_
 refine aJ hF rfl (fun h71 hF=>?_) (fun h71 hF=>?_)
 ·refine go ?_ ?_
  refine aV ?_
  obtain⟨v72,h73,hF⟩:=bD hF fN
  obtain⟨v74,h75,hF⟩:=bD hF fN
  obtain⟨v76,h77,v78,h79,v80,h81,hF⟩:=bn3 hF
  refine go ?_ ?_
  refine aR (sM (C:=cI) (xs:=[.tmp 36]) (ps:=[.vc (pI .i64 v80)]) (zs:=[v80]) rfl tyS22 rfl ⟨⟨trivial,rfl⟩,trivial⟩ rfl) zU1 ?_
  obtain⟨x82,h83,hF⟩:=a9 hF
  refine o8 0 rfl tyS22 rfl rfl q15 rfl rfl h83 (fun b84 c85 H86 e87=>?_)
  cases e87
  obtain⟨v89,h90,v91,h92,hF⟩:=vN hF
  refine go ?_ ?_
  exact aL (fun a w hh=>⟨x82,v89,v91,b84,c85,(n14+[v80].length),hF,(f7 h83 q15),iH [0] hh⟩)
 refine dJ ?_
 obtain rfl:=qN hF
 exact qB Jj26 ⟨x11,b12,c13,n14,hRl25,q15,rfl,rfl⟩ [0]
def nH (K:Nat) (x19:List Int):Option (List Int):=
 some x19
def dX (K:Nat) (a0:List Int) (a1:List Int):Nat→(List Int)→Int→Int→Option (List Int)
 |0,_,_,_=>none
 |k+1,x11,x17,x18=>bif(decide (x18<(a0.length:Int))) then((bM a0 x18).bind fun v30=>(dG a1 x18).bind fun v32=>(aP (v30-v32)).bind fun v34=>(aP (v34-x17)).bind fun v36=>bif(decide (v36<0)) then((aP (v36+1000000000)).bind fun v39=>(qD x11 [v39]).bind fun x41=>(aP (x18+1)).bind fun v48=>dX K a0 a1 k x41 1 v48) else((qD x11 [v36]).bind fun x50=>(aP (x18+1)).bind fun v57=>dX K a0 a1 k x50 0 v57)) else(some x11)
def fA (K:Nat) (a0:List Int) (a1:List Int):Option (List Int):=
 (dX K a0 a1 K ([]:List Int) 0 0).bind fun x19=>nH K x19
theorem mY {K:Nat} {a0:List Int} {a1:List Int} {r:List Int} (hF:fA K a0 a1=some r):Ct Tryz.prog 231 [.vc (pS cI a0),.vc (pS cI a1)] (.vc (pS cI r)):=by
 unfold fA at hF
 refine aI Tryz.func231 rfl (by kernel_rfl) Tryz.ntmps231 rfl (fun w0 M0=>?_)
 refine aM (aX (aR (bW (.inr rfl)) ⟨eJ cI,trivial⟩ ?_))
 refine bQ (aS (aM (aX (wV cI 3 rfl ?_))))
 refine go ?_ ?_
 refine aV (cJ (fun H E=>∃(x19:List Int),∃(b20:Option Nat),∃(c21:Nat),∃(n22:Nat),nH K x19=some r∧x19.length=n22∧H=[hO cI b20 c21 3 n22 x19]∧E=[(5,.vc (pO b20 n22 c21))]) ?_ (fun Jj26=>?_))
 ·rintro _ _ ⟨x19,b20,c21,n22,hF,q23,rfl,rfl⟩
  unfold nH at hF
  refine go ?_ ?_
  refine sP (sS (yF 0 [4,5,33] rfl q23 ⟨rfl,rfl,rfl,trivial⟩ rfl ?_))
  obtain rfl:=qN hF
  exact s7 (.inl rfl) Tryz.results231 (.tmp rfl .nil) rfl rfl
 obtain⟨x19',hL,hRl25⟩:=a9 hF
 refine iT (fun k a w=>∃(x11:List Int),∃(x17:Int),∃(x18:Int),∃(b12:Option Nat),∃(c13:Nat),∃(n14:Nat),dX K a0 a1 k x11 x17 x18=some x19'∧x11.length=n14∧hs _ [hO cI b12 c13 3 n14 x11] [(0,.vc (pS cI a0)),(1,.vc (pS cI a1)),(5,.vc (pO b12 n14 c13)),(6,.vc (pI .i64 x17)),(7,.vc (pI .i64 x18))] a w) K (fun a w ⟨_,_,_,_,_,_,hF,_,_⟩=>by cases hF) (fun k a w ⟨x11,x17,x18,b12,c13,n14,hF,q15,hh⟩=>iS ?_ hh) (fun a w hh=>⟨([]:List Int),0,0,none,0,0,hL,rfl,iH [0] hh⟩)
 rw [dX.eq_2] at hF
 refine go ?_ ?_
 refine aJ hF rfl (fun h27 hF=>?_) (fun h27 hF=>?_)
 ·refine go ?_ ?_
  refine aV (aM ?_)
  obtain⟨v30,h31,hF⟩:=a9 hF
  obtain⟨v32,h33,hF⟩:=bD hF fN
  obtain⟨v34,h35,hF⟩:=a9 hF
  obtain⟨v36,h37,hF⟩:=a9 hF
  refine dr [0,0,3,7,0,0,48,127,0,511,1023] 11 0 ?_ (fun bs29 G28=>?_)
  refine go ?_ ?_
  refine aJ hF rfl (fun h38 hF=>?_) (fun h38 hF=>?_)
  ·obtain⟨v39,h40,hF⟩:=a9 hF
   refine go ?_ ?_
   refine aR (sM (C:=cI) (xs:=[.tmp 30]) (ps:=[.vc (pI .i64 v39)]) (zs:=[v39]) rfl tyS22 rfl ⟨⟨trivial,rfl⟩,trivial⟩ rfl) zU1 ?_
   obtain⟨x41,h42,hF⟩:=a9 hF
   refine o8 0 rfl tyS22 rfl rfl q15 rfl rfl h42 (fun b43 c44 H45 e46=>?_)
   cases e46
   obtain⟨v48,h49,hF⟩:=a9 hF
   refine go ?_ ?_
   exact aL (fun a w hh=>⟨x41,1,v48,b43,c44,(n14+[v39].length),hF,(f7 h42 q15),iH [0] hh⟩)
  refine go ?_ ?_
  refine aR (sM (C:=cI) (xs:=[.tmp 30]) (ps:=[.vc (pI .i64 v36)]) (zs:=[v36]) rfl tyS22 rfl ⟨⟨trivial,rfl⟩,trivial⟩ rfl) zU1 ?_
  obtain⟨x50,h51,hF⟩:=a9 hF
  refine o8 0 rfl tyS22 rfl rfl q15 rfl rfl h51 (fun b52 c53 H54 e55=>?_)
  cases e55
  obtain⟨v57,h58,hF⟩:=a9 hF
  refine go ?_ ?_
  exact aL (fun a w hh=>⟨x50,0,v57,b52,c53,(n14+[v36].length),hF,(f7 h51 q15),iH [0] hh⟩)
 refine dJ ?_
 obtain rfl:=qN hF
 exact qB Jj26 ⟨x11,b12,c13,n14,hRl25,q15,rfl,rfl⟩ [0]
def pL (K:Nat) (a0:aH) (a1:aH):Option aH:=
 bif(a0.neg==a1.neg) then((oG K a0.d a1.d).bind fun v7=>(bA K a0.neg v7).bind fun v9=>some v9) else((cL K a0.d a1.d).bind fun v11=>bif(decide (v11<0)) then((fA K a1.d a0.d).bind fun v16=>(bA K a1.neg v16).bind fun v18=>some v18) else((fA K a0.d a1.d).bind fun v22=>(bA K a0.neg v22).bind fun v24=>some v24))
theorem aBM {K:Nat} {a0:aH} {a1:aH} {r:aH} (hF:pL K a0 a1=some r):Ct Tryz.prog 177 [.va (aH.e a0),.va (aH.e a1)] (.va (aH.e r)):=by
 unfold pL at hF
 refine aI Tryz.func177 rfl (by kernel_rfl) Tryz.ntmps177 rfl (fun w0 M0=>?_)
 refine aM (aX (cT rfl rfl trivial (fun b1=>?_)))
 refine cT rfl rfl trivial (fun b2=>?_)
 refine aN rfl tyZ42 (fun b3=>?_)
 refine go ?_ ?_
 refine aR (aMR rfl Tryz.underlying4) zU2 ?_
 refine bQ (aS (aJ hF rfl (fun h4 hF=>?_) (fun h4 hF=>?_)))
 ·refine aM ?_
  obtain⟨v7,h8,hF⟩:=bD hF aBo
  obtain⟨v9,h10,hF⟩:=bD hF bN
  refine dr [0,1,0,4,0,16,60,127,255] 8 1 ?_ (fun bs6 G5=>?_)
  exact cA
 obtain⟨v11,h12,hF⟩:=bD hF gC
 refine go ?_ ?_
 refine aJ hF rfl (fun h13 hF=>?_) (fun h13 hF=>?_)
 ·refine aM ?_
  obtain⟨v16,h17,hF⟩:=bD hF mY
  obtain⟨v18,h19,hF⟩:=bD hF bN
  refine dr [0,1,0,4,0,16,60,127,255] 8 1 ?_ (fun bs15 G14=>?_)
  exact cA
 obtain⟨v22,h23,hF⟩:=bD hF mY
 obtain⟨v24,h25,hF⟩:=bD hF bN
 refine go ?_ ?_
 refine dr [0,1,0,4,0,16,60,127,255] 8 1 ?_ (fun bs21 G20=>?_)
 exact cA
def fR (a0:List Int):Option Int:=
 (dG a0 1).bind fun v1=>(aP (v1*1000000000)).bind fun v3=>(dG a0 0).bind fun v5=>(aP (v3+v5)).bind fun v7=>some v7
theorem lO {a0:List Int} {r:Int} (hF:fR a0=some r):Ct Tryz.prog 228 [.vc (pS cI a0)] (.vc (pI .i64 r)):=by
 unfold fR at hF
 refine aI Tryz.func228 rfl (by kernel_rfl) Tryz.ntmps228 rfl (fun w0 M0=>?_)
 obtain⟨v1,h2,hF⟩:=bD hF fN
 obtain⟨v3,h4,hF⟩:=a9 hF
 obtain⟨v5,h6,hF⟩:=bD hF fN
 obtain⟨v7,h8,hF⟩:=a9 hF
 exact cA
def oR (K:Nat) (a0:aH) (a1:aH) (x25:List Int):Option aH:=
 (bA K (a0.neg != a1.neg) x25).bind fun v33=>some v33
def oO (K:Nat) (a1:aH) (x24:Int) (recl31:(List Int)→Int→Option (List Int)) (x52:List Int) (x58:Int):Option (List Int):=
 (aP (x24+(a1.d.length:Int))).bind fun v61=>(bM x52 v61).bind fun v63=>(nU x52 v61 x58).bind fun x65=>(aP (x24+1)).bind fun v68=>recl31 x65 v68
def fX (K:Nat) (a0:aH) (a1:aH) (x24:Int):Nat→(List Int)→Int→Int→Option ((List Int)×Int)
 |0,_,_,_=>none
 |k+1,x44,x50,x51=>bif(decide (x51<(a1.d.length:Int))) then((aP (x24+x51)).bind fun v73=>(bM x44 v73).bind fun v75=>(bM a0.d x24).bind fun v77=>(bM a1.d x51).bind fun v79=>(aP (v77*v79)).bind fun v81=>(aP (v75+v81)).bind fun v83=>(aP (v83+x50)).bind fun v85=>(aP (x24+x51)).bind fun v87=>(wH v85 1000000000).bind fun v89=>(bM x44 v87).bind fun v91=>(nU x44 v87 v89).bind fun x93=>(w4 v85 1000000000).bind fun v96=>(aP (x51+1)).bind fun v98=>fX K a0 a1 x24 k x93 v96 v98) else(some (x44,x50))
def fZ (K:Nat) (a0:aH) (a1:aH):Nat→(List Int)→Int→Option (List Int)
 |0,_,_=>none
 |k+1,x18,x24=>bif(decide (x24<(a0.d.length:Int))) then((fX K a0 a1 x24 K x18 0 0).bind fun(x52,x58)=>oO K a1 x24 (fZ K a0 a1 k) x52 x58) else(some x18)
def pC (K:Nat) (a0:aH) (a1:aH):Option aH:=
 (aP ((a0.d.length:Int)+(a1.d.length:Int))).bind fun v4=>(wG v4 0).bind fun x6=>(fZ K a0 a1 K x6 0).bind fun x25=>oR K a0 a1 x25
theorem aBF {K:Nat} {a0:aH} {a1:aH} {r:aH} (hF:pC K a0 a1=some r):Ct Tryz.prog 175 [.va (aH.e a0),.va (aH.e a1)] (.va (aH.e r)):=by
 unfold pC at hF
 refine aI Tryz.func175 rfl (by kernel_rfl) Tryz.ntmps175 rfl (fun w0 M0=>?_)
 refine aM (aX (cT rfl rfl trivial (fun b1=>?_)))
 refine cT rfl rfl trivial (fun b2=>?_)
 refine aN rfl tyZ42 (fun b3=>?_)
 obtain⟨v4,h5,x6,h7,hF⟩:=vN hF
 refine go ?_ ?_
 refine uY (C:=cI) rfl tyS22 rfl tyZ3 rfl h7 (fun b8=>?_)
 refine go ?_ ?_
 refine aV (cJ (fun H E=>∃(x25:List Int),oR K a0 a1 x25=some r∧x25.length=x6.length∧H=[hO cI b8 x6.length 3 x6.length x25,⟨some b3,1,42,2,1,([pB false]++[pS cI ([]:List Int)])⟩,⟨some b2,1,42,2,1,(aH.e a1)⟩,⟨some b1,1,42,2,1,(aH.e a0)⟩]∧E=[(2,.vc (pP (some b1) 0)),(3,.vc (pP (some b2) 0)),(4,.vc (pP (some b3) 0)),(5,.vc (pO b8 x6.length x6.length))]) ?_ (fun Jj32=>?_))
 ·rintro _ _ ⟨x25,hF,q29,rfl,rfl⟩
  unfold oR at hF
  refine go ?_ ?_
  refine aR (aAs rfl Tryz.underlying4) zU2 ?_
  refine mF ?_
  refine aAZ 0 [5,74] rfl q29 zU2 rfl ?_
  obtain⟨v33,h34,hF⟩:=bD hF bN
  exact cA
 obtain⟨x25',hL,hRl31⟩:=a9 hF
 refine iT (fun k a w=>∃(x18:List Int),∃(x24:Int),fZ K a0 a1 k x18 x24=some x25'∧x18.length=x6.length∧hs _ [hO cI b8 x6.length 3 x6.length x18,⟨some b3,1,42,2,1,([pB false]++[pS cI ([]:List Int)])⟩,⟨some b2,1,42,2,1,(aH.e a1)⟩,⟨some b1,1,42,2,1,(aH.e a0)⟩] [(2,.vc (pP (some b1) 0)),(3,.vc (pP (some b2) 0)),(4,.vc (pP (some b3) 0)),(5,.vc (pO b8 x6.length x6.length)),(6,.vc (pI .i64 x24))] a w) K (fun a w ⟨_,_,hF,_,_⟩=>by cases hF) (fun k a w ⟨x18,x24,hF,q22,hh⟩=>iS ?_ hh) (fun a w hh=>⟨x6,0,hL,rfl,iH [0,1,2,3] hh⟩)
 rw [fZ.eq_2] at hF
 refine go ?_ ?_
 refine aJ hF rfl (fun h35 hF=>?_) (fun h35 hF=>?_)
 ·refine go ?_ ?_
  refine aV (go ?_ ?_)
  refine aV (cJ (fun H E=>∃(x52:List Int),∃(x58:Int),oO K a1 x24 (fZ K a0 a1 k) x52 x58=some x25'∧x52.length=x6.length∧H=[hO cI b8 x6.length 3 x6.length x52,⟨some b3,1,42,2,1,([pB false]++[pS cI ([]:List Int)])⟩,⟨some b2,1,42,2,1,(aH.e a1)⟩,⟨some b1,1,42,2,1,(aH.e a0)⟩]∧E=[(2,.vc (pP (some b1) 0)),(3,.vc (pP (some b2) 0)),(4,.vc (pP (some b3) 0)),(5,.vc (pO b8 x6.length x6.length)),(6,.vc (pI .i64 x24)),(7,.vc (pI .i64 x58))]) ?_ (fun Jj60=>?_))
  ·rintro _ _ ⟨x52,x58,hF,q56,rfl,rfl⟩
   unfold oO at hF
   obtain⟨v61,h62,v63,h64,x65,h66,v68,h69,hF⟩:=bn4 hF
   refine go ?_ ?_
   exact aL (fun a w hh=>⟨x65,v68,hF,(bI h66 q56),iH [0,1,2,3] hh⟩)
  obtain⟨⟨x52',x58'⟩,hL,hRl59⟩:=a9 hF
  refine iT (fun k a w=>∃(x44:List Int),∃(x50:Int),∃(x51:Int),fX K a0 a1 x24 k x44 x50 x51=some (x52',x58')∧x44.length=x6.length∧hs _ [hO cI b8 x6.length 3 x6.length x44,⟨some b3,1,42,2,1,([pB false]++[pS cI ([]:List Int)])⟩,⟨some b2,1,42,2,1,(aH.e a1)⟩,⟨some b1,1,42,2,1,(aH.e a0)⟩] [(2,.vc (pP (some b1) 0)),(3,.vc (pP (some b2) 0)),(4,.vc (pP (some b3) 0)),(5,.vc (pO b8 x6.length x6.length)),(6,.vc (pI .i64 x24)),(7,.vc (pI .i64 x50)),(8,.vc (pI .i64 x51))] a w) K (fun a w ⟨_,_,_,hF,_,_⟩=>by cases hF) (fun k a w ⟨x44,x50,x51,hF,q48,hh⟩=>iS ?_ hh) (fun a w hh=>⟨x18,0,0,hL,q22,iH [0,1,2,3] hh⟩)
  rw [fX.eq_2] at hF
  refine go ?_ ?_
  refine aJ hF rfl (fun h70 hF=>?_) (fun h70 hF=>?_)
  ·refine go ?_ ?_
   refine aV (aM ?_)
   obtain⟨v73,h74,hF⟩:=a9 hF
   obtain⟨v75,h76,hF⟩:=a9 hF
   obtain⟨v77,h78,hF⟩:=a9 hF
   obtain⟨v79,h80,hF⟩:=a9 hF
   obtain⟨v81,h82,hF⟩:=a9 hF
   obtain⟨v83,h84,hF⟩:=a9 hF
   obtain⟨v85,h86,hF⟩:=a9 hF
   refine dr [0,0,0,6,15,31,0,64,0,448,960,0,2048,0,14336,30720,65472,131071,0,524287,1048575] 21 0 ?_ (fun bs72 G71=>?_)
   have hF:=tC h74 hF
   obtain⟨v89,h90,hF⟩:=a9 hF
   have hF:=tC h76 hF
   obtain⟨x93,h94,v96,h97,v98,h99,hF⟩:=bn3 hF
   refine go ?_ ?_
   exact aL (fun a w hh=>⟨x93,v96,v98,hF,(bI h94 q48),iH [0,1,2,3] hh⟩)
  refine dJ ?_
  obtain⟨rfl,rfl⟩:=sm2 hF
  exact qB Jj60 ⟨x44,x50,hRl59,q48,rfl,rfl⟩ [0,1,2,3]
 refine dJ ?_
 obtain rfl:=qN hF
 exact qB Jj32 ⟨x18,hRl31,q22,rfl,rfl⟩ [0,1,2,3]
def gX (K:Nat) (a0:List Int) (a1:Int):Option (List Int):=
 (bA K false a0).bind fun v1=>(gV K a1).bind fun v3=>(pC K v1 v3).bind fun v5=>some v5.d
theorem pT {K:Nat} {a0:List Int} {a1:Int} {r:List Int} (hF:gX K a0 a1=some r):Ct Tryz.prog 260 [.vc (pS cI a0),.vc (pI .i64 a1)] (.vc (pS cI r)):=by
 unfold gX at hF
 refine aI Tryz.func260 rfl (by kernel_rfl) Tryz.ntmps260 rfl (fun w0 M0=>?_)
 refine aM (aX (aR (bW (.inr rfl)) ⟨eJ cI,trivial⟩ ?_))
 obtain⟨v1,h2,hF⟩:=bD hF bN
 obtain⟨v3,h4,hF⟩:=bD hF nD
 obtain⟨v5,h6,hF⟩:=bD hF aBF
 refine go ?_ ?_
 refine aN rfl tyZ42 (fun b7=>?_)
 exact cA
def jH (K:Nat) (x46:List Int) (x52:List Int):Option ((List Int)×(List Int)):=
 some (x46,x52)
def gM (K:Nat) (a1:List Int) (x38:List Int) (x45:Int) (v68:aH) (recl53:(List Int)→(List Int)→Int→Option ((List Int)×(List Int))) (x78:Int):Option ((List Int)×(List Int)):=
 (gX K a1 x78).bind fun v81=>(fA K v68.d v81).bind fun v83=>(bA K false v83).bind fun v85=>(bM x38 x45).bind fun v88=>(nU x38 x45 x78).bind fun x90=>(aP (x45-1)).bind fun v93=>recl53 x90 v85.d v93
def bR (K:Nat) (a1:List Int) (v68:aH):Nat→Int→Int→Option Int
 |0,_,_=>none
 |k+1,x76,x77=>bif(decide (x76<x77)) then((aP (x76+x77)).bind fun v96=>(aP (v96+1)).bind fun v98=>(w4 v98 2).bind fun v100=>(gX K a1 v100).bind fun v102=>(cL K v102 v68.d).bind fun v104=>bif(decide (v104≤0)) then(bR K a1 v68 k v100 x77) else((aP (v100-1)).bind fun v107=>bR K a1 v68 k x76 v107)) else(some x76)
def fI (K:Nat) (a1:List Int) (x38:List Int) (x45:Int) (v68:aH) (recl53:(List Int)→(List Int)→Int→Option ((List Int)×(List Int))) (x72:Int):Option ((List Int)×(List Int)):=
 (bR K a1 v68 K 0 x72).bind fun x78=>gM K a1 x38 x45 v68 recl53 x78
def bG (K:Nat) (a0:List Int) (a1:List Int):Nat→(List Int)→(List Int)→Int→Option ((List Int)×(List Int))
 |0,_,_,_=>none
 |k+1,x38,x44,x45=>bif(decide (0≤x45)) then((bM a0 x45).bind fun v56=>(qD [v56] x44).bind fun x61=>(bA K false x61).bind fun v68=>(cL K v68.d a1).bind fun v109=>bif(decide (v109<0)) then(fI K a1 x38 x45 v68 (bG K a0 a1 k) 0) else(fI K a1 x38 x45 v68 (bG K a0 a1 k) 999999999)) else(some (x38,x44))
def oD (K:Nat) (x135:List Int) (x141:List Int):Option ((List Int)×(List Int)):=
 some (x135,x141)
def lC (K:Nat) (a1:List Int) (x127:List Int) (x134:Int) (v157:aH) (recl142:(List Int)→(List Int)→Int→Option ((List Int)×(List Int))) (x167:Int):Option ((List Int)×(List Int)):=
 (gX K a1 x167).bind fun v170=>(fA K v157.d v170).bind fun v172=>(bA K false v172).bind fun v174=>(bM x127 x134).bind fun v177=>(nU x127 x134 x167).bind fun x179=>(aP (x134-1)).bind fun v182=>recl142 x179 v174.d v182
def eO (K:Nat) (a1:List Int) (v157:aH):Nat→Int→Int→Option Int
 |0,_,_=>none
 |k+1,x165,x166=>bif(decide (x165<x166)) then((aP (x165+x166)).bind fun v185=>(aP (v185+1)).bind fun v187=>(w4 v187 2).bind fun v189=>(gX K a1 v189).bind fun v191=>(cL K v191 v157.d).bind fun v193=>bif(decide (v193≤0)) then(eO K a1 v157 k v189 x166) else((aP (v189-1)).bind fun v196=>eO K a1 v157 k x165 v196)) else(some x165)
def iP (K:Nat) (a1:List Int) (x127:List Int) (x134:Int) (v157:aH) (recl142:(List Int)→(List Int)→Int→Option ((List Int)×(List Int))) (x161:Int):Option ((List Int)×(List Int)):=
 (eO K a1 v157 K 0 x161).bind fun x167=>lC K a1 x127 x134 v157 recl142 x167
def cO (K:Nat) (a0:List Int) (a1:List Int):Nat→(List Int)→(List Int)→Int→Option ((List Int)×(List Int))
 |0,_,_,_=>none
 |k+1,x127,x133,x134=>bif(decide (0≤x134)) then((bM a0 x134).bind fun v145=>(qD [v145] x133).bind fun x150=>(bA K false x150).bind fun v157=>(cL K v157.d a1).bind fun v198=>bif(decide (v198<0)) then(iP K a1 x127 x134 v157 (cO K a0 a1 k) 0) else(iP K a1 x127 x134 v157 (cO K a0 a1 k) 999999999)) else(some (x127,x133))
def hU (K:Nat) (a0:List Int) (a1:List Int):Option ((List Int)×(List Int)):=
 bif(decide ((a0.length:Int)≤2)) then(bif(decide ((a1.length:Int)≤2)) then((fR a0).bind fun v3=>(fR a1).bind fun v5=>(w4 v3 v5).bind fun v7=>(gV K v7).bind fun v9=>(fR a0).bind fun v12=>(fR a1).bind fun v14=>(wH v12 v14).bind fun v16=>(gV K v16).bind fun v18=>some (v9.d,v18.d)) else((wG (a0.length:Int) 0).bind fun x23=>(aP ((a0.length:Int)-1)).bind fun v28=>(bG K a0 a1 K x23 [] v28).bind fun(x46,x52)=>jH K x46 x52)) else((wG (a0.length:Int) 0).bind fun x112=>(aP ((a0.length:Int)-1)).bind fun v117=>(cO K a0 a1 K x112 [] v117).bind fun(x135,x141)=>oD K x135 x141)
theorem aAb {K:Nat} {a0:List Int} {a1:List Int} {r:(List Int)×(List Int)} (hF:hU K a0 a1=some r):Ct Tryz.prog 232 [.vc (pS cI a0),.vc (pS cI a1)] (.t2 (.vc (pS cI r.1)) (.vc (pS cI r.2))):=by
 unfold hU at hF
 refine aI Tryz.func232 rfl (by kernel_rfl) Tryz.ntmps232 rfl (fun w0 M0=>?_)
 refine aM (aX (aR (bW (.inr rfl)) ⟨eJ cI,trivial⟩ ?_))
 refine aR (bW (.inr rfl)) ⟨eJ cI,trivial⟩ ?_
 refine go ?_ ?_
 refine dQ hF (fun h1 hF=>?_) (fun h1 hF=>?_)
 ·refine go ?_ ?_
  refine aJ hF rfl (fun h2 hF=>?_) (fun h2 hF=>?_)
  ·obtain⟨v3,h4,hF⟩:=bD hF lO
   obtain⟨v5,h6,hF⟩:=bD hF lO
   obtain⟨v7,h8,hF⟩:=a9 hF
   obtain⟨v9,h10,hF⟩:=bD hF nD
   refine go ?_ ?_
   refine aN rfl tyZ42 (fun b11=>?_)
   obtain⟨v12,h13,hF⟩:=bD hF lO
   obtain⟨v14,h15,hF⟩:=bD hF lO
   obtain⟨v16,h17,hF⟩:=a9 hF
   obtain⟨v18,h19,hF⟩:=bD hF nD
   refine go ?_ ?_
   refine aN rfl tyZ42 (fun b20=>?_)
   refine go ?_ ?_
   refine dr [0,1,0,4,3,31] 6 0 ?_ (fun bs22 G21=>?_)
   refine bQ (aS ?_)
   exact cA
  obtain⟨x23,h24,hF⟩:=a9 hF
  refine go ?_ ?_
  refine uY (C:=cI) rfl tyS22 rfl tyZ3 rfl h24 (fun b25=>?_)
  refine go ?_ ?_
  refine aR (bW (.inr rfl)) ⟨eJ cI,trivial⟩ ?_
  obtain⟨v28,h29,hF⟩:=a9 hF
  refine go ?_ ?_
  refine aV (cJ (fun H E=>∃(x46:List Int),∃(x52:List Int),jH K x46 x52=some r∧x46.length=x23.length∧H=[hO cI b25 x23.length 3 x23.length x46]∧E=[(8,.vc (pO b25 x23.length x23.length)),(9,.vc (pS cI x52))]) ?_ (fun Jj54=>?_))
  ·rintro _ _ ⟨x46,x52,hF,q50,rfl,rfl⟩
   unfold jH at hF
   refine go ?_ ?_
   refine sP (sS (yF 0 [4,8,93] rfl q50 ⟨rfl,rfl,rfl,trivial⟩ rfl ?_))
   obtain rfl:=qN hF
   exact s7 (.inl rfl) Tryz.results232 (.tmp rfl (.tmp rfl .nil)) rfl rfl
  obtain⟨⟨x46',x52'⟩,hL,hRl53⟩:=a9 hF
  refine iT (fun k a w=>∃(x38:List Int),∃(x44:List Int),∃(x45:Int),bG K a0 a1 k x38 x44 x45=some (x46',x52')∧x38.length=x23.length∧hs _ [hO cI b25 x23.length 3 x23.length x38] [(0,.vc (pS cI a0)),(1,.vc (pS cI a1)),(8,.vc (pO b25 x23.length x23.length)),(9,.vc (pS cI x44)),(10,.vc (pI .i64 x45))] a w) K (fun a w ⟨_,_,_,hF,_,_⟩=>by cases hF) (fun k a w ⟨x38,x44,x45,hF,q42,hh⟩=>iS ?_ hh) (fun a w hh=>⟨x23,[],v28,hL,rfl,iH [0] hh⟩)
  rw [bG.eq_2] at hF
  refine go ?_ ?_
  refine aJ hF rfl (fun h55 hF=>?_) (fun h55 hF=>?_)
  ·refine go ?_ ?_
   refine aV ?_
   obtain⟨v56,h57,hF⟩:=a9 hF
   refine go ?_ ?_
   refine aIh (aH1 (C:=cI) (xs:=[.tmp 53]) (ps:=[.vc (pI .i64 v56)]) (zs:=[v56]) rfl tyS22 rfl ⟨⟨trivial,rfl⟩,trivial⟩ rfl) zU1 (fun b58 _=>?_)
   refine mF ?_
   obtain⟨x61,h62,hF⟩:=a9 hF
   refine o8 0 rfl tyS22 rfl rfl rfl rfl rfl h62 (fun b63 c64 H65 e66=>?_)
   cases e66
   refine aAZ 0 [56] rfl (f7 h62 rfl) zU1 rfl ?_
   obtain⟨v68,h69,hF⟩:=bD hF bN
   refine aR (bS rfl h69 rfl) ⟨k_B _,rfl,trivial⟩ ?_
   refine aN rfl tyZ42 (fun b70=>?_)
   refine oS (t_s 0 rfl rfl rfl tyA42.s) zU2 ?_
   refine bQ (aS (aM (aX (aR (oK (off:=0) (k:=1) rfl tyF42_1) zU1 ?_))))
   refine aR (gF 0 1 rfl rfl rfl rfl (.one tyO22)) zU1 ?_
   refine wX ?_
   refine bQ (aS (aM (aX (aR (bW (.inr rfl)) ⟨kL _ _,trivial⟩ ?_))))
   refine bQ (aS (aM (aX (aR (bW (.inr rfl)) ⟨kL _ _,trivial⟩ ?_))))
   refine bQ (aS (aM (uM (fun H E=>∃(x72:Int),fI K a1 x38 x45 v68 (bG K a0 a1 k) x72=some (x46',x52')∧H=[hO cI b25 x23.length 3 x23.length x38]∧E=[(0,.vc (pS cI a0)),(1,.vc (pS cI a1)),(8,.vc (pO b25 x23.length x23.length)),(9,.vc (pS cI v68.d)),(10,.vc (pI .i64 x45)),(12,.vc (pI .i64 0)),(13,.vc (pI .i64 x72))]) ?_ (fun Jj73=>?_))))
   ·rintro _ _ ⟨x72,hF,rfl,rfl⟩
    unfold fI at hF
    refine aM (aV (cJ (fun H E=>∃(x78:Int),gM K a1 x38 x45 v68 (bG K a0 a1 k) x78=some (x46',x52')∧H=[hO cI b25 x23.length 3 x23.length x38]∧E=[(0,.vc (pS cI a0)),(1,.vc (pS cI a1)),(8,.vc (pO b25 x23.length x23.length)),(9,.vc (pS cI v68.d)),(10,.vc (pI .i64 x45)),(12,.vc (pI .i64 x78))]) ?_ (fun Jj80=>?_)))
    ·rintro _ _ ⟨x78,hF,rfl,rfl⟩
     unfold gM at hF
     obtain⟨v81,h82,hF⟩:=bD hF pT
     obtain⟨v83,h84,hF⟩:=bD hF mY
     obtain⟨v85,h86,hF⟩:=bD hF bN
     refine go ?_ ?_
     refine aN rfl tyZ42 (fun b87=>?_)
     obtain⟨v88,h89,x90,h91,v93,h94,hF⟩:=bn3 hF
     refine go ?_ ?_
     exact aL (fun a w hh=>⟨x90,v85.d,v93,hF,(bI h91 q42),iH [1] hh⟩)
    obtain⟨x78',hL,hRl79⟩:=a9 hF
    refine iT (fun k a w=>∃(x76:Int),∃(x77:Int),bR K a1 v68 k x76 x77=some x78'∧hs _ [hO cI b25 x23.length 3 x23.length x38] [(0,.vc (pS cI a0)),(1,.vc (pS cI a1)),(8,.vc (pO b25 x23.length x23.length)),(9,.vc (pS cI v68.d)),(10,.vc (pI .i64 x45)),(12,.vc (pI .i64 x76)),(13,.vc (pI .i64 x77))] a w) K (fun a w ⟨_,_,hF,_⟩=>by cases hF) (fun k a w ⟨x76,x77,hF,hh⟩=>iS ?_ hh) (fun a w hh=>⟨0,x72,hL,iH [0] hh⟩)
    rw [bR.eq_2] at hF
    refine go ?_ ?_
    refine aJ hF rfl (fun h95 hF=>?_) (fun h95 hF=>?_)
    ·refine iO (aS (aV ?_))
     obtain⟨v96,h97,v98,h99,v100,h101,hF⟩:=bn3 hF
     obtain⟨v102,h103,hF⟩:=bD hF pT
     obtain⟨v104,h105,hF⟩:=bD hF gC
     refine go ?_ ?_
     refine aJ hF rfl (fun h106 hF=>?_) (fun h106 hF=>?_)
     ·refine go ?_ ?_
      exact aL (fun a w hh=>⟨v100,x77,hF,iH [0] hh⟩)
     obtain⟨v107,h108,hF⟩:=a9 hF
     refine go ?_ ?_
     exact aL (fun a w hh=>⟨x76,v107,hF,iH [0] hh⟩)
    refine dJ ?_
    obtain rfl:=qN hF
    exact qB Jj80 ⟨x76,hRl79,rfl,rfl⟩ [0]
   obtain⟨v109,h110,hF⟩:=bD hF gC
   refine go ?_ ?_
   refine aJ hF rfl (fun h111 hF=>?_) (fun h111 hF=>?_)
   ·refine aX (aR (bW (.inr rfl)) ⟨kL _ _,trivial⟩ ?_)
    refine bQ ?_
    exact qB Jj73 ⟨0,hF,rfl,rfl⟩ [1]
   refine iO ?_
   exact qB Jj73 ⟨999999999,hF,rfl,rfl⟩ [1]
  refine dJ ?_
  obtain⟨rfl,rfl⟩:=sm2 hF
  exact qB Jj54 ⟨x38,x44,hRl53,q42,rfl,rfl⟩ [0]
 refine go ?_ ?_
 refine uP rfl ?_
 obtain⟨x112,h113,hF⟩:=a9 hF
 refine go ?_ ?_
 refine uY (C:=cI) rfl tyS22 rfl tyZ3 rfl h113 (fun b114=>?_)
 refine go ?_ ?_
 refine aR (bW (.inr rfl)) ⟨eJ cI,trivial⟩ ?_
 obtain⟨v117,h118,hF⟩:=a9 hF
 refine go ?_ ?_
 refine aV (cJ (fun H E=>∃(x135:List Int),∃(x141:List Int),oD K x135 x141=some r∧x135.length=x112.length∧H=[hO cI b114 x112.length 3 x112.length x135]∧E=[(8,.vc (pO b114 x112.length x112.length)),(9,.vc (pS cI x141))]) ?_ (fun Jj143=>?_))
 ·rintro _ _ ⟨x135,x141,hF,q139,rfl,rfl⟩
  unfold oD at hF
  refine go ?_ ?_
  refine sP (sS (yF 0 [4,8,93] rfl q139 ⟨rfl,rfl,rfl,trivial⟩ rfl ?_))
  obtain rfl:=qN hF
  exact s7 (.inl rfl) Tryz.results232 (.tmp rfl (.tmp rfl .nil)) rfl rfl
 obtain⟨⟨x135',x141'⟩,hL,hRl142⟩:=a9 hF
 refine iT (fun k a w=>∃(x127:List Int),∃(x133:List Int),∃(x134:Int),cO K a0 a1 k x127 x133 x134=some (x135',x141')∧x127.length=x112.length∧hs _ [hO cI b114 x112.length 3 x112.length x127] [(0,.vc (pS cI a0)),(1,.vc (pS cI a1)),(8,.vc (pO b114 x112.length x112.length)),(9,.vc (pS cI x133)),(10,.vc (pI .i64 x134))] a w) K (fun a w ⟨_,_,_,hF,_,_⟩=>by cases hF) (fun k a w ⟨x127,x133,x134,hF,q131,hh⟩=>iS ?_ hh) (fun a w hh=>⟨x112,[],v117,hL,rfl,iH [0] hh⟩)
 rw [cO.eq_2] at hF
 refine go ?_ ?_
 refine aJ hF rfl (fun h144 hF=>?_) (fun h144 hF=>?_)
 ·refine go ?_ ?_
  refine aV ?_
  obtain⟨v145,h146,hF⟩:=a9 hF
  refine go ?_ ?_
  refine aIh (aH1 (C:=cI) (xs:=[.tmp 53]) (ps:=[.vc (pI .i64 v145)]) (zs:=[v145]) rfl tyS22 rfl ⟨⟨trivial,rfl⟩,trivial⟩ rfl) zU1 (fun b147 _=>?_)
  refine mF ?_
  obtain⟨x150,h151,hF⟩:=a9 hF
  refine o8 0 rfl tyS22 rfl rfl rfl rfl rfl h151 (fun b152 c153 H154 e155=>?_)
  cases e155
  refine aAZ 0 [56] rfl (f7 h151 rfl) zU1 rfl ?_
  obtain⟨v157,h158,hF⟩:=bD hF bN
  refine aR (bS rfl h158 rfl) ⟨k_B _,rfl,trivial⟩ ?_
  refine aN rfl tyZ42 (fun b159=>?_)
  refine oS (t_s 0 rfl rfl rfl tyA42.s) zU2 ?_
  refine bQ (aS (aM (aX (aR (oK (off:=0) (k:=1) rfl tyF42_1) zU1 ?_))))
  refine aR (gF 0 1 rfl rfl rfl rfl (.one tyO22)) zU1 ?_
  refine wX ?_
  refine bQ (aS (aM (aX (aR (bW (.inr rfl)) ⟨kL _ _,trivial⟩ ?_))))
  refine bQ (aS (aM (aX (aR (bW (.inr rfl)) ⟨kL _ _,trivial⟩ ?_))))
  refine bQ (aS (aM (uM (fun H E=>∃(x161:Int),iP K a1 x127 x134 v157 (cO K a0 a1 k) x161=some (x135',x141')∧H=[hO cI b114 x112.length 3 x112.length x127]∧E=[(0,.vc (pS cI a0)),(1,.vc (pS cI a1)),(8,.vc (pO b114 x112.length x112.length)),(9,.vc (pS cI v157.d)),(10,.vc (pI .i64 x134)),(12,.vc (pI .i64 0)),(13,.vc (pI .i64 x161))]) ?_ (fun Jj162=>?_))))
  ·rintro _ _ ⟨x161,hF,rfl,rfl⟩
   unfold iP at hF
   refine aM (aV (cJ (fun H E=>∃(x167:Int),lC K a1 x127 x134 v157 (cO K a0 a1 k) x167=some (x135',x141')∧H=[hO cI b114 x112.length 3 x112.length x127]∧E=[(0,.vc (pS cI a0)),(1,.vc (pS cI a1)),(8,.vc (pO b114 x112.length x112.length)),(9,.vc (pS cI v157.d)),(10,.vc (pI .i64 x134)),(12,.vc (pI .i64 x167))]) ?_ (fun Jj169=>?_)))
   ·rintro _ _ ⟨x167,hF,rfl,rfl⟩
    unfold lC at hF
    obtain⟨v170,h171,hF⟩:=bD hF pT
    obtain⟨v172,h173,hF⟩:=bD hF mY
    obtain⟨v174,h175,hF⟩:=bD hF bN
    refine go ?_ ?_
    refine aN rfl tyZ42 (fun b176=>?_)
    obtain⟨v177,h178,x179,h180,v182,h183,hF⟩:=bn3 hF
    refine go ?_ ?_
    exact aL (fun a w hh=>⟨x179,v174.d,v182,hF,(bI h180 q131),iH [1] hh⟩)
   obtain⟨x167',hL,hRl168⟩:=a9 hF
   refine iT (fun k a w=>∃(x165:Int),∃(x166:Int),eO K a1 v157 k x165 x166=some x167'∧hs _ [hO cI b114 x112.length 3 x112.length x127] [(0,.vc (pS cI a0)),(1,.vc (pS cI a1)),(8,.vc (pO b114 x112.length x112.length)),(9,.vc (pS cI v157.d)),(10,.vc (pI .i64 x134)),(12,.vc (pI .i64 x165)),(13,.vc (pI .i64 x166))] a w) K (fun a w ⟨_,_,hF,_⟩=>by cases hF) (fun k a w ⟨x165,x166,hF,hh⟩=>iS ?_ hh) (fun a w hh=>⟨0,x161,hL,iH [0] hh⟩)
   rw [eO.eq_2] at hF
   refine go ?_ ?_
   refine aJ hF rfl (fun h184 hF=>?_) (fun h184 hF=>?_)
   ·refine iO (aS (aV ?_))
    obtain⟨v185,h186,v187,h188,v189,h190,hF⟩:=bn3 hF
    obtain⟨v191,h192,hF⟩:=bD hF pT
    obtain⟨v193,h194,hF⟩:=bD hF gC
    refine go ?_ ?_
    refine aJ hF rfl (fun h195 hF=>?_) (fun h195 hF=>?_)
    ·refine go ?_ ?_
     exact aL (fun a w hh=>⟨v189,x166,hF,iH [0] hh⟩)
    obtain⟨v196,h197,hF⟩:=a9 hF
    refine go ?_ ?_
    exact aL (fun a w hh=>⟨x165,v196,hF,iH [0] hh⟩)
   refine dJ ?_
   obtain rfl:=qN hF
   exact qB Jj169 ⟨x165,hRl168,rfl,rfl⟩ [0]
  obtain⟨v198,h199,hF⟩:=bD hF gC
  refine go ?_ ?_
  refine aJ hF rfl (fun h200 hF=>?_) (fun h200 hF=>?_)
  ·refine aX (aR (bW (.inr rfl)) ⟨kL _ _,trivial⟩ ?_)
   refine bQ ?_
   exact qB Jj162 ⟨0,hF,rfl,rfl⟩ [1]
  refine iO ?_
  exact qB Jj162 ⟨999999999,hF,rfl,rfl⟩ [1]
 refine dJ ?_
 obtain⟨rfl,rfl⟩:=sm2 hF
 exact qB Jj143 ⟨x127,x133,hRl142,q131,rfl,rfl⟩ [0]
def jP (K:Nat) (a0:aH) (a1:aH):Option (aH×aH):=
 bif((a1.d.length:Int)==0) then(some ((⟨false,([]:List Int)⟩:aH),(⟨false,([]:List Int)⟩:aH))) else((hU K a0.d a1.d).bind fun v6=>(bA K (a0.neg != a1.neg) v6.1).bind fun v8=>(bA K false v6.2).bind fun v11=>bif a0.neg then(bif(decide (0<(v11.d.length:Int))) then((bA K (a0.neg != a1.neg) [1]).bind fun v18=>(pL K v8 v18).bind fun v20=>(fA K a1.d v11.d).bind fun v22=>(bA K false v22).bind fun v24=>some (v20,v24)) else(some (v8,v11))) else(some (v8,v11)))
theorem rG {K:Nat} {a0:aH} {a1:aH} {r:aH×aH} (hF:jP K a0 a1=some r):Ct Tryz.prog 179 [.va (aH.e a0),.va (aH.e a1)] (.t2 (.va (aH.e r.1)) (.va (aH.e r.2))):=by
 unfold jP at hF
 refine aI Tryz.func179 rfl (by kernel_rfl) Tryz.ntmps179 rfl (fun w0 M0=>?_)
 refine aM (aX (cT rfl rfl trivial (fun b1=>?_)))
 refine cT rfl rfl trivial (fun b2=>?_)
 refine aN rfl tyZ42 (fun b3=>?_)
 refine aN rfl tyZ42 (fun b4=>?_)
 refine go ?_ ?_
 refine aJ hF rfl (fun h5 hF=>?_) (fun h5 hF=>?_)
 ·refine aM (aX (aR (fC (is:=[]) (xs:=[]) (ps:=[]) rfl tyB42 rfl rfl trivial rfl) trivial ?_))
  refine aR (fC (is:=[]) (xs:=[]) (ps:=[]) rfl tyB42 rfl rfl trivial rfl) trivial ?_
  exact cA
 obtain⟨v6,h7,hF⟩:=bD hF aAb
 refine go ?_ ?_
 refine aR (aAs rfl Tryz.underlying4) zU2 ?_
 refine mF ?_
 obtain⟨v8,h9,hF⟩:=bD hF bN
 refine aR (bS rfl h9 rfl) zU2 ?_
 refine aN rfl tyZ42 (fun b10=>?_)
 obtain⟨v11,h12,hF⟩:=bD hF bN
 refine go ?_ ?_
 refine aN rfl tyZ42 (fun b13=>?_)
 refine go ?_ ?_
 refine dQ hF (fun h14 hF=>?_) (fun h14 hF=>?_)
 ·refine go ?_ ?_
  refine aJ hF rfl (fun h15 hF=>?_) (fun h15 hF=>?_)
  ·refine aM ?_
   obtain⟨v18,h19,hF⟩:=bD hF bN
   obtain⟨v20,h21,hF⟩:=bD hF aBM
   refine kG [0,0,2,0,8,30,0,126,255,511] 9 1 [.v (.va (aH.e v8)),.v (.vc (pP (some b1) 0)),.v (.vc (pB a0.neg)),.v (.vc (pP (some b2) 0)),.v (.vc (pB a1.neg)),.v (.vc (pB (a0.neg != a1.neg))),.v (.vc (pS cI [1])),.v (.va (aH.e v18)),.v (.va (aH.e v20))] bK ⟨d0 (gF 1 2 rfl rfl rfl rfl (.agg tyA42)) zU1,d0 (oK (off:=0) (k:=0) rfl tyF42_0) zU1,d0 (gF 5 1 rfl rfl rfl rfl (.one tyO4)) zU1,d0 (oK (off:=0) (k:=0) rfl tyF42_0) zU1,d0 (gF 4 1 rfl rfl rfl rfl (.one tyO4)) zU1,⟨rfl,.run (L:=[0]) ⟨fun G16 A=>aAs rfl Tryz.underlying4,trivial⟩ (fun G16=>zU2)⟩,d0 (sM (C:=cI) (xs:=[.const (.int .i64 (1))]) (ps:=[.vc (pI .i64 1)]) (zs:=[1]) rfl tyS22 rfl ⟨⟨trivial,rfl⟩,trivial⟩ rfl) ⟨kL _ _,trivial⟩,d0 (bS rfl h19 rfl) zU2,d0 (bS rfl h21 rfl) zU2,trivial⟩ (fun bs17 G16=>?_)
   obtain⟨v22,h23,hF⟩:=bD hF mY
   obtain⟨v24,h25,hF⟩:=bD hF bN
   refine go ?_ ?_
   refine sI (HsM [(0,fun G26=>[⟨some b13,1,42,2,1,(aH.e v24)⟩,⟨some b10,1,42,2,1,(aH.e v20)⟩,⟨some b4,1,42,2,1,([pB false]++[pS cI ([]:List Int)])⟩,⟨some b3,1,42,2,1,([pB false]++[pS cI ([]:List Int)])⟩,⟨some b2,1,42,2,1,(aH.e a1)⟩,⟨some b1,1,42,2,1,(aH.e a0)⟩]),(1,fun G26=>[⟨some b13,1,42,2,1,(aH.e v24)⟩,⟨some b10,1,42,2,1,(aH.e v20)⟩,⟨some b4,1,42,2,1,([pB false]++[pS cI ([]:List Int)])⟩,⟨some b3,1,42,2,1,(aH.e v20)⟩,⟨some b2,1,42,2,1,(aH.e a1)⟩,⟨some b1,1,42,2,1,(aH.e a0)⟩])]) [2] [0,0,1,7] 3 1 [.v (.va (aH.e v20)),.v (.va (aH.e v24)),.g (fun _ _=>.any)] bK ⟨d1 0 (gF 1 2 rfl rfl rfl rfl (.agg tyA42)) zU1,⟨rfl,.run (L:=[0,1]) ⟨fun G26 A=>gF 0 2 rfl rfl rfl rfl (.agg tyA42),fun G26 A=>gF 0 2 rfl rfl rfl rfl (.agg tyA42),trivial⟩ (fun G26=>zU1)⟩,⟨rfl,.hvy [0] ⟨fun G26 A=>aCx (t_s 3 rfl rfl rfl tyA42.s),trivial⟩ (fun G26=>zU2)⟩,trivial⟩ (fun bs27 G26=>?_)
   exact cA
  refine go ?_ ?_
  refine sI (HsM [(0,fun G28=>[⟨some b13,1,42,2,1,(aH.e v11)⟩,⟨some b10,1,42,2,1,(aH.e v8)⟩,⟨some b4,1,42,2,1,([pB false]++[pS cI ([]:List Int)])⟩,⟨some b3,1,42,2,1,([pB false]++[pS cI ([]:List Int)])⟩,⟨some b2,1,42,2,1,(aH.e a1)⟩,⟨some b1,1,42,2,1,(aH.e a0)⟩]),(1,fun G28=>[⟨some b13,1,42,2,1,(aH.e v11)⟩,⟨some b10,1,42,2,1,(aH.e v8)⟩,⟨some b4,1,42,2,1,([pB false]++[pS cI ([]:List Int)])⟩,⟨some b3,1,42,2,1,(aH.e v8)⟩,⟨some b2,1,42,2,1,(aH.e a1)⟩,⟨some b1,1,42,2,1,(aH.e a0)⟩])]) [2] [0,0,1,7] 3 1 [.v (.va (aH.e v8)),.v (.va (aH.e v11)),.g (fun _ _=>.any)] bK ⟨d1 0 (gF 1 2 rfl rfl rfl rfl (.agg tyA42)) zU1,⟨rfl,.run (L:=[0,1]) ⟨fun G28 A=>gF 0 2 rfl rfl rfl rfl (.agg tyA42),fun G28 A=>gF 0 2 rfl rfl rfl rfl (.agg tyA42),trivial⟩ (fun G28=>zU1)⟩,⟨rfl,.hvy [0] ⟨fun G28 A=>aCx (t_s 3 rfl rfl rfl tyA42.s),trivial⟩ (fun G28=>zU2)⟩,trivial⟩ (fun bs29 G28=>?_)
  exact cA
 refine go ?_ ?_
 refine uP rfl ?_
 refine go ?_ ?_
 refine sI (HsM [(0,fun G30=>[⟨some b13,1,42,2,1,(aH.e v11)⟩,⟨some b10,1,42,2,1,(aH.e v8)⟩,⟨some b4,1,42,2,1,([pB false]++[pS cI ([]:List Int)])⟩,⟨some b3,1,42,2,1,([pB false]++[pS cI ([]:List Int)])⟩,⟨some b2,1,42,2,1,(aH.e a1)⟩,⟨some b1,1,42,2,1,(aH.e a0)⟩]),(1,fun G30=>[⟨some b13,1,42,2,1,(aH.e v11)⟩,⟨some b10,1,42,2,1,(aH.e v8)⟩,⟨some b4,1,42,2,1,([pB false]++[pS cI ([]:List Int)])⟩,⟨some b3,1,42,2,1,(aH.e v8)⟩,⟨some b2,1,42,2,1,(aH.e a1)⟩,⟨some b1,1,42,2,1,(aH.e a0)⟩])]) [2] [0,0,1,7] 3 1 [.v (.va (aH.e v8)),.v (.va (aH.e v11)),.g (fun _ _=>.any)] bK ⟨d1 0 (gF 1 2 rfl rfl rfl rfl (.agg tyA42)) zU1,⟨rfl,.run (L:=[0,1]) ⟨fun G30 A=>gF 0 2 rfl rfl rfl rfl (.agg tyA42),fun G30 A=>gF 0 2 rfl rfl rfl rfl (.agg tyA42),trivial⟩ (fun G30=>zU1)⟩,⟨rfl,.hvy [0] ⟨fun G30 A=>aCx (t_s 3 rfl rfl rfl tyA42.s),trivial⟩ (fun G30=>zU2)⟩,trivial⟩ (fun bs31 G30=>?_)
 exact cA
def rZ (K:Nat) (x14:aH):Option aH:=
 some x14
def oQ (K:Nat) (x28:Int):Option (LR aH aH):=
 (gV K x28).bind fun v31=>some (.ret v31)
def fY (K:Nat):Nat→Int→Int→Option Int
 |0,_,_=>none
 |k+1,x26,x27=>bif(decide (0<x27)) then((wH x26 x27).bind fun v34=>fY K k x27 v34) else(some x26)
def eU (K:Nat):Nat→aH→aH→Option (LR aH aH)
 |0,_,_=>none
 |k+1,x12,x13=>bif(decide (0<(x12.d.length:Int))) then(bif(decide ((x13.d.length:Int)≤2)) then(bif(decide ((x12.d.length:Int)≤2)) then((fR x13.d).bind fun v20=>(fR x12.d).bind fun v22=>(fY K K v20 v22).bind fun x28=>oQ K x28) else((jP K x13 x12).bind fun v36=>eU K k v36.2 x12)) else((jP K x13 x12).bind fun v40=>eU K k v40.2 x12)) else(some (.go x13))
def o6 (K:Nat) (a0:aH) (a1:aH):Option aH:=
 (bA K false a0.d).bind fun v4=>(bA K false a1.d).bind fun v7=>(eU K K v7 v4).bind fun o=>match o with| .ret r=>some r| .go x14=>rZ K x14
theorem aBS {K:Nat} {a0:aH} {a1:aH} {r:aH} (hF:o6 K a0 a1=some r):Ct Tryz.prog 170 [.va (aH.e a0),.va (aH.e a1)] (.va (aH.e r)):=by
 unfold o6 at hF
 refine aI Tryz.func170 rfl (by kernel_rfl) Tryz.ntmps170 rfl (fun w0 M0=>?_)
 refine aM (aX (cT rfl rfl trivial (fun b1=>?_)))
 refine cT rfl rfl trivial (fun b2=>?_)
 refine aN rfl tyZ42 (fun b3=>?_)
 obtain⟨v4,h5,hF⟩:=bD hF bN
 refine go ?_ ?_
 refine aN rfl tyZ42 (fun b6=>?_)
 obtain⟨v7,h8,hF⟩:=bD hF bN
 refine go ?_ ?_
 refine aN rfl tyZ42 (fun b9=>?_)
 refine go ?_ ?_
 refine aV (cJ (fun H E=>∃(x14:aH),rZ K x14=some r∧H=[⟨some b6,1,42,2,1,(aH.e x14)⟩,⟨some b3,1,42,2,1,([pB false]++[pS cI ([]:List Int)])⟩]∧E=[(4,.vc (pP (some b3) 0)),(5,.vc (pP (some b6) 0))]) ?_ (fun Jj16=>?_))
 ·rintro _ _ ⟨x14,hF,rfl,rfl⟩
  unfold rZ at hF
  exact cA
 obtain⟨ol15,hL,hRl15⟩:=a9 hF
 refine iT (fun k a w=>∃(x12:aH),∃(x13:aH),eU K k x12 x13=some ol15∧hs _ [⟨some b9,1,42,2,1,(aH.e x12)⟩,⟨some b6,1,42,2,1,(aH.e x13)⟩,⟨some b3,1,42,2,1,([pB false]++[pS cI ([]:List Int)])⟩] [(4,.vc (pP (some b3) 0)),(5,.vc (pP (some b6) 0)),(6,.vc (pP (some b9) 0))] a w) K (fun a w ⟨_,_,hF,_⟩=>by cases hF) (fun k a w ⟨x12,x13,hF,hh⟩=>iS ?_ hh) (fun a w hh=>⟨v7,v4,hL,iH [0,1,2] hh⟩)
 rw [eU.eq_2] at hF
 refine go ?_ ?_
 refine aJ hF rfl (fun h17 hF=>?_) (fun h17 hF=>?_)
 ·refine iO (aS (aV (go ?_ ?_)))
  refine dQ hF (fun h18 hF=>?_) (fun h18 hF=>?_)
  ·refine go ?_ ?_
   refine aJ hF rfl (fun h19 hF=>?_) (fun h19 hF=>?_)
   ·obtain⟨v20,h21,hF⟩:=bD hF lO
    obtain⟨v22,h23,hF⟩:=bD hF lO
    refine go ?_ ?_
    refine aV (cJ (fun H E=>∃(x28:Int),oQ K x28=some ol15∧H=[⟨some b3,1,42,2,1,([pB false]++[pS cI ([]:List Int)])⟩]∧E=[(4,.vc (pP (some b3) 0)),(7,.vc (pI .i64 x28))]) ?_ (fun Jj30=>?_))
    ·rintro _ _ ⟨x28,hF,rfl,rfl⟩
     unfold oQ at hF
     obtain⟨v31,h32,hF⟩:=bD hF nD
     exact cA
    obtain⟨x28',hL,hRl29⟩:=a9 hF
    refine iT (fun k a w=>∃(x26:Int),∃(x27:Int),fY K k x26 x27=some x28'∧hs _ [⟨some b3,1,42,2,1,([pB false]++[pS cI ([]:List Int)])⟩] [(4,.vc (pP (some b3) 0)),(7,.vc (pI .i64 x26)),(8,.vc (pI .i64 x27))] a w) K (fun a w ⟨_,_,hF,_⟩=>by cases hF) (fun k a w ⟨x26,x27,hF,hh⟩=>iS ?_ hh) (fun a w hh=>⟨v20,v22,hL,iH [2] hh⟩)
    rw [fY.eq_2] at hF
    refine go ?_ ?_
    refine aJ hF rfl (fun h33 hF=>?_) (fun h33 hF=>?_)
    ·refine iO (aS (aV ?_))
     obtain⟨v34,h35,hF⟩:=a9 hF
     refine go ?_ ?_
     exact aL (fun a w hh=>⟨x27,v34,hF,iH [0] hh⟩)
    refine dJ ?_
    obtain rfl:=qN hF
    exact qB Jj30 ⟨x26,hRl29,rfl,rfl⟩ [0]
   obtain⟨v36,h37,hF⟩:=bD hF rG
   refine go ?_ ?_
   refine aN rfl tyZ42 (fun b38=>?_)
   refine aN rfl tyZ42 (fun b39=>?_)
   refine go ?_ ?_
   exact aL (fun a w hh=>⟨v36.2,x12,hF,iH [2,3,4] hh⟩)
  refine go ?_ ?_
  refine uP rfl ?_
  obtain⟨v40,h41,hF⟩:=bD hF rG
  refine go ?_ ?_
  refine aN rfl tyZ42 (fun b42=>?_)
  refine aN rfl tyZ42 (fun b43=>?_)
  refine go ?_ ?_
  exact aL (fun a w hh=>⟨v40.2,x12,hF,iH [2,3,4] hh⟩)
 refine dJ ?_
 obtain rfl:=qN hF
 exact qB Jj16 ⟨x13,hRl15,rfl,rfl⟩ [1,2]
def nB (K:Nat) (a0:aH):Option aH:=
 (bA K (!a0.neg) a0.d).bind fun v3=>some v3
theorem xY {K:Nat} {a0:aH} {r:aH} (hF:nB K a0=some r):Ct Tryz.prog 180 [.va (aH.e a0)] (.va (aH.e r)):=by
 unfold nB at hF
 refine aI Tryz.func180 rfl (by kernel_rfl) Tryz.ntmps180 rfl (fun w0 M0=>?_)
 refine aM (aX (cT rfl rfl trivial (fun b1=>?_)))
 refine aN rfl tyZ42 (fun b2=>?_)
 obtain⟨v3,h4,hF⟩:=bD hF bN
 exact cA
def lD (K:Nat) (a0:aH) (a1:aH) (x11:aH) (x12:aH):Option (aH×aH):=
 bif(a0.neg != a1.neg) then(some ((⟨(decide (0<(x12.d.length:Int))),x12.d⟩:aH),x11)) else(some ((⟨false,x12.d⟩:aH),x11))
def rO (K:Nat) (a0:aH) (a1:aH):Option (aH×aH):=
 bif((a1.d.length:Int)==0) then(some ((⟨false,([]:List Int)⟩:aH),(⟨false,([]:List Int)⟩:aH))) else((mK K a0.d a1.d).bind fun v6=>bif a0.neg then(bif(decide (0<(v6.2.d.length:Int))) then((oH K v6.1.d [1]).bind fun v21=>(eG K false v21).bind fun v23=>(lQ K a1.d v6.2.d).bind fun v25=>(eG K false v25).bind fun v27=>lD K a0 a1 v27 v23) else(lD K a0 a1 v6.2 v6.1)) else(lD K a0 a1 v6.2 v6.1))
theorem aAD {K:Nat} {a0:aH} {a1:aH} {r:aH×aH} (hF:rO K a0 a1=some r):Ct Tryz.prog 184 [.va (aH.e a0),.va (aH.e a1)] (.t2 (.va (aH.e r.1)) (.va (aH.e r.2))):=by
 unfold rO at hF
 refine aI Tryz.func184 rfl (by kernel_rfl) Tryz.ntmps184 rfl (fun w0 M0=>?_)
 refine aM (aX (cT rfl rfl trivial (fun b1=>?_)))
 refine cT rfl rfl trivial (fun b2=>?_)
 refine aN rfl tyZ42 (fun b3=>?_)
 refine aN rfl tyZ42 (fun b4=>?_)
 refine go ?_ ?_
 refine aJ hF rfl (fun h5 hF=>?_) (fun h5 hF=>?_)
 ·refine aM (aX (aR (fC (is:=[]) (xs:=[]) (ps:=[]) rfl tyB42 rfl rfl trivial rfl) trivial ?_))
  refine aR (fC (is:=[]) (xs:=[]) (ps:=[]) rfl tyB42 rfl rfl trivial rfl) trivial ?_
  exact cA
 obtain⟨v6,h7,hF⟩:=bD hF vH
 refine go ?_ ?_
 refine aN rfl tyZ42 (fun b8=>?_)
 refine aN rfl tyZ42 (fun b9=>?_)
 refine oS (t_s 1 rfl rfl rfl tyA42.s) zU2 ?_
 refine oS (t_s 0 rfl rfl rfl tyA42.s) zU2 ?_
 refine bQ (aS (aM (uM (fun H E=>∃(x11:aH),∃(x12:aH),lD K a0 a1 x11 x12=some r∧H=[⟨some b9,1,42,2,1,(aH.e x11)⟩,⟨some b8,1,42,2,1,(aH.e x12)⟩,⟨some b4,1,42,2,1,([pB false]++[pS cI ([]:List Int)])⟩,⟨some b3,1,42,2,1,([pB false]++[pS cI ([]:List Int)])⟩,⟨some b2,1,42,2,1,(aH.e a1)⟩,⟨some b1,1,42,2,1,(aH.e a0)⟩]∧E=[(2,.vc (pP (some b1) 0)),(3,.vc (pP (some b2) 0)),(4,.vc (pP (some b3) 0)),(5,.vc (pP (some b4) 0)),(6,.vc (pP (some b8) 0)),(7,.vc (pP (some b9) 0))]) ?_ (fun Jj13=>?_))))
 ·rintro _ _ ⟨x11,x12,hF,rfl,rfl⟩
  unfold lD at hF
  refine go ?_ ?_
  refine aR (aAs rfl Tryz.underlying4) zU2 ?_
  refine mF ?_
  refine dQ hF (fun h14 hF=>?_) (fun h14 hF=>?_)
  ·refine go ?_ ?_
   refine sI (HsM [(0,fun G15=>[⟨some b9,1,42,2,1,(aH.e x11)⟩,⟨some b8,1,42,2,1,([pB (decide (0<(x12.d.length:Int)))]++[pS cI x12.d])⟩,⟨some b4,1,42,2,1,([pB false]++[pS cI ([]:List Int)])⟩,⟨some b3,1,42,2,1,([pB false]++[pS cI ([]:List Int)])⟩,⟨some b2,1,42,2,1,(aH.e a1)⟩,⟨some b1,1,42,2,1,(aH.e a0)⟩]),(1,fun G15=>[⟨some b9,1,42,2,1,(aH.e x11)⟩,⟨some b8,1,42,2,1,([pB (decide (0<(x12.d.length:Int)))]++[pS cI x12.d])⟩,⟨some b4,1,42,2,1,([pB false]++[pS cI ([]:List Int)])⟩,⟨some b3,1,42,2,1,([pB (decide (0<(x12.d.length:Int)))]++[pS cI x12.d])⟩,⟨some b2,1,42,2,1,(aH.e a1)⟩,⟨some b1,1,42,2,1,(aH.e a0)⟩])]) [2] [0,0,1,7] 3 1 [.v (.va ([pB (decide (0<(x12.d.length:Int)))]++[pS cI x12.d])),.v (.va (aH.e x11)),.g (fun _ _=>.any)] bK ⟨d1 0 (gF 1 2 rfl rfl rfl rfl (.agg tyA42)) zU1,⟨rfl,.run (L:=[0,1]) ⟨fun G15 A=>gF 0 2 rfl rfl rfl rfl (.agg tyA42),fun G15 A=>gF 0 2 rfl rfl rfl rfl (.agg tyA42),trivial⟩ (fun G15=>zU1)⟩,⟨rfl,.hvy [0] ⟨fun G15 A=>aCx (t_s 3 rfl rfl rfl tyA42.s),trivial⟩ (fun G15=>zU2)⟩,trivial⟩ (fun bs16 G15=>?_)
   exact cA
  refine go ?_ ?_
  refine sI (HsM [(0,fun G17=>[⟨some b9,1,42,2,1,(aH.e x11)⟩,⟨some b8,1,42,2,1,([pB false]++[pS cI x12.d])⟩,⟨some b4,1,42,2,1,([pB false]++[pS cI ([]:List Int)])⟩,⟨some b3,1,42,2,1,([pB false]++[pS cI ([]:List Int)])⟩,⟨some b2,1,42,2,1,(aH.e a1)⟩,⟨some b1,1,42,2,1,(aH.e a0)⟩]),(1,fun G17=>[⟨some b9,1,42,2,1,(aH.e x11)⟩,⟨some b8,1,42,2,1,([pB false]++[pS cI x12.d])⟩,⟨some b4,1,42,2,1,([pB false]++[pS cI ([]:List Int)])⟩,⟨some b3,1,42,2,1,([pB false]++[pS cI x12.d])⟩,⟨some b2,1,42,2,1,(aH.e a1)⟩,⟨some b1,1,42,2,1,(aH.e a0)⟩])]) [2] [0,0,1,7] 3 1 [.v (.va ([pB false]++[pS cI x12.d])),.v (.va (aH.e x11)),.g (fun _ _=>.any)] bK ⟨d1 0 (gF 1 2 rfl rfl rfl rfl (.agg tyA42)) zU1,⟨rfl,.run (L:=[0,1]) ⟨fun G17 A=>gF 0 2 rfl rfl rfl rfl (.agg tyA42),fun G17 A=>gF 0 2 rfl rfl rfl rfl (.agg tyA42),trivial⟩ (fun G17=>zU1)⟩,⟨rfl,.hvy [0] ⟨fun G17 A=>aCx (t_s 3 rfl rfl rfl tyA42.s),trivial⟩ (fun G17=>zU2)⟩,trivial⟩ (fun bs18 G17=>?_)
  exact cA
 refine go ?_ ?_
 refine dQ hF (fun h19 hF=>?_) (fun h19 hF=>?_)
 ·refine go ?_ ?_
  refine aJ hF rfl (fun h20 hF=>?_) (fun h20 hF=>?_)
  ·refine go ?_ ?_
   refine aR (sM (C:=cI) (xs:=[.const (.int .i64 (1))]) (ps:=[.vc (pI .i64 1)]) (zs:=[1]) rfl tyS22 rfl ⟨⟨trivial,rfl⟩,trivial⟩ rfl) ⟨kL _ _,trivial⟩ ?_
   obtain⟨v21,h22,hF⟩:=bD hF aAq
   refine aR (bS rfl h22 rfl) zU2 ?_
   obtain⟨v23,h24,hF⟩:=bD hF gU
   refine aR (bS rfl h24 rfl) ⟨k_B _,rfl,trivial⟩ ?_
   refine oS (t_s 1 rfl rfl rfl tyA42.s) zU2 ?_
   refine bQ (aS (aX (aR (oK (off:=0) (k:=1) rfl tyF42_1) zU1 ?_)))
   refine aR (gF 4 1 rfl rfl rfl rfl (.one tyO22)) zU1 ?_
   refine aR (oK (off:=0) (k:=1) rfl tyF42_1) zU1 ?_
   refine aR (gF 0 1 rfl rfl rfl rfl (.one tyO22)) zU1 ?_
   obtain⟨v25,h26,hF⟩:=bD hF wJ
   refine aR (bS rfl h26 rfl) zU2 ?_
   obtain⟨v27,h28,hF⟩:=bD hF gU
   refine aR (bS rfl h28 rfl) ⟨k_B _,rfl,trivial⟩ ?_
   refine oS (t_s 0 rfl rfl rfl tyA42.s) zU2 ?_
   refine bQ ?_
   exact qB Jj13 ⟨v27,v23,hF,rfl,rfl⟩ [0,1,2,3,4,5]
  refine iO ?_
  exact qB Jj13 ⟨v6.2,v6.1,hF,rfl,rfl⟩ [0,1,2,3,4,5]
 refine go ?_ ?_
 refine uP rfl ?_
 refine iO ?_
 exact qB Jj13 ⟨v6.2,v6.1,hF,rfl,rfl⟩ [0,1,2,3,4,5]
def pX (a0:aH):Option aH:=
 bif(!a0.neg) then(some (⟨(decide (0<(a0.d.length:Int))),a0.d⟩:aH)) else(some (⟨false,a0.d⟩:aH))
theorem xS {a0:aH} {r:aH} (hF:pX a0=some r):Ct Tryz.prog 186 [.va (aH.e a0)] (.va (aH.e r)):=by
 unfold pX at hF
 refine aI Tryz.func186 rfl (by kernel_rfl) Tryz.ntmps186 rfl (fun w0 M0=>?_)
 refine aM (aX (cT rfl rfl trivial (fun b1=>?_)))
 refine aN rfl tyZ42 (fun b2=>?_)
 refine go ?_ ?_
 refine dQ hF (fun h3 hF=>?_) (fun h3 hF=>?_)
 ·exact cA
 exact cA
def lJ (a0:Int):Option aH:=
 bif(decide (a0<0)) then((eS (decide (a0<0)) (wu (-(IntKind.u64.wrap a0)))).bind fun v3=>some v3) else((eS (decide (a0<0)) (IntKind.u64.wrap a0)).bind fun v5=>some v5)
theorem pY {a0:Int} {r:aH} (hF:lJ a0=some r):Ct Tryz.prog 196 [.vc (pI .i64 a0)] (.va (aH.e r)):=by
 unfold lJ at hF
 refine aI Tryz.func196 rfl (by kernel_rfl) Tryz.ntmps196 rfl (fun w0 M0=>?_)
 refine aM (aX (aN rfl tyZ42 (fun b1=>?_)))
 refine go ?_ ?_
 refine aR (aCK rfl ⟨_,Tryz.underlying3⟩ Tryz.underlying213) zU1 ?_
 refine go ?_ ?_
 refine aJ hF rfl (fun h2 hF=>?_) (fun h2 hF=>?_)
 ·refine aX (mF ?_)
  refine aR (aQP rfl) zU1 ?_
  obtain⟨v3,h4,hF⟩:=bD hF jN
  exact cA
 obtain⟨v5,h6,hF⟩:=bD hF jN
 exact cA
def lA (K:Nat) (a0:aH) (a1:aH):Option Int:=
 bif(a0.neg != a1.neg) then(bif a0.neg then(some (-1)) else(bif(a0.neg != a1.neg) then(some 1) else(bif a0.neg then((fK K a1.d a0.d).bind fun v7=>some v7) else((fK K a0.d a1.d).bind fun v9=>some v9)))) else(bif(a0.neg != a1.neg) then(some 1) else(bif a0.neg then((fK K a1.d a0.d).bind fun v13=>some v13) else((fK K a0.d a1.d).bind fun v15=>some v15)))
theorem uF {K:Nat} {a0:aH} {a1:aH} {r:Int} (hF:lA K a0 a1=some r):Ct Tryz.prog 216 [.va (aH.e a0),.va (aH.e a1)] (.vc (pI .i64 r)):=by
 unfold lA at hF
 refine aI Tryz.func216 rfl (by kernel_rfl) Tryz.ntmps216 rfl (fun w0 M0=>?_)
 refine aM (aX (cT rfl rfl trivial (fun b1=>?_)))
 refine cT rfl rfl trivial (fun b2=>?_)
 refine go ?_ ?_
 refine aV (go ?_ ?_)
 refine aR (aAs rfl Tryz.underlying4) zU2 ?_
 refine mF ?_
 refine dQ hF (fun h3 hF=>?_) (fun h3 hF=>?_)
 ·refine go ?_ ?_
  refine aJ hF rfl (fun h4 hF=>?_) (fun h4 hF=>?_)
  ·exact cA
  refine go ?_ ?_
  refine aR (aAs rfl Tryz.underlying4) zU2 ?_
  refine go ?_ ?_
  refine aJ hF rfl (fun h5 hF=>?_) (fun h5 hF=>?_)
  ·exact cA
  refine go ?_ ?_
  refine aJ hF rfl (fun h6 hF=>?_) (fun h6 hF=>?_)
  ·obtain⟨v7,h8,hF⟩:=bD hF mL
   exact cA
  obtain⟨v9,h10,hF⟩:=bD hF mL
  exact cA
 refine go ?_ ?_
 refine uP rfl ?_
 refine go ?_ ?_
 refine aR (aAs rfl Tryz.underlying4) zU2 ?_
 refine go ?_ ?_
 refine aJ hF rfl (fun h11 hF=>?_) (fun h11 hF=>?_)
 ·exact cA
 refine go ?_ ?_
 refine aJ hF rfl (fun h12 hF=>?_) (fun h12 hF=>?_)
 ·obtain⟨v13,h14,hF⟩:=bD hF mL
  exact cA
 obtain⟨v15,h16,hF⟩:=bD hF mL
 exact cA
end Go.Proofs.YtcjdedkdoagifaaGreat
set_option linter.unusedVariables false
set_option maxRecDepth 100000
namespace Go.Proofs.YtcjdedkdoagifaaGreat
end Go.Proofs.YtcjdedkdoagifaaGreat
set_option linter.unusedVariables false
namespace Go.Proofs.YtcjdedkdoagifaaGreat
theorem zT {n m:Nat} {x:Int} (h:x=n) (hn:n≤9000000000000000000):aP x=some (n:Int):=by
 subst h;exact kM ⟨by omega,by omega⟩
theorem a8 {k n:Nat} (h:n<k):∃k',k=k'+1∧n≤k':=⟨k-1,by omega,by omega⟩
theorem aAK {u:List Int} {i:Nat} {v:Int} (h:Dr u 0 i) (hl:i<u.length) (h0:0≤v) (h1:v<1000000000):Dr (u.set i v) 0 (i+1):=fun t ht=>by
 by_cases e:t=i
 ·subst e;rw [Nat.zero_add,d8 hl];exact⟨h0,h1⟩
 ·rw [eY (by omega)];exact h t (by omega)
def mkG (neg:Bool) (n:Nat):aH:=if n=0 then⟨false,[]⟩ else⟨neg,cD n⟩
theorem mQ (n:Nat):mkG false n=Z n:=by
 unfold mkG Z
 by_cases h:n=0
 ·subst h;simp [yI]
 ·rw [if_neg h];simp
theorem aJQ (n:Nat):mkG true n=Z (-n):=by
 unfold mkG Z
 by_cases h:n=0
 ·subst h;simp [yI]
 ·rw [if_neg h];simp;omega
theorem s6 (b:Bool) (n:Nat):mkG b n=Z (if b then -(n:Int) else n):=by
 cases b
 ·simpa using mQ n
 ·simpa using aJQ n
theorem aO3 (u:List Int):∀(n:Nat),n≤u.length→n≤9000000000000→∃m:Nat,m≤n∧(∀i,m≤i→i<n→u.getD i 0=0)∧(m=0∨u.getD (m-1) 0≠0)∧∀K k,n<k→lP K u k n=some (m:Int)
 |0,_,_=>⟨0,Nat.le_refl _,fun i _ h=>by omega,.inl rfl,fun K k hk=>by
   obtain⟨k',rfl,_⟩:=a8 hk
   simp [lP]⟩
 |n+1,h,hL=>by
  have e1:aP (((n+1:Nat):Int)-1)=some (n:Int):=zT (m:=0) (by omega) (by omega)
  have e2:decide (0<((n+1:Nat):Int))=true:=decide_eq_true (by omega)
  have e3:=cW (xs:=u) (i:=n) (by omega)
  by_cases h0:u.getD n 0=0
  ·obtain⟨m,h1,h2,h3,h4⟩:=aO3 u n (by omega) (by omega)
   refine⟨m,by omega,fun i a b=>?_,h3,fun K k hk=>?_⟩
   ·by_cases e:i=n
    ·subst e;exact h0
    ·exact h2 i a (by omega)
   ·obtain⟨k',rfl,hk'⟩:=a8 hk
    simp only [lP,e1,e2,e3,h0,bT,oB,beq_self_eq_true]
    exact h4 K k' (by omega)
  ·refine⟨n+1,by omega,fun i a b=>by omega,.inr (by simpa using h0),fun K k hk=>?_⟩
   obtain⟨k',rfl,hk'⟩:=a8 hk
   have e4:(u.getD n 0==0)=false:=by simpa using h0
   simp only [lP,e1,e2,e3,e4,bT,bO,oB]
theorem aRA {u:List Int} (hd:kZ u) {m:Nat} (h1:m≤u.length) (h2:∀i,m≤i→i<u.length→u.getD i 0=0) (h3:m=0∨u.getD (m-1) 0≠0):u.take m=cD (vD u).toNat∧(m=0↔vD u=0):=by
 have hg:∀i,i<m→(u.take m).getD i 0=u.getD i 0:=fun i hi=>by
  simp only [List.getD_eq_getElem?_getD,List.getElem?_take];rw [if_pos hi]
 have hl:(u.take m).length=m:=by simp;omega
 have hok:kZ (u.take m):=fun i=>by
  rcases Nat.lt_or_ge i m with h|h
  ·rw [hg i h];exact hd i
  ·rw [t0 (by omega)];omega
 have hv:vD (u.take m)=vD u:=by
  unfold vD
  rw [hl]
  obtain⟨c,hc⟩:=Nat.exists_eq_add_of_le h1
  rw [hc,vW,aDq (j:=0+m) (fun i hi=>h2 _ (by omega) (by omega))]
  rw [aCb (v:=u) (k:=0) (fun i hi=>by rw [Nat.zero_add];exact hg i hi)]
  simp
 have ht:Top (u.take m):=by
  rcases h3 with h|h
  ·subst h;exact .inl (by simp)
  ·by_cases h0:m=0
   ·subst h0;exact .inl (by simp)
   ·refine .inr ?_
    rw [hl,hg _ (by omega)];exact h
 have:=aNK hok ht
 rw [hv] at this
 refine⟨this.symm,fun h=>?_,fun h=>?_⟩
 ·subst h
  rw [←hv];simp;rfl
 ·rw [h] at this
  simp only [Int.toNat_zero,yI] at this
  have:(u.take m).length=0:=by rw [←this];rfl
  omega
theorem wU (neg:Bool) {u:List Int} (hd:kZ u) (hL:u.length≤9000000000000):Ev (fun K=>eG K neg u) (mkG neg (vD u).toNat):=by
 obtain⟨m,h1,h2,h3,h4⟩:=aO3 u u.length (Nat.le_refl _) hL
 obtain⟨h5,h6⟩:=aRA hd h1 h2 h3
 have hn:=hd.nonneg
 refine⟨u.length+1,fun K hK=>?_⟩
 simp only [eG,h4 K K (by omega),oB,uA]
 unfold mkG
 by_cases h0:m=0
 ·have e:((m:Int)==0)=true:=by simp [h0]
  rw [e,bT,if_pos (by have:=h6.1 h0;omega)]
 ·have e:((m:Int)==0)=false:=by simp [h0]
  rw [e,bO,aGj h1,oB,if_neg (by intro h;exact h0 (h6.2 (by omega))),h5]
theorem aA7 {out a b:List Int} {i:Nat} {c c' v:Int} (hl:i<out.length) (hI:W out 0 i+c*PB i=W a 0 i+W b 0 i) (hv:v+1000000000*c'=a.getD i 0+b.getD i 0+c):
  W (out.set i v) 0 (i+1)+c'*PB (i+1)=W a 0 (i+1)+W b 0 (i+1):=by
 rw [dU,dU,dU,Nat.zero_add,d8 hl,w7 (.inr (by omega))]
 simp only [PB]
 grind
theorem aAP {a b:List Int} (ha:kZ a) (hb:kZ b) (hab:b.length≤a.length) (hL:a.length≤9000000000000):∀(t i:Nat) (out:List Int) (c:Int),i+t=a.length→out.length=a.length+1→Dr out 0 i→0≤c→c≤1→W out 0 i+c*PB i=W a 0 i+W b 0 i→
  ∃out' c',out'.length=a.length+1∧Dr out' 0 a.length∧0≤c'∧c'≤1∧W out' 0 a.length+c'*PB a.length=W a 0 a.length+W b 0 a.length∧∀K k,t<k→dN K a b k out c (i:Int)=some (out',c')
 |0,i,out,c,hi,ho,hD,hc0,hc1,hI=>by
  have:i=a.length:=by omega
  subst this
  refine⟨out,c,ho,hD,hc0,hc1,hI,fun K k hk=>?_⟩
  obtain⟨k',rfl,_⟩:=a8 hk
  simp [dN]
 |t+1,i,out,c,hi,ho,hD,hc0,hc1,hI=>by
  have ha':=ha i
  have hb':=hb i
  have e1:decide ((i:Int)<(a.length:Int))=true:=decide_eq_true (by omega)
  have e2:=cW (xs:=a) (i:=i) (by omega)
  have e3:aP ((i:Int)+1)=some ((i+1:Nat):Int):=zT (m:=0) (by omega) (by omega)
  have e4:=cW (xs:=out) (i:=i) (by omega)
  have e5:∀v,nU out (i:Int) v=some (out.set i v):=fun v=>rY (by omega)
  have e6:aP (a.getD i 0+c)=some (a.getD i 0+c):=kM (by omega)
  have e7:aP (a.getD i 0+c+b.getD i 0)=some (a.getD i 0+c+b.getD i 0):=kM (by omega)
  have e8:aP (a.getD i 0+c+b.getD i 0-1000000000)=some (a.getD i 0+c+b.getD i 0-1000000000):=kM (by omega)
  have e9:aP (a.getD i 0+c-1000000000)=some (a.getD i 0+c-1000000000):=kM (by omega)
  by_cases hbl:i<b.length
  ·have f1:decide ((i:Int)<(b.length:Int))=true:=decide_eq_true (by omega)
   have f2:=cW (xs:=b) (i:=i) hbl
   by_cases hs:1000000000≤a.getD i 0+c+b.getD i 0
   ·obtain⟨o,d,h1,h2,h3,h4,h5,h6⟩:=aAP ha hb hab hL t (i+1) (out.set i (a.getD i 0+c+b.getD i 0-1000000000)) 1 (by omega) (by simpa using ho) (aAK hD (by omega) (by omega) (by omega)) (by omega) (by omega) (aA7 (by omega) hI (by omega))
    refine⟨o,d,h1,h2,h3,h4,h5,fun K k hk=>?_⟩
    obtain⟨k',rfl,_⟩:=a8 hk
    simp only [dN,e1,e2,e3,e4,e5,e6,e7,e8,f1,f2,decide_eq_true hs,bT,oB]
    exact h6 K k' (by omega)
   ·obtain⟨o,d,h1,h2,h3,h4,h5,h6⟩:=aAP ha hb hab hL t (i+1) (out.set i (a.getD i 0+c+b.getD i 0)) 0 (by omega) (by simpa using ho) (aAK hD (by omega) (by omega) (by omega)) (by omega) (by omega) (aA7 (by omega) hI (by omega))
    refine⟨o,d,h1,h2,h3,h4,h5,fun K k hk=>?_⟩
    obtain⟨k',rfl,_⟩:=a8 hk
    simp only [dN,e1,e2,e3,e4,e5,e6,e7,f1,f2,decide_eq_false hs,bT,bO,oB]
    exact h6 K k' (by omega)
  ·have f1:decide ((i:Int)<(b.length:Int))=false:=decide_eq_false (by omega)
   have f2:b.getD i 0=0:=t0 (by omega)
   by_cases hs:1000000000≤a.getD i 0+c
   ·obtain⟨o,d,h1,h2,h3,h4,h5,h6⟩:=aAP ha hb hab hL t (i+1) (out.set i (a.getD i 0+c-1000000000)) 1 (by omega) (by simpa using ho) (aAK hD (by omega) (by omega) (by omega)) (by omega) (by omega) (aA7 (by omega) hI (by omega))
    refine⟨o,d,h1,h2,h3,h4,h5,fun K k hk=>?_⟩
    obtain⟨k',rfl,_⟩:=a8 hk
    simp only [dN,e1,e2,e3,e4,e5,e6,e9,f1,decide_eq_true hs,bT,bO,oB]
    exact h6 K k' (by omega)
   ·obtain⟨o,d,h1,h2,h3,h4,h5,h6⟩:=aAP ha hb hab hL t (i+1) (out.set i (a.getD i 0+c)) 0 (by omega) (by simpa using ho) (aAK hD (by omega) (by omega) (by omega)) (by omega) (by omega) (aA7 (by omega) hI (by omega))
    refine⟨o,d,h1,h2,h3,h4,h5,fun K k hk=>?_⟩
    obtain⟨k',rfl,_⟩:=a8 hk
    simp only [dN,e1,e2,e3,e4,e5,e6,f1,decide_eq_false hs,bT,bO,oB]
    exact h6 K k' (by omega)
theorem aGq (n j m:Nat):Dr (List.replicate n 0) j m:=fun i _=>by
 simp only [List.getD_eq_getElem?_getD,List.getElem?_replicate];split<;>simp
theorem aJe {a b:List Int} (ha:kZ a) (hb:kZ b) (hab:b.length≤a.length) (hL:a.length≤60000000000):∃r,kZ r∧r.length=a.length+1∧vD r=vD a+vD b∧Ev (fun K=>nG K a b) r:=by
 obtain⟨o,c,h1,h2,h3,h4,h5,h6⟩:=aAP ha hb hab (by omega) a.length 0 (List.replicate (a.length+1) 0) 0 (by omega) (by simp) (aGq _ _ _) (by omega) (by omega) (by simp [W])
 have e1:aP ((a.length:Int)+1)=some ((a.length+1:Nat):Int):=zT (m:=0) (by omega) (by omega)
 have e2:wG ((a.length+1:Nat):Int) (0:Int)=some (List.replicate (a.length+1) 0):=aAn (by omega)
 refine⟨o.set a.length c,Dr.ok ?_,by simpa using h1,?_,⟨a.length+1,fun K hK=>?_⟩⟩
 ·rw [show(o.set a.length c).length=a.length+1 by simpa using h1]
  exact aAK h2 (by omega) (by omega) (by omega)
 ·unfold vD
  rw [show(o.set a.length c).length=a.length+1 by simpa using h1,dU,Nat.zero_add,d8 (by omega),w7 (.inr (by omega)),h5,aAi hab]
 ·have h6':=h6 K K (by omega)
  simp only [Int.natCast_zero] at h6'
  simp only [nG,e1,e2,oB,h6',rE,cW (xs:=o) (i:=a.length) (by omega),rY (xs:=o) (i:=a.length) (v:=c) (by omega)]
theorem aHa {a b:List Int} (ha:kZ a) (hb:kZ b) (hL:a.length≤60000000000) (hM:b.length≤60000000000):∃r,kZ r∧r.length≤max a.length b.length+1∧vD r=vD a+vD b∧Ev (fun K=>oH K a b) r:=by
 by_cases h:a.length<b.length
 ·obtain⟨r,h1,h2,h3,h4⟩:=aJe hb ha (by omega) hM
  refine⟨r,h1,by omega,by omega,h4.congr fun K=>?_⟩
  simp only [oH,show decide ((a.length:Int)<(b.length:Int))=true from decide_eq_true (by omega),bT]
 ·obtain⟨r,h1,h2,h3,h4⟩:=aJe ha hb (by omega) hL
  refine⟨r,h1,by omega,by omega,h4.congr fun K=>?_⟩
  simp only [oH,show decide ((a.length:Int)<(b.length:Int))=false from decide_eq_false (by omega),bO]
end Go.Proofs.YtcjdedkdoagifaaGreat
set_option linter.unusedVariables false
namespace Go.Proofs.YtcjdedkdoagifaaGreat
theorem dT {p:Prop} [Decidable p] (h:p):decide p=true:=decide_eq_true h
theorem dF {p:Prop} [Decidable p] (h:¬p):decide p=false:=decide_eq_false h
theorem nT {x y:Int} (h:x≠y):(x != y)=true:=bne_iff_ne.2 h
theorem nF {x y:Int} (h:x=y):(x != y)=false:=by subst h;exact bne_self_eq_false x
theorem qT {x y:Int} (h:x=y):(x==y)=true:=beq_iff_eq.2 h
theorem qF {x y:Int} (h:x≠y):(x==y)=false:=beq_false_of_ne h
theorem aMa {u:List Int} {k n:Nat} {v:Int} (h:k<n) (hl:k<u.length):W (u.set k v) 0 n=W u 0 n+(v-u.getD k 0)*PB k:=by
 obtain⟨c,rfl⟩:=Nat.exists_eq_add_of_le h
 rw [vW,vW,dU,dU,Nat.zero_add,d8 hl,w7 (.inr (by omega)),w7 (.inl (by omega))]
 grind
theorem aNN {n:Nat} {a:List Int} (h:n=a.length):cpL (List.replicate n 0) a=a:=by
 subst h;simp [cpL]
theorem aCU {a b x1:List Int} (ha:kZ a) (hb:kZ b) (hbl:b.length≤a.length) (hv:vD b≤vD a) (hL:a.length≤9000000000000) (hx:(cpL x1 a).length=a.length):∀(t i:Nat) (out:List Int),i+t=a.length→out.length=a.length→Dr out 0 i→
  (∀s,i<s→out.getD s 0=a.getD s 0)→a.getD i 0-1≤out.getD i 0→out.getD i 0≤a.getD i 0→W out 0 a.length+W b 0 i=vD a→
  ∃r,r.length=a.length∧kZ r∧vD r=vD a-vD b∧∀K k,t<k→eD K a b x1 k out (i:Int)=some r
 |0,i,out,hi,ho,hD,hs,h1,h2,hW=>by
  have:i=a.length:=by omega
  subst this
  refine⟨out,ho,Dr.ok (by rwa [ho]),?_,fun K k hk=>?_⟩
  ·unfold vD
   rw [ho]
   rw [aAi hbl] at hW
   have e1:vD b=W b 0 b.length:=rfl
   have e2:vD a=W a 0 a.length:=rfl
   omega
  ·obtain⟨k',rfl,_⟩:=a8 hk
   simp [eD,hx]
 |t+1,i,out,hi,ho,hD,hs,h1,h2,hW=>by
  have ha':=ha i
  have hb':=hb i
  have e1:decide ((i:Int)<((cpL x1 a).length:Int))=true:=dT (by omega)
  have e3:aP ((i:Int)+1)=some ((i+1:Nat):Int):=zT (m:=0) (by omega) (by omega)
  have key:∀o:List Int,o.length=a.length→Dr o 0 i→(∀s,i<s→o.getD s 0=a.getD s 0)→o.getD i 0=out.getD i 0-b.getD i 0→W o 0 a.length+W b 0 (i+1)=vD a→
    ∃r,r.length=a.length∧kZ r∧vD r=vD a-vD b∧∀K k,t≤k→t<k→jK K (i:Int) (eD K a b x1 k) o=some r:=by
   intro o hlo hDo hso hoi hWo
   have e2:=cW (xs:=o) (i:=i) (by omega)
   by_cases hneg:o.getD i 0<0
   ·have e4:aP (o.getD i 0+1000000000)=some (o.getD i 0+1000000000):=kM (by omega)
    have hlt:i+1<a.length:=by
     rcases Nat.lt_or_ge (i+1) a.length with h|h
     ·exact h
     ·exfalso
      have hia:a.length=i+1:=by omega
      have w1:=(aAo hDo).2
      rw [hia] at hWo
      rw [dU,Nat.zero_add] at hWo
      have w2:vD b=W b 0 (i+1):=by rw [aAi (n:=i+1) (by omega)]
      have hp:=qM i
      have:o.getD i 0*PB i≤(-1)*PB i:=Int.mul_le_mul_of_nonneg_right (by omega) (by omega)
      have hbn:=hb.nonneg
      omega
    have e5:nU o (i:Int) (o.getD i 0+1000000000)=some (o.set i (o.getD i 0+1000000000)):=rY (by omega)
    have e6:bM (o.set i (o.getD i 0+1000000000)) ((i+1:Nat):Int)=some (a.getD (i+1) 0):=by
     rw [cW (by simp;omega),eY (by omega),hso _ (by omega)]
    have ha2:=ha (i+1)
    have e7:aP (a.getD (i+1) 0-1)=some (a.getD (i+1) 0-1):=kM (by omega)
    have e8:nU (o.set i (o.getD i 0+1000000000)) ((i+1:Nat):Int) (a.getD (i+1) 0-1)=some ((o.set i (o.getD i 0+1000000000)).set (i+1) (a.getD (i+1) 0-1)):=rY (by simp;omega)
    obtain⟨r,g1,g2,g3,g4⟩:=aCU ha hb hbl hv hL hx t (i+1) ((o.set i (o.getD i 0+1000000000)).set (i+1) (a.getD (i+1) 0-1)) (by omega) (by simpa using hlo)
     (fun s hs'=>by
      rw [eY (by omega)]
      exact aAK hDo (by omega) (by omega) (by omega) s hs')
     (fun s hs'=>by rw [eY (by omega),eY (by omega),hso s (by omega)])
     (by rw [d8 (by simp;omega)];omega) (by rw [d8 (by simp;omega)];omega)
     (by
      rw [aMa (k:=i+1) (by omega) (by simp;omega),aMa (k:=i) (by omega) (by omega),eY (by omega),hso (i+1) (by omega)]
      simp only [PB] at *
      have:o.getD i 0+1000000000-o.getD i 0=1000000000:=by omega
      rw [this]
      have:a.getD (i+1) 0-1-a.getD (i+1) 0=-1:=by omega
      rw [this]
      omega)
    refine⟨r,g1,g2,g3,fun K k hk hk'=>?_⟩
    simp only [jK,e2,e3,e4,e5,e6,e7,e8,dT hneg,bT,oB]
    exact g4 K k hk'
   ·obtain⟨r,g1,g2,g3,g4⟩:=aCU ha hb hbl hv hL hx t (i+1) o (by omega) hlo (fun s hs'=>by
      by_cases e:s=i
      ·subst e;rw [Nat.zero_add];omega
      ·exact hDo s (by omega)) (fun s hs'=>hso s (by omega)) (by rw [hso _ (by omega)];omega) (by rw [hso _ (by omega)];omega) hWo
    refine⟨r,g1,g2,g3,fun K k hk hk'=>?_⟩
    simp only [jK,e2,e3,dF hneg,bO,oB]
    exact g4 K k hk'
  by_cases hib:i<b.length
  ·have f1:decide ((i:Int)<(b.length:Int))=true:=dT (by omega)
   have f2:=cW (xs:=b) (i:=i) hib
   have f3:=cW (xs:=out) (i:=i) (by omega)
   have f4:aP (out.getD i 0-b.getD i 0)=some (out.getD i 0-b.getD i 0):=kM (by omega)
   have f5:nU out (i:Int) (out.getD i 0-b.getD i 0)=some (out.set i (out.getD i 0-b.getD i 0)):=rY (by omega)
   obtain⟨r,g1,g2,g3,g4⟩:=key (out.set i (out.getD i 0-b.getD i 0)) (by simpa using ho) (fun s hs'=>by rw [eY (by omega)];exact hD s hs') (fun s hs'=>by rw [eY (by omega)];exact hs s hs') (d8 (by omega)) (by
    rw [aMa (by omega) (by omega),dU,Nat.zero_add]
    have:(out.getD i 0-b.getD i 0-out.getD i 0)=- b.getD i 0:=by omega
    rw [this,Int.neg_mul]
    omega)
   refine⟨r,g1,g2,g3,fun K k hk=>?_⟩
   obtain⟨k',rfl,_⟩:=a8 hk
   simp only [eD,e1,f1,f2,f3,f4,f5,bT,oB]
   exact g4 K k' (by omega) (by omega)
  ·have f1:decide ((i:Int)<(b.length:Int))=false:=dF (by omega)
   have f2:b.getD i 0=0:=t0 (by omega)
   obtain⟨r,g1,g2,g3,g4⟩:=key out ho hD hs (by omega) (by rw [dU,Nat.zero_add,f2];omega)
   refine⟨r,g1,g2,g3,fun K k hk=>?_⟩
   obtain⟨k',rfl,_⟩:=a8 hk
   simp only [eD,e1,f1,bT,bO]
   exact g4 K k' (by omega) (by omega)
theorem aC0 {a b:List Int} (ha:kZ a) (hb:kZ b) (hbl:b.length≤a.length) (hv:vD b≤vD a) (hL:a.length≤60000000000):
  ∃r,r.length=a.length∧kZ r∧vD r=vD a-vD b∧Ev (fun K=>lQ K a b) r:=by
 have e1:wG (a.length:Int) (0:Int)=some (List.replicate a.length 0):=aAn (by omega)
 have e2:cpL (List.replicate a.length 0) a=a:=aNN rfl
 obtain⟨r,g1,g2,g3,g4⟩:=aCU (x1:=List.replicate a.length 0) ha hb hbl hv (by omega) (by rw [e2]) a.length 0 a (by omega) rfl (fun s h=>by omega) (fun s h=>rfl) (by omega) (by omega) (by simp [W])
 refine⟨r,g1,g2,g3,⟨a.length+1,fun K hK=>?_⟩⟩
 have h:=g4 K K (by omega)
 simp only [Int.natCast_zero] at h
 simp only [lQ,e1,e2,oB,h,p8]
theorem aFO (x y:Int):gN x y=some (if x<y then -1 else if y<x then 1 else 0):=by
 unfold gN mE
 have e1:(x != x)=false:=by simp
 have e2:(y != y)=false:=by simp
 simp only [e1,e2,oB,bO]
 by_cases h:x<y
 ·rw [dT h,bT,if_pos h]
 ·rw [dF h,bO,if_neg h]
  by_cases h2:y<x
  ·rw [dT h2,bT,if_pos h2]
  ·rw [dF h2,bO,if_neg h2]
theorem aJP {u v:List Int} {n:Nat} (hu:kZ u) (hv:kZ v) (h:u.getD n 0<v.getD n 0):W u 0 (n+1)<W v 0 (n+1):=by
 rw [dU,dU,Nat.zero_add]
 have h1:=(aAo (hu.dr 0 n)).2
 have h2:=(aAo (hv.dr 0 n)).1
 have hp:=qM n
 have:(u.getD n 0+1)*PB n≤v.getD n 0*PB n:=Int.mul_le_mul_of_nonneg_right (by omega) (by omega)
 rw [Int.add_mul] at this
 omega
def uK (x y:Int):Int:=if x<y then -1 else if y<x then 1 else 0
theorem aEe {u v:List Int} (hu:kZ u) (hv:kZ v) (hl:u.length=v.length) (hL:u.length≤9000000000000):∀(j:Nat),j≤u.length→∀K k,j<k→
  fO K u v k ((j:Int)-1)=some (if W u 0 j<W v 0 j then .ret (-1) else if W v 0 j<W u 0 j then .ret 1 else .go ())
 |0,_,K,k,hk=>by
  obtain⟨k',rfl,_⟩:=a8 hk
  simp [fO,W]
 |j+1,hj,K,k,hk=>by
  obtain⟨k',rfl,hk'⟩:=a8 hk
  have e0:((j+1:Nat):Int)-1=(j:Int):=by omega
  have e1:decide (0≤(j:Int))=true:=dT (by omega)
  have e2:=cW (xs:=u) (i:=j) (by omega)
  have e3:=cW (xs:=v) (i:=j) (by omega)
  rw [e0]
  rcases Int.lt_trichotomy (u.getD j 0) (v.getD j 0) with h|h|h
  ·have:=aJP hu hv h
   have e4:(u.getD j 0 != v.getD j 0)=true:=nT (by omega)
   simp only [fO,e1,e2,e3,e4,bT,oB,aFO]
   rw [if_pos h,if_pos this]
  ·have e4:(u.getD j 0 != v.getD j 0)=false:=nF h
   have e5:aP ((j:Int)-1)=some ((j:Int)-1):=kM (by omega)
   have ih:=aEe hu hv hl hL j (by omega) K k' (by omega)
   have c1:(W u 0 (j+1)<W v 0 (j+1))↔(W u 0 j<W v 0 j):=by rw [dU,dU,Nat.zero_add,h];omega
   have c2:(W v 0 (j+1)<W u 0 (j+1))↔(W v 0 j<W u 0 j):=by rw [dU,dU,Nat.zero_add,h];omega
   simp only [fO,e1,e2,e3,e4,e5,bT,bO,oB,c1,c2]
   exact ih
  ·have:=aJP hv hu h
   have e4:(u.getD j 0 != v.getD j 0)=true:=nT (by omega)
   simp only [fO,e1,e2,e3,e4,bT,oB,aFO]
   rw [if_neg (by omega),if_pos h,if_neg (by omega),if_pos this]
theorem aGa {u v:List Int} (hu:kZ u) (hv:kZ v) (tv:Top v) (h:u.length<v.length):vD u<vD v:=by
 have h1:=hu.lt
 have h2:=tv.pos hv (by intro e;subst e;simp at h)
 have h3:=aB9 (a:=u.length) (b:=v.length-1) (by omega)
 omega
theorem yD {u v:List Int} (hu:kZ u) (hv:kZ v) (tu:Top u) (tv:Top v) (hL:u.length≤9000000000000):Ev (fun K=>fK K u v) (uK (vD u) (vD v)):=by
 refine⟨u.length+1,fun K hK=>?_⟩
 by_cases h:u.length=v.length
 ·have e1:((u.length:Int) != (v.length:Int))=false:=nF (by omega)
  have e2:aP ((u.length:Int)-1)=some ((u.length:Int)-1):=kM (by omega)
  have e3:=aEe hu hv h hL u.length (Nat.le_refl _) K K (by omega)
  simp only [fK,e1,e2,e3,bO,oB]
  unfold uK vD
  rw [←h]
  by_cases h1:W u 0 u.length<W v 0 u.length
  ·rw [if_pos h1,if_pos h1]
  ·rw [if_neg h1,if_neg h1]
   by_cases h2:W v 0 u.length<W u 0 u.length
   ·rw [if_pos h2,if_pos h2]
   ·rw [if_neg h2,if_neg h2];rfl
 ·have e1:((u.length:Int) != (v.length:Int))=true:=nT (by omega)
  simp only [fK,e1,bT,oB,aFO]
  unfold uK
  rcases Nat.lt_or_ge u.length v.length with h1|h1
  ·have:=aGa hu hv tv h1
   rw [if_pos (by omega),if_pos this]
  ·have:=aGa hv hu tu (by omega)
   rw [if_neg (by omega),if_pos (by omega),if_neg (by omega),if_pos this]
theorem aEa {x y:Int} (h1:0≤x) (h2:x<1000000000) (h3:0≤y) (h4:y<1000000000):0≤x*y∧x*y≤999999998000000001:=by
 refine⟨Int.mul_nonneg h1 h3,?_⟩
 have:x*y≤999999999*999999999:=Int.mul_le_mul (by omega) (by omega) h3 (by omega)
 omega
theorem W1 (u:List Int) (j:Nat):W u j 1=u.getD j 0:=by simp [W,PB]
theorem W2 (u:List Int) (j:Nat):W u j 2=u.getD j 0+u.getD (j+1) 0*1000000000:=by simp [W,PB]
theorem vD0:vD []=0:=rfl
theorem vD1 (a:Int):vD [a]=a:=by show W _ 0 1=a;rw [W1];rfl
theorem vD2 (a b:Int):vD [a,b]=a+b*1000000000:=by show W _ 0 2=_;rw [W2];rfl
theorem aBd {u:List Int} (hu:kZ u):n9 u=some (if u.length≤2 then(vD u,true) else(0,false)):=by
 unfold n9
 have h0:=hu 0
 have h1:=hu 1
 match u,hu with
 |[],_=>simp [vD0]
 |[a],_=>
  have e:=cW (xs:=[a]) (i:=0) (by simp)
  simp only [Int.natCast_zero] at e
  simp [e,vD1]
 |[a,b],_=>
  simp at h0 h1
  have e:=cW (xs:=[a,b]) (i:=0) (by simp)
  have e':=cW (xs:=[a,b]) (i:=1) (by simp)
  simp only [Int.natCast_zero,Int.natCast_one] at e e'
  have f1:aP (b*1000000000)=some (b*1000000000):=kM (by omega)
  have f2:aP (b*1000000000+a)=some (b*1000000000+a):=kM (by omega)
  simp [e,e',vD2,f1,f2]
  omega
 |a::b::c::t,_=>
  have e1:(((a::b::c::t).length:Int)==0)=false:=qF (by simp;omega)
  have e2:(((a::b::c::t).length:Int)==1)=false:=qF (by simp;omega)
  have e3:(((a::b::c::t).length:Int)==2)=false:=qF (by simp;omega)
  simp only [e1,e2,e3,bO]
  rw [if_neg (by simp)]
theorem aPa {x:Int} (h0:0≤x) (h1:x≤18446744073709551615):wu x=x:=IntWalk.u64_in x ⟨h0,h1⟩
theorem aOH {x y:Int} (h0:0≤x) (h1:0<y) (h2:x≤18446744073709551615):uq x y=some (x/y):=by
 unfold uq
 rw [if_neg (by omega),Int.tdiv_eq_ediv_of_nonneg h0]
 have a:=Int.ediv_nonneg h0 (Int.le_of_lt h1)
 have b:=Int.ediv_le_self y h0
 rw [aPa a (by omega)]
theorem aKh {n:Nat} (h0:n≠0) (h:n<1000000000):cD n=[(n:Int)]:=by
 rw [vI h0,show n/1000000000=0 by omega,yI,show n%1000000000=n by omega]
theorem qW (neg:Bool) {n:Nat} (h:n≤18446744073709551615):eS neg (n:Int)=some (mkG neg n):=by
 unfold eS mkG
 have i64:∀x:Int,0≤x→x≤9223372036854775807→IntKind.i64.wrap x=x:=fun x a b=>IntWalk.i64_in x ⟨by omega,b⟩
 by_cases h0:n=0
 ·subst h0;simp
 ·have e0:((n:Int)==0)=false:=qF (by omega)
  rw [e0,bO,if_neg h0]
  by_cases h1:n<1000000000
  ·rw [dT (by omega),bT,aKh h0 h1,i64 _ (by omega) (by omega)]
  ·rw [dF (by omega),bO,vI h0]
   have q1:uq (n:Int) 1000000000=some ((n:Int)/1000000000):=aOH (by omega) (by omega) (by omega)
   have r1:wH (n:Int) 1000000000=some ((n:Int)%1000000000):=mW (by omega) (by omega)
   by_cases h2:n<1000000000000000000
   ·rw [dT (by omega),bT]
    simp only [q1,r1,oB]
    rw [aKh (n:=n/1000000000) (by omega) (by omega),i64 _ (by omega) (by omega),i64 _ (by omega) (by omega)]
    simp
   ·rw [dF (by omega),bO]
    have q2:uq ((n:Int)/1000000000) 1000000000=some ((n:Int)/1000000000/1000000000):=aOH (by omega) (by omega) (by omega)
    have r2:wH ((n:Int)/1000000000) 1000000000=some ((n:Int)/1000000000%1000000000):=mW (by omega) (by omega)
    simp only [q1,r1,q2,r2,oB]
    rw [vI (n:=n/1000000000) (by omega),aKh (n:=n/1000000000/1000000000) (by omega) (by omega),i64 _ (by omega) (by omega),i64 _ (by omega) (by omega),i64 _ (by omega) (by omega)]
    simp
theorem aDM {n:Int} (h:-9223372036854775808≤n∧n≤9223372036854775807):lJ n=some (Z n):=by
 unfold lJ
 by_cases h0:n<0
 ·rw [dT h0,bT]
  have e1:wu (-(IntKind.u64.wrap n))=((-n).toNat:Int):=by
   show IntKind.u64.wrap (-(IntKind.u64.wrap n))=_
   simp only [IntKind.wrap,IntKind.bits,IntKind.signed]
   simp
   omega
  rw [e1,qW _ (by omega),oB,aJQ]
  congr 2;omega
 ·rw [dF h0,bO]
  have e1:IntKind.u64.wrap n=((n.toNat:Nat):Int):=by rw [IntWalk.u64_in n (by omega)];omega
  rw [e1,qW _ (by omega),oB,mQ]
  congr 2;omega
theorem Z_d (x:Int):(Z x).d=cD x.natAbs:=rfl
theorem t6 (x:Int):(Z x).neg=decide (x<0):=rfl
theorem qQ (x:Int):(Z x).d.length=dl x.natAbs:=rfl
theorem aLS (x:Int):sT (Z x)=some x.sign:=by
 unfold sT
 rw [t6,qQ]
 by_cases h:x<0
 ·rw [dT h,bT,Int.sign_eq_neg_one_of_neg h]
 ·rw [dF h,bO]
  by_cases h0:x=0
  ·subst h0;rw [show Int.natAbs 0=0 from rfl,u7];rfl
  ·have:dl x.natAbs≠0:=by rw [Ne,vJ];omega
   have e:((dl x.natAbs:Int)==0)=false:=qF (by omega)
   rw [e,bO,Int.sign_eq_one_of_pos (by omega)]
theorem aJO (x:Int):pX (Z x)=some (Z (-x)):=by
 unfold pX
 rw [t6,qQ,Z_d]
 unfold Z
 rw [Int.natAbs_neg]
 by_cases h:x<0
 ·have:dl x.natAbs≠0:=by rw [Ne,vJ];omega
  rw [dT h,dF (p:=-x<0) (by omega)];rfl
 ·rw [dF h]
  simp only [Bool.not_false,bT]
  congr 2
  by_cases h0:x=0
  ·subst h0;rw [show Int.natAbs 0=0 from rfl,u7];rfl
  ·have:dl x.natAbs≠0:=by rw [Ne,vJ];omega
   rw [dT (by omega),dT (by omega)]
theorem aJV {x y:Int} (hx:dl x.natAbs≤50000000000) (hy:dl y.natAbs≤50000000000):Ev (fun K=>mR K (Z x) (Z y)) (Z (x+y)):=by
 have dx:=cC x.natAbs
 have dy:=cC y.natAbs
 have vx:=dO x.natAbs
 have vy:=dO y.natAbs
 have tx:=mV x.natAbs
 have ty:=mV y.natAbs
 have lx:(cD x.natAbs).length≤50000000000:=hx
 have ly:(cD y.natAbs).length≤50000000000:=hy
 unfold mR
 simp only [Z_d,t6]
 by_cases hs:(decide (x<0)==decide (y<0))=true
 ·simp only [hs,bT]
  obtain⟨r,h1,h2,h3,h4⟩:=aHa dx dy (by omega) (by omega)
  have h5:=wU (decide (x<0)) h1 (by omega)
  refine Ev.bind h4 (Ev.bind h5 ?_)
  rw [s6]
  have hs':(x<0)↔(y<0):=by simpa using hs
  have:(if decide (x<0)=true then -(((vD r).toNat:Nat):Int) else(((vD r).toNat:Nat):Int))=x+y:=by
   by_cases h:x<0
   ·rw [if_pos (by simpa using h)];omega
   ·rw [if_neg (by simpa using h)];omega
  rw [this]
  exact Ev.pure _
 ·simp only [Bool.not_eq_true] at hs
  simp only [hs,bO]
  have hs':¬((x<0)↔(y<0)):=by simpa using hs
  refine Ev.bind (yD dx dy tx ty (by omega)) ?_
  rw [vx,vy]
  unfold uK
  by_cases hlt:x.natAbs<y.natAbs
  ·have hle:(cD x.natAbs).length≤(cD y.natAbs).length:=pQ (by omega)
   obtain⟨r,h1,h2,h3,h4⟩:=aC0 dy dx hle (by omega) (by omega)
   have h5:=wU (decide (y<0)) h2 (by omega)
   rw [if_pos (by omega)]
   refine Ev.congr (g:=fun K=>(lQ K (cD y.natAbs) (cD x.natAbs)).bind fun v16=>(eG K (decide (y<0)) v16).bind fun v18=>some v18) ?_ (fun K=>rfl)
   refine Ev.bind h4 (Ev.bind h5 ?_)
   rw [s6]
   have:(if decide (y<0)=true then -(((vD r).toNat:Nat):Int) else(((vD r).toNat:Nat):Int))=x+y:=by
    by_cases h:y<0
    ·rw [if_pos (by simpa using h)];omega
    ·rw [if_neg (by simpa using h)];omega
   rw [this]
   exact Ev.pure _
  ·have hle:(cD y.natAbs).length≤(cD x.natAbs).length:=pQ (by omega)
   obtain⟨r,h1,h2,h3,h4⟩:=aC0 dx dy hle (by omega) (by omega)
   have h5:=wU (decide (x<0)) h2 (by omega)
   have hc:decide ((if(x.natAbs:Int)<y.natAbs then(-1:Int) else if(y.natAbs:Int)<x.natAbs then 1 else 0)<0)=false:=by
    rw [if_neg (by omega)]
    split<;>rfl
   simp only [hc,bO]
   refine Ev.bind h4 (Ev.bind h5 ?_)
   rw [s6]
   have:(if decide (x<0)=true then -(((vD r).toNat:Nat):Int) else(((vD r).toNat:Nat):Int))=x+y:=by
    by_cases h:x<0
    ·rw [if_pos (by simpa using h)];omega
    ·rw [if_neg (by simpa using h)];omega
   rw [this]
   exact Ev.pure _
end Go.Proofs.YtcjdedkdoagifaaGreat
set_option linter.unusedVariables false
namespace Go.Proofs.YtcjdedkdoagifaaGreat
theorem aLp {v:Int} (h:0≤v):0≤v/1000000000∧0≤v%1000000000∧v%1000000000<1000000000∧v%1000000000+1000000000*(v/1000000000)=v:=by omega
theorem aH4 {out a:List Int} {i:Nat} {c c' k v:Int} (hl:i<out.length) (hI:W out 0 i+c*PB i=k*W a 0 i) (hv:v+1000000000*c'=a.getD i 0*k+c):
  W (out.set i v) 0 (i+1)+c'*PB (i+1)=k*W a 0 (i+1):=by
 rw [dU,dU,Nat.zero_add,d8 hl,w7 (.inr (by omega))]
 simp only [PB]
 grind
theorem aEy {a:List Int} {f:Int} (ha:kZ a) (hf0:0≤f) (hf1:f<1000000000) (hL:a.length≤9000000000000):∀(t i:Nat) (out:List Int) (c:Int),i+t=a.length→out.length=a.length+1→Dr out 0 i→0≤c→c<1000000000→W out 0 i+c*PB i=f*W a 0 i→
  ∃out' c',out'.length=a.length+1∧Dr out' 0 a.length∧0≤c'∧c'<1000000000∧W out' 0 a.length+c'*PB a.length=f*vD a∧∀K k,t<k→iN K a f k out c (i:Int)=some (out',c')
 |0,i,out,c,hi,ho,hD,hc0,hc1,hI=>by
  have:i=a.length:=by omega
  subst this
  refine⟨out,c,ho,hD,hc0,hc1,hI,fun K k hk=>?_⟩
  obtain⟨k',rfl,_⟩:=a8 hk
  simp [iN]
 |t+1,i,out,c,hi,ho,hD,hc0,hc1,hI=>by
  have ha':=ha i
  have hm:=aEa ha'.1 ha'.2 hf0 hf1
  obtain⟨d1,d2,d3,d4⟩:=aLp (v:=a.getD i 0*f+c) (by omega)
  have e1:decide ((i:Int)<(a.length:Int))=true:=dT (by omega)
  have e2:=cW (xs:=a) (i:=i) (by omega)
  have e3:aP ((i:Int)+1)=some ((i+1:Nat):Int):=zT (m:=0) (by omega) (by omega)
  have e4:=cW (xs:=out) (i:=i) (by omega)
  have e5:∀v,nU out (i:Int) v=some (out.set i v):=fun v=>rY (by omega)
  have e6:aP (a.getD i 0*f)=some (a.getD i 0*f):=kM (by omega)
  have e7:aP (a.getD i 0*f+c)=some (a.getD i 0*f+c):=kM (by omega)
  have e8:wH (a.getD i 0*f+c) 1000000000=some ((a.getD i 0*f+c)%1000000000):=mW (by omega) (by omega)
  have e9:w4 (a.getD i 0*f+c) 1000000000=some ((a.getD i 0*f+c)/1000000000):=rV (by omega) (by omega) (by omega)
  obtain⟨o,d,h1,h2,h3,h4,h5,h6⟩:=aEy ha hf0 hf1 hL t (i+1) (out.set i ((a.getD i 0*f+c)%1000000000)) ((a.getD i 0*f+c)/1000000000) (by omega) (by simpa using ho) (aAK hD (by omega) (by omega) (by omega)) (by omega) (by omega) (aH4 (by omega) hI (by omega))
  refine⟨o,d,h1,h2,h3,h4,h5,fun K k hk=>?_⟩
  obtain⟨k',rfl,_⟩:=a8 hk
  simp only [iN,e1,e2,e3,e4,e5,e6,e7,e8,e9,bT,oB]
  exact h6 K k' (by omega)
theorem aEt {a:List Int} {f:Int} (ha:kZ a) (hf0:0≤f) (hf1:f<1000000000) (hL:a.length≤60000000000):∃r,r.length=a.length+1∧kZ r∧vD r=f*vD a∧Ev (fun K=>mG K a f) r:=by
 obtain⟨o,c,h1,h2,h3,h4,h5,h6⟩:=aEy ha hf0 hf1 (by omega) a.length 0 (List.replicate (a.length+1) 0) 0 (by omega) (by simp) (aGq _ _ _) (by omega) (by omega) (by simp [W])
 have e1:aP ((a.length:Int)+1)=some ((a.length+1:Nat):Int):=zT (m:=0) (by omega) (by omega)
 have e2:wG ((a.length+1:Nat):Int) (0:Int)=some (List.replicate (a.length+1) 0):=aAn (by omega)
 refine⟨o.set a.length c,by simpa using h1,Dr.ok ?_,?_,⟨a.length+1,fun K hK=>?_⟩⟩
 ·rw [show(o.set a.length c).length=a.length+1 by simpa using h1]
  exact aAK h2 (by omega) (by omega) (by omega)
 ·unfold vD at h5 ⊢
  rw [show(o.set a.length c).length=a.length+1 by simpa using h1,dU,Nat.zero_add,d8 (by omega),w7 (.inr (by omega)),h5]
 ·have h6':=h6 K K (by omega)
  simp only [Int.natCast_zero] at h6'
  simp only [mG,e1,e2,oB,h6',pV,cW (xs:=o) (i:=a.length) (by omega),rY (xs:=o) (i:=a.length) (v:=c) (by omega)]
theorem aBH (u:List Int) (j n:Nat):W u j (n+1)=u.getD j 0+1000000000*W u (j+1) n:=by
 rw [Nat.add_comm n 1,vW,W1,show PB 1=1000000000 from by decide]
theorem aFM {a:List Int} {b:Int} (ha:kZ a) (hb0:0<b) (hb1:b<1000000000) (hL:a.length≤9000000000000):∀(j:Nat) (q:List Int) (r:Int),j≤a.length→q.length=a.length→Dr q j (a.length-j)→0≤r→r<b→W a j (a.length-j)=b*W q j (a.length-j)+r→
  ∃q' r',q'.length=a.length∧kZ q'∧0≤r'∧r'<b∧vD a=b*vD q'+r'∧∀K k,j<k→jM K a b k q r ((j:Int)-1)=some (q',r')
 |0,q,r,hj,hq,hD,hr0,hr1,hI=>by
  refine⟨q,r,hq,Dr.ok (by rw [hq];simpa using hD),hr0,hr1,?_,fun K k hk=>?_⟩
  ·simp only [Nat.sub_zero] at hI
   unfold vD
   rw [hq];exact hI
  ·obtain⟨k',rfl,_⟩:=a8 hk
   simp [jM]
 |j+1,q,r,hj,hq,hD,hr0,hr1,hI=>by
  have ha':=ha j
  have e0:((j+1:Nat):Int)-1=(j:Int):=by omega
  have e1:decide (0≤(j:Int))=true:=dT (by omega)
  have e2:=cW (xs:=a) (i:=j) (by omega)
  have e3:aP ((j:Int)-1)=some ((j:Int)-1):=kM (by omega)
  have e4:=cW (xs:=q) (i:=j) (by omega)
  have e5:∀v,nU q (j:Int) v=some (q.set j v):=fun v=>rY (by omega)
  have e6:aP (r*1000000000)=some (r*1000000000):=kM (by omega)
  have e7:aP (r*1000000000+a.getD j 0)=some (r*1000000000+a.getD j 0):=kM (by omega)
  have e8:wH (r*1000000000+a.getD j 0) b=some ((r*1000000000+a.getD j 0)%b):=mW (by omega) hb0
  have e9:w4 (r*1000000000+a.getD j 0) b=some ((r*1000000000+a.getD j 0)/b):=rV (by omega) hb0 (by omega)
  have hq0:0≤(r*1000000000+a.getD j 0)/b:=Int.ediv_nonneg (by omega) (by omega)
  have hq1:(r*1000000000+a.getD j 0)/b<1000000000:=Int.ediv_lt_of_lt_mul hb0 (by
   have:(r+1)*1000000000≤b*1000000000:=Int.mul_le_mul_of_nonneg_right (by omega) (by omega)
   rw [Int.mul_comm 1000000000 b]
   omega)
  have hm0:=Int.emod_nonneg (r*1000000000+a.getD j 0) (show b≠0 by omega)
  have hm1:=Int.emod_lt_of_pos (r*1000000000+a.getD j 0) hb0
  have hdm:=Int.mul_ediv_add_emod (r*1000000000+a.getD j 0) b
  have es:a.length-j=(a.length-(j+1))+1:=by omega
  obtain⟨q',r',h1,h2,h3,h4,h5,h6⟩:=aFM ha hb0 hb1 hL j (q.set j ((r*1000000000+a.getD j 0)/b)) ((r*1000000000+a.getD j 0)%b) (by omega) (by simpa using hq)
   (fun i hi=>by
    by_cases e:i=0
    ·subst e;rw [Nat.add_zero,d8 (by omega)];exact⟨hq0,hq1⟩
    ·rw [eY (by omega)]
     have:=hD (i-1) (by omega)
     rwa [show j+1+(i-1)=j+i by omega] at this) hm0 hm1 (by
    rw [es,aBH,aBH,d8 (by omega),w7 (.inl (by omega)),hI]
    grind)
  refine⟨q',r',h1,h2,h3,h4,h5,fun K k hk=>?_⟩
  obtain⟨k',rfl,_⟩:=a8 hk
  rw [e0]
  simp only [jM,e1,e2,e3,e4,e5,e6,e7,e8,e9,bT,oB]
  exact h6 K k' (by omega)
theorem aFr {a:List Int} {b:Int} (ha:kZ a) (hb0:0<b) (hb1:b<1000000000) (hL:a.length≤60000000000):∃q r,q.length=a.length∧kZ q∧vD q=vD a/b∧r=vD a%b∧Ev (fun K=>oZ K a b) (q,r):=by
 obtain⟨q,r,h1,h2,h3,h4,h5,h6⟩:=aFM ha hb0 hb1 (by omega) a.length (List.replicate a.length 0) 0 (Nat.le_refl _) (by simp) (aGq _ _ _) (by omega) hb0 (by simp [W])
 have e1:wG (a.length:Int) (0:Int)=some (List.replicate a.length 0):=aAn (by omega)
 have e2:aP ((a.length:Int)-1)=some ((a.length:Int)-1):=kM (by omega)
 refine⟨q,r,h1,h2,?_,?_,⟨a.length+1,fun K hK=>?_⟩⟩
 ·rw [h5,Int.add_comm,Int.add_mul_ediv_left _ _ (by omega),Int.ediv_eq_zero_of_lt h3 h4,Int.zero_add]
 ·rw [h5,Int.add_comm,Int.add_mul_emod_self_left,Int.emod_eq_of_lt h3 h4]
 ·have h6':=h6 K K (by omega)
  simp only [oZ,e1,e2,oB,h6',qG]
theorem aLU {out o0 b:List Int} {i k:Nat} {c c' f v:Int} (hl:i+k<out.length) (hI:W out i k+c*PB k=W o0 i k+f*W b 0 k) (hv:v+1000000000*c'=o0.getD (i+k) 0+f*b.getD k 0+c):
  W (out.set (i+k) v) i (k+1)+c'*PB (k+1)=W o0 i (k+1)+f*W b 0 (k+1):=by
 rw [dU,dU,dU,d8 hl,w7 (.inr (by omega)),Nat.zero_add]
 simp only [PB]
 grind
structure aGi (o0 b:List Int) (i:Nat) (f:Int) (out:List Int) (c:Int) (k:Nat):Prop where
 len:out.length=o0.length
 ok:kZ out
 c0:0≤c
 c1:c<1000000000
 same:∀s,s<i∨i+k≤s→out.getD s 0=o0.getD s 0
 val:W out i k+c*PB k=W o0 i k+f*W b 0 k
theorem kZ.set {u:List Int} {i:Nat} {v:Int} (h:kZ u) (h0:0≤v) (h1:v<1000000000):kZ (u.set i v):=fun t=>by
 rw [zR];split
 ·exact⟨h0,h1⟩
 ·exact h t
theorem aGi.step {o0 b out:List Int} {i k:Nat} {f c:Int} (h:aGi o0 b i f out c k) (hl:i+k<o0.length) (hf0:0≤f) (hf1:f<1000000000) (hb:kZ b):
  0≤out.getD (i+k) 0+f*b.getD k 0+c∧out.getD (i+k) 0+f*b.getD k 0+c≤999999999999999999∧0≤f*b.getD k 0∧f*b.getD k 0≤999999998000000001∧0≤out.getD (i+k) 0∧out.getD (i+k) 0<1000000000∧
  aGi o0 b i f (out.set (i+k) ((out.getD (i+k) 0+f*b.getD k 0+c)%1000000000)) ((out.getD (i+k) 0+f*b.getD k 0+c)/1000000000) (k+1):=by
 have hb':=hb k
 have hm:=aEa hf0 hf1 hb'.1 hb'.2
 have ho:=h.ok (i+k)
 have c0:=h.c0
 have c1:=h.c1
 obtain⟨d1,d2,d3,d4⟩:=aLp (v:=out.getD (i+k) 0+f*b.getD k 0+c) (by omega)
 have he:=h.same (i+k) (.inr (Nat.le_refl _))
 refine⟨by omega,by omega,hm.1,hm.2,ho.1,ho.2,by simpa using h.len,h.ok.set d2 d3,d1,by omega,fun s hs=>?_,by exact aLU (by have:=h.len;omega) h.val (by omega)⟩
 rw [eY (by omega)]
 exact h.same s (by omega)
theorem aJh {o0:List Int} {y:aH} {i:Nat} {f:Int} (hb:kZ y.d) (hf0:0≤f) (hf1:f<1000000000) (hl:i+y.d.length≤o0.length) (hL:o0.length≤9000000000000):∀(t k:Nat) (out:List Int) (c:Int),k+t=y.d.length→aGi o0 y.d i f out c k→
  ∃out' c',aGi o0 y.d i f out' c' y.d.length∧∀K n,t<n→gG K y (i:Int) f n out c (k:Int)=some (out',c')
 |0,k,out,c,hk,hP=>by
  have:k=y.d.length:=by omega
  subst this
  refine⟨out,c,hP,fun K n hn=>?_⟩
  obtain⟨n',rfl,_⟩:=a8 hn
  simp [gG]
 |t+1,k,out,c,hk,hP=>by
  obtain⟨g1,g2,g3,g4,g5,g6,g7⟩:=hP.step (by omega) hf0 hf1 hb
  have c0:=hP.c0
  have c1:=hP.c1
  have hlo:=hP.len
  generalize hv:out.getD (i+k) 0+f*y.d.getD k 0+c=v at *
  have e1:decide ((k:Int)<(y.d.length:Int))=true:=dT (by omega)
  have e2:=cW (xs:=y.d) (i:=k) (by omega)
  have e3:aP ((k:Int)+1)=some ((k+1:Nat):Int):=zT (m:=0) (by omega) (by omega)
  have e4:aP ((i:Int)+(k:Int))=some ((i+k:Nat):Int):=zT (m:=0) (by omega) (by omega)
  have e5:=cW (xs:=out) (i:=i+k) (by omega)
  have e6:aP (f*y.d.getD k 0)=some (f*y.d.getD k 0):=kM (by omega)
  have e7:aP (out.getD (i+k) 0+f*y.d.getD k 0)=some (out.getD (i+k) 0+f*y.d.getD k 0):=kM (by omega)
  have e8:aP (out.getD (i+k) 0+f*y.d.getD k 0+c)=some v:=by rw [hv];exact kM (by omega)
  have e9:w4 v 1000000000=some (v/1000000000):=rV (by omega) (by omega) (by omega)
  have e10:aP (v/1000000000*1000000000)=some (v/1000000000*1000000000):=kM (by omega)
  have e11:aP (v-v/1000000000*1000000000)=some (v%1000000000):=by
   rw [show v-v/1000000000*1000000000=v%1000000000 by omega];exact kM (by omega)
  have e12:nU out ((i+k:Nat):Int) (v%1000000000)=some (out.set (i+k) (v%1000000000)):=rY (by omega)
  obtain⟨o,d,h1,h2⟩:=aJh hb hf0 hf1 hl hL t (k+1) _ _ (by omega) g7
  refine⟨o,d,h1,fun K n hn=>?_⟩
  obtain⟨n',rfl,_⟩:=a8 hn
  simp only [gG,e1,e2,e3,e4,e5,e6,e7,e8,e9,e10,e11,e12,bT,oB]
  exact h2 K n' (by omega)
structure aCX (a b out:List Int) (i:Nat):Prop where
 len:out.length=a.length+b.length
 ok:kZ out
 zero:∀s,i+b.length≤s→out.getD s 0=0
 val:W out 0 (i+b.length)=W a 0 i*vD b
theorem aCX.start (a b:List Int):aCX a b (List.replicate (a.length+b.length) 0) 0 where
 len:=by simp
 ok:=fun i=>by simp only [List.getD_eq_getElem?_getD,List.getElem?_replicate];split<;>simp
 zero:=fun s _=>by simp only [List.getD_eq_getElem?_getD,List.getElem?_replicate];split<;>simp
 val:=by
  rw [aDq]
  ·simp [W]
  ·intro i _;simp only [List.getD_eq_getElem?_getD,List.getElem?_replicate];split<;>simp
theorem aCX.row {a b out:List Int} {i:Nat} (h:aCX a b out i):aGi out b i (a.getD i 0) out 0 0 where
 len:=rfl
 ok:=h.ok
 c0:=Int.le_refl _
 c1:=by decide
 same:=fun _ _=>rfl
 val:=by simp [W]
theorem aCX.next {a b out out':List Int} {i:Nat} {c:Int} (h:aCX a b out i) (hi:i<a.length) (hr:aGi out b i (a.getD i 0) out' c b.length):aCX a b (out'.set (i+b.length) c) (i+1) where
 len:=by simpa using hr.len.trans h.len
 ok:=hr.ok.set hr.c0 hr.c1
 zero:=fun s hs=>by
  rw [eY (by omega),hr.same s (by omega)]
  exact h.zero s (by omega)
 val:=by
  have hlen:=hr.len.trans h.len
  rw [show i+1+b.length=(i+b.length)+1 by omega,dU,Nat.zero_add,d8 (by omega),w7 (.inr (by omega)),vW,dU,Nat.zero_add]
  have h1:=hr.val
  have h2:=h.val
  rw [vW,Nat.zero_add] at h2
  have h3:W out' 0 i=W out 0 i:=aCb fun s hs=>by
   rw [Nat.zero_add];exact hr.same s (.inl hs)
  rw [h3,aAI]
  unfold vD at *
  grind
theorem aJi {x y:aH} (ha:kZ x.d) (hb:kZ y.d) (hL:x.d.length+y.d.length≤9000000000000):∀(t i:Nat) (out:List Int),i+t=x.d.length→aCX x.d y.d out i→
  ∃out',aCX x.d y.d out' x.d.length∧t8 (fun K k=>fL K x y k out (i:Int)) out'
 |0,i,out,hi,hP=>by
  have:i=x.d.length:=by omega
  subst this
  refine⟨out,hP,t8.of 1 fun K n hn=>?_⟩
  obtain⟨n',rfl,_⟩:=a8 (n:=0) hn
  simp [fL]
 |t+1,i,out,hi,hP=>by
  have ha':=ha i
  have hlo:=hP.len
  obtain⟨o,c,h1,h2⟩:=aJh hb ha'.1 ha'.2 (by omega) (by omega) y.d.length 0 out 0 (by omega) hP.row
  have hlo2:=h1.len
  obtain⟨r,h3,h4⟩:=aJi ha hb hL t (i+1) _ (by omega) (hP.next (by omega) h1)
  refine⟨r,h3,t8.step ?_⟩
  have e1:decide ((i:Int)<(x.d.length:Int))=true:=dT (by omega)
  have e2:=cW (xs:=x.d) (i:=i) (by omega)
  have e3:aP ((i:Int)+1)=some ((i+1:Nat):Int):=zT (m:=0) (by omega) (by omega)
  have e4:aP ((i:Int)+(y.d.length:Int))=some ((i+y.d.length:Nat):Int):=zT (m:=0) (by omega) (by omega)
  have e5:=cW (xs:=o) (i:=i+y.d.length) (by omega)
  have e6:nU o ((i+y.d.length:Nat):Int) c=some (o.set (i+y.d.length) c):=rY (by omega)
  simp only [fL,e1,e2,bT,oB]
  refine t8.bind (x:=(o,c)) (f:=fun K=>gG K y (i:Int) (x.d.getD i 0) K out 0 0) ⟨y.d.length+1,fun K hK=>h2 K K (by omega)⟩ ?_
  simp only [o5,e3,e4,e5,e6,oB]
  exact h4
theorem aGt (x y:Int):(if(decide (x<0) != decide (y<0))=true then -((x.natAbs:Int)*y.natAbs) else(x.natAbs:Int)*y.natAbs)=x*y:=by
 by_cases hx:x<0<;>by_cases hy:y<0
 ·rw [dT hx,dT hy,show(x.natAbs:Int)=-x by omega,show(y.natAbs:Int)=-y by omega];simp [Int.neg_mul_neg]
 ·rw [dT hx,dF hy,show(x.natAbs:Int)=-x by omega,show(y.natAbs:Int)=y by omega];simp [Int.neg_mul]
 ·rw [dF hx,dT hy,show(x.natAbs:Int)=x by omega,show(y.natAbs:Int)=-y by omega];simp [Int.mul_neg]
 ·rw [dF hx,dF hy,show(x.natAbs:Int)=x by omega,show(y.natAbs:Int)=y by omega];simp
theorem aNu {x y:Int} (hL:dl x.natAbs+dl y.natAbs≤60000000000):Ev (fun K=>(aP (((Z x).d.length:Int)+((Z y).d.length:Int))).bind fun v16=>(wG v16 0).bind fun x18=>(fL K (Z x) (Z y) K x18 0).bind fun x37=>pJ K (Z x) (Z y) x37) (Z (x*y)):=by
 have dx:=cC x.natAbs
 have dy:=cC y.natAbs
 have lx:(cD x.natAbs).length=dl x.natAbs:=rfl
 have ly:(cD y.natAbs).length=dl y.natAbs:=rfl
 obtain⟨r,h1,h2⟩:=aJi (x:=Z x) (y:=Z y) dx dy (by rw [qQ,qQ];omega) (Z x).d.length 0 _ (by omega) (aCX.start _ _)
 have e1:aP (((Z x).d.length:Int)+((Z y).d.length:Int))=some (((Z x).d.length+(Z y).d.length:Nat):Int):=zT (m:=0) (by omega) (by rw [qQ,qQ];omega)
 have e2:wG (((Z x).d.length+(Z y).d.length:Nat):Int) (0:Int)=some (List.replicate ((Z x).d.length+(Z y).d.length) 0):=aAn (by rw [qQ,qQ];omega)
 simp only [e1,e2,oB]
 refine Ev.bind h2.ev ?_
 have h3:=wU ((Z x).neg != (Z y).neg) h1.ok (by rw [h1.len,qQ,qQ];omega)
 unfold pJ
 refine Ev.bind h3 ?_
 have hv:vD r=x.natAbs*y.natAbs:=by
  have:=h1.val
  rw [←h1.len] at this
  have vx:=dO x.natAbs
  have vy:=dO y.natAbs
  unfold vD at *
  rw [this]
  show W (cD x.natAbs) 0 (cD x.natAbs).length*W (cD y.natAbs) 0 (cD y.natAbs).length=_
  rw [vx,vy]
 rw [s6,t6,t6,hv]
 have:(if(decide (x<0) != decide (y<0))=true then -((((x.natAbs:Int)*y.natAbs).toNat:Nat):Int) else((((x.natAbs:Int)*y.natAbs).toNat:Nat):Int))=x*y:=by
  have h0:0≤(x.natAbs:Int)*y.natAbs:=Int.mul_nonneg (by omega) (by omega)
  rw [Int.toNat_of_nonneg h0]
  exact aGt x y
 rw [this]
 exact Ev.pure _
theorem aFt (K:Nat) (y:aH) (x v:Int):∀(k:Nat) (s:List Int) (c i:Int),mH K y x v k s c i=gG K y x v k s c i
 |0,_,_,_=>rfl
 |k+1,s,c,i=>by simp only [mH,gG,aFt K y x v k]
theorem aFB (K:Nat) (x y:aH):∀(k:Nat) (s:List Int) (i:Int),kH K x y k s i=fL K x y k s i
 |0,_,_=>rfl
 |k+1,s,i=>by simp only [kH,fL,qX,o5,aFt,aFB K x y k]
theorem aAL {n:Nat} (h:(cD n).length=1):(cD n).getD 0 0=n∧n<1000000000:=by
 have h1:=dO n
 unfold vD at h1
 rw [h,W1] at h1
 have:=cC n 0
 omega
theorem yK {x y:Int} (hL:dl x.natAbs+dl y.natAbs≤60000000000):Ev (fun K=>cF K (Z x) (Z y)) (Z (x*y)):=by
 have hc:=aNu hL
 unfold cF
 by_cases h1:(Z x).d.length=1
 ·have e1:(((Z x).d.length:Int)==1)=true:=qT (by omega)
  simp only [e1,bT]
  by_cases h2:(Z y).d.length=1
  ·have e2:(((Z y).d.length:Int)==1)=true:=qT (by omega)
   obtain⟨a1,a2⟩:=aAL h1
   obtain⟨b1,b2⟩:=aAL h2
   have r1:=cW (xs:=(Z x).d) (i:=0) (by omega)
   have r2:=cW (xs:=(Z y).d) (i:=0) (by omega)
   simp only [Int.natCast_zero] at r1 r2
   rw [Z_d] at r1 r2
   rw [a1] at r1
   rw [b1] at r2
   have hb:=aEa (x:=(x.natAbs:Int)) (y:=(y.natAbs:Int)) (by omega) (by omega) (by omega) (by omega)
   have e3:wu (IntKind.u64.wrap (x.natAbs:Int)*IntKind.u64.wrap (y.natAbs:Int))=((x.natAbs*y.natAbs:Nat):Int):=by
    rw [IntWalk.u64_in _ ⟨by omega,by omega⟩,IntWalk.u64_in _ ⟨by omega,by omega⟩,aPa hb.1 (by omega),Int.natCast_mul]
   have hb':x.natAbs*y.natAbs≤18446744073709551615:=by
    have:((x.natAbs*y.natAbs:Nat):Int)=x.natAbs*y.natAbs:=Int.natCast_mul _ _
    omega
   refine Ev.of fun K=>?_
   rw [Z_d] at e2
   simp only [e2,bT,r1,r2,Z_d,t6,oB,e3,qW _ hb']
   rw [s6]
   congr 2
   rw [Int.natCast_mul]
   exact aGt x y
  ·have e2:(((Z y).d.length:Int)==1)=false:=qF (by omega)
   simp only [e2,bO]
   exact hc
 ·have e1:(((Z x).d.length:Int)==1)=false:=qF (by omega)
  simp only [e1,bO,aFB]
  exact hc
end Go.Proofs.YtcjdedkdoagifaaGreat
