/- Texts of the proof, part 2: K15 I1 IZ P2 P3 P4. -/
import Derived.Test.YtolfcbpgmfbgmaaGreatProg
import Derived.KernelRfl
import Derived.IntWalk
import Derived.Test.YtolfcbpgmfbgmaaGreatZ1
set_option linter.unusedSimpArgs false
set_option linter.unusedVariables false
namespace Go.Proofs.YtolfcbpgmfbgmaaGreat
structure GC (S:Sx) (c:Code) (κ:Kt) (H:List HA) (E:qK) (Q:Prop):Prop where
 h:Q→WC S c κ H E
structure GX (S:Sx) (e:Exit) (κ:Kt) (H:List HA) (E:qK) (Q:Prop):Prop where
 h:Q→WX S e κ H E
structure GL (S:Sx) (ops:Array Oper) (κ:Kt) (l:List Oper) (H:List HA) (E:qK) (Q:Prop):Prop where
 h:Q→WL S ops κ l H E
inductive D:Prop→Prop→Prop
 |mk {P Q:Prop} (h:Q→P):D P Q
theorem D.h {P Q:Prop} (h:D P Q):Q→P:=by cases h;assumption
section
variable {S:Sx} {κ:Kt} {H:List HA} {E:qK} {Q:Prop}
theorem sC {c:Code} (k:GC S c κ H E Q):D (WC S c κ H E) Q:=⟨k.h⟩
theorem sX {e:Exit} (k:GX S e κ H E Q):D (WX S e κ H E) Q:=⟨k.h⟩
theorem sL {ops:Array Oper} {l:List Oper} (k:GL S ops κ l H E Q):D (WL S ops κ l H E) Q:=⟨k.h⟩
theorem eC {c:Code}:GC S c κ H E (WC S c κ H E):=⟨fun q=>q⟩
theorem eX {e:Exit}:GX S e κ H E (WX S e κ H E):=⟨fun q=>q⟩
theorem eL {ops:Array Oper} {l:List Oper}:GL S ops κ l H E (WL S ops κ l H E):=⟨fun q=>q⟩
theorem aNV {x y:Code} (k:GC S x (.seq y κ) H E Q):GC S (.seq x y) κ H E Q:=⟨fun q=>aD (k.h q)⟩
theorem aLn {y:Code} (k:GC S y κ H E Q):GX S .normal (.seq y κ) H E Q:=⟨fun q=>aJ (k.h q)⟩
theorem aMO (k:GX S .normal κ H E Q):GC S .skip κ H E Q:=⟨fun q=>iC (k.h q)⟩
theorem aJd {l:Nat} (k:GX S .normal κ H E Q):GC S (.label l) κ H E Q:=⟨fun q=>aNo (k.h q)⟩
theorem aLY {id:Nat} (k:GX S .normal κ H E Q):GX S .normal (.blk id κ) H E Q:=⟨fun q=>aAV (k.h q)⟩
theorem aJN {c:Code} (k:GC S c (.sc κ) H E Q):GC S (.scope c) κ H E Q:=⟨fun q=>aJ3 (k.h q)⟩
theorem aOz (k:GX S .normal κ H E Q):GX S .normal (.sc κ) H E Q:=⟨fun q=>aQf (k.h q)⟩
theorem aO0 {id:Nat} {l:List Oper} (k:GL S l.toArray κ l H E Q):GC S (.region id l.toArray false) κ H E Q:=⟨fun q=>aK (k.h q)⟩
theorem aOU {ops:Array Oper} (k:GX S .normal κ H E Q):GL S ops κ [] H E Q:=⟨fun q=>aU (k.h q)⟩
end
def ev (E:qK):Operand→Option VP
 | .tmp d=>iW E d
 | .const (.int k n)=>some (.vc (pI k n))
 | .const (.bool b)=>some (.vc (pB b))
 |_=>none
theorem dN {E:qK}:∀{x:Operand} {p:VP},ev E x=some p→aEg E x p
 | .tmp d,p,h=>h
 | .const (.int k n),p,h=>by cases h;exact oJ k n
 | .const (.bool b),p,h=>by cases h;exact k_B b
def evs (E:qK):List Operand→Option (List VP)
 |[]=>some []
 |x::l=>(ev E x).bind fun p=>(evs E l).bind fun ps=>some (p::ps)
theorem aGm {E:qK}:∀{l:List Operand} {ps:List VP},evs E l=some ps→wY E (l.zip ps)∧l.length=ps.length
 |[],ps,h=>by cases h;exact⟨trivial,rfl⟩
 |x::l,ps,h=>by
  obtain⟨p,h1,h⟩:=Option.bind_eq_some_iff.1 h
  obtain⟨qs,h2,h⟩:=Option.bind_eq_some_iff.1 h
  cases h
  exact⟨⟨dN h1,(aGm h2).1⟩,congrArg (·+1) (aGm h2).2⟩
theorem wO {k:Nat} {l qs:List CP} (h:s8 k l=some qs):qs.length=k:=(aAh h).2
inductive iB:List HA→Option Nat→HA→Prop
 |a {e:HA} {H:List HA} {β:Option Nat} (h:e.β=β):iB (e::H) β e
 |b {e x:HA} {H:List HA} {β:Option Nat} (h:iB H β e):iB (x::H) β e
theorem iB.at {H:List HA} {β:Option Nat} {e:HA} (h:iB H β e):∃i:Nat,H[i]?=some e∧e.β=β:=by
 induction h with
 |a h=>exact⟨0,rfl,h⟩
 |b _ ih=>obtain⟨i,h1,h2⟩:=ih;exact⟨i+1,by simpa using h1,h2⟩
inductive xT:List HA→Option Nat→HA→HA→List HA→Prop
 |a {e e':HA} {H:List HA} {β:Option Nat} (h:e.β=β):xT (e::H) β e e' (e'::H)
 |b {e e' x:HA} {H H':List HA} {β:Option Nat} (h:xT H β e e' H'):xT (x::H) β e e' (x::H')
theorem xT.at {H H':List HA} {β:Option Nat} {e e':HA} (h:xT H β e e' H'):∃i:Nat,H[i]?=some e∧e.β=β∧yM H i e'=some H':=by
 induction h with
 |a h=>exact⟨0,rfl,h,rfl⟩
 |@b e e' x H H' β _ ih=>
  obtain⟨i,h1,h2,h3⟩:=ih
  exact⟨i+1,by simpa using h1,h2,by simp only [yM,h3]⟩
inductive dD (ops:Array Oper) (E:qK):Option (Nat×Bool)→Prop
 |p:dD ops E none
 |g {j dj:Nat} {b:Bool} {og:Oper} (hj:ops[j]?=some og) (hdj:og.dst=some dj) (hl:iW E dj=some (.vc (pB b))):dD ops E (some (j,b))
theorem tY {α β γ:Type} {a:Option α} {b:α→Option β} {f:α→β→Option γ} {r:γ} (h:(a.bind fun x=>(b x).bind fun y=>f x y)=some r):∃x,a=some x∧∃y,b x=some y∧f x y=some r:=by
 obtain⟨x,h1,h⟩:=aO h
 exact⟨x,h1,aO h⟩
theorem bn3 {α β γ δ:Type} {a:Option α} {b:α→Option β} {c:α→β→Option γ} {f:α→β→γ→Option δ} {r:δ} (h:(a.bind fun x=>(b x).bind fun y=>(c x y).bind fun z=>f x y z)=some r):∃x,a=some x∧∃y,b x=some y∧∃z,c x y=some z∧f x y z=some r:=by
 obtain⟨x,h1,h⟩:=aO h
 exact⟨x,h1,tY h⟩
theorem bn4 {α β γ δ ε:Type} {a:Option α} {b:α→Option β} {c:α→β→Option γ} {d:α→β→γ→Option δ} {f:α→β→γ→δ→Option ε} {r:ε} (h:(a.bind fun x=>(b x).bind fun y=>(c x y).bind fun z=>(d x y z).bind fun t=>f x y z t)=some r):∃x,a=some x∧∃y,b x=some y∧∃z,c x y=some z∧∃t,d x y z=some t∧f x y z t=some r:=by
 obtain⟨x,h1,h⟩:=aO h
 exact⟨x,h1,bn3 h⟩
theorem qB {α β:Type} {o:Option α} {f:α→Option β} {v:α} {r:β} (h:o=some v) (k:o.bind f=some r):f v=some r:=by rw [h] at k;exact k
theorem aX {α β:Type} {o:Option α} {f:α→Option β} {q:β} {C:α→Prop} (h:o.bind f=some q) (c:∀{r:α},o=some r→C r):∃v,C v∧f v=some q:=by
 obtain⟨v,h1,h⟩:=aO h
 exact⟨v,c h1,h⟩
section
variable {S:Sx} {κ:Kt} {H H':List HA} {E:qK} {ops:Array Oper} {rest:List Oper} {Q:Prop} {ty:TypeId} {pos:String} {af:Array Edge} {g:Option (Nat×Bool)} {d:Nat}
theorem kQ {op:Op} {ins:List (Operand×VP)} {out:VP} (t:Tr S ⟨some d,op,ty,pos,af,g⟩ H H' ins out) (hi:wY E ins) (hg:dD ops E g) (hN:Nat.blt d S.N=true) (k:GL S ops κ rest H' ((d,out)::E) Q):GL S ops κ (⟨some d,op,ty,pos,af,g⟩::rest) H E Q:=by
 refine⟨fun q=>?_⟩
 cases hg with
 |p=>exact aH t hi (k.h q) rfl rfl hN
 |g hj hdj hl=>exact wE t hi (k.h q) rfl hj hdj hl rfl hN
theorem b_n {op:Op} {j dj:Nat} {b b':Bool} {og:Oper} (hj:ops[j]?=some og) (hdj:og.dst=some dj) (hl:iW E dj=some (.vc (pB b'))) (hb:(b' != b)=true) (hN:Nat.blt d S.N=true) (k:GL S ops κ rest H ((d,.un)::E) Q):GL S ops κ (⟨some d,op,ty,pos,af,some (j,b)⟩::rest) H E Q:=⟨fun q=>aAY (k.h q) rfl hj hdj hl hb rfl hN⟩
theorem b_u {op:Op} {j dj:Nat} {b:Bool} {og:Oper} (hj:ops[j]?=some og) (hdj:og.dst=some dj) (hl:iW E dj=some .un) (hN:Nat.blt d S.N=true) (k:GL S ops κ rest H ((d,.un)::E) Q):GL S ops κ (⟨some d,op,ty,pos,af,some (j,b)⟩::rest) H E Q:=⟨fun q=>aQu (k.h q) rfl hj hdj hl rfl hN⟩
end
class Mix (P:Program):Prop where
 h:P.follows .mixedOrders=true
def sF (l:List Oper) (ms:List Nat) (E:qK) (outs:List Ou) (G:Gh) (i:Nat):Operand→Option VP
 | .tmp d=>x0 l ms E outs G i d
 | .const (.int k n)=>some (.vc (pI k n))
 | .const (.bool b)=>some (.vc (pB b))
 |_=>none
theorem bM {l:List Oper} {ms:List Nat} {E:qK} {outs:List Ou} {G:Gh} {i:Nat}:∀{x:Operand} {p:VP},sF l ms E outs G i x=some p→aNX l ms E outs G i x p
 | .tmp d,p,h=>h
 | .const (.int k n),p,h=>by cases h;exact oJ k n
 | .const (.bool b),p,h=>by cases h;exact k_B b
def aPQ (l:List Oper) (ms:List Nat) (E:qK) (outs:List Ou) (G:Gh) (i:Nat):List Operand→Option (List VP)
 |[]=>some []
 |x::r=>(sF l ms E outs G i x).bind fun p=>(aPQ l ms E outs G i r).bind fun ps=>some (p::ps)
theorem aDY {l:List Oper} {ms:List Nat} {E:qK} {outs:List Ou} {G:Gh} {i:Nat}:∀{r:List Operand} {ps:List VP},aPQ l ms E outs G i r=some ps→aE9 l ms E outs G i (r.zip ps)∧r.length=ps.length
 |[],ps,h=>by cases h;exact⟨trivial,rfl⟩
 |x::r,ps,h=>by
  obtain⟨p,h1,h⟩:=Option.bind_eq_some_iff.1 h
  obtain⟨qs,h2,h⟩:=Option.bind_eq_some_iff.1 h
  cases h
  exact⟨⟨bM h1,(aDY h2).1⟩,congrArg (·+1) (aDY h2).2⟩
theorem iB.app {H A:List HA} {β:Option Nat} {e:HA} (h:iB H β e):iB (H++A) β e:=by
 induction h with
 |a h=>exact .a h
 |b _ ih=>exact .b ih
inductive GD (l:List Oper) (ms:List Nat) (E:qK) (outs:List Ou) (i:Nat):Option (Nat×Bool)→Prop
 |p:GD l ms E outs i none
 |g {j d:Nat} {b:Bool} (hd:(l[j]?).bind (·.dst)=some d) (hl:∀G,x0 l ms E outs G i d=some (.vc (pB b))):GD l ms E outs i (some (j,b))
structure DN (S:Sx) (H:List HA) (l0:List Oper) (ms:List Nat) (E:qK) (outs:List Ou) (n i:Nat) (l:List Oper) (r:List Ou):Prop where
 h:aGT S (fun _ _=>H) [] l0 ms E outs i l r
 len:r.length=n
section
variable {S:Sx} {H:List HA} {l0 l:List Oper} {ms:List Nat} {E:qK} {outs r:List Ou} {n i d:Nat} {ty:TypeId} {pos:String} {af:Array Edge} {g:Option (Nat×Bool)}
theorem aOZ (hr:r=[]):DN S H l0 ms E outs 0 i l r:=by subst hr;exact⟨by cases l<;>trivial,rfl⟩
theorem aGi {o:Oper} {q:Ou} (h1:o.dst.all (Nat.blt · S.N)=true) (h2:DOp S (fun _ _=>H) [] l0 ms E outs i o q) (k:DN S H l0 ms E outs n (i+1) l r):DN S H l0 ms E outs (n+1) i (o::l) (q::r):=⟨⟨⟨h1,h2⟩,k.h⟩,congrArg (·+1) k.len⟩
theorem iH {op:Op} {ins:List (Operand×VP)} {out:VP} (t:∀A,Tr S ⟨some d,op,ty,pos,af,g⟩ (H++A) (H++A) ins out) (hs:∀G,aE9 l0 ms E outs G i ins) (hN:Nat.blt d S.N=true) (hg:GD l0 ms E outs i g) (h1:lH ms [] i [0]=true) {r0:List Ou} (hr:r0=.v out::r) (k:DN S H l0 ms E outs n (i+1) l r):DN S H l0 ms E outs (n+1) i (⟨some d,op,ty,pos,af,g⟩::l) r0:=by
 subst hr
 refine aGi hN ?_ k
 cases hg with
 |p=>exact .run (L:=[0]) (ins:=fun _=>ins) ⟨fun _ A=>t A,trivial⟩ hs rfl h1 rfl
 |g hd hl=>exact .runG (L:=[0]) (ins:=fun _=>ins) ⟨fun _ A=>t A,trivial⟩ hs rfl hd hl h1 rfl
theorem e_n {r0:List Ou} {op:Op} {j dj:Nat} {b b':Bool} (hd:(l0[j]?).bind (·.dst)=some dj) (hl:∀G,x0 l0 ms E outs G i dj=some (.vc (pB b'))) (hb:(b' != b)=true) (hN:Nat.blt d S.N=true) (hr:r0=.v .un::r) (k:DN S H l0 ms E outs n (i+1) l r):DN S H l0 ms E outs (n+1) i (⟨some d,op,ty,pos,af,some (j,b)⟩::l) r0:=hr▸aGi hN (.skipN rfl hd hl hb rfl) k
theorem e_u {r0:List Ou} {op:Op} {j dj:Nat} {b:Bool} (hd:(l0[j]?).bind (·.dst)=some dj) (hl:∀G,x0 l0 ms E outs G i dj=some .un) (hN:Nat.blt d S.N=true) (hr:r0=.v .un::r) (k:DN S H l0 ms E outs n (i+1) l r):DN S H l0 ms E outs (n+1) i (⟨some d,op,ty,pos,af,some (j,b)⟩::l) r0:=hr▸aGi hN (.skipU rfl hd hl rfl) k
end
section
variable {S:Sx} {κ:Kt} {H H':List HA} {E:qK} {ops:Array Oper} {rest:List Oper} {Q:Prop} {ty:TypeId} {pos:String} {af:Array Edge} {g:Option (Nat×Bool)} {d:Nat} {l0 l:List Oper} {ms:List Nat} {outs ro:List Ou} {n i:Nat}
theorem aRc {x:Operand} {p:VP} (hx:ev E x=some p) (hN:Nat.blt d S.N=true) (hg:dD ops E g) (k:GL S ops κ rest H ((d,p)::E) Q):GL S ops κ (⟨some d,.move x,ty,pos,af,g⟩::rest) H E Q:=
 kQ (aM (.inl rfl)) ⟨dN hx,trivial⟩ hg hN k
theorem aQl {x:Operand} {p:VP} (hx:∀G,sF l0 ms E outs G i x=some p) (hN:Nat.blt d S.N=true) (hg:GD l0 ms E outs i g) (h1:lH ms [] i [0]=true) {r0:List Ou} (hr:r0=.v (p)::ro) (kk:DN S H l0 ms E outs n (i+1) l ro):DN S H l0 ms E outs (n+1) i (⟨some d,.move x,ty,pos,af,g⟩::l) r0:=
 iH (fun A=>aM (.inl rfl)) (fun G=>⟨bM (hx G),trivial⟩) hN hg h1 hr kk
theorem aQL {x:Operand} {b:Bool} {w:Bool} (hx:∀G,sF l0 ms E outs G i x=some (.vc (pB b))) (hN:Nat.blt d S.N=true) (hg:GD l0 ms E outs i g) (h1:lH ms [] i [0]=true) (hb:b=w) {r0:List Ou} (hr:r0=.v (.vc (pB w))::ro) (kk:DN S H l0 ms E outs n (i+1) l ro):DN S H l0 ms E outs (n+1) i (⟨some d,.move x,ty,pos,af,g⟩::l) r0:=
 iH (fun A=>lL (aM (.inl rfl)) hb) (fun G=>⟨bM (hx G),trivial⟩) hN hg h1 hr kk
theorem aQe {x:Operand} {p:VP} (hx:ev E x=some p) (hN:Nat.blt d S.N=true) (hg:dD ops E g) (k:GL S ops κ rest H ((d,p)::E) Q):GL S ops κ (⟨some d,.assign x,ty,pos,af,g⟩::rest) H E Q:=
 kQ (aM (.inr rfl)) ⟨dN hx,trivial⟩ hg hN k
theorem aQG {x:Operand} {p:VP} (hx:∀G,sF l0 ms E outs G i x=some p) (hN:Nat.blt d S.N=true) (hg:GD l0 ms E outs i g) (h1:lH ms [] i [0]=true) {r0:List Ou} (hr:r0=.v (p)::ro) (kk:DN S H l0 ms E outs n (i+1) l ro):DN S H l0 ms E outs (n+1) i (⟨some d,.assign x,ty,pos,af,g⟩::l) r0:=
 iH (fun A=>aM (.inr rfl)) (fun G=>⟨bM (hx G),trivial⟩) hN hg h1 hr kk
theorem aPX {x:Operand} {b:Bool} {w:Bool} (hx:∀G,sF l0 ms E outs G i x=some (.vc (pB b))) (hN:Nat.blt d S.N=true) (hg:GD l0 ms E outs i g) (h1:lH ms [] i [0]=true) (hb:b=w) {r0:List Ou} (hr:r0=.v (.vc (pB w))::ro) (kk:DN S H l0 ms E outs n (i+1) l ro):DN S H l0 ms E outs (n+1) i (⟨some d,.assign x,ty,pos,af,g⟩::l) r0:=
 iH (fun A=>lL (aM (.inr rfl)) hb) (fun G=>⟨bM (hx G),trivial⟩) hN hg h1 hr kk
theorem aQR {α:Type} {C:Cd α} {t e bytes:Nat} {x y:Operand} {xs:List α} {j:Int} {z:α} {k:IntKind} (hx:ev E x=some (.vc (pS C xs))) (hy:ev E y=some (.vc (pI k j))) (ht:TyS S.P t e C.n bytes) (hN:Nat.blt d S.N=true) (hg:dD ops E g) (hj:bO xs j=some z) (k:GL S ops κ rest H ((d,.vc (pM (C.e z)))::E) Q):GL S ops κ (⟨some d,.indexAddr t x y,ty,pos,af,g⟩::rest) H E Q:=
 kQ (vZ rfl ht hj) ⟨dN hx,dN hy,trivial⟩ hg hN k
theorem aP1 {α:Type} {C:Cd α} {t e bytes:Nat} {x y:Operand} {xs:List α} {j:Int} {z:α} {k:IntKind} (hx:∀G,sF l0 ms E outs G i x=some (.vc (pS C xs))) (hy:∀G,sF l0 ms E outs G i y=some (.vc (pI k j))) (ht:TyS S.P t e C.n bytes) (hN:Nat.blt d S.N=true) (hg:GD l0 ms E outs i g) (h1:lH ms [] i [0]=true) (hj:bO xs j=some z) {r0:List Ou} (hr:r0=.v (.vc (pM (C.e z)))::ro) (kk:DN S H l0 ms E outs n (i+1) l ro):DN S H l0 ms E outs (n+1) i (⟨some d,.indexAddr t x y,ty,pos,af,g⟩::l) r0:=
 iH (fun A=>vZ rfl ht hj) (fun G=>⟨bM (hx G),bM (hy G),trivial⟩) hN hg h1 hr kk
theorem aOE {s f k:Nat} {x:Operand} {ps:List CP} (hx:ev E x=some (.vc (pM ps))) (hf:TyF S.P s f k) (hN:Nat.blt d S.N=true) (hg:dD ops E g) (k:GL S ops κ rest H ((d,.vc (pM (ps.drop k)))::E) Q):GL S ops κ (⟨some d,.fieldAddr s x f,ty,pos,af,g⟩::rest) H E Q:=
 kQ (aLi rfl hf) ⟨dN hx,trivial⟩ hg hN k
theorem aOQ {s f k:Nat} {x:Operand} {ps:List CP} (hx:∀G,sF l0 ms E outs G i x=some (.vc (pM ps))) (hf:TyF S.P s f k) (hN:Nat.blt d S.N=true) (hg:GD l0 ms E outs i g) (h1:lH ms [] i [0]=true) {r0:List Ou} (hr:r0=.v (.vc (pM (ps.drop k)))::ro) (kk:DN S H l0 ms E outs n (i+1) l ro):DN S H l0 ms E outs (n+1) i (⟨some d,.fieldAddr s x f,ty,pos,af,g⟩::l) r0:=
 iH (fun A=>aLi rfl hf) (fun G=>⟨bM (hx G),trivial⟩) hN hg h1 hr kk
theorem aQJ {s f off k:Nat} {x:Operand} {β:Option Nat} (hx:ev E x=some (.vc (pP β off))) (hf:TyF S.P s f k) (hN:Nat.blt d S.N=true) (hg:dD ops E g) (k:GL S ops κ rest H ((d,.vc (pP β (off+k)))::E) Q):GL S ops κ (⟨some d,.fieldAddr s x f,ty,pos,af,g⟩::rest) H E Q:=
 kQ (jW rfl hf) ⟨dN hx,trivial⟩ hg hN k
theorem aQE {s f off k:Nat} {x:Operand} {β:Option Nat} (hx:∀G,sF l0 ms E outs G i x=some (.vc (pP β off))) (hf:TyF S.P s f k) (hN:Nat.blt d S.N=true) (hg:GD l0 ms E outs i g) (h1:lH ms [] i [0]=true) {r0:List Ou} (hr:r0=.v (.vc (pP β (off+k)))::ro) (kk:DN S H l0 ms E outs n (i+1) l ro):DN S H l0 ms E outs (n+1) i (⟨some d,.fieldAddr s x f,ty,pos,af,g⟩::l) r0:=
 iH (fun A=>jW rfl hf) (fun G=>⟨bM (hx G),trivial⟩) hN hg h1 hr kk
theorem aN3 {s f n off k:Nat} {x:Operand} {β:Option Nat} {j:Int} (hx:ev E x=some (.vc (pE β j n off))) (hf:TyF S.P s f k) (hN:Nat.blt d S.N=true) (hg:dD ops E g) (k:GL S ops κ rest H ((d,.vc (pE β j n (off+k)))::E) Q):GL S ops κ (⟨some d,.fieldAddr s x f,ty,pos,af,g⟩::rest) H E Q:=
 kQ (aFF rfl hf) ⟨dN hx,trivial⟩ hg hN k
theorem aOe {s f n off k:Nat} {x:Operand} {β:Option Nat} {j:Int} (hx:∀G,sF l0 ms E outs G i x=some (.vc (pE β j n off))) (hf:TyF S.P s f k) (hN:Nat.blt d S.N=true) (hg:GD l0 ms E outs i g) (h1:lH ms [] i [0]=true) {r0:List Ou} (hr:r0=.v (.vc (pE β j n (off+k)))::ro) (kk:DN S H l0 ms E outs n (i+1) l ro):DN S H l0 ms E outs (n+1) i (⟨some d,.fieldAddr s x f,ty,pos,af,g⟩::l) r0:=
 iH (fun A=>aFF rfl hf) (fun G=>⟨bM (hx G),trivial⟩) hN hg h1 hr kk
theorem aOF {t:Nat} {x:Operand} {ps:List CP} {q:CP} (hx:ev E x=some (.vc (pM ps))) (ht:Ty1 S.P t) (hq:s8 1 ps=some [q]) (hN:Nat.blt d S.N=true) (hg:dD ops E g) (k:GL S ops κ rest H ((d,.vc q)::E) Q):GL S ops κ (⟨some d,.load t x,ty,pos,af,g⟩::rest) H E Q:=
 kQ (vH 1 rfl hq (.one ht)) ⟨dN hx,trivial⟩ hg hN k
theorem aOn {t:Nat} {x:Operand} {ps:List CP} {q:CP} (hx:∀G,sF l0 ms E outs G i x=some (.vc (pM ps))) (ht:Ty1 S.P t) (hq:s8 1 ps=some [q]) (hN:Nat.blt d S.N=true) (hg:GD l0 ms E outs i g) (h1:lH ms [] i [0]=true) {r0:List Ou} (hr:r0=.v (.vc q)::ro) (kk:DN S H l0 ms E outs n (i+1) l ro):DN S H l0 ms E outs (n+1) i (⟨some d,.load t x,ty,pos,af,g⟩::l) r0:=
 iH (fun A=>vH 1 rfl hq (.one ht)) (fun G=>⟨bM (hx G),trivial⟩) hN hg h1 hr kk
theorem aOL {t q:Nat} {x:Operand} {ps qs:List CP} (hx:ev E x=some (.vc (pM ps))) (ht:TyA S.P t q) (hq:s8 q ps=some qs) (hN:Nat.blt d S.N=true) (hg:dD ops E g) (k:GL S ops κ rest H ((d,.va qs)::E) Q):GL S ops κ (⟨some d,.load t x,ty,pos,af,g⟩::rest) H E Q:=
 kQ (vH q rfl hq (.agg ht (wO hq))) ⟨dN hx,trivial⟩ hg hN k
theorem aN1 {t q:Nat} {x:Operand} {ps qs:List CP} (hx:∀G,sF l0 ms E outs G i x=some (.vc (pM ps))) (ht:TyA S.P t q) (hq:s8 q ps=some qs) (hN:Nat.blt d S.N=true) (hg:GD l0 ms E outs i g) (h1:lH ms [] i [0]=true) {r0:List Ou} (hr:r0=.v (.va qs)::ro) (kk:DN S H l0 ms E outs n (i+1) l ro):DN S H l0 ms E outs (n+1) i (⟨some d,.load t x,ty,pos,af,g⟩::l) r0:=
 iH (fun A=>vH q rfl hq (.agg ht (wO hq))) (fun G=>⟨bM (hx G),trivial⟩) hN hg h1 hr kk
theorem aRe {t off:Nat} {x:Operand} {β:Option Nat} {e:HA} {q:CP} (hx:ev E x=some (.vc (pP β off))) (ht:Ty1 S.P t) (hi:iB H β e) (hq:s8 1 (e.ps.drop off)=some [q]) (hN:Nat.blt d S.N=true) (hg:dD ops E g) (k:GL S ops κ rest H ((d,.vc q)::E) Q):GL S ops κ (⟨some d,.load t x,ty,pos,af,g⟩::rest) H E Q:=by
 obtain⟨i,hi1,hi2⟩:=hi.at
 exact kQ (iD i 1 rfl hi1 hi2 hq (.one ht)) ⟨dN hx,trivial⟩ hg hN k
theorem aQc {t off:Nat} {x:Operand} {β:Option Nat} {e:HA} {q:CP} (hx:∀G,sF l0 ms E outs G i x=some (.vc (pP β off))) (ht:Ty1 S.P t) (hi:iB H β e) (hq:s8 1 (e.ps.drop off)=some [q]) (hN:Nat.blt d S.N=true) (hg:GD l0 ms E outs i g) (h1:lH ms [] i [0]=true) {r0:List Ou} (hr:r0=.v (.vc q)::ro) (kk:DN S H l0 ms E outs n (i+1) l ro):DN S H l0 ms E outs (n+1) i (⟨some d,.load t x,ty,pos,af,g⟩::l) r0:=by
 refine iH (ins:=[(x,(.vc (pP β off)))]) (fun A=>?_) (fun G=>⟨bM (hx G),trivial⟩) hN hg h1 hr kk
 obtain⟨i,hi1,hi2⟩:=(hi.app (A:=A)).at
 exact iD i 1 rfl hi1 hi2 hq (.one ht)
theorem aP6 {t m off:Nat} {x:Operand} {β:Option Nat} {e:HA} {qs:List CP} (hx:ev E x=some (.vc (pP β off))) (ht:TyA S.P t m) (hi:iB H β e) (hq:s8 m (e.ps.drop off)=some qs) (hN:Nat.blt d S.N=true) (hg:dD ops E g) (k:GL S ops κ rest H ((d,.va qs)::E) Q):GL S ops κ (⟨some d,.load t x,ty,pos,af,g⟩::rest) H E Q:=by
 obtain⟨i,hi1,hi2⟩:=hi.at
 exact kQ (iD i m rfl hi1 hi2 hq (.agg ht (wO hq))) ⟨dN hx,trivial⟩ hg hN k
theorem aQg {t m off:Nat} {x:Operand} {β:Option Nat} {e:HA} {qs:List CP} (hx:∀G,sF l0 ms E outs G i x=some (.vc (pP β off))) (ht:TyA S.P t m) (hi:iB H β e) (hq:s8 m (e.ps.drop off)=some qs) (hN:Nat.blt d S.N=true) (hg:GD l0 ms E outs i g) (h1:lH ms [] i [0]=true) {r0:List Ou} (hr:r0=.v (.va qs)::ro) (kk:DN S H l0 ms E outs n (i+1) l ro):DN S H l0 ms E outs (n+1) i (⟨some d,.load t x,ty,pos,af,g⟩::l) r0:=by
 refine iH (ins:=[(x,(.vc (pP β off)))]) (fun A=>?_) (fun G=>⟨bM (hx G),trivial⟩) hN hg h1 hr kk
 obtain⟨i,hi1,hi2⟩:=(hi.app (A:=A)).at
 exact iD i m rfl hi1 hi2 hq (.agg ht (wO hq))
theorem aOT {α:Type} {C:Cd α} {xs:List α} {β:Option Nat} {c T n1:Nat} {t e bytes:Nat} {x y:Operand} {j:Int} {k:IntKind} {z:α} (hx:ev E x=some (.vc (pO β n1 c))) (hy:ev E y=some (.vc (pI k j))) (hi:iB H β (hO C β c T n1 xs)) (hn:xs.length=n1) (ht:TyS S.P t e C.n bytes) (hN:Nat.blt d S.N=true) (hg:dD ops E g) (hj:bO xs j=some z) (k:GL S ops κ rest H ((d,.vc (pE β j C.n 0))::E) Q):GL S ops κ (⟨some d,.indexAddr t x y,ty,pos,af,g⟩::rest) H E Q:=by
 obtain⟨i,hi1,hi2⟩:=hi.at
 exact kQ (gN i rfl ht hi1 hn (aG hj).1 (aG hj).2.1) ⟨dN hx,dN hy,trivial⟩ hg hN k
theorem aOG {α:Type} {C:Cd α} {xs:List α} {β:Option Nat} {c T n1:Nat} {t e bytes:Nat} {x y:Operand} {j:Int} {k:IntKind} {z:α} (hx:∀G,sF l0 ms E outs G i x=some (.vc (pO β n1 c))) (hy:∀G,sF l0 ms E outs G i y=some (.vc (pI k j))) (hi:iB H β (hO C β c T n1 xs)) (hn:xs.length=n1) (ht:TyS S.P t e C.n bytes) (hN:Nat.blt d S.N=true) (hg:GD l0 ms E outs i g) (h1:lH ms [] i [0]=true) (hj:bO xs j=some z) {r0:List Ou} (hr:r0=.v (.vc (pE β j C.n 0))::ro) (kk:DN S H l0 ms E outs n (i+1) l ro):DN S H l0 ms E outs (n+1) i (⟨some d,.indexAddr t x y,ty,pos,af,g⟩::l) r0:=by
 refine iH (ins:=[(x,(.vc (pO β n1 c))),(y,(.vc (pI k j)))]) (fun A=>?_) (fun G=>⟨bM (hx G),bM (hy G),trivial⟩) hN hg h1 hr kk
 obtain⟨i,hi1,hi2⟩:=(hi.app (A:=A)).at
 exact gN i rfl ht hi1 hn (aG hj).1 (aG hj).2.1
theorem aOP {α:Type} {C:Cd α} {xs:List α} {β:Option Nat} {c T n1:Nat} {t e k bytes:Nat} {x:Operand} (hx:ev E x=some (.vc (pO β n1 c))) (hi:iB H β (hO C β c T n1 xs)) (hn:xs.length=n1) (ht:TyS S.P t e k bytes) (hN:Nat.blt d S.N=true) (hg:dD ops E g) (k:GL S ops κ rest H ((d,.vc (pI .i64 xs.length))::E) Q):GL S ops κ (⟨some d,.call {callee:=.builtin .len,args:=#[x],argTypes:=#[t]},ty,pos,af,g⟩::rest) H E Q:=by
 obtain⟨i,hi1,hi2⟩:=hi.at
 exact kQ (aAW (C:=C) (T:=T) rfl ht hn) ⟨dN hx,trivial⟩ hg hN k
theorem aOf {α:Type} {C:Cd α} {xs:List α} {β:Option Nat} {c T n1:Nat} {t e k bytes:Nat} {x:Operand} (hx:∀G,sF l0 ms E outs G i x=some (.vc (pO β n1 c))) (hi:iB H β (hO C β c T n1 xs)) (hn:xs.length=n1) (ht:TyS S.P t e k bytes) (hN:Nat.blt d S.N=true) (hg:GD l0 ms E outs i g) (h1:lH ms [] i [0]=true) {r0:List Ou} (hr:r0=.v (.vc (pI .i64 xs.length))::ro) (kk:DN S H l0 ms E outs n (i+1) l ro):DN S H l0 ms E outs (n+1) i (⟨some d,.call {callee:=.builtin .len,args:=#[x],argTypes:=#[t]},ty,pos,af,g⟩::l) r0:=by
 refine iH (ins:=[(x,(.vc (pO β n1 c)))]) (fun A=>?_) (fun G=>⟨bM (hx G),trivial⟩) hN hg h1 hr kk
 obtain⟨i,hi1,hi2⟩:=(hi.app (A:=A)).at
 exact aAW (C:=C) (T:=T) rfl ht hn
theorem aLR {α:Type} {C:Cd α} {xs:List α} {β:Option Nat} {c T n1:Nat} {t off m:Nat} {x:Operand} {j:Int} {z:α} {q:CP} (hx:ev E x=some (.vc (pE β j m off))) (hi:iB H β (hO C β c T n1 xs)) (hm:C.n=m) (hj:bO xs j=some z) (ht:Ty1 S.P t) (hq:s8 1 ((C.e z).drop off)=some [q]) (hC:Nat.ble (off+1) C.n=true) (hN:Nat.blt d S.N=true) (hg:dD ops E g) (k:GL S ops κ rest H ((d,.vc q)::E) Q):GL S ops κ (⟨some d,.load t x,ty,pos,af,g⟩::rest) H E Q:=by
 subst hm;obtain⟨i,hi1,hi2⟩:=hi.at
 exact kQ (lZ (k:=1) i rfl hi1 hj hq (.one ht) hC) ⟨dN hx,trivial⟩ hg hN k
theorem aLT {α:Type} {C:Cd α} {xs:List α} {β:Option Nat} {c T n1:Nat} {t off m:Nat} {x:Operand} {j:Int} {z:α} {q:CP} (hx:∀G,sF l0 ms E outs G i x=some (.vc (pE β j m off))) (hi:iB H β (hO C β c T n1 xs)) (hm:C.n=m) (hj:bO xs j=some z) (ht:Ty1 S.P t) (hq:s8 1 ((C.e z).drop off)=some [q]) (hC:Nat.ble (off+1) C.n=true) (hN:Nat.blt d S.N=true) (hg:GD l0 ms E outs i g) (h1:lH ms [] i [0]=true) {r0:List Ou} (hr:r0=.v (.vc q)::ro) (kk:DN S H l0 ms E outs n (i+1) l ro):DN S H l0 ms E outs (n+1) i (⟨some d,.load t x,ty,pos,af,g⟩::l) r0:=by
 subst hm;refine iH (ins:=[(x,(.vc (pE β j C.n off)))]) (fun A=>?_) (fun G=>⟨bM (hx G),trivial⟩) hN hg h1 hr kk
 obtain⟨i,hi1,hi2⟩:=(hi.app (A:=A)).at
 exact lZ (k:=1) i rfl hi1 hj hq (.one ht) hC
theorem aMI {α:Type} {C:Cd α} {xs:List α} {β:Option Nat} {c T n1:Nat} {t off m u:Nat} {x:Operand} {j:Int} {z:α} {qs:List CP} (hx:ev E x=some (.vc (pE β j m off))) (hi:iB H β (hO C β c T n1 xs)) (hm:C.n=m) (hj:bO xs j=some z) (ht:TyA S.P t u) (hq:s8 u ((C.e z).drop off)=some qs) (hC:Nat.ble (off+u) C.n=true) (hN:Nat.blt d S.N=true) (hg:dD ops E g) (k:GL S ops κ rest H ((d,.va qs)::E) Q):GL S ops κ (⟨some d,.load t x,ty,pos,af,g⟩::rest) H E Q:=by
 subst hm;obtain⟨i,hi1,hi2⟩:=hi.at
 exact kQ (lZ (k:=u) i rfl hi1 hj hq (.agg ht (wO hq)) hC) ⟨dN hx,trivial⟩ hg hN k
theorem aMh {α:Type} {C:Cd α} {xs:List α} {β:Option Nat} {c T n1:Nat} {t off m u:Nat} {x:Operand} {j:Int} {z:α} {qs:List CP} (hx:∀G,sF l0 ms E outs G i x=some (.vc (pE β j m off))) (hi:iB H β (hO C β c T n1 xs)) (hm:C.n=m) (hj:bO xs j=some z) (ht:TyA S.P t u) (hq:s8 u ((C.e z).drop off)=some qs) (hC:Nat.ble (off+u) C.n=true) (hN:Nat.blt d S.N=true) (hg:GD l0 ms E outs i g) (h1:lH ms [] i [0]=true) {r0:List Ou} (hr:r0=.v (.va qs)::ro) (kk:DN S H l0 ms E outs n (i+1) l ro):DN S H l0 ms E outs (n+1) i (⟨some d,.load t x,ty,pos,af,g⟩::l) r0:=by
 subst hm;refine iH (ins:=[(x,(.vc (pE β j C.n off)))]) (fun A=>?_) (fun G=>⟨bM (hx G),trivial⟩) hN hg h1 hr kk
 obtain⟨i,hi1,hi2⟩:=(hi.app (A:=A)).at
 exact lZ (k:=u) i rfl hi1 hj hq (.agg ht (wO hq)) hC
theorem ty1s {P:Program} {t:Nat} [h:Ty1 P t]:(P.info? t).map (·.size)=some 1:=h.s
theorem tyAs {P:Program} {t k:Nat} [h:TyA P t k]:(P.info? t).map (·.size)=some k:=h.s
theorem aJ7 {α:Type} {C:Cd α} {xs zs:List α} {β:Option Nat} {c T n1:Nat} {t off m u:Nat} {x y:Operand} {j:Int} {z z':α} {p:VP} (hx:ev E x=some (.vc (pE β j m off))) (hy:ev E y=some p) (hi:iB H β (hO C β c T n1 xs)) (hm:C.n=m) (hj:bO xs j=some z) (hs:pA xs j z'=some zs) (hT:(S.P.info? t).map (·.size)=some u) (hr:xT H β (hO C β c T n1 xs) (hO C β c T n1 zs) H') (hp:p.flat) (hk:p.cells.length=u) (hq:wN (C.e z) off p.cells=some (C.e z')) (k:GL S ops κ rest H' E Q):GL S ops κ (⟨none,.store t x y,ty,pos,af,none⟩::rest) H E Q:=by
 obtain⟨i,h1,h2,h3⟩:=hr.at
 subst hm
 exact⟨fun q=>lI (wB i rfl h1 hj hs hT hp hk hq h3) ⟨dN hx,dN hy,trivial⟩ (k.h q) rfl rfl⟩
theorem aQi {α:Type} {C:Cd α} {xs:List α} {t e q bytes:Nat} {x:Operand} (hx:ev E x=some (.vc (pS C xs))) (ht:TyS S.P t e q bytes) (hN:Nat.blt d S.N=true) (hg:dD ops E g) (k:GL S ops κ rest H ((d,.vc (pI .i64 xs.length))::E) Q):GL S ops κ (⟨some d,.call {callee:=.builtin .len,args:=#[x],argTypes:=#[t]},ty,pos,af,g⟩::rest) H E Q:=
 kQ (aGA rfl ht) ⟨dN hx,trivial⟩ hg hN k
theorem aQF {α:Type} {C:Cd α} {xs:List α} {t e q bytes:Nat} {x:Operand} (hx:∀G,sF l0 ms E outs G i x=some (.vc (pS C xs))) (ht:TyS S.P t e q bytes) (hN:Nat.blt d S.N=true) (hg:GD l0 ms E outs i g) (h1:lH ms [] i [0]=true) {r0:List Ou} (hr:r0=.v (.vc (pI .i64 xs.length))::ro) (kk:DN S H l0 ms E outs n (i+1) l ro):DN S H l0 ms E outs (n+1) i (⟨some d,.call {callee:=.builtin .len,args:=#[x],argTypes:=#[t]},ty,pos,af,g⟩::l) r0:=
 iH (fun A=>aGA rfl ht) (fun G=>⟨bM (hx G),trivial⟩) hN hg h1 hr kk
theorem aQT {T T':Nat} {x y:Operand} {u v:Int} {k:IntKind} (hx:ev E x=some (.vc (pI k u))) (hy:ev E y=some (.vc (pI k v))) (hN:Nat.blt d S.N=true) (hg:dD ops E g) (k:GL S ops κ rest H ((d,.vc (pB (decide (u<v))))::E) Q):GL S ops κ (⟨some d,.binOp .lss T x y T',ty,pos,af,g⟩::rest) H E Q:=
 kQ (aGb rfl) ⟨dN hx,dN hy,trivial⟩ hg hN k
theorem aQI {T T':Nat} {x y:Operand} {u v:Int} {k:IntKind} (hx:∀G,sF l0 ms E outs G i x=some (.vc (pI k u))) (hy:∀G,sF l0 ms E outs G i y=some (.vc (pI k v))) (hN:Nat.blt d S.N=true) (hg:GD l0 ms E outs i g) (h1:lH ms [] i [0]=true) {r0:List Ou} (hr:r0=.v (.vc (pB (decide (u<v))))::ro) (kk:DN S H l0 ms E outs n (i+1) l ro):DN S H l0 ms E outs (n+1) i (⟨some d,.binOp .lss T x y T',ty,pos,af,g⟩::l) r0:=
 iH (fun A=>aGb rfl) (fun G=>⟨bM (hx G),bM (hy G),trivial⟩) hN hg h1 hr kk
theorem aQm {T T':Nat} {x y:Operand} {u v:Int} {k:IntKind} {w:Bool} (hx:∀G,sF l0 ms E outs G i x=some (.vc (pI k u))) (hy:∀G,sF l0 ms E outs G i y=some (.vc (pI k v))) (hN:Nat.blt d S.N=true) (hg:GD l0 ms E outs i g) (h1:lH ms [] i [0]=true) (hb:(decide (u<v))=w) {r0:List Ou} (hr:r0=.v (.vc (pB w))::ro) (kk:DN S H l0 ms E outs n (i+1) l ro):DN S H l0 ms E outs (n+1) i (⟨some d,.binOp .lss T x y T',ty,pos,af,g⟩::l) r0:=
 iH (fun A=>lL (aGb rfl) hb) (fun G=>⟨bM (hx G),bM (hy G),trivial⟩) hN hg h1 hr kk
theorem aQQ {T T':Nat} {x y:Operand} {u v:Int} {k:IntKind} (hx:ev E x=some (.vc (pI k u))) (hy:ev E y=some (.vc (pI k v))) (hN:Nat.blt d S.N=true) (hg:dD ops E g) (k:GL S ops κ rest H ((d,.vc (pB (u==v)))::E) Q):GL S ops κ (⟨some d,.binOp .eql T x y T',ty,pos,af,g⟩::rest) H E Q:=
 kQ (aMZ rfl) ⟨dN hx,dN hy,trivial⟩ hg hN k
theorem aPZ {T T':Nat} {x y:Operand} {u v:Int} {k:IntKind} (hx:∀G,sF l0 ms E outs G i x=some (.vc (pI k u))) (hy:∀G,sF l0 ms E outs G i y=some (.vc (pI k v))) (hN:Nat.blt d S.N=true) (hg:GD l0 ms E outs i g) (h1:lH ms [] i [0]=true) {r0:List Ou} (hr:r0=.v (.vc (pB (u==v)))::ro) (kk:DN S H l0 ms E outs n (i+1) l ro):DN S H l0 ms E outs (n+1) i (⟨some d,.binOp .eql T x y T',ty,pos,af,g⟩::l) r0:=
 iH (fun A=>aMZ rfl) (fun G=>⟨bM (hx G),bM (hy G),trivial⟩) hN hg h1 hr kk
theorem aRi {T T':Nat} {x y:Operand} {u v:Int} {k:IntKind} {w:Bool} (hx:∀G,sF l0 ms E outs G i x=some (.vc (pI k u))) (hy:∀G,sF l0 ms E outs G i y=some (.vc (pI k v))) (hN:Nat.blt d S.N=true) (hg:GD l0 ms E outs i g) (h1:lH ms [] i [0]=true) (hb:(u==v)=w) {r0:List Ou} (hr:r0=.v (.vc (pB w))::ro) (kk:DN S H l0 ms E outs n (i+1) l ro):DN S H l0 ms E outs (n+1) i (⟨some d,.binOp .eql T x y T',ty,pos,af,g⟩::l) r0:=
 iH (fun A=>lL (aMZ rfl) hb) (fun G=>⟨bM (hx G),bM (hy G),trivial⟩) hN hg h1 hr kk
theorem aQ6 {T T':Nat} {x y:Operand} {u v:Int} {k:IntKind} (hx:ev E x=some (.vc (pI k u))) (hy:ev E y=some (.vc (pI k v))) (hN:Nat.blt d S.N=true) (hg:dD ops E g) (k:GL S ops κ rest H ((d,.vc (pB (u != v)))::E) Q):GL S ops κ (⟨some d,.binOp .neq T x y T',ty,pos,af,g⟩::rest) H E Q:=
 kQ (aMk rfl) ⟨dN hx,dN hy,trivial⟩ hg hN k
theorem aQv {T T':Nat} {x y:Operand} {u v:Int} {k:IntKind} (hx:∀G,sF l0 ms E outs G i x=some (.vc (pI k u))) (hy:∀G,sF l0 ms E outs G i y=some (.vc (pI k v))) (hN:Nat.blt d S.N=true) (hg:GD l0 ms E outs i g) (h1:lH ms [] i [0]=true) {r0:List Ou} (hr:r0=.v (.vc (pB (u != v)))::ro) (kk:DN S H l0 ms E outs n (i+1) l ro):DN S H l0 ms E outs (n+1) i (⟨some d,.binOp .neq T x y T',ty,pos,af,g⟩::l) r0:=
 iH (fun A=>aMk rfl) (fun G=>⟨bM (hx G),bM (hy G),trivial⟩) hN hg h1 hr kk
theorem aQy {T T':Nat} {x y:Operand} {u v:Int} {k:IntKind} {w:Bool} (hx:∀G,sF l0 ms E outs G i x=some (.vc (pI k u))) (hy:∀G,sF l0 ms E outs G i y=some (.vc (pI k v))) (hN:Nat.blt d S.N=true) (hg:GD l0 ms E outs i g) (h1:lH ms [] i [0]=true) (hb:(u != v)=w) {r0:List Ou} (hr:r0=.v (.vc (pB w))::ro) (kk:DN S H l0 ms E outs n (i+1) l ro):DN S H l0 ms E outs (n+1) i (⟨some d,.binOp .neq T x y T',ty,pos,af,g⟩::l) r0:=
 iH (fun A=>lL (aMk rfl) hb) (fun G=>⟨bM (hx G),bM (hy G),trivial⟩) hN hg h1 hr kk
theorem aQU {T T':Nat} {x y:Operand} {u v:Int} {k:IntKind} (hx:ev E x=some (.vc (pI k u))) (hy:ev E y=some (.vc (pI k v))) (hN:Nat.blt d S.N=true) (hg:dD ops E g) (k:GL S ops κ rest H ((d,.vc (pB (decide (u≤v))))::E) Q):GL S ops κ (⟨some d,.binOp .leq T x y T',ty,pos,af,g⟩::rest) H E Q:=
 kQ (aNk rfl) ⟨dN hx,dN hy,trivial⟩ hg hN k
theorem aQq {T T':Nat} {x y:Operand} {u v:Int} {k:IntKind} (hx:∀G,sF l0 ms E outs G i x=some (.vc (pI k u))) (hy:∀G,sF l0 ms E outs G i y=some (.vc (pI k v))) (hN:Nat.blt d S.N=true) (hg:GD l0 ms E outs i g) (h1:lH ms [] i [0]=true) {r0:List Ou} (hr:r0=.v (.vc (pB (decide (u≤v))))::ro) (kk:DN S H l0 ms E outs n (i+1) l ro):DN S H l0 ms E outs (n+1) i (⟨some d,.binOp .leq T x y T',ty,pos,af,g⟩::l) r0:=
 iH (fun A=>aNk rfl) (fun G=>⟨bM (hx G),bM (hy G),trivial⟩) hN hg h1 hr kk
theorem aQj {T T':Nat} {x y:Operand} {u v:Int} {k:IntKind} {w:Bool} (hx:∀G,sF l0 ms E outs G i x=some (.vc (pI k u))) (hy:∀G,sF l0 ms E outs G i y=some (.vc (pI k v))) (hN:Nat.blt d S.N=true) (hg:GD l0 ms E outs i g) (h1:lH ms [] i [0]=true) (hb:(decide (u≤v))=w) {r0:List Ou} (hr:r0=.v (.vc (pB w))::ro) (kk:DN S H l0 ms E outs n (i+1) l ro):DN S H l0 ms E outs (n+1) i (⟨some d,.binOp .leq T x y T',ty,pos,af,g⟩::l) r0:=
 iH (fun A=>lL (aNk rfl) hb) (fun G=>⟨bM (hx G),bM (hy G),trivial⟩) hN hg h1 hr kk
theorem aQH {T T':Nat} {x y:Operand} {u v:Int} {k:IntKind} (hx:ev E x=some (.vc (pI k u))) (hy:ev E y=some (.vc (pI k v))) (hN:Nat.blt d S.N=true) (hg:dD ops E g) (k:GL S ops κ rest H ((d,.vc (pB (decide (v<u))))::E) Q):GL S ops κ (⟨some d,.binOp .gtr T x y T',ty,pos,af,g⟩::rest) H E Q:=
 kQ (aKN rfl) ⟨dN hx,dN hy,trivial⟩ hg hN k
theorem aQZ {T T':Nat} {x y:Operand} {u v:Int} {k:IntKind} (hx:∀G,sF l0 ms E outs G i x=some (.vc (pI k u))) (hy:∀G,sF l0 ms E outs G i y=some (.vc (pI k v))) (hN:Nat.blt d S.N=true) (hg:GD l0 ms E outs i g) (h1:lH ms [] i [0]=true) {r0:List Ou} (hr:r0=.v (.vc (pB (decide (v<u))))::ro) (kk:DN S H l0 ms E outs n (i+1) l ro):DN S H l0 ms E outs (n+1) i (⟨some d,.binOp .gtr T x y T',ty,pos,af,g⟩::l) r0:=
 iH (fun A=>aKN rfl) (fun G=>⟨bM (hx G),bM (hy G),trivial⟩) hN hg h1 hr kk
theorem aQx {T T':Nat} {x y:Operand} {u v:Int} {k:IntKind} {w:Bool} (hx:∀G,sF l0 ms E outs G i x=some (.vc (pI k u))) (hy:∀G,sF l0 ms E outs G i y=some (.vc (pI k v))) (hN:Nat.blt d S.N=true) (hg:GD l0 ms E outs i g) (h1:lH ms [] i [0]=true) (hb:(decide (v<u))=w) {r0:List Ou} (hr:r0=.v (.vc (pB w))::ro) (kk:DN S H l0 ms E outs n (i+1) l ro):DN S H l0 ms E outs (n+1) i (⟨some d,.binOp .gtr T x y T',ty,pos,af,g⟩::l) r0:=
 iH (fun A=>lL (aKN rfl) hb) (fun G=>⟨bM (hx G),bM (hy G),trivial⟩) hN hg h1 hr kk
theorem aRa {T T':Nat} {x y:Operand} {u v:Int} {k:IntKind} (hx:ev E x=some (.vc (pI k u))) (hy:ev E y=some (.vc (pI k v))) (hN:Nat.blt d S.N=true) (hg:dD ops E g) (k:GL S ops κ rest H ((d,.vc (pB (decide (v≤u))))::E) Q):GL S ops κ (⟨some d,.binOp .geq T x y T',ty,pos,af,g⟩::rest) H E Q:=
 kQ (aPP rfl) ⟨dN hx,dN hy,trivial⟩ hg hN k
theorem aQ7 {T T':Nat} {x y:Operand} {u v:Int} {k:IntKind} (hx:∀G,sF l0 ms E outs G i x=some (.vc (pI k u))) (hy:∀G,sF l0 ms E outs G i y=some (.vc (pI k v))) (hN:Nat.blt d S.N=true) (hg:GD l0 ms E outs i g) (h1:lH ms [] i [0]=true) {r0:List Ou} (hr:r0=.v (.vc (pB (decide (v≤u))))::ro) (kk:DN S H l0 ms E outs n (i+1) l ro):DN S H l0 ms E outs (n+1) i (⟨some d,.binOp .geq T x y T',ty,pos,af,g⟩::l) r0:=
 iH (fun A=>aPP rfl) (fun G=>⟨bM (hx G),bM (hy G),trivial⟩) hN hg h1 hr kk
theorem aQo {T T':Nat} {x y:Operand} {u v:Int} {k:IntKind} {w:Bool} (hx:∀G,sF l0 ms E outs G i x=some (.vc (pI k u))) (hy:∀G,sF l0 ms E outs G i y=some (.vc (pI k v))) (hN:Nat.blt d S.N=true) (hg:GD l0 ms E outs i g) (h1:lH ms [] i [0]=true) (hb:(decide (v≤u))=w) {r0:List Ou} (hr:r0=.v (.vc (pB w))::ro) (kk:DN S H l0 ms E outs n (i+1) l ro):DN S H l0 ms E outs (n+1) i (⟨some d,.binOp .geq T x y T',ty,pos,af,g⟩::l) r0:=
 iH (fun A=>lL (aPP rfl) hb) (fun G=>⟨bM (hx G),bM (hy G),trivial⟩) hN hg h1 hr kk
theorem aOD {T T':Nat} {x y:Operand} {u v r:Int} (hx:ev E x=some (.vc (pI .i64 u))) (hy:ev E y=some (.vc (pI .i64 v))) (hN:Nat.blt d S.N=true) (hg:dD ops E g) (h:aR (u+v)=some r) (k:GL S ops κ rest H ((d,.vc (pI .i64 r))::E) Q):GL S ops κ (⟨some d,.binOp .add T x y T',ty,pos,af,g⟩::rest) H E Q:=
 kQ (yU rfl h) ⟨dN hx,dN hy,trivial⟩ hg hN k
theorem aOh {T T':Nat} {x y:Operand} {u v r:Int} (hx:∀G,sF l0 ms E outs G i x=some (.vc (pI .i64 u))) (hy:∀G,sF l0 ms E outs G i y=some (.vc (pI .i64 v))) (hN:Nat.blt d S.N=true) (hg:GD l0 ms E outs i g) (h1:lH ms [] i [0]=true) (h:aR (u+v)=some r) {r0:List Ou} (hr:r0=.v (.vc (pI .i64 r))::ro) (kk:DN S H l0 ms E outs n (i+1) l ro):DN S H l0 ms E outs (n+1) i (⟨some d,.binOp .add T x y T',ty,pos,af,g⟩::l) r0:=
 iH (fun A=>yU rfl h) (fun G=>⟨bM (hx G),bM (hy G),trivial⟩) hN hg h1 hr kk
theorem aOg {T T':Nat} {x y:Operand} {u v r:Int} (hx:ev E x=some (.vc (pI .i64 u))) (hy:ev E y=some (.vc (pI .i64 v))) (hN:Nat.blt d S.N=true) (hg:dD ops E g) (h:aR (u-v)=some r) (k:GL S ops κ rest H ((d,.vc (pI .i64 r))::E) Q):GL S ops κ (⟨some d,.binOp .sub T x y T',ty,pos,af,g⟩::rest) H E Q:=
 kQ (aHp rfl h) ⟨dN hx,dN hy,trivial⟩ hg hN k
theorem aOR {T T':Nat} {x y:Operand} {u v r:Int} (hx:∀G,sF l0 ms E outs G i x=some (.vc (pI .i64 u))) (hy:∀G,sF l0 ms E outs G i y=some (.vc (pI .i64 v))) (hN:Nat.blt d S.N=true) (hg:GD l0 ms E outs i g) (h1:lH ms [] i [0]=true) (h:aR (u-v)=some r) {r0:List Ou} (hr:r0=.v (.vc (pI .i64 r))::ro) (kk:DN S H l0 ms E outs n (i+1) l ro):DN S H l0 ms E outs (n+1) i (⟨some d,.binOp .sub T x y T',ty,pos,af,g⟩::l) r0:=
 iH (fun A=>aHp rfl h) (fun G=>⟨bM (hx G),bM (hy G),trivial⟩) hN hg h1 hr kk
theorem aOu {T T':Nat} {x y:Operand} {u v r:Int} (hx:ev E x=some (.vc (pI .i64 u))) (hy:ev E y=some (.vc (pI .i64 v))) (hN:Nat.blt d S.N=true) (hg:dD ops E g) (h:aR (u*v)=some r) (k:GL S ops κ rest H ((d,.vc (pI .i64 r))::E) Q):GL S ops κ (⟨some d,.binOp .mul T x y T',ty,pos,af,g⟩::rest) H E Q:=
 kQ (aCK rfl h) ⟨dN hx,dN hy,trivial⟩ hg hN k
theorem aOl {T T':Nat} {x y:Operand} {u v r:Int} (hx:∀G,sF l0 ms E outs G i x=some (.vc (pI .i64 u))) (hy:∀G,sF l0 ms E outs G i y=some (.vc (pI .i64 v))) (hN:Nat.blt d S.N=true) (hg:GD l0 ms E outs i g) (h1:lH ms [] i [0]=true) (h:aR (u*v)=some r) {r0:List Ou} (hr:r0=.v (.vc (pI .i64 r))::ro) (kk:DN S H l0 ms E outs n (i+1) l ro):DN S H l0 ms E outs (n+1) i (⟨some d,.binOp .mul T x y T',ty,pos,af,g⟩::l) r0:=
 iH (fun A=>aCK rfl h) (fun G=>⟨bM (hx G),bM (hy G),trivial⟩) hN hg h1 hr kk
theorem aOs {T T':Nat} {x y:Operand} {u v r:Int} (hx:ev E x=some (.vc (pI .i64 u))) (hy:ev E y=some (.vc (pI .i64 v))) (hN:Nat.blt d S.N=true) (hg:dD ops E g) (h:zL u v=some r) (k:GL S ops κ rest H ((d,.vc (pI .i64 r))::E) Q):GL S ops κ (⟨some d,.binOp .quo T x y T',ty,pos,af,g⟩::rest) H E Q:=
 kQ (aKa rfl h) ⟨dN hx,dN hy,trivial⟩ hg hN k
theorem aNY {T T':Nat} {x y:Operand} {u v r:Int} (hx:∀G,sF l0 ms E outs G i x=some (.vc (pI .i64 u))) (hy:∀G,sF l0 ms E outs G i y=some (.vc (pI .i64 v))) (hN:Nat.blt d S.N=true) (hg:GD l0 ms E outs i g) (h1:lH ms [] i [0]=true) (h:zL u v=some r) {r0:List Ou} (hr:r0=.v (.vc (pI .i64 r))::ro) (kk:DN S H l0 ms E outs n (i+1) l ro):DN S H l0 ms E outs (n+1) i (⟨some d,.binOp .quo T x y T',ty,pos,af,g⟩::l) r0:=
 iH (fun A=>aKa rfl h) (fun G=>⟨bM (hx G),bM (hy G),trivial⟩) hN hg h1 hr kk
theorem aN9 {T T':Nat} {x y:Operand} {u v r:Int} {k:IntKind} (hx:ev E x=some (.vc (pI k u))) (hy:ev E y=some (.vc (pI k v))) (hN:Nat.blt d S.N=true) (hg:dD ops E g) (h:zP u v=some r) (k:GL S ops κ rest H ((d,.vc (pI k r))::E) Q):GL S ops κ (⟨some d,.binOp .rem T x y T',ty,pos,af,g⟩::rest) H E Q:=
 kQ (aF3 rfl h) ⟨dN hx,dN hy,trivial⟩ hg hN k
theorem aNT {T T':Nat} {x y:Operand} {u v r:Int} {k:IntKind} (hx:∀G,sF l0 ms E outs G i x=some (.vc (pI k u))) (hy:∀G,sF l0 ms E outs G i y=some (.vc (pI k v))) (hN:Nat.blt d S.N=true) (hg:GD l0 ms E outs i g) (h1:lH ms [] i [0]=true) (h:zP u v=some r) {r0:List Ou} (hr:r0=.v (.vc (pI k r))::ro) (kk:DN S H l0 ms E outs n (i+1) l ro):DN S H l0 ms E outs (n+1) i (⟨some d,.binOp .rem T x y T',ty,pos,af,g⟩::l) r0:=
 iH (fun A=>aF3 rfl h) (fun G=>⟨bM (hx G),bM (hy G),trivial⟩) hN hg h1 hr kk
theorem aOj {T:Nat} {x:Operand} {u:Bool} (hx:ev E x=some (.vc (pB u))) (hN:Nat.blt d S.N=true) (hg:dD ops E g) (k:GL S ops κ rest H ((d,.vc (pB (!u)))::E) Q):GL S ops κ (⟨some d,.unOp .not T x,ty,pos,af,g⟩::rest) H E Q:=
 kQ (aJ0 rfl) ⟨dN hx,trivial⟩ hg hN k
theorem aOM {T:Nat} {x:Operand} {u:Bool} (hx:∀G,sF l0 ms E outs G i x=some (.vc (pB u))) (hN:Nat.blt d S.N=true) (hg:GD l0 ms E outs i g) (h1:lH ms [] i [0]=true) {r0:List Ou} (hr:r0=.v (.vc (pB (!u)))::ro) (kk:DN S H l0 ms E outs n (i+1) l ro):DN S H l0 ms E outs (n+1) i (⟨some d,.unOp .not T x,ty,pos,af,g⟩::l) r0:=
 iH (fun A=>aJ0 rfl) (fun G=>⟨bM (hx G),trivial⟩) hN hg h1 hr kk
theorem aPe {T:Nat} {x:Operand} {u:Bool} {w:Bool} (hx:∀G,sF l0 ms E outs G i x=some (.vc (pB u))) (hN:Nat.blt d S.N=true) (hg:GD l0 ms E outs i g) (h1:lH ms [] i [0]=true) (hb:(!u)=w) {r0:List Ou} (hr:r0=.v (.vc (pB w))::ro) (kk:DN S H l0 ms E outs n (i+1) l ro):DN S H l0 ms E outs (n+1) i (⟨some d,.unOp .not T x,ty,pos,af,g⟩::l) r0:=
 iH (fun A=>lL (aJ0 rfl) hb) (fun G=>⟨bM (hx G),trivial⟩) hN hg h1 hr kk
theorem aOW {T:Nat} {x:Operand} {u r:Int} (hx:ev E x=some (.vc (pI .i64 u))) (hN:Nat.blt d S.N=true) (hg:dD ops E g) (h:aR (-u)=some r) (k:GL S ops κ rest H ((d,.vc (pI .i64 r))::E) Q):GL S ops κ (⟨some d,.unOp .neg T x,ty,pos,af,g⟩::rest) H E Q:=
 kQ (aNL rfl h) ⟨dN hx,trivial⟩ hg hN k
theorem aOw {T:Nat} {x:Operand} {u r:Int} (hx:∀G,sF l0 ms E outs G i x=some (.vc (pI .i64 u))) (hN:Nat.blt d S.N=true) (hg:GD l0 ms E outs i g) (h1:lH ms [] i [0]=true) (h:aR (-u)=some r) {r0:List Ou} (hr:r0=.v (.vc (pI .i64 r))::ro) (kk:DN S H l0 ms E outs n (i+1) l ro):DN S H l0 ms E outs (n+1) i (⟨some d,.unOp .neg T x,ty,pos,af,g⟩::l) r0:=
 iH (fun A=>aNL rfl h) (fun G=>⟨bM (hx G),trivial⟩) hN hg h1 hr kk
theorem aOI {x:Operand} {p q:VP} (hx:ev E x=some (.t2 p q)) (hN:Nat.blt d S.N=true) (hg:dD ops E g) (k:GL S ops κ rest H ((d,p)::E) Q):GL S ops κ (⟨some d,.extract x 0,ty,pos,af,g⟩::rest) H E Q:=
 kQ (aGS rfl) ⟨dN hx,trivial⟩ hg hN k
theorem aNZ {x:Operand} {p q:VP} (hx:∀G,sF l0 ms E outs G i x=some (.t2 p q)) (hN:Nat.blt d S.N=true) (hg:GD l0 ms E outs i g) (h1:lH ms [] i [0]=true) {r0:List Ou} (hr:r0=.v (p)::ro) (kk:DN S H l0 ms E outs n (i+1) l ro):DN S H l0 ms E outs (n+1) i (⟨some d,.extract x 0,ty,pos,af,g⟩::l) r0:=
 iH (fun A=>aGS rfl) (fun G=>⟨bM (hx G),trivial⟩) hN hg h1 hr kk
theorem aOJ {x:Operand} {p q:VP} (hx:ev E x=some (.t2 p q)) (hN:Nat.blt d S.N=true) (hg:dD ops E g) (k:GL S ops κ rest H ((d,q)::E) Q):GL S ops κ (⟨some d,.extract x 1,ty,pos,af,g⟩::rest) H E Q:=
 kQ (aGa rfl) ⟨dN hx,trivial⟩ hg hN k
theorem aNK {x:Operand} {p q:VP} (hx:∀G,sF l0 ms E outs G i x=some (.t2 p q)) (hN:Nat.blt d S.N=true) (hg:GD l0 ms E outs i g) (h1:lH ms [] i [0]=true) {r0:List Ou} (hr:r0=.v (q)::ro) (kk:DN S H l0 ms E outs n (i+1) l ro):DN S H l0 ms E outs (n+1) i (⟨some d,.extract x 1,ty,pos,af,g⟩::l) r0:=
 iH (fun A=>aGa rfl) (fun G=>⟨bM (hx G),trivial⟩) hN hg h1 hr kk
theorem aNQ {x:Operand} {p q r:VP} (hx:ev E x=some (.t3 p q r)) (hN:Nat.blt d S.N=true) (hg:dD ops E g) (k:GL S ops κ rest H ((d,p)::E) Q):GL S ops κ (⟨some d,.extract x 0,ty,pos,af,g⟩::rest) H E Q:=
 kQ (aJt rfl) ⟨dN hx,trivial⟩ hg hN k
theorem aN0 {x:Operand} {p q r:VP} (hx:∀G,sF l0 ms E outs G i x=some (.t3 p q r)) (hN:Nat.blt d S.N=true) (hg:GD l0 ms E outs i g) (h1:lH ms [] i [0]=true) {r0:List Ou} (hr:r0=.v (p)::ro) (kk:DN S H l0 ms E outs n (i+1) l ro):DN S H l0 ms E outs (n+1) i (⟨some d,.extract x 0,ty,pos,af,g⟩::l) r0:=
 iH (fun A=>aJt rfl) (fun G=>⟨bM (hx G),trivial⟩) hN hg h1 hr kk
theorem aN4 {x:Operand} {p q r:VP} (hx:ev E x=some (.t3 p q r)) (hN:Nat.blt d S.N=true) (hg:dD ops E g) (k:GL S ops κ rest H ((d,q)::E) Q):GL S ops κ (⟨some d,.extract x 1,ty,pos,af,g⟩::rest) H E Q:=
 kQ (aJX rfl) ⟨dN hx,trivial⟩ hg hN k
theorem aOq {x:Operand} {p q r:VP} (hx:∀G,sF l0 ms E outs G i x=some (.t3 p q r)) (hN:Nat.blt d S.N=true) (hg:GD l0 ms E outs i g) (h1:lH ms [] i [0]=true) {r0:List Ou} (hr:r0=.v (q)::ro) (kk:DN S H l0 ms E outs n (i+1) l ro):DN S H l0 ms E outs (n+1) i (⟨some d,.extract x 1,ty,pos,af,g⟩::l) r0:=
 iH (fun A=>aJX rfl) (fun G=>⟨bM (hx G),trivial⟩) hN hg h1 hr kk
theorem aOm {x:Operand} {p q r:VP} (hx:ev E x=some (.t3 p q r)) (hN:Nat.blt d S.N=true) (hg:dD ops E g) (k:GL S ops κ rest H ((d,r)::E) Q):GL S ops κ (⟨some d,.extract x 2,ty,pos,af,g⟩::rest) H E Q:=
 kQ (aJV rfl) ⟨dN hx,trivial⟩ hg hN k
theorem aOi {x:Operand} {p q r:VP} (hx:∀G,sF l0 ms E outs G i x=some (.t3 p q r)) (hN:Nat.blt d S.N=true) (hg:GD l0 ms E outs i g) (h1:lH ms [] i [0]=true) {r0:List Ou} (hr:r0=.v (r)::ro) (kk:DN S H l0 ms E outs n (i+1) l ro):DN S H l0 ms E outs (n+1) i (⟨some d,.extract x 2,ty,pos,af,g⟩::l) r0:=
 iH (fun A=>aJV rfl) (fun G=>⟨bM (hx G),trivial⟩) hN hg h1 hr kk
theorem aQY {x y:Operand} {u v:Int} {ts:Array TypeId} (hx:ev E x=some (.vc (pI .i64 u))) (hy:ev E y=some (.vc (pI .i64 v))) (hN:Nat.blt d S.N=true) (hg:dD ops E g) (k:GL S ops κ rest H ((d,.vc (pI .i64 (min u v)))::E) Q):GL S ops κ (⟨some d,.call {callee:=.builtin .min,args:=#[x,y],argTypes:=ts},ty,pos,af,g⟩::rest) H E Q:=
 kQ (aOt rfl) ⟨dN hx,dN hy,trivial⟩ hg hN k
theorem aRj {x y:Operand} {u v:Int} {ts:Array TypeId} (hx:∀G,sF l0 ms E outs G i x=some (.vc (pI .i64 u))) (hy:∀G,sF l0 ms E outs G i y=some (.vc (pI .i64 v))) (hN:Nat.blt d S.N=true) (hg:GD l0 ms E outs i g) (h1:lH ms [] i [0]=true) {r0:List Ou} (hr:r0=.v (.vc (pI .i64 (min u v)))::ro) (kk:DN S H l0 ms E outs n (i+1) l ro):DN S H l0 ms E outs (n+1) i (⟨some d,.call {callee:=.builtin .min,args:=#[x,y],argTypes:=ts},ty,pos,af,g⟩::l) r0:=
 iH (fun A=>aOt rfl) (fun G=>⟨bM (hx G),bM (hy G),trivial⟩) hN hg h1 hr kk
theorem aQ4 {x y:Operand} {u v:Int} {ts:Array TypeId} (hx:ev E x=some (.vc (pI .i64 u))) (hy:ev E y=some (.vc (pI .i64 v))) (hN:Nat.blt d S.N=true) (hg:dD ops E g) (k:GL S ops κ rest H ((d,.vc (pI .i64 (max u v)))::E) Q):GL S ops κ (⟨some d,.call {callee:=.builtin .max,args:=#[x,y],argTypes:=ts},ty,pos,af,g⟩::rest) H E Q:=
 kQ (aNU rfl) ⟨dN hx,dN hy,trivial⟩ hg hN k
theorem aRf {x y:Operand} {u v:Int} {ts:Array TypeId} (hx:∀G,sF l0 ms E outs G i x=some (.vc (pI .i64 u))) (hy:∀G,sF l0 ms E outs G i y=some (.vc (pI .i64 v))) (hN:Nat.blt d S.N=true) (hg:GD l0 ms E outs i g) (h1:lH ms [] i [0]=true) {r0:List Ou} (hr:r0=.v (.vc (pI .i64 (max u v)))::ro) (kk:DN S H l0 ms E outs n (i+1) l ro):DN S H l0 ms E outs (n+1) i (⟨some d,.call {callee:=.builtin .max,args:=#[x,y],argTypes:=ts},ty,pos,af,g⟩::l) r0:=
 iH (fun A=>aNU rfl) (fun G=>⟨bM (hx G),bM (hy G),trivial⟩) hN hg h1 hr kk
theorem aQ0 {α:Type} {C:Cd α} {xs zs:List α} {t e bytes:Nat} {x y:Operand} {hi:Int} {k:IntKind} (hx:ev E x=some (.vc (pS C xs))) (hy:ev E y=some (.vc (pI k hi))) (ht:TyS S.P t e C.n bytes) (hN:Nat.blt d S.N=true) (hg:dD ops E g) (h:slL xs 0 hi=some zs) (k:GL S ops κ rest H ((d,.vc (pS C zs))::E) Q):GL S ops κ (⟨some d,.slice t x none (some y) none,ty,pos,af,g⟩::rest) H E Q:=
 kQ (aDE rfl ht h) ⟨dN hx,dN hy,trivial⟩ hg hN k
theorem aQW {α:Type} {C:Cd α} {xs zs:List α} {t e bytes:Nat} {x y:Operand} {hi:Int} {k:IntKind} (hx:∀G,sF l0 ms E outs G i x=some (.vc (pS C xs))) (hy:∀G,sF l0 ms E outs G i y=some (.vc (pI k hi))) (ht:TyS S.P t e C.n bytes) (hN:Nat.blt d S.N=true) (hg:GD l0 ms E outs i g) (h1:lH ms [] i [0]=true) (h:slL xs 0 hi=some zs) {r0:List Ou} (hr:r0=.v (.vc (pS C zs))::ro) (kk:DN S H l0 ms E outs n (i+1) l ro):DN S H l0 ms E outs (n+1) i (⟨some d,.slice t x none (some y) none,ty,pos,af,g⟩::l) r0:=
 iH (fun A=>aDE rfl ht h) (fun G=>⟨bM (hx G),bM (hy G),trivial⟩) hN hg h1 hr kk
theorem aP9 {α:Type} {C:Cd α} {xs zs:List α} {t e bytes:Nat} {x y:Operand} {lo:Int} {k:IntKind} (hx:ev E x=some (.vc (pS C xs))) (hy:ev E y=some (.vc (pI k lo))) (ht:TyS S.P t e C.n bytes) (hN:Nat.blt d S.N=true) (hg:dD ops E g) (h:slL xs lo xs.length=some zs) (k:GL S ops κ rest H ((d,.vc (pS C zs))::E) Q):GL S ops κ (⟨some d,.slice t x (some y) none none,ty,pos,af,g⟩::rest) H E Q:=
 kQ (aL7 rfl ht h) ⟨dN hx,dN hy,trivial⟩ hg hN k
theorem aQO {α:Type} {C:Cd α} {xs zs:List α} {t e bytes:Nat} {x y:Operand} {lo:Int} {k:IntKind} (hx:∀G,sF l0 ms E outs G i x=some (.vc (pS C xs))) (hy:∀G,sF l0 ms E outs G i y=some (.vc (pI k lo))) (ht:TyS S.P t e C.n bytes) (hN:Nat.blt d S.N=true) (hg:GD l0 ms E outs i g) (h1:lH ms [] i [0]=true) (h:slL xs lo xs.length=some zs) {r0:List Ou} (hr:r0=.v (.vc (pS C zs))::ro) (kk:DN S H l0 ms E outs n (i+1) l ro):DN S H l0 ms E outs (n+1) i (⟨some d,.slice t x (some y) none none,ty,pos,af,g⟩::l) r0:=
 iH (fun A=>aL7 rfl ht h) (fun G=>⟨bM (hx G),bM (hy G),trivial⟩) hN hg h1 hr kk
theorem aNN {α:Type} {C:Cd α} {xs zs:List α} {t e bytes:Nat} {x y z:Operand} {lo hi:Int} {k k2:IntKind} (hx:ev E x=some (.vc (pS C xs))) (hy:ev E y=some (.vc (pI k lo))) (hz:ev E z=some (.vc (pI k2 hi))) (ht:TyS S.P t e C.n bytes) (hN:Nat.blt d S.N=true) (hg:dD ops E g) (h:slL xs lo hi=some zs) (k:GL S ops κ rest H ((d,.vc (pS C zs))::E) Q):GL S ops κ (⟨some d,.slice t x (some y) (some z) none,ty,pos,af,g⟩::rest) H E Q:=
 kQ (aJR rfl ht h) ⟨dN hx,dN hy,dN hz,trivial⟩ hg hN k
theorem aON {α:Type} {C:Cd α} {xs zs:List α} {t e bytes:Nat} {x y z:Operand} {lo hi:Int} {k k2:IntKind} (hx:∀G,sF l0 ms E outs G i x=some (.vc (pS C xs))) (hy:∀G,sF l0 ms E outs G i y=some (.vc (pI k lo))) (hz:∀G,sF l0 ms E outs G i z=some (.vc (pI k2 hi))) (ht:TyS S.P t e C.n bytes) (hN:Nat.blt d S.N=true) (hg:GD l0 ms E outs i g) (h1:lH ms [] i [0]=true) (h:slL xs lo hi=some zs) {r0:List Ou} (hr:r0=.v (.vc (pS C zs))::ro) (kk:DN S H l0 ms E outs n (i+1) l ro):DN S H l0 ms E outs (n+1) i (⟨some d,.slice t x (some y) (some z) none,ty,pos,af,g⟩::l) r0:=
 iH (fun A=>aJR rfl ht h) (fun G=>⟨bM (hx G),bM (hy G),bM (hz G),trivial⟩) hN hg h1 hr kk
theorem aPY {c x y:Operand} {p:VP} (hc:ev E c=some (.vc (pB true))) (hx:ev E x=some p) (hN:Nat.blt d S.N=true) (hg:dD ops E g) (k:GL S ops κ rest H ((d,p)::E) Q):GL S ops κ (⟨some d,.pick c x y,ty,pos,af,g⟩::rest) H E Q:=
 kQ (u5 rfl) ⟨dN hc,dN hx,trivial⟩ hg hN k
theorem aQD {c x y:Operand} {p:VP} (hc:∀G,sF l0 ms E outs G i c=some (.vc (pB true))) (hx:∀G,sF l0 ms E outs G i x=some p) (hN:Nat.blt d S.N=true) (hg:GD l0 ms E outs i g) (h1:lH ms [] i [0]=true) {r0:List Ou} (hr:r0=.v (p)::ro) (kk:DN S H l0 ms E outs n (i+1) l ro):DN S H l0 ms E outs (n+1) i (⟨some d,.pick c x y,ty,pos,af,g⟩::l) r0:=
 iH (fun A=>u5 rfl) (fun G=>⟨bM (hc G),bM (hx G),trivial⟩) hN hg h1 hr kk
theorem aQs {c x y:Operand} {p:VP} (hc:ev E c=some (.vc (pB false))) (hy:ev E y=some p) (hN:Nat.blt d S.N=true) (hg:dD ops E g) (k:GL S ops κ rest H ((d,p)::E) Q):GL S ops κ (⟨some d,.pick c x y,ty,pos,af,g⟩::rest) H E Q:=
 kQ (zF rfl) ⟨dN hc,dN hy,trivial⟩ hg hN k
theorem aQ5 {c x y:Operand} {p:VP} (hc:∀G,sF l0 ms E outs G i c=some (.vc (pB false))) (hy:∀G,sF l0 ms E outs G i y=some p) (hN:Nat.blt d S.N=true) (hg:GD l0 ms E outs i g) (h1:lH ms [] i [0]=true) {r0:List Ou} (hr:r0=.v (p)::ro) (kk:DN S H l0 ms E outs n (i+1) l ro):DN S H l0 ms E outs (n+1) i (⟨some d,.pick c x y,ty,pos,af,g⟩::l) r0:=
 iH (fun A=>zF rfl) (fun G=>⟨bM (hc G),bM (hy G),trivial⟩) hN hg h1 hr kk
theorem aRl {x:Operand} {β:Option Nat} {off:Nat} (hx:ev E x=some (.vc (pP β off))) (hN:Nat.blt d S.N=true) (hg:dD ops E g) (k:GL S ops κ rest H ((d,.vc (pP β off))::E) Q):GL S ops κ (⟨some d,.nilCheck x,ty,pos,af,g⟩::rest) H E Q:=
 kQ (qZ rfl) ⟨dN hx,trivial⟩ hg hN k
theorem aRb {x:Operand} {β:Option Nat} {off:Nat} (hx:∀G,sF l0 ms E outs G i x=some (.vc (pP β off))) (hN:Nat.blt d S.N=true) (hg:GD l0 ms E outs i g) (h1:lH ms [] i [0]=true) {r0:List Ou} (hr:r0=.v (.vc (pP β off))::ro) (kk:DN S H l0 ms E outs n (i+1) l ro):DN S H l0 ms E outs (n+1) i (⟨some d,.nilCheck x,ty,pos,af,g⟩::l) r0:=
 iH (fun A=>qZ rfl) (fun G=>⟨bM (hx G),trivial⟩) hN hg h1 hr kk
theorem aOV {x:Operand} {β:Option Nat} {j:Int} {n f:Nat} (hx:ev E x=some (.vc (pE β j n f))) (hN:Nat.blt d S.N=true) (hg:dD ops E g) (k:GL S ops κ rest H ((d,.vc (pE β j n f))::E) Q):GL S ops κ (⟨some d,.nilCheck x,ty,pos,af,g⟩::rest) H E Q:=
 kQ (aLW rfl) ⟨dN hx,trivial⟩ hg hN k
theorem aOv {x:Operand} {β:Option Nat} {j:Int} {n f:Nat} (hx:∀G,sF l0 ms E outs G i x=some (.vc (pE β j n f))) (hN:Nat.blt d S.N=true) (hg:GD l0 ms E outs i g) (h1:lH ms [] i [0]=true) {r0:List Ou} (hr:r0=.v (.vc (pE β j n f))::ro) (kk:DN S H l0 ms E outs n (i+1) l ro):DN S H l0 ms E outs (n+1) i (⟨some d,.nilCheck x,ty,pos,af,g⟩::l) r0:=
 iH (fun A=>aLW rfl) (fun G=>⟨bM (hx G),trivial⟩) hN hg h1 hr kk
theorem aOx {x:Operand} {ps:List CP} (hx:ev E x=some (.vc (pM ps))) (hN:Nat.blt d S.N=true) (hg:dD ops E g) (k:GL S ops κ rest H ((d,.vc (pM ps))::E) Q):GL S ops κ (⟨some d,.nilCheck x,ty,pos,af,g⟩::rest) H E Q:=
 kQ (aMm rfl) ⟨dN hx,trivial⟩ hg hN k
theorem aOB {x:Operand} {ps:List CP} (hx:∀G,sF l0 ms E outs G i x=some (.vc (pM ps))) (hN:Nat.blt d S.N=true) (hg:GD l0 ms E outs i g) (h1:lH ms [] i [0]=true) {r0:List Ou} (hr:r0=.v (.vc (pM ps))::ro) (kk:DN S H l0 ms E outs n (i+1) l ro):DN S H l0 ms E outs (n+1) i (⟨some d,.nilCheck x,ty,pos,af,g⟩::l) r0:=
 iH (fun A=>aMm rfl) (fun G=>⟨bM (hx G),trivial⟩) hN hg h1 hr kk
theorem aL2 {f:Nat} {xs:List Operand} {ps:List VP} {post:VP} {ts:Array TypeId} (he:evs E xs=some ps) (hN:Nat.blt d S.N=true) (hg:dD ops E g) (c:Ct S.P f ps post) (k:GL S ops κ rest H ((d,post)::E) Q):GL S ops κ (⟨some d,.call {callee:=.value (.func f),args:=xs.toArray,argTypes:=ts},ty,pos,af,g⟩::rest) H E Q:=
 kQ (bD rfl c (aGm he).2) (aGm he).1 hg hN k
theorem aOp {T:Nat} {zs:List CP} (hz:TyZ S.P T zs) (hN:Nat.blt d S.N=true) {r0:List Ou} (hr:r0=.a T zs::ro) (k:DN S H l0 ms E outs n (i+1) l ro):DN S H l0 ms E outs (n+1) i (⟨some d,.alloc T,ty,pos,af,none⟩::l) r0:=by
 subst hr
 exact aGi hN (.alc hz rfl rfl rfl) k
theorem aLd {f:Nat} {xs:List Operand} {ps:List VP} {post:VP} {ts:Array TypeId} (he:∀G,aPQ l0 ms E outs G i xs=some ps) (hN:Nat.blt d S.N=true) (hg:GD l0 ms E outs i g) (h1:lH ms [] i [0]=true) (c:Ct S.P f ps post) {r0:List Ou} (hr:r0=.v post::ro) (k:DN S H l0 ms E outs n (i+1) l ro):DN S H l0 ms E outs (n+1) i (⟨some d,.call {callee:=.value (.func f),args:=xs.toArray,argTypes:=ts},ty,pos,af,g⟩::l) r0:=
 iH (fun A=>bD rfl c (aDY (he fun _=>(none,0))).2) (fun G=>(aDY (he G)).1) hN hg h1 hr k
theorem aQ3 {t off:Nat} {x y:Operand} {β:Option Nat} {e:HA} {p:VP} {ps:List CP} (hx:ev E x=some (.vc (pP β off))) (hy:ev E y=some p) (ht:Ty1 S.P t) (hi:xT H β e ⟨e.β,e.c,e.T,e.sz,e.n,ps⟩ H') (hp:p.flat) (hk:p.cells.length=1) (hq:wN e.ps off p.cells=some ps) (k:GL S ops κ rest H' E Q):GL S ops κ (⟨none,.store t x y,ty,pos,af,none⟩::rest) H E Q:=by
 obtain⟨i,h1,h2,h3⟩:=hi.at
 exact⟨fun q=>lI (t_s i rfl h1 h2 ht.s hp hk hq h3) ⟨dN hx,dN hy,trivial⟩ (k.h q) rfl rfl⟩
theorem aP5 {t off r:Nat} {x y:Operand} {β:Option Nat} {e:HA} {p:VP} {ps:List CP} (hx:ev E x=some (.vc (pP β off))) (hy:ev E y=some p) (ht:TyA S.P t r) (hi:xT H β e ⟨e.β,e.c,e.T,e.sz,e.n,ps⟩ H') (hp:p.flat) (hk:p.cells.length=r) (hq:wN e.ps off p.cells=some ps) (k:GL S ops κ rest H' E Q):GL S ops κ (⟨none,.store t x y,ty,pos,af,none⟩::rest) H E Q:=by
 obtain⟨i,h1,h2,h3⟩:=hi.at
 exact⟨fun q=>lI (t_s i rfl h1 h2 ht.s hp hk hq h3) ⟨dN hx,dN hy,trivial⟩ (k.h q) rfl rfl⟩
theorem dr {id:Nat} (ms:List Nat) (m n:Nat) (outs:List Ou) (k:∀bs G,WL S l.toArray κ (l.drop outs.length) (aC2 bs 0 outs++H) (aCQ bs G 0 l outs++E)) (hops:DN S H l ms E outs m 0 l outs:=by
 repeat (first
  |(apply aQl;exact fun _=>rfl;exact rfl;(first|exact GD.p|exact GD.g rfl (fun _=>rfl));exact rfl;exact rfl)
  |(apply aQG;exact fun _=>rfl;exact rfl;(first|exact GD.p|exact GD.g rfl (fun _=>rfl));exact rfl;exact rfl)
  |(apply e_n;exact rfl;exact fun _=>rfl;exact rfl;exact rfl;exact rfl)
  |(apply aP1;exact fun _=>rfl;exact fun _=>rfl;exact inferInstance;exact rfl;(first|exact GD.p|exact GD.g rfl (fun _=>rfl));exact rfl;(with_reducible assumption);exact rfl)
  |(apply aOQ;exact fun _=>rfl;exact inferInstance;exact rfl;(first|exact GD.p|exact GD.g rfl (fun _=>rfl));exact rfl;exact rfl)
  |(apply aQE;exact fun _=>rfl;exact inferInstance;exact rfl;(first|exact GD.p|exact GD.g rfl (fun _=>rfl));exact rfl;exact rfl)
  |(apply aOe;exact fun _=>rfl;exact inferInstance;exact rfl;(first|exact GD.p|exact GD.g rfl (fun _=>rfl));exact rfl;exact rfl)
  |(apply aOn;exact fun _=>rfl;exact inferInstance;exact rfl;exact rfl;(first|exact GD.p|exact GD.g rfl (fun _=>rfl));exact rfl;exact rfl)
  |(apply aN1;exact fun _=>rfl;exact inferInstance;exact rfl;exact rfl;(first|exact GD.p|exact GD.g rfl (fun _=>rfl));exact rfl;exact rfl)
  |(apply aQc;exact fun _=>rfl;exact inferInstance;(repeat (first|exact iB.a rfl|apply iB.b));exact rfl;exact rfl;(first|exact GD.p|exact GD.g rfl (fun _=>rfl));exact rfl;exact rfl)
  |(apply aQg;exact fun _=>rfl;exact inferInstance;(repeat (first|exact iB.a rfl|apply iB.b));exact rfl;exact rfl;(first|exact GD.p|exact GD.g rfl (fun _=>rfl));exact rfl;exact rfl)
  |(apply aOG;exact fun _=>rfl;exact fun _=>rfl;(repeat (first|exact iB.a rfl|apply iB.b));(first|exact rfl|with_reducible assumption|exact bE (by with_reducible assumption) (by first|with_reducible assumption|exact rfl));exact inferInstance;exact rfl;(first|exact GD.p|exact GD.g rfl (fun _=>rfl));exact rfl;(with_reducible assumption);exact rfl)
  |(apply aOf;exact fun _=>rfl;(repeat (first|exact iB.a rfl|apply iB.b));(first|exact rfl|with_reducible assumption|exact bE (by with_reducible assumption) (by first|with_reducible assumption|exact rfl));exact inferInstance;exact rfl;(first|exact GD.p|exact GD.g rfl (fun _=>rfl));exact rfl;exact rfl)
  |(apply aLT;exact fun _=>rfl;(repeat (first|exact iB.a rfl|apply iB.b));exact rfl;(with_reducible assumption);exact inferInstance;exact rfl;exact rfl;exact rfl;(first|exact GD.p|exact GD.g rfl (fun _=>rfl));exact rfl;exact rfl)
  |(apply aMh;exact fun _=>rfl;(repeat (first|exact iB.a rfl|apply iB.b));exact rfl;(with_reducible assumption);exact inferInstance;exact rfl;exact rfl;exact rfl;(first|exact GD.p|exact GD.g rfl (fun _=>rfl));exact rfl;exact rfl)
  |(apply aQF;exact fun _=>rfl;exact inferInstance;exact rfl;(first|exact GD.p|exact GD.g rfl (fun _=>rfl));exact rfl;exact rfl)
  |(apply aQI;exact fun _=>rfl;exact fun _=>rfl;exact rfl;(first|exact GD.p|exact GD.g rfl (fun _=>rfl));exact rfl;exact rfl)
  |(apply aPZ;exact fun _=>rfl;exact fun _=>rfl;exact rfl;(first|exact GD.p|exact GD.g rfl (fun _=>rfl));exact rfl;exact rfl)
  |(apply aQv;exact fun _=>rfl;exact fun _=>rfl;exact rfl;(first|exact GD.p|exact GD.g rfl (fun _=>rfl));exact rfl;exact rfl)
  |(apply aQq;exact fun _=>rfl;exact fun _=>rfl;exact rfl;(first|exact GD.p|exact GD.g rfl (fun _=>rfl));exact rfl;exact rfl)
  |(apply aQZ;exact fun _=>rfl;exact fun _=>rfl;exact rfl;(first|exact GD.p|exact GD.g rfl (fun _=>rfl));exact rfl;exact rfl)
  |(apply aQ7;exact fun _=>rfl;exact fun _=>rfl;exact rfl;(first|exact GD.p|exact GD.g rfl (fun _=>rfl));exact rfl;exact rfl)
  |(apply aOh;exact fun _=>rfl;exact fun _=>rfl;exact rfl;(first|exact GD.p|exact GD.g rfl (fun _=>rfl));exact rfl;(with_reducible assumption);exact rfl)
  |(apply aOR;exact fun _=>rfl;exact fun _=>rfl;exact rfl;(first|exact GD.p|exact GD.g rfl (fun _=>rfl));exact rfl;(with_reducible assumption);exact rfl)
  |(apply aOl;exact fun _=>rfl;exact fun _=>rfl;exact rfl;(first|exact GD.p|exact GD.g rfl (fun _=>rfl));exact rfl;(with_reducible assumption);exact rfl)
  |(apply aNY;exact fun _=>rfl;exact fun _=>rfl;exact rfl;(first|exact GD.p|exact GD.g rfl (fun _=>rfl));exact rfl;(with_reducible assumption);exact rfl)
  |(apply aNT;exact fun _=>rfl;exact fun _=>rfl;exact rfl;(first|exact GD.p|exact GD.g rfl (fun _=>rfl));exact rfl;(with_reducible assumption);exact rfl)
  |(apply aOM;exact fun _=>rfl;exact rfl;(first|exact GD.p|exact GD.g rfl (fun _=>rfl));exact rfl;exact rfl)
  |(apply aOw;exact fun _=>rfl;exact rfl;(first|exact GD.p|exact GD.g rfl (fun _=>rfl));exact rfl;(with_reducible assumption);exact rfl)
  |(apply aNZ;exact fun _=>rfl;exact rfl;(first|exact GD.p|exact GD.g rfl (fun _=>rfl));exact rfl;exact rfl)
  |(apply aNK;exact fun _=>rfl;exact rfl;(first|exact GD.p|exact GD.g rfl (fun _=>rfl));exact rfl;exact rfl)
  |(apply aN0;exact fun _=>rfl;exact rfl;(first|exact GD.p|exact GD.g rfl (fun _=>rfl));exact rfl;exact rfl)
  |(apply aOq;exact fun _=>rfl;exact rfl;(first|exact GD.p|exact GD.g rfl (fun _=>rfl));exact rfl;exact rfl)
  |(apply aOi;exact fun _=>rfl;exact rfl;(first|exact GD.p|exact GD.g rfl (fun _=>rfl));exact rfl;exact rfl)
  |(apply aRj;exact fun _=>rfl;exact fun _=>rfl;exact rfl;(first|exact GD.p|exact GD.g rfl (fun _=>rfl));exact rfl;exact rfl)
  |(apply aRf;exact fun _=>rfl;exact fun _=>rfl;exact rfl;(first|exact GD.p|exact GD.g rfl (fun _=>rfl));exact rfl;exact rfl)
  |(apply aQW;exact fun _=>rfl;exact fun _=>rfl;exact inferInstance;exact rfl;(first|exact GD.p|exact GD.g rfl (fun _=>rfl));exact rfl;(with_reducible assumption);exact rfl)
  |(apply aQO;exact fun _=>rfl;exact fun _=>rfl;exact inferInstance;exact rfl;(first|exact GD.p|exact GD.g rfl (fun _=>rfl));exact rfl;(with_reducible assumption);exact rfl)
  |(apply aON;exact fun _=>rfl;exact fun _=>rfl;exact fun _=>rfl;exact inferInstance;exact rfl;(first|exact GD.p|exact GD.g rfl (fun _=>rfl));exact rfl;(with_reducible assumption);exact rfl)
  |(apply aQD;exact fun _=>rfl;exact fun _=>rfl;exact rfl;(first|exact GD.p|exact GD.g rfl (fun _=>rfl));exact rfl;exact rfl)
  |(apply aQ5;exact fun _=>rfl;exact fun _=>rfl;exact rfl;(first|exact GD.p|exact GD.g rfl (fun _=>rfl));exact rfl;exact rfl)
  |(apply aRb;exact fun _=>rfl;exact rfl;(first|exact GD.p|exact GD.g rfl (fun _=>rfl));exact rfl;exact rfl)
  |(apply aOv;exact fun _=>rfl;exact rfl;(first|exact GD.p|exact GD.g rfl (fun _=>rfl));exact rfl;exact rfl)
  |(apply aOB;exact fun _=>rfl;exact rfl;(first|exact GD.p|exact GD.g rfl (fun _=>rfl));exact rfl;exact rfl)
  |(apply aLd;exact fun _=>rfl;exact rfl;(first|exact GD.p|exact GD.g rfl (fun _=>rfl));exact rfl;assumption;exact rfl)
  |(apply aOp;exact inferInstance;exact rfl;exact rfl)
  |(apply e_u;exact rfl;exact fun _=>rfl;exact rfl;exact rfl)
  |(apply aOZ;exact rfl))) (hx:Mix S.P:=by infer_instance)
  (hm:aBX ms l ms=true:=by kernel_rfl) (hb:xA l 0=true:=by kernel_rfl) (hq:aA0 l=true:=by kernel_rfl) (hm2:Nat.beq l.length (m+n)=true:=by kernel_rfl) (ht:aB6 l ms m n=true:=by kernel_rfl):WC S (.region id l.toArray true) κ H E:=
 iG ms m n outs hx.h hops.h k hm hb hq (by rw [hops.len];simp) hm2 ht
theorem drb {id:Nat} (ms:List Nat) (m n:Nat) (outs:List Ou) (k:∀bs G,WL S l.toArray κ (l.drop outs.length) (aC2 bs 0 outs++H) (aCQ bs G 0 l outs++E)) (hops:DN S H l ms E outs m 0 l outs:=by
 repeat (first
  |(apply aQL;exact fun _=>rfl;exact rfl;(first|exact GD.p|exact GD.g rfl (fun _=>rfl));exact rfl;(with_reducible assumption);exact rfl)
  |(apply aPX;exact fun _=>rfl;exact rfl;(first|exact GD.p|exact GD.g rfl (fun _=>rfl));exact rfl;(with_reducible assumption);exact rfl)
  |(apply aQm;exact fun _=>rfl;exact fun _=>rfl;exact rfl;(first|exact GD.p|exact GD.g rfl (fun _=>rfl));exact rfl;(with_reducible assumption);exact rfl)
  |(apply aRi;exact fun _=>rfl;exact fun _=>rfl;exact rfl;(first|exact GD.p|exact GD.g rfl (fun _=>rfl));exact rfl;(with_reducible assumption);exact rfl)
  |(apply aQy;exact fun _=>rfl;exact fun _=>rfl;exact rfl;(first|exact GD.p|exact GD.g rfl (fun _=>rfl));exact rfl;(with_reducible assumption);exact rfl)
  |(apply aQj;exact fun _=>rfl;exact fun _=>rfl;exact rfl;(first|exact GD.p|exact GD.g rfl (fun _=>rfl));exact rfl;(with_reducible assumption);exact rfl)
  |(apply aQx;exact fun _=>rfl;exact fun _=>rfl;exact rfl;(first|exact GD.p|exact GD.g rfl (fun _=>rfl));exact rfl;(with_reducible assumption);exact rfl)
  |(apply aQo;exact fun _=>rfl;exact fun _=>rfl;exact rfl;(first|exact GD.p|exact GD.g rfl (fun _=>rfl));exact rfl;(with_reducible assumption);exact rfl)
  |(apply aPe;exact fun _=>rfl;exact rfl;(first|exact GD.p|exact GD.g rfl (fun _=>rfl));exact rfl;(with_reducible assumption);exact rfl)
  |(apply aQl;exact fun _=>rfl;exact rfl;(first|exact GD.p|exact GD.g rfl (fun _=>rfl));exact rfl;exact rfl)
  |(apply aQG;exact fun _=>rfl;exact rfl;(first|exact GD.p|exact GD.g rfl (fun _=>rfl));exact rfl;exact rfl)
  |(apply e_n;exact rfl;exact fun _=>rfl;exact rfl;exact rfl;exact rfl)
  |(apply aP1;exact fun _=>rfl;exact fun _=>rfl;exact inferInstance;exact rfl;(first|exact GD.p|exact GD.g rfl (fun _=>rfl));exact rfl;(with_reducible assumption);exact rfl)
  |(apply aOQ;exact fun _=>rfl;exact inferInstance;exact rfl;(first|exact GD.p|exact GD.g rfl (fun _=>rfl));exact rfl;exact rfl)
  |(apply aQE;exact fun _=>rfl;exact inferInstance;exact rfl;(first|exact GD.p|exact GD.g rfl (fun _=>rfl));exact rfl;exact rfl)
  |(apply aOe;exact fun _=>rfl;exact inferInstance;exact rfl;(first|exact GD.p|exact GD.g rfl (fun _=>rfl));exact rfl;exact rfl)
  |(apply aOn;exact fun _=>rfl;exact inferInstance;exact rfl;exact rfl;(first|exact GD.p|exact GD.g rfl (fun _=>rfl));exact rfl;exact rfl)
  |(apply aN1;exact fun _=>rfl;exact inferInstance;exact rfl;exact rfl;(first|exact GD.p|exact GD.g rfl (fun _=>rfl));exact rfl;exact rfl)
  |(apply aQc;exact fun _=>rfl;exact inferInstance;(repeat (first|exact iB.a rfl|apply iB.b));exact rfl;exact rfl;(first|exact GD.p|exact GD.g rfl (fun _=>rfl));exact rfl;exact rfl)
  |(apply aQg;exact fun _=>rfl;exact inferInstance;(repeat (first|exact iB.a rfl|apply iB.b));exact rfl;exact rfl;(first|exact GD.p|exact GD.g rfl (fun _=>rfl));exact rfl;exact rfl)
  |(apply aOG;exact fun _=>rfl;exact fun _=>rfl;(repeat (first|exact iB.a rfl|apply iB.b));(first|exact rfl|with_reducible assumption|exact bE (by with_reducible assumption) (by first|with_reducible assumption|exact rfl));exact inferInstance;exact rfl;(first|exact GD.p|exact GD.g rfl (fun _=>rfl));exact rfl;(with_reducible assumption);exact rfl)
  |(apply aOf;exact fun _=>rfl;(repeat (first|exact iB.a rfl|apply iB.b));(first|exact rfl|with_reducible assumption|exact bE (by with_reducible assumption) (by first|with_reducible assumption|exact rfl));exact inferInstance;exact rfl;(first|exact GD.p|exact GD.g rfl (fun _=>rfl));exact rfl;exact rfl)
  |(apply aLT;exact fun _=>rfl;(repeat (first|exact iB.a rfl|apply iB.b));exact rfl;(with_reducible assumption);exact inferInstance;exact rfl;exact rfl;exact rfl;(first|exact GD.p|exact GD.g rfl (fun _=>rfl));exact rfl;exact rfl)
  |(apply aMh;exact fun _=>rfl;(repeat (first|exact iB.a rfl|apply iB.b));exact rfl;(with_reducible assumption);exact inferInstance;exact rfl;exact rfl;exact rfl;(first|exact GD.p|exact GD.g rfl (fun _=>rfl));exact rfl;exact rfl)
  |(apply aQF;exact fun _=>rfl;exact inferInstance;exact rfl;(first|exact GD.p|exact GD.g rfl (fun _=>rfl));exact rfl;exact rfl)
  |(apply aQI;exact fun _=>rfl;exact fun _=>rfl;exact rfl;(first|exact GD.p|exact GD.g rfl (fun _=>rfl));exact rfl;exact rfl)
  |(apply aPZ;exact fun _=>rfl;exact fun _=>rfl;exact rfl;(first|exact GD.p|exact GD.g rfl (fun _=>rfl));exact rfl;exact rfl)
  |(apply aQv;exact fun _=>rfl;exact fun _=>rfl;exact rfl;(first|exact GD.p|exact GD.g rfl (fun _=>rfl));exact rfl;exact rfl)
  |(apply aQq;exact fun _=>rfl;exact fun _=>rfl;exact rfl;(first|exact GD.p|exact GD.g rfl (fun _=>rfl));exact rfl;exact rfl)
  |(apply aQZ;exact fun _=>rfl;exact fun _=>rfl;exact rfl;(first|exact GD.p|exact GD.g rfl (fun _=>rfl));exact rfl;exact rfl)
  |(apply aQ7;exact fun _=>rfl;exact fun _=>rfl;exact rfl;(first|exact GD.p|exact GD.g rfl (fun _=>rfl));exact rfl;exact rfl)
  |(apply aOh;exact fun _=>rfl;exact fun _=>rfl;exact rfl;(first|exact GD.p|exact GD.g rfl (fun _=>rfl));exact rfl;(with_reducible assumption);exact rfl)
  |(apply aOR;exact fun _=>rfl;exact fun _=>rfl;exact rfl;(first|exact GD.p|exact GD.g rfl (fun _=>rfl));exact rfl;(with_reducible assumption);exact rfl)
  |(apply aOl;exact fun _=>rfl;exact fun _=>rfl;exact rfl;(first|exact GD.p|exact GD.g rfl (fun _=>rfl));exact rfl;(with_reducible assumption);exact rfl)
  |(apply aNY;exact fun _=>rfl;exact fun _=>rfl;exact rfl;(first|exact GD.p|exact GD.g rfl (fun _=>rfl));exact rfl;(with_reducible assumption);exact rfl)
  |(apply aNT;exact fun _=>rfl;exact fun _=>rfl;exact rfl;(first|exact GD.p|exact GD.g rfl (fun _=>rfl));exact rfl;(with_reducible assumption);exact rfl)
  |(apply aOM;exact fun _=>rfl;exact rfl;(first|exact GD.p|exact GD.g rfl (fun _=>rfl));exact rfl;exact rfl)
  |(apply aOw;exact fun _=>rfl;exact rfl;(first|exact GD.p|exact GD.g rfl (fun _=>rfl));exact rfl;(with_reducible assumption);exact rfl)
  |(apply aNZ;exact fun _=>rfl;exact rfl;(first|exact GD.p|exact GD.g rfl (fun _=>rfl));exact rfl;exact rfl)
  |(apply aNK;exact fun _=>rfl;exact rfl;(first|exact GD.p|exact GD.g rfl (fun _=>rfl));exact rfl;exact rfl)
  |(apply aN0;exact fun _=>rfl;exact rfl;(first|exact GD.p|exact GD.g rfl (fun _=>rfl));exact rfl;exact rfl)
  |(apply aOq;exact fun _=>rfl;exact rfl;(first|exact GD.p|exact GD.g rfl (fun _=>rfl));exact rfl;exact rfl)
  |(apply aOi;exact fun _=>rfl;exact rfl;(first|exact GD.p|exact GD.g rfl (fun _=>rfl));exact rfl;exact rfl)
  |(apply aRj;exact fun _=>rfl;exact fun _=>rfl;exact rfl;(first|exact GD.p|exact GD.g rfl (fun _=>rfl));exact rfl;exact rfl)
  |(apply aRf;exact fun _=>rfl;exact fun _=>rfl;exact rfl;(first|exact GD.p|exact GD.g rfl (fun _=>rfl));exact rfl;exact rfl)
  |(apply aQW;exact fun _=>rfl;exact fun _=>rfl;exact inferInstance;exact rfl;(first|exact GD.p|exact GD.g rfl (fun _=>rfl));exact rfl;(with_reducible assumption);exact rfl)
  |(apply aQO;exact fun _=>rfl;exact fun _=>rfl;exact inferInstance;exact rfl;(first|exact GD.p|exact GD.g rfl (fun _=>rfl));exact rfl;(with_reducible assumption);exact rfl)
  |(apply aON;exact fun _=>rfl;exact fun _=>rfl;exact fun _=>rfl;exact inferInstance;exact rfl;(first|exact GD.p|exact GD.g rfl (fun _=>rfl));exact rfl;(with_reducible assumption);exact rfl)
  |(apply aQD;exact fun _=>rfl;exact fun _=>rfl;exact rfl;(first|exact GD.p|exact GD.g rfl (fun _=>rfl));exact rfl;exact rfl)
  |(apply aQ5;exact fun _=>rfl;exact fun _=>rfl;exact rfl;(first|exact GD.p|exact GD.g rfl (fun _=>rfl));exact rfl;exact rfl)
  |(apply aRb;exact fun _=>rfl;exact rfl;(first|exact GD.p|exact GD.g rfl (fun _=>rfl));exact rfl;exact rfl)
  |(apply aOv;exact fun _=>rfl;exact rfl;(first|exact GD.p|exact GD.g rfl (fun _=>rfl));exact rfl;exact rfl)
  |(apply aOB;exact fun _=>rfl;exact rfl;(first|exact GD.p|exact GD.g rfl (fun _=>rfl));exact rfl;exact rfl)
  |(apply aLd;exact fun _=>rfl;exact rfl;(first|exact GD.p|exact GD.g rfl (fun _=>rfl));exact rfl;assumption;exact rfl)
  |(apply aOp;exact inferInstance;exact rfl;exact rfl)
  |(apply e_u;exact rfl;exact fun _=>rfl;exact rfl;exact rfl)
  |(apply aOZ;exact rfl))) (hx:Mix S.P:=by infer_instance)
  (hm:aBX ms l ms=true:=by kernel_rfl) (hb:xA l 0=true:=by kernel_rfl) (hq:aA0 l=true:=by kernel_rfl) (hm2:Nat.beq l.length (m+n)=true:=by kernel_rfl) (ht:aB6 l ms m n=true:=by kernel_rfl):WC S (.region id l.toArray true) κ H E:=
 iG ms m n outs hx.h hops.h k hm hb hq (by rw [hops.len];simp) hm2 ht
theorem go {P:Prop} (Q:Prop) (k:Q) (h:D P Q:=by
 first
  |with_reducible refine sL ?_
  |with_reducible refine sC ?_
  |with_reducible refine sX ?_
 repeat (first
  |(apply aOU)
  |(apply aLn)
  |(apply aO0)
  |(apply aNV)
  |(apply aRc;exact rfl;exact rfl;(first|exact dD.p|exact dD.g rfl rfl rfl))
  |(apply aQe;exact rfl;exact rfl;(first|exact dD.p|exact dD.g rfl rfl rfl))
  |(apply b_n;exact rfl;exact rfl;exact rfl;exact rfl;exact rfl)
  |(apply aQR;exact rfl;exact rfl;exact inferInstance;exact rfl;(first|exact dD.p|exact dD.g rfl rfl rfl);(with_reducible assumption))
  |(apply aOE;exact rfl;exact inferInstance;exact rfl;(first|exact dD.p|exact dD.g rfl rfl rfl))
  |(apply aQJ;exact rfl;exact inferInstance;exact rfl;(first|exact dD.p|exact dD.g rfl rfl rfl))
  |(apply aN3;exact rfl;exact inferInstance;exact rfl;(first|exact dD.p|exact dD.g rfl rfl rfl))
  |(apply aOF;exact rfl;exact inferInstance;exact rfl;exact rfl;(first|exact dD.p|exact dD.g rfl rfl rfl))
  |(apply aOL;exact rfl;exact inferInstance;exact rfl;exact rfl;(first|exact dD.p|exact dD.g rfl rfl rfl))
  |(apply aRe;exact rfl;exact inferInstance;(repeat (first|exact iB.a rfl|apply iB.b));exact rfl;exact rfl;(first|exact dD.p|exact dD.g rfl rfl rfl))
  |(apply aP6;exact rfl;exact inferInstance;(repeat (first|exact iB.a rfl|apply iB.b));exact rfl;exact rfl;(first|exact dD.p|exact dD.g rfl rfl rfl))
  |(apply aOT;exact rfl;exact rfl;(repeat (first|exact iB.a rfl|apply iB.b));(first|exact rfl|with_reducible assumption|exact bE (by with_reducible assumption) (by first|with_reducible assumption|exact rfl));exact inferInstance;exact rfl;(first|exact dD.p|exact dD.g rfl rfl rfl);(with_reducible assumption))
  |(apply aOP;exact rfl;(repeat (first|exact iB.a rfl|apply iB.b));(first|exact rfl|with_reducible assumption|exact bE (by with_reducible assumption) (by first|with_reducible assumption|exact rfl));exact inferInstance;exact rfl;(first|exact dD.p|exact dD.g rfl rfl rfl))
  |(apply aLR;exact rfl;(repeat (first|exact iB.a rfl|apply iB.b));exact rfl;(with_reducible assumption);exact inferInstance;exact rfl;exact rfl;exact rfl;(first|exact dD.p|exact dD.g rfl rfl rfl))
  |(apply aMI;exact rfl;(repeat (first|exact iB.a rfl|apply iB.b));exact rfl;(with_reducible assumption);exact inferInstance;exact rfl;exact rfl;exact rfl;(first|exact dD.p|exact dD.g rfl rfl rfl))
  |(apply aQi;exact rfl;exact inferInstance;exact rfl;(first|exact dD.p|exact dD.g rfl rfl rfl))
  |(apply aQT;exact rfl;exact rfl;exact rfl;(first|exact dD.p|exact dD.g rfl rfl rfl))
  |(apply aQQ;exact rfl;exact rfl;exact rfl;(first|exact dD.p|exact dD.g rfl rfl rfl))
  |(apply aQ6;exact rfl;exact rfl;exact rfl;(first|exact dD.p|exact dD.g rfl rfl rfl))
  |(apply aQU;exact rfl;exact rfl;exact rfl;(first|exact dD.p|exact dD.g rfl rfl rfl))
  |(apply aQH;exact rfl;exact rfl;exact rfl;(first|exact dD.p|exact dD.g rfl rfl rfl))
  |(apply aRa;exact rfl;exact rfl;exact rfl;(first|exact dD.p|exact dD.g rfl rfl rfl))
  |(apply aOD;exact rfl;exact rfl;exact rfl;(first|exact dD.p|exact dD.g rfl rfl rfl);(with_reducible assumption))
  |(apply aOg;exact rfl;exact rfl;exact rfl;(first|exact dD.p|exact dD.g rfl rfl rfl);(with_reducible assumption))
  |(apply aOu;exact rfl;exact rfl;exact rfl;(first|exact dD.p|exact dD.g rfl rfl rfl);(with_reducible assumption))
  |(apply aOs;exact rfl;exact rfl;exact rfl;(first|exact dD.p|exact dD.g rfl rfl rfl);(with_reducible assumption))
  |(apply aN9;exact rfl;exact rfl;exact rfl;(first|exact dD.p|exact dD.g rfl rfl rfl);(with_reducible assumption))
  |(apply aOj;exact rfl;exact rfl;(first|exact dD.p|exact dD.g rfl rfl rfl))
  |(apply aOW;exact rfl;exact rfl;(first|exact dD.p|exact dD.g rfl rfl rfl);(with_reducible assumption))
  |(apply aOI;exact rfl;exact rfl;(first|exact dD.p|exact dD.g rfl rfl rfl))
  |(apply aOJ;exact rfl;exact rfl;(first|exact dD.p|exact dD.g rfl rfl rfl))
  |(apply aNQ;exact rfl;exact rfl;(first|exact dD.p|exact dD.g rfl rfl rfl))
  |(apply aN4;exact rfl;exact rfl;(first|exact dD.p|exact dD.g rfl rfl rfl))
  |(apply aOm;exact rfl;exact rfl;(first|exact dD.p|exact dD.g rfl rfl rfl))
  |(apply aQY;exact rfl;exact rfl;exact rfl;(first|exact dD.p|exact dD.g rfl rfl rfl))
  |(apply aQ4;exact rfl;exact rfl;exact rfl;(first|exact dD.p|exact dD.g rfl rfl rfl))
  |(apply aQ0;exact rfl;exact rfl;exact inferInstance;exact rfl;(first|exact dD.p|exact dD.g rfl rfl rfl);(with_reducible assumption))
  |(apply aP9;exact rfl;exact rfl;exact inferInstance;exact rfl;(first|exact dD.p|exact dD.g rfl rfl rfl);(with_reducible assumption))
  |(apply aNN;exact rfl;exact rfl;exact rfl;exact inferInstance;exact rfl;(first|exact dD.p|exact dD.g rfl rfl rfl);(with_reducible assumption))
  |(apply aPY;exact rfl;exact rfl;exact rfl;(first|exact dD.p|exact dD.g rfl rfl rfl))
  |(apply aQs;exact rfl;exact rfl;exact rfl;(first|exact dD.p|exact dD.g rfl rfl rfl))
  |(apply aRl;exact rfl;exact rfl;(first|exact dD.p|exact dD.g rfl rfl rfl))
  |(apply aOV;exact rfl;exact rfl;(first|exact dD.p|exact dD.g rfl rfl rfl))
  |(apply aOx;exact rfl;exact rfl;(first|exact dD.p|exact dD.g rfl rfl rfl))
  |(apply aL2;exact rfl;exact rfl;(first|exact dD.p|exact dD.g rfl rfl rfl);assumption)
  |(apply aQ3;exact rfl;exact rfl;exact inferInstance;(repeat (first|exact xT.a rfl|apply xT.b));exact trivial;exact rfl;exact rfl)
  |(apply aP5;exact rfl;exact rfl;exact inferInstance;(repeat (first|exact xT.a rfl|apply xT.b));exact trivial;exact rfl;exact rfl)
  |(apply aJ7;exact rfl;exact rfl;(repeat (first|exact iB.a rfl|apply iB.b));exact rfl;(with_reducible assumption);(with_reducible assumption);exact ty1s;(repeat (first|exact xT.a rfl|apply xT.b));exact trivial;exact rfl;exact rfl)
  |(apply aJ7;exact rfl;exact rfl;(repeat (first|exact iB.a rfl|apply iB.b));exact rfl;(with_reducible assumption);(with_reducible assumption);exact tyAs;(repeat (first|exact xT.a rfl|apply xT.b));exact trivial;exact rfl;exact rfl)
  |(apply b_u;exact rfl;exact rfl;exact rfl;exact rfl)
  |(apply aMO)
  |(apply aLY)
  |(apply aJd)
  |(apply aJN)
  |(apply aOz))
 first
  |exact eL
  |exact eC
  |exact eX):P:=h.h k
theorem rv_1 {t T off:Nat} {β:Option Nat} {e:HA} {q:CP} {rs:List ResultVar} {ps:List VP} (h:iW E t=some (.vc (pP β off))) (ht:Ty1 S.P T) (hi:iB H β e) (hq:s8 1 (e.ps.drop off)=some [q]) (kk:RVs S H E rs ps):RVs S H E (.cell t T::rs) (.vc q::ps):=by
 obtain⟨i,h1,h2⟩:=hi.at
 exact vP i 1 h h1 h2 hq (.one ht) kk
theorem rv_A {t T off k:Nat} {β:Option Nat} {e:HA} {qs:List CP} {rs:List ResultVar} {ps:List VP} (h:iW E t=some (.vc (pP β off))) (ht:TyA S.P T k) (hi:iB H β e) (hq:s8 k (e.ps.drop off)=some qs) (kk:RVs S H E rs ps):RVs S H E (.cell t T::rs) (.va qs::ps):=by
 obtain⟨i,h1,h2⟩:=hi.at
 exact vP i k h h1 h2 hq (.agg ht (wO hq)) kk
theorem aQz {P:Program} {fn:Func} {w0:World} {M0:iZ} {B:List Nat} {post:VP} {N:NX} {rs:List ResultVar} {ps:List VP} (hk:κ.to .ret=(.ret,.base (aEl P fn (Rp P w0 M0 B (fun Ho q=>Ho=[]∧q=post))))) (hrs:fn.results=rs.toArray) (hv:RVs ⟨P,w0,M0,B,N⟩ H E rs ps) (hl:Nat.ble ps.length 4=true) (hpost:aIw ps=post) (hfr:∀D,N.fr D→w0.heap.size≤D∧M0 D=none):GC ⟨P,w0,M0,B,N⟩ .ret κ H E Q:=
 ⟨fun _=>fX (fY (by rw [hk];exact gW (.inl rfl) hrs hv hl hpost hfr))⟩
theorem bP {P:Prop} (h:D P True:=by
 first
  |with_reducible refine sL ?_
  |with_reducible refine sC ?_
  |with_reducible refine sX ?_
 repeat (first
  |(apply aOU)
  |(apply aLn)
  |(apply aO0)
  |(apply aNV)
  |(apply aRc;exact rfl;exact rfl;(first|exact dD.p|exact dD.g rfl rfl rfl))
  |(apply aQe;exact rfl;exact rfl;(first|exact dD.p|exact dD.g rfl rfl rfl))
  |(apply b_n;exact rfl;exact rfl;exact rfl;exact rfl;exact rfl)
  |(apply aQR;exact rfl;exact rfl;exact inferInstance;exact rfl;(first|exact dD.p|exact dD.g rfl rfl rfl);(with_reducible assumption))
  |(apply aOE;exact rfl;exact inferInstance;exact rfl;(first|exact dD.p|exact dD.g rfl rfl rfl))
  |(apply aQJ;exact rfl;exact inferInstance;exact rfl;(first|exact dD.p|exact dD.g rfl rfl rfl))
  |(apply aN3;exact rfl;exact inferInstance;exact rfl;(first|exact dD.p|exact dD.g rfl rfl rfl))
  |(apply aOF;exact rfl;exact inferInstance;exact rfl;exact rfl;(first|exact dD.p|exact dD.g rfl rfl rfl))
  |(apply aOL;exact rfl;exact inferInstance;exact rfl;exact rfl;(first|exact dD.p|exact dD.g rfl rfl rfl))
  |(apply aRe;exact rfl;exact inferInstance;(repeat (first|exact iB.a rfl|apply iB.b));exact rfl;exact rfl;(first|exact dD.p|exact dD.g rfl rfl rfl))
  |(apply aP6;exact rfl;exact inferInstance;(repeat (first|exact iB.a rfl|apply iB.b));exact rfl;exact rfl;(first|exact dD.p|exact dD.g rfl rfl rfl))
  |(apply aOT;exact rfl;exact rfl;(repeat (first|exact iB.a rfl|apply iB.b));(first|exact rfl|with_reducible assumption|exact bE (by with_reducible assumption) (by first|with_reducible assumption|exact rfl));exact inferInstance;exact rfl;(first|exact dD.p|exact dD.g rfl rfl rfl);(with_reducible assumption))
  |(apply aOP;exact rfl;(repeat (first|exact iB.a rfl|apply iB.b));(first|exact rfl|with_reducible assumption|exact bE (by with_reducible assumption) (by first|with_reducible assumption|exact rfl));exact inferInstance;exact rfl;(first|exact dD.p|exact dD.g rfl rfl rfl))
  |(apply aLR;exact rfl;(repeat (first|exact iB.a rfl|apply iB.b));exact rfl;(with_reducible assumption);exact inferInstance;exact rfl;exact rfl;exact rfl;(first|exact dD.p|exact dD.g rfl rfl rfl))
  |(apply aMI;exact rfl;(repeat (first|exact iB.a rfl|apply iB.b));exact rfl;(with_reducible assumption);exact inferInstance;exact rfl;exact rfl;exact rfl;(first|exact dD.p|exact dD.g rfl rfl rfl))
  |(apply aQi;exact rfl;exact inferInstance;exact rfl;(first|exact dD.p|exact dD.g rfl rfl rfl))
  |(apply aQT;exact rfl;exact rfl;exact rfl;(first|exact dD.p|exact dD.g rfl rfl rfl))
  |(apply aQQ;exact rfl;exact rfl;exact rfl;(first|exact dD.p|exact dD.g rfl rfl rfl))
  |(apply aQ6;exact rfl;exact rfl;exact rfl;(first|exact dD.p|exact dD.g rfl rfl rfl))
  |(apply aQU;exact rfl;exact rfl;exact rfl;(first|exact dD.p|exact dD.g rfl rfl rfl))
  |(apply aQH;exact rfl;exact rfl;exact rfl;(first|exact dD.p|exact dD.g rfl rfl rfl))
  |(apply aRa;exact rfl;exact rfl;exact rfl;(first|exact dD.p|exact dD.g rfl rfl rfl))
  |(apply aOD;exact rfl;exact rfl;exact rfl;(first|exact dD.p|exact dD.g rfl rfl rfl);(with_reducible assumption))
  |(apply aOg;exact rfl;exact rfl;exact rfl;(first|exact dD.p|exact dD.g rfl rfl rfl);(with_reducible assumption))
  |(apply aOu;exact rfl;exact rfl;exact rfl;(first|exact dD.p|exact dD.g rfl rfl rfl);(with_reducible assumption))
  |(apply aOs;exact rfl;exact rfl;exact rfl;(first|exact dD.p|exact dD.g rfl rfl rfl);(with_reducible assumption))
  |(apply aN9;exact rfl;exact rfl;exact rfl;(first|exact dD.p|exact dD.g rfl rfl rfl);(with_reducible assumption))
  |(apply aOj;exact rfl;exact rfl;(first|exact dD.p|exact dD.g rfl rfl rfl))
  |(apply aOW;exact rfl;exact rfl;(first|exact dD.p|exact dD.g rfl rfl rfl);(with_reducible assumption))
  |(apply aOI;exact rfl;exact rfl;(first|exact dD.p|exact dD.g rfl rfl rfl))
  |(apply aOJ;exact rfl;exact rfl;(first|exact dD.p|exact dD.g rfl rfl rfl))
  |(apply aNQ;exact rfl;exact rfl;(first|exact dD.p|exact dD.g rfl rfl rfl))
  |(apply aN4;exact rfl;exact rfl;(first|exact dD.p|exact dD.g rfl rfl rfl))
  |(apply aOm;exact rfl;exact rfl;(first|exact dD.p|exact dD.g rfl rfl rfl))
  |(apply aQY;exact rfl;exact rfl;exact rfl;(first|exact dD.p|exact dD.g rfl rfl rfl))
  |(apply aQ4;exact rfl;exact rfl;exact rfl;(first|exact dD.p|exact dD.g rfl rfl rfl))
  |(apply aQ0;exact rfl;exact rfl;exact inferInstance;exact rfl;(first|exact dD.p|exact dD.g rfl rfl rfl);(with_reducible assumption))
  |(apply aP9;exact rfl;exact rfl;exact inferInstance;exact rfl;(first|exact dD.p|exact dD.g rfl rfl rfl);(with_reducible assumption))
  |(apply aNN;exact rfl;exact rfl;exact rfl;exact inferInstance;exact rfl;(first|exact dD.p|exact dD.g rfl rfl rfl);(with_reducible assumption))
  |(apply aPY;exact rfl;exact rfl;exact rfl;(first|exact dD.p|exact dD.g rfl rfl rfl))
  |(apply aQs;exact rfl;exact rfl;exact rfl;(first|exact dD.p|exact dD.g rfl rfl rfl))
  |(apply aRl;exact rfl;exact rfl;(first|exact dD.p|exact dD.g rfl rfl rfl))
  |(apply aOV;exact rfl;exact rfl;(first|exact dD.p|exact dD.g rfl rfl rfl))
  |(apply aOx;exact rfl;exact rfl;(first|exact dD.p|exact dD.g rfl rfl rfl))
  |(apply aL2;exact rfl;exact rfl;(first|exact dD.p|exact dD.g rfl rfl rfl);assumption)
  |(apply aQ3;exact rfl;exact rfl;exact inferInstance;(repeat (first|exact xT.a rfl|apply xT.b));exact trivial;exact rfl;exact rfl)
  |(apply aP5;exact rfl;exact rfl;exact inferInstance;(repeat (first|exact xT.a rfl|apply xT.b));exact trivial;exact rfl;exact rfl)
  |(apply aJ7;exact rfl;exact rfl;(repeat (first|exact iB.a rfl|apply iB.b));exact rfl;(with_reducible assumption);(with_reducible assumption);exact ty1s;(repeat (first|exact xT.a rfl|apply xT.b));exact trivial;exact rfl;exact rfl)
  |(apply aJ7;exact rfl;exact rfl;(repeat (first|exact iB.a rfl|apply iB.b));exact rfl;(with_reducible assumption);(with_reducible assumption);exact tyAs;(repeat (first|exact xT.a rfl|apply xT.b));exact trivial;exact rfl;exact rfl)
  |(apply b_u;exact rfl;exact rfl;exact rfl;exact rfl)
  |(apply aMO)
  |(apply aLY)
  |(apply aJd)
  |(apply aJN)
  |(apply aOz))
 repeat (cases(by with_reducible assumption:some _=some _))
 apply aQz
 ·exact rfl
 ·exact rfl
 ·repeat (first
   |exact RVs.nil
   |(apply RVs.tmp;exact rfl)
   |(apply rv_A;exact rfl;exact inferInstance;(repeat (first|exact iB.a rfl|apply iB.b));exact rfl)
   |(apply rv_1;exact rfl;exact inferInstance;(repeat (first|exact iB.a rfl|apply iB.b));exact rfl))
 ·exact rfl
 ·exact rfl
 ·exact fun _ h=>h):P:=h.h trivial
theorem gO {E':qK} (l:List Nat) {a:Act} {w:World} (h:hs S H E a w) (hp:dH H l=some H':=by exact rfl) (hl:l.Nodup:=by decide) (hE:aFa E E':=by repeat (first|exact trivial|refine⟨rfl,?_⟩)):hs S H' E' a w:=wT l hp hl hE h
theorem p6 {PJ:List HA→qK→Prop} {E':qK} (J:∀H E,PJ H E→WX S .normal κ H E) (h:PJ H' E') (l:List Nat) (hp:dH H l=some H':=by exact rfl) (hE:aFa E E':=by repeat (first|exact trivial|refine⟨rfl,?_⟩)) (hl:l.Nodup:=by decide):WX S .normal κ H E:=aDa J h l hp hE hl
theorem aC {α:Type} {A B:Option α} {r:α} {t:Nat} {b:Bool} {x y:Code} (hF:(bif b then A else B)=some r) (ht:iW E t=some (.vc (pB b))) (hx:b=true→A=some r→WC S x κ H E) (hy:b=false→B=some r→WC S y κ H E):WC S (.cond (.tmp t) x y) κ H E:=
 aFi ht (fun h=>hx h (tA h hF)) (fun h=>hy h (rJ h hF))
theorem cG {α:Type} {A B:Option α} {r:α} {d:Nat} {c:Bool} (hF:(bif c then A else B)=some r) (ht:c=true→A=some r→WL S ops κ rest H ((d,.vc (pB true))::E)) (hf:c=false→B=some r→WL S ops κ rest H ((d,.vc (pB false))::E)):WL S ops κ rest H ((d,.vc (pB c))::E):=
 aIJ (fun h=>ht h (tA h hF)) (fun h=>hf h (rJ h hF))
end
end Go.Proofs.YtolfcbpgmfbgmaaGreat
set_option linter.unusedVariables false
set_option maxRecDepth 100000
namespace Go.Proofs.YtolfcbpgmfbgmaaGreat
theorem aW:Tryz.prog.follows .mixedOrders=true:=by kernel_rfl
instance Tryz_mix:Mix Tryz.prog:=⟨aW⟩
instance tyA40:TyA Tryz.prog 40 2:=mkA Tryz.underlying40 rfl (by kernel_rfl)
theorem tyB40:TyB Tryz.prog 40 [(0,1),(1,1)] ([pB false]++[pS cI ([]:List Int)]):=mkB (z:=.agg #[.bool false,.slice none 0 0]) (by kernel_rfl) Tryz.underlying40 (by kernel_rfl) (fun M=>bC.app (show bC M [pB false] [.bool false] from zU1) (show bC M [pS cI ([]:List Int)] [.slice none 0 0] from⟨eM cI M,trivial⟩))
instance tyF40_0:TyF Tryz.prog 40 0 0:=mkF (ft:=4) (k:=0) Tryz.underlying40 rfl rfl rfl (by kernel_rfl)
instance tyF40_1:TyF Tryz.prog 40 1 1:=mkF (ft:=22) (k:=0) Tryz.underlying40 rfl rfl rfl (by kernel_rfl)
instance tyO22:Ty1 Tryz.prog 22:=mk1 Tryz.underlying22 rfl (by kernel_rfl)
instance tyO3:Ty1 Tryz.prog 3:=mk1 Tryz.underlying3 rfl (by kernel_rfl)
instance tyO4:Ty1 Tryz.prog 4:=mk1 Tryz.underlying4 rfl (by kernel_rfl)
instance tyS22:TyS Tryz.prog 22 3 1 8:=mkS (z:=.int .i64 0) (k:=0) Tryz.underlying22 (by kernel_rfl) rfl
instance tyZ3:TyZ Tryz.prog 3 [pI .i64 0]:=mkZ (z:=.int .i64 0) (k:=1) (by kernel_rfl) rfl (fun M=>show bC M [pI .i64 0] [.int .i64 0] from zU1)
instance tyZ40:TyZ Tryz.prog 40 ([pB false]++[pS cI ([]:List Int)]):=mkZ (z:=.agg #[.bool false,.slice none 0 0]) (k:=2) (by kernel_rfl) rfl (fun M=>bC.app (show bC M [pB false] [.bool false] from zU1) (show bC M [pS cI ([]:List Int)] [.slice none 0 0] from⟨eM cI M,trivial⟩))
def nS (K:Nat) (a0:Bool) (a1:List Int) (x4:Int):Option aB:=
 bif(x4==0) then(some (⟨false,([]:List Int)⟩:aB)) else((slL a1 0 x4).bind fun x8=>some (⟨a0,x8⟩:aB))
def fF (K:Nat) (a1:List Int):Nat→Int→Option Int
 |0,_=>none
 |k+1,x3=>bif(decide (0<x3)) then((aR (x3-1)).bind fun v11=>(bO a1 (max v11 0)).bind fun v13=>bif(v13==0) then((aR (x3-1)).bind fun v16=>fF K a1 k v16) else(some x3)) else(some x3)
def aZ (K:Nat) (a0:Bool) (a1:List Int):Option aB:=
 (fF K a1 K (a1.length:Int)).bind fun x4=>nS K a0 a1 x4
theorem bK {K:Nat} {a0:Bool} {a1:List Int} {r:aB} (hF:aZ K a0 a1=some r):Ct Tryz.prog 94 [.vc (pB a0),.vc (pS cI a1)] (.va (aB.e r)):=by
 unfold aZ at hF
 refine aA Tryz.func94 rfl (by kernel_rfl) Tryz.ntmps94 rfl (fun w0 M0=>?_)
 refine aD (aK (aL rfl tyZ40 (fun b1=>?_)))
 refine go ?_ ?_
 refine aI (aY (fun H E=>∃(x4:Int),nS K a0 a1 x4=some r∧H=[⟨some b1,1,40,2,1,([pB false]++[pS cI ([]:List Int)])⟩]∧E=[(0,.vc (pB a0)),(1,.vc (pS cI a1)),(4,.vc (pP (some b1) 0)),(5,.vc (pI .i64 x4))]) ?_ (fun Jj6=>?_))
 ·rintro _ _ ⟨x4,hF,rfl,rfl⟩
  unfold nS at hF
  refine go ?_ ?_
  refine aC hF rfl (fun h7 hF=>?_) (fun h7 hF=>?_)
  ·refine aD (aK (aH (fG (is:=[]) (xs:=[]) (ps:=[]) rfl tyB40 rfl rfl trivial rfl) trivial ?_))
   exact bP
  obtain⟨x8,h9,hF⟩:=aO hF
  refine go ?_ ?_
  refine aH (fG (is:=[0,1]) (xs:=[.tmp 24,.tmp 27]) (ps:=[.vc (pB a0),.vc (pS cI x8)]) rfl tyB40 rfl rfl ⟨trivial,trivial,trivial⟩ rfl) zU2 ?_
  exact bP
 obtain⟨x4',hL,hRl5⟩:=aO hF
 refine dW (fun k a w=>∃(x3:Int),fF K a1 k x3=some x4'∧hs _ [⟨some b1,1,40,2,1,([pB false]++[pS cI ([]:List Int)])⟩] [(0,.vc (pB a0)),(1,.vc (pS cI a1)),(4,.vc (pP (some b1) 0)),(5,.vc (pI .i64 x3))] a w) K (fun a w ⟨_,hF,_⟩=>by cases hF) (fun k a w ⟨x3,hF,hh⟩=>dV ?_ hh) (fun a w hh=>⟨(a1.length:Int),hL,gO [0] hh⟩)
 rw [fF.eq_2] at hF
 refine go ?_ ?_
 refine cG hF (fun h10 hF=>?_) (fun h10 hF=>?_)
 ·obtain⟨v11,h12,v13,h14,hF⟩:=tY hF
  refine go ?_ ?_
  refine aC hF rfl (fun h15 hF=>?_) (fun h15 hF=>?_)
  ·refine iC (aJ (aI ?_))
   have hF:=qB h12 hF
   refine go ?_ ?_
   exact aF (fun a w hh=>⟨v11,hF,gO [0] hh⟩)
  refine bI ?_
  obtain rfl:=iR hF
  exact p6 Jj6 ⟨x3,hRl5,rfl,rfl⟩ [0]
 refine go ?_ ?_
 refine uV rfl ?_
 refine bI ?_
 obtain rfl:=iR hF
 exact p6 Jj6 ⟨x3,hRl5,rfl,rfl⟩ [0]
def p8 (K:Nat) (a0:aB) (a1:aB) (x25:List Int):Option aB:=
 (aZ K (a0.neg != a1.neg) x25).bind fun v33=>some v33
def pU (K:Nat) (a1:aB) (x24:Int) (recl31:(List Int)→Int→Option (List Int)) (x52:List Int) (x58:Int):Option (List Int):=
 (aR (x24+(a1.d.length:Int))).bind fun v61=>(bO x52 v61).bind fun v63=>(pA x52 v61 x58).bind fun x65=>(aR (x24+1)).bind fun v68=>recl31 x65 v68
def gV (K:Nat) (a0:aB) (a1:aB) (x24:Int):Nat→(List Int)→Int→Int→Option ((List Int)×Int)
 |0,_,_,_=>none
 |k+1,x44,x50,x51=>bif(decide (x51<(a1.d.length:Int))) then((aR (x24+x51)).bind fun v73=>(bO x44 v73).bind fun v75=>(bO a0.d x24).bind fun v77=>(bO a1.d x51).bind fun v79=>(aR (v77*v79)).bind fun v81=>(aR (v75+v81)).bind fun v83=>(aR (v83+x50)).bind fun v85=>(aR (x24+x51)).bind fun v87=>(zP v85 1000000000).bind fun v89=>(bO x44 v87).bind fun v91=>(pA x44 v87 v89).bind fun x93=>(zL v85 1000000000).bind fun v96=>(aR (x51+1)).bind fun v98=>gV K a0 a1 x24 k x93 v96 v98) else(some (x44,x50))
def gT (K:Nat) (a0:aB) (a1:aB):Nat→(List Int)→Int→Option (List Int)
 |0,_,_=>none
 |k+1,x18,x24=>bif(decide (x24<(a0.d.length:Int))) then((gV K a0 a1 x24 K x18 0 0).bind fun(x52,x58)=>pU K a1 x24 (gT K a0 a1 k) x52 x58) else(some x18)
def cZ (K:Nat) (a0:aB) (a1:aB):Option aB:=
 (aR ((a0.d.length:Int)+(a1.d.length:Int))).bind fun v4=>(y4 v4 0).bind fun x6=>(gT K a0 a1 K x6 0).bind fun x25=>p8 K a0 a1 x25
theorem gJ {K:Nat} {a0:aB} {a1:aB} {r:aB} (hF:cZ K a0 a1=some r):Ct Tryz.prog 58 [.va (aB.e a0),.va (aB.e a1)] (.va (aB.e r)):=by
 unfold cZ at hF
 refine aA Tryz.func58 rfl (by kernel_rfl) Tryz.ntmps58 rfl (fun w0 M0=>?_)
 refine aD (aK (cK rfl rfl trivial (fun b1=>?_)))
 refine cK rfl rfl trivial (fun b2=>?_)
 refine aL rfl tyZ40 (fun b3=>?_)
 obtain⟨v4,h5,x6,h7,hF⟩:=tY hF
 refine go ?_ ?_
 refine qG (C:=cI) rfl tyS22 rfl tyZ3 rfl h7 (fun b8=>?_)
 refine go ?_ ?_
 refine aI (aY (fun H E=>∃(x25:List Int),p8 K a0 a1 x25=some r∧x25.length=x6.length∧H=[hO cI b8 x6.length 3 x6.length x25,⟨some b3,1,40,2,1,([pB false]++[pS cI ([]:List Int)])⟩,⟨some b2,1,40,2,1,(aB.e a1)⟩,⟨some b1,1,40,2,1,(aB.e a0)⟩]∧E=[(2,.vc (pP (some b1) 0)),(3,.vc (pP (some b2) 0)),(4,.vc (pP (some b3) 0)),(5,.vc (pO b8 x6.length x6.length))]) ?_ (fun Jj32=>?_))
 ·rintro _ _ ⟨x25,hF,q29,rfl,rfl⟩
  unfold p8 at hF
  refine go ?_ ?_
  refine aH (yO rfl Tryz.underlying4) zU2 ?_
  refine fL ?_
  refine wI 0 [5,74] rfl q29 zU2 rfl ?_
  obtain⟨v33,h34,hF⟩:=aX hF bK
  exact bP
 obtain⟨x25',hL,hRl31⟩:=aO hF
 refine dW (fun k a w=>∃(x18:List Int),∃(x24:Int),gT K a0 a1 k x18 x24=some x25'∧x18.length=x6.length∧hs _ [hO cI b8 x6.length 3 x6.length x18,⟨some b3,1,40,2,1,([pB false]++[pS cI ([]:List Int)])⟩,⟨some b2,1,40,2,1,(aB.e a1)⟩,⟨some b1,1,40,2,1,(aB.e a0)⟩] [(2,.vc (pP (some b1) 0)),(3,.vc (pP (some b2) 0)),(4,.vc (pP (some b3) 0)),(5,.vc (pO b8 x6.length x6.length)),(6,.vc (pI .i64 x24))] a w) K (fun a w ⟨_,_,hF,_,_⟩=>by cases hF) (fun k a w ⟨x18,x24,hF,q22,hh⟩=>dV ?_ hh) (fun a w hh=>⟨x6,0,hL,rfl,gO [0,1,2,3] hh⟩)
 rw [gT.eq_2] at hF
 refine go ?_ ?_
 refine aC hF rfl (fun h35 hF=>?_) (fun h35 hF=>?_)
 ·refine go ?_ ?_
  refine aI (go ?_ ?_)
  refine aI (aY (fun H E=>∃(x52:List Int),∃(x58:Int),pU K a1 x24 (gT K a0 a1 k) x52 x58=some x25'∧x52.length=x6.length∧H=[hO cI b8 x6.length 3 x6.length x52,⟨some b3,1,40,2,1,([pB false]++[pS cI ([]:List Int)])⟩,⟨some b2,1,40,2,1,(aB.e a1)⟩,⟨some b1,1,40,2,1,(aB.e a0)⟩]∧E=[(2,.vc (pP (some b1) 0)),(3,.vc (pP (some b2) 0)),(4,.vc (pP (some b3) 0)),(5,.vc (pO b8 x6.length x6.length)),(6,.vc (pI .i64 x24)),(7,.vc (pI .i64 x58))]) ?_ (fun Jj60=>?_))
  ·rintro _ _ ⟨x52,x58,hF,q56,rfl,rfl⟩
   unfold pU at hF
   obtain⟨v61,h62,v63,h64,x65,h66,v68,h69,hF⟩:=bn4 hF
   refine go ?_ ?_
   exact aF (fun a w hh=>⟨x65,v68,hF,(bE h66 q56),gO [0,1,2,3] hh⟩)
  obtain⟨⟨x52',x58'⟩,hL,hRl59⟩:=aO hF
  refine dW (fun k a w=>∃(x44:List Int),∃(x50:Int),∃(x51:Int),gV K a0 a1 x24 k x44 x50 x51=some (x52',x58')∧x44.length=x6.length∧hs _ [hO cI b8 x6.length 3 x6.length x44,⟨some b3,1,40,2,1,([pB false]++[pS cI ([]:List Int)])⟩,⟨some b2,1,40,2,1,(aB.e a1)⟩,⟨some b1,1,40,2,1,(aB.e a0)⟩] [(2,.vc (pP (some b1) 0)),(3,.vc (pP (some b2) 0)),(4,.vc (pP (some b3) 0)),(5,.vc (pO b8 x6.length x6.length)),(6,.vc (pI .i64 x24)),(7,.vc (pI .i64 x50)),(8,.vc (pI .i64 x51))] a w) K (fun a w ⟨_,_,_,hF,_,_⟩=>by cases hF) (fun k a w ⟨x44,x50,x51,hF,q48,hh⟩=>dV ?_ hh) (fun a w hh=>⟨x18,0,0,hL,q22,gO [0,1,2,3] hh⟩)
  rw [gV.eq_2] at hF
  refine go ?_ ?_
  refine aC hF rfl (fun h70 hF=>?_) (fun h70 hF=>?_)
  ·refine go ?_ ?_
   refine aI (aD ?_)
   obtain⟨v73,h74,hF⟩:=aO hF
   obtain⟨v75,h76,hF⟩:=aO hF
   obtain⟨v77,h78,hF⟩:=aO hF
   obtain⟨v79,h80,hF⟩:=aO hF
   obtain⟨v81,h82,hF⟩:=aO hF
   obtain⟨v83,h84,hF⟩:=aO hF
   obtain⟨v85,h86,hF⟩:=aO hF
   refine dr [0,0,0,6,15,31,0,64,0,448,960,0,2048,0,14336,30720,65472,131071,0,524287,1048575] 21 0 ?_ (fun bs72 G71=>?_)
   have hF:=qB h74 hF
   obtain⟨v89,h90,hF⟩:=aO hF
   have hF:=qB h76 hF
   obtain⟨x93,h94,v96,h97,v98,h99,hF⟩:=bn3 hF
   refine go ?_ ?_
   exact aF (fun a w hh=>⟨x93,v96,v98,hF,(bE h94 q48),gO [0,1,2,3] hh⟩)
  refine bI ?_
  obtain⟨rfl,rfl⟩:=sm2 hF
  exact p6 Jj60 ⟨x44,x50,hRl59,q48,rfl,rfl⟩ [0,1,2,3]
 refine bI ?_
 obtain rfl:=iR hF
 exact p6 Jj32 ⟨x18,hRl31,q22,rfl,rfl⟩ [0,1,2,3]
def cS (a0:List Int) (a1:Int):Option Int:=
 bif(decide (a1<(a0.length:Int))) then((bO a0 a1).bind fun v2=>some v2) else(some 0)
theorem f9 {a0:List Int} {a1:Int} {r:Int} (hF:cS a0 a1=some r):Ct Tryz.prog 140 [.vc (pS cI a0),.vc (pI .i64 a1)] (.vc (pI .i64 r)):=by
 unfold cS at hF
 refine aA Tryz.func140 rfl (by kernel_rfl) Tryz.ntmps140 rfl (fun w0 M0=>?_)
 refine go ?_ ?_
 refine aC hF rfl (fun h1 hF=>?_) (fun h1 hF=>?_)
 ·obtain⟨v2,h3,hF⟩:=aO hF
  exact bP
 exact bP
def oQ (K:Nat) (x19:List Int):Option (List Int):=
 some x19
def bV (K:Nat) (a0:List Int) (a1:List Int):Nat→(List Int)→Int→Int→Option (List Int)
 |0,_,_,_=>none
 |k+1,x11,x17,x18=>bif(decide (x18<(a0.length:Int))) then((cS a0 x18).bind fun v28=>(cS a1 x18).bind fun v30=>(aR (v28+v30)).bind fun v32=>(aR (v32+x17)).bind fun v34=>(zP v34 1000000000).bind fun v36=>(sD x11 [v36]).bind fun x38=>(zL v34 1000000000).bind fun v45=>(aR (x18+1)).bind fun v47=>bV K a0 a1 k x38 v45 v47) else(bif(decide (x18<(a1.length:Int))) then((cS a0 x18).bind fun v50=>(cS a1 x18).bind fun v52=>(aR (v50+v52)).bind fun v54=>(aR (v54+x17)).bind fun v56=>(zP v56 1000000000).bind fun v58=>(sD x11 [v58]).bind fun x60=>(zL v56 1000000000).bind fun v67=>(aR (x18+1)).bind fun v69=>bV K a0 a1 k x60 v67 v69) else(bif(decide (0<x17)) then((cS a0 x18).bind fun v72=>(cS a1 x18).bind fun v74=>(aR (v72+v74)).bind fun v76=>(aR (v76+x17)).bind fun v78=>(zP v78 1000000000).bind fun v80=>(sD x11 [v80]).bind fun x82=>(zL v78 1000000000).bind fun v89=>(aR (x18+1)).bind fun v91=>bV K a0 a1 k x82 v89 v91) else(some x11)))
def pT (K:Nat) (a0:List Int) (a1:List Int):Option (List Int):=
 (bV K a0 a1 K ([]:List Int) 0 0).bind fun x19=>oQ K x19
theorem aB1 {K:Nat} {a0:List Int} {a1:List Int} {r:List Int} (hF:pT K a0 a1=some r):Ct Tryz.prog 98 [.vc (pS cI a0),.vc (pS cI a1)] (.vc (pS cI r)):=by
 unfold pT at hF
 refine aA Tryz.func98 rfl (by kernel_rfl) Tryz.ntmps98 rfl (fun w0 M0=>?_)
 refine aD (aK (aH (aM (.inr rfl)) ⟨eM cI,trivial⟩ ?_))
 refine aU (aJ (aD (aK (pN cI 3 rfl ?_))))
 refine go ?_ ?_
 refine aI (aY (fun H E=>∃(x19:List Int),∃(b20:Option Nat),∃(c21:Nat),∃(n22:Nat),oQ K x19=some r∧x19.length=n22∧H=[hO cI b20 c21 3 n22 x19]∧E=[(5,.vc (pO b20 n22 c21))]) ?_ (fun Jj26=>?_))
 ·rintro _ _ ⟨x19,b20,c21,n22,hF,q23,rfl,rfl⟩
  unfold oQ at hF
  refine go ?_ ?_
  refine fX (fY (mL 0 [4,5,41] rfl q23 ⟨rfl,rfl,rfl,trivial⟩ rfl ?_))
  obtain rfl:=iR hF
  exact gW (.inl rfl) Tryz.results98 (.tmp rfl .nil) rfl rfl
 obtain⟨x19',hL,hRl25⟩:=aO hF
 refine dW (fun k a w=>∃(x11:List Int),∃(x17:Int),∃(x18:Int),∃(b12:Option Nat),∃(c13:Nat),∃(n14:Nat),bV K a0 a1 k x11 x17 x18=some x19'∧x11.length=n14∧hs _ [hO cI b12 c13 3 n14 x11] [(0,.vc (pS cI a0)),(1,.vc (pS cI a1)),(5,.vc (pO b12 n14 c13)),(6,.vc (pI .i64 x17)),(7,.vc (pI .i64 x18))] a w) K (fun a w ⟨_,_,_,_,_,_,hF,_,_⟩=>by cases hF) (fun k a w ⟨x11,x17,x18,b12,c13,n14,hF,q15,hh⟩=>dV ?_ hh) (fun a w hh=>⟨([]:List Int),0,0,none,0,0,hL,rfl,gO [0] hh⟩)
 rw [bV.eq_2] at hF
 refine go ?_ ?_
 refine cG hF (fun h27 hF=>?_) (fun h27 hF=>?_)
 ·refine go ?_ ?_
  refine eU rfl ?_
  refine go ?_ ?_
  refine aI ?_
  obtain⟨v28,h29,hF⟩:=aX hF f9
  obtain⟨v30,h31,hF⟩:=aX hF f9
  obtain⟨v32,h33,v34,h35,v36,h37,hF⟩:=bn3 hF
  refine go ?_ ?_
  refine aH (gP (C:=cI) (xs:=[.tmp 36]) (ps:=[.vc (pI .i64 v36)]) (zs:=[v36]) rfl tyS22 rfl ⟨⟨trivial,rfl⟩,trivial⟩ rfl) zU1 ?_
  obtain⟨x38,h39,hF⟩:=aO hF
  refine kK 0 rfl tyS22 rfl rfl q15 rfl rfl h39 (fun b40 c41 H42 e43=>?_)
  cases e43
  obtain⟨v45,h46,v47,h48,hF⟩:=tY hF
  refine go ?_ ?_
  exact aF (fun a w hh=>⟨x38,v45,v47,b40,c41,(n14+[v36].length),hF,(bL h39 q15),gO [0] hh⟩)
 refine go ?_ ?_
 refine cG hF (fun h49 hF=>?_) (fun h49 hF=>?_)
 ·refine go ?_ ?_
  refine eU rfl ?_
  refine go ?_ ?_
  refine aI ?_
  obtain⟨v50,h51,hF⟩:=aX hF f9
  obtain⟨v52,h53,hF⟩:=aX hF f9
  obtain⟨v54,h55,v56,h57,v58,h59,hF⟩:=bn3 hF
  refine go ?_ ?_
  refine aH (gP (C:=cI) (xs:=[.tmp 36]) (ps:=[.vc (pI .i64 v58)]) (zs:=[v58]) rfl tyS22 rfl ⟨⟨trivial,rfl⟩,trivial⟩ rfl) zU1 ?_
  obtain⟨x60,h61,hF⟩:=aO hF
  refine kK 0 rfl tyS22 rfl rfl q15 rfl rfl h61 (fun b62 c63 H64 e65=>?_)
  cases e65
  obtain⟨v67,h68,v69,h70,hF⟩:=tY hF
  refine go ?_ ?_
  exact aF (fun a w hh=>⟨x60,v67,v69,b62,c63,(n14+[v58].length),hF,(bL h61 q15),gO [0] hh⟩)
 refine go ?_ ?_
 refine aC hF rfl (fun h71 hF=>?_) (fun h71 hF=>?_)
 ·refine go ?_ ?_
  refine aI ?_
  obtain⟨v72,h73,hF⟩:=aX hF f9
  obtain⟨v74,h75,hF⟩:=aX hF f9
  obtain⟨v76,h77,v78,h79,v80,h81,hF⟩:=bn3 hF
  refine go ?_ ?_
  refine aH (gP (C:=cI) (xs:=[.tmp 36]) (ps:=[.vc (pI .i64 v80)]) (zs:=[v80]) rfl tyS22 rfl ⟨⟨trivial,rfl⟩,trivial⟩ rfl) zU1 ?_
  obtain⟨x82,h83,hF⟩:=aO hF
  refine kK 0 rfl tyS22 rfl rfl q15 rfl rfl h83 (fun b84 c85 H86 e87=>?_)
  cases e87
  obtain⟨v89,h90,v91,h92,hF⟩:=tY hF
  refine go ?_ ?_
  exact aF (fun a w hh=>⟨x82,v89,v91,b84,c85,(n14+[v80].length),hF,(bL h83 q15),gO [0] hh⟩)
 refine bI ?_
 obtain rfl:=iR hF
 exact p6 Jj26 ⟨x11,b12,c13,n14,hRl25,q15,rfl,rfl⟩ [0]
def qI (K:Nat):Option Int:=
 some 0
def cX (K:Nat) (a0:List Int) (a1:List Int):Nat→Int→Option (LR Int Unit)
 |0,_=>none
 |k+1,x6=>bif(decide (0≤x6)) then((bO a0 x6).bind fun v12=>(bO a1 x6).bind fun v14=>bif(decide (v12<v14)) then(some (.ret (-1))) else((bO a0 x6).bind fun v19=>(bO a1 x6).bind fun v21=>bif(decide (v21<v19)) then(some (.ret 1)) else((aR (x6-1)).bind fun v24=>cX K a0 a1 k v24))) else(some (.go ()))
def bW (K:Nat) (a0:List Int) (a1:List Int):Option Int:=
 bif(decide ((a0.length:Int)<(a1.length:Int))) then(some (-1)) else(bif(decide ((a1.length:Int)<(a0.length:Int))) then(some 1) else((aR ((a0.length:Int)-1)).bind fun v3=>(cX K a0 a1 K v3).bind fun o=>match o with| .ret r=>some r| .go _=>qI K))
theorem g8 {K:Nat} {a0:List Int} {a1:List Int} {r:Int} (hF:bW K a0 a1=some r):Ct Tryz.prog 99 [.vc (pS cI a0),.vc (pS cI a1)] (.vc (pI .i64 r)):=by
 unfold bW at hF
 refine aA Tryz.func99 rfl (by kernel_rfl) Tryz.ntmps99 rfl (fun w0 M0=>?_)
 refine go ?_ ?_
 refine aC hF rfl (fun h1 hF=>?_) (fun h1 hF=>?_)
 ·exact bP
 refine go ?_ ?_
 refine aC hF rfl (fun h2 hF=>?_) (fun h2 hF=>?_)
 ·exact bP
 obtain⟨v3,h4,hF⟩:=aO hF
 refine go ?_ ?_
 refine aI (aY (fun H E=>qI K=some r∧H=[]∧E=[]) ?_ (fun Jj8=>?_))
 ·rintro _ _ ⟨hF,rfl,rfl⟩
  unfold qI at hF
  exact bP
 obtain⟨ol7,hL,hRl7⟩:=aO hF
 refine dW (fun k a w=>∃(x6:Int),cX K a0 a1 k x6=some ol7∧hs _ [] [(0,.vc (pS cI a0)),(1,.vc (pS cI a1)),(5,.vc (pI .i64 x6))] a w) K (fun a w ⟨_,hF,_⟩=>by cases hF) (fun k a w ⟨x6,hF,hh⟩=>dV ?_ hh) (fun a w hh=>⟨v3,hL,gO [] hh⟩)
 rw [cX.eq_2] at hF
 refine go ?_ ?_
 refine aC hF rfl (fun h9 hF=>?_) (fun h9 hF=>?_)
 ·refine go ?_ ?_
  refine aI (aD (aD ?_))
  obtain⟨v12,h13,hF⟩:=aO hF
  obtain⟨v14,h15,hF⟩:=aO hF
  refine dr [0,0,3,7,0,0,48,112,255] 9 0 ?_ (fun bs11 G10=>?_)
  refine aU (aJ (aC hF rfl (fun h16 hF=>?_) (fun h16 hF=>?_)))
  ·exact bP
  have hF:=qB h13 hF
  have hF:=qB h15 hF
  refine go ?_ ?_
  refine dr [0,0,3,7,0,0,48,112,255] 9 0 ?_ (fun bs18 G17=>?_)
  refine aU (aJ (aC hF rfl (fun h23 hF=>?_) (fun h23 hF=>?_)))
  ·exact bP
  obtain⟨v24,h25,hF⟩:=aO hF
  refine go ?_ ?_
  exact aF (fun a w hh=>⟨v24,hF,gO [] hh⟩)
 refine bI ?_
 obtain rfl:=iR hF
 exact p6 Jj8 ⟨hRl7,rfl,rfl⟩ []
def nQ (K:Nat) (x19:List Int):Option (List Int):=
 some x19
def dS (K:Nat) (a0:List Int) (a1:List Int):Nat→(List Int)→Int→Int→Option (List Int)
 |0,_,_,_=>none
 |k+1,x11,x17,x18=>bif(decide (x18<(a0.length:Int))) then((bO a0 x18).bind fun v30=>(cS a1 x18).bind fun v32=>(aR (v30-v32)).bind fun v34=>(aR (v34-x17)).bind fun v36=>bif(decide (v36<0)) then((aR (v36+1000000000)).bind fun v39=>(sD x11 [v39]).bind fun x41=>(aR (x18+1)).bind fun v48=>dS K a0 a1 k x41 1 v48) else((sD x11 [v36]).bind fun x50=>(aR (x18+1)).bind fun v57=>dS K a0 a1 k x50 0 v57)) else(some x11)
def fN (K:Nat) (a0:List Int) (a1:List Int):Option (List Int):=
 (dS K a0 a1 K ([]:List Int) 0 0).bind fun x19=>nQ K x19
theorem nK {K:Nat} {a0:List Int} {a1:List Int} {r:List Int} (hF:fN K a0 a1=some r):Ct Tryz.prog 100 [.vc (pS cI a0),.vc (pS cI a1)] (.vc (pS cI r)):=by
 unfold fN at hF
 refine aA Tryz.func100 rfl (by kernel_rfl) Tryz.ntmps100 rfl (fun w0 M0=>?_)
 refine aD (aK (aH (aM (.inr rfl)) ⟨eM cI,trivial⟩ ?_))
 refine aU (aJ (aD (aK (pN cI 3 rfl ?_))))
 refine go ?_ ?_
 refine aI (aY (fun H E=>∃(x19:List Int),∃(b20:Option Nat),∃(c21:Nat),∃(n22:Nat),nQ K x19=some r∧x19.length=n22∧H=[hO cI b20 c21 3 n22 x19]∧E=[(5,.vc (pO b20 n22 c21))]) ?_ (fun Jj26=>?_))
 ·rintro _ _ ⟨x19,b20,c21,n22,hF,q23,rfl,rfl⟩
  unfold nQ at hF
  refine go ?_ ?_
  refine fX (fY (mL 0 [4,5,33] rfl q23 ⟨rfl,rfl,rfl,trivial⟩ rfl ?_))
  obtain rfl:=iR hF
  exact gW (.inl rfl) Tryz.results100 (.tmp rfl .nil) rfl rfl
 obtain⟨x19',hL,hRl25⟩:=aO hF
 refine dW (fun k a w=>∃(x11:List Int),∃(x17:Int),∃(x18:Int),∃(b12:Option Nat),∃(c13:Nat),∃(n14:Nat),dS K a0 a1 k x11 x17 x18=some x19'∧x11.length=n14∧hs _ [hO cI b12 c13 3 n14 x11] [(0,.vc (pS cI a0)),(1,.vc (pS cI a1)),(5,.vc (pO b12 n14 c13)),(6,.vc (pI .i64 x17)),(7,.vc (pI .i64 x18))] a w) K (fun a w ⟨_,_,_,_,_,_,hF,_,_⟩=>by cases hF) (fun k a w ⟨x11,x17,x18,b12,c13,n14,hF,q15,hh⟩=>dV ?_ hh) (fun a w hh=>⟨([]:List Int),0,0,none,0,0,hL,rfl,gO [0] hh⟩)
 rw [dS.eq_2] at hF
 refine go ?_ ?_
 refine aC hF rfl (fun h27 hF=>?_) (fun h27 hF=>?_)
 ·refine go ?_ ?_
  refine aI (aD ?_)
  obtain⟨v30,h31,hF⟩:=aO hF
  obtain⟨v32,h33,hF⟩:=aX hF f9
  obtain⟨v34,h35,hF⟩:=aO hF
  obtain⟨v36,h37,hF⟩:=aO hF
  refine dr [0,0,3,7,0,0,48,127,0,511,1023] 11 0 ?_ (fun bs29 G28=>?_)
  refine go ?_ ?_
  refine aC hF rfl (fun h38 hF=>?_) (fun h38 hF=>?_)
  ·obtain⟨v39,h40,hF⟩:=aO hF
   refine go ?_ ?_
   refine aH (gP (C:=cI) (xs:=[.tmp 30]) (ps:=[.vc (pI .i64 v39)]) (zs:=[v39]) rfl tyS22 rfl ⟨⟨trivial,rfl⟩,trivial⟩ rfl) zU1 ?_
   obtain⟨x41,h42,hF⟩:=aO hF
   refine kK 0 rfl tyS22 rfl rfl q15 rfl rfl h42 (fun b43 c44 H45 e46=>?_)
   cases e46
   obtain⟨v48,h49,hF⟩:=aO hF
   refine go ?_ ?_
   exact aF (fun a w hh=>⟨x41,1,v48,b43,c44,(n14+[v39].length),hF,(bL h42 q15),gO [0] hh⟩)
  refine go ?_ ?_
  refine aH (gP (C:=cI) (xs:=[.tmp 30]) (ps:=[.vc (pI .i64 v36)]) (zs:=[v36]) rfl tyS22 rfl ⟨⟨trivial,rfl⟩,trivial⟩ rfl) zU1 ?_
  obtain⟨x50,h51,hF⟩:=aO hF
  refine kK 0 rfl tyS22 rfl rfl q15 rfl rfl h51 (fun b52 c53 H54 e55=>?_)
  cases e55
  obtain⟨v57,h58,hF⟩:=aO hF
  refine go ?_ ?_
  exact aF (fun a w hh=>⟨x50,0,v57,b52,c53,(n14+[v36].length),hF,(bL h51 q15),gO [0] hh⟩)
 refine bI ?_
 obtain rfl:=iR hF
 exact p6 Jj26 ⟨x11,b12,c13,n14,hRl25,q15,rfl,rfl⟩ [0]
def nU (K:Nat) (a0:aB) (a1:aB):Option aB:=
 bif(a0.neg==a1.neg) then((pT K a0.d a1.d).bind fun v7=>(aZ K a0.neg v7).bind fun v9=>some v9) else((bW K a0.d a1.d).bind fun v11=>bif(decide (v11<0)) then((fN K a1.d a0.d).bind fun v16=>(aZ K a1.neg v16).bind fun v18=>some v18) else((fN K a0.d a1.d).bind fun v22=>(aZ K a0.neg v22).bind fun v24=>some v24))
theorem yW {K:Nat} {a0:aB} {a1:aB} {r:aB} (hF:nU K a0 a1=some r):Ct Tryz.prog 61 [.va (aB.e a0),.va (aB.e a1)] (.va (aB.e r)):=by
 unfold nU at hF
 refine aA Tryz.func61 rfl (by kernel_rfl) Tryz.ntmps61 rfl (fun w0 M0=>?_)
 refine aD (aK (cK rfl rfl trivial (fun b1=>?_)))
 refine cK rfl rfl trivial (fun b2=>?_)
 refine aL rfl tyZ40 (fun b3=>?_)
 refine go ?_ ?_
 refine aH (aOy rfl Tryz.underlying4) zU2 ?_
 refine aU (aJ (aC hF rfl (fun h4 hF=>?_) (fun h4 hF=>?_)))
 ·refine aD ?_
  obtain⟨v7,h8,hF⟩:=aX hF aB1
  obtain⟨v9,h10,hF⟩:=aX hF bK
  refine dr [0,1,0,4,0,16,60,127,255] 8 1 ?_ (fun bs6 G5=>?_)
  exact bP
 obtain⟨v11,h12,hF⟩:=aX hF g8
 refine go ?_ ?_
 refine aC hF rfl (fun h13 hF=>?_) (fun h13 hF=>?_)
 ·refine aD ?_
  obtain⟨v16,h17,hF⟩:=aX hF nK
  obtain⟨v18,h19,hF⟩:=aX hF bK
  refine dr [0,1,0,4,0,16,60,127,255] 8 1 ?_ (fun bs15 G14=>?_)
  exact bP
 obtain⟨v22,h23,hF⟩:=aX hF nK
 obtain⟨v24,h25,hF⟩:=aX hF bK
 refine go ?_ ?_
 refine dr [0,1,0,4,0,16,60,127,255] 8 1 ?_ (fun bs21 G20=>?_)
 exact bP
def qO (K:Nat) (a0:Int) (x18:List Int):Option aB:=
 (aZ K (decide (a0<0)) x18).bind fun v26=>some v26
def dO (K:Nat):Nat→(List Int)→Int→Option (List Int)
 |0,_,_=>none
 |k+1,x11,x17=>bif(x17 != 0) then((zP x17 1000000000).bind fun v29=>bif(decide (v29<0)) then((aR (-v29)).bind fun v32=>(sD x11 [v32]).bind fun x34=>(zL x17 1000000000).bind fun v41=>dO K k x34 v41) else((sD x11 [v29]).bind fun x43=>(zL x17 1000000000).bind fun v50=>dO K k x43 v50)) else(some x11)
def hU (K:Nat) (a0:Int):Option aB:=
 (dO K K ([]:List Int) a0).bind fun x18=>qO K a0 x18
theorem l6 {K:Nat} {a0:Int} {r:aB} (hF:hU K a0=some r):Ct Tryz.prog 62 [.vc (pI .i64 a0)] (.va (aB.e r)):=by
 unfold hU at hF
 refine aA Tryz.func62 rfl (by kernel_rfl) Tryz.ntmps62 rfl (fun w0 M0=>?_)
 refine aD (aK (aL rfl tyZ40 (fun b1=>?_)))
 refine aU (aJ (aD (aK (pN cI 3 rfl ?_))))
 refine go ?_ ?_
 refine aI (aY (fun H E=>∃(x18:List Int),∃(b19:Option Nat),∃(c20:Nat),∃(n21:Nat),qO K a0 x18=some r∧x18.length=n21∧H=[hO cI b19 c20 3 n21 x18,⟨some b1,1,40,2,1,([pB false]++[pS cI ([]:List Int)])⟩]∧E=[(2,.vc (pP (some b1) 0)),(3,.vc (pO b19 n21 c20)),(4,.vc (pB (decide (a0<0))))]) ?_ (fun Jj25=>?_))
 ·rintro _ _ ⟨x18,b19,c20,n21,hF,q22,rfl,rfl⟩
  unfold qO at hF
  refine aJ (aD (aK (fL ?_)))
  refine fL ?_
  refine wI 0 [3,23] rfl q22 zU2 rfl ?_
  obtain⟨v26,h27,hF⟩:=aX hF bK
  exact bP
 obtain⟨x18',hL,hRl24⟩:=aO hF
 refine dW (fun k a w=>∃(x11:List Int),∃(x17:Int),∃(b12:Option Nat),∃(c13:Nat),∃(n14:Nat),dO K k x11 x17=some x18'∧x11.length=n14∧hs _ [hO cI b12 c13 3 n14 x11,⟨some b1,1,40,2,1,([pB false]++[pS cI ([]:List Int)])⟩] [(0,.vc (pI .i64 x17)),(2,.vc (pP (some b1) 0)),(3,.vc (pO b12 n14 c13)),(4,.vc (pB (decide (a0<0))))] a w) K (fun a w ⟨_,_,_,_,_,hF,_,_⟩=>by cases hF) (fun k a w ⟨x11,x17,b12,c13,n14,hF,q15,hh⟩=>dV ?_ hh) (fun a w hh=>⟨([]:List Int),a0,none,0,0,hL,rfl,gO [0,1] hh⟩)
 rw [dO.eq_2] at hF
 refine go ?_ ?_
 refine aC hF rfl (fun h28 hF=>?_) (fun h28 hF=>?_)
 ·refine iC (aJ (aI ?_))
  obtain⟨v29,h30,hF⟩:=aO hF
  refine go ?_ ?_
  refine aC hF rfl (fun h31 hF=>?_) (fun h31 hF=>?_)
  ·obtain⟨v32,h33,hF⟩:=aO hF
   refine go ?_ ?_
   refine aH (gP (C:=cI) (xs:=[.tmp 17]) (ps:=[.vc (pI .i64 v32)]) (zs:=[v32]) rfl tyS22 rfl ⟨⟨trivial,rfl⟩,trivial⟩ rfl) zU1 ?_
   obtain⟨x34,h35,hF⟩:=aO hF
   refine kK 0 rfl tyS22 rfl rfl q15 rfl rfl h35 (fun b36 c37 H38 e39=>?_)
   cases e39
   obtain⟨v41,h42,hF⟩:=aO hF
   refine go ?_ ?_
   exact aF (fun a w hh=>⟨x34,v41,b36,c37,(n14+[v32].length),hF,(bL h35 q15),gO [0,1] hh⟩)
  refine go ?_ ?_
  refine aH (gP (C:=cI) (xs:=[.tmp 17]) (ps:=[.vc (pI .i64 v29)]) (zs:=[v29]) rfl tyS22 rfl ⟨⟨trivial,rfl⟩,trivial⟩ rfl) zU1 ?_
  obtain⟨x43,h44,hF⟩:=aO hF
  refine kK 0 rfl tyS22 rfl rfl q15 rfl rfl h44 (fun b45 c46 H47 e48=>?_)
  cases e48
  obtain⟨v50,h51,hF⟩:=aO hF
  refine go ?_ ?_
  exact aF (fun a w hh=>⟨x43,v50,b45,c46,(n14+[v29].length),hF,(bL h44 q15),gO [0,1] hh⟩)
 refine bI ?_
 obtain rfl:=iR hF
 exact p6 Jj25 ⟨x11,b12,c13,n14,hRl24,q15,rfl,rfl⟩ [0,1]
def lO (K:Nat) (a0:aB):Option aB:=
 (aZ K (!a0.neg) a0.d).bind fun v3=>some v3
theorem u8 {K:Nat} {a0:aB} {r:aB} (hF:lO K a0=some r):Ct Tryz.prog 84 [.va (aB.e a0)] (.va (aB.e r)):=by
 unfold lO at hF
 refine aA Tryz.func84 rfl (by kernel_rfl) Tryz.ntmps84 rfl (fun w0 M0=>?_)
 refine aD (aK (cK rfl rfl trivial (fun b1=>?_)))
 refine aL rfl tyZ40 (fun b2=>?_)
 obtain⟨v3,h4,hF⟩:=aX hF bK
 exact bP
def eZ (a0:Bool) (a1:Int):Option aB:=
 bif(a1==0) then(some (⟨false,([]:List Int)⟩:aB)) else(bif(decide (a1<1000000000)) then(some (⟨a0,[(IntKind.i64.wrap a1)]⟩:aB)) else(bif(decide (a1<1000000000000000000)) then((zP a1 1000000000).bind fun v5=>(uq a1 1000000000).bind fun v7=>some (⟨a0,[(IntKind.i64.wrap v5),(IntKind.i64.wrap v7)]⟩:aB)) else((zP a1 1000000000).bind fun v9=>(uq a1 1000000000).bind fun v11=>(zP v11 1000000000).bind fun v13=>(uq a1 1000000000).bind fun v15=>(uq v15 1000000000).bind fun v17=>some (⟨a0,[(IntKind.i64.wrap v9),(IntKind.i64.wrap v13),(IntKind.i64.wrap v17)]⟩:aB))))
theorem kI {a0:Bool} {a1:Int} {r:aB} (hF:eZ a0 a1=some r):Ct Tryz.prog 134 [.vc (pB a0),.vc (pI .u64 a1)] (.va (aB.e r)):=by
 unfold eZ at hF
 refine aA Tryz.func134 rfl (by kernel_rfl) Tryz.ntmps134 rfl (fun w0 M0=>?_)
 refine aD (aK (aL rfl tyZ40 (fun b1=>?_)))
 refine go ?_ ?_
 refine aI (go ?_ ?_)
 refine aC hF rfl (fun h2 hF=>?_) (fun h2 hF=>?_)
 ·refine aD (aK (aH (fG (is:=[]) (xs:=[]) (ps:=[]) rfl tyB40 rfl rfl trivial rfl) trivial ?_))
  exact bP
 refine go ?_ ?_
 refine aC hF rfl (fun h3 hF=>?_) (fun h3 hF=>?_)
 ·refine go ?_ ?_
  refine aH (aDi rfl ⟨_,Tryz.underlying131⟩ Tryz.underlying3) zU1 ?_
  refine aH (gP (C:=cI) (xs:=[.tmp 14]) (ps:=[.vc (pI .i64 (IntKind.i64.wrap a1))]) (zs:=[(IntKind.i64.wrap a1)]) rfl tyS22 rfl ⟨⟨trivial,rfl⟩,trivial⟩ rfl) zU1 ?_
  refine aH (fG (is:=[0,1]) (xs:=[.tmp 12,.tmp 15]) (ps:=[.vc (pB a0),.vc (pS cI [(IntKind.i64.wrap a1)])]) rfl tyB40 rfl rfl ⟨trivial,trivial,trivial⟩ rfl) zU2 ?_
  exact bP
 refine go ?_ ?_
 refine aC hF rfl (fun h4 hF=>?_) (fun h4 hF=>?_)
 ·obtain⟨v5,h6,hF⟩:=aO hF
  refine go ?_ ?_
  refine aH (aDi rfl ⟨_,Tryz.underlying131⟩ Tryz.underlying3) zU1 ?_
  refine fL ?_
  obtain⟨v7,h8,hF⟩:=aO hF
  refine aH (aGV rfl h8) ⟨rfl,oJ _ _,trivial⟩ ?_
  refine aH (aDi rfl ⟨_,Tryz.underlying131⟩ Tryz.underlying3) zU1 ?_
  refine aH (gP (C:=cI) (xs:=[.tmp 23,.tmp 26]) (ps:=[.vc (pI .i64 (IntKind.i64.wrap v5)),.vc (pI .i64 (IntKind.i64.wrap v7))]) (zs:=[(IntKind.i64.wrap v5),(IntKind.i64.wrap v7)]) rfl tyS22 rfl ⟨⟨trivial,rfl⟩,⟨trivial,rfl⟩,trivial⟩ rfl) zU2 ?_
  refine aH (fG (is:=[0,1]) (xs:=[.tmp 20,.tmp 27]) (ps:=[.vc (pB a0),.vc (pS cI [(IntKind.i64.wrap v5),(IntKind.i64.wrap v7)])]) rfl tyB40 rfl rfl ⟨trivial,trivial,trivial⟩ rfl) zU2 ?_
  exact bP
 obtain⟨v9,h10,hF⟩:=aO hF
 refine go ?_ ?_
 refine aH (aDi rfl ⟨_,Tryz.underlying131⟩ Tryz.underlying3) zU1 ?_
 refine fL ?_
 obtain⟨v11,h12,hF⟩:=aO hF
 refine aH (aGV rfl h12) ⟨rfl,oJ _ _,trivial⟩ ?_
 obtain⟨v13,h14,hF⟩:=aO hF
 refine aH (aF3 rfl h14) ⟨rfl,oJ _ _,trivial⟩ ?_
 refine aH (aDi rfl ⟨_,Tryz.underlying131⟩ Tryz.underlying3) zU1 ?_
 refine fL ?_
 have hF:=qB h12 hF
 refine aH (aGV rfl h12) ⟨rfl,oJ _ _,trivial⟩ ?_
 obtain⟨v17,h18,hF⟩:=aO hF
 refine aH (aGV rfl h18) ⟨rfl,oJ _ _,trivial⟩ ?_
 refine aH (aDi rfl ⟨_,Tryz.underlying131⟩ Tryz.underlying3) zU1 ?_
 refine aH (gP (C:=cI) (xs:=[.tmp 32,.tmp 36,.tmp 40]) (ps:=[.vc (pI .i64 (IntKind.i64.wrap v9)),.vc (pI .i64 (IntKind.i64.wrap v13)),.vc (pI .i64 (IntKind.i64.wrap v17))]) (zs:=[(IntKind.i64.wrap v9),(IntKind.i64.wrap v13),(IntKind.i64.wrap v17)]) rfl tyS22 rfl ⟨⟨trivial,rfl⟩,⟨trivial,rfl⟩,⟨trivial,rfl⟩,trivial⟩ rfl) ⟨rfl,rfl,rfl,trivial⟩ ?_
 refine aH (fG (is:=[0,1]) (xs:=[.tmp 29,.tmp 41]) (ps:=[.vc (pB a0),.vc (pS cI [(IntKind.i64.wrap v9),(IntKind.i64.wrap v13),(IntKind.i64.wrap v17)])]) rfl tyB40 rfl rfl ⟨trivial,trivial,trivial⟩ rfl) zU2 ?_
 exact bP
def lT (a0:Int):Option aB:=
 bif(decide (a0<0)) then((eZ (decide (a0<0)) (wu (-(IntKind.u64.wrap a0)))).bind fun v3=>some v3) else((eZ (decide (a0<0)) (IntKind.u64.wrap a0)).bind fun v5=>some v5)
theorem rA {a0:Int} {r:aB} (hF:lT a0=some r):Ct Tryz.prog 86 [.vc (pI .i64 a0)] (.va (aB.e r)):=by
 unfold lT at hF
 refine aA Tryz.func86 rfl (by kernel_rfl) Tryz.ntmps86 rfl (fun w0 M0=>?_)
 refine aD (aK (aL rfl tyZ40 (fun b1=>?_)))
 refine go ?_ ?_
 refine aH (aDi rfl ⟨_,Tryz.underlying3⟩ Tryz.underlying131) zU1 ?_
 refine go ?_ ?_
 refine aC hF rfl (fun h2 hF=>?_) (fun h2 hF=>?_)
 ·refine aK (fL ?_)
  refine aH (aO7 rfl) zU1 ?_
  obtain⟨v3,h4,hF⟩:=aX hF kI
  exact bP
 obtain⟨v5,h6,hF⟩:=aX hF kI
 exact bP
def uB (a0:aB):Option Int:=
 bif a0.neg then(some (-1)) else(bif((a0.d.length:Int)==0) then(some 0) else(some 1))
theorem aDU {a0:aB} {r:Int} (hF:uB a0=some r):Ct Tryz.prog 88 [.va (aB.e a0)] (.vc (pI .i64 r)):=by
 unfold uB at hF
 refine aA Tryz.func88 rfl (by kernel_rfl) Tryz.ntmps88 rfl (fun w0 M0=>?_)
 refine aD (aK (cK rfl rfl trivial (fun b1=>?_)))
 refine go ?_ ?_
 refine aI (go ?_ ?_)
 refine aC hF rfl (fun h2 hF=>?_) (fun h2 hF=>?_)
 ·exact bP
 refine go ?_ ?_
 refine aC hF rfl (fun h3 hF=>?_) (fun h3 hF=>?_)
 ·exact bP
 exact bP
def kU (K:Nat) (a0:aB) (a1:aB):Option Int:=
 bif(a0.neg != a1.neg) then(bif a0.neg then(some (-1)) else(some 1)) else(bif a0.neg then((bW K a1.d a0.d).bind fun v6=>some v6) else((bW K a0.d a1.d).bind fun v8=>some v8))
theorem vT {K:Nat} {a0:aB} {a1:aB} {r:Int} (hF:kU K a0 a1=some r):Ct Tryz.prog 136 [.va (aB.e a0),.va (aB.e a1)] (.vc (pI .i64 r)):=by
 unfold kU at hF
 refine aA Tryz.func136 rfl (by kernel_rfl) Tryz.ntmps136 rfl (fun w0 M0=>?_)
 refine aD (aK (cK rfl rfl trivial (fun b1=>?_)))
 refine cK rfl rfl trivial (fun b2=>?_)
 refine go ?_ ?_
 refine aH (yO rfl Tryz.underlying4) zU2 ?_
 refine aU (aJ (aC hF rfl (fun h3 hF=>?_) (fun h3 hF=>?_)))
 ·refine go ?_ ?_
  refine aC hF rfl (fun h4 hF=>?_) (fun h4 hF=>?_)
  ·exact bP
  exact bP
 refine go ?_ ?_
 refine aC hF rfl (fun h5 hF=>?_) (fun h5 hF=>?_)
 ·obtain⟨v6,h7,hF⟩:=aX hF g8
  exact bP
 obtain⟨v8,h9,hF⟩:=aX hF g8
 exact bP
def pC (K:Nat) (a0:aB):Option Int:=
 (kU K a0 (⟨false,([]:List Int)⟩:aB)).bind fun v2=>some v2
theorem aBU {K:Nat} {a0:aB} {r:Int} (hF:pC K a0=some r):Ct Tryz.prog 91 [.va (aB.e a0)] (.vc (pI .i64 r)):=by
 unfold pC at hF
 refine aA Tryz.func91 rfl (by kernel_rfl) Tryz.ntmps91 rfl (fun w0 M0=>?_)
 refine aD (aK (cK rfl rfl trivial (fun b1=>?_)))
 refine go ?_ ?_
 refine aH (fG (is:=[]) (xs:=[]) (ps:=[]) rfl tyB40 rfl rfl trivial rfl) trivial ?_
 obtain⟨v2,h3,hF⟩:=aX hF vT
 exact bP
def tG (K:Nat):Option Bool:=
 some true
def gS (K:Nat) (a0:aB) (a1:aB):Nat→Int→Option (LR Bool Unit)
 |0,_=>none
 |k+1,x6=>bif(decide (x6<(a0.d.length:Int))) then((bO a0.d x6).bind fun v12=>(bO a1.d x6).bind fun v14=>bif(v12 != v14) then(some (.ret false)) else((aR (x6+1)).bind fun v17=>gS K a0 a1 k v17)) else(some (.go ()))
def mP (K:Nat) (a0:aB) (a1:aB):Option Bool:=
 bif(a0.neg != a1.neg) then(some false) else(bif((a0.d.length:Int) != (a1.d.length:Int)) then(some false) else((gS K a0 a1 K 0).bind fun o=>match o with| .ret r=>some r| .go _=>tG K))
theorem xI {K:Nat} {a0:aB} {a1:aB} {r:Bool} (hF:mP K a0 a1=some r):Ct Tryz.prog 92 [.va (aB.e a0),.va (aB.e a1)] (.vc (pB r)):=by
 unfold mP at hF
 refine aA Tryz.func92 rfl (by kernel_rfl) Tryz.ntmps92 rfl (fun w0 M0=>?_)
 refine aD (aK (cK rfl rfl trivial (fun b1=>?_)))
 refine cK rfl rfl trivial (fun b2=>?_)
 refine go ?_ ?_
 refine aH (yO rfl Tryz.underlying4) zU2 ?_
 refine fL ?_
 refine cG hF (fun h3 hF=>?_) (fun h3 hF=>?_)
 ·refine go ?_ ?_
  refine eU rfl ?_
  exact bP
 refine go ?_ ?_
 refine aC hF rfl (fun h4 hF=>?_) (fun h4 hF=>?_)
 ·exact bP
 refine go ?_ ?_
 refine aI (aY (fun H E=>tG K=some r∧H=[]∧E=[]) ?_ (fun Jj8=>?_))
 ·rintro _ _ ⟨hF,rfl,rfl⟩
  unfold tG at hF
  exact bP
 obtain⟨ol7,hL,hRl7⟩:=aO hF
 refine dW (fun k a w=>∃(x6:Int),gS K a0 a1 k x6=some ol7∧hs _ [⟨some b2,1,40,2,1,(aB.e a1)⟩,⟨some b1,1,40,2,1,(aB.e a0)⟩] [(2,.vc (pP (some b1) 0)),(3,.vc (pP (some b2) 0)),(5,.vc (pI .i64 x6))] a w) K (fun a w ⟨_,hF,_⟩=>by cases hF) (fun k a w ⟨x6,hF,hh⟩=>dV ?_ hh) (fun a w hh=>⟨0,hL,gO [0,1] hh⟩)
 rw [gS.eq_2] at hF
 refine go ?_ ?_
 refine aC hF rfl (fun h9 hF=>?_) (fun h9 hF=>?_)
 ·refine go ?_ ?_
  refine aI (aD ?_)
  obtain⟨v12,h13,hF⟩:=aO hF
  obtain⟨v14,h15,hF⟩:=aO hF
  refine dr [0,1,0,7,15,0,32,0,224,480,1023] 11 0 ?_ (fun bs11 G10=>?_)
  refine aU (aJ (aC hF rfl (fun h16 hF=>?_) (fun h16 hF=>?_)))
  ·exact bP
  obtain⟨v17,h18,hF⟩:=aO hF
  refine go ?_ ?_
  exact aF (fun a w hh=>⟨v17,hF,gO [0,1] hh⟩)
 refine bI ?_
 obtain rfl:=iR hF
 exact p6 Jj8 ⟨hRl7,rfl,rfl⟩ []
def gG (a0:List Int):Option Int:=
 (cS a0 1).bind fun v1=>(aR (v1*1000000000)).bind fun v3=>(cS a0 0).bind fun v5=>(aR (v3+v5)).bind fun v7=>some v7
theorem l9 {a0:List Int} {r:Int} (hF:gG a0=some r):Ct Tryz.prog 138 [.vc (pS cI a0)] (.vc (pI .i64 r)):=by
 unfold gG at hF
 refine aA Tryz.func138 rfl (by kernel_rfl) Tryz.ntmps138 rfl (fun w0 M0=>?_)
 obtain⟨v1,h2,hF⟩:=aX hF f9
 obtain⟨v3,h4,hF⟩:=aO hF
 obtain⟨v5,h6,hF⟩:=aX hF f9
 obtain⟨v7,h8,hF⟩:=aO hF
 exact bP
def jC (K:Nat) (a0:List Int) (a1:Int):Option (List Int):=
 (aZ K false a0).bind fun v1=>(hU K a1).bind fun v3=>(cZ K v1 v3).bind fun v5=>some v5.d
theorem qU {K:Nat} {a0:List Int} {a1:Int} {r:List Int} (hF:jC K a0 a1=some r):Ct Tryz.prog 165 [.vc (pS cI a0),.vc (pI .i64 a1)] (.vc (pS cI r)):=by
 unfold jC at hF
 refine aA Tryz.func165 rfl (by kernel_rfl) Tryz.ntmps165 rfl (fun w0 M0=>?_)
 refine aD (aK (aH (aM (.inr rfl)) ⟨eM cI,trivial⟩ ?_))
 obtain⟨v1,h2,hF⟩:=aX hF bK
 obtain⟨v3,h4,hF⟩:=aX hF l6
 obtain⟨v5,h6,hF⟩:=aX hF gJ
 refine go ?_ ?_
 refine aL rfl tyZ40 (fun b7=>?_)
 exact bP
def kF (K:Nat) (x46:List Int) (x52:List Int):Option ((List Int)×(List Int)):=
 some (x46,x52)
def iK (K:Nat) (a1:List Int) (x38:List Int) (x45:Int) (v68:aB) (recl53:(List Int)→(List Int)→Int→Option ((List Int)×(List Int))) (x78:Int):Option ((List Int)×(List Int)):=
 (jC K a1 x78).bind fun v81=>(fN K v68.d v81).bind fun v83=>(aZ K false v83).bind fun v85=>(bO x38 x45).bind fun v88=>(pA x38 x45 x78).bind fun x90=>(aR (x45-1)).bind fun v93=>recl53 x90 v85.d v93
def bN (K:Nat) (a1:List Int) (v68:aB):Nat→Int→Int→Option Int
 |0,_,_=>none
 |k+1,x76,x77=>bif(decide (x76<x77)) then((aR (x76+x77)).bind fun v96=>(aR (v96+1)).bind fun v98=>(zL v98 2).bind fun v100=>(jC K a1 v100).bind fun v102=>(bW K v102 v68.d).bind fun v104=>bif(decide (v104≤0)) then(bN K a1 v68 k v100 x77) else((aR (v100-1)).bind fun v107=>bN K a1 v68 k x76 v107)) else(some x76)
def fT (K:Nat) (a1:List Int) (x38:List Int) (x45:Int) (v68:aB) (recl53:(List Int)→(List Int)→Int→Option ((List Int)×(List Int))) (x72:Int):Option ((List Int)×(List Int)):=
 (bN K a1 v68 K 0 x72).bind fun x78=>iK K a1 x38 x45 v68 recl53 x78
def bF (K:Nat) (a0:List Int) (a1:List Int):Nat→(List Int)→(List Int)→Int→Option ((List Int)×(List Int))
 |0,_,_,_=>none
 |k+1,x38,x44,x45=>bif(decide (0≤x45)) then((bO a0 x45).bind fun v56=>(sD [v56] x44).bind fun x61=>(aZ K false x61).bind fun v68=>(bW K v68.d a1).bind fun v109=>bif(decide (v109<0)) then(fT K a1 x38 x45 v68 (bF K a0 a1 k) 0) else(fT K a1 x38 x45 v68 (bF K a0 a1 k) 999999999)) else(some (x38,x44))
def pQ (K:Nat) (x135:List Int) (x141:List Int):Option ((List Int)×(List Int)):=
 some (x135,x141)
def lN (K:Nat) (a1:List Int) (x127:List Int) (x134:Int) (v157:aB) (recl142:(List Int)→(List Int)→Int→Option ((List Int)×(List Int))) (x167:Int):Option ((List Int)×(List Int)):=
 (jC K a1 x167).bind fun v170=>(fN K v157.d v170).bind fun v172=>(aZ K false v172).bind fun v174=>(bO x127 x134).bind fun v177=>(pA x127 x134 x167).bind fun x179=>(aR (x134-1)).bind fun v182=>recl142 x179 v174.d v182
def eR (K:Nat) (a1:List Int) (v157:aB):Nat→Int→Int→Option Int
 |0,_,_=>none
 |k+1,x165,x166=>bif(decide (x165<x166)) then((aR (x165+x166)).bind fun v185=>(aR (v185+1)).bind fun v187=>(zL v187 2).bind fun v189=>(jC K a1 v189).bind fun v191=>(bW K v191 v157.d).bind fun v193=>bif(decide (v193≤0)) then(eR K a1 v157 k v189 x166) else((aR (v189-1)).bind fun v196=>eR K a1 v157 k x165 v196)) else(some x165)
def jR (K:Nat) (a1:List Int) (x127:List Int) (x134:Int) (v157:aB) (recl142:(List Int)→(List Int)→Int→Option ((List Int)×(List Int))) (x161:Int):Option ((List Int)×(List Int)):=
 (eR K a1 v157 K 0 x161).bind fun x167=>lN K a1 x127 x134 v157 recl142 x167
def bY (K:Nat) (a0:List Int) (a1:List Int):Nat→(List Int)→(List Int)→Int→Option ((List Int)×(List Int))
 |0,_,_,_=>none
 |k+1,x127,x133,x134=>bif(decide (0≤x134)) then((bO a0 x134).bind fun v145=>(sD [v145] x133).bind fun x150=>(aZ K false x150).bind fun v157=>(bW K v157.d a1).bind fun v198=>bif(decide (v198<0)) then(jR K a1 x127 x134 v157 (bY K a0 a1 k) 0) else(jR K a1 x127 x134 v157 (bY K a0 a1 k) 999999999)) else(some (x127,x133))
def jH (K:Nat) (a0:List Int) (a1:List Int):Option ((List Int)×(List Int)):=
 bif(decide ((a0.length:Int)≤2)) then(bif(decide ((a1.length:Int)≤2)) then((gG a0).bind fun v3=>(gG a1).bind fun v5=>(zL v3 v5).bind fun v7=>(hU K v7).bind fun v9=>(gG a0).bind fun v12=>(gG a1).bind fun v14=>(zP v12 v14).bind fun v16=>(hU K v16).bind fun v18=>some (v9.d,v18.d)) else((y4 (a0.length:Int) 0).bind fun x23=>(aR ((a0.length:Int)-1)).bind fun v28=>(bF K a0 a1 K x23 [] v28).bind fun(x46,x52)=>kF K x46 x52)) else((y4 (a0.length:Int) 0).bind fun x112=>(aR ((a0.length:Int)-1)).bind fun v117=>(bY K a0 a1 K x112 [] v117).bind fun(x135,x141)=>pQ K x135 x141)
theorem aAC {K:Nat} {a0:List Int} {a1:List Int} {r:(List Int)×(List Int)} (hF:jH K a0 a1=some r):Ct Tryz.prog 139 [.vc (pS cI a0),.vc (pS cI a1)] (.t2 (.vc (pS cI r.1)) (.vc (pS cI r.2))):=by
 unfold jH at hF
 refine aA Tryz.func139 rfl (by kernel_rfl) Tryz.ntmps139 rfl (fun w0 M0=>?_)
 refine aD (aK (aH (aM (.inr rfl)) ⟨eM cI,trivial⟩ ?_))
 refine aH (aM (.inr rfl)) ⟨eM cI,trivial⟩ ?_
 refine go ?_ ?_
 refine cG hF (fun h1 hF=>?_) (fun h1 hF=>?_)
 ·refine go ?_ ?_
  refine aC hF rfl (fun h2 hF=>?_) (fun h2 hF=>?_)
  ·obtain⟨v3,h4,hF⟩:=aX hF l9
   obtain⟨v5,h6,hF⟩:=aX hF l9
   obtain⟨v7,h8,hF⟩:=aO hF
   obtain⟨v9,h10,hF⟩:=aX hF l6
   refine go ?_ ?_
   refine aL rfl tyZ40 (fun b11=>?_)
   obtain⟨v12,h13,hF⟩:=aX hF l9
   obtain⟨v14,h15,hF⟩:=aX hF l9
   obtain⟨v16,h17,hF⟩:=aO hF
   obtain⟨v18,h19,hF⟩:=aX hF l6
   refine go ?_ ?_
   refine aL rfl tyZ40 (fun b20=>?_)
   refine go ?_ ?_
   refine dr [0,1,0,4,3,31] 6 0 ?_ (fun bs22 G21=>?_)
   refine aU (aJ ?_)
   exact bP
  obtain⟨x23,h24,hF⟩:=aO hF
  refine go ?_ ?_
  refine qG (C:=cI) rfl tyS22 rfl tyZ3 rfl h24 (fun b25=>?_)
  refine go ?_ ?_
  refine aH (aM (.inr rfl)) ⟨eM cI,trivial⟩ ?_
  obtain⟨v28,h29,hF⟩:=aO hF
  refine go ?_ ?_
  refine aI (aY (fun H E=>∃(x46:List Int),∃(x52:List Int),kF K x46 x52=some r∧x46.length=x23.length∧H=[hO cI b25 x23.length 3 x23.length x46]∧E=[(8,.vc (pO b25 x23.length x23.length)),(9,.vc (pS cI x52))]) ?_ (fun Jj54=>?_))
  ·rintro _ _ ⟨x46,x52,hF,q50,rfl,rfl⟩
   unfold kF at hF
   refine go ?_ ?_
   refine fX (fY (mL 0 [4,8,93] rfl q50 ⟨rfl,rfl,rfl,trivial⟩ rfl ?_))
   obtain rfl:=iR hF
   exact gW (.inl rfl) Tryz.results139 (.tmp rfl (.tmp rfl .nil)) rfl rfl
  obtain⟨⟨x46',x52'⟩,hL,hRl53⟩:=aO hF
  refine dW (fun k a w=>∃(x38:List Int),∃(x44:List Int),∃(x45:Int),bF K a0 a1 k x38 x44 x45=some (x46',x52')∧x38.length=x23.length∧hs _ [hO cI b25 x23.length 3 x23.length x38] [(0,.vc (pS cI a0)),(1,.vc (pS cI a1)),(8,.vc (pO b25 x23.length x23.length)),(9,.vc (pS cI x44)),(10,.vc (pI .i64 x45))] a w) K (fun a w ⟨_,_,_,hF,_,_⟩=>by cases hF) (fun k a w ⟨x38,x44,x45,hF,q42,hh⟩=>dV ?_ hh) (fun a w hh=>⟨x23,[],v28,hL,rfl,gO [0] hh⟩)
  rw [bF.eq_2] at hF
  refine go ?_ ?_
  refine aC hF rfl (fun h55 hF=>?_) (fun h55 hF=>?_)
  ·refine go ?_ ?_
   refine aI ?_
   obtain⟨v56,h57,hF⟩:=aO hF
   refine go ?_ ?_
   refine aFl (aCM (C:=cI) (xs:=[.tmp 53]) (ps:=[.vc (pI .i64 v56)]) (zs:=[v56]) rfl tyS22 rfl ⟨⟨trivial,rfl⟩,trivial⟩ rfl) zU1 (fun b58 _=>?_)
   refine fL ?_
   obtain⟨x61,h62,hF⟩:=aO hF
   refine kK 0 rfl tyS22 rfl rfl rfl rfl rfl h62 (fun b63 c64 H65 e66=>?_)
   cases e66
   refine wI 0 [56] rfl (bL h62 rfl) zU1 rfl ?_
   obtain⟨v68,h69,hF⟩:=aX hF bK
   refine aH (bD rfl h69 rfl) ⟨k_B _,rfl,trivial⟩ ?_
   refine aL rfl tyZ40 (fun b70=>?_)
   refine lI (t_s 0 rfl rfl rfl tyA40.s) zU2 ?_
   refine aU (aJ (aD (aK (aH (jW (off:=0) (k:=1) rfl tyF40_1) zU1 ?_))))
   refine aH (iD 0 1 rfl rfl rfl rfl (.one tyO22)) zU1 ?_
   refine y6 ?_
   refine aU (aJ (aD (aK (aH (aM (.inr rfl)) ⟨oJ _ _,trivial⟩ ?_))))
   refine aU (aJ (aD (aK (aH (aM (.inr rfl)) ⟨oJ _ _,trivial⟩ ?_))))
   refine aU (aJ (aD (yR (fun H E=>∃(x72:Int),fT K a1 x38 x45 v68 (bF K a0 a1 k) x72=some (x46',x52')∧H=[hO cI b25 x23.length 3 x23.length x38]∧E=[(0,.vc (pS cI a0)),(1,.vc (pS cI a1)),(8,.vc (pO b25 x23.length x23.length)),(9,.vc (pS cI v68.d)),(10,.vc (pI .i64 x45)),(12,.vc (pI .i64 0)),(13,.vc (pI .i64 x72))]) ?_ (fun Jj73=>?_))))
   ·rintro _ _ ⟨x72,hF,rfl,rfl⟩
    unfold fT at hF
    refine aD (aI (aY (fun H E=>∃(x78:Int),iK K a1 x38 x45 v68 (bF K a0 a1 k) x78=some (x46',x52')∧H=[hO cI b25 x23.length 3 x23.length x38]∧E=[(0,.vc (pS cI a0)),(1,.vc (pS cI a1)),(8,.vc (pO b25 x23.length x23.length)),(9,.vc (pS cI v68.d)),(10,.vc (pI .i64 x45)),(12,.vc (pI .i64 x78))]) ?_ (fun Jj80=>?_)))
    ·rintro _ _ ⟨x78,hF,rfl,rfl⟩
     unfold iK at hF
     obtain⟨v81,h82,hF⟩:=aX hF qU
     obtain⟨v83,h84,hF⟩:=aX hF nK
     obtain⟨v85,h86,hF⟩:=aX hF bK
     refine go ?_ ?_
     refine aL rfl tyZ40 (fun b87=>?_)
     obtain⟨v88,h89,x90,h91,v93,h94,hF⟩:=bn3 hF
     refine go ?_ ?_
     exact aF (fun a w hh=>⟨x90,v85.d,v93,hF,(bE h91 q42),gO [1] hh⟩)
    obtain⟨x78',hL,hRl79⟩:=aO hF
    refine dW (fun k a w=>∃(x76:Int),∃(x77:Int),bN K a1 v68 k x76 x77=some x78'∧hs _ [hO cI b25 x23.length 3 x23.length x38] [(0,.vc (pS cI a0)),(1,.vc (pS cI a1)),(8,.vc (pO b25 x23.length x23.length)),(9,.vc (pS cI v68.d)),(10,.vc (pI .i64 x45)),(12,.vc (pI .i64 x76)),(13,.vc (pI .i64 x77))] a w) K (fun a w ⟨_,_,hF,_⟩=>by cases hF) (fun k a w ⟨x76,x77,hF,hh⟩=>dV ?_ hh) (fun a w hh=>⟨0,x72,hL,gO [0] hh⟩)
    rw [bN.eq_2] at hF
    refine go ?_ ?_
    refine aC hF rfl (fun h95 hF=>?_) (fun h95 hF=>?_)
    ·refine iC (aJ (aI ?_))
     obtain⟨v96,h97,v98,h99,v100,h101,hF⟩:=bn3 hF
     obtain⟨v102,h103,hF⟩:=aX hF qU
     obtain⟨v104,h105,hF⟩:=aX hF g8
     refine go ?_ ?_
     refine aC hF rfl (fun h106 hF=>?_) (fun h106 hF=>?_)
     ·refine go ?_ ?_
      exact aF (fun a w hh=>⟨v100,x77,hF,gO [0] hh⟩)
     obtain⟨v107,h108,hF⟩:=aO hF
     refine go ?_ ?_
     exact aF (fun a w hh=>⟨x76,v107,hF,gO [0] hh⟩)
    refine bI ?_
    obtain rfl:=iR hF
    exact p6 Jj80 ⟨x76,hRl79,rfl,rfl⟩ [0]
   obtain⟨v109,h110,hF⟩:=aX hF g8
   refine go ?_ ?_
   refine aC hF rfl (fun h111 hF=>?_) (fun h111 hF=>?_)
   ·refine aK (aH (aM (.inr rfl)) ⟨oJ _ _,trivial⟩ ?_)
    refine aU ?_
    exact p6 Jj73 ⟨0,hF,rfl,rfl⟩ [1]
   refine iC ?_
   exact p6 Jj73 ⟨999999999,hF,rfl,rfl⟩ [1]
  refine bI ?_
  obtain⟨rfl,rfl⟩:=sm2 hF
  exact p6 Jj54 ⟨x38,x44,hRl53,q42,rfl,rfl⟩ [0]
 refine go ?_ ?_
 refine uV rfl ?_
 obtain⟨x112,h113,hF⟩:=aO hF
 refine go ?_ ?_
 refine qG (C:=cI) rfl tyS22 rfl tyZ3 rfl h113 (fun b114=>?_)
 refine go ?_ ?_
 refine aH (aM (.inr rfl)) ⟨eM cI,trivial⟩ ?_
 obtain⟨v117,h118,hF⟩:=aO hF
 refine go ?_ ?_
 refine aI (aY (fun H E=>∃(x135:List Int),∃(x141:List Int),pQ K x135 x141=some r∧x135.length=x112.length∧H=[hO cI b114 x112.length 3 x112.length x135]∧E=[(8,.vc (pO b114 x112.length x112.length)),(9,.vc (pS cI x141))]) ?_ (fun Jj143=>?_))
 ·rintro _ _ ⟨x135,x141,hF,q139,rfl,rfl⟩
  unfold pQ at hF
  refine go ?_ ?_
  refine fX (fY (mL 0 [4,8,93] rfl q139 ⟨rfl,rfl,rfl,trivial⟩ rfl ?_))
  obtain rfl:=iR hF
  exact gW (.inl rfl) Tryz.results139 (.tmp rfl (.tmp rfl .nil)) rfl rfl
 obtain⟨⟨x135',x141'⟩,hL,hRl142⟩:=aO hF
 refine dW (fun k a w=>∃(x127:List Int),∃(x133:List Int),∃(x134:Int),bY K a0 a1 k x127 x133 x134=some (x135',x141')∧x127.length=x112.length∧hs _ [hO cI b114 x112.length 3 x112.length x127] [(0,.vc (pS cI a0)),(1,.vc (pS cI a1)),(8,.vc (pO b114 x112.length x112.length)),(9,.vc (pS cI x133)),(10,.vc (pI .i64 x134))] a w) K (fun a w ⟨_,_,_,hF,_,_⟩=>by cases hF) (fun k a w ⟨x127,x133,x134,hF,q131,hh⟩=>dV ?_ hh) (fun a w hh=>⟨x112,[],v117,hL,rfl,gO [0] hh⟩)
 rw [bY.eq_2] at hF
 refine go ?_ ?_
 refine aC hF rfl (fun h144 hF=>?_) (fun h144 hF=>?_)
 ·refine go ?_ ?_
  refine aI ?_
  obtain⟨v145,h146,hF⟩:=aO hF
  refine go ?_ ?_
  refine aFl (aCM (C:=cI) (xs:=[.tmp 53]) (ps:=[.vc (pI .i64 v145)]) (zs:=[v145]) rfl tyS22 rfl ⟨⟨trivial,rfl⟩,trivial⟩ rfl) zU1 (fun b147 _=>?_)
  refine fL ?_
  obtain⟨x150,h151,hF⟩:=aO hF
  refine kK 0 rfl tyS22 rfl rfl rfl rfl rfl h151 (fun b152 c153 H154 e155=>?_)
  cases e155
  refine wI 0 [56] rfl (bL h151 rfl) zU1 rfl ?_
  obtain⟨v157,h158,hF⟩:=aX hF bK
  refine aH (bD rfl h158 rfl) ⟨k_B _,rfl,trivial⟩ ?_
  refine aL rfl tyZ40 (fun b159=>?_)
  refine lI (t_s 0 rfl rfl rfl tyA40.s) zU2 ?_
  refine aU (aJ (aD (aK (aH (jW (off:=0) (k:=1) rfl tyF40_1) zU1 ?_))))
  refine aH (iD 0 1 rfl rfl rfl rfl (.one tyO22)) zU1 ?_
  refine y6 ?_
  refine aU (aJ (aD (aK (aH (aM (.inr rfl)) ⟨oJ _ _,trivial⟩ ?_))))
  refine aU (aJ (aD (aK (aH (aM (.inr rfl)) ⟨oJ _ _,trivial⟩ ?_))))
  refine aU (aJ (aD (yR (fun H E=>∃(x161:Int),jR K a1 x127 x134 v157 (bY K a0 a1 k) x161=some (x135',x141')∧H=[hO cI b114 x112.length 3 x112.length x127]∧E=[(0,.vc (pS cI a0)),(1,.vc (pS cI a1)),(8,.vc (pO b114 x112.length x112.length)),(9,.vc (pS cI v157.d)),(10,.vc (pI .i64 x134)),(12,.vc (pI .i64 0)),(13,.vc (pI .i64 x161))]) ?_ (fun Jj162=>?_))))
  ·rintro _ _ ⟨x161,hF,rfl,rfl⟩
   unfold jR at hF
   refine aD (aI (aY (fun H E=>∃(x167:Int),lN K a1 x127 x134 v157 (bY K a0 a1 k) x167=some (x135',x141')∧H=[hO cI b114 x112.length 3 x112.length x127]∧E=[(0,.vc (pS cI a0)),(1,.vc (pS cI a1)),(8,.vc (pO b114 x112.length x112.length)),(9,.vc (pS cI v157.d)),(10,.vc (pI .i64 x134)),(12,.vc (pI .i64 x167))]) ?_ (fun Jj169=>?_)))
   ·rintro _ _ ⟨x167,hF,rfl,rfl⟩
    unfold lN at hF
    obtain⟨v170,h171,hF⟩:=aX hF qU
    obtain⟨v172,h173,hF⟩:=aX hF nK
    obtain⟨v174,h175,hF⟩:=aX hF bK
    refine go ?_ ?_
    refine aL rfl tyZ40 (fun b176=>?_)
    obtain⟨v177,h178,x179,h180,v182,h183,hF⟩:=bn3 hF
    refine go ?_ ?_
    exact aF (fun a w hh=>⟨x179,v174.d,v182,hF,(bE h180 q131),gO [1] hh⟩)
   obtain⟨x167',hL,hRl168⟩:=aO hF
   refine dW (fun k a w=>∃(x165:Int),∃(x166:Int),eR K a1 v157 k x165 x166=some x167'∧hs _ [hO cI b114 x112.length 3 x112.length x127] [(0,.vc (pS cI a0)),(1,.vc (pS cI a1)),(8,.vc (pO b114 x112.length x112.length)),(9,.vc (pS cI v157.d)),(10,.vc (pI .i64 x134)),(12,.vc (pI .i64 x165)),(13,.vc (pI .i64 x166))] a w) K (fun a w ⟨_,_,hF,_⟩=>by cases hF) (fun k a w ⟨x165,x166,hF,hh⟩=>dV ?_ hh) (fun a w hh=>⟨0,x161,hL,gO [0] hh⟩)
   rw [eR.eq_2] at hF
   refine go ?_ ?_
   refine aC hF rfl (fun h184 hF=>?_) (fun h184 hF=>?_)
   ·refine iC (aJ (aI ?_))
    obtain⟨v185,h186,v187,h188,v189,h190,hF⟩:=bn3 hF
    obtain⟨v191,h192,hF⟩:=aX hF qU
    obtain⟨v193,h194,hF⟩:=aX hF g8
    refine go ?_ ?_
    refine aC hF rfl (fun h195 hF=>?_) (fun h195 hF=>?_)
    ·refine go ?_ ?_
     exact aF (fun a w hh=>⟨v189,x166,hF,gO [0] hh⟩)
    obtain⟨v196,h197,hF⟩:=aO hF
    refine go ?_ ?_
    exact aF (fun a w hh=>⟨x165,v196,hF,gO [0] hh⟩)
   refine bI ?_
   obtain rfl:=iR hF
   exact p6 Jj169 ⟨x165,hRl168,rfl,rfl⟩ [0]
  obtain⟨v198,h199,hF⟩:=aX hF g8
  refine go ?_ ?_
  refine aC hF rfl (fun h200 hF=>?_) (fun h200 hF=>?_)
  ·refine aK (aH (aM (.inr rfl)) ⟨oJ _ _,trivial⟩ ?_)
   refine aU ?_
   exact p6 Jj162 ⟨0,hF,rfl,rfl⟩ [1]
  refine iC ?_
  exact p6 Jj162 ⟨999999999,hF,rfl,rfl⟩ [1]
 refine bI ?_
 obtain⟨rfl,rfl⟩:=sm2 hF
 exact p6 Jj143 ⟨x127,x133,hRl142,q131,rfl,rfl⟩ [0]
def kP (K:Nat) (a0:aB) (a1:aB):Option (aB×aB):=
 bif((a1.d.length:Int)==0) then(some ((⟨false,([]:List Int)⟩:aB),(⟨false,([]:List Int)⟩:aB))) else((jH K a0.d a1.d).bind fun v6=>(aZ K (a0.neg != a1.neg) v6.1).bind fun v8=>(aZ K false v6.2).bind fun v11=>bif a0.neg then(bif(decide (0<(v11.d.length:Int))) then((aZ K (a0.neg != a1.neg) [1]).bind fun v18=>(nU K v8 v18).bind fun v20=>(fN K a1.d v11.d).bind fun v22=>(aZ K false v22).bind fun v24=>some (v20,v24)) else(some (v8,v11))) else(some (v8,v11)))
theorem sW {K:Nat} {a0:aB} {a1:aB} {r:aB×aB} (hF:kP K a0 a1=some r):Ct Tryz.prog 96 [.va (aB.e a0),.va (aB.e a1)] (.t2 (.va (aB.e r.1)) (.va (aB.e r.2))):=by
 unfold kP at hF
 refine aA Tryz.func96 rfl (by kernel_rfl) Tryz.ntmps96 rfl (fun w0 M0=>?_)
 refine aD (aK (cK rfl rfl trivial (fun b1=>?_)))
 refine cK rfl rfl trivial (fun b2=>?_)
 refine aL rfl tyZ40 (fun b3=>?_)
 refine aL rfl tyZ40 (fun b4=>?_)
 refine go ?_ ?_
 refine aC hF rfl (fun h5 hF=>?_) (fun h5 hF=>?_)
 ·refine aD (aK (aH (fG (is:=[]) (xs:=[]) (ps:=[]) rfl tyB40 rfl rfl trivial rfl) trivial ?_))
  refine aH (fG (is:=[]) (xs:=[]) (ps:=[]) rfl tyB40 rfl rfl trivial rfl) trivial ?_
  exact bP
 obtain⟨v6,h7,hF⟩:=aX hF aAC
 refine go ?_ ?_
 refine aH (yO rfl Tryz.underlying4) zU2 ?_
 refine fL ?_
 obtain⟨v8,h9,hF⟩:=aX hF bK
 refine aH (bD rfl h9 rfl) zU2 ?_
 refine aL rfl tyZ40 (fun b10=>?_)
 obtain⟨v11,h12,hF⟩:=aX hF bK
 refine go ?_ ?_
 refine aL rfl tyZ40 (fun b13=>?_)
 refine go ?_ ?_
 refine cG hF (fun h14 hF=>?_) (fun h14 hF=>?_)
 ·refine go ?_ ?_
  refine aC hF rfl (fun h15 hF=>?_) (fun h15 hF=>?_)
  ·refine aD ?_
   obtain⟨v18,h19,hF⟩:=aX hF bK
   obtain⟨v20,h21,hF⟩:=aX hF yW
   refine iG [0,0,2,0,8,30,0,126,255,511] 9 1 [.v (.va (aB.e v8)),.v (.vc (pP (some b1) 0)),.v (.vc (pB a0.neg)),.v (.vc (pP (some b2) 0)),.v (.vc (pB a1.neg)),.v (.vc (pB (a0.neg != a1.neg))),.v (.vc (pS cI [1])),.v (.va (aB.e v18)),.v (.va (aB.e v20))] aW ⟨d0 (iD 1 2 rfl rfl rfl rfl (.agg tyA40)) zU1,d0 (jW (off:=0) (k:=0) rfl tyF40_0) zU1,d0 (iD 5 1 rfl rfl rfl rfl (.one tyO4)) zU1,d0 (jW (off:=0) (k:=0) rfl tyF40_0) zU1,d0 (iD 4 1 rfl rfl rfl rfl (.one tyO4)) zU1,⟨rfl,.run (L:=[0]) ⟨fun G16 A=>yO rfl Tryz.underlying4,trivial⟩ (fun G16=>zU2)⟩,d0 (gP (C:=cI) (xs:=[.const (.int .i64 (1))]) (ps:=[.vc (pI .i64 1)]) (zs:=[1]) rfl tyS22 rfl ⟨⟨trivial,rfl⟩,trivial⟩ rfl) ⟨oJ _ _,trivial⟩,d0 (bD rfl h19 rfl) zU2,d0 (bD rfl h21 rfl) zU2,trivial⟩ (fun bs17 G16=>?_)
   obtain⟨v22,h23,hF⟩:=aX hF nK
   obtain⟨v24,h25,hF⟩:=aX hF bK
   refine go ?_ ?_
   refine tQ (HsM [(0,fun G26=>[⟨some b13,1,40,2,1,(aB.e v24)⟩,⟨some b10,1,40,2,1,(aB.e v20)⟩,⟨some b4,1,40,2,1,([pB false]++[pS cI ([]:List Int)])⟩,⟨some b3,1,40,2,1,([pB false]++[pS cI ([]:List Int)])⟩,⟨some b2,1,40,2,1,(aB.e a1)⟩,⟨some b1,1,40,2,1,(aB.e a0)⟩]),(1,fun G26=>[⟨some b13,1,40,2,1,(aB.e v24)⟩,⟨some b10,1,40,2,1,(aB.e v20)⟩,⟨some b4,1,40,2,1,([pB false]++[pS cI ([]:List Int)])⟩,⟨some b3,1,40,2,1,(aB.e v20)⟩,⟨some b2,1,40,2,1,(aB.e a1)⟩,⟨some b1,1,40,2,1,(aB.e a0)⟩])]) [2] [0,0,1,7] 3 1 [.v (.va (aB.e v20)),.v (.va (aB.e v24)),.g (fun _ _=>.any)] aW ⟨d1 0 (iD 1 2 rfl rfl rfl rfl (.agg tyA40)) zU1,⟨rfl,.run (L:=[0,1]) ⟨fun G26 A=>iD 0 2 rfl rfl rfl rfl (.agg tyA40),fun G26 A=>iD 0 2 rfl rfl rfl rfl (.agg tyA40),trivial⟩ (fun G26=>zU1)⟩,⟨rfl,.hvy [0] ⟨fun G26 A=>aDN (t_s 3 rfl rfl rfl tyA40.s),trivial⟩ (fun G26=>zU2)⟩,trivial⟩ (fun bs27 G26=>?_)
   exact bP
  refine go ?_ ?_
  refine tQ (HsM [(0,fun G28=>[⟨some b13,1,40,2,1,(aB.e v11)⟩,⟨some b10,1,40,2,1,(aB.e v8)⟩,⟨some b4,1,40,2,1,([pB false]++[pS cI ([]:List Int)])⟩,⟨some b3,1,40,2,1,([pB false]++[pS cI ([]:List Int)])⟩,⟨some b2,1,40,2,1,(aB.e a1)⟩,⟨some b1,1,40,2,1,(aB.e a0)⟩]),(1,fun G28=>[⟨some b13,1,40,2,1,(aB.e v11)⟩,⟨some b10,1,40,2,1,(aB.e v8)⟩,⟨some b4,1,40,2,1,([pB false]++[pS cI ([]:List Int)])⟩,⟨some b3,1,40,2,1,(aB.e v8)⟩,⟨some b2,1,40,2,1,(aB.e a1)⟩,⟨some b1,1,40,2,1,(aB.e a0)⟩])]) [2] [0,0,1,7] 3 1 [.v (.va (aB.e v8)),.v (.va (aB.e v11)),.g (fun _ _=>.any)] aW ⟨d1 0 (iD 1 2 rfl rfl rfl rfl (.agg tyA40)) zU1,⟨rfl,.run (L:=[0,1]) ⟨fun G28 A=>iD 0 2 rfl rfl rfl rfl (.agg tyA40),fun G28 A=>iD 0 2 rfl rfl rfl rfl (.agg tyA40),trivial⟩ (fun G28=>zU1)⟩,⟨rfl,.hvy [0] ⟨fun G28 A=>aDN (t_s 3 rfl rfl rfl tyA40.s),trivial⟩ (fun G28=>zU2)⟩,trivial⟩ (fun bs29 G28=>?_)
  exact bP
 refine go ?_ ?_
 refine uV rfl ?_
 refine go ?_ ?_
 refine tQ (HsM [(0,fun G30=>[⟨some b13,1,40,2,1,(aB.e v11)⟩,⟨some b10,1,40,2,1,(aB.e v8)⟩,⟨some b4,1,40,2,1,([pB false]++[pS cI ([]:List Int)])⟩,⟨some b3,1,40,2,1,([pB false]++[pS cI ([]:List Int)])⟩,⟨some b2,1,40,2,1,(aB.e a1)⟩,⟨some b1,1,40,2,1,(aB.e a0)⟩]),(1,fun G30=>[⟨some b13,1,40,2,1,(aB.e v11)⟩,⟨some b10,1,40,2,1,(aB.e v8)⟩,⟨some b4,1,40,2,1,([pB false]++[pS cI ([]:List Int)])⟩,⟨some b3,1,40,2,1,(aB.e v8)⟩,⟨some b2,1,40,2,1,(aB.e a1)⟩,⟨some b1,1,40,2,1,(aB.e a0)⟩])]) [2] [0,0,1,7] 3 1 [.v (.va (aB.e v8)),.v (.va (aB.e v11)),.g (fun _ _=>.any)] aW ⟨d1 0 (iD 1 2 rfl rfl rfl rfl (.agg tyA40)) zU1,⟨rfl,.run (L:=[0,1]) ⟨fun G30 A=>iD 0 2 rfl rfl rfl rfl (.agg tyA40),fun G30 A=>iD 0 2 rfl rfl rfl rfl (.agg tyA40),trivial⟩ (fun G30=>zU1)⟩,⟨rfl,.hvy [0] ⟨fun G30 A=>aDN (t_s 3 rfl rfl rfl tyA40.s),trivial⟩ (fun G30=>zU2)⟩,trivial⟩ (fun bs31 G30=>?_)
 exact bP
def tN (K:Nat) (x14:aB):Option aB:=
 some x14
def pX (K:Nat) (x28:Int):Option (LR aB aB):=
 (hU K x28).bind fun v31=>some (.ret v31)
def gU (K:Nat):Nat→Int→Int→Option Int
 |0,_,_=>none
 |k+1,x26,x27=>bif(decide (0<x27)) then((zP x26 x27).bind fun v34=>gU K k x27 v34) else(some x26)
def fA (K:Nat):Nat→aB→aB→Option (LR aB aB)
 |0,_,_=>none
 |k+1,x12,x13=>bif(decide (0<(x12.d.length:Int))) then(bif(decide ((x13.d.length:Int)≤2)) then(bif(decide ((x12.d.length:Int)≤2)) then((gG x13.d).bind fun v20=>(gG x12.d).bind fun v22=>(gU K K v20 v22).bind fun x28=>pX K x28) else((kP K x13 x12).bind fun v36=>fA K k v36.2 x12)) else((kP K x13 x12).bind fun v40=>fA K k v40.2 x12)) else(some (.go x13))
def n9 (K:Nat) (a0:aB) (a1:aB):Option aB:=
 (aZ K false a0.d).bind fun v4=>(aZ K false a1.d).bind fun v7=>(fA K K v7 v4).bind fun o=>match o with| .ret r=>some r| .go x14=>tN K x14
theorem yH {K:Nat} {a0:aB} {a1:aB} {r:aB} (hF:n9 K a0 a1=some r):Ct Tryz.prog 95 [.va (aB.e a0),.va (aB.e a1)] (.va (aB.e r)):=by
 unfold n9 at hF
 refine aA Tryz.func95 rfl (by kernel_rfl) Tryz.ntmps95 rfl (fun w0 M0=>?_)
 refine aD (aK (cK rfl rfl trivial (fun b1=>?_)))
 refine cK rfl rfl trivial (fun b2=>?_)
 refine aL rfl tyZ40 (fun b3=>?_)
 obtain⟨v4,h5,hF⟩:=aX hF bK
 refine go ?_ ?_
 refine aL rfl tyZ40 (fun b6=>?_)
 obtain⟨v7,h8,hF⟩:=aX hF bK
 refine go ?_ ?_
 refine aL rfl tyZ40 (fun b9=>?_)
 refine go ?_ ?_
 refine aI (aY (fun H E=>∃(x14:aB),tN K x14=some r∧H=[⟨some b6,1,40,2,1,(aB.e x14)⟩,⟨some b3,1,40,2,1,([pB false]++[pS cI ([]:List Int)])⟩]∧E=[(4,.vc (pP (some b3) 0)),(5,.vc (pP (some b6) 0))]) ?_ (fun Jj16=>?_))
 ·rintro _ _ ⟨x14,hF,rfl,rfl⟩
  unfold tN at hF
  exact bP
 obtain⟨ol15,hL,hRl15⟩:=aO hF
 refine dW (fun k a w=>∃(x12:aB),∃(x13:aB),fA K k x12 x13=some ol15∧hs _ [⟨some b9,1,40,2,1,(aB.e x12)⟩,⟨some b6,1,40,2,1,(aB.e x13)⟩,⟨some b3,1,40,2,1,([pB false]++[pS cI ([]:List Int)])⟩] [(4,.vc (pP (some b3) 0)),(5,.vc (pP (some b6) 0)),(6,.vc (pP (some b9) 0))] a w) K (fun a w ⟨_,_,hF,_⟩=>by cases hF) (fun k a w ⟨x12,x13,hF,hh⟩=>dV ?_ hh) (fun a w hh=>⟨v7,v4,hL,gO [0,1,2] hh⟩)
 rw [fA.eq_2] at hF
 refine go ?_ ?_
 refine aC hF rfl (fun h17 hF=>?_) (fun h17 hF=>?_)
 ·refine iC (aJ (aI (go ?_ ?_)))
  refine cG hF (fun h18 hF=>?_) (fun h18 hF=>?_)
  ·refine go ?_ ?_
   refine aC hF rfl (fun h19 hF=>?_) (fun h19 hF=>?_)
   ·obtain⟨v20,h21,hF⟩:=aX hF l9
    obtain⟨v22,h23,hF⟩:=aX hF l9
    refine go ?_ ?_
    refine aI (aY (fun H E=>∃(x28:Int),pX K x28=some ol15∧H=[⟨some b3,1,40,2,1,([pB false]++[pS cI ([]:List Int)])⟩]∧E=[(4,.vc (pP (some b3) 0)),(7,.vc (pI .i64 x28))]) ?_ (fun Jj30=>?_))
    ·rintro _ _ ⟨x28,hF,rfl,rfl⟩
     unfold pX at hF
     obtain⟨v31,h32,hF⟩:=aX hF l6
     exact bP
    obtain⟨x28',hL,hRl29⟩:=aO hF
    refine dW (fun k a w=>∃(x26:Int),∃(x27:Int),gU K k x26 x27=some x28'∧hs _ [⟨some b3,1,40,2,1,([pB false]++[pS cI ([]:List Int)])⟩] [(4,.vc (pP (some b3) 0)),(7,.vc (pI .i64 x26)),(8,.vc (pI .i64 x27))] a w) K (fun a w ⟨_,_,hF,_⟩=>by cases hF) (fun k a w ⟨x26,x27,hF,hh⟩=>dV ?_ hh) (fun a w hh=>⟨v20,v22,hL,gO [2] hh⟩)
    rw [gU.eq_2] at hF
    refine go ?_ ?_
    refine aC hF rfl (fun h33 hF=>?_) (fun h33 hF=>?_)
    ·refine iC (aJ (aI ?_))
     obtain⟨v34,h35,hF⟩:=aO hF
     refine go ?_ ?_
     exact aF (fun a w hh=>⟨x27,v34,hF,gO [0] hh⟩)
    refine bI ?_
    obtain rfl:=iR hF
    exact p6 Jj30 ⟨x26,hRl29,rfl,rfl⟩ [0]
   obtain⟨v36,h37,hF⟩:=aX hF sW
   refine go ?_ ?_
   refine aL rfl tyZ40 (fun b38=>?_)
   refine aL rfl tyZ40 (fun b39=>?_)
   refine go ?_ ?_
   exact aF (fun a w hh=>⟨v36.2,x12,hF,gO [2,3,4] hh⟩)
  refine go ?_ ?_
  refine uV rfl ?_
  obtain⟨v40,h41,hF⟩:=aX hF sW
  refine go ?_ ?_
  refine aL rfl tyZ40 (fun b42=>?_)
  refine aL rfl tyZ40 (fun b43=>?_)
  refine go ?_ ?_
  exact aF (fun a w hh=>⟨v40.2,x12,hF,gO [2,3,4] hh⟩)
 refine bI ?_
 obtain rfl:=iR hF
 exact p6 Jj16 ⟨x13,hRl15,rfl,rfl⟩ [1,2]
def rB (a0:aB):Option aB:=
 bif(!a0.neg) then(some (⟨(decide (0<(a0.d.length:Int))),a0.d⟩:aB)) else(some (⟨false,a0.d⟩:aB))
theorem yI {a0:aB} {r:aB} (hF:rB a0=some r):Ct Tryz.prog 109 [.va (aB.e a0)] (.va (aB.e r)):=by
 unfold rB at hF
 refine aA Tryz.func109 rfl (by kernel_rfl) Tryz.ntmps109 rfl (fun w0 M0=>?_)
 refine aD (aK (cK rfl rfl trivial (fun b1=>?_)))
 refine aL rfl tyZ40 (fun b2=>?_)
 refine go ?_ ?_
 refine cG hF (fun h3 hF=>?_) (fun h3 hF=>?_)
 ·exact bP
 exact bP
def uX (K:Nat) (a0:Bool) (a1:List Int) (x4:Int):Option aB:=
 bif(x4==0) then(some (⟨false,([]:List Int)⟩:aB)) else((slL a1 0 x4).bind fun x8=>some (⟨a0,x8⟩:aB))
def mC (K:Nat) (a1:List Int):Nat→Int→Option Int
 |0,_=>none
 |k+1,x3=>bif(decide (0<x3)) then((aR (x3-1)).bind fun v11=>(bO a1 v11).bind fun v13=>bif(v13==0) then((aR (x3-1)).bind fun v16=>mC K a1 k v16) else(some x3)) else(some x3)
def eI (K:Nat) (a0:Bool) (a1:List Int):Option aB:=
 (mC K a1 K (a1.length:Int)).bind fun x4=>uX K a0 a1 x4
theorem jA {K:Nat} {a0:Bool} {a1:List Int} {r:aB} (hF:eI K a0 a1=some r):Ct Tryz.prog 155 [.vc (pB a0),.vc (pS cI a1)] (.va (aB.e r)):=by
 unfold eI at hF
 refine aA Tryz.func155 rfl (by kernel_rfl) Tryz.ntmps155 rfl (fun w0 M0=>?_)
 refine aD (aK (aL rfl tyZ40 (fun b1=>?_)))
 refine go ?_ ?_
 refine aI (aY (fun H E=>∃(x4:Int),uX K a0 a1 x4=some r∧H=[⟨some b1,1,40,2,1,([pB false]++[pS cI ([]:List Int)])⟩]∧E=[(0,.vc (pB a0)),(1,.vc (pS cI a1)),(4,.vc (pP (some b1) 0)),(5,.vc (pI .i64 x4))]) ?_ (fun Jj6=>?_))
 ·rintro _ _ ⟨x4,hF,rfl,rfl⟩
  unfold uX at hF
  refine go ?_ ?_
  refine aC hF rfl (fun h7 hF=>?_) (fun h7 hF=>?_)
  ·refine aD (aK (aH (fG (is:=[]) (xs:=[]) (ps:=[]) rfl tyB40 rfl rfl trivial rfl) trivial ?_))
   exact bP
  obtain⟨x8,h9,hF⟩:=aO hF
  refine go ?_ ?_
  refine aH (aNn rfl tyS22 h9) ⟨rfl,rfl,rfl,trivial⟩ ?_
  refine aH (fG (is:=[0,1]) (xs:=[.tmp 23,.tmp 27]) (ps:=[.vc (pB a0),.vc (pS cI x8)]) rfl tyB40 rfl rfl ⟨trivial,trivial,trivial⟩ rfl) zU2 ?_
  exact bP
 obtain⟨x4',hL,hRl5⟩:=aO hF
 refine dW (fun k a w=>∃(x3:Int),mC K a1 k x3=some x4'∧hs _ [⟨some b1,1,40,2,1,([pB false]++[pS cI ([]:List Int)])⟩] [(0,.vc (pB a0)),(1,.vc (pS cI a1)),(4,.vc (pP (some b1) 0)),(5,.vc (pI .i64 x3))] a w) K (fun a w ⟨_,hF,_⟩=>by cases hF) (fun k a w ⟨x3,hF,hh⟩=>dV ?_ hh) (fun a w hh=>⟨(a1.length:Int),hL,gO [0] hh⟩)
 rw [mC.eq_2] at hF
 refine go ?_ ?_
 refine cG hF (fun h10 hF=>?_) (fun h10 hF=>?_)
 ·obtain⟨v11,h12,v13,h14,hF⟩:=tY hF
  refine go ?_ ?_
  refine aC hF rfl (fun h15 hF=>?_) (fun h15 hF=>?_)
  ·refine iC (aJ (aI ?_))
   have hF:=qB h12 hF
   refine go ?_ ?_
   exact aF (fun a w hh=>⟨v11,hF,gO [0] hh⟩)
  refine bI ?_
  obtain rfl:=iR hF
  exact p6 Jj6 ⟨x3,hRl5,rfl,rfl⟩ [0]
 refine go ?_ ?_
 refine uV rfl ?_
 refine bI ?_
 obtain rfl:=iR hF
 exact p6 Jj6 ⟨x3,hRl5,rfl,rfl⟩ [0]
def sR (K:Nat) (x2:List Int) (x28:List Int) (x34:Int):Option (List Int):=
 (bO x28 (x2.length:Int)).bind fun v37=>(pA x28 (x2.length:Int) x34).bind fun x39=>some x39
def dC (K:Nat) (x2:List Int) (x3:List Int):Nat→(List Int)→Int→Int→Option ((List Int)×Int)
 |0,_,_,_=>none
 |k+1,x20,x26,x27=>bif(decide (x27<(x2.length:Int))) then((bO x2 x27).bind fun v43=>(aR (v43+x26)).bind fun v45=>bif(decide (x27<(x3.length:Int))) then((bO x3 x27).bind fun v48=>(aR (v45+v48)).bind fun v50=>bif(decide (1000000000≤v50)) then((aR (v50-1000000000)).bind fun v53=>(bO x20 x27).bind fun v55=>(pA x20 x27 v53).bind fun x57=>(aR (x27+1)).bind fun v60=>dC K x2 x3 k x57 1 v60) else((bO x20 x27).bind fun v62=>(pA x20 x27 v50).bind fun x64=>(aR (x27+1)).bind fun v67=>dC K x2 x3 k x64 0 v67)) else(bif(decide (1000000000≤v45)) then((aR (v45-1000000000)).bind fun v70=>(bO x20 x27).bind fun v72=>(pA x20 x27 v70).bind fun x74=>(aR (x27+1)).bind fun v77=>dC K x2 x3 k x74 1 v77) else((bO x20 x27).bind fun v79=>(pA x20 x27 v45).bind fun x81=>(aR (x27+1)).bind fun v84=>dC K x2 x3 k x81 0 v84))) else(some (x20,x26))
def nW (K:Nat) (x2:List Int) (x3:List Int):Option (List Int):=
 (aR ((x2.length:Int)+1)).bind fun v5=>(y4 v5 0).bind fun x7=>(dC K x2 x3 K x7 0 0).bind fun(x28,x34)=>sR K x2 x28 x34
def pR (K:Nat) (a0:List Int) (a1:List Int):Option (List Int):=
 bif(decide ((a0.length:Int)<(a1.length:Int))) then(nW K a1 a0) else(nW K a0 a1)
theorem aAX {K:Nat} {a0:List Int} {a1:List Int} {r:List Int} (hF:pR K a0 a1=some r):Ct Tryz.prog 156 [.vc (pS cI a0),.vc (pS cI a1)] (.vc (pS cI r)):=by
 unfold pR at hF
 refine aA Tryz.func156 rfl (by kernel_rfl) Tryz.ntmps156 rfl (fun w0 M0=>?_)
 refine aD (aK (aH (aM (.inr rfl)) ⟨eM cI,trivial⟩ ?_))
 refine aU (aJ (aD (yR (fun H E=>∃(x2:List Int),∃(x3:List Int),nW K x2 x3=some r∧H=[]∧E=[(0,.vc (pS cI x2)),(1,.vc (pS cI x3))]) ?_ (fun Jj4=>?_))))
 ·rintro _ _ ⟨x2,x3,hF,rfl,rfl⟩
  unfold nW at hF
  obtain⟨v5,h6,x7,h8,hF⟩:=tY hF
  refine go ?_ ?_
  refine qG (C:=cI) rfl tyS22 rfl tyZ3 rfl h8 (fun b9=>?_)
  refine go ?_ ?_
  refine aI (aY (fun H E=>∃(x28:List Int),∃(x34:Int),sR K x2 x28 x34=some r∧x28.length=x7.length∧H=[hO cI b9 x7.length 3 x7.length x28]∧E=[(0,.vc (pS cI x2)),(5,.vc (pO b9 x7.length x7.length)),(6,.vc (pI .i64 x34))]) ?_ (fun Jj36=>?_))
  ·rintro _ _ ⟨x28,x34,hF,q32,rfl,rfl⟩
   unfold sR at hF
   obtain⟨v37,h38,x39,h40,hF⟩:=tY hF
   refine go ?_ ?_
   refine fX (fY (mL 0 [4,5,50,55] rfl (bE h40 q32) ⟨rfl,rfl,rfl,rfl,trivial⟩ rfl ?_))
   obtain rfl:=iR hF
   exact gW (.inl rfl) Tryz.results156 (.tmp rfl .nil) rfl rfl
  obtain⟨⟨x28',x34'⟩,hL,hRl35⟩:=aO hF
  refine dW (fun k a w=>∃(x20:List Int),∃(x26:Int),∃(x27:Int),dC K x2 x3 k x20 x26 x27=some (x28',x34')∧x20.length=x7.length∧hs _ [hO cI b9 x7.length 3 x7.length x20] [(0,.vc (pS cI x2)),(1,.vc (pS cI x3)),(5,.vc (pO b9 x7.length x7.length)),(6,.vc (pI .i64 x26)),(21,.vc (pS cI x2)),(22,.vc (pI .i64 (x2.length:Int))),(23,.vc (pI .i64 x27))] a w) K (fun a w ⟨_,_,_,hF,_,_⟩=>by cases hF) (fun k a w ⟨x20,x26,x27,hF,q24,hh⟩=>dV ?_ hh) (fun a w hh=>⟨x7,0,0,hL,rfl,gO [0] hh⟩)
  rw [dC.eq_2] at hF
  refine go ?_ ?_
  refine aC hF rfl (fun h42 hF=>?_) (fun h42 hF=>?_)
  ·refine go ?_ ?_
   refine aI ?_
   obtain⟨v43,h44,v45,h46,hF⟩:=tY hF
   refine go ?_ ?_
   refine aC hF rfl (fun h47 hF=>?_) (fun h47 hF=>?_)
   ·obtain⟨v48,h49,v50,h51,hF⟩:=tY hF
    refine go ?_ ?_
    refine aC hF rfl (fun h52 hF=>?_) (fun h52 hF=>?_)
    ·obtain⟨v53,h54,v55,h56,x57,h58,v60,h61,hF⟩:=bn4 hF
     refine go ?_ ?_
     exact aF (fun a w hh=>⟨x57,1,v60,hF,(bE h58 q24),gO [0] hh⟩)
    obtain⟨v62,h63,x64,h65,v67,h68,hF⟩:=bn3 hF
    refine go ?_ ?_
    exact aF (fun a w hh=>⟨x64,0,v67,hF,(bE h65 q24),gO [0] hh⟩)
   refine go ?_ ?_
   refine aC hF rfl (fun h69 hF=>?_) (fun h69 hF=>?_)
   ·obtain⟨v70,h71,v72,h73,x74,h75,v77,h78,hF⟩:=bn4 hF
    refine go ?_ ?_
    exact aF (fun a w hh=>⟨x74,1,v77,hF,(bE h75 q24),gO [0] hh⟩)
   obtain⟨v79,h80,x81,h82,v84,h85,hF⟩:=bn3 hF
   refine go ?_ ?_
   exact aF (fun a w hh=>⟨x81,0,v84,hF,(bE h82 q24),gO [0] hh⟩)
  refine bI ?_
  obtain⟨rfl,rfl⟩:=sm2 hF
  exact p6 Jj36 ⟨x20,x26,hRl35,q24,rfl,rfl⟩ [0]
 refine go ?_ ?_
 refine aC hF rfl (fun h86 hF=>?_) (fun h86 hF=>?_)
 ·refine aK (fL ?_)
  refine fL ?_
  refine y6 ?_
  refine y6 ?_
  refine aU ?_
  exact p6 Jj4 ⟨a1,a0,hF,rfl,rfl⟩ []
 refine iC ?_
 exact p6 Jj4 ⟨a0,a1,hF,rfl,rfl⟩ []
def mI (a0:Int):Option Bool:=
 some (a0 != a0)
theorem vW {a0:Int} {r:Bool} (hF:mI a0=some r):Ct Tryz.prog 174 [.vc (pI .i64 a0)] (.vc (pB r)):=by
 unfold mI at hF
 refine aA Tryz.func174 rfl (by kernel_rfl) Tryz.ntmps174 rfl (fun w0 M0=>?_)
 exact bP
def iL (a0:Int) (a1:Int):Option Int:=
 (mI a0).bind fun v1=>(mI a1).bind fun v3=>bif v1 then(bif v3 then(some 0) else(some (-1))) else(bif v3 then(some 1) else(bif(decide (a0<a1)) then(some (-1)) else(bif(decide (a1<a0)) then(some 1) else(some 0))))
theorem t6 {a0:Int} {a1:Int} {r:Int} (hF:iL a0 a1=some r):Ct Tryz.prog 170 [.vc (pI .i64 a0),.vc (pI .i64 a1)] (.vc (pI .i64 r)):=by
 unfold iL at hF
 refine aA Tryz.func170 rfl (by kernel_rfl) Tryz.ntmps170 rfl (fun w0 M0=>?_)
 obtain⟨v1,h2,hF⟩:=aX hF vW
 obtain⟨v3,h4,hF⟩:=aX hF vW
 refine go ?_ ?_
 refine aC hF rfl (fun h5 hF=>?_) (fun h5 hF=>?_)
 ·refine go ?_ ?_
  refine aC hF rfl (fun h6 hF=>?_) (fun h6 hF=>?_)
  ·exact bP
  exact bP
 refine go ?_ ?_
 refine aC hF rfl (fun h7 hF=>?_) (fun h7 hF=>?_)
 ·exact bP
 refine go ?_ ?_
 refine aC hF rfl (fun h8 hF=>?_) (fun h8 hF=>?_)
 ·exact bP
 refine go ?_ ?_
 refine aC hF rfl (fun h9 hF=>?_) (fun h9 hF=>?_)
 ·exact bP
 exact bP
def t7 (K:Nat):Option Int:=
 some 0
def gC (K:Nat) (a0:List Int) (a1:List Int):Nat→Int→Option (LR Int Unit)
 |0,_=>none
 |k+1,x7=>bif(decide (0≤x7)) then((bO a0 x7).bind fun v13=>(bO a1 x7).bind fun v15=>bif(v13 != v15) then((bO a0 x7).bind fun v20=>(bO a1 x7).bind fun v22=>(iL v20 v22).bind fun v24=>some (.ret v24)) else((aR (x7-1)).bind fun v26=>gC K a0 a1 k v26)) else(some (.go ()))
def f8 (K:Nat) (a0:List Int) (a1:List Int):Option Int:=
 bif((a0.length:Int) != (a1.length:Int)) then((iL (a0.length:Int) (a1.length:Int)).bind fun v2=>some v2) else((aR ((a0.length:Int)-1)).bind fun v4=>(gC K a0 a1 K v4).bind fun o=>match o with| .ret r=>some r| .go _=>t7 K)
theorem mO {K:Nat} {a0:List Int} {a1:List Int} {r:Int} (hF:f8 K a0 a1=some r):Ct Tryz.prog 157 [.vc (pS cI a0),.vc (pS cI a1)] (.vc (pI .i64 r)):=by
 unfold f8 at hF
 refine aA Tryz.func157 rfl (by kernel_rfl) Tryz.ntmps157 rfl (fun w0 M0=>?_)
 refine go ?_ ?_
 refine aC hF rfl (fun h1 hF=>?_) (fun h1 hF=>?_)
 ·obtain⟨v2,h3,hF⟩:=aX hF t6
  exact bP
 obtain⟨v4,h5,hF⟩:=aO hF
 refine go ?_ ?_
 refine aI (aY (fun H E=>t7 K=some r∧H=[]∧E=[]) ?_ (fun Jj9=>?_))
 ·rintro _ _ ⟨hF,rfl,rfl⟩
  unfold t7 at hF
  exact bP
 obtain⟨ol8,hL,hRl8⟩:=aO hF
 refine dW (fun k a w=>∃(x7:Int),gC K a0 a1 k x7=some ol8∧hs _ [] [(0,.vc (pS cI a0)),(1,.vc (pS cI a1)),(5,.vc (pI .i64 x7))] a w) K (fun a w ⟨_,hF,_⟩=>by cases hF) (fun k a w ⟨x7,hF,hh⟩=>dV ?_ hh) (fun a w hh=>⟨v4,hL,gO [] hh⟩)
 rw [gC.eq_2] at hF
 refine go ?_ ?_
 refine aC hF rfl (fun h10 hF=>?_) (fun h10 hF=>?_)
 ·refine go ?_ ?_
  refine aI (aD ?_)
  obtain⟨v13,h14,hF⟩:=aO hF
  obtain⟨v15,h16,hF⟩:=aO hF
  refine dr [0,0,3,7,0,0,48,112,255] 9 0 ?_ (fun bs12 G11=>?_)
  refine aU (aJ (aC hF rfl (fun h17 hF=>?_) (fun h17 hF=>?_)))
  ·refine aD ?_
   have hF:=qB h14 hF
   have hF:=qB h16 hF
   obtain⟨v24,h25,hF⟩:=aX hF t6
   refine dr [0,0,3,7,0,0,48,112,255,511] 10 0 ?_ (fun bs19 G18=>?_)
   refine aU (aJ ?_)
   exact bP
  obtain⟨v26,h27,hF⟩:=aO hF
  refine go ?_ ?_
  exact aF (fun a w hh=>⟨v26,hF,gO [] hh⟩)
 refine bI ?_
 obtain rfl:=iR hF
 exact p6 Jj9 ⟨hRl8,rfl,rfl⟩ []
def rO (K:Nat) (x21:List Int):Option (List Int):=
 some x21
def kJ (K:Nat) (x20:Int) (recl27:(List Int)→Int→Option (List Int)) (x31:List Int):Option (List Int):=
 (bO x31 x20).bind fun v38=>bif(decide (v38<0)) then((bO x31 x20).bind fun v41=>(aR (v41+1000000000)).bind fun v43=>(bO x31 x20).bind fun v45=>(pA x31 x20 v43).bind fun x47=>(aR (x20+1)).bind fun v50=>(bO x47 v50).bind fun v52=>(aR (v52-1)).bind fun v54=>(bO x47 v50).bind fun v56=>(pA x47 v50 v54).bind fun x58=>(aR (x20+1)).bind fun v61=>recl27 x58 v61) else((aR (x20+1)).bind fun v63=>recl27 x31 v63)
def eG (K:Nat) (a0:List Int) (a1:List Int) (x1:List Int):Nat→(List Int)→Int→Option (List Int)
 |0,_,_=>none
 |k+1,x14,x20=>bif(decide (x20<((cpL x1 a0).length:Int))) then(bif(decide (x20<(a1.length:Int))) then((bO x14 x20).bind fun v68=>(bO a1 x20).bind fun v70=>(aR (v68-v70)).bind fun v72=>(bO x14 x20).bind fun v74=>(pA x14 x20 v72).bind fun x76=>kJ K x20 (eG K a0 a1 x1 k) x76) else(kJ K x20 (eG K a0 a1 x1 k) x14)) else(some x14)
def mB (K:Nat) (a0:List Int) (a1:List Int):Option (List Int):=
 (y4 (a0.length:Int) 0).bind fun x1=>(eG K a0 a1 x1 K (cpL x1 a0) 0).bind fun x21=>rO K x21
theorem wL {K:Nat} {a0:List Int} {a1:List Int} {r:List Int} (hF:mB K a0 a1=some r):Ct Tryz.prog 158 [.vc (pS cI a0),.vc (pS cI a1)] (.vc (pS cI r)):=by
 unfold mB at hF
 refine aA Tryz.func158 rfl (by kernel_rfl) Tryz.ntmps158 rfl (fun w0 M0=>?_)
 refine aD (aK (aH (aM (.inr rfl)) ⟨eM cI,trivial⟩ ?_))
 obtain⟨x1,h2,hF⟩:=aO hF
 refine go ?_ ?_
 refine qG (C:=cI) rfl tyS22 rfl tyZ3 rfl h2 (fun b3=>?_)
 refine go ?_ ?_
 refine aH (t_cp 0 rfl tyS22 rfl rfl rfl) zU2 ?_
 refine go ?_ ?_
 refine aH (aAW (C:=cI) (xs:=(cpL x1 a0)) (T:=3) rfl tyS22 (aC7 rfl)) zU1 ?_
 refine go ?_ ?_
 refine aI (aY (fun H E=>∃(x21:List Int),rO K x21=some r∧x21.length=x1.length∧H=[hO cI b3 x1.length 3 x1.length x21]∧E=[(5,.vc (pO b3 x1.length x1.length))]) ?_ (fun Jj28=>?_))
 ·rintro _ _ ⟨x21,hF,q25,rfl,rfl⟩
  unfold rO at hF
  refine go ?_ ?_
  refine fX (fY (mL 0 [4,5,51] rfl q25 ⟨rfl,rfl,rfl,trivial⟩ rfl ?_))
  obtain rfl:=iR hF
  exact gW (.inl rfl) Tryz.results158 (.tmp rfl .nil) rfl rfl
 obtain⟨x21',hL,hRl27⟩:=aO hF
 refine dW (fun k a w=>∃(x14:List Int),∃(x20:Int),eG K a0 a1 x1 k x14 x20=some x21'∧x14.length=x1.length∧hs _ [hO cI b3 x1.length 3 x1.length x14] [(1,.vc (pS cI a1)),(5,.vc (pO b3 x1.length x1.length)),(14,.vc (pI .i64 ((cpL x1 a0).length:Int))),(15,.vc (pI .i64 x20))] a w) K (fun a w ⟨_,_,hF,_,_⟩=>by cases hF) (fun k a w ⟨x14,x20,hF,q18,hh⟩=>dV ?_ hh) (fun a w hh=>⟨(cpL x1 a0),0,hL,(aC7 rfl),gO [0] hh⟩)
 rw [eG.eq_2] at hF
 refine go ?_ ?_
 refine aC hF rfl (fun h29 hF=>?_) (fun h29 hF=>?_)
 ·refine go ?_ ?_
  refine aI (aD (aK (fL ?_)))
  refine y6 ?_
  refine aU (aJ (aD (yR (fun H E=>∃(x31:List Int),kJ K x20 (eG K a0 a1 x1 k) x31=some x21'∧x31.length=x1.length∧H=[hO cI b3 x1.length 3 x1.length x31]∧E=[(1,.vc (pS cI a1)),(5,.vc (pO b3 x1.length x1.length)),(6,.vc (pI .i64 x20)),(14,.vc (pI .i64 ((cpL x1 a0).length:Int))),(15,.vc (pI .i64 x20))]) ?_ (fun Jj37=>?_))))
  ·rintro _ _ ⟨x31,hF,q35,rfl,rfl⟩
   unfold kJ at hF
   obtain⟨v38,h39,hF⟩:=aO hF
   refine go ?_ ?_
   refine aC hF rfl (fun h40 hF=>?_) (fun h40 hF=>?_)
   ·have hF:=qB h39 hF
    obtain⟨v43,h44,hF⟩:=aO hF
    have hF:=qB h39 hF
    obtain⟨x47,h48,v50,h51,v52,h53,v54,h55,hF⟩:=bn4 hF
    have hF:=qB h53 hF
    obtain⟨x58,h59,hF⟩:=aO hF
    have hF:=qB h51 hF
    refine go ?_ ?_
    exact aF (fun a w hh=>⟨x58,v50,hF,(bE h59 (bE h48 q35)),gO [0] hh⟩)
   obtain⟨v63,h64,hF⟩:=aO hF
   refine go ?_ ?_
   exact aF (fun a w hh=>⟨x31,v63,hF,q35,gO [0] hh⟩)
  refine go ?_ ?_
  refine aC hF rfl (fun h65 hF=>?_) (fun h65 hF=>?_)
  ·obtain⟨v68,h69,hF⟩:=aO hF
   obtain⟨v70,h71,hF⟩:=aO hF
   obtain⟨v72,h73,hF⟩:=aO hF
   have hF:=qB h69 hF
   refine dr [0,0,3,7,0,0,48,112,255,511,1023] 10 1 ?_ (fun bs67 G66=>?_)
   obtain⟨x76,h77,hF⟩:=aO hF
   refine lI (wB 0 rfl rfl h69 h77 tyO3.s) zU2 ?_
   refine aU ?_
   exact p6 Jj37 ⟨x76,hF,(bE h77 q18),rfl,rfl⟩ [0]
  refine iC ?_
  exact p6 Jj37 ⟨x14,hF,q18,rfl,rfl⟩ [0]
 refine bI ?_
 obtain rfl:=iR hF
 exact p6 Jj28 ⟨x14,hRl27,q18,rfl,rfl⟩ [0]
def nD (K:Nat) (a0:aB) (a1:aB):Option aB:=
 bif(a0.neg==a1.neg) then((pR K a0.d a1.d).bind fun v7=>(eI K a0.neg v7).bind fun v9=>some v9) else((f8 K a0.d a1.d).bind fun v11=>bif(decide (v11<0)) then((mB K a1.d a0.d).bind fun v16=>(eI K a1.neg v16).bind fun v18=>some v18) else((mB K a0.d a1.d).bind fun v22=>(eI K a0.neg v22).bind fun v24=>some v24))
theorem yQ {K:Nat} {a0:aB} {a1:aB} {r:aB} (hF:nD K a0 a1=some r):Ct Tryz.prog 122 [.va (aB.e a0),.va (aB.e a1)] (.va (aB.e r)):=by
 unfold nD at hF
 refine aA Tryz.func122 rfl (by kernel_rfl) Tryz.ntmps122 rfl (fun w0 M0=>?_)
 refine aD (aK (cK rfl rfl trivial (fun b1=>?_)))
 refine cK rfl rfl trivial (fun b2=>?_)
 refine aL rfl tyZ40 (fun b3=>?_)
 refine go ?_ ?_
 refine aI (go ?_ ?_)
 refine aH (aOy rfl Tryz.underlying4) zU2 ?_
 refine go ?_ ?_
 refine aC hF rfl (fun h4 hF=>?_) (fun h4 hF=>?_)
 ·refine aD ?_
  obtain⟨v7,h8,hF⟩:=aX hF aAX
  obtain⟨v9,h10,hF⟩:=aX hF jA
  refine dr [0,1,0,4,0,16,60,127,255] 8 1 ?_ (fun bs6 G5=>?_)
  exact bP
 obtain⟨v11,h12,hF⟩:=aX hF mO
 refine go ?_ ?_
 refine aC hF rfl (fun h13 hF=>?_) (fun h13 hF=>?_)
 ·refine aD ?_
  obtain⟨v16,h17,hF⟩:=aX hF wL
  obtain⟨v18,h19,hF⟩:=aX hF jA
  refine dr [0,1,0,4,0,16,60,127,255] 8 1 ?_ (fun bs15 G14=>?_)
  exact bP
 obtain⟨v22,h23,hF⟩:=aX hF wL
 obtain⟨v24,h25,hF⟩:=aX hF jA
 refine go ?_ ?_
 refine dr [0,1,0,4,0,16,60,127,255] 8 1 ?_ (fun bs21 G20=>?_)
 exact bP
def qN (K:Nat) (a0:aB) (a1:aB) (x37:List Int):Option aB:=
 (eI K (a0.neg != a1.neg) x37).bind fun v45=>some v45
def qM (K:Nat) (a1:aB) (x36:Int) (recl43:(List Int)→Int→Option (List Int)) (x66:List Int) (x72:Int):Option (List Int):=
 (aR (x36+(a1.d.length:Int))).bind fun v75=>(bO x66 v75).bind fun v77=>(pA x66 v75 x72).bind fun x79=>(aR (x36+1)).bind fun v82=>recl43 x79 v82
def iF (K:Nat) (a1:aB) (x36:Int) (v48:Int):Nat→(List Int)→Int→Int→Option ((List Int)×Int)
 |0,_,_,_=>none
 |k+1,x58,x64,x65=>bif(decide (x65<(a1.d.length:Int))) then((bO a1.d x65).bind fun v85=>(aR (x36+x65)).bind fun v87=>(bO x58 v87).bind fun v89=>(aR (v48*v85)).bind fun v91=>(aR (v89+v91)).bind fun v93=>(aR (v93+x64)).bind fun v95=>(zL v95 1000000000).bind fun v97=>(aR (x36+x65)).bind fun v99=>(aR (v97*1000000000)).bind fun v101=>(aR (v95-v101)).bind fun v103=>(bO x58 v99).bind fun v105=>(pA x58 v99 v103).bind fun x107=>(aR (x65+1)).bind fun v110=>iF K a1 x36 v48 k x107 v97 v110) else(some (x58,x64))
def f0 (K:Nat) (a0:aB) (a1:aB):Nat→(List Int)→Int→Option (List Int)
 |0,_,_=>none
 |k+1,x30,x36=>bif(decide (x36<(a0.d.length:Int))) then((bO a0.d x36).bind fun v48=>(iF K a1 x36 v48 K x30 0 0).bind fun(x66,x72)=>qM K a1 x36 (f0 K a0 a1 k) x66 x72) else(some x30)
def vF (K:Nat) (a0:aB) (a1:aB) (x133:List Int):Option aB:=
 (eI K (a0.neg != a1.neg) x133).bind fun v141=>some v141
def sP (K:Nat) (a1:aB) (x132:Int) (recl139:(List Int)→Int→Option (List Int)) (x162:List Int) (x168:Int):Option (List Int):=
 (aR (x132+(a1.d.length:Int))).bind fun v171=>(bO x162 v171).bind fun v173=>(pA x162 v171 x168).bind fun x175=>(aR (x132+1)).bind fun v178=>recl139 x175 v178
def mT (K:Nat) (a1:aB) (x132:Int) (v144:Int):Nat→(List Int)→Int→Int→Option ((List Int)×Int)
 |0,_,_,_=>none
 |k+1,x154,x160,x161=>bif(decide (x161<(a1.d.length:Int))) then((bO a1.d x161).bind fun v181=>(aR (x132+x161)).bind fun v183=>(bO x154 v183).bind fun v185=>(aR (v144*v181)).bind fun v187=>(aR (v185+v187)).bind fun v189=>(aR (v189+x160)).bind fun v191=>(zL v191 1000000000).bind fun v193=>(aR (x132+x161)).bind fun v195=>(aR (v193*1000000000)).bind fun v197=>(aR (v191-v197)).bind fun v199=>(bO x154 v195).bind fun v201=>(pA x154 v195 v199).bind fun x203=>(aR (x161+1)).bind fun v206=>mT K a1 x132 v144 k x203 v193 v206) else(some (x154,x160))
def lE (K:Nat) (a0:aB) (a1:aB):Nat→(List Int)→Int→Option (List Int)
 |0,_,_=>none
 |k+1,x126,x132=>bif(decide (x132<(a0.d.length:Int))) then((bO a0.d x132).bind fun v144=>(mT K a1 x132 v144 K x126 0 0).bind fun(x162,x168)=>sP K a1 x132 (lE K a0 a1 k) x162 x168) else(some x126)
def bU (K:Nat) (a0:aB) (a1:aB):Option aB:=
 bif((a0.d.length:Int)==1) then(bif((a1.d.length:Int)==1) then((bO a0.d 0).bind fun v10=>(bO a1.d 0).bind fun v12=>(eZ (a0.neg != a1.neg) (wu ((IntKind.u64.wrap v10)*(IntKind.u64.wrap v12)))).bind fun v14=>some v14) else((aR ((a0.d.length:Int)+(a1.d.length:Int))).bind fun v16=>(y4 v16 0).bind fun x18=>(f0 K a0 a1 K x18 0).bind fun x37=>qN K a0 a1 x37)) else((aR ((a0.d.length:Int)+(a1.d.length:Int))).bind fun v112=>(y4 v112 0).bind fun x114=>(lE K a0 a1 K x114 0).bind fun x133=>vF K a0 a1 x133)
theorem gZ {K:Nat} {a0:aB} {a1:aB} {r:aB} (hF:bU K a0 a1=some r):Ct Tryz.prog 124 [.va (aB.e a0),.va (aB.e a1)] (.va (aB.e r)):=by
 unfold bU at hF
 refine aA Tryz.func124 rfl (by kernel_rfl) Tryz.ntmps124 rfl (fun w0 M0=>?_)
 refine aD (aK (cK rfl rfl trivial (fun b1=>?_)))
 refine cK rfl rfl trivial (fun b2=>?_)
 refine aL rfl tyZ40 (fun b3=>?_)
 refine go ?_ ?_
 refine dr [0,1,0,4,3,31] 6 0 ?_ (fun bs5 G4=>?_)
 refine go ?_ ?_
 refine cG hF (fun h6 hF=>?_) (fun h6 hF=>?_)
 ·refine go ?_ ?_
  refine aC hF rfl (fun h7 hF=>?_) (fun h7 hF=>?_)
  ·refine aD ?_
   obtain⟨v10,h11,hF⟩:=aO hF
   obtain⟨v12,h13,hF⟩:=aO hF
   obtain⟨v14,h15,hF⟩:=aX hF kI
   refine iG [0,1,0,4,15,0,32,96,224,0,512,1536,3584,8160,16383,32767] 15 1 [.v (.vc (pP (some b1) 0)),.v (.vc (pB a0.neg)),.v (.vc (pP (some b2) 0)),.v (.vc (pB a1.neg)),.v (.vc (pB (a0.neg != a1.neg))),.v (.vc (pS cI a0.d)),.v (.vc (pM (cI.e v10))),.v (.vc (pI .i64 v10)),.v (.vc (pI .u64 (IntKind.u64.wrap v10))),.v (.vc (pS cI a1.d)),.v (.vc (pM (cI.e v12))),.v (.vc (pI .i64 v12)),.v (.vc (pI .u64 (IntKind.u64.wrap v12))),.v (.vc (pI .u64 (wu ((IntKind.u64.wrap v10)*(IntKind.u64.wrap v12))))),.v (.va (aB.e v14))] aW ⟨d0 (jW (off:=0) (k:=0) rfl tyF40_0) zU1,d0 (iD 2 1 rfl rfl rfl rfl (.one tyO4)) zU1,d0 (jW (off:=0) (k:=0) rfl tyF40_0) zU1,d0 (iD 1 1 rfl rfl rfl rfl (.one tyO4)) zU1,⟨rfl,.run (L:=[0]) ⟨fun G8 A=>yO rfl Tryz.underlying4,trivial⟩ (fun G8=>zU2)⟩,d0 (aM (.inl rfl)) zU1,d0 (vZ rfl tyS22 h11) ⟨rfl,oJ _ _,trivial⟩,d0 (vH 1 rfl rfl (.one tyO3)) zU1,⟨rfl,.run (L:=[0]) ⟨fun G8 A=>aDi rfl ⟨_,Tryz.underlying3⟩ Tryz.underlying131,trivial⟩ (fun G8=>zU1)⟩,d0 (aM (.inl rfl)) zU1,d0 (vZ rfl tyS22 h13) ⟨rfl,oJ _ _,trivial⟩,d0 (vH 1 rfl rfl (.one tyO3)) zU1,⟨rfl,.run (L:=[0]) ⟨fun G8 A=>aDi rfl ⟨_,Tryz.underlying3⟩ Tryz.underlying131,trivial⟩ (fun G8=>zU1)⟩,d0 (aPy rfl) zU2,d0 (bD rfl h15 rfl) zU2,trivial⟩ (fun bs9 G8=>?_)
   exact bP
  obtain⟨v16,h17,x18,h19,hF⟩:=tY hF
  refine go ?_ ?_
  refine qG (C:=cI) rfl tyS22 rfl tyZ3 rfl h19 (fun b20=>?_)
  refine go ?_ ?_
  refine aI (aY (fun H E=>∃(x37:List Int),qN K a0 a1 x37=some r∧x37.length=x18.length∧H=[hO cI b20 x18.length 3 x18.length x37,⟨some b3,1,40,2,1,([pB false]++[pS cI ([]:List Int)])⟩,⟨some b2,1,40,2,1,(aB.e a1)⟩,⟨some b1,1,40,2,1,(aB.e a0)⟩]∧E=[(2,.vc (pP (some b1) 0)),(3,.vc (pP (some b2) 0)),(4,.vc (pP (some b3) 0)),(7,.vc (pO b20 x18.length x18.length))]) ?_ (fun Jj44=>?_))
  ·rintro _ _ ⟨x37,hF,q41,rfl,rfl⟩
   unfold qN at hF
   refine go ?_ ?_
   refine aH (yO rfl Tryz.underlying4) zU2 ?_
   refine fL ?_
   refine wI 0 [7,98] rfl q41 zU2 rfl ?_
   obtain⟨v45,h46,hF⟩:=aX hF jA
   exact bP
  obtain⟨x37',hL,hRl43⟩:=aO hF
  refine dW (fun k a w=>∃(x30:List Int),∃(x36:Int),f0 K a0 a1 k x30 x36=some x37'∧x30.length=x18.length∧hs _ [hO cI b20 x18.length 3 x18.length x30,⟨some b3,1,40,2,1,([pB false]++[pS cI ([]:List Int)])⟩,⟨some b2,1,40,2,1,(aB.e a1)⟩,⟨some b1,1,40,2,1,(aB.e a0)⟩] [(2,.vc (pP (some b1) 0)),(3,.vc (pP (some b2) 0)),(4,.vc (pP (some b3) 0)),(6,.vc (pS cI a1.d)),(7,.vc (pO b20 x18.length x18.length)),(47,.vc (pS cI a0.d)),(48,.vc (pI .i64 (a0.d.length:Int))),(49,.vc (pI .i64 x36))] a w) K (fun a w ⟨_,_,hF,_,_⟩=>by cases hF) (fun k a w ⟨x30,x36,hF,q34,hh⟩=>dV ?_ hh) (fun a w hh=>⟨x18,0,hL,rfl,gO [0,1,2,3] hh⟩)
  rw [f0.eq_2] at hF
  refine go ?_ ?_
  refine aC hF rfl (fun h47 hF=>?_) (fun h47 hF=>?_)
  ·refine go ?_ ?_
   refine aI ?_
   obtain⟨v48,h49,hF⟩:=aO hF
   refine go ?_ ?_
   refine aI (aY (fun H E=>∃(x66:List Int),∃(x72:Int),qM K a1 x36 (f0 K a0 a1 k) x66 x72=some x37'∧x66.length=x18.length∧H=[hO cI b20 x18.length 3 x18.length x66,⟨some b3,1,40,2,1,([pB false]++[pS cI ([]:List Int)])⟩,⟨some b2,1,40,2,1,(aB.e a1)⟩,⟨some b1,1,40,2,1,(aB.e a0)⟩]∧E=[(2,.vc (pP (some b1) 0)),(3,.vc (pP (some b2) 0)),(4,.vc (pP (some b3) 0)),(6,.vc (pS cI a1.d)),(7,.vc (pO b20 x18.length x18.length)),(8,.vc (pI .i64 x36)),(10,.vc (pI .i64 x72)),(47,.vc (pS cI a0.d)),(48,.vc (pI .i64 (a0.d.length:Int))),(49,.vc (pI .i64 x36))]) ?_ (fun Jj74=>?_))
   ·rintro _ _ ⟨x66,x72,hF,q70,rfl,rfl⟩
    unfold qM at hF
    obtain⟨v75,h76,v77,h78,x79,h80,v82,h83,hF⟩:=bn4 hF
    refine go ?_ ?_
    exact aF (fun a w hh=>⟨x79,v82,hF,(bE h80 q70),gO [0,1,2,3] hh⟩)
   obtain⟨⟨x66',x72'⟩,hL,hRl73⟩:=aO hF
   refine dW (fun k a w=>∃(x58:List Int),∃(x64:Int),∃(x65:Int),iF K a1 x36 v48 k x58 x64 x65=some (x66',x72')∧x58.length=x18.length∧hs _ [hO cI b20 x18.length 3 x18.length x58,⟨some b3,1,40,2,1,([pB false]++[pS cI ([]:List Int)])⟩,⟨some b2,1,40,2,1,(aB.e a1)⟩,⟨some b1,1,40,2,1,(aB.e a0)⟩] [(2,.vc (pP (some b1) 0)),(3,.vc (pP (some b2) 0)),(4,.vc (pP (some b3) 0)),(6,.vc (pS cI a1.d)),(7,.vc (pO b20 x18.length x18.length)),(8,.vc (pI .i64 x36)),(9,.vc (pI .i64 v48)),(10,.vc (pI .i64 x64)),(47,.vc (pS cI a0.d)),(48,.vc (pI .i64 (a0.d.length:Int))),(49,.vc (pI .i64 x36)),(54,.vc (pS cI a1.d)),(55,.vc (pI .i64 (a1.d.length:Int))),(56,.vc (pI .i64 x65))] a w) K (fun a w ⟨_,_,_,hF,_,_⟩=>by cases hF) (fun k a w ⟨x58,x64,x65,hF,q62,hh⟩=>dV ?_ hh) (fun a w hh=>⟨x30,0,0,hL,q34,gO [0,1,2,3] hh⟩)
   rw [iF.eq_2] at hF
   refine go ?_ ?_
   refine aC hF rfl (fun h84 hF=>?_) (fun h84 hF=>?_)
   ·refine go ?_ ?_
    refine aI ?_
    obtain⟨v85,h86,v87,h88,v89,h90,v91,h92,hF⟩:=bn4 hF
    obtain⟨v93,h94,v95,h96,v97,h98,hF⟩:=bn3 hF
    have hF:=qB h88 hF
    obtain⟨v101,h102,v103,h104,hF⟩:=tY hF
    have hF:=qB h90 hF
    obtain⟨x107,h108,v110,h111,hF⟩:=tY hF
    refine go ?_ ?_
    exact aF (fun a w hh=>⟨x107,v97,v110,hF,(bE h108 q62),gO [0,1,2,3] hh⟩)
   refine bI ?_
   obtain⟨rfl,rfl⟩:=sm2 hF
   exact p6 Jj74 ⟨x58,x64,hRl73,q62,rfl,rfl⟩ [0,1,2,3]
  refine bI ?_
  obtain rfl:=iR hF
  exact p6 Jj44 ⟨x30,hRl43,q34,rfl,rfl⟩ [0,1,2,3]
 refine go ?_ ?_
 refine uV rfl ?_
 obtain⟨v112,h113,x114,h115,hF⟩:=tY hF
 refine go ?_ ?_
 refine qG (C:=cI) rfl tyS22 rfl tyZ3 rfl h115 (fun b116=>?_)
 refine go ?_ ?_
 refine aI (aY (fun H E=>∃(x133:List Int),vF K a0 a1 x133=some r∧x133.length=x114.length∧H=[hO cI b116 x114.length 3 x114.length x133,⟨some b3,1,40,2,1,([pB false]++[pS cI ([]:List Int)])⟩,⟨some b2,1,40,2,1,(aB.e a1)⟩,⟨some b1,1,40,2,1,(aB.e a0)⟩]∧E=[(2,.vc (pP (some b1) 0)),(3,.vc (pP (some b2) 0)),(4,.vc (pP (some b3) 0)),(7,.vc (pO b116 x114.length x114.length))]) ?_ (fun Jj140=>?_))
 ·rintro _ _ ⟨x133,hF,q137,rfl,rfl⟩
  unfold vF at hF
  refine go ?_ ?_
  refine aH (yO rfl Tryz.underlying4) zU2 ?_
  refine fL ?_
  refine wI 0 [7,98] rfl q137 zU2 rfl ?_
  obtain⟨v141,h142,hF⟩:=aX hF jA
  exact bP
 obtain⟨x133',hL,hRl139⟩:=aO hF
 refine dW (fun k a w=>∃(x126:List Int),∃(x132:Int),lE K a0 a1 k x126 x132=some x133'∧x126.length=x114.length∧hs _ [hO cI b116 x114.length 3 x114.length x126,⟨some b3,1,40,2,1,([pB false]++[pS cI ([]:List Int)])⟩,⟨some b2,1,40,2,1,(aB.e a1)⟩,⟨some b1,1,40,2,1,(aB.e a0)⟩] [(2,.vc (pP (some b1) 0)),(3,.vc (pP (some b2) 0)),(4,.vc (pP (some b3) 0)),(6,.vc (pS cI a1.d)),(7,.vc (pO b116 x114.length x114.length)),(47,.vc (pS cI a0.d)),(48,.vc (pI .i64 (a0.d.length:Int))),(49,.vc (pI .i64 x132))] a w) K (fun a w ⟨_,_,hF,_,_⟩=>by cases hF) (fun k a w ⟨x126,x132,hF,q130,hh⟩=>dV ?_ hh) (fun a w hh=>⟨x114,0,hL,rfl,gO [0,1,2,3] hh⟩)
 rw [lE.eq_2] at hF
 refine go ?_ ?_
 refine aC hF rfl (fun h143 hF=>?_) (fun h143 hF=>?_)
 ·refine go ?_ ?_
  refine aI ?_
  obtain⟨v144,h145,hF⟩:=aO hF
  refine go ?_ ?_
  refine aI (aY (fun H E=>∃(x162:List Int),∃(x168:Int),sP K a1 x132 (lE K a0 a1 k) x162 x168=some x133'∧x162.length=x114.length∧H=[hO cI b116 x114.length 3 x114.length x162,⟨some b3,1,40,2,1,([pB false]++[pS cI ([]:List Int)])⟩,⟨some b2,1,40,2,1,(aB.e a1)⟩,⟨some b1,1,40,2,1,(aB.e a0)⟩]∧E=[(2,.vc (pP (some b1) 0)),(3,.vc (pP (some b2) 0)),(4,.vc (pP (some b3) 0)),(6,.vc (pS cI a1.d)),(7,.vc (pO b116 x114.length x114.length)),(8,.vc (pI .i64 x132)),(10,.vc (pI .i64 x168)),(47,.vc (pS cI a0.d)),(48,.vc (pI .i64 (a0.d.length:Int))),(49,.vc (pI .i64 x132))]) ?_ (fun Jj170=>?_))
  ·rintro _ _ ⟨x162,x168,hF,q166,rfl,rfl⟩
   unfold sP at hF
   obtain⟨v171,h172,v173,h174,x175,h176,v178,h179,hF⟩:=bn4 hF
   refine go ?_ ?_
   exact aF (fun a w hh=>⟨x175,v178,hF,(bE h176 q166),gO [0,1,2,3] hh⟩)
  obtain⟨⟨x162',x168'⟩,hL,hRl169⟩:=aO hF
  refine dW (fun k a w=>∃(x154:List Int),∃(x160:Int),∃(x161:Int),mT K a1 x132 v144 k x154 x160 x161=some (x162',x168')∧x154.length=x114.length∧hs _ [hO cI b116 x114.length 3 x114.length x154,⟨some b3,1,40,2,1,([pB false]++[pS cI ([]:List Int)])⟩,⟨some b2,1,40,2,1,(aB.e a1)⟩,⟨some b1,1,40,2,1,(aB.e a0)⟩] [(2,.vc (pP (some b1) 0)),(3,.vc (pP (some b2) 0)),(4,.vc (pP (some b3) 0)),(6,.vc (pS cI a1.d)),(7,.vc (pO b116 x114.length x114.length)),(8,.vc (pI .i64 x132)),(9,.vc (pI .i64 v144)),(10,.vc (pI .i64 x160)),(47,.vc (pS cI a0.d)),(48,.vc (pI .i64 (a0.d.length:Int))),(49,.vc (pI .i64 x132)),(54,.vc (pS cI a1.d)),(55,.vc (pI .i64 (a1.d.length:Int))),(56,.vc (pI .i64 x161))] a w) K (fun a w ⟨_,_,_,hF,_,_⟩=>by cases hF) (fun k a w ⟨x154,x160,x161,hF,q158,hh⟩=>dV ?_ hh) (fun a w hh=>⟨x126,0,0,hL,q130,gO [0,1,2,3] hh⟩)
  rw [mT.eq_2] at hF
  refine go ?_ ?_
  refine aC hF rfl (fun h180 hF=>?_) (fun h180 hF=>?_)
  ·refine go ?_ ?_
   refine aI ?_
   obtain⟨v181,h182,v183,h184,v185,h186,v187,h188,hF⟩:=bn4 hF
   obtain⟨v189,h190,v191,h192,v193,h194,hF⟩:=bn3 hF
   have hF:=qB h184 hF
   obtain⟨v197,h198,v199,h200,hF⟩:=tY hF
   have hF:=qB h186 hF
   obtain⟨x203,h204,v206,h207,hF⟩:=tY hF
   refine go ?_ ?_
   exact aF (fun a w hh=>⟨x203,v193,v206,hF,(bE h204 q158),gO [0,1,2,3] hh⟩)
  refine bI ?_
  obtain⟨rfl,rfl⟩:=sm2 hF
  exact p6 Jj170 ⟨x154,x160,hRl169,q158,rfl,rfl⟩ [0,1,2,3]
 refine bI ?_
 obtain rfl:=iR hF
 exact p6 Jj140 ⟨x126,hRl139,q130,rfl,rfl⟩ [0,1,2,3]
def o5 (a0:List Int):Option (Int×Bool):=
 bif((a0.length:Int)==0) then(some (0,true)) else(bif((a0.length:Int)==1) then((bO a0 0).bind fun v3=>some (v3,true)) else(bif((a0.length:Int)==2) then((bO a0 1).bind fun v8=>(aR (v8*1000000000)).bind fun v10=>(bO a0 0).bind fun v12=>(aR (v10+v12)).bind fun v14=>some (v14,true)) else(some (0,false))))
theorem vM {a0:List Int} {r:Int×Bool} (hF:o5 a0=some r):Ct Tryz.prog 161 [.vc (pS cI a0)] (.t2 (.vc (pI .i64 r.1)) (.vc (pB r.2))):=by
 unfold o5 at hF
 refine aA Tryz.func161 rfl (by kernel_rfl) Tryz.ntmps161 rfl (fun w0 M0=>?_)
 refine go ?_ ?_
 refine aI (go ?_ ?_)
 refine aC hF rfl (fun h1 hF=>?_) (fun h1 hF=>?_)
 ·exact bP
 refine go ?_ ?_
 refine aC hF rfl (fun h2 hF=>?_) (fun h2 hF=>?_)
 ·obtain⟨v3,h4,hF⟩:=aO hF
  exact bP
 refine go ?_ ?_
 refine aC hF rfl (fun h5 hF=>?_) (fun h5 hF=>?_)
 ·refine aD ?_
  obtain⟨v8,h9,hF⟩:=aO hF
  obtain⟨v10,h11,hF⟩:=aO hF
  obtain⟨v12,h13,hF⟩:=aO hF
  obtain⟨v14,h15,hF⟩:=aO hF
  refine dr [0,1,3,7,0,16,48,127,255,511] 10 0 ?_ (fun bs7 G6=>?_)
  refine aU (aJ ?_)
  exact bP
 exact bP
def rQ (K:Nat) (x24:List Int) (x30:Int):Option ((List Int)×Int):=
 some (x24,x30)
def kH (K:Nat) (a0:List Int) (a1:Int):Nat→(List Int)→Int→Int→Option ((List Int)×Int)
 |0,_,_,_=>none
 |k+1,x16,x22,x23=>bif(decide (0≤x23)) then((aR (x22*1000000000)).bind fun v34=>(bO a0 x23).bind fun v36=>(aR (v34+v36)).bind fun v38=>(zL v38 a1).bind fun v42=>(zP v38 a1).bind fun v44=>(bO x16 x23).bind fun v46=>(pA x16 x23 v42).bind fun x48=>(aR (x23-1)).bind fun v52=>kH K a0 a1 k x48 v44 v52) else(some (x16,x22))
def qJ (K:Nat) (a0:List Int) (a1:Int):Option ((List Int)×Int):=
 (y4 (a0.length:Int) 0).bind fun x1=>(aR ((a0.length:Int)-1)).bind fun v6=>(kH K a0 a1 K x1 0 v6).bind fun(x24,x30)=>rQ K x24 x30
theorem z7 {K:Nat} {a0:List Int} {a1:Int} {r:(List Int)×Int} (hF:qJ K a0 a1=some r):Ct Tryz.prog 171 [.vc (pS cI a0),.vc (pI .i64 a1)] (.t2 (.vc (pS cI r.1)) (.vc (pI .i64 r.2))):=by
 unfold qJ at hF
 refine aA Tryz.func171 rfl (by kernel_rfl) Tryz.ntmps171 rfl (fun w0 M0=>?_)
 refine aD (aK (aH (aM (.inr rfl)) ⟨eM cI,trivial⟩ ?_))
 obtain⟨x1,h2,hF⟩:=aO hF
 refine go ?_ ?_
 refine qG (C:=cI) rfl tyS22 rfl tyZ3 rfl h2 (fun b3=>?_)
 obtain⟨v6,h7,hF⟩:=aO hF
 refine go ?_ ?_
 refine aI (aY (fun H E=>∃(x24:List Int),∃(x30:Int),rQ K x24 x30=some r∧x24.length=x1.length∧H=[hO cI b3 x1.length 3 x1.length x24]∧E=[(6,.vc (pO b3 x1.length x1.length)),(7,.vc (pI .i64 x30))]) ?_ (fun Jj32=>?_))
 ·rintro _ _ ⟨x24,x30,hF,q28,rfl,rfl⟩
  unfold rQ at hF
  refine go ?_ ?_
  refine fX (fY (mL 0 [4,6,36] rfl q28 ⟨rfl,rfl,rfl,trivial⟩ rfl ?_))
  obtain rfl:=iR hF
  exact gW (.inl rfl) Tryz.results171 (.tmp rfl (.tmp rfl .nil)) rfl rfl
 obtain⟨⟨x24',x30'⟩,hL,hRl31⟩:=aO hF
 refine dW (fun k a w=>∃(x16:List Int),∃(x22:Int),∃(x23:Int),kH K a0 a1 k x16 x22 x23=some (x24',x30')∧x16.length=x1.length∧hs _ [hO cI b3 x1.length 3 x1.length x16] [(0,.vc (pS cI a0)),(1,.vc (pI .i64 a1)),(6,.vc (pO b3 x1.length x1.length)),(7,.vc (pI .i64 x22)),(8,.vc (pI .i64 x23))] a w) K (fun a w ⟨_,_,_,hF,_,_⟩=>by cases hF) (fun k a w ⟨x16,x22,x23,hF,q20,hh⟩=>dV ?_ hh) (fun a w hh=>⟨x1,0,v6,hL,rfl,gO [0] hh⟩)
 rw [kH.eq_2] at hF
 refine go ?_ ?_
 refine aC hF rfl (fun h33 hF=>?_) (fun h33 hF=>?_)
 ·refine go ?_ ?_
  refine aI ?_
  obtain⟨v34,h35,v36,h37,v38,h39,v42,h43,hF⟩:=bn4 hF
  obtain⟨v44,h45,v46,h47,x48,h49,hF⟩:=bn3 hF
  refine go ?_ ?_
  refine tQ (HsM [(0,fun G40=>[hO cI b3 x1.length 3 x1.length x16]),(1,fun G40=>[hO cI b3 x1.length 3 x1.length x48])]) [9] [0,0,0,0,12,0,0,96,31,287,1023] 11 0 [.v (.vc (pO b3 x1.length x1.length)),.v (.vc (pI .i64 x23)),.v (.vc (pI .i64 v38)),.v (.vc (pI .i64 a1)),.v (.vc (pI .i64 v42)),.v (.vc (pI .i64 v38)),.v (.vc (pI .i64 a1)),.v (.vc (pI .i64 v44)),.v (.vc (pE b3 x23 cI.n 0)),.g (fun _ _=>.any),.v (.vc (pI .i64 v44))] aW ⟨d1 0 (aM (.inl rfl)) zU1,d1 0 (aM (.inl rfl)) zU1,d1 0 (aM (.inl rfl)) zU1,d1 0 (aM (.inl rfl)) zU1,d1 0 (aKa rfl h43) zU2,⟨rfl,.run (L:=[0,1]) ⟨fun G40 A=>aM (.inl rfl),fun G40 A=>aM (.inl rfl),trivial⟩ (fun G40=>zU1)⟩,⟨rfl,.run (L:=[0,1]) ⟨fun G40 A=>aM (.inl rfl),fun G40 A=>aM (.inl rfl),trivial⟩ (fun G40=>zU1)⟩,⟨rfl,.run (L:=[0,1]) ⟨fun G40 A=>aF3 rfl h45,fun G40 A=>aF3 rfl h45,trivial⟩ (fun G40=>zU2)⟩,d1 0 (gN (C:=cI) 0 rfl tyS22 rfl q20 (aG h47).1 (aG h47).2.1) zU2,⟨rfl,.hvy [0] ⟨fun G40 A=>aDN (wB 0 rfl rfl h47 h49 tyO3.s),trivial⟩ (fun G40=>zU2)⟩,d1 1 (aM (.inr rfl)) zU1,trivial⟩ (fun bs41 G40=>?_)
  obtain⟨v52,h53,hF⟩:=aO hF
  refine go ?_ ?_
  exact aF (fun a w hh=>⟨x48,v44,v52,hF,(bE h49 q20),gO [0] hh⟩)
 refine bI ?_
 obtain⟨rfl,rfl⟩:=sm2 hF
 exact p6 Jj32 ⟨x16,x22,hRl31,q20,rfl,rfl⟩ [0]
def qQ (K:Nat) (a0:List Int) (x26:List Int) (x32:Int):Option (List Int):=
 (bO x26 (a0.length:Int)).bind fun v35=>(pA x26 (a0.length:Int) x32).bind fun x37=>some x37
def jY (K:Nat) (a0:List Int) (a1:Int):Nat→(List Int)→Int→Int→Option ((List Int)×Int)
 |0,_,_,_=>none
 |k+1,x18,x24,x25=>bif(decide (x25<(a0.length:Int))) then((bO a0 x25).bind fun v41=>(aR (v41*a1)).bind fun v43=>(aR (v43+x24)).bind fun v45=>(zP v45 1000000000).bind fun v47=>(zL v45 1000000000).bind fun v49=>(bO x18 x25).bind fun v51=>(pA x18 x25 v47).bind fun x53=>(aR (x25+1)).bind fun v56=>jY K a0 a1 k x53 v49 v56) else(some (x18,x24))
def mQ (K:Nat) (a0:List Int) (a1:Int):Option (List Int):=
 (aR ((a0.length:Int)+1)).bind fun v3=>(y4 v3 0).bind fun x5=>(jY K a0 a1 K x5 0 0).bind fun(x26,x32)=>qQ K a0 x26 x32
theorem yG {K:Nat} {a0:List Int} {a1:Int} {r:List Int} (hF:mQ K a0 a1=some r):CtO Tryz.prog 175 [] [.vc (pS cI a0),.vc (pI .i64 a1)] (fun Ho q=>∃b60 c61 n59,r.length=n59∧Ho=[hO cI b60 c61 3 n59 r]∧q=.vc (pO b60 n59 c61)):=by
 unfold mQ at hF
 refine aA Tryz.func175 rfl (by kernel_rfl) Tryz.ntmps175 rfl (fun w0 M0=>?_)
 refine aD (aK (pN cI 3 rfl ?_))
 obtain⟨v3,h4,x5,h6,hF⟩:=tY hF
 refine go ?_ ?_
 refine qG (C:=cI) rfl tyS22 rfl tyZ3 rfl h6 (fun b7=>?_)
 refine go ?_ ?_
 refine aI (aY (fun H E=>∃(x26:List Int),∃(x32:Int),qQ K a0 x26 x32=some r∧x26.length=x5.length∧H=[hO cI b7 x5.length 3 x5.length x26]∧E=[(0,.vc (pS cI a0)),(5,.vc (pO b7 x5.length x5.length)),(6,.vc (pI .i64 x32))]) ?_ (fun Jj34=>?_))
 ·rintro _ _ ⟨x26,x32,hF,q30,rfl,rfl⟩
  unfold qQ at hF
  obtain⟨v35,h36,x37,h38,hF⟩:=tY hF
  refine go ?_ ?_
  refine fX (fY ?_)
  obtain rfl:=iR hF
  exact aDp (.inl rfl) Tryz.results175 (.tmp rfl .nil) rfl [0] rfl (by decide) ⟨b7,x5.length,x5.length,(bE h38 q30),rfl,rfl⟩
 obtain⟨⟨x26',x32'⟩,hL,hRl33⟩:=aO hF
 refine dW (fun k a w=>∃(x18:List Int),∃(x24:Int),∃(x25:Int),jY K a0 a1 k x18 x24 x25=some (x26',x32')∧x18.length=x5.length∧hs _ [hO cI b7 x5.length 3 x5.length x18] [(0,.vc (pS cI a0)),(1,.vc (pI .i64 a1)),(5,.vc (pO b7 x5.length x5.length)),(6,.vc (pI .i64 x24)),(14,.vc (pS cI a0)),(15,.vc (pI .i64 (a0.length:Int))),(16,.vc (pI .i64 x25))] a w) K (fun a w ⟨_,_,_,hF,_,_⟩=>by cases hF) (fun k a w ⟨x18,x24,x25,hF,q22,hh⟩=>dV ?_ hh) (fun a w hh=>⟨x5,0,0,hL,rfl,gO [0] hh⟩)
 rw [jY.eq_2] at hF
 refine go ?_ ?_
 refine aC hF rfl (fun h40 hF=>?_) (fun h40 hF=>?_)
 ·refine go ?_ ?_
  refine aI ?_
  obtain⟨v41,h42,v43,h44,v45,h46,v47,h48,hF⟩:=bn4 hF
  obtain⟨v49,h50,v51,h52,x53,h54,v56,h57,hF⟩:=bn4 hF
  refine go ?_ ?_
  exact aF (fun a w hh=>⟨x53,v49,v56,hF,(bE h54 q22),gO [0] hh⟩)
 refine bI ?_
 obtain⟨rfl,rfl⟩:=sm2 hF
 exact p6 Jj34 ⟨x18,x24,hRl33,q22,rfl,rfl⟩ [0]
theorem aDc {K:Nat} {a0:List Int} {a1:Int} {r:List Int} (hF:mQ K a0 a1=some r):Ct Tryz.prog 175 [.vc (pS cI a0),.vc (pI .i64 a1)] (.vc (pS cI r)):=aLc (yG hF)
def sU (K:Nat) (a1:List Int) (v7:Int) (x60:List Int) (x66:List Int):Option ((List Int)×(List Int)):=
 (slL x66 0 (a1.length:Int)).bind fun x74=>(qJ K x74 v7).bind fun v76=>some (x60,v76.1)
def rK (K:Nat) (a1:List Int) (x47:List Int) (x59:Int) (v157:Int) (recl72:(List Int)→(List Int)→Int→Option ((List Int)×(List Int))) (x175:List Int) (x181:Int):Option ((List Int)×(List Int)):=
 (aR (x59+(a1.length:Int))).bind fun v184=>(bO x175 v184).bind fun v186=>(aR (v186+x181)).bind fun v188=>(bO x175 v184).bind fun v190=>(pA x175 v184 v188).bind fun x192=>(bO x47 x59).bind fun v195=>(pA x47 x59 v157).bind fun x197=>(aR (x59-1)).bind fun v200=>recl72 x197 x192 v200
def jD (K:Nat) (a1:List Int) (x17:List Int) (x59:Int):Nat→(List Int)→Int→Int→Option ((List Int)×Int)
 |0,_,_,_=>none
 |k+1,x167,x173,x174=>bif(decide (x174<(a1.length:Int))) then((aR (x174+x59)).bind fun v205=>(bO x167 v205).bind fun v207=>(bO x17 x174).bind fun v209=>(aR (v207+v209)).bind fun v211=>(aR (v211+x173)).bind fun v213=>(aR (x174+x59)).bind fun v215=>(zP v213 1000000000).bind fun v217=>(zL v213 1000000000).bind fun v219=>(bO x167 v215).bind fun v221=>(pA x167 v215 v217).bind fun x223=>(aR (x174+1)).bind fun v226=>jD K a1 x17 x59 k x223 v219 v226) else(some (x167,x173))
def oL (K:Nat) (a1:List Int) (x17:List Int) (x47:List Int) (x59:Int) (x113:Int) (recl72:(List Int)→(List Int)→Int→Option ((List Int)×(List Int))) (x132:List Int) (x138:Int):Option ((List Int)×(List Int)):=
 (aR (x59+(a1.length:Int))).bind fun v141=>(bO x132 v141).bind fun v143=>(aR (v143-x138)).bind fun v145=>(bO x132 v141).bind fun v147=>(pA x132 v141 v145).bind fun x149=>(aR (x59+(a1.length:Int))).bind fun v152=>(bO x149 v152).bind fun v154=>bif(decide (v154<0)) then((aR (x113-1)).bind fun v157=>(jD K a1 x17 x59 K x149 0 0).bind fun(x175,x181)=>rK K a1 x47 x59 v157 recl72 x175 x181) else((bO x47 x59).bind fun v228=>(pA x47 x59 x113).bind fun x230=>(aR (x59-1)).bind fun v233=>recl72 x230 x149 v233)
def fP (K:Nat) (a1:List Int) (x17:List Int) (x59:Int) (x113:Int):Nat→(List Int)→Int→Int→Option ((List Int)×Int)
 |0,_,_,_=>none
 |k+1,x124,x130,x131=>bif(decide (x131<(a1.length:Int))) then((aR (x131+x59)).bind fun v238=>(bO x124 v238).bind fun v240=>(bO x17 x131).bind fun v242=>(aR (x113*v242)).bind fun v244=>(aR (v240-v244)).bind fun v246=>(aR (v246-x130)).bind fun v248=>bif(decide (v248<0)) then((aR (-v248)).bind fun v251=>(aR (v251+1000000000)).bind fun v253=>(aR (v253-1)).bind fun v255=>(zL v255 1000000000).bind fun v257=>(aR (v257*1000000000)).bind fun v259=>(aR (v248+v259)).bind fun v261=>(aR (x131+x59)).bind fun v263=>(bO x124 v263).bind fun v265=>(pA x124 v263 v261).bind fun x267=>(aR (x131+1)).bind fun v270=>fP K a1 x17 x59 x113 k x267 v257 v270) else((aR (x131+x59)).bind fun v272=>(bO x124 v272).bind fun v274=>(pA x124 v272 v248).bind fun x276=>(aR (x131+1)).bind fun v279=>fP K a1 x17 x59 x113 k x276 0 v279)) else(some (x124,x130))
def oN (K:Nat) (a1:List Int) (x17:List Int) (x47:List Int) (x53:List Int) (x59:Int) (recl72:(List Int)→(List Int)→Int→Option ((List Int)×(List Int))) (x113:Int):Option ((List Int)×(List Int)):=
 (fP K a1 x17 x59 x113 K x53 0 0).bind fun(x132,x138)=>oL K a1 x17 x47 x59 x113 recl72 x132 x138
def eE (K:Nat) (a1:List Int) (x17:List Int) (x53:List Int) (x59:Int):Nat→Int→Int→Option Int
 |0,_,_=>none
 |k+1,x111,x112=>bif(decide (1000000000≤x111)) then((aR (x111-1)).bind fun v284=>(aR ((a1.length:Int)-1)).bind fun v286=>(bO x17 v286).bind fun v288=>(aR (x112+v288)).bind fun v290=>bif(decide (1000000000≤v290)) then(some v284) else(eE K a1 x17 x53 x59 k v284 v290)) else((aR ((a1.length:Int)-2)).bind fun v293=>(bO x17 v293).bind fun v295=>(aR (x111*v295)).bind fun v297=>(aR (x112*1000000000)).bind fun v299=>(aR (x59+(a1.length:Int))).bind fun v301=>(aR (v301-2)).bind fun v303=>(bO x53 v303).bind fun v305=>(aR (v299+v305)).bind fun v307=>bif(decide (v307<v297)) then((aR (x111-1)).bind fun v310=>(aR ((a1.length:Int)-1)).bind fun v312=>(bO x17 v312).bind fun v314=>(aR (x112+v314)).bind fun v316=>bif(decide (1000000000≤v316)) then(some v310) else(eE K a1 x17 x53 x59 k v310 v316)) else(some x111))
def eO (K:Nat) (a1:List Int) (x17:List Int):Nat→(List Int)→(List Int)→Int→Option ((List Int)×(List Int))
 |0,_,_,_=>none
 |k+1,x47,x53,x59=>bif(decide (0≤x59)) then((aR (x59+(a1.length:Int))).bind fun v81=>(bO x53 v81).bind fun v83=>(aR (v83*1000000000)).bind fun v85=>(aR (x59+(a1.length:Int))).bind fun v87=>(aR (v87-1)).bind fun v89=>(bO x53 v89).bind fun v91=>(aR (v85+v91)).bind fun v93=>(aR ((a1.length:Int)-1)).bind fun v97=>(bO x17 v97).bind fun v99=>(zL v93 v99).bind fun v101=>(aR ((a1.length:Int)-1)).bind fun v103=>(bO x17 v103).bind fun v105=>(zP v93 v105).bind fun v107=>(eE K a1 x17 x53 x59 K v101 v107).bind fun x113=>oN K a1 x17 x47 x53 x59 (eO K a1 x17 k) x113) else(some (x47,x53))
def t9 (K:Nat) (a0:List Int) (a1:List Int):Option ((List Int)×(List Int)):=
 (aR ((a1.length:Int)-1)).bind fun v1=>(bO a1 v1).bind fun v3=>(aR (v3+1)).bind fun v5=>(zL 1000000000 v5).bind fun v7=>(mQ K a0 v7).bind fun v11=>(mQ K a1 v7).bind fun v15=>(slL v15 0 (a1.length:Int)).bind fun x17=>(aR ((a0.length:Int)-(a1.length:Int))).bind fun v23=>(aR (v23+1)).bind fun v25=>(y4 v25 0).bind fun x27=>(aR ((a0.length:Int)-(a1.length:Int))).bind fun v32=>(eO K a1 x17 K x27 v11 v32).bind fun(x60,x66)=>sU K a1 v7 x60 x66
theorem aDS {K:Nat} {a0:List Int} {a1:List Int} {r:(List Int)×(List Int)} (hF:t9 K a0 a1=some r):Ct Tryz.prog 172 [.vc (pS cI a0),.vc (pS cI a1)] (.t2 (.vc (pS cI r.1)) (.vc (pS cI r.2))):=by
 unfold t9 at hF
 refine aA Tryz.func172 rfl (by kernel_rfl) Tryz.ntmps172 rfl (fun w0 M0=>?_)
 refine aD (aK (aH (aM (.inr rfl)) ⟨eM cI,trivial⟩ ?_))
 refine aH (aM (.inr rfl)) ⟨eM cI,trivial⟩ ?_
 obtain⟨v1,h2,v3,h4,v5,h6,v7,h8,hF⟩:=bn4 hF
 obtain⟨v11,h12,hF⟩:=aO hF
 obtain⟨v15,h16,hF⟩:=aX hF aDc
 obtain⟨x17,h18,hF⟩:=aO hF
 refine go ?_ ?_
 refine tQ (HsM [(0,fun G9=>[]),(1,fun G9=>[hO cI ((G9 2).1) ((G9 2).2) 3 v11.length v11]),(3,fun G9=>[hO cI ((G9 9).1) ((G9 9).2) 3 v11.length v11])]) [2,9] [0,0,3,0,0,31,0,64,255,63,1023] 11 0 [.v (.vc (pS cI a0)),.v (.vc (pI .i64 v7)),.g (fun b c=>.vc (pO b v11.length c)),.v (.vc (pS cI a1)),.v (.vc (pI .i64 v7)),.v (.vc (pS cI v15)),.v (.vc (pS cI a1)),.v (.vc (pI .i64 (a1.length:Int))),.v (.vc (pS cI x17)),.g (fun b c=>.vc (pO b v11.length c)),.v (.vc (pS cI x17))] aW ⟨d1 0 (aM (.inl rfl)) zU1,d1 0 (aM (.inl rfl)) zU1,⟨rfl,.hvy [0] ⟨fun G9 A=>aNw rfl (yG h12) rfl,trivial⟩ (fun G9=>zU2)⟩,⟨rfl,.run (L:=[0,1]) ⟨fun G9 A=>aM (.inl rfl),fun G9 A=>aM (.inl rfl),trivial⟩ (fun G9=>zU1)⟩,⟨rfl,.run (L:=[0,1]) ⟨fun G9 A=>aM (.inl rfl),fun G9 A=>aM (.inl rfl),trivial⟩ (fun G9=>zU1)⟩,d1 1 (bD rfl h16 rfl) zU2,⟨rfl,.run (L:=[0,1,3]) ⟨fun G9 A=>aM (.inl rfl),fun G9 A=>aM (.inl rfl),fun G9 A=>aM (.inl rfl),trivial⟩ (fun G9=>zU1)⟩,⟨rfl,.run (L:=[0,1,3]) ⟨fun G9 A=>aGA rfl tyS22,fun G9 A=>aGA rfl tyS22,fun G9 A=>aGA rfl tyS22,trivial⟩ (fun G9=>zU1)⟩,⟨rfl,.run (L:=[1,3]) ⟨fun G9 A=>aDE rfl tyS22 h18,fun G9 A=>aDE rfl tyS22 h18,trivial⟩ (fun G9=>zU2)⟩,⟨rfl,.hvy [1] ⟨fun G9 A=>aJJ ((G9 2).1) ((G9 2).2) (aM (.inr rfl)),trivial⟩ (fun G9=>zU1)⟩,d1 3 (aM (.inr rfl)) zU1,trivial⟩ (fun bs10 G9=>?_)
 obtain⟨v23,h24,v25,h26,x27,h28,hF⟩:=bn3 hF
 refine go ?_ ?_
 refine qG (C:=cI) rfl tyS22 rfl tyZ3 rfl h28 (fun b29=>?_)
 have hF:=qB h24 hF
 refine go ?_ ?_
 refine aI (aY (fun H E=>∃(x60:List Int),∃(x66:List Int),sU K a1 v7 x60 x66=some r∧x60.length=x27.length∧x66.length=v11.length∧H=[hO cI b29 x27.length 3 x27.length x60,hO cI ((G9 9).1) ((G9 9).2) 3 v11.length x66]∧E=[(6,.vc (pI .i64 v7)),(7,.vc (pO ((G9 9).1) v11.length ((G9 9).2))),(9,.vc (pI .i64 (a1.length:Int))),(10,.vc (pO b29 x27.length x27.length))]) ?_ (fun Jj73=>?_))
 ·rintro _ _ ⟨x60,x66,hF,q64,q70,rfl,rfl⟩
  unfold sU at hF
  refine aJ (aD (aK (fL ?_)))
  refine fL ?_
  refine wI 1 [7,213] rfl q70 zU2 rfl ?_
  obtain⟨x74,h75,hF⟩:=aO hF
  obtain⟨v76,h77,hF⟩:=aX hF z7
  refine go ?_ ?_
  refine fX (fY (mL 0 [4,10,220] rfl q64 ⟨rfl,rfl,rfl,trivial⟩ rfl ?_))
  obtain rfl:=iR hF
  exact gW (.inl rfl) Tryz.results172 (.tmp rfl (.tmp rfl .nil)) rfl rfl
 obtain⟨⟨x60',x66'⟩,hL,hRl72⟩:=aO hF
 refine dW (fun k a w=>∃(x47:List Int),∃(x53:List Int),∃(x59:Int),eO K a1 x17 k x47 x53 x59=some (x60',x66')∧x47.length=x27.length∧x53.length=v11.length∧hs _ [hO cI b29 x27.length 3 x27.length x47,hO cI ((G9 9).1) ((G9 9).2) 3 v11.length x53] [(6,.vc (pI .i64 v7)),(7,.vc (pO ((G9 9).1) v11.length ((G9 9).2))),(8,.vc (pS cI x17)),(9,.vc (pI .i64 (a1.length:Int))),(10,.vc (pO b29 x27.length x27.length)),(11,.vc (pI .i64 x59))] a w) K (fun a w ⟨_,_,_,hF,_,_,_⟩=>by cases hF) (fun k a w ⟨x47,x53,x59,hF,q51,q57,hh⟩=>dV ?_ hh) (fun a w hh=>⟨x27,v11,v23,hL,rfl,rfl,gO [0,1] hh⟩)
 rw [eO.eq_2] at hF
 refine go ?_ ?_
 refine aC hF rfl (fun h78 hF=>?_) (fun h78 hF=>?_)
 ·refine go ?_ ?_
  refine aI (aJ3 (aD ?_))
  obtain⟨v81,h82,hF⟩:=aO hF
  obtain⟨v83,h84,hF⟩:=aO hF
  obtain⟨v85,h86,hF⟩:=aO hF
  have hF:=qB h82 hF
  obtain⟨v89,h90,hF⟩:=aO hF
  obtain⟨v91,h92,hF⟩:=aO hF
  obtain⟨v93,h94,hF⟩:=aO hF
  refine dr [0,0,0,6,15,31,63,0,0,0,768,1792,3968,8064,16383,32767] 16 0 ?_ (fun bs80 G79=>?_)
  have hF:=qB h2 hF
  obtain⟨v99,h100,v101,h102,hF⟩:=tY hF
  have hF:=qB h2 hF
  have hF:=qB h100 hF
  obtain⟨v107,h108,hF⟩:=aO hF
  refine go ?_ ?_
  refine dr [0,0,0,4,14,30,63,0,0,0,512,1792,3840,8064,127,32767] 16 0 ?_ (fun bs96 G95=>?_)
  refine go ?_ ?_
  refine aI (aY (fun H E=>∃(x113:Int),oN K a1 x17 x47 x53 x59 (eO K a1 x17 k) x113=some (x60',x66')∧H=[hO cI b29 x27.length 3 x27.length x47,hO cI ((G9 9).1) ((G9 9).2) 3 v11.length x53]∧E=[(6,.vc (pI .i64 v7)),(7,.vc (pO ((G9 9).1) v11.length ((G9 9).2))),(8,.vc (pS cI x17)),(9,.vc (pI .i64 (a1.length:Int))),(10,.vc (pO b29 x27.length x27.length)),(11,.vc (pI .i64 x59)),(13,.vc (pI .i64 x113))]) ?_ (fun Jj115=>?_))
  ·rintro _ _ ⟨x113,hF,rfl,rfl⟩
   unfold oN at hF
   refine go ?_ ?_
   refine aI (aY (fun H E=>∃(x132:List Int),∃(x138:Int),oL K a1 x17 x47 x59 x113 (eO K a1 x17 k) x132 x138=some (x60',x66')∧x132.length=v11.length∧H=[hO cI b29 x27.length 3 x27.length x47,hO cI ((G9 9).1) ((G9 9).2) 3 v11.length x132]∧E=[(6,.vc (pI .i64 v7)),(7,.vc (pO ((G9 9).1) v11.length ((G9 9).2))),(8,.vc (pS cI x17)),(9,.vc (pI .i64 (a1.length:Int))),(10,.vc (pO b29 x27.length x27.length)),(11,.vc (pI .i64 x59)),(13,.vc (pI .i64 x113)),(15,.vc (pI .i64 x138))]) ?_ (fun Jj140=>?_))
   ·rintro _ _ ⟨x132,x138,hF,q136,rfl,rfl⟩
    unfold oL at hF
    have hF:=qB h82 hF
    obtain⟨v143,h144,v145,h146,hF⟩:=tY hF
    have hF:=qB h144 hF
    obtain⟨x149,h150,hF⟩:=aO hF
    have hF:=qB h82 hF
    obtain⟨v154,h155,hF⟩:=aO hF
    refine go ?_ ?_
    refine aC hF rfl (fun h156 hF=>?_) (fun h156 hF=>?_)
    ·obtain⟨v157,h158,hF⟩:=aO hF
     refine go ?_ ?_
     refine aI (aY (fun H E=>∃(x175:List Int),∃(x181:Int),rK K a1 x47 x59 v157 (eO K a1 x17 k) x175 x181=some (x60',x66')∧x175.length=v11.length∧H=[hO cI b29 x27.length 3 x27.length x47,hO cI ((G9 9).1) ((G9 9).2) 3 v11.length x175]∧E=[(6,.vc (pI .i64 v7)),(7,.vc (pO ((G9 9).1) v11.length ((G9 9).2))),(8,.vc (pS cI x17)),(9,.vc (pI .i64 (a1.length:Int))),(10,.vc (pO b29 x27.length x27.length)),(11,.vc (pI .i64 x59)),(13,.vc (pI .i64 v157)),(15,.vc (pI .i64 x181))]) ?_ (fun Jj183=>?_))
     ·rintro _ _ ⟨x175,x181,hF,q179,rfl,rfl⟩
      unfold rK at hF
      have hF:=qB h82 hF
      obtain⟨v186,h187,v188,h189,hF⟩:=tY hF
      have hF:=qB h187 hF
      obtain⟨x192,h193,v195,h196,x197,h198,v200,h201,hF⟩:=bn4 hF
      refine go ?_ ?_
      exact aF (fun a w hh=>⟨x197,x192,v200,hF,(bE h198 q51),(bE h193 q179),gO [0,1] hh⟩)
     obtain⟨⟨x175',x181'⟩,hL,hRl182⟩:=aO hF
     refine dW (fun k a w=>∃(x167:List Int),∃(x173:Int),∃(x174:Int),jD K a1 x17 x59 k x167 x173 x174=some (x175',x181')∧x167.length=v11.length∧hs _ [hO cI b29 x27.length 3 x27.length x47,hO cI ((G9 9).1) ((G9 9).2) 3 v11.length x167] [(6,.vc (pI .i64 v7)),(7,.vc (pO ((G9 9).1) v11.length ((G9 9).2))),(8,.vc (pS cI x17)),(9,.vc (pI .i64 (a1.length:Int))),(10,.vc (pO b29 x27.length x27.length)),(11,.vc (pI .i64 x59)),(13,.vc (pI .i64 v157)),(15,.vc (pI .i64 x173)),(172,.vc (pI .i64 (a1.length:Int))),(173,.vc (pI .i64 x174))] a w) K (fun a w ⟨_,_,_,hF,_,_⟩=>by cases hF) (fun k a w ⟨x167,x173,x174,hF,q171,hh⟩=>dV ?_ hh) (fun a w hh=>⟨x149,0,0,hL,(bE h150 q136),gO [0,1] hh⟩)
     rw [jD.eq_2] at hF
     refine go ?_ ?_
     refine aC hF rfl (fun h202 hF=>?_) (fun h202 hF=>?_)
     ·refine go ?_ ?_
      refine aI ?_
      obtain⟨v205,h206,v207,h208,v209,h210,v211,h212,hF⟩:=bn4 hF
      obtain⟨v213,h214,hF⟩:=aO hF
      refine go ?_ ?_
      refine dr [0,0,0,6,15,31,0,0,192,448,1023,0,4095,8191] 14 0 ?_ (fun bs204 G203=>?_)
      have hF:=qB h206 hF
      obtain⟨v217,h218,v219,h220,hF⟩:=tY hF
      have hF:=qB h208 hF
      obtain⟨x223,h224,v226,h227,hF⟩:=tY hF
      refine go ?_ ?_
      exact aF (fun a w hh=>⟨x223,v219,v226,hF,(bE h224 q171),gO [0,1] hh⟩)
     refine bI ?_
     obtain⟨rfl,rfl⟩:=sm2 hF
     exact p6 Jj183 ⟨x167,x173,hRl182,q171,rfl,rfl⟩ [0,1]
    obtain⟨v228,h229,x230,h231,v233,h234,hF⟩:=bn3 hF
    refine go ?_ ?_
    exact aF (fun a w hh=>⟨x230,x149,v233,hF,(bE h231 q51),(bE h150 q136),gO [0,1] hh⟩)
   obtain⟨⟨x132',x138'⟩,hL,hRl139⟩:=aO hF
   refine dW (fun k a w=>∃(x124:List Int),∃(x130:Int),∃(x131:Int),fP K a1 x17 x59 x113 k x124 x130 x131=some (x132',x138')∧x124.length=v11.length∧hs _ [hO cI b29 x27.length 3 x27.length x47,hO cI ((G9 9).1) ((G9 9).2) 3 v11.length x124] [(6,.vc (pI .i64 v7)),(7,.vc (pO ((G9 9).1) v11.length ((G9 9).2))),(8,.vc (pS cI x17)),(9,.vc (pI .i64 (a1.length:Int))),(10,.vc (pO b29 x27.length x27.length)),(11,.vc (pI .i64 x59)),(13,.vc (pI .i64 x113)),(15,.vc (pI .i64 x130)),(117,.vc (pI .i64 (a1.length:Int))),(118,.vc (pI .i64 x131))] a w) K (fun a w ⟨_,_,_,hF,_,_⟩=>by cases hF) (fun k a w ⟨x124,x130,x131,hF,q128,hh⟩=>dV ?_ hh) (fun a w hh=>⟨x53,0,0,hL,q57,gO [0,1] hh⟩)
   rw [fP.eq_2] at hF
   refine go ?_ ?_
   refine aC hF rfl (fun h235 hF=>?_) (fun h235 hF=>?_)
   ·refine go ?_ ?_
    refine aI ?_
    obtain⟨v238,h239,v240,h241,v242,h243,v244,h245,hF⟩:=bn4 hF
    obtain⟨v246,h247,v248,h249,hF⟩:=tY hF
    refine go ?_ ?_
    refine dr [0,0,0,6,15,31,0,0,0,384,896,1984,4095,0,16383,32767] 16 0 ?_ (fun bs237 G236=>?_)
    refine go ?_ ?_
    refine aC hF rfl (fun h250 hF=>?_) (fun h250 hF=>?_)
    ·obtain⟨v251,h252,v253,h254,v255,h256,v257,h258,hF⟩:=bn4 hF
     obtain⟨v259,h260,v261,h262,hF⟩:=tY hF
     have hF:=qB h239 hF
     have hF:=qB h241 hF
     obtain⟨x267,h268,v270,h271,hF⟩:=tY hF
     refine go ?_ ?_
     exact aF (fun a w hh=>⟨x267,v257,v270,hF,(bE h268 q128),gO [0,1] hh⟩)
    have hF:=qB h239 hF
    have hF:=qB h241 hF
    obtain⟨x276,h277,v279,h280,hF⟩:=tY hF
    refine go ?_ ?_
    exact aF (fun a w hh=>⟨x276,0,v279,hF,(bE h277 q128),gO [0,1] hh⟩)
   refine bI ?_
   obtain⟨rfl,rfl⟩:=sm2 hF
   exact p6 Jj140 ⟨x124,x130,hRl139,q128,rfl,rfl⟩ [0,1]
  obtain⟨x113',hL,hRl114⟩:=aO hF
  refine dW (fun k a w=>∃(x111:Int),∃(x112:Int),eE K a1 x17 x53 x59 k x111 x112=some x113'∧hs _ [hO cI b29 x27.length 3 x27.length x47,hO cI ((G9 9).1) ((G9 9).2) 3 v11.length x53] [(6,.vc (pI .i64 v7)),(7,.vc (pO ((G9 9).1) v11.length ((G9 9).2))),(8,.vc (pS cI x17)),(9,.vc (pI .i64 (a1.length:Int))),(10,.vc (pO b29 x27.length x27.length)),(11,.vc (pI .i64 x59)),(13,.vc (pI .i64 x111)),(14,.vc (pI .i64 x112))] a w) K (fun a w ⟨_,_,hF,_⟩=>by cases hF) (fun k a w ⟨x111,x112,hF,hh⟩=>dV ?_ hh) (fun a w hh=>⟨v101,v107,hL,gO [0,1] hh⟩)
  rw [eE.eq_2] at hF
  refine aD (aD ?_)
  rcases Bool.eq_false_or_eq_true (decide (1000000000≤x111)) with h283|h283
  ·have hF:=tA h283 hF
   refine drb [0,1,3,7,7,7,39,119,247,511,7,1031,7,7,7,24583,57351,126983,258055,523271,1048575,2097151] 22 0 ?_ (fun bs282 G281=>?_)
   refine aU (aJ (eU rfl ?_))
   refine iC (aJ (aI ?_))
   obtain⟨v284,h285,hF⟩:=aO hF
   have hF:=qB h2 hF
   have hF:=qB h100 hF
   obtain⟨v290,h291,hF⟩:=aO hF
   refine go ?_ ?_
   refine aC hF rfl (fun h292 hF=>?_) (fun h292 hF=>?_)
   ·refine bI ?_
    obtain rfl:=iR hF
    exact p6 Jj115 ⟨v284,hRl114,rfl,rfl⟩ [0,1]
   refine iC (aAV ?_)
   exact aF (fun a w hh=>⟨v284,v290,hF,gO [0,1] hh⟩)
  have hF:=rJ h283 hF
  obtain⟨v293,h294,hF⟩:=aO hF
  obtain⟨v295,h296,hF⟩:=aO hF
  obtain⟨v297,h298,hF⟩:=aO hF
  obtain⟨v299,h300,hF⟩:=aO hF
  have hF:=qB h82 hF
  obtain⟨v303,h304,hF⟩:=aO hF
  obtain⟨v305,h306,hF⟩:=aO hF
  obtain⟨v307,h308,hF⟩:=aO hF
  refine drb [0,1,3,7,7,7,39,119,247,511,7,1031,7,7,7,24583,57351,126983,258055,523271,1048575,2097151] 22 0 ?_ (fun bs282 G281=>?_)
  refine aU (aJ (aC hF rfl (fun h309 hF=>?_) (fun h309 hF=>?_)))
  ·refine iC (aJ (aI ?_))
   obtain⟨v310,h311,hF⟩:=aO hF
   have hF:=qB h2 hF
   have hF:=qB h100 hF
   obtain⟨v316,h317,hF⟩:=aO hF
   refine go ?_ ?_
   refine aC hF rfl (fun h318 hF=>?_) (fun h318 hF=>?_)
   ·refine bI ?_
    obtain rfl:=iR hF
    exact p6 Jj115 ⟨v310,hRl114,rfl,rfl⟩ [0,1]
   refine iC (aAV ?_)
   exact aF (fun a w hh=>⟨v310,v316,hF,gO [0,1] hh⟩)
  refine bI ?_
  obtain rfl:=iR hF
  exact p6 Jj115 ⟨x111,hRl114,rfl,rfl⟩ [0,1]
 refine bI ?_
 obtain⟨rfl,rfl⟩:=sm2 hF
 exact p6 Jj73 ⟨x47,x53,hRl72,q51,q57,rfl,rfl⟩ [0,1]
def mA (K:Nat) (a0:List Int) (a1:List Int):Option (aB×aB):=
 (f8 K a0 a1).bind fun v5=>bif(decide (v5<0)) then((eI K false a0).bind fun v8=>some ((⟨false,([]:List Int)⟩:aB),v8)) else(bif((a1.length:Int)==1) then((bO a1 0).bind fun v11=>(qJ K a0 v11).bind fun v13=>(eI K false v13.1).bind fun v15=>(eZ false (IntKind.u64.wrap v13.2)).bind fun v17=>some (v15,v17)) else((t9 K a0 a1).bind fun v19=>(eI K false v19.1).bind fun v21=>(eI K false v19.2).bind fun v23=>some (v21,v23)))
def mR (K:Nat) (a0:List Int) (a1:List Int):Option (aB×aB):=
 (o5 a0).bind fun v25=>bif v25.2 then((o5 a1).bind fun v28=>bif v28.2 then((zL v25.1 v28.1).bind fun v33=>(eZ false (IntKind.u64.wrap v33)).bind fun v35=>(zP v25.1 v28.1).bind fun v37=>(eZ false (IntKind.u64.wrap v37)).bind fun v39=>some (v35,v39)) else(mA K a0 a1)) else(mA K a0 a1)
theorem vS {K:Nat} {a0:List Int} {a1:List Int} {r:aB×aB} (hF:mR K a0 a1=some r):Ct Tryz.prog 162 [.vc (pS cI a0),.vc (pS cI a1)] (.t2 (.va (aB.e r.1)) (.va (aB.e r.2))):=by
 unfold mR at hF
 refine aA Tryz.func162 rfl (by kernel_rfl) Tryz.ntmps162 rfl (fun w0 M0=>?_)
 refine aD (aK (aL rfl tyZ40 (fun b1=>?_)))
 refine aL rfl tyZ40 (fun b2=>?_)
 refine aU (aJ (aD (yR (fun H E=>mA K a0 a1=some r∧H=[⟨some b2,1,40,2,1,([pB false]++[pS cI ([]:List Int)])⟩,⟨some b1,1,40,2,1,([pB false]++[pS cI ([]:List Int)])⟩]∧E=[(0,.vc (pS cI a0)),(1,.vc (pS cI a1)),(4,.vc (pP (some b1) 0)),(5,.vc (pP (some b2) 0))]) ?_ (fun Jj4=>?_))))
 ·rintro _ _ ⟨hF,rfl,rfl⟩
  unfold mA at hF
  obtain⟨v5,h6,hF⟩:=aX hF mO
  refine go ?_ ?_
  refine aC hF rfl (fun h7 hF=>?_) (fun h7 hF=>?_)
  ·refine aD (aK (aH (fG (is:=[]) (xs:=[]) (ps:=[]) rfl tyB40 rfl rfl trivial rfl) trivial ?_))
   obtain⟨v8,h9,hF⟩:=aX hF jA
   exact bP
  refine go ?_ ?_
  refine aC hF rfl (fun h10 hF=>?_) (fun h10 hF=>?_)
  ·obtain⟨v11,h12,hF⟩:=aO hF
   obtain⟨v13,h14,hF⟩:=aX hF z7
   obtain⟨v15,h16,hF⟩:=aX hF jA
   refine go ?_ ?_
   refine aH (aDi rfl ⟨_,Tryz.underlying3⟩ Tryz.underlying131) zU1 ?_
   obtain⟨v17,h18,hF⟩:=aX hF kI
   exact bP
  obtain⟨v19,h20,hF⟩:=aX hF aDS
  obtain⟨v21,h22,hF⟩:=aX hF jA
  obtain⟨v23,h24,hF⟩:=aX hF jA
  exact bP
 obtain⟨v25,h26,hF⟩:=aX hF vM
 refine go ?_ ?_
 refine aC hF rfl (fun h27 hF=>?_) (fun h27 hF=>?_)
 ·obtain⟨v28,h29,hF⟩:=aX hF vM
  refine go ?_ ?_
  refine aC hF rfl (fun h30 hF=>?_) (fun h30 hF=>?_)
  ·refine aD ?_
   obtain⟨v33,h34,hF⟩:=aO hF
   obtain⟨v35,h36,hF⟩:=aX hF kI
   obtain⟨v37,h38,hF⟩:=aO hF
   obtain⟨v39,h40,hF⟩:=aX hF kI
   refine iG [0,0,3,7,15,0,0,96,224,511,1023,2047] 10 2 [.v (.vc (pI .i64 v25.1)),.v (.vc (pI .i64 v28.1)),.v (.vc (pI .i64 v33)),.v (.vc (pI .u64 (IntKind.u64.wrap v33))),.v (.va (aB.e v35)),.v (.vc (pI .i64 v25.1)),.v (.vc (pI .i64 v28.1)),.v (.vc (pI .i64 v37)),.v (.vc (pI .u64 (IntKind.u64.wrap v37))),.v (.va (aB.e v39))] aW ⟨d0 (aM (.inl rfl)) zU1,d0 (aM (.inl rfl)) zU1,d0 (aKa rfl h34) zU2,⟨rfl,.run (L:=[0]) ⟨fun G31 A=>aDi rfl ⟨_,Tryz.underlying3⟩ Tryz.underlying131,trivial⟩ (fun G31=>zU1)⟩,d0 (bD rfl h36 rfl) ⟨k_B _,rfl,trivial⟩,d0 (aM (.inl rfl)) zU1,d0 (aM (.inl rfl)) zU1,d0 (aF3 rfl h38) zU2,⟨rfl,.run (L:=[0]) ⟨fun G31 A=>aDi rfl ⟨_,Tryz.underlying3⟩ Tryz.underlying131,trivial⟩ (fun G31=>zU1)⟩,d0 (bD rfl h40 rfl) ⟨k_B _,rfl,trivial⟩,trivial⟩ (fun bs32 G31=>?_)
   exact bP
  refine iC ?_
  exact p6 Jj4 ⟨hF,rfl,rfl⟩ [0,1]
 refine iC ?_
 exact p6 Jj4 ⟨hF,rfl,rfl⟩ [0,1]
def vN (K:Nat) (x14:aB):Option aB:=
 some x14
def tT (K:Nat) (x28:Int):Option (LR aB aB):=
 (eZ false (IntKind.u64.wrap x28)).bind fun v31=>some (.ret v31)
def kO (K:Nat):Nat→Int→Int→Option Int
 |0,_,_=>none
 |k+1,x26,x27=>bif(decide (0<x27)) then((zP x26 x27).bind fun v36=>kO K k x27 v36) else(some x26)
def jL (K:Nat):Nat→aB→aB→Option (LR aB aB)
 |0,_,_=>none
 |k+1,x12,x13=>bif(decide (0<(x13.d.length:Int))) then((o5 x12.d).bind fun v18=>(o5 x13.d).bind fun v20=>bif v18.2 then(bif v20.2 then((kO K K v18.1 v20.1).bind fun x28=>tT K x28) else((mR K x12.d x13.d).bind fun v38=>jL K k x13 v38.2)) else((mR K x12.d x13.d).bind fun v44=>jL K k x13 v44.2)) else(some (.go x12))
def tC (K:Nat) (a0:aB) (a1:aB):Option aB:=
 (eI K false a0.d).bind fun v6=>(eI K false a1.d).bind fun v8=>(jL K K v6 v8).bind fun o=>match o with| .ret r=>some r| .go x14=>vN K x14
theorem aA9 {K:Nat} {a0:aB} {a1:aB} {r:aB} (hF:tC K a0 a1=some r):Ct Tryz.prog 131 [.va (aB.e a0),.va (aB.e a1)] (.va (aB.e r)):=by
 unfold tC at hF
 refine aA Tryz.func131 rfl (by kernel_rfl) Tryz.ntmps131 rfl (fun w0 M0=>?_)
 refine aD (aK (cK rfl rfl trivial (fun b1=>?_)))
 refine cK rfl rfl trivial (fun b2=>?_)
 refine aL rfl tyZ40 (fun b3=>?_)
 obtain⟨v6,h7,hF⟩:=aX hF jA
 obtain⟨v8,h9,hF⟩:=aX hF jA
 refine go ?_ ?_
 refine dr [0,1,3,0,8,31,0,0,255,511] 8 2 ?_ (fun bs5 G4=>?_)
 refine go ?_ ?_
 refine aI (aY (fun H E=>∃(x14:aB),vN K x14=some r∧H=[⟨some (bs5 6),1,40,2,1,(aB.e x14)⟩,⟨some b3,1,40,2,1,([pB false]++[pS cI ([]:List Int)])⟩]∧E=[(4,.vc (pP (some b3) 0)),(5,.vc (pP (some (bs5 6)) 0))]) ?_ (fun Jj16=>?_))
 ·rintro _ _ ⟨x14,hF,rfl,rfl⟩
  unfold vN at hF
  exact bP
 obtain⟨ol15,hL,hRl15⟩:=aO hF
 refine dW (fun k a w=>∃(x12:aB),∃(x13:aB),jL K k x12 x13=some ol15∧hs _ [⟨some (bs5 6),1,40,2,1,(aB.e x12)⟩,⟨some (bs5 7),1,40,2,1,(aB.e x13)⟩,⟨some b3,1,40,2,1,([pB false]++[pS cI ([]:List Int)])⟩] [(4,.vc (pP (some b3) 0)),(5,.vc (pP (some (bs5 6)) 0)),(6,.vc (pP (some (bs5 7)) 0))] a w) K (fun a w ⟨_,_,hF,_⟩=>by cases hF) (fun k a w ⟨x12,x13,hF,hh⟩=>dV ?_ hh) (fun a w hh=>⟨v6,v8,hL,gO [0,1,2] hh⟩)
 rw [jL.eq_2] at hF
 refine go ?_ ?_
 refine aC hF rfl (fun h17 hF=>?_) (fun h17 hF=>?_)
 ·refine iC (aJ (aI ?_))
  obtain⟨v18,h19,hF⟩:=aX hF vM
  obtain⟨v20,h21,hF⟩:=aX hF vM
  refine go ?_ ?_
  refine cG hF (fun h22 hF=>?_) (fun h22 hF=>?_)
  ·refine go ?_ ?_
   refine aC hF rfl (fun h23 hF=>?_) (fun h23 hF=>?_)
   ·refine aD (aI (aY (fun H E=>∃(x28:Int),tT K x28=some ol15∧H=[⟨some b3,1,40,2,1,([pB false]++[pS cI ([]:List Int)])⟩]∧E=[(4,.vc (pP (some b3) 0)),(7,.vc (pI .i64 x28))]) ?_ (fun Jj30=>?_)))
    ·rintro _ _ ⟨x28,hF,rfl,rfl⟩
     unfold tT at hF
     refine go ?_ ?_
     refine aH (aDi rfl ⟨_,Tryz.underlying3⟩ Tryz.underlying131) zU1 ?_
     obtain⟨v31,h32,hF⟩:=aX hF kI
     exact bP
    obtain⟨x28',hL,hRl29⟩:=aO hF
    refine dW (fun k a w=>∃(x26:Int),∃(x27:Int),kO K k x26 x27=some x28'∧hs _ [⟨some b3,1,40,2,1,([pB false]++[pS cI ([]:List Int)])⟩] [(4,.vc (pP (some b3) 0)),(7,.vc (pI .i64 x26)),(9,.vc (pI .i64 x27))] a w) K (fun a w ⟨_,_,hF,_⟩=>by cases hF) (fun k a w ⟨x26,x27,hF,hh⟩=>dV ?_ hh) (fun a w hh=>⟨v18.1,v20.1,hL,gO [2] hh⟩)
    rw [kO.eq_2] at hF
    refine go ?_ ?_
    refine aC hF rfl (fun h33 hF=>?_) (fun h33 hF=>?_)
    ·refine iC (aJ (aI ?_))
     obtain⟨v36,h37,hF⟩:=aO hF
     refine dr [0,0,0,6,3,31] 6 0 ?_ (fun bs35 G34=>?_)
     refine aU (aAV ?_)
     exact aF (fun a w hh=>⟨x27,v36,hF,gO [0] hh⟩)
    refine bI ?_
    obtain rfl:=iR hF
    exact p6 Jj30 ⟨x26,hRl29,rfl,rfl⟩ [0]
   obtain⟨v38,h39,hF⟩:=aX hF vS
   refine go ?_ ?_
   refine aL rfl tyZ40 (fun b40=>?_)
   refine aL rfl tyZ40 (fun b41=>?_)
   refine go ?_ ?_
   refine tQ (HsM [(0,fun G42=>[⟨some b41,1,40,2,1,(aB.e v38.2)⟩,⟨some b40,1,40,2,1,(aB.e v38.1)⟩,⟨some (bs5 6),1,40,2,1,(aB.e x12)⟩,⟨some (bs5 7),1,40,2,1,(aB.e x13)⟩,⟨some b3,1,40,2,1,([pB false]++[pS cI ([]:List Int)])⟩]),(1,fun G42=>[⟨some b41,1,40,2,1,(aB.e v38.2)⟩,⟨some b40,1,40,2,1,(aB.e v38.1)⟩,⟨some (bs5 6),1,40,2,1,(aB.e x13)⟩,⟨some (bs5 7),1,40,2,1,(aB.e x13)⟩,⟨some b3,1,40,2,1,([pB false]++[pS cI ([]:List Int)])⟩])]) [2] [0,0,1,7] 3 1 [.v (.va (aB.e x13)),.v (.va (aB.e v38.2)),.g (fun _ _=>.any)] aW ⟨d1 0 (iD 3 2 rfl rfl rfl rfl (.agg tyA40)) zU1,⟨rfl,.run (L:=[0,1]) ⟨fun G42 A=>iD 0 2 rfl rfl rfl rfl (.agg tyA40),fun G42 A=>iD 0 2 rfl rfl rfl rfl (.agg tyA40),trivial⟩ (fun G42=>zU1)⟩,⟨rfl,.hvy [0] ⟨fun G42 A=>aDN (t_s 2 rfl rfl rfl tyA40.s),trivial⟩ (fun G42=>zU2)⟩,trivial⟩ (fun bs43 G42=>?_)
   refine go ?_ ?_
   exact aF (fun a w hh=>⟨x13,v38.2,hF,gO [2,3,4] hh⟩)
  refine go ?_ ?_
  refine uV rfl ?_
  obtain⟨v44,h45,hF⟩:=aX hF vS
  refine go ?_ ?_
  refine aL rfl tyZ40 (fun b46=>?_)
  refine aL rfl tyZ40 (fun b47=>?_)
  refine go ?_ ?_
  refine tQ (HsM [(0,fun G48=>[⟨some b47,1,40,2,1,(aB.e v44.2)⟩,⟨some b46,1,40,2,1,(aB.e v44.1)⟩,⟨some (bs5 6),1,40,2,1,(aB.e x12)⟩,⟨some (bs5 7),1,40,2,1,(aB.e x13)⟩,⟨some b3,1,40,2,1,([pB false]++[pS cI ([]:List Int)])⟩]),(1,fun G48=>[⟨some b47,1,40,2,1,(aB.e v44.2)⟩,⟨some b46,1,40,2,1,(aB.e v44.1)⟩,⟨some (bs5 6),1,40,2,1,(aB.e x13)⟩,⟨some (bs5 7),1,40,2,1,(aB.e x13)⟩,⟨some b3,1,40,2,1,([pB false]++[pS cI ([]:List Int)])⟩])]) [2] [0,0,1,7] 3 1 [.v (.va (aB.e x13)),.v (.va (aB.e v44.2)),.g (fun _ _=>.any)] aW ⟨d1 0 (iD 3 2 rfl rfl rfl rfl (.agg tyA40)) zU1,⟨rfl,.run (L:=[0,1]) ⟨fun G48 A=>iD 0 2 rfl rfl rfl rfl (.agg tyA40),fun G48 A=>iD 0 2 rfl rfl rfl rfl (.agg tyA40),trivial⟩ (fun G48=>zU1)⟩,⟨rfl,.hvy [0] ⟨fun G48 A=>aDN (t_s 2 rfl rfl rfl tyA40.s),trivial⟩ (fun G48=>zU2)⟩,trivial⟩ (fun bs49 G48=>?_)
  refine go ?_ ?_
  exact aF (fun a w hh=>⟨x13,v44.2,hF,gO [2,3,4] hh⟩)
 refine bI ?_
 obtain rfl:=iR hF
 exact p6 Jj16 ⟨x12,hRl15,rfl,rfl⟩ [0,2]
def lM (K:Nat) (a0:aB) (a1:aB) (x11:aB) (x12:aB):Option (aB×aB):=
 bif(a0.neg != a1.neg) then(some ((⟨(decide (0<(x12.d.length:Int))),x12.d⟩:aB),x11)) else(some ((⟨false,x12.d⟩:aB),x11))
def tD (K:Nat) (a0:aB) (a1:aB):Option (aB×aB):=
 bif((a1.d.length:Int)==0) then(some ((⟨false,([]:List Int)⟩:aB),(⟨false,([]:List Int)⟩:aB))) else((mR K a0.d a1.d).bind fun v6=>bif a0.neg then(bif(decide (0<(v6.2.d.length:Int))) then((pR K v6.1.d [1]).bind fun v21=>(eI K false v21).bind fun v23=>(mB K a1.d v6.2.d).bind fun v25=>(eI K false v25).bind fun v27=>lM K a0 a1 v27 v23) else(lM K a0 a1 v6.2 v6.1)) else(lM K a0 a1 v6.2 v6.1))
theorem aBa {K:Nat} {a0:aB} {a1:aB} {r:aB×aB} (hF:tD K a0 a1=some r):Ct Tryz.prog 133 [.va (aB.e a0),.va (aB.e a1)] (.t2 (.va (aB.e r.1)) (.va (aB.e r.2))):=by
 unfold tD at hF
 refine aA Tryz.func133 rfl (by kernel_rfl) Tryz.ntmps133 rfl (fun w0 M0=>?_)
 refine aD (aK (cK rfl rfl trivial (fun b1=>?_)))
 refine cK rfl rfl trivial (fun b2=>?_)
 refine aL rfl tyZ40 (fun b3=>?_)
 refine aL rfl tyZ40 (fun b4=>?_)
 refine go ?_ ?_
 refine aC hF rfl (fun h5 hF=>?_) (fun h5 hF=>?_)
 ·refine aD (aK (aH (fG (is:=[]) (xs:=[]) (ps:=[]) rfl tyB40 rfl rfl trivial rfl) trivial ?_))
  refine aH (fG (is:=[]) (xs:=[]) (ps:=[]) rfl tyB40 rfl rfl trivial rfl) trivial ?_
  exact bP
 obtain⟨v6,h7,hF⟩:=aX hF vS
 refine go ?_ ?_
 refine aL rfl tyZ40 (fun b8=>?_)
 refine aL rfl tyZ40 (fun b9=>?_)
 refine lI (t_s 1 rfl rfl rfl tyA40.s) zU2 ?_
 refine lI (t_s 0 rfl rfl rfl tyA40.s) zU2 ?_
 refine aU (aJ (aD (yR (fun H E=>∃(x11:aB),∃(x12:aB),lM K a0 a1 x11 x12=some r∧H=[⟨some b9,1,40,2,1,(aB.e x11)⟩,⟨some b8,1,40,2,1,(aB.e x12)⟩,⟨some b4,1,40,2,1,([pB false]++[pS cI ([]:List Int)])⟩,⟨some b3,1,40,2,1,([pB false]++[pS cI ([]:List Int)])⟩,⟨some b2,1,40,2,1,(aB.e a1)⟩,⟨some b1,1,40,2,1,(aB.e a0)⟩]∧E=[(2,.vc (pP (some b1) 0)),(3,.vc (pP (some b2) 0)),(4,.vc (pP (some b3) 0)),(5,.vc (pP (some b4) 0)),(6,.vc (pP (some b8) 0)),(7,.vc (pP (some b9) 0))]) ?_ (fun Jj13=>?_))))
 ·rintro _ _ ⟨x11,x12,hF,rfl,rfl⟩
  unfold lM at hF
  refine go ?_ ?_
  refine aH (yO rfl Tryz.underlying4) zU2 ?_
  refine fL ?_
  refine cG hF (fun h14 hF=>?_) (fun h14 hF=>?_)
  ·refine go ?_ ?_
   refine tQ (HsM [(0,fun G15=>[⟨some b9,1,40,2,1,(aB.e x11)⟩,⟨some b8,1,40,2,1,([pB (decide (0<(x12.d.length:Int)))]++[pS cI x12.d])⟩,⟨some b4,1,40,2,1,([pB false]++[pS cI ([]:List Int)])⟩,⟨some b3,1,40,2,1,([pB false]++[pS cI ([]:List Int)])⟩,⟨some b2,1,40,2,1,(aB.e a1)⟩,⟨some b1,1,40,2,1,(aB.e a0)⟩]),(1,fun G15=>[⟨some b9,1,40,2,1,(aB.e x11)⟩,⟨some b8,1,40,2,1,([pB (decide (0<(x12.d.length:Int)))]++[pS cI x12.d])⟩,⟨some b4,1,40,2,1,([pB false]++[pS cI ([]:List Int)])⟩,⟨some b3,1,40,2,1,([pB (decide (0<(x12.d.length:Int)))]++[pS cI x12.d])⟩,⟨some b2,1,40,2,1,(aB.e a1)⟩,⟨some b1,1,40,2,1,(aB.e a0)⟩])]) [2] [0,0,1,7] 3 1 [.v (.va ([pB (decide (0<(x12.d.length:Int)))]++[pS cI x12.d])),.v (.va (aB.e x11)),.g (fun _ _=>.any)] aW ⟨d1 0 (iD 1 2 rfl rfl rfl rfl (.agg tyA40)) zU1,⟨rfl,.run (L:=[0,1]) ⟨fun G15 A=>iD 0 2 rfl rfl rfl rfl (.agg tyA40),fun G15 A=>iD 0 2 rfl rfl rfl rfl (.agg tyA40),trivial⟩ (fun G15=>zU1)⟩,⟨rfl,.hvy [0] ⟨fun G15 A=>aDN (t_s 3 rfl rfl rfl tyA40.s),trivial⟩ (fun G15=>zU2)⟩,trivial⟩ (fun bs16 G15=>?_)
   exact bP
  refine go ?_ ?_
  refine tQ (HsM [(0,fun G17=>[⟨some b9,1,40,2,1,(aB.e x11)⟩,⟨some b8,1,40,2,1,([pB false]++[pS cI x12.d])⟩,⟨some b4,1,40,2,1,([pB false]++[pS cI ([]:List Int)])⟩,⟨some b3,1,40,2,1,([pB false]++[pS cI ([]:List Int)])⟩,⟨some b2,1,40,2,1,(aB.e a1)⟩,⟨some b1,1,40,2,1,(aB.e a0)⟩]),(1,fun G17=>[⟨some b9,1,40,2,1,(aB.e x11)⟩,⟨some b8,1,40,2,1,([pB false]++[pS cI x12.d])⟩,⟨some b4,1,40,2,1,([pB false]++[pS cI ([]:List Int)])⟩,⟨some b3,1,40,2,1,([pB false]++[pS cI x12.d])⟩,⟨some b2,1,40,2,1,(aB.e a1)⟩,⟨some b1,1,40,2,1,(aB.e a0)⟩])]) [2] [0,0,1,7] 3 1 [.v (.va ([pB false]++[pS cI x12.d])),.v (.va (aB.e x11)),.g (fun _ _=>.any)] aW ⟨d1 0 (iD 1 2 rfl rfl rfl rfl (.agg tyA40)) zU1,⟨rfl,.run (L:=[0,1]) ⟨fun G17 A=>iD 0 2 rfl rfl rfl rfl (.agg tyA40),fun G17 A=>iD 0 2 rfl rfl rfl rfl (.agg tyA40),trivial⟩ (fun G17=>zU1)⟩,⟨rfl,.hvy [0] ⟨fun G17 A=>aDN (t_s 3 rfl rfl rfl tyA40.s),trivial⟩ (fun G17=>zU2)⟩,trivial⟩ (fun bs18 G17=>?_)
  exact bP
 refine go ?_ ?_
 refine cG hF (fun h19 hF=>?_) (fun h19 hF=>?_)
 ·refine go ?_ ?_
  refine aC hF rfl (fun h20 hF=>?_) (fun h20 hF=>?_)
  ·refine go ?_ ?_
   refine aH (gP (C:=cI) (xs:=[.const (.int .i64 (1))]) (ps:=[.vc (pI .i64 1)]) (zs:=[1]) rfl tyS22 rfl ⟨⟨trivial,rfl⟩,trivial⟩ rfl) ⟨oJ _ _,trivial⟩ ?_
   obtain⟨v21,h22,hF⟩:=aX hF aAX
   refine aH (bD rfl h22 rfl) zU2 ?_
   obtain⟨v23,h24,hF⟩:=aX hF jA
   refine aH (bD rfl h24 rfl) ⟨k_B _,rfl,trivial⟩ ?_
   refine lI (t_s 1 rfl rfl rfl tyA40.s) zU2 ?_
   refine aU (aJ (aK (aH (jW (off:=0) (k:=1) rfl tyF40_1) zU1 ?_)))
   refine aH (iD 4 1 rfl rfl rfl rfl (.one tyO22)) zU1 ?_
   refine aH (jW (off:=0) (k:=1) rfl tyF40_1) zU1 ?_
   refine aH (iD 0 1 rfl rfl rfl rfl (.one tyO22)) zU1 ?_
   obtain⟨v25,h26,hF⟩:=aX hF wL
   refine aH (bD rfl h26 rfl) zU2 ?_
   obtain⟨v27,h28,hF⟩:=aX hF jA
   refine aH (bD rfl h28 rfl) ⟨k_B _,rfl,trivial⟩ ?_
   refine lI (t_s 0 rfl rfl rfl tyA40.s) zU2 ?_
   refine aU ?_
   exact p6 Jj13 ⟨v27,v23,hF,rfl,rfl⟩ [0,1,2,3,4,5]
  refine iC ?_
  exact p6 Jj13 ⟨v6.2,v6.1,hF,rfl,rfl⟩ [0,1,2,3,4,5]
 refine go ?_ ?_
 refine uV rfl ?_
 refine iC ?_
 exact p6 Jj13 ⟨v6.2,v6.1,hF,rfl,rfl⟩ [0,1,2,3,4,5]
def lU (K:Nat) (a0:aB) (a1:aB):Option Int:=
 bif(a0.neg != a1.neg) then(bif a0.neg then(some (-1)) else(bif(a0.neg != a1.neg) then(some 1) else(bif a0.neg then((f8 K a1.d a0.d).bind fun v7=>some v7) else((f8 K a0.d a1.d).bind fun v9=>some v9)))) else(bif(a0.neg != a1.neg) then(some 1) else(bif a0.neg then((f8 K a1.d a0.d).bind fun v13=>some v13) else((f8 K a0.d a1.d).bind fun v15=>some v15)))
theorem vB {K:Nat} {a0:aB} {a1:aB} {r:Int} (hF:lU K a0 a1=some r):Ct Tryz.prog 135 [.va (aB.e a0),.va (aB.e a1)] (.vc (pI .i64 r)):=by
 unfold lU at hF
 refine aA Tryz.func135 rfl (by kernel_rfl) Tryz.ntmps135 rfl (fun w0 M0=>?_)
 refine aD (aK (cK rfl rfl trivial (fun b1=>?_)))
 refine cK rfl rfl trivial (fun b2=>?_)
 refine go ?_ ?_
 refine aI (go ?_ ?_)
 refine aH (yO rfl Tryz.underlying4) zU2 ?_
 refine fL ?_
 refine cG hF (fun h3 hF=>?_) (fun h3 hF=>?_)
 ·refine go ?_ ?_
  refine aC hF rfl (fun h4 hF=>?_) (fun h4 hF=>?_)
  ·exact bP
  refine go ?_ ?_
  refine aH (yO rfl Tryz.underlying4) zU2 ?_
  refine go ?_ ?_
  refine aC hF rfl (fun h5 hF=>?_) (fun h5 hF=>?_)
  ·exact bP
  refine go ?_ ?_
  refine aC hF rfl (fun h6 hF=>?_) (fun h6 hF=>?_)
  ·obtain⟨v7,h8,hF⟩:=aX hF mO
   exact bP
  obtain⟨v9,h10,hF⟩:=aX hF mO
  exact bP
 refine go ?_ ?_
 refine uV rfl ?_
 refine go ?_ ?_
 refine aH (yO rfl Tryz.underlying4) zU2 ?_
 refine go ?_ ?_
 refine aC hF rfl (fun h11 hF=>?_) (fun h11 hF=>?_)
 ·exact bP
 refine go ?_ ?_
 refine aC hF rfl (fun h12 hF=>?_) (fun h12 hF=>?_)
 ·obtain⟨v13,h14,hF⟩:=aX hF mO
  exact bP
 obtain⟨v15,h16,hF⟩:=aX hF mO
 exact bP
def qC (K:Nat):Option Int:=
 some (-1)
def fW (K:Nat) (a0:List Int) (a1:(Int→Option Bool)):Nat→Int→Option (LR Int Unit)
 |0,_=>none
 |k+1,x2=>bif(decide (x2<(a0.length:Int))) then((bO a0 x2).bind fun v6=>(a1 v6).bind fun v8=>bif v8 then(some (.ret x2)) else((aR (x2+1)).bind fun v11=>fW K a0 a1 k v11)) else(some (.go ()))
def l3 (K:Nat) (a0:List Int) (a1:(Int→Option Bool)):Option Int:=
 (fW K a0 a1 K 0).bind fun o=>match o with| .ret r=>some r| .go _=>qC K
theorem aAb {K:Nat} {a0:List Int} {a1:(Int→Option Bool)} {r:Int} (hF:l3 K a0 a1=some r):Ct Tryz.prog 173 [.vc (pS cI a0),.vc (pFn Tryz.prog (fun x:Int=>[.vc (pI .i64 x)]) (fun r:Bool=>.vc (pB r)) a1)] (.vc (pI .i64 r)):=by
 unfold l3 at hF
 refine aA Tryz.func173 rfl (by kernel_rfl) Tryz.ntmps173 rfl (fun w0 M0=>?_)
 refine go ?_ ?_
 refine aI (aY (fun H E=>qC K=some r∧H=[]∧E=[]) ?_ (fun Jj4=>?_))
 ·rintro _ _ ⟨hF,rfl,rfl⟩
  unfold qC at hF
  exact bP
 obtain⟨ol3,hL,hRl3⟩:=aO hF
 refine dW (fun k a w=>∃(x2:Int),fW K a0 a1 k x2=some ol3∧hs _ [] [(0,.vc (pS cI a0)),(1,.vc (pFn Tryz.prog (fun x:Int=>[.vc (pI .i64 x)]) (fun r:Bool=>.vc (pB r)) a1)),(7,.vc (pI .i64 (a0.length:Int))),(8,.vc (pI .i64 x2))] a w) K (fun a w ⟨_,hF,_⟩=>by cases hF) (fun k a w ⟨x2,hF,hh⟩=>dV ?_ hh) (fun a w hh=>⟨0,hL,gO [] hh⟩)
 rw [fW.eq_2] at hF
 refine go ?_ ?_
 refine aC hF rfl (fun h5 hF=>?_) (fun h5 hF=>?_)
 ·refine go ?_ ?_
  refine aI ?_
  obtain⟨v6,h7,v8,h9,hF⟩:=tY hF
  refine go ?_ ?_
  refine aH (aD3 (pre:=fun x:Int=>[.vc (pI .i64 x)]) (post:=fun r:Bool=>.vc (pB r)) (x:=v6) (r:=v8) rfl h9 rfl) zU2 ?_
  refine aU (aJ (aC hF rfl (fun h10 hF=>?_) (fun h10 hF=>?_)))
  ·exact bP
  obtain⟨v11,h12,hF⟩:=aO hF
  refine go ?_ ?_
  exact aF (fun a w hh=>⟨v11,hF,gO [] hh⟩)
 refine bI ?_
 obtain rfl:=iR hF
 exact p6 Jj4 ⟨hRl3,rfl,rfl⟩ []
def fV (K:Nat) (a0:List Int) (a1:(Int→Option Bool)):Option Bool:=
 (l3 K a0 a1).bind fun v1=>some (decide (0≤v1))
theorem xY {K:Nat} {a0:List Int} {a1:(Int→Option Bool)} {r:Bool} (hF:fV K a0 a1=some r):Ct Tryz.prog 163 [.vc (pS cI a0),.vc (pFn Tryz.prog (fun x:Int=>[.vc (pI .i64 x)]) (fun r:Bool=>.vc (pB r)) a1)] (.vc (pB r)):=by
 unfold fV at hF
 refine aA Tryz.func163 rfl (by kernel_rfl) Tryz.ntmps163 rfl (fun w0 M0=>?_)
 obtain⟨v1,h2,hF⟩:=aX hF aAb
 exact bP
def jM (a0:Int):Option Bool:=
 bif(decide (a0<0)) then(some true) else(some (decide (1000000000≤a0)))
theorem aCi {a0:Int} {r:Bool} (hF:jM a0=some r):Ct Tryz.prog 164 [.vc (pI .i64 a0)] (.vc (pB r)):=by
 unfold jM at hF
 refine aA Tryz.func164 rfl (by kernel_rfl) Tryz.ntmps164 rfl (fun w0 M0=>?_)
 refine go ?_ ?_
 refine cG hF (fun h1 hF=>?_) (fun h1 hF=>?_)
 ·exact bP
 exact bP
def iS (K:Nat) (a0:aB):Option Bool:=
 (fV K a0.d (jM)).bind fun v2=>bif v2 then(some false) else(bif((a0.d.length:Int)==0) then(bif(!a0.neg) then(some true) else(bif(decide (0<(a0.d.length:Int))) then((aR ((a0.d.length:Int)-1)).bind fun v8=>(bO a0.d v8).bind fun v10=>some (v10 != 0)) else(some false))) else(bif(decide (0<(a0.d.length:Int))) then((aR ((a0.d.length:Int)-1)).bind fun v13=>(bO a0.d v13).bind fun v15=>some (v15 != 0)) else(some false)))
theorem aAe {K:Nat} {a0:aB} {r:Bool} (hF:iS K a0=some r):Ct Tryz.prog 137 [.va (aB.e a0)] (.vc (pB r)):=by
 unfold iS at hF
 refine aA Tryz.func137 rfl (by kernel_rfl) Tryz.ntmps137 rfl (fun w0 M0=>?_)
 refine aD (aK (cK rfl rfl trivial (fun b1=>?_)))
 obtain⟨v2,h3,hF⟩:=aX hF xY
 refine go ?_ ?_
 refine aH (bD rfl h3 rfl) ⟨rfl,(aQn (P:=Tryz.prog) (φ:=(jM)) (pre:=fun x:Int=>[.vc (pI .i64 x)]) (post:=fun r:Bool=>.vc (pB r)) (fun x r h=>aCi h)),trivial⟩ ?_
 refine aU (aJ (aC hF rfl (fun h4 hF=>?_) (fun h4 hF=>?_)))
 ·exact bP
 refine go ?_ ?_
 refine cG hF (fun h5 hF=>?_) (fun h5 hF=>?_)
 ·refine go ?_ ?_
  refine cG hF (fun h6 hF=>?_) (fun h6 hF=>?_)
  ·exact bP
  refine go ?_ ?_
  refine cG hF (fun h7 hF=>?_) (fun h7 hF=>?_)
  ·obtain⟨v8,h9,v10,h11,hF⟩:=tY hF
   exact bP
  exact bP
 refine go ?_ ?_
 refine cG hF (fun h12 hF=>?_) (fun h12 hF=>?_)
 ·obtain⟨v13,h14,v15,h16,hF⟩:=tY hF
  exact bP
 exact bP
def iN (K:Nat) (a0:aB):Option Bool:=
 bif((a0.d.length:Int)==0) then(some (!a0.neg)) else((aR ((a0.d.length:Int)-1)).bind fun v7=>(bO a0.d v7).bind fun v9=>some (v9 != 0))
def dL (K:Nat) (a0:aB):Nat→Int→Option (LR Bool Unit)
 |0,_=>none
 |k+1,x3=>bif(decide (x3<(a0.d.length:Int))) then((bO a0.d x3).bind fun v12=>bif(decide (v12<0)) then(some (.ret false)) else((bO a0.d x3).bind fun v15=>bif(decide (1000000000≤v15)) then(some (.ret false)) else((aR (x3+1)).bind fun v18=>dL K a0 k v18))) else(some (.go ()))
def eF (K:Nat) (a0:aB):Option Bool:=
 (dL K a0 K 0).bind fun o=>match o with| .ret r=>some r| .go _=>iN K a0
theorem w4 {K:Nat} {a0:aB} {r:Bool} (hF:eF K a0=some r):Ct Tryz.prog 141 [.va (aB.e a0)] (.vc (pB r)):=by
 unfold eF at hF
 refine aA Tryz.func141 rfl (by kernel_rfl) Tryz.ntmps141 rfl (fun w0 M0=>?_)
 refine aD (aK (cK rfl rfl trivial (fun b1=>?_)))
 refine go ?_ ?_
 refine aI (aY (fun H E=>iN K a0=some r∧H=[⟨some b1,1,40,2,1,(aB.e a0)⟩]∧E=[(1,.vc (pP (some b1) 0))]) ?_ (fun Jj5=>?_))
 ·rintro _ _ ⟨hF,rfl,rfl⟩
  unfold iN at hF
  refine go ?_ ?_
  refine aC hF rfl (fun h6 hF=>?_) (fun h6 hF=>?_)
  ·exact bP
  obtain⟨v7,h8,v9,h10,hF⟩:=tY hF
  exact bP
 obtain⟨ol4,hL,hRl4⟩:=aO hF
 refine dW (fun k a w=>∃(x3:Int),dL K a0 k x3=some ol4∧hs _ [⟨some b1,1,40,2,1,(aB.e a0)⟩] [(1,.vc (pP (some b1) 0)),(3,.vc (pI .i64 x3))] a w) K (fun a w ⟨_,hF,_⟩=>by cases hF) (fun k a w ⟨x3,hF,hh⟩=>dV ?_ hh) (fun a w hh=>⟨0,hL,gO [0] hh⟩)
 rw [dL.eq_2] at hF
 refine go ?_ ?_
 refine aC hF rfl (fun h11 hF=>?_) (fun h11 hF=>?_)
 ·refine go ?_ ?_
  refine aI ?_
  obtain⟨v12,h13,hF⟩:=aO hF
  refine go ?_ ?_
  refine cG hF (fun h14 hF=>?_) (fun h14 hF=>?_)
  ·refine go ?_ ?_
   refine eU rfl ?_
   exact bP
  have hF:=qB h13 hF
  refine go ?_ ?_
  refine aC hF rfl (fun h17 hF=>?_) (fun h17 hF=>?_)
  ·exact bP
  obtain⟨v18,h19,hF⟩:=aO hF
  refine go ?_ ?_
  exact aF (fun a w hh=>⟨v18,hF,gO [0] hh⟩)
 refine bI ?_
 obtain rfl:=iR hF
 exact p6 Jj5 ⟨hRl4,rfl,rfl⟩ [0]
end Go.Proofs.YtolfcbpgmfbgmaaGreat
set_option linter.unusedVariables false
set_option maxRecDepth 100000
namespace Go.Proofs.YtolfcbpgmfbgmaaGreat
end Go.Proofs.YtolfcbpgmfbgmaaGreat
set_option linter.unusedVariables false
namespace Go.Proofs.YtolfcbpgmfbgmaaGreat
theorem zX {n m:Nat} {x:Int} (h:x=n) (hn:n≤9000000000000000000):aR x=some (n:Int):=by
 subst h;exact oZ ⟨by omega,by omega⟩
theorem bJ {k n:Nat} (h:n<k):∃k',k=k'+1∧n≤k':=⟨k-1,by omega,by omega⟩
theorem aBx {u:List Int} {i:Nat} {v:Int} (h:Dr u 0 i) (hl:i<u.length) (h0:0≤v) (h1:v<1000000000):Dr (u.set i v) 0 (i+1):=fun t ht=>by
 by_cases e:t=i
 ·subst e;rw [Nat.zero_add,d9 hl];exact⟨h0,h1⟩
 ·rw [fK (by omega)];exact h t (by omega)
def mkG (neg:Bool) (n:Nat):aB:=if n=0 then⟨false,[]⟩ else⟨neg,bS n⟩
theorem mW (n:Nat):mkG false n=Z n:=by
 unfold mkG Z
 by_cases h:n=0
 ·subst h;simp [zE]
 ·rw [if_neg h];simp
theorem aI4 (n:Nat):mkG true n=Z (-n):=by
 unfold mkG Z
 by_cases h:n=0
 ·subst h;simp [zE]
 ·rw [if_neg h];simp;omega
theorem uD (b:Bool) (n:Nat):mkG b n=Z (if b then -(n:Int) else n):=by
 cases b
 ·simpa using mW n
 ·simpa using aI4 n
theorem aNW (u:List Int):∀(n:Nat),n≤u.length→n≤9000000000000→∃m:Nat,m≤n∧(∀i,m≤i→i<n→u.getD i 0=0)∧(m=0∨u.getD (m-1) 0≠0)∧∀K k,n<k→mC K u k n=some (m:Int)
 |0,_,_=>⟨0,Nat.le_refl _,fun i _ h=>by omega,.inl rfl,fun K k hk=>by
   obtain⟨k',rfl,_⟩:=bJ hk
   simp [mC]⟩
 |n+1,h,hL=>by
  have e1:aR (((n+1:Nat):Int)-1)=some (n:Int):=zX (m:=0) (by omega) (by omega)
  have e2:decide (0<((n+1:Nat):Int))=true:=decide_eq_true (by omega)
  have e3:=b0 (xs:=u) (i:=n) (by omega)
  by_cases h0:u.getD n 0=0
  ·obtain⟨m,h1,h2,h3,h4⟩:=aNW u n (by omega) (by omega)
   refine⟨m,by omega,fun i a b=>?_,h3,fun K k hk=>?_⟩
   ·by_cases e:i=n
    ·subst e;exact h0
    ·exact h2 i a (by omega)
   ·obtain⟨k',rfl,hk'⟩:=bJ hk
    simp only [mC,e1,e2,e3,h0,bX,oB,beq_self_eq_true]
    exact h4 K k' (by omega)
  ·refine⟨n+1,by omega,fun i a b=>by omega,.inr (by simpa using h0),fun K k hk=>?_⟩
   obtain⟨k',rfl,hk'⟩:=bJ hk
   have e4:(u.getD n 0==0)=false:=by simpa using h0
   simp only [mC,e1,e2,e3,e4,bX,bR,oB]
theorem aRg {u:List Int} (hd:lA u) {m:Nat} (h1:m≤u.length) (h2:∀i,m≤i→i<u.length→u.getD i 0=0) (h3:m=0∨u.getD (m-1) 0≠0):u.take m=bS (vD u).toNat∧(m=0↔vD u=0):=by
 have hg:∀i,i<m→(u.take m).getD i 0=u.getD i 0:=fun i hi=>by
  simp only [List.getD_eq_getElem?_getD,List.getElem?_take];rw [if_pos hi]
 have hl:(u.take m).length=m:=by simp;omega
 have hok:lA (u.take m):=fun i=>by
  rcases Nat.lt_or_ge i m with h|h
  ·rw [hg i h];exact hd i
  ·rw [uQ (by omega)];omega
 have hv:vD (u.take m)=vD u:=by
  unfold vD
  rw [hl]
  obtain⟨c,hc⟩:=Nat.exists_eq_add_of_le h1
  rw [hc,wH,aDX (j:=0+m) (fun i hi=>h2 _ (by omega) (by omega))]
  rw [aCO (v:=u) (k:=0) (fun i hi=>by rw [Nat.zero_add];exact hg i hi)]
  simp
 have ht:Top (u.take m):=by
  rcases h3 with h|h
  ·subst h;exact .inl (by simp)
  ·by_cases h0:m=0
   ·subst h0;exact .inl (by simp)
   ·refine .inr ?_
    rw [hl,hg _ (by omega)];exact h
 have:=aNi hok ht
 rw [hv] at this
 refine⟨this.symm,fun h=>?_,fun h=>?_⟩
 ·subst h
  rw [←hv];simp;rfl
 ·rw [h] at this
  simp only [Int.toNat_zero,zE] at this
  have:(u.take m).length=0:=by rw [←this];rfl
  omega
theorem xC (neg:Bool) {u:List Int} (hd:lA u) (hL:u.length≤9000000000000):Ev (fun K=>eI K neg u) (mkG neg (vD u).toNat):=by
 obtain⟨m,h1,h2,h3,h4⟩:=aNW u u.length (Nat.le_refl _) hL
 obtain⟨h5,h6⟩:=aRg hd h1 h2 h3
 have hn:=hd.nonneg
 refine⟨u.length+1,fun K hK=>?_⟩
 simp only [eI,h4 K K (by omega),oB,uX]
 unfold mkG
 by_cases h0:m=0
 ·have e:((m:Int)==0)=true:=by simp [h0]
  rw [e,bX,if_pos (by have:=h6.1 h0;omega)]
 ·have e:((m:Int)==0)=false:=by simp [h0]
  rw [e,bR,aGq h1,oB,if_neg (by intro h;exact h0 (h6.2 (by omega))),h5]
theorem aBH {out a b:List Int} {i:Nat} {c c' v:Int} (hl:i<out.length) (hI:W out 0 i+c*PB i=W a 0 i+W b 0 i) (hv:v+1000000000*c'=a.getD i 0+b.getD i 0+c):
  W (out.set i v) 0 (i+1)+c'*PB (i+1)=W a 0 (i+1)+W b 0 (i+1):=by
 rw [dP,dP,dP,Nat.zero_add,d9 hl,xJ (.inr (by omega))]
 simp only [PB]
 grind
theorem aBe {a b:List Int} (ha:lA a) (hb:lA b) (hab:b.length≤a.length) (hL:a.length≤9000000000000):∀(t i:Nat) (out:List Int) (c:Int),i+t=a.length→out.length=a.length+1→Dr out 0 i→0≤c→c≤1→W out 0 i+c*PB i=W a 0 i+W b 0 i→
  ∃out' c',out'.length=a.length+1∧Dr out' 0 a.length∧0≤c'∧c'≤1∧W out' 0 a.length+c'*PB a.length=W a 0 a.length+W b 0 a.length∧∀K k,t<k→dC K a b k out c (i:Int)=some (out',c')
 |0,i,out,c,hi,ho,hD,hc0,hc1,hI=>by
  have:i=a.length:=by omega
  subst this
  refine⟨out,c,ho,hD,hc0,hc1,hI,fun K k hk=>?_⟩
  obtain⟨k',rfl,_⟩:=bJ hk
  simp [dC]
 |t+1,i,out,c,hi,ho,hD,hc0,hc1,hI=>by
  have ha':=ha i
  have hb':=hb i
  have e1:decide ((i:Int)<(a.length:Int))=true:=decide_eq_true (by omega)
  have e2:=b0 (xs:=a) (i:=i) (by omega)
  have e3:aR ((i:Int)+1)=some ((i+1:Nat):Int):=zX (m:=0) (by omega) (by omega)
  have e4:=b0 (xs:=out) (i:=i) (by omega)
  have e5:∀v,pA out (i:Int) v=some (out.set i v):=fun v=>tK (by omega)
  have e6:aR (a.getD i 0+c)=some (a.getD i 0+c):=oZ (by omega)
  have e7:aR (a.getD i 0+c+b.getD i 0)=some (a.getD i 0+c+b.getD i 0):=oZ (by omega)
  have e8:aR (a.getD i 0+c+b.getD i 0-1000000000)=some (a.getD i 0+c+b.getD i 0-1000000000):=oZ (by omega)
  have e9:aR (a.getD i 0+c-1000000000)=some (a.getD i 0+c-1000000000):=oZ (by omega)
  by_cases hbl:i<b.length
  ·have f1:decide ((i:Int)<(b.length:Int))=true:=decide_eq_true (by omega)
   have f2:=b0 (xs:=b) (i:=i) hbl
   by_cases hs:1000000000≤a.getD i 0+c+b.getD i 0
   ·obtain⟨o,d,h1,h2,h3,h4,h5,h6⟩:=aBe ha hb hab hL t (i+1) (out.set i (a.getD i 0+c+b.getD i 0-1000000000)) 1 (by omega) (by simpa using ho) (aBx hD (by omega) (by omega) (by omega)) (by omega) (by omega) (aBH (by omega) hI (by omega))
    refine⟨o,d,h1,h2,h3,h4,h5,fun K k hk=>?_⟩
    obtain⟨k',rfl,_⟩:=bJ hk
    simp only [dC,e1,e2,e3,e4,e5,e6,e7,e8,f1,f2,decide_eq_true hs,bX,oB]
    exact h6 K k' (by omega)
   ·obtain⟨o,d,h1,h2,h3,h4,h5,h6⟩:=aBe ha hb hab hL t (i+1) (out.set i (a.getD i 0+c+b.getD i 0)) 0 (by omega) (by simpa using ho) (aBx hD (by omega) (by omega) (by omega)) (by omega) (by omega) (aBH (by omega) hI (by omega))
    refine⟨o,d,h1,h2,h3,h4,h5,fun K k hk=>?_⟩
    obtain⟨k',rfl,_⟩:=bJ hk
    simp only [dC,e1,e2,e3,e4,e5,e6,e7,f1,f2,decide_eq_false hs,bX,bR,oB]
    exact h6 K k' (by omega)
  ·have f1:decide ((i:Int)<(b.length:Int))=false:=decide_eq_false (by omega)
   have f2:b.getD i 0=0:=uQ (by omega)
   by_cases hs:1000000000≤a.getD i 0+c
   ·obtain⟨o,d,h1,h2,h3,h4,h5,h6⟩:=aBe ha hb hab hL t (i+1) (out.set i (a.getD i 0+c-1000000000)) 1 (by omega) (by simpa using ho) (aBx hD (by omega) (by omega) (by omega)) (by omega) (by omega) (aBH (by omega) hI (by omega))
    refine⟨o,d,h1,h2,h3,h4,h5,fun K k hk=>?_⟩
    obtain⟨k',rfl,_⟩:=bJ hk
    simp only [dC,e1,e2,e3,e4,e5,e6,e9,f1,decide_eq_true hs,bX,bR,oB]
    exact h6 K k' (by omega)
   ·obtain⟨o,d,h1,h2,h3,h4,h5,h6⟩:=aBe ha hb hab hL t (i+1) (out.set i (a.getD i 0+c)) 0 (by omega) (by simpa using ho) (aBx hD (by omega) (by omega) (by omega)) (by omega) (by omega) (aBH (by omega) hI (by omega))
    refine⟨o,d,h1,h2,h3,h4,h5,fun K k hk=>?_⟩
    obtain⟨k',rfl,_⟩:=bJ hk
    simp only [dC,e1,e2,e3,e4,e5,e6,f1,decide_eq_false hs,bX,bR,oB]
    exact h6 K k' (by omega)
theorem aGG (n j m:Nat):Dr (List.replicate n 0) j m:=fun i _=>by
 simp only [List.getD_eq_getElem?_getD,List.getElem?_replicate];split<;>simp
theorem aJr {a b:List Int} (ha:lA a) (hb:lA b) (hab:b.length≤a.length) (hL:a.length≤60000000000):∃r,lA r∧r.length=a.length+1∧vD r=vD a+vD b∧Ev (fun K=>nW K a b) r:=by
 obtain⟨o,c,h1,h2,h3,h4,h5,h6⟩:=aBe ha hb hab (by omega) a.length 0 (List.replicate (a.length+1) 0) 0 (by omega) (by simp) (aGG _ _ _) (by omega) (by omega) (by simp [W])
 have e1:aR ((a.length:Int)+1)=some ((a.length+1:Nat):Int):=zX (m:=0) (by omega) (by omega)
 have e2:y4 ((a.length+1:Nat):Int) (0:Int)=some (List.replicate (a.length+1) 0):=aAN (by omega)
 refine⟨o.set a.length c,Dr.ok ?_,by simpa using h1,?_,⟨a.length+1,fun K hK=>?_⟩⟩
 ·rw [show(o.set a.length c).length=a.length+1 by simpa using h1]
  exact aBx h2 (by omega) (by omega) (by omega)
 ·unfold vD
  rw [show(o.set a.length c).length=a.length+1 by simpa using h1,dP,Nat.zero_add,d9 (by omega),xJ (.inr (by omega)),h5,aAz hab]
 ·have h6':=h6 K K (by omega)
  simp only [Int.natCast_zero] at h6'
  simp only [nW,e1,e2,oB,h6',sR,b0 (xs:=o) (i:=a.length) (by omega),tK (xs:=o) (i:=a.length) (v:=c) (by omega)]
theorem aHN {a b:List Int} (ha:lA a) (hb:lA b) (hL:a.length≤60000000000) (hM:b.length≤60000000000):∃r,lA r∧r.length≤max a.length b.length+1∧vD r=vD a+vD b∧Ev (fun K=>pR K a b) r:=by
 by_cases h:a.length<b.length
 ·obtain⟨r,h1,h2,h3,h4⟩:=aJr hb ha (by omega) hM
  refine⟨r,h1,by omega,by omega,h4.congr fun K=>?_⟩
  simp only [pR,show decide ((a.length:Int)<(b.length:Int))=true from decide_eq_true (by omega),bX]
 ·obtain⟨r,h1,h2,h3,h4⟩:=aJr ha hb (by omega) hL
  refine⟨r,h1,by omega,by omega,h4.congr fun K=>?_⟩
  simp only [pR,show decide ((a.length:Int)<(b.length:Int))=false from decide_eq_false (by omega),bR]
end Go.Proofs.YtolfcbpgmfbgmaaGreat
set_option linter.unusedVariables false
namespace Go.Proofs.YtolfcbpgmfbgmaaGreat
theorem dT {p:Prop} [Decidable p] (h:p):decide p=true:=decide_eq_true h
theorem dF {p:Prop} [Decidable p] (h:¬p):decide p=false:=decide_eq_false h
theorem nT {x y:Int} (h:x≠y):(x != y)=true:=bne_iff_ne.2 h
theorem nF {x y:Int} (h:x=y):(x != y)=false:=by subst h;exact bne_self_eq_false x
theorem qT {x y:Int} (h:x=y):(x==y)=true:=beq_iff_eq.2 h
theorem qF {x y:Int} (h:x≠y):(x==y)=false:=beq_false_of_ne h
theorem aL6 {u:List Int} {k n:Nat} {v:Int} (h:k<n) (hl:k<u.length):W (u.set k v) 0 n=W u 0 n+(v-u.getD k 0)*PB k:=by
 obtain⟨c,rfl⟩:=Nat.exists_eq_add_of_le h
 rw [wH,wH,dP,dP,Nat.zero_add,d9 hl,xJ (.inr (by omega)),xJ (.inl (by omega))]
 grind
theorem aNt {n:Nat} {a:List Int} (h:n=a.length):cpL (List.replicate n 0) a=a:=by
 subst h;simp [cpL]
theorem aDh {a b x1:List Int} (ha:lA a) (hb:lA b) (hbl:b.length≤a.length) (hv:vD b≤vD a) (hL:a.length≤9000000000000) (hx:(cpL x1 a).length=a.length):∀(t i:Nat) (out:List Int),i+t=a.length→out.length=a.length→Dr out 0 i→
  (∀s,i<s→out.getD s 0=a.getD s 0)→a.getD i 0-1≤out.getD i 0→out.getD i 0≤a.getD i 0→W out 0 a.length+W b 0 i=vD a→
  ∃r,r.length=a.length∧lA r∧vD r=vD a-vD b∧∀K k,t<k→eG K a b x1 k out (i:Int)=some r
 |0,i,out,hi,ho,hD,hs,h1,h2,hW=>by
  have:i=a.length:=by omega
  subst this
  refine⟨out,ho,Dr.ok (by rwa [ho]),?_,fun K k hk=>?_⟩
  ·unfold vD
   rw [ho]
   rw [aAz hbl] at hW
   have e1:vD b=W b 0 b.length:=rfl
   have e2:vD a=W a 0 a.length:=rfl
   omega
  ·obtain⟨k',rfl,_⟩:=bJ hk
   simp [eG,hx]
 |t+1,i,out,hi,ho,hD,hs,h1,h2,hW=>by
  have ha':=ha i
  have hb':=hb i
  have e1:decide ((i:Int)<((cpL x1 a).length:Int))=true:=dT (by omega)
  have e3:aR ((i:Int)+1)=some ((i+1:Nat):Int):=zX (m:=0) (by omega) (by omega)
  have key:∀o:List Int,o.length=a.length→Dr o 0 i→(∀s,i<s→o.getD s 0=a.getD s 0)→o.getD i 0=out.getD i 0-b.getD i 0→W o 0 a.length+W b 0 (i+1)=vD a→
    ∃r,r.length=a.length∧lA r∧vD r=vD a-vD b∧∀K k,t≤k→t<k→kJ K (i:Int) (eG K a b x1 k) o=some r:=by
   intro o hlo hDo hso hoi hWo
   have e2:=b0 (xs:=o) (i:=i) (by omega)
   by_cases hneg:o.getD i 0<0
   ·have e4:aR (o.getD i 0+1000000000)=some (o.getD i 0+1000000000):=oZ (by omega)
    have hlt:i+1<a.length:=by
     rcases Nat.lt_or_ge (i+1) a.length with h|h
     ·exact h
     ·exfalso
      have hia:a.length=i+1:=by omega
      have w1:=(aAQ hDo).2
      rw [hia] at hWo
      rw [dP,Nat.zero_add] at hWo
      have w2:vD b=W b 0 (i+1):=by rw [aAz (n:=i+1) (by omega)]
      have hp:=rW i
      have:o.getD i 0*PB i≤(-1)*PB i:=Int.mul_le_mul_of_nonneg_right (by omega) (by omega)
      have hbn:=hb.nonneg
      omega
    have e5:pA o (i:Int) (o.getD i 0+1000000000)=some (o.set i (o.getD i 0+1000000000)):=tK (by omega)
    have e6:bO (o.set i (o.getD i 0+1000000000)) ((i+1:Nat):Int)=some (a.getD (i+1) 0):=by
     rw [b0 (by simp;omega),fK (by omega),hso _ (by omega)]
    have ha2:=ha (i+1)
    have e7:aR (a.getD (i+1) 0-1)=some (a.getD (i+1) 0-1):=oZ (by omega)
    have e8:pA (o.set i (o.getD i 0+1000000000)) ((i+1:Nat):Int) (a.getD (i+1) 0-1)=some ((o.set i (o.getD i 0+1000000000)).set (i+1) (a.getD (i+1) 0-1)):=tK (by simp;omega)
    obtain⟨r,g1,g2,g3,g4⟩:=aDh ha hb hbl hv hL hx t (i+1) ((o.set i (o.getD i 0+1000000000)).set (i+1) (a.getD (i+1) 0-1)) (by omega) (by simpa using hlo)
     (fun s hs'=>by
      rw [fK (by omega)]
      exact aBx hDo (by omega) (by omega) (by omega) s hs')
     (fun s hs'=>by rw [fK (by omega),fK (by omega),hso s (by omega)])
     (by rw [d9 (by simp;omega)];omega) (by rw [d9 (by simp;omega)];omega)
     (by
      rw [aL6 (k:=i+1) (by omega) (by simp;omega),aL6 (k:=i) (by omega) (by omega),fK (by omega),hso (i+1) (by omega)]
      simp only [PB] at *
      have:o.getD i 0+1000000000-o.getD i 0=1000000000:=by omega
      rw [this]
      have:a.getD (i+1) 0-1-a.getD (i+1) 0=-1:=by omega
      rw [this]
      omega)
    refine⟨r,g1,g2,g3,fun K k hk hk'=>?_⟩
    simp only [kJ,e2,e3,e4,e5,e6,e7,e8,dT hneg,bX,oB]
    exact g4 K k hk'
   ·obtain⟨r,g1,g2,g3,g4⟩:=aDh ha hb hbl hv hL hx t (i+1) o (by omega) hlo (fun s hs'=>by
      by_cases e:s=i
      ·subst e;rw [Nat.zero_add];omega
      ·exact hDo s (by omega)) (fun s hs'=>hso s (by omega)) (by rw [hso _ (by omega)];omega) (by rw [hso _ (by omega)];omega) hWo
    refine⟨r,g1,g2,g3,fun K k hk hk'=>?_⟩
    simp only [kJ,e2,e3,dF hneg,bR,oB]
    exact g4 K k hk'
  by_cases hib:i<b.length
  ·have f1:decide ((i:Int)<(b.length:Int))=true:=dT (by omega)
   have f2:=b0 (xs:=b) (i:=i) hib
   have f3:=b0 (xs:=out) (i:=i) (by omega)
   have f4:aR (out.getD i 0-b.getD i 0)=some (out.getD i 0-b.getD i 0):=oZ (by omega)
   have f5:pA out (i:Int) (out.getD i 0-b.getD i 0)=some (out.set i (out.getD i 0-b.getD i 0)):=tK (by omega)
   obtain⟨r,g1,g2,g3,g4⟩:=key (out.set i (out.getD i 0-b.getD i 0)) (by simpa using ho) (fun s hs'=>by rw [fK (by omega)];exact hD s hs') (fun s hs'=>by rw [fK (by omega)];exact hs s hs') (d9 (by omega)) (by
    rw [aL6 (by omega) (by omega),dP,Nat.zero_add]
    have:(out.getD i 0-b.getD i 0-out.getD i 0)=- b.getD i 0:=by omega
    rw [this,Int.neg_mul]
    omega)
   refine⟨r,g1,g2,g3,fun K k hk=>?_⟩
   obtain⟨k',rfl,_⟩:=bJ hk
   simp only [eG,e1,f1,f2,f3,f4,f5,bX,oB]
   exact g4 K k' (by omega) (by omega)
  ·have f1:decide ((i:Int)<(b.length:Int))=false:=dF (by omega)
   have f2:b.getD i 0=0:=uQ (by omega)
   obtain⟨r,g1,g2,g3,g4⟩:=key out ho hD hs (by omega) (by rw [dP,Nat.zero_add,f2];omega)
   refine⟨r,g1,g2,g3,fun K k hk=>?_⟩
   obtain⟨k',rfl,_⟩:=bJ hk
   simp only [eG,e1,f1,bX,bR]
   exact g4 K k' (by omega) (by omega)
theorem aDk {a b:List Int} (ha:lA a) (hb:lA b) (hbl:b.length≤a.length) (hv:vD b≤vD a) (hL:a.length≤60000000000):
  ∃r,r.length=a.length∧lA r∧vD r=vD a-vD b∧Ev (fun K=>mB K a b) r:=by
 have e1:y4 (a.length:Int) (0:Int)=some (List.replicate a.length 0):=aAN (by omega)
 have e2:cpL (List.replicate a.length 0) a=a:=aNt rfl
 obtain⟨r,g1,g2,g3,g4⟩:=aDh (x1:=List.replicate a.length 0) ha hb hbl hv (by omega) (by rw [e2]) a.length 0 a (by omega) rfl (fun s h=>by omega) (fun s h=>rfl) (by omega) (by omega) (by simp [W])
 refine⟨r,g1,g2,g3,⟨a.length+1,fun K hK=>?_⟩⟩
 have h:=g4 K K (by omega)
 simp only [Int.natCast_zero] at h
 simp only [mB,e1,e2,oB,h,rO]
theorem aGN (x y:Int):iL x y=some (if x<y then -1 else if y<x then 1 else 0):=by
 unfold iL mI
 have e1:(x != x)=false:=by simp
 have e2:(y != y)=false:=by simp
 simp only [e1,e2,oB,bR]
 by_cases h:x<y
 ·rw [dT h,bX,if_pos h]
 ·rw [dF h,bR,if_neg h]
  by_cases h2:y<x
  ·rw [dT h2,bX,if_pos h2]
  ·rw [dF h2,bR,if_neg h2]
theorem aJL {u v:List Int} {n:Nat} (hu:lA u) (hv:lA v) (h:u.getD n 0<v.getD n 0):W u 0 (n+1)<W v 0 (n+1):=by
 rw [dP,dP,Nat.zero_add]
 have h1:=(aAQ (hu.dr 0 n)).2
 have h2:=(aAQ (hv.dr 0 n)).1
 have hp:=rW n
 have:(u.getD n 0+1)*PB n≤v.getD n 0*PB n:=Int.mul_le_mul_of_nonneg_right (by omega) (by omega)
 rw [Int.add_mul] at this
 omega
def vA (x y:Int):Int:=if x<y then -1 else if y<x then 1 else 0
theorem aE2 {u v:List Int} (hu:lA u) (hv:lA v) (hl:u.length=v.length) (hL:u.length≤9000000000000):∀(j:Nat),j≤u.length→∀K k,j<k→
  gC K u v k ((j:Int)-1)=some (if W u 0 j<W v 0 j then .ret (-1) else if W v 0 j<W u 0 j then .ret 1 else .go ())
 |0,_,K,k,hk=>by
  obtain⟨k',rfl,_⟩:=bJ hk
  simp [gC,W]
 |j+1,hj,K,k,hk=>by
  obtain⟨k',rfl,hk'⟩:=bJ hk
  have e0:((j+1:Nat):Int)-1=(j:Int):=by omega
  have e1:decide (0≤(j:Int))=true:=dT (by omega)
  have e2:=b0 (xs:=u) (i:=j) (by omega)
  have e3:=b0 (xs:=v) (i:=j) (by omega)
  rw [e0]
  rcases Int.lt_trichotomy (u.getD j 0) (v.getD j 0) with h|h|h
  ·have:=aJL hu hv h
   have e4:(u.getD j 0 != v.getD j 0)=true:=nT (by omega)
   simp only [gC,e1,e2,e3,e4,bX,oB,aGN]
   rw [if_pos h,if_pos this]
  ·have e4:(u.getD j 0 != v.getD j 0)=false:=nF h
   have e5:aR ((j:Int)-1)=some ((j:Int)-1):=oZ (by omega)
   have ih:=aE2 hu hv hl hL j (by omega) K k' (by omega)
   have c1:(W u 0 (j+1)<W v 0 (j+1))↔(W u 0 j<W v 0 j):=by rw [dP,dP,Nat.zero_add,h];omega
   have c2:(W v 0 (j+1)<W u 0 (j+1))↔(W v 0 j<W u 0 j):=by rw [dP,dP,Nat.zero_add,h];omega
   simp only [gC,e1,e2,e3,e4,e5,bX,bR,oB,c1,c2]
   exact ih
  ·have:=aJL hv hu h
   have e4:(u.getD j 0 != v.getD j 0)=true:=nT (by omega)
   simp only [gC,e1,e2,e3,e4,bX,oB,aGN]
   rw [if_neg (by omega),if_pos h,if_neg (by omega),if_pos this]
theorem aGP {u v:List Int} (hu:lA u) (hv:lA v) (tv:Top v) (h:u.length<v.length):vD u<vD v:=by
 have h1:=hu.lt
 have h2:=tv.pos hv (by intro e;subst e;simp at h)
 have h3:=aCN (a:=u.length) (b:=v.length-1) (by omega)
 omega
theorem zC {u v:List Int} (hu:lA u) (hv:lA v) (tu:Top u) (tv:Top v) (hL:u.length≤9000000000000):Ev (fun K=>f8 K u v) (vA (vD u) (vD v)):=by
 refine⟨u.length+1,fun K hK=>?_⟩
 by_cases h:u.length=v.length
 ·have e1:((u.length:Int) != (v.length:Int))=false:=nF (by omega)
  have e2:aR ((u.length:Int)-1)=some ((u.length:Int)-1):=oZ (by omega)
  have e3:=aE2 hu hv h hL u.length (Nat.le_refl _) K K (by omega)
  simp only [f8,e1,e2,e3,bR,oB]
  unfold vA vD
  rw [←h]
  by_cases h1:W u 0 u.length<W v 0 u.length
  ·rw [if_pos h1,if_pos h1]
  ·rw [if_neg h1,if_neg h1]
   by_cases h2:W v 0 u.length<W u 0 u.length
   ·rw [if_pos h2,if_pos h2]
   ·rw [if_neg h2,if_neg h2];rfl
 ·have e1:((u.length:Int) != (v.length:Int))=true:=nT (by omega)
  simp only [f8,e1,bX,oB,aGN]
  unfold vA
  rcases Nat.lt_or_ge u.length v.length with h1|h1
  ·have:=aGP hu hv tv h1
   rw [if_pos (by omega),if_pos this]
  ·have:=aGP hv hu tu (by omega)
   rw [if_neg (by omega),if_pos (by omega),if_neg (by omega),if_pos this]
theorem aE4 {x y:Int} (h1:0≤x) (h2:x<1000000000) (h3:0≤y) (h4:y<1000000000):0≤x*y∧x*y≤999999998000000001:=by
 refine⟨Int.mul_nonneg h1 h3,?_⟩
 have:x*y≤999999999*999999999:=Int.mul_le_mul (by omega) (by omega) h3 (by omega)
 omega
theorem W1 (u:List Int) (j:Nat):W u j 1=u.getD j 0:=by simp [W,PB]
theorem W2 (u:List Int) (j:Nat):W u j 2=u.getD j 0+u.getD (j+1) 0*1000000000:=by simp [W,PB]
theorem vD0:vD []=0:=rfl
theorem vD1 (a:Int):vD [a]=a:=by show W _ 0 1=a;rw [W1];rfl
theorem vD2 (a b:Int):vD [a,b]=a+b*1000000000:=by show W _ 0 2=_;rw [W2];rfl
theorem aBI {u:List Int} (hu:lA u):o5 u=some (if u.length≤2 then(vD u,true) else(0,false)):=by
 unfold o5
 have h0:=hu 0
 have h1:=hu 1
 match u,hu with
 |[],_=>simp [vD0]
 |[a],_=>
  have e:=b0 (xs:=[a]) (i:=0) (by simp)
  simp only [Int.natCast_zero] at e
  simp [e,vD1]
 |[a,b],_=>
  simp at h0 h1
  have e:=b0 (xs:=[a,b]) (i:=0) (by simp)
  have e':=b0 (xs:=[a,b]) (i:=1) (by simp)
  simp only [Int.natCast_zero,Int.natCast_one] at e e'
  have f1:aR (b*1000000000)=some (b*1000000000):=oZ (by omega)
  have f2:aR (b*1000000000+a)=some (b*1000000000+a):=oZ (by omega)
  simp [e,e',vD2,f1,f2]
  omega
 |a::b::c::t,_=>
  have e1:(((a::b::c::t).length:Int)==0)=false:=qF (by simp;omega)
  have e2:(((a::b::c::t).length:Int)==1)=false:=qF (by simp;omega)
  have e3:(((a::b::c::t).length:Int)==2)=false:=qF (by simp;omega)
  simp only [e1,e2,e3,bR]
  rw [if_neg (by simp)]
theorem aNM {x:Int} (h0:0≤x) (h1:x≤18446744073709551615):wu x=x:=IntWalk.u64_in x ⟨h0,h1⟩
theorem aOC {x y:Int} (h0:0≤x) (h1:0<y) (h2:x≤18446744073709551615):uq x y=some (x/y):=by
 unfold uq
 rw [if_neg (by omega),Int.tdiv_eq_ediv_of_nonneg h0]
 have a:=Int.ediv_nonneg h0 (Int.le_of_lt h1)
 have b:=Int.ediv_le_self y h0
 rw [aNM a (by omega)]
theorem aJA {n:Nat} (h0:n≠0) (h:n<1000000000):bS n=[(n:Int)]:=by
 rw [vV h0,show n/1000000000=0 by omega,zE,show n%1000000000=n by omega]
theorem s0 (neg:Bool) {n:Nat} (h:n≤18446744073709551615):eZ neg (n:Int)=some (mkG neg n):=by
 unfold eZ mkG
 have i64:∀x:Int,0≤x→x≤9223372036854775807→IntKind.i64.wrap x=x:=fun x a b=>IntWalk.i64_in x ⟨by omega,b⟩
 by_cases h0:n=0
 ·subst h0;simp
 ·have e0:((n:Int)==0)=false:=qF (by omega)
  rw [e0,bR,if_neg h0]
  by_cases h1:n<1000000000
  ·rw [dT (by omega),bX,aJA h0 h1,i64 _ (by omega) (by omega)]
  ·rw [dF (by omega),bR,vV h0]
   have q1:uq (n:Int) 1000000000=some ((n:Int)/1000000000):=aOC (by omega) (by omega) (by omega)
   have r1:zP (n:Int) 1000000000=some ((n:Int)%1000000000):=tL (by omega) (by omega)
   by_cases h2:n<1000000000000000000
   ·rw [dT (by omega),bX]
    simp only [q1,r1,oB]
    rw [aJA (n:=n/1000000000) (by omega) (by omega),i64 _ (by omega) (by omega),i64 _ (by omega) (by omega)]
    simp
   ·rw [dF (by omega),bR]
    have q2:uq ((n:Int)/1000000000) 1000000000=some ((n:Int)/1000000000/1000000000):=aOC (by omega) (by omega) (by omega)
    have r2:zP ((n:Int)/1000000000) 1000000000=some ((n:Int)/1000000000%1000000000):=tL (by omega) (by omega)
    simp only [q1,r1,q2,r2,oB]
    rw [vV (n:=n/1000000000) (by omega),aJA (n:=n/1000000000/1000000000) (by omega) (by omega),i64 _ (by omega) (by omega),i64 _ (by omega) (by omega),i64 _ (by omega) (by omega)]
    simp
theorem aEB {n:Int} (h:-9223372036854775808≤n∧n≤9223372036854775807):lT n=some (Z n):=by
 unfold lT
 by_cases h0:n<0
 ·rw [dT h0,bX]
  have e1:wu (-(IntKind.u64.wrap n))=((-n).toNat:Int):=by
   show IntKind.u64.wrap (-(IntKind.u64.wrap n))=_
   simp only [IntKind.wrap,IntKind.bits,IntKind.signed]
   simp
   omega
  rw [e1,s0 _ (by omega),oB,aI4]
  congr 2;omega
 ·rw [dF h0,bR]
  have e1:IntKind.u64.wrap n=((n.toNat:Nat):Int):=by rw [IntWalk.u64_in n (by omega)];omega
  rw [e1,s0 _ (by omega),oB,mW]
  congr 2;omega
theorem Z_d (x:Int):(Z x).d=bS x.natAbs:=rfl
theorem sA (x:Int):(Z x).neg=decide (x<0):=rfl
theorem sG (x:Int):(Z x).d.length=dl x.natAbs:=rfl
theorem aMA (x:Int):uB (Z x)=some x.sign:=by
 unfold uB
 rw [sA,sG]
 by_cases h:x<0
 ·rw [dT h,bX,Int.sign_eq_neg_one_of_neg h]
 ·rw [dF h,bR]
  by_cases h0:x=0
  ·subst h0;rw [show Int.natAbs 0=0 from rfl,vL];rfl
  ·have:dl x.natAbs≠0:=by rw [Ne,vE];omega
   have e:((dl x.natAbs:Int)==0)=false:=qF (by omega)
   rw [e,bR,Int.sign_eq_one_of_pos (by omega)]
theorem aI5 (x:Int):rB (Z x)=some (Z (-x)):=by
 unfold rB
 rw [sA,sG,Z_d]
 unfold Z
 rw [Int.natAbs_neg]
 by_cases h:x<0
 ·have:dl x.natAbs≠0:=by rw [Ne,vE];omega
  rw [dT h,dF (p:=-x<0) (by omega)];rfl
 ·rw [dF h]
  simp only [Bool.not_false,bX]
  congr 2
  by_cases h0:x=0
  ·subst h0;rw [show Int.natAbs 0=0 from rfl,vL];rfl
  ·have:dl x.natAbs≠0:=by rw [Ne,vE];omega
   rw [dT (by omega),dT (by omega)]
theorem aJn {x y:Int} (hx:dl x.natAbs≤50000000000) (hy:dl y.natAbs≤50000000000):Ev (fun K=>nD K (Z x) (Z y)) (Z (x+y)):=by
 have dx:=bQ x.natAbs
 have dy:=bQ y.natAbs
 have vx:=dI x.natAbs
 have vy:=dI y.natAbs
 have tx:=nM x.natAbs
 have ty:=nM y.natAbs
 have lx:(bS x.natAbs).length≤50000000000:=hx
 have ly:(bS y.natAbs).length≤50000000000:=hy
 unfold nD
 simp only [Z_d,sA]
 by_cases hs:(decide (x<0)==decide (y<0))=true
 ·simp only [hs,bX]
  obtain⟨r,h1,h2,h3,h4⟩:=aHN dx dy (by omega) (by omega)
  have h5:=xC (decide (x<0)) h1 (by omega)
  refine Ev.bind h4 (Ev.bind h5 ?_)
  rw [uD]
  have hs':(x<0)↔(y<0):=by simpa using hs
  have:(if decide (x<0)=true then -(((vD r).toNat:Nat):Int) else(((vD r).toNat:Nat):Int))=x+y:=by
   by_cases h:x<0
   ·rw [if_pos (by simpa using h)];omega
   ·rw [if_neg (by simpa using h)];omega
  rw [this]
  exact Ev.pure _
 ·simp only [Bool.not_eq_true] at hs
  simp only [hs,bR]
  have hs':¬((x<0)↔(y<0)):=by simpa using hs
  refine Ev.bind (zC dx dy tx ty (by omega)) ?_
  rw [vx,vy]
  unfold vA
  by_cases hlt:x.natAbs<y.natAbs
  ·have hle:(bS x.natAbs).length≤(bS y.natAbs).length:=qW (by omega)
   obtain⟨r,h1,h2,h3,h4⟩:=aDk dy dx hle (by omega) (by omega)
   have h5:=xC (decide (y<0)) h2 (by omega)
   rw [if_pos (by omega)]
   refine Ev.congr (g:=fun K=>(mB K (bS y.natAbs) (bS x.natAbs)).bind fun v16=>(eI K (decide (y<0)) v16).bind fun v18=>some v18) ?_ (fun K=>rfl)
   refine Ev.bind h4 (Ev.bind h5 ?_)
   rw [uD]
   have:(if decide (y<0)=true then -(((vD r).toNat:Nat):Int) else(((vD r).toNat:Nat):Int))=x+y:=by
    by_cases h:y<0
    ·rw [if_pos (by simpa using h)];omega
    ·rw [if_neg (by simpa using h)];omega
   rw [this]
   exact Ev.pure _
  ·have hle:(bS y.natAbs).length≤(bS x.natAbs).length:=qW (by omega)
   obtain⟨r,h1,h2,h3,h4⟩:=aDk dx dy hle (by omega) (by omega)
   have h5:=xC (decide (x<0)) h2 (by omega)
   have hc:decide ((if(x.natAbs:Int)<y.natAbs then(-1:Int) else if(y.natAbs:Int)<x.natAbs then 1 else 0)<0)=false:=by
    rw [if_neg (by omega)]
    split<;>rfl
   simp only [hc,bR]
   refine Ev.bind h4 (Ev.bind h5 ?_)
   rw [uD]
   have:(if decide (x<0)=true then -(((vD r).toNat:Nat):Int) else(((vD r).toNat:Nat):Int))=x+y:=by
    by_cases h:x<0
    ·rw [if_pos (by simpa using h)];omega
    ·rw [if_neg (by simpa using h)];omega
   rw [this]
   exact Ev.pure _
end Go.Proofs.YtolfcbpgmfbgmaaGreat
set_option linter.unusedVariables false
namespace Go.Proofs.YtolfcbpgmfbgmaaGreat
theorem aMD {v:Int} (h:0≤v):0≤v/1000000000∧0≤v%1000000000∧v%1000000000<1000000000∧v%1000000000+1000000000*(v/1000000000)=v:=by omega
theorem aHZ {out a:List Int} {i:Nat} {c c' k v:Int} (hl:i<out.length) (hI:W out 0 i+c*PB i=k*W a 0 i) (hv:v+1000000000*c'=a.getD i 0*k+c):
  W (out.set i v) 0 (i+1)+c'*PB (i+1)=k*W a 0 (i+1):=by
 rw [dP,dP,Nat.zero_add,d9 hl,xJ (.inr (by omega))]
 simp only [PB]
 grind
theorem aEZ {a:List Int} {f:Int} (ha:lA a) (hf0:0≤f) (hf1:f<1000000000) (hL:a.length≤9000000000000):∀(t i:Nat) (out:List Int) (c:Int),i+t=a.length→out.length=a.length+1→Dr out 0 i→0≤c→c<1000000000→W out 0 i+c*PB i=f*W a 0 i→
  ∃out' c',out'.length=a.length+1∧Dr out' 0 a.length∧0≤c'∧c'<1000000000∧W out' 0 a.length+c'*PB a.length=f*vD a∧∀K k,t<k→jY K a f k out c (i:Int)=some (out',c')
 |0,i,out,c,hi,ho,hD,hc0,hc1,hI=>by
  have:i=a.length:=by omega
  subst this
  refine⟨out,c,ho,hD,hc0,hc1,hI,fun K k hk=>?_⟩
  obtain⟨k',rfl,_⟩:=bJ hk
  simp [jY]
 |t+1,i,out,c,hi,ho,hD,hc0,hc1,hI=>by
  have ha':=ha i
  have hm:=aE4 ha'.1 ha'.2 hf0 hf1
  obtain⟨d1,d2,d3,d4⟩:=aMD (v:=a.getD i 0*f+c) (by omega)
  have e1:decide ((i:Int)<(a.length:Int))=true:=dT (by omega)
  have e2:=b0 (xs:=a) (i:=i) (by omega)
  have e3:aR ((i:Int)+1)=some ((i+1:Nat):Int):=zX (m:=0) (by omega) (by omega)
  have e4:=b0 (xs:=out) (i:=i) (by omega)
  have e5:∀v,pA out (i:Int) v=some (out.set i v):=fun v=>tK (by omega)
  have e6:aR (a.getD i 0*f)=some (a.getD i 0*f):=oZ (by omega)
  have e7:aR (a.getD i 0*f+c)=some (a.getD i 0*f+c):=oZ (by omega)
  have e8:zP (a.getD i 0*f+c) 1000000000=some ((a.getD i 0*f+c)%1000000000):=tL (by omega) (by omega)
  have e9:zL (a.getD i 0*f+c) 1000000000=some ((a.getD i 0*f+c)/1000000000):=vU (by omega) (by omega) (by omega)
  obtain⟨o,d,h1,h2,h3,h4,h5,h6⟩:=aEZ ha hf0 hf1 hL t (i+1) (out.set i ((a.getD i 0*f+c)%1000000000)) ((a.getD i 0*f+c)/1000000000) (by omega) (by simpa using ho) (aBx hD (by omega) (by omega) (by omega)) (by omega) (by omega) (aHZ (by omega) hI (by omega))
  refine⟨o,d,h1,h2,h3,h4,h5,fun K k hk=>?_⟩
  obtain⟨k',rfl,_⟩:=bJ hk
  simp only [jY,e1,e2,e3,e4,e5,e6,e7,e8,e9,bX,oB]
  exact h6 K k' (by omega)
theorem aEy {a:List Int} {f:Int} (ha:lA a) (hf0:0≤f) (hf1:f<1000000000) (hL:a.length≤60000000000):∃r,r.length=a.length+1∧lA r∧vD r=f*vD a∧Ev (fun K=>mQ K a f) r:=by
 obtain⟨o,c,h1,h2,h3,h4,h5,h6⟩:=aEZ ha hf0 hf1 (by omega) a.length 0 (List.replicate (a.length+1) 0) 0 (by omega) (by simp) (aGG _ _ _) (by omega) (by omega) (by simp [W])
 have e1:aR ((a.length:Int)+1)=some ((a.length+1:Nat):Int):=zX (m:=0) (by omega) (by omega)
 have e2:y4 ((a.length+1:Nat):Int) (0:Int)=some (List.replicate (a.length+1) 0):=aAN (by omega)
 refine⟨o.set a.length c,by simpa using h1,Dr.ok ?_,?_,⟨a.length+1,fun K hK=>?_⟩⟩
 ·rw [show(o.set a.length c).length=a.length+1 by simpa using h1]
  exact aBx h2 (by omega) (by omega) (by omega)
 ·unfold vD at h5 ⊢
  rw [show(o.set a.length c).length=a.length+1 by simpa using h1,dP,Nat.zero_add,d9 (by omega),xJ (.inr (by omega)),h5]
 ·have h6':=h6 K K (by omega)
  simp only [Int.natCast_zero] at h6'
  simp only [mQ,e1,e2,oB,h6',qQ,b0 (xs:=o) (i:=a.length) (by omega),tK (xs:=o) (i:=a.length) (v:=c) (by omega)]
theorem aCq (u:List Int) (j n:Nat):W u j (n+1)=u.getD j 0+1000000000*W u (j+1) n:=by
 rw [Nat.add_comm n 1,wH,W1,show PB 1=1000000000 from by decide]
theorem aFv {a:List Int} {b:Int} (ha:lA a) (hb0:0<b) (hb1:b<1000000000) (hL:a.length≤9000000000000):∀(j:Nat) (q:List Int) (r:Int),j≤a.length→q.length=a.length→Dr q j (a.length-j)→0≤r→r<b→W a j (a.length-j)=b*W q j (a.length-j)+r→
  ∃q' r',q'.length=a.length∧lA q'∧0≤r'∧r'<b∧vD a=b*vD q'+r'∧∀K k,j<k→kH K a b k q r ((j:Int)-1)=some (q',r')
 |0,q,r,hj,hq,hD,hr0,hr1,hI=>by
  refine⟨q,r,hq,Dr.ok (by rw [hq];simpa using hD),hr0,hr1,?_,fun K k hk=>?_⟩
  ·simp only [Nat.sub_zero] at hI
   unfold vD
   rw [hq];exact hI
  ·obtain⟨k',rfl,_⟩:=bJ hk
   simp [kH]
 |j+1,q,r,hj,hq,hD,hr0,hr1,hI=>by
  have ha':=ha j
  have e0:((j+1:Nat):Int)-1=(j:Int):=by omega
  have e1:decide (0≤(j:Int))=true:=dT (by omega)
  have e2:=b0 (xs:=a) (i:=j) (by omega)
  have e3:aR ((j:Int)-1)=some ((j:Int)-1):=oZ (by omega)
  have e4:=b0 (xs:=q) (i:=j) (by omega)
  have e5:∀v,pA q (j:Int) v=some (q.set j v):=fun v=>tK (by omega)
  have e6:aR (r*1000000000)=some (r*1000000000):=oZ (by omega)
  have e7:aR (r*1000000000+a.getD j 0)=some (r*1000000000+a.getD j 0):=oZ (by omega)
  have e8:zP (r*1000000000+a.getD j 0) b=some ((r*1000000000+a.getD j 0)%b):=tL (by omega) hb0
  have e9:zL (r*1000000000+a.getD j 0) b=some ((r*1000000000+a.getD j 0)/b):=vU (by omega) hb0 (by omega)
  have hq0:0≤(r*1000000000+a.getD j 0)/b:=Int.ediv_nonneg (by omega) (by omega)
  have hq1:(r*1000000000+a.getD j 0)/b<1000000000:=Int.ediv_lt_of_lt_mul hb0 (by
   have:(r+1)*1000000000≤b*1000000000:=Int.mul_le_mul_of_nonneg_right (by omega) (by omega)
   rw [Int.mul_comm 1000000000 b]
   omega)
  have hm0:=Int.emod_nonneg (r*1000000000+a.getD j 0) (show b≠0 by omega)
  have hm1:=Int.emod_lt_of_pos (r*1000000000+a.getD j 0) hb0
  have hdm:=Int.mul_ediv_add_emod (r*1000000000+a.getD j 0) b
  have es:a.length-j=(a.length-(j+1))+1:=by omega
  obtain⟨q',r',h1,h2,h3,h4,h5,h6⟩:=aFv ha hb0 hb1 hL j (q.set j ((r*1000000000+a.getD j 0)/b)) ((r*1000000000+a.getD j 0)%b) (by omega) (by simpa using hq)
   (fun i hi=>by
    by_cases e:i=0
    ·subst e;rw [Nat.add_zero,d9 (by omega)];exact⟨hq0,hq1⟩
    ·rw [fK (by omega)]
     have:=hD (i-1) (by omega)
     rwa [show j+1+(i-1)=j+i by omega] at this) hm0 hm1 (by
    rw [es,aCq,aCq,d9 (by omega),xJ (.inl (by omega)),hI]
    grind)
  refine⟨q',r',h1,h2,h3,h4,h5,fun K k hk=>?_⟩
  obtain⟨k',rfl,_⟩:=bJ hk
  rw [e0]
  simp only [kH,e1,e2,e3,e4,e5,e6,e7,e8,e9,bX,oB]
  exact h6 K k' (by omega)
theorem aFL {a:List Int} {b:Int} (ha:lA a) (hb0:0<b) (hb1:b<1000000000) (hL:a.length≤60000000000):∃q r,q.length=a.length∧lA q∧vD q=vD a/b∧r=vD a%b∧Ev (fun K=>qJ K a b) (q,r):=by
 obtain⟨q,r,h1,h2,h3,h4,h5,h6⟩:=aFv ha hb0 hb1 (by omega) a.length (List.replicate a.length 0) 0 (Nat.le_refl _) (by simp) (aGG _ _ _) (by omega) hb0 (by simp [W])
 have e1:y4 (a.length:Int) (0:Int)=some (List.replicate a.length 0):=aAN (by omega)
 have e2:aR ((a.length:Int)-1)=some ((a.length:Int)-1):=oZ (by omega)
 refine⟨q,r,h1,h2,?_,?_,⟨a.length+1,fun K hK=>?_⟩⟩
 ·rw [h5,Int.add_comm,Int.add_mul_ediv_left _ _ (by omega),Int.ediv_eq_zero_of_lt h3 h4,Int.zero_add]
 ·rw [h5,Int.add_comm,Int.add_mul_emod_self_left,Int.emod_eq_of_lt h3 h4]
 ·have h6':=h6 K K (by omega)
  simp only [qJ,e1,e2,oB,h6',rQ]
theorem aLw {out o0 b:List Int} {i k:Nat} {c c' f v:Int} (hl:i+k<out.length) (hI:W out i k+c*PB k=W o0 i k+f*W b 0 k) (hv:v+1000000000*c'=o0.getD (i+k) 0+f*b.getD k 0+c):
  W (out.set (i+k) v) i (k+1)+c'*PB (k+1)=W o0 i (k+1)+f*W b 0 (k+1):=by
 rw [dP,dP,dP,d9 hl,xJ (.inr (by omega)),Nat.zero_add]
 simp only [PB]
 grind
structure aF7 (o0 b:List Int) (i:Nat) (f:Int) (out:List Int) (c:Int) (k:Nat):Prop where
 len:out.length=o0.length
 ok:lA out
 c0:0≤c
 c1:c<1000000000
 same:∀s,s<i∨i+k≤s→out.getD s 0=o0.getD s 0
 val:W out i k+c*PB k=W o0 i k+f*W b 0 k
theorem lA.set {u:List Int} {i:Nat} {v:Int} (h:lA u) (h0:0≤v) (h1:v<1000000000):lA (u.set i v):=fun t=>by
 rw [aAj];split
 ·exact⟨h0,h1⟩
 ·exact h t
theorem aF7.step {o0 b out:List Int} {i k:Nat} {f c:Int} (h:aF7 o0 b i f out c k) (hl:i+k<o0.length) (hf0:0≤f) (hf1:f<1000000000) (hb:lA b):
  0≤out.getD (i+k) 0+f*b.getD k 0+c∧out.getD (i+k) 0+f*b.getD k 0+c≤999999999999999999∧0≤f*b.getD k 0∧f*b.getD k 0≤999999998000000001∧0≤out.getD (i+k) 0∧out.getD (i+k) 0<1000000000∧
  aF7 o0 b i f (out.set (i+k) ((out.getD (i+k) 0+f*b.getD k 0+c)%1000000000)) ((out.getD (i+k) 0+f*b.getD k 0+c)/1000000000) (k+1):=by
 have hb':=hb k
 have hm:=aE4 hf0 hf1 hb'.1 hb'.2
 have ho:=h.ok (i+k)
 have c0:=h.c0
 have c1:=h.c1
 obtain⟨d1,d2,d3,d4⟩:=aMD (v:=out.getD (i+k) 0+f*b.getD k 0+c) (by omega)
 have he:=h.same (i+k) (.inr (Nat.le_refl _))
 refine⟨by omega,by omega,hm.1,hm.2,ho.1,ho.2,by simpa using h.len,h.ok.set d2 d3,d1,by omega,fun s hs=>?_,by exact aLw (by have:=h.len;omega) h.val (by omega)⟩
 rw [fK (by omega)]
 exact h.same s (by omega)
theorem aIV {o0:List Int} {y:aB} {i:Nat} {f:Int} (hb:lA y.d) (hf0:0≤f) (hf1:f<1000000000) (hl:i+y.d.length≤o0.length) (hL:o0.length≤9000000000000):∀(t k:Nat) (out:List Int) (c:Int),k+t=y.d.length→aF7 o0 y.d i f out c k→
  ∃out' c',aF7 o0 y.d i f out' c' y.d.length∧∀K n,t<n→iF K y (i:Int) f n out c (k:Int)=some (out',c')
 |0,k,out,c,hk,hP=>by
  have:k=y.d.length:=by omega
  subst this
  refine⟨out,c,hP,fun K n hn=>?_⟩
  obtain⟨n',rfl,_⟩:=bJ hn
  simp [iF]
 |t+1,k,out,c,hk,hP=>by
  obtain⟨g1,g2,g3,g4,g5,g6,g7⟩:=hP.step (by omega) hf0 hf1 hb
  have c0:=hP.c0
  have c1:=hP.c1
  have hlo:=hP.len
  generalize hv:out.getD (i+k) 0+f*y.d.getD k 0+c=v at *
  have e1:decide ((k:Int)<(y.d.length:Int))=true:=dT (by omega)
  have e2:=b0 (xs:=y.d) (i:=k) (by omega)
  have e3:aR ((k:Int)+1)=some ((k+1:Nat):Int):=zX (m:=0) (by omega) (by omega)
  have e4:aR ((i:Int)+(k:Int))=some ((i+k:Nat):Int):=zX (m:=0) (by omega) (by omega)
  have e5:=b0 (xs:=out) (i:=i+k) (by omega)
  have e6:aR (f*y.d.getD k 0)=some (f*y.d.getD k 0):=oZ (by omega)
  have e7:aR (out.getD (i+k) 0+f*y.d.getD k 0)=some (out.getD (i+k) 0+f*y.d.getD k 0):=oZ (by omega)
  have e8:aR (out.getD (i+k) 0+f*y.d.getD k 0+c)=some v:=by rw [hv];exact oZ (by omega)
  have e9:zL v 1000000000=some (v/1000000000):=vU (by omega) (by omega) (by omega)
  have e10:aR (v/1000000000*1000000000)=some (v/1000000000*1000000000):=oZ (by omega)
  have e11:aR (v-v/1000000000*1000000000)=some (v%1000000000):=by
   rw [show v-v/1000000000*1000000000=v%1000000000 by omega];exact oZ (by omega)
  have e12:pA out ((i+k:Nat):Int) (v%1000000000)=some (out.set (i+k) (v%1000000000)):=tK (by omega)
  obtain⟨o,d,h1,h2⟩:=aIV hb hf0 hf1 hl hL t (k+1) _ _ (by omega) g7
  refine⟨o,d,h1,fun K n hn=>?_⟩
  obtain⟨n',rfl,_⟩:=bJ hn
  simp only [iF,e1,e2,e3,e4,e5,e6,e7,e8,e9,e10,e11,e12,bX,oB]
  exact h2 K n' (by omega)
structure aDr (a b out:List Int) (i:Nat):Prop where
 len:out.length=a.length+b.length
 ok:lA out
 zero:∀s,i+b.length≤s→out.getD s 0=0
 val:W out 0 (i+b.length)=W a 0 i*vD b
theorem aDr.start (a b:List Int):aDr a b (List.replicate (a.length+b.length) 0) 0 where
 len:=by simp
 ok:=fun i=>by simp only [List.getD_eq_getElem?_getD,List.getElem?_replicate];split<;>simp
 zero:=fun s _=>by simp only [List.getD_eq_getElem?_getD,List.getElem?_replicate];split<;>simp
 val:=by
  rw [aDX]
  ·simp [W]
  ·intro i _;simp only [List.getD_eq_getElem?_getD,List.getElem?_replicate];split<;>simp
theorem aDr.row {a b out:List Int} {i:Nat} (h:aDr a b out i):aF7 out b i (a.getD i 0) out 0 0 where
 len:=rfl
 ok:=h.ok
 c0:=Int.le_refl _
 c1:=by decide
 same:=fun _ _=>rfl
 val:=by simp [W]
theorem aDr.next {a b out out':List Int} {i:Nat} {c:Int} (h:aDr a b out i) (hi:i<a.length) (hr:aF7 out b i (a.getD i 0) out' c b.length):aDr a b (out'.set (i+b.length) c) (i+1) where
 len:=by simpa using hr.len.trans h.len
 ok:=hr.ok.set hr.c0 hr.c1
 zero:=fun s hs=>by
  rw [fK (by omega),hr.same s (by omega)]
  exact h.zero s (by omega)
 val:=by
  have hlen:=hr.len.trans h.len
  rw [show i+1+b.length=(i+b.length)+1 by omega,dP,Nat.zero_add,d9 (by omega),xJ (.inr (by omega)),wH,dP,Nat.zero_add]
  have h1:=hr.val
  have h2:=h.val
  rw [wH,Nat.zero_add] at h2
  have h3:W out' 0 i=W out 0 i:=aCO fun s hs=>by
   rw [Nat.zero_add];exact hr.same s (.inl hs)
  rw [h3,aBo]
  unfold vD at *
  grind
theorem aJj {x y:aB} (ha:lA x.d) (hb:lA y.d) (hL:x.d.length+y.d.length≤9000000000000):∀(t i:Nat) (out:List Int),i+t=x.d.length→aDr x.d y.d out i→
  ∃out',aDr x.d y.d out' x.d.length∧u6 (fun K k=>f0 K x y k out (i:Int)) out'
 |0,i,out,hi,hP=>by
  have:i=x.d.length:=by omega
  subst this
  refine⟨out,hP,u6.of 1 fun K n hn=>?_⟩
  obtain⟨n',rfl,_⟩:=bJ (n:=0) hn
  simp [f0]
 |t+1,i,out,hi,hP=>by
  have ha':=ha i
  have hlo:=hP.len
  obtain⟨o,c,h1,h2⟩:=aIV hb ha'.1 ha'.2 (by omega) (by omega) y.d.length 0 out 0 (by omega) hP.row
  have hlo2:=h1.len
  obtain⟨r,h3,h4⟩:=aJj ha hb hL t (i+1) _ (by omega) (hP.next (by omega) h1)
  refine⟨r,h3,u6.step ?_⟩
  have e1:decide ((i:Int)<(x.d.length:Int))=true:=dT (by omega)
  have e2:=b0 (xs:=x.d) (i:=i) (by omega)
  have e3:aR ((i:Int)+1)=some ((i+1:Nat):Int):=zX (m:=0) (by omega) (by omega)
  have e4:aR ((i:Int)+(y.d.length:Int))=some ((i+y.d.length:Nat):Int):=zX (m:=0) (by omega) (by omega)
  have e5:=b0 (xs:=o) (i:=i+y.d.length) (by omega)
  have e6:pA o ((i+y.d.length:Nat):Int) c=some (o.set (i+y.d.length) c):=tK (by omega)
  simp only [f0,e1,e2,bX,oB]
  refine u6.bind (x:=(o,c)) (f:=fun K=>iF K y (i:Int) (x.d.getD i 0) K out 0 0) ⟨y.d.length+1,fun K hK=>h2 K K (by omega)⟩ ?_
  simp only [qM,e3,e4,e5,e6,oB]
  exact h4
theorem aGk (x y:Int):(if(decide (x<0) != decide (y<0))=true then -((x.natAbs:Int)*y.natAbs) else(x.natAbs:Int)*y.natAbs)=x*y:=by
 by_cases hx:x<0<;>by_cases hy:y<0
 ·rw [dT hx,dT hy,show(x.natAbs:Int)=-x by omega,show(y.natAbs:Int)=-y by omega];simp [Int.neg_mul_neg]
 ·rw [dT hx,dF hy,show(x.natAbs:Int)=-x by omega,show(y.natAbs:Int)=y by omega];simp [Int.neg_mul]
 ·rw [dF hx,dT hy,show(x.natAbs:Int)=x by omega,show(y.natAbs:Int)=-y by omega];simp [Int.mul_neg]
 ·rw [dF hx,dF hy,show(x.natAbs:Int)=x by omega,show(y.natAbs:Int)=y by omega];simp
theorem aMa {x y:Int} (hL:dl x.natAbs+dl y.natAbs≤60000000000):Ev (fun K=>(aR (((Z x).d.length:Int)+((Z y).d.length:Int))).bind fun v16=>(y4 v16 0).bind fun x18=>(f0 K (Z x) (Z y) K x18 0).bind fun x37=>qN K (Z x) (Z y) x37) (Z (x*y)):=by
 have dx:=bQ x.natAbs
 have dy:=bQ y.natAbs
 have lx:(bS x.natAbs).length=dl x.natAbs:=rfl
 have ly:(bS y.natAbs).length=dl y.natAbs:=rfl
 obtain⟨r,h1,h2⟩:=aJj (x:=Z x) (y:=Z y) dx dy (by rw [sG,sG];omega) (Z x).d.length 0 _ (by omega) (aDr.start _ _)
 have e1:aR (((Z x).d.length:Int)+((Z y).d.length:Int))=some (((Z x).d.length+(Z y).d.length:Nat):Int):=zX (m:=0) (by omega) (by rw [sG,sG];omega)
 have e2:y4 (((Z x).d.length+(Z y).d.length:Nat):Int) (0:Int)=some (List.replicate ((Z x).d.length+(Z y).d.length) 0):=aAN (by rw [sG,sG];omega)
 simp only [e1,e2,oB]
 refine Ev.bind h2.ev ?_
 have h3:=xC ((Z x).neg != (Z y).neg) h1.ok (by rw [h1.len,sG,sG];omega)
 unfold qN
 refine Ev.bind h3 ?_
 have hv:vD r=x.natAbs*y.natAbs:=by
  have:=h1.val
  rw [←h1.len] at this
  have vx:=dI x.natAbs
  have vy:=dI y.natAbs
  unfold vD at *
  rw [this]
  show W (bS x.natAbs) 0 (bS x.natAbs).length*W (bS y.natAbs) 0 (bS y.natAbs).length=_
  rw [vx,vy]
 rw [uD,sA,sA,hv]
 have:(if(decide (x<0) != decide (y<0))=true then -((((x.natAbs:Int)*y.natAbs).toNat:Nat):Int) else((((x.natAbs:Int)*y.natAbs).toNat:Nat):Int))=x*y:=by
  have h0:0≤(x.natAbs:Int)*y.natAbs:=Int.mul_nonneg (by omega) (by omega)
  rw [Int.toNat_of_nonneg h0]
  exact aGk x y
 rw [this]
 exact Ev.pure _
theorem aFZ (K:Nat) (y:aB) (x v:Int):∀(k:Nat) (s:List Int) (c i:Int),mT K y x v k s c i=iF K y x v k s c i
 |0,_,_,_=>rfl
 |k+1,s,c,i=>by simp only [mT,iF,aFZ K y x v k]
theorem aFr (K:Nat) (x y:aB):∀(k:Nat) (s:List Int) (i:Int),lE K x y k s i=f0 K x y k s i
 |0,_,_=>rfl
 |k+1,s,i=>by simp only [lE,f0,sP,qM,aFZ,aFr K x y k]
theorem aBg {n:Nat} (h:(bS n).length=1):(bS n).getD 0 0=n∧n<1000000000:=by
 have h1:=dI n
 unfold vD at h1
 rw [h,W1] at h1
 have:=bQ n 0
 omega
theorem zH {x y:Int} (hL:dl x.natAbs+dl y.natAbs≤60000000000):Ev (fun K=>bU K (Z x) (Z y)) (Z (x*y)):=by
 have hc:=aMa hL
 unfold bU
 by_cases h1:(Z x).d.length=1
 ·have e1:(((Z x).d.length:Int)==1)=true:=qT (by omega)
  simp only [e1,bX]
  by_cases h2:(Z y).d.length=1
  ·have e2:(((Z y).d.length:Int)==1)=true:=qT (by omega)
   obtain⟨a1,a2⟩:=aBg h1
   obtain⟨b1,b2⟩:=aBg h2
   have r1:=b0 (xs:=(Z x).d) (i:=0) (by omega)
   have r2:=b0 (xs:=(Z y).d) (i:=0) (by omega)
   simp only [Int.natCast_zero] at r1 r2
   rw [Z_d] at r1 r2
   rw [a1] at r1
   rw [b1] at r2
   have hb:=aE4 (x:=(x.natAbs:Int)) (y:=(y.natAbs:Int)) (by omega) (by omega) (by omega) (by omega)
   have e3:wu (IntKind.u64.wrap (x.natAbs:Int)*IntKind.u64.wrap (y.natAbs:Int))=((x.natAbs*y.natAbs:Nat):Int):=by
    rw [IntWalk.u64_in _ ⟨by omega,by omega⟩,IntWalk.u64_in _ ⟨by omega,by omega⟩,aNM hb.1 (by omega),Int.natCast_mul]
   have hb':x.natAbs*y.natAbs≤18446744073709551615:=by
    have:((x.natAbs*y.natAbs:Nat):Int)=x.natAbs*y.natAbs:=Int.natCast_mul _ _
    omega
   refine Ev.of fun K=>?_
   rw [Z_d] at e2
   simp only [e2,bX,r1,r2,Z_d,sA,oB,e3,s0 _ hb']
   rw [uD]
   congr 2
   rw [Int.natCast_mul]
   exact aGk x y
  ·have e2:(((Z y).d.length:Int)==1)=false:=qF (by omega)
   simp only [e2,bR]
   exact hc
 ·have e1:(((Z x).d.length:Int)==1)=false:=qF (by omega)
  simp only [e1,bR,aFr]
  exact hc
end Go.Proofs.YtolfcbpgmfbgmaaGreat
