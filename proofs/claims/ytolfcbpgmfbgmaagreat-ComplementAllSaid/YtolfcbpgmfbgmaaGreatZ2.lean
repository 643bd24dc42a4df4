/- Texts of the proof, part 2: K15 I1 IZ P2 P3 P4. -/
import Derived.Test.YtolfcbpgmfbgmaaGreatProg
import Derived.KernelRfl
import Derived.IntWalk
import Derived.Test.YtolfcbpgmfbgmaaGreatZ1
set_option linter.unusedSimpArgs false
set_option linter.unusedVariables false
namespace Go.Proofs.YtolfcbpgmfbgmaaGreat
structure GC (S:Sx) (c:Code) (κ:Kt) (H:List HA) (E:sN) (Q:Prop):Prop where
 h:Q→WC S c κ H E
structure GX (S:Sx) (e:Exit) (κ:Kt) (H:List HA) (E:sN) (Q:Prop):Prop where
 h:Q→WX S e κ H E
structure GL (S:Sx) (ops:Array Oper) (κ:Kt) (l:List Oper) (H:List HA) (E:sN) (Q:Prop):Prop where
 h:Q→WL S ops κ l H E
inductive D:Prop→Prop→Prop
 |mk {P Q:Prop} (h:Q→P):D P Q
theorem D.h {P Q:Prop} (h:D P Q):Q→P:=by cases h;assumption
section
variable {S:Sx} {κ:Kt} {H:List HA} {E:sN} {Q:Prop}
theorem sC {c:Code} (k:GC S c κ H E Q):D (WC S c κ H E) Q:=⟨k.h⟩
theorem sX {e:Exit} (k:GX S e κ H E Q):D (WX S e κ H E) Q:=⟨k.h⟩
theorem sL {ops:Array Oper} {l:List Oper} (k:GL S ops κ l H E Q):D (WL S ops κ l H E) Q:=⟨k.h⟩
theorem eC {c:Code}:GC S c κ H E (WC S c κ H E):=⟨fun q=>q⟩
theorem eX {e:Exit}:GX S e κ H E (WX S e κ H E):=⟨fun q=>q⟩
theorem eL {ops:Array Oper} {l:List Oper}:GL S ops κ l H E (WL S ops κ l H E):=⟨fun q=>q⟩
theorem aQb {x y:Code} (k:GC S x (.seq y κ) H E Q):GC S (.seq x y) κ H E Q:=⟨fun q=>aC (k.h q)⟩
theorem aNc {y:Code} (k:GC S y κ H E Q):GX S .normal (.seq y κ) H E Q:=⟨fun q=>aJ (k.h q)⟩
theorem aNk (k:GX S .normal κ H E Q):GC S .skip κ H E Q:=⟨fun q=>eU (k.h q)⟩
theorem aLj {l:Nat} (k:GX S .normal κ H E Q):GC S (.label l) κ H E Q:=⟨fun q=>aO3 (k.h q)⟩
theorem aM2 {id:Nat} (k:GX S .normal κ H E Q):GX S .normal (.blk id κ) H E Q:=⟨fun q=>aCz (k.h q)⟩
theorem aLN {c:Code} (k:GC S c (.sc κ) H E Q):GC S (.scope c) κ H E Q:=⟨fun q=>aKL (k.h q)⟩
theorem aQC (k:GX S .normal κ H E Q):GX S .normal (.sc κ) H E Q:=⟨fun q=>aS4 (k.h q)⟩
theorem aP0 {id:Nat} {l:List Oper} (k:GL S l.toArray κ l H E Q):GC S (.region id l.toArray false) κ H E Q:=⟨fun q=>aH (k.h q)⟩
theorem aQw {ops:Array Oper} (k:GX S .normal κ H E Q):GL S ops κ [] H E Q:=⟨fun q=>aT (k.h q)⟩
end
def ev (E:sN):Operand→Option VP
 | .tmp d=>jG E d
 | .const (.int k n)=>some (.vc (pI k n))
 | .const (.bool b)=>some (.vc (pB b))
 |_=>none
theorem dK {E:sN}:∀{x:Operand} {p:VP},ev E x=some p→aF0 E x p
 | .tmp d,p,h=>h
 | .const (.int k n),p,h=>by cases h;exact qM k n
 | .const (.bool b),p,h=>by cases h;exact k_B b
def evs (E:sN):List Operand→Option (List VP)
 |[]=>some []
 |x::l=>(ev E x).bind fun p=>(evs E l).bind fun ps=>some (p::ps)
theorem aIb {E:sN}:∀{l:List Operand} {ps:List VP},evs E l=some ps→yD E (l.zip ps)∧l.length=ps.length
 |[],ps,h=>by cases h;exact⟨trivial,rfl⟩
 |x::l,ps,h=>by
  obtain⟨p,h1,h⟩:=Option.bind_eq_some_iff.1 h
  obtain⟨qs,h2,h⟩:=Option.bind_eq_some_iff.1 h
  cases h
  exact⟨⟨dK h1,(aIb h2).1⟩,congrArg (·+1) (aIb h2).2⟩
theorem zA {k:Nat} {l qs:List CP} (h:vI k l=some qs):qs.length=k:=(aBA h).2
inductive iI:List HA→Option Nat→HA→Prop
 |a {e:HA} {H:List HA} {β:Option Nat} (h:e.β=β):iI (e::H) β e
 |b {e x:HA} {H:List HA} {β:Option Nat} (h:iI H β e):iI (x::H) β e
theorem iI.at {H:List HA} {β:Option Nat} {e:HA} (h:iI H β e):∃i:Nat,H[i]?=some e∧e.β=β:=by
 induction h with
 |a h=>exact⟨0,rfl,h⟩
 |b _ ih=>obtain⟨i,h1,h2⟩:=ih;exact⟨i+1,by simpa using h1,h2⟩
inductive aAj:List HA→Option Nat→HA→HA→List HA→Prop
 |a {e e':HA} {H:List HA} {β:Option Nat} (h:e.β=β):aAj (e::H) β e e' (e'::H)
 |b {e e' x:HA} {H H':List HA} {β:Option Nat} (h:aAj H β e e' H'):aAj (x::H) β e e' (x::H')
theorem aAj.at {H H':List HA} {β:Option Nat} {e e':HA} (h:aAj H β e e' H'):∃i:Nat,H[i]?=some e∧e.β=β∧aAi H i e'=some H':=by
 induction h with
 |a h=>exact⟨0,rfl,h,rfl⟩
 |@b e e' x H H' β _ ih=>
  obtain⟨i,h1,h2,h3⟩:=ih
  exact⟨i+1,by simpa using h1,h2,by simp only [aAi,h3]⟩
inductive dA (ops:Array Oper) (E:sN):Option (Nat×Bool)→Prop
 |p:dA ops E none
 |g {j dj:Nat} {b:Bool} {og:Oper} (hj:ops[j]?=some og) (hdj:og.dst=some dj) (hl:jG E dj=some (.vc (pB b))):dA ops E (some (j,b))
theorem tW {α β γ:Type} {a:Option α} {b:α→Option β} {f:α→β→Option γ} {r:γ} (h:(a.bind fun x=>(b x).bind fun y=>f x y)=some r):∃x,a=some x∧∃y,b x=some y∧f x y=some r:=by
 obtain⟨x,h1,h⟩:=aM h
 exact⟨x,h1,aM h⟩
theorem bn3 {α β γ δ:Type} {a:Option α} {b:α→Option β} {c:α→β→Option γ} {f:α→β→γ→Option δ} {r:δ} (h:(a.bind fun x=>(b x).bind fun y=>(c x y).bind fun z=>f x y z)=some r):∃x,a=some x∧∃y,b x=some y∧∃z,c x y=some z∧f x y z=some r:=by
 obtain⟨x,h1,h⟩:=aM h
 exact⟨x,h1,tW h⟩
theorem bn4 {α β γ δ ε:Type} {a:Option α} {b:α→Option β} {c:α→β→Option γ} {d:α→β→γ→Option δ} {f:α→β→γ→δ→Option ε} {r:ε} (h:(a.bind fun x=>(b x).bind fun y=>(c x y).bind fun z=>(d x y z).bind fun t=>f x y z t)=some r):∃x,a=some x∧∃y,b x=some y∧∃z,c x y=some z∧∃t,d x y z=some t∧f x y z t=some r:=by
 obtain⟨x,h1,h⟩:=aM h
 exact⟨x,h1,bn3 h⟩
theorem tJ {α β:Type} {o:Option α} {f:α→Option β} {v:α} {r:β} (h:o=some v) (k:o.bind f=some r):f v=some r:=by rw [h] at k;exact k
theorem aW {α β:Type} {o:Option α} {f:α→Option β} {q:β} {C:α→Prop} (h:o.bind f=some q) (c:∀{r:α},o=some r→C r):∃v,C v∧f v=some q:=by
 obtain⟨v,h1,h⟩:=aM h
 exact⟨v,c h1,h⟩
section
variable {S:Sx} {κ:Kt} {H H':List HA} {E:sN} {ops:Array Oper} {rest:List Oper} {Q:Prop} {ty:TypeId} {pos:String} {af:Array Edge} {g:Option (Nat×Bool)} {d:Nat}
theorem lA {op:Op} {ins:List (Operand×VP)} {out:VP} (t:Tr S ⟨some d,op,ty,pos,af,g⟩ H H' ins out) (hi:yD E ins) (hg:dA ops E g) (hN:Nat.blt d S.N=true) (k:GL S ops κ rest H' ((d,out)::E) Q):GL S ops κ (⟨some d,op,ty,pos,af,g⟩::rest) H E Q:=by
 refine⟨fun q=>?_⟩
 cases hg with
 |p=>exact aI t hi (k.h q) rfl rfl hN
 |g hj hdj hl=>exact w8 t hi (k.h q) rfl hj hdj hl rfl hN
theorem b_n {op:Op} {j dj:Nat} {b b':Bool} {og:Oper} (hj:ops[j]?=some og) (hdj:og.dst=some dj) (hl:jG E dj=some (.vc (pB b'))) (hb:(b' != b)=true) (hN:Nat.blt d S.N=true) (k:GL S ops κ rest H ((d,.un)::E) Q):GL S ops κ (⟨some d,op,ty,pos,af,some (j,b)⟩::rest) H E Q:=⟨fun q=>aB5 (k.h q) rfl hj hdj hl hb rfl hN⟩
theorem b_u {op:Op} {j dj:Nat} {b:Bool} {og:Oper} (hj:ops[j]?=some og) (hdj:og.dst=some dj) (hl:jG E dj=some .un) (hN:Nat.blt d S.N=true) (k:GL S ops κ rest H ((d,.un)::E) Q):GL S ops κ (⟨some d,op,ty,pos,af,some (j,b)⟩::rest) H E Q:=⟨fun q=>aS5 (k.h q) rfl hj hdj hl rfl hN⟩
end
class Mix (P:Program):Prop where
 h:P.follows .mixedOrders=true
def uK (l:List Oper) (ms:List Nat) (E:sN) (outs:List Ou) (G:Gh) (i:Nat):Operand→Option VP
 | .tmp d=>aAH l ms E outs G i d
 | .const (.int k n)=>some (.vc (pI k n))
 | .const (.bool b)=>some (.vc (pB b))
 |_=>none
theorem bK {l:List Oper} {ms:List Nat} {E:sN} {outs:List Ou} {G:Gh} {i:Nat}:∀{x:Operand} {p:VP},uK l ms E outs G i x=some p→aQx l ms E outs G i x p
 | .tmp d,p,h=>h
 | .const (.int k n),p,h=>by cases h;exact qM k n
 | .const (.bool b),p,h=>by cases h;exact k_B b
def aQ9 (l:List Oper) (ms:List Nat) (E:sN) (outs:List Ou) (G:Gh) (i:Nat):List Operand→Option (List VP)
 |[]=>some []
 |x::r=>(uK l ms E outs G i x).bind fun p=>(aQ9 l ms E outs G i r).bind fun ps=>some (p::ps)
theorem aFz {l:List Oper} {ms:List Nat} {E:sN} {outs:List Ou} {G:Gh} {i:Nat}:∀{r:List Operand} {ps:List VP},aQ9 l ms E outs G i r=some ps→aGQ l ms E outs G i (r.zip ps)∧r.length=ps.length
 |[],ps,h=>by cases h;exact⟨trivial,rfl⟩
 |x::r,ps,h=>by
  obtain⟨p,h1,h⟩:=Option.bind_eq_some_iff.1 h
  obtain⟨qs,h2,h⟩:=Option.bind_eq_some_iff.1 h
  cases h
  exact⟨⟨bK h1,(aFz h2).1⟩,congrArg (·+1) (aFz h2).2⟩
theorem iI.app {H A:List HA} {β:Option Nat} {e:HA} (h:iI H β e):iI (H++A) β e:=by
 induction h with
 |a h=>exact .a h
 |b _ ih=>exact .b ih
inductive GD (l:List Oper) (ms:List Nat) (E:sN) (outs:List Ou) (i:Nat):Option (Nat×Bool)→Prop
 |p:GD l ms E outs i none
 |g {j d:Nat} {b:Bool} (hd:(l[j]?).bind (·.dst)=some d) (hl:∀G,aAH l ms E outs G i d=some (.vc (pB b))):GD l ms E outs i (some (j,b))
structure DN (S:Sx) (H:List HA) (l0:List Oper) (ms:List Nat) (E:sN) (outs:List Ou) (n i:Nat) (l:List Oper) (r:List Ou):Prop where
 h:aIl S (fun _ _=>H) [] l0 ms E outs i l r
 len:r.length=n
section
variable {S:Sx} {H:List HA} {l0 l:List Oper} {ms:List Nat} {E:sN} {outs r:List Ou} {n i d:Nat} {ty:TypeId} {pos:String} {af:Array Edge} {g:Option (Nat×Bool)}
theorem aQj (hr:r=[]):DN S H l0 ms E outs 0 i l r:=by subst hr;exact⟨by cases l<;>trivial,rfl⟩
theorem aHX {o:Oper} {q:Ou} (h1:o.dst.all (Nat.blt · S.N)=true) (h2:DOp S (fun _ _=>H) [] l0 ms E outs i o q) (k:DN S H l0 ms E outs n (i+1) l r):DN S H l0 ms E outs (n+1) i (o::l) (q::r):=⟨⟨⟨h1,h2⟩,k.h⟩,congrArg (·+1) k.len⟩
theorem iR {op:Op} {ins:List (Operand×VP)} {out:VP} (t:∀A,Tr S ⟨some d,op,ty,pos,af,g⟩ (H++A) (H++A) ins out) (hs:∀G,aGQ l0 ms E outs G i ins) (hN:Nat.blt d S.N=true) (hg:GD l0 ms E outs i g) (h1:mC ms [] i [0]=true) {r0:List Ou} (hr:r0=.v out::r) (k:DN S H l0 ms E outs n (i+1) l r):DN S H l0 ms E outs (n+1) i (⟨some d,op,ty,pos,af,g⟩::l) r0:=by
 subst hr
 refine aHX hN ?_ k
 cases hg with
 |p=>exact .run (L:=[0]) (ins:=fun _=>ins) ⟨fun _ A=>t A,trivial⟩ hs rfl h1 rfl
 |g hd hl=>exact .runG (L:=[0]) (ins:=fun _=>ins) ⟨fun _ A=>t A,trivial⟩ hs rfl hd hl h1 rfl
theorem e_n {r0:List Ou} {op:Op} {j dj:Nat} {b b':Bool} (hd:(l0[j]?).bind (·.dst)=some dj) (hl:∀G,aAH l0 ms E outs G i dj=some (.vc (pB b'))) (hb:(b' != b)=true) (hN:Nat.blt d S.N=true) (hr:r0=.v .un::r) (k:DN S H l0 ms E outs n (i+1) l r):DN S H l0 ms E outs (n+1) i (⟨some d,op,ty,pos,af,some (j,b)⟩::l) r0:=hr▸aHX hN (.skipN rfl hd hl hb rfl) k
theorem e_u {r0:List Ou} {op:Op} {j dj:Nat} {b:Bool} (hd:(l0[j]?).bind (·.dst)=some dj) (hl:∀G,aAH l0 ms E outs G i dj=some .un) (hN:Nat.blt d S.N=true) (hr:r0=.v .un::r) (k:DN S H l0 ms E outs n (i+1) l r):DN S H l0 ms E outs (n+1) i (⟨some d,op,ty,pos,af,some (j,b)⟩::l) r0:=hr▸aHX hN (.skipU rfl hd hl rfl) k
end
section
variable {S:Sx} {κ:Kt} {H H':List HA} {E:sN} {ops:Array Oper} {rest:List Oper} {Q:Prop} {ty:TypeId} {pos:String} {af:Array Edge} {g:Option (Nat×Bool)} {d:Nat} {l0 l:List Oper} {ms:List Nat} {outs ro:List Ou} {n i:Nat}
theorem aSp {x:Operand} {p:VP} (hx:ev E x=some p) (hN:Nat.blt d S.N=true) (hg:dA ops E g) (k:GL S ops κ rest H ((d,p)::E) Q):GL S ops κ (⟨some d,.move x,ty,pos,af,g⟩::rest) H E Q:=
 lA (aL (.inl rfl)) ⟨dK hx,trivial⟩ hg hN k
theorem aRV {x:Operand} {p:VP} (hx:∀G,uK l0 ms E outs G i x=some p) (hN:Nat.blt d S.N=true) (hg:GD l0 ms E outs i g) (h1:mC ms [] i [0]=true) {r0:List Ou} (hr:r0=.v (p)::ro) (kk:DN S H l0 ms E outs n (i+1) l ro):DN S H l0 ms E outs (n+1) i (⟨some d,.move x,ty,pos,af,g⟩::l) r0:=
 iR (fun A=>aL (.inl rfl)) (fun G=>⟨bK (hx G),trivial⟩) hN hg h1 hr kk
theorem aSe {x:Operand} {b:Bool} {w:Bool} (hx:∀G,uK l0 ms E outs G i x=some (.vc (pB b))) (hN:Nat.blt d S.N=true) (hg:GD l0 ms E outs i g) (h1:mC ms [] i [0]=true) (hb:b=w) {r0:List Ou} (hr:r0=.v (.vc (pB w))::ro) (kk:DN S H l0 ms E outs n (i+1) l ro):DN S H l0 ms E outs (n+1) i (⟨some d,.move x,ty,pos,af,g⟩::l) r0:=
 iR (fun A=>nW (aL (.inl rfl)) hb) (fun G=>⟨bK (hx G),trivial⟩) hN hg h1 hr kk
theorem aR1 {x:Operand} {p:VP} (hx:ev E x=some p) (hN:Nat.blt d S.N=true) (hg:dA ops E g) (k:GL S ops κ rest H ((d,p)::E) Q):GL S ops κ (⟨some d,.assign x,ty,pos,af,g⟩::rest) H E Q:=
 lA (aL (.inr rfl)) ⟨dK hx,trivial⟩ hg hN k
theorem aRR {x:Operand} {p:VP} (hx:∀G,uK l0 ms E outs G i x=some p) (hN:Nat.blt d S.N=true) (hg:GD l0 ms E outs i g) (h1:mC ms [] i [0]=true) {r0:List Ou} (hr:r0=.v (p)::ro) (kk:DN S H l0 ms E outs n (i+1) l ro):DN S H l0 ms E outs (n+1) i (⟨some d,.assign x,ty,pos,af,g⟩::l) r0:=
 iR (fun A=>aL (.inr rfl)) (fun G=>⟨bK (hx G),trivial⟩) hN hg h1 hr kk
theorem aR4 {x:Operand} {b:Bool} {w:Bool} (hx:∀G,uK l0 ms E outs G i x=some (.vc (pB b))) (hN:Nat.blt d S.N=true) (hg:GD l0 ms E outs i g) (h1:mC ms [] i [0]=true) (hb:b=w) {r0:List Ou} (hr:r0=.v (.vc (pB w))::ro) (kk:DN S H l0 ms E outs n (i+1) l ro):DN S H l0 ms E outs (n+1) i (⟨some d,.assign x,ty,pos,af,g⟩::l) r0:=
 iR (fun A=>nW (aL (.inr rfl)) hb) (fun G=>⟨bK (hx G),trivial⟩) hN hg h1 hr kk
theorem aSH {α:Type} {C:Cd α} {t e bytes:Nat} {x y:Operand} {xs:List α} {j:Int} {z:α} {k:IntKind} (hx:ev E x=some (.vc (pS C xs))) (hy:ev E y=some (.vc (pI k j))) (ht:TyS S.P t e C.n bytes) (hN:Nat.blt d S.N=true) (hg:dA ops E g) (hj:bF xs j=some z) (k:GL S ops κ rest H ((d,.vc (pM (C.e z)))::E) Q):GL S ops κ (⟨some d,.indexAddr t x y,ty,pos,af,g⟩::rest) H E Q:=
 lA (zS rfl ht hj) ⟨dK hx,dK hy,trivial⟩ hg hN k
theorem aSy {α:Type} {C:Cd α} {t e bytes:Nat} {x y:Operand} {xs:List α} {j:Int} {z:α} {k:IntKind} (hx:∀G,uK l0 ms E outs G i x=some (.vc (pS C xs))) (hy:∀G,uK l0 ms E outs G i y=some (.vc (pI k j))) (ht:TyS S.P t e C.n bytes) (hN:Nat.blt d S.N=true) (hg:GD l0 ms E outs i g) (h1:mC ms [] i [0]=true) (hj:bF xs j=some z) {r0:List Ou} (hr:r0=.v (.vc (pM (C.e z)))::ro) (kk:DN S H l0 ms E outs n (i+1) l ro):DN S H l0 ms E outs (n+1) i (⟨some d,.indexAddr t x y,ty,pos,af,g⟩::l) r0:=
 iR (fun A=>zS rfl ht hj) (fun G=>⟨bK (hx G),bK (hy G),trivial⟩) hN hg h1 hr kk
theorem aPH {s f k:Nat} {x:Operand} {ps:List CP} (hx:ev E x=some (.vc (pM ps))) (hf:TyF S.P s f k) (hN:Nat.blt d S.N=true) (hg:dA ops E g) (k:GL S ops κ rest H ((d,.vc (pM (ps.drop k)))::E) Q):GL S ops κ (⟨some d,.fieldAddr s x f,ty,pos,af,g⟩::rest) H E Q:=
 lA (aNL rfl hf) ⟨dK hx,trivial⟩ hg hN k
theorem aQy {s f k:Nat} {x:Operand} {ps:List CP} (hx:∀G,uK l0 ms E outs G i x=some (.vc (pM ps))) (hf:TyF S.P s f k) (hN:Nat.blt d S.N=true) (hg:GD l0 ms E outs i g) (h1:mC ms [] i [0]=true) {r0:List Ou} (hr:r0=.v (.vc (pM (ps.drop k)))::ro) (kk:DN S H l0 ms E outs n (i+1) l ro):DN S H l0 ms E outs (n+1) i (⟨some d,.fieldAddr s x f,ty,pos,af,g⟩::l) r0:=
 iR (fun A=>aNL rfl hf) (fun G=>⟨bK (hx G),trivial⟩) hN hg h1 hr kk
theorem aSk {s f off k:Nat} {x:Operand} {β:Option Nat} (hx:ev E x=some (.vc (pP β off))) (hf:TyF S.P s f k) (hN:Nat.blt d S.N=true) (hg:dA ops E g) (k:GL S ops κ rest H ((d,.vc (pP β (off+k)))::E) Q):GL S ops κ (⟨some d,.fieldAddr s x f,ty,pos,af,g⟩::rest) H E Q:=
 lA (gV rfl hf) ⟨dK hx,trivial⟩ hg hN k
theorem aS3 {s f off k:Nat} {x:Operand} {β:Option Nat} (hx:∀G,uK l0 ms E outs G i x=some (.vc (pP β off))) (hf:TyF S.P s f k) (hN:Nat.blt d S.N=true) (hg:GD l0 ms E outs i g) (h1:mC ms [] i [0]=true) {r0:List Ou} (hr:r0=.v (.vc (pP β (off+k)))::ro) (kk:DN S H l0 ms E outs n (i+1) l ro):DN S H l0 ms E outs (n+1) i (⟨some d,.fieldAddr s x f,ty,pos,af,g⟩::l) r0:=
 iR (fun A=>gV rfl hf) (fun G=>⟨bK (hx G),trivial⟩) hN hg h1 hr kk
theorem aQI {s f n off k:Nat} {x:Operand} {β:Option Nat} {j:Int} (hx:ev E x=some (.vc (pE β j n off))) (hf:TyF S.P s f k) (hN:Nat.blt d S.N=true) (hg:dA ops E g) (k:GL S ops κ rest H ((d,.vc (pE β j n (off+k)))::E) Q):GL S ops κ (⟨some d,.fieldAddr s x f,ty,pos,af,g⟩::rest) H E Q:=
 lA (aHK rfl hf) ⟨dK hx,trivial⟩ hg hN k
theorem aPZ {s f n off k:Nat} {x:Operand} {β:Option Nat} {j:Int} (hx:∀G,uK l0 ms E outs G i x=some (.vc (pE β j n off))) (hf:TyF S.P s f k) (hN:Nat.blt d S.N=true) (hg:GD l0 ms E outs i g) (h1:mC ms [] i [0]=true) {r0:List Ou} (hr:r0=.v (.vc (pE β j n (off+k)))::ro) (kk:DN S H l0 ms E outs n (i+1) l ro):DN S H l0 ms E outs (n+1) i (⟨some d,.fieldAddr s x f,ty,pos,af,g⟩::l) r0:=
 iR (fun A=>aHK rfl hf) (fun G=>⟨bK (hx G),trivial⟩) hN hg h1 hr kk
theorem aQE {t:Nat} {x:Operand} {ps:List CP} {q:CP} (hx:ev E x=some (.vc (pM ps))) (ht:Ty1 S.P t) (hq:vI 1 ps=some [q]) (hN:Nat.blt d S.N=true) (hg:dA ops E g) (k:GL S ops κ rest H ((d,.vc q)::E) Q):GL S ops κ (⟨some d,.load t x,ty,pos,af,g⟩::rest) H E Q:=
 lA (x0 1 rfl hq (.one ht)) ⟨dK hx,trivial⟩ hg hN k
theorem aP9 {t:Nat} {x:Operand} {ps:List CP} {q:CP} (hx:∀G,uK l0 ms E outs G i x=some (.vc (pM ps))) (ht:Ty1 S.P t) (hq:vI 1 ps=some [q]) (hN:Nat.blt d S.N=true) (hg:GD l0 ms E outs i g) (h1:mC ms [] i [0]=true) {r0:List Ou} (hr:r0=.v (.vc q)::ro) (kk:DN S H l0 ms E outs n (i+1) l ro):DN S H l0 ms E outs (n+1) i (⟨some d,.load t x,ty,pos,af,g⟩::l) r0:=
 iR (fun A=>x0 1 rfl hq (.one ht)) (fun G=>⟨bK (hx G),trivial⟩) hN hg h1 hr kk
theorem aQm {t q:Nat} {x:Operand} {ps qs:List CP} (hx:ev E x=some (.vc (pM ps))) (ht:TyA S.P t q) (hq:vI q ps=some qs) (hN:Nat.blt d S.N=true) (hg:dA ops E g) (k:GL S ops κ rest H ((d,.va qs)::E) Q):GL S ops κ (⟨some d,.load t x,ty,pos,af,g⟩::rest) H E Q:=
 lA (x0 q rfl hq (.agg ht (zA hq))) ⟨dK hx,trivial⟩ hg hN k
theorem aQG {t q:Nat} {x:Operand} {ps qs:List CP} (hx:∀G,uK l0 ms E outs G i x=some (.vc (pM ps))) (ht:TyA S.P t q) (hq:vI q ps=some qs) (hN:Nat.blt d S.N=true) (hg:GD l0 ms E outs i g) (h1:mC ms [] i [0]=true) {r0:List Ou} (hr:r0=.v (.va qs)::ro) (kk:DN S H l0 ms E outs n (i+1) l ro):DN S H l0 ms E outs (n+1) i (⟨some d,.load t x,ty,pos,af,g⟩::l) r0:=
 iR (fun A=>x0 q rfl hq (.agg ht (zA hq))) (fun G=>⟨bK (hx G),trivial⟩) hN hg h1 hr kk
theorem aSS {t off:Nat} {x:Operand} {β:Option Nat} {e:HA} {q:CP} (hx:ev E x=some (.vc (pP β off))) (ht:Ty1 S.P t) (hi:iI H β e) (hq:vI 1 (e.ps.drop off)=some [q]) (hN:Nat.blt d S.N=true) (hg:dA ops E g) (k:GL S ops κ rest H ((d,.vc q)::E) Q):GL S ops κ (⟨some d,.load t x,ty,pos,af,g⟩::rest) H E Q:=by
 obtain⟨i,hi1,hi2⟩:=hi.at
 exact lA (gC i 1 rfl hi1 hi2 hq (.one ht)) ⟨dK hx,trivial⟩ hg hN k
theorem aSP {t off:Nat} {x:Operand} {β:Option Nat} {e:HA} {q:CP} (hx:∀G,uK l0 ms E outs G i x=some (.vc (pP β off))) (ht:Ty1 S.P t) (hi:iI H β e) (hq:vI 1 (e.ps.drop off)=some [q]) (hN:Nat.blt d S.N=true) (hg:GD l0 ms E outs i g) (h1:mC ms [] i [0]=true) {r0:List Ou} (hr:r0=.v (.vc q)::ro) (kk:DN S H l0 ms E outs n (i+1) l ro):DN S H l0 ms E outs (n+1) i (⟨some d,.load t x,ty,pos,af,g⟩::l) r0:=by
 refine iR (ins:=[(x,(.vc (pP β off)))]) (fun A=>?_) (fun G=>⟨bK (hx G),trivial⟩) hN hg h1 hr kk
 obtain⟨i,hi1,hi2⟩:=(hi.app (A:=A)).at
 exact gC i 1 rfl hi1 hi2 hq (.one ht)
theorem aR8 {t m off:Nat} {x:Operand} {β:Option Nat} {e:HA} {qs:List CP} (hx:ev E x=some (.vc (pP β off))) (ht:TyA S.P t m) (hi:iI H β e) (hq:vI m (e.ps.drop off)=some qs) (hN:Nat.blt d S.N=true) (hg:dA ops E g) (k:GL S ops κ rest H ((d,.va qs)::E) Q):GL S ops κ (⟨some d,.load t x,ty,pos,af,g⟩::rest) H E Q:=by
 obtain⟨i,hi1,hi2⟩:=hi.at
 exact lA (gC i m rfl hi1 hi2 hq (.agg ht (zA hq))) ⟨dK hx,trivial⟩ hg hN k
theorem aSs {t m off:Nat} {x:Operand} {β:Option Nat} {e:HA} {qs:List CP} (hx:∀G,uK l0 ms E outs G i x=some (.vc (pP β off))) (ht:TyA S.P t m) (hi:iI H β e) (hq:vI m (e.ps.drop off)=some qs) (hN:Nat.blt d S.N=true) (hg:GD l0 ms E outs i g) (h1:mC ms [] i [0]=true) {r0:List Ou} (hr:r0=.v (.va qs)::ro) (kk:DN S H l0 ms E outs n (i+1) l ro):DN S H l0 ms E outs (n+1) i (⟨some d,.load t x,ty,pos,af,g⟩::l) r0:=by
 refine iR (ins:=[(x,(.vc (pP β off)))]) (fun A=>?_) (fun G=>⟨bK (hx G),trivial⟩) hN hg h1 hr kk
 obtain⟨i,hi1,hi2⟩:=(hi.app (A:=A)).at
 exact gC i m rfl hi1 hi2 hq (.agg ht (zA hq))
theorem aPC {α:Type} {C:Cd α} {xs:List α} {β:Option Nat} {c T n1:Nat} {t e bytes:Nat} {x y:Operand} {j:Int} {k:IntKind} {z:α} (hx:ev E x=some (.vc (pO β n1 c))) (hy:ev E y=some (.vc (pI k j))) (hi:iI H β (hO C β c T n1 xs)) (hn:xs.length=n1) (ht:TyS S.P t e C.n bytes) (hN:Nat.blt d S.N=true) (hg:dA ops E g) (hj:bF xs j=some z) (k:GL S ops κ rest H ((d,.vc (pE β j C.n 0))::E) Q):GL S ops κ (⟨some d,.indexAddr t x y,ty,pos,af,g⟩::rest) H E Q:=by
 obtain⟨i,hi1,hi2⟩:=hi.at
 exact lA (cY i rfl ht hi1 hn (aD hj).1 (aD hj).2.1) ⟨dK hx,dK hy,trivial⟩ hg hN k
theorem aQB {α:Type} {C:Cd α} {xs:List α} {β:Option Nat} {c T n1:Nat} {t e bytes:Nat} {x y:Operand} {j:Int} {k:IntKind} {z:α} (hx:∀G,uK l0 ms E outs G i x=some (.vc (pO β n1 c))) (hy:∀G,uK l0 ms E outs G i y=some (.vc (pI k j))) (hi:iI H β (hO C β c T n1 xs)) (hn:xs.length=n1) (ht:TyS S.P t e C.n bytes) (hN:Nat.blt d S.N=true) (hg:GD l0 ms E outs i g) (h1:mC ms [] i [0]=true) (hj:bF xs j=some z) {r0:List Ou} (hr:r0=.v (.vc (pE β j C.n 0))::ro) (kk:DN S H l0 ms E outs n (i+1) l ro):DN S H l0 ms E outs (n+1) i (⟨some d,.indexAddr t x y,ty,pos,af,g⟩::l) r0:=by
 refine iR (ins:=[(x,(.vc (pO β n1 c))),(y,(.vc (pI k j)))]) (fun A=>?_) (fun G=>⟨bK (hx G),bK (hy G),trivial⟩) hN hg h1 hr kk
 obtain⟨i,hi1,hi2⟩:=(hi.app (A:=A)).at
 exact cY i rfl ht hi1 hn (aD hj).1 (aD hj).2.1
theorem aQd {α:Type} {C:Cd α} {xs:List α} {β:Option Nat} {c T n1:Nat} {t e k bytes:Nat} {x:Operand} (hx:ev E x=some (.vc (pO β n1 c))) (hi:iI H β (hO C β c T n1 xs)) (hn:xs.length=n1) (ht:TyS S.P t e k bytes) (hN:Nat.blt d S.N=true) (hg:dA ops E g) (k:GL S ops κ rest H ((d,.vc (pI .i64 xs.length))::E) Q):GL S ops κ (⟨some d,.call {callee:=.builtin .len,args:=#[x],argTypes:=#[t]},ty,pos,af,g⟩::rest) H E Q:=by
 obtain⟨i,hi1,hi2⟩:=hi.at
 exact lA (aB3 (C:=C) (T:=T) rfl ht hn) ⟨dK hx,trivial⟩ hg hN k
theorem aP1 {α:Type} {C:Cd α} {xs:List α} {β:Option Nat} {c T n1:Nat} {t e k bytes:Nat} {x:Operand} (hx:∀G,uK l0 ms E outs G i x=some (.vc (pO β n1 c))) (hi:iI H β (hO C β c T n1 xs)) (hn:xs.length=n1) (ht:TyS S.P t e k bytes) (hN:Nat.blt d S.N=true) (hg:GD l0 ms E outs i g) (h1:mC ms [] i [0]=true) {r0:List Ou} (hr:r0=.v (.vc (pI .i64 xs.length))::ro) (kk:DN S H l0 ms E outs n (i+1) l ro):DN S H l0 ms E outs (n+1) i (⟨some d,.call {callee:=.builtin .len,args:=#[x],argTypes:=#[t]},ty,pos,af,g⟩::l) r0:=by
 refine iR (ins:=[(x,(.vc (pO β n1 c)))]) (fun A=>?_) (fun G=>⟨bK (hx G),trivial⟩) hN hg h1 hr kk
 obtain⟨i,hi1,hi2⟩:=(hi.app (A:=A)).at
 exact aB3 (C:=C) (T:=T) rfl ht hn
theorem aOa {α:Type} {C:Cd α} {xs:List α} {β:Option Nat} {c T n1:Nat} {t off m:Nat} {x:Operand} {j:Int} {z:α} {q:CP} (hx:ev E x=some (.vc (pE β j m off))) (hi:iI H β (hO C β c T n1 xs)) (hm:C.n=m) (hj:bF xs j=some z) (ht:Ty1 S.P t) (hq:vI 1 ((C.e z).drop off)=some [q]) (hC:Nat.ble (off+1) C.n=true) (hN:Nat.blt d S.N=true) (hg:dA ops E g) (k:GL S ops κ rest H ((d,.vc q)::E) Q):GL S ops κ (⟨some d,.load t x,ty,pos,af,g⟩::rest) H E Q:=by
 subst hm;obtain⟨i,hi1,hi2⟩:=hi.at
 exact lA (iD (k:=1) i rfl hi1 hj hq (.one ht) hC) ⟨dK hx,trivial⟩ hg hN k
theorem aND {α:Type} {C:Cd α} {xs:List α} {β:Option Nat} {c T n1:Nat} {t off m:Nat} {x:Operand} {j:Int} {z:α} {q:CP} (hx:∀G,uK l0 ms E outs G i x=some (.vc (pE β j m off))) (hi:iI H β (hO C β c T n1 xs)) (hm:C.n=m) (hj:bF xs j=some z) (ht:Ty1 S.P t) (hq:vI 1 ((C.e z).drop off)=some [q]) (hC:Nat.ble (off+1) C.n=true) (hN:Nat.blt d S.N=true) (hg:GD l0 ms E outs i g) (h1:mC ms [] i [0]=true) {r0:List Ou} (hr:r0=.v (.vc q)::ro) (kk:DN S H l0 ms E outs n (i+1) l ro):DN S H l0 ms E outs (n+1) i (⟨some d,.load t x,ty,pos,af,g⟩::l) r0:=by
 subst hm;refine iR (ins:=[(x,(.vc (pE β j C.n off)))]) (fun A=>?_) (fun G=>⟨bK (hx G),trivial⟩) hN hg h1 hr kk
 obtain⟨i,hi1,hi2⟩:=(hi.app (A:=A)).at
 exact iD (k:=1) i rfl hi1 hj hq (.one ht) hC
theorem aMV {α:Type} {C:Cd α} {xs:List α} {β:Option Nat} {c T n1:Nat} {t off m u:Nat} {x:Operand} {j:Int} {z:α} {qs:List CP} (hx:ev E x=some (.vc (pE β j m off))) (hi:iI H β (hO C β c T n1 xs)) (hm:C.n=m) (hj:bF xs j=some z) (ht:TyA S.P t u) (hq:vI u ((C.e z).drop off)=some qs) (hC:Nat.ble (off+u) C.n=true) (hN:Nat.blt d S.N=true) (hg:dA ops E g) (k:GL S ops κ rest H ((d,.va qs)::E) Q):GL S ops κ (⟨some d,.load t x,ty,pos,af,g⟩::rest) H E Q:=by
 subst hm;obtain⟨i,hi1,hi2⟩:=hi.at
 exact lA (iD (k:=u) i rfl hi1 hj hq (.agg ht (zA hq)) hC) ⟨dK hx,trivial⟩ hg hN k
theorem aN0 {α:Type} {C:Cd α} {xs:List α} {β:Option Nat} {c T n1:Nat} {t off m u:Nat} {x:Operand} {j:Int} {z:α} {qs:List CP} (hx:∀G,uK l0 ms E outs G i x=some (.vc (pE β j m off))) (hi:iI H β (hO C β c T n1 xs)) (hm:C.n=m) (hj:bF xs j=some z) (ht:TyA S.P t u) (hq:vI u ((C.e z).drop off)=some qs) (hC:Nat.ble (off+u) C.n=true) (hN:Nat.blt d S.N=true) (hg:GD l0 ms E outs i g) (h1:mC ms [] i [0]=true) {r0:List Ou} (hr:r0=.v (.va qs)::ro) (kk:DN S H l0 ms E outs n (i+1) l ro):DN S H l0 ms E outs (n+1) i (⟨some d,.load t x,ty,pos,af,g⟩::l) r0:=by
 subst hm;refine iR (ins:=[(x,(.vc (pE β j C.n off)))]) (fun A=>?_) (fun G=>⟨bK (hx G),trivial⟩) hN hg h1 hr kk
 obtain⟨i,hi1,hi2⟩:=(hi.app (A:=A)).at
 exact iD (k:=u) i rfl hi1 hj hq (.agg ht (zA hq)) hC
theorem ty1s {P:Program} {t:Nat} [h:Ty1 P t]:(P.info? t).map (·.size)=some 1:=h.s
theorem tyAs {P:Program} {t k:Nat} [h:TyA P t k]:(P.info? t).map (·.size)=some k:=h.s
theorem aLV {α:Type} {C:Cd α} {xs zs:List α} {β:Option Nat} {c T n1:Nat} {t off m u:Nat} {x y:Operand} {j:Int} {z z':α} {p:VP} (hx:ev E x=some (.vc (pE β j m off))) (hy:ev E y=some p) (hi:iI H β (hO C β c T n1 xs)) (hm:C.n=m) (hj:bF xs j=some z) (hs:qL xs j z'=some zs) (hT:(S.P.info? t).map (·.size)=some u) (hr:aAj H β (hO C β c T n1 xs) (hO C β c T n1 zs) H') (hp:p.flat) (hk:p.cells.length=u) (hq:yX (C.e z) off p.cells=some (C.e z')) (k:GL S ops κ rest H' E Q):GL S ops κ (⟨none,.store t x y,ty,pos,af,none⟩::rest) H E Q:=by
 obtain⟨i,h1,h2,h3⟩:=hr.at
 subst hm
 exact⟨fun q=>mD (yM i rfl h1 hj hs hT hp hk hq h3) ⟨dK hx,dK hy,trivial⟩ (k.h q) rfl rfl⟩
theorem aSK {α:Type} {C:Cd α} {xs:List α} {t e q bytes:Nat} {x:Operand} (hx:ev E x=some (.vc (pS C xs))) (ht:TyS S.P t e q bytes) (hN:Nat.blt d S.N=true) (hg:dA ops E g) (k:GL S ops κ rest H ((d,.vc (pI .i64 xs.length))::E) Q):GL S ops κ (⟨some d,.call {callee:=.builtin .len,args:=#[x],argTypes:=#[t]},ty,pos,af,g⟩::rest) H E Q:=
 lA (aJs rfl ht) ⟨dK hx,trivial⟩ hg hN k
theorem aSv {α:Type} {C:Cd α} {xs:List α} {t e q bytes:Nat} {x:Operand} (hx:∀G,uK l0 ms E outs G i x=some (.vc (pS C xs))) (ht:TyS S.P t e q bytes) (hN:Nat.blt d S.N=true) (hg:GD l0 ms E outs i g) (h1:mC ms [] i [0]=true) {r0:List Ou} (hr:r0=.v (.vc (pI .i64 xs.length))::ro) (kk:DN S H l0 ms E outs n (i+1) l ro):DN S H l0 ms E outs (n+1) i (⟨some d,.call {callee:=.builtin .len,args:=#[x],argTypes:=#[t]},ty,pos,af,g⟩::l) r0:=
 iR (fun A=>aJs rfl ht) (fun G=>⟨bK (hx G),trivial⟩) hN hg h1 hr kk
theorem aSW {T T':Nat} {x y:Operand} {u v:Int} {k:IntKind} (hx:ev E x=some (.vc (pI k u))) (hy:ev E y=some (.vc (pI k v))) (hN:Nat.blt d S.N=true) (hg:dA ops E g) (k:GL S ops κ rest H ((d,.vc (pB (decide (u<v))))::E) Q):GL S ops κ (⟨some d,.binOp .lss T x y T',ty,pos,af,g⟩::rest) H E Q:=
 lA (aHL rfl) ⟨dK hx,dK hy,trivial⟩ hg hN k
theorem aSA {T T':Nat} {x y:Operand} {u v:Int} {k:IntKind} (hx:∀G,uK l0 ms E outs G i x=some (.vc (pI k u))) (hy:∀G,uK l0 ms E outs G i y=some (.vc (pI k v))) (hN:Nat.blt d S.N=true) (hg:GD l0 ms E outs i g) (h1:mC ms [] i [0]=true) {r0:List Ou} (hr:r0=.v (.vc (pB (decide (u<v))))::ro) (kk:DN S H l0 ms E outs n (i+1) l ro):DN S H l0 ms E outs (n+1) i (⟨some d,.binOp .lss T x y T',ty,pos,af,g⟩::l) r0:=
 iR (fun A=>aHL rfl) (fun G=>⟨bK (hx G),bK (hy G),trivial⟩) hN hg h1 hr kk
theorem aSZ {T T':Nat} {x y:Operand} {u v:Int} {k:IntKind} {w:Bool} (hx:∀G,uK l0 ms E outs G i x=some (.vc (pI k u))) (hy:∀G,uK l0 ms E outs G i y=some (.vc (pI k v))) (hN:Nat.blt d S.N=true) (hg:GD l0 ms E outs i g) (h1:mC ms [] i [0]=true) (hb:(decide (u<v))=w) {r0:List Ou} (hr:r0=.v (.vc (pB w))::ro) (kk:DN S H l0 ms E outs n (i+1) l ro):DN S H l0 ms E outs (n+1) i (⟨some d,.binOp .lss T x y T',ty,pos,af,g⟩::l) r0:=
 iR (fun A=>nW (aHL rfl) hb) (fun G=>⟨bK (hx G),bK (hy G),trivial⟩) hN hg h1 hr kk
theorem aSm {T T':Nat} {x y:Operand} {u v:Int} {k:IntKind} (hx:ev E x=some (.vc (pI k u))) (hy:ev E y=some (.vc (pI k v))) (hN:Nat.blt d S.N=true) (hg:dA ops E g) (k:GL S ops κ rest H ((d,.vc (pB (u==v)))::E) Q):GL S ops κ (⟨some d,.binOp .eql T x y T',ty,pos,af,g⟩::rest) H E Q:=
 lA (aOR rfl) ⟨dK hx,dK hy,trivial⟩ hg hN k
theorem aSJ {T T':Nat} {x y:Operand} {u v:Int} {k:IntKind} (hx:∀G,uK l0 ms E outs G i x=some (.vc (pI k u))) (hy:∀G,uK l0 ms E outs G i y=some (.vc (pI k v))) (hN:Nat.blt d S.N=true) (hg:GD l0 ms E outs i g) (h1:mC ms [] i [0]=true) {r0:List Ou} (hr:r0=.v (.vc (pB (u==v)))::ro) (kk:DN S H l0 ms E outs n (i+1) l ro):DN S H l0 ms E outs (n+1) i (⟨some d,.binOp .eql T x y T',ty,pos,af,g⟩::l) r0:=
 iR (fun A=>aOR rfl) (fun G=>⟨bK (hx G),bK (hy G),trivial⟩) hN hg h1 hr kk
theorem aSn {T T':Nat} {x y:Operand} {u v:Int} {k:IntKind} {w:Bool} (hx:∀G,uK l0 ms E outs G i x=some (.vc (pI k u))) (hy:∀G,uK l0 ms E outs G i y=some (.vc (pI k v))) (hN:Nat.blt d S.N=true) (hg:GD l0 ms E outs i g) (h1:mC ms [] i [0]=true) (hb:(u==v)=w) {r0:List Ou} (hr:r0=.v (.vc (pB w))::ro) (kk:DN S H l0 ms E outs n (i+1) l ro):DN S H l0 ms E outs (n+1) i (⟨some d,.binOp .eql T x y T',ty,pos,af,g⟩::l) r0:=
 iR (fun A=>nW (aOR rfl) hb) (fun G=>⟨bK (hx G),bK (hy G),trivial⟩) hN hg h1 hr kk
theorem aSF {T T':Nat} {x y:Operand} {u v:Int} {k:IntKind} (hx:ev E x=some (.vc (pI k u))) (hy:ev E y=some (.vc (pI k v))) (hN:Nat.blt d S.N=true) (hg:dA ops E g) (k:GL S ops κ rest H ((d,.vc (pB (u != v)))::E) Q):GL S ops κ (⟨some d,.binOp .neq T x y T',ty,pos,af,g⟩::rest) H E Q:=
 lA (aNp rfl) ⟨dK hx,dK hy,trivial⟩ hg hN k
theorem aSL {T T':Nat} {x y:Operand} {u v:Int} {k:IntKind} (hx:∀G,uK l0 ms E outs G i x=some (.vc (pI k u))) (hy:∀G,uK l0 ms E outs G i y=some (.vc (pI k v))) (hN:Nat.blt d S.N=true) (hg:GD l0 ms E outs i g) (h1:mC ms [] i [0]=true) {r0:List Ou} (hr:r0=.v (.vc (pB (u != v)))::ro) (kk:DN S H l0 ms E outs n (i+1) l ro):DN S H l0 ms E outs (n+1) i (⟨some d,.binOp .neq T x y T',ty,pos,af,g⟩::l) r0:=
 iR (fun A=>aNp rfl) (fun G=>⟨bK (hx G),bK (hy G),trivial⟩) hN hg h1 hr kk
theorem aSw {T T':Nat} {x y:Operand} {u v:Int} {k:IntKind} {w:Bool} (hx:∀G,uK l0 ms E outs G i x=some (.vc (pI k u))) (hy:∀G,uK l0 ms E outs G i y=some (.vc (pI k v))) (hN:Nat.blt d S.N=true) (hg:GD l0 ms E outs i g) (h1:mC ms [] i [0]=true) (hb:(u != v)=w) {r0:List Ou} (hr:r0=.v (.vc (pB w))::ro) (kk:DN S H l0 ms E outs n (i+1) l ro):DN S H l0 ms E outs (n+1) i (⟨some d,.binOp .neq T x y T',ty,pos,af,g⟩::l) r0:=
 iR (fun A=>nW (aNp rfl) hb) (fun G=>⟨bK (hx G),bK (hy G),trivial⟩) hN hg h1 hr kk
theorem aSh {T T':Nat} {x y:Operand} {u v:Int} {k:IntKind} (hx:ev E x=some (.vc (pI k u))) (hy:ev E y=some (.vc (pI k v))) (hN:Nat.blt d S.N=true) (hg:dA ops E g) (k:GL S ops κ rest H ((d,.vc (pB (decide (u≤v))))::E) Q):GL S ops κ (⟨some d,.binOp .leq T x y T',ty,pos,af,g⟩::rest) H E Q:=
 lA (aON rfl) ⟨dK hx,dK hy,trivial⟩ hg hN k
theorem aSr {T T':Nat} {x y:Operand} {u v:Int} {k:IntKind} (hx:∀G,uK l0 ms E outs G i x=some (.vc (pI k u))) (hy:∀G,uK l0 ms E outs G i y=some (.vc (pI k v))) (hN:Nat.blt d S.N=true) (hg:GD l0 ms E outs i g) (h1:mC ms [] i [0]=true) {r0:List Ou} (hr:r0=.v (.vc (pB (decide (u≤v))))::ro) (kk:DN S H l0 ms E outs n (i+1) l ro):DN S H l0 ms E outs (n+1) i (⟨some d,.binOp .leq T x y T',ty,pos,af,g⟩::l) r0:=
 iR (fun A=>aON rfl) (fun G=>⟨bK (hx G),bK (hy G),trivial⟩) hN hg h1 hr kk
theorem aRP {T T':Nat} {x y:Operand} {u v:Int} {k:IntKind} {w:Bool} (hx:∀G,uK l0 ms E outs G i x=some (.vc (pI k u))) (hy:∀G,uK l0 ms E outs G i y=some (.vc (pI k v))) (hN:Nat.blt d S.N=true) (hg:GD l0 ms E outs i g) (h1:mC ms [] i [0]=true) (hb:(decide (u≤v))=w) {r0:List Ou} (hr:r0=.v (.vc (pB w))::ro) (kk:DN S H l0 ms E outs n (i+1) l ro):DN S H l0 ms E outs (n+1) i (⟨some d,.binOp .leq T x y T',ty,pos,af,g⟩::l) r0:=
 iR (fun A=>nW (aON rfl) hb) (fun G=>⟨bK (hx G),bK (hy G),trivial⟩) hN hg h1 hr kk
theorem aSN {T T':Nat} {x y:Operand} {u v:Int} {k:IntKind} (hx:ev E x=some (.vc (pI k u))) (hy:ev E y=some (.vc (pI k v))) (hN:Nat.blt d S.N=true) (hg:dA ops E g) (k:GL S ops κ rest H ((d,.vc (pB (decide (v<u))))::E) Q):GL S ops κ (⟨some d,.binOp .gtr T x y T',ty,pos,af,g⟩::rest) H E Q:=
 lA (aMd rfl) ⟨dK hx,dK hy,trivial⟩ hg hN k
theorem aRU {T T':Nat} {x y:Operand} {u v:Int} {k:IntKind} (hx:∀G,uK l0 ms E outs G i x=some (.vc (pI k u))) (hy:∀G,uK l0 ms E outs G i y=some (.vc (pI k v))) (hN:Nat.blt d S.N=true) (hg:GD l0 ms E outs i g) (h1:mC ms [] i [0]=true) {r0:List Ou} (hr:r0=.v (.vc (pB (decide (v<u))))::ro) (kk:DN S H l0 ms E outs n (i+1) l ro):DN S H l0 ms E outs (n+1) i (⟨some d,.binOp .gtr T x y T',ty,pos,af,g⟩::l) r0:=
 iR (fun A=>aMd rfl) (fun G=>⟨bK (hx G),bK (hy G),trivial⟩) hN hg h1 hr kk
theorem aSY {T T':Nat} {x y:Operand} {u v:Int} {k:IntKind} {w:Bool} (hx:∀G,uK l0 ms E outs G i x=some (.vc (pI k u))) (hy:∀G,uK l0 ms E outs G i y=some (.vc (pI k v))) (hN:Nat.blt d S.N=true) (hg:GD l0 ms E outs i g) (h1:mC ms [] i [0]=true) (hb:(decide (v<u))=w) {r0:List Ou} (hr:r0=.v (.vc (pB w))::ro) (kk:DN S H l0 ms E outs n (i+1) l ro):DN S H l0 ms E outs (n+1) i (⟨some d,.binOp .gtr T x y T',ty,pos,af,g⟩::l) r0:=
 iR (fun A=>nW (aMd rfl) hb) (fun G=>⟨bK (hx G),bK (hy G),trivial⟩) hN hg h1 hr kk
theorem aSB {T T':Nat} {x y:Operand} {u v:Int} {k:IntKind} (hx:ev E x=some (.vc (pI k u))) (hy:ev E y=some (.vc (pI k v))) (hN:Nat.blt d S.N=true) (hg:dA ops E g) (k:GL S ops κ rest H ((d,.vc (pB (decide (v≤u))))::E) Q):GL S ops κ (⟨some d,.binOp .geq T x y T',ty,pos,af,g⟩::rest) H E Q:=
 lA (aRl rfl) ⟨dK hx,dK hy,trivial⟩ hg hN k
theorem aSo {T T':Nat} {x y:Operand} {u v:Int} {k:IntKind} (hx:∀G,uK l0 ms E outs G i x=some (.vc (pI k u))) (hy:∀G,uK l0 ms E outs G i y=some (.vc (pI k v))) (hN:Nat.blt d S.N=true) (hg:GD l0 ms E outs i g) (h1:mC ms [] i [0]=true) {r0:List Ou} (hr:r0=.v (.vc (pB (decide (v≤u))))::ro) (kk:DN S H l0 ms E outs n (i+1) l ro):DN S H l0 ms E outs (n+1) i (⟨some d,.binOp .geq T x y T',ty,pos,af,g⟩::l) r0:=
 iR (fun A=>aRl rfl) (fun G=>⟨bK (hx G),bK (hy G),trivial⟩) hN hg h1 hr kk
theorem aS1 {T T':Nat} {x y:Operand} {u v:Int} {k:IntKind} {w:Bool} (hx:∀G,uK l0 ms E outs G i x=some (.vc (pI k u))) (hy:∀G,uK l0 ms E outs G i y=some (.vc (pI k v))) (hN:Nat.blt d S.N=true) (hg:GD l0 ms E outs i g) (h1:mC ms [] i [0]=true) (hb:(decide (v≤u))=w) {r0:List Ou} (hr:r0=.v (.vc (pB w))::ro) (kk:DN S H l0 ms E outs n (i+1) l ro):DN S H l0 ms E outs (n+1) i (⟨some d,.binOp .geq T x y T',ty,pos,af,g⟩::l) r0:=
 iR (fun A=>nW (aRl rfl) hb) (fun G=>⟨bK (hx G),bK (hy G),trivial⟩) hN hg h1 hr kk
theorem aPQ {T T':Nat} {x y:Operand} {u v r:Int} (hx:ev E x=some (.vc (pI .i64 u))) (hy:ev E y=some (.vc (pI .i64 v))) (hN:Nat.blt d S.N=true) (hg:dA ops E g) (h:aS (u+v)=some r) (k:GL S ops κ rest H ((d,.vc (pI .i64 r))::E) Q):GL S ops κ (⟨some d,.binOp .add T x y T',ty,pos,af,g⟩::rest) H E Q:=
 lA (yK rfl h) ⟨dK hx,dK hy,trivial⟩ hg hN k
theorem aQg {T T':Nat} {x y:Operand} {u v r:Int} (hx:∀G,uK l0 ms E outs G i x=some (.vc (pI .i64 u))) (hy:∀G,uK l0 ms E outs G i y=some (.vc (pI .i64 v))) (hN:Nat.blt d S.N=true) (hg:GD l0 ms E outs i g) (h1:mC ms [] i [0]=true) (h:aS (u+v)=some r) {r0:List Ou} (hr:r0=.v (.vc (pI .i64 r))::ro) (kk:DN S H l0 ms E outs n (i+1) l ro):DN S H l0 ms E outs (n+1) i (⟨some d,.binOp .add T x y T',ty,pos,af,g⟩::l) r0:=
 iR (fun A=>yK rfl h) (fun G=>⟨bK (hx G),bK (hy G),trivial⟩) hN hg h1 hr kk
theorem aQu {T T':Nat} {x y:Operand} {u v r:Int} (hx:ev E x=some (.vc (pI .i64 u))) (hy:ev E y=some (.vc (pI .i64 v))) (hN:Nat.blt d S.N=true) (hg:dA ops E g) (h:aS (u-v)=some r) (k:GL S ops κ rest H ((d,.vc (pI .i64 r))::E) Q):GL S ops κ (⟨some d,.binOp .sub T x y T',ty,pos,af,g⟩::rest) H E Q:=
 lA (aLC rfl h) ⟨dK hx,dK hy,trivial⟩ hg hN k
theorem aQD {T T':Nat} {x y:Operand} {u v r:Int} (hx:∀G,uK l0 ms E outs G i x=some (.vc (pI .i64 u))) (hy:∀G,uK l0 ms E outs G i y=some (.vc (pI .i64 v))) (hN:Nat.blt d S.N=true) (hg:GD l0 ms E outs i g) (h1:mC ms [] i [0]=true) (h:aS (u-v)=some r) {r0:List Ou} (hr:r0=.v (.vc (pI .i64 r))::ro) (kk:DN S H l0 ms E outs n (i+1) l ro):DN S H l0 ms E outs (n+1) i (⟨some d,.binOp .sub T x y T',ty,pos,af,g⟩::l) r0:=
 iR (fun A=>aLC rfl h) (fun G=>⟨bK (hx G),bK (hy G),trivial⟩) hN hg h1 hr kk
theorem aQf {T T':Nat} {x y:Operand} {u v r:Int} (hx:ev E x=some (.vc (pI .i64 u))) (hy:ev E y=some (.vc (pI .i64 v))) (hN:Nat.blt d S.N=true) (hg:dA ops E g) (h:aS (u*v)=some r) (k:GL S ops κ rest H ((d,.vc (pI .i64 r))::E) Q):GL S ops κ (⟨some d,.binOp .mul T x y T',ty,pos,af,g⟩::rest) H E Q:=
 lA (aFP rfl h) ⟨dK hx,dK hy,trivial⟩ hg hN k
theorem aQs {T T':Nat} {x y:Operand} {u v r:Int} (hx:∀G,uK l0 ms E outs G i x=some (.vc (pI .i64 u))) (hy:∀G,uK l0 ms E outs G i y=some (.vc (pI .i64 v))) (hN:Nat.blt d S.N=true) (hg:GD l0 ms E outs i g) (h1:mC ms [] i [0]=true) (h:aS (u*v)=some r) {r0:List Ou} (hr:r0=.v (.vc (pI .i64 r))::ro) (kk:DN S H l0 ms E outs n (i+1) l ro):DN S H l0 ms E outs (n+1) i (⟨some d,.binOp .mul T x y T',ty,pos,af,g⟩::l) r0:=
 iR (fun A=>aFP rfl h) (fun G=>⟨bK (hx G),bK (hy G),trivial⟩) hN hg h1 hr kk
theorem aQz {T T':Nat} {x y:Operand} {u v r:Int} (hx:ev E x=some (.vc (pI .i64 u))) (hy:ev E y=some (.vc (pI .i64 v))) (hN:Nat.blt d S.N=true) (hg:dA ops E g) (h:chq u v=some r) (k:GL S ops κ rest H ((d,.vc (pI .i64 r))::E) Q):GL S ops κ (⟨some d,.binOp .quo T x y T',ty,pos,af,g⟩::rest) H E Q:=
 lA (aKT rfl h) ⟨dK hx,dK hy,trivial⟩ hg hN k
theorem aQt {T T':Nat} {x y:Operand} {u v r:Int} (hx:∀G,uK l0 ms E outs G i x=some (.vc (pI .i64 u))) (hy:∀G,uK l0 ms E outs G i y=some (.vc (pI .i64 v))) (hN:Nat.blt d S.N=true) (hg:GD l0 ms E outs i g) (h1:mC ms [] i [0]=true) (h:chq u v=some r) {r0:List Ou} (hr:r0=.v (.vc (pI .i64 r))::ro) (kk:DN S H l0 ms E outs n (i+1) l ro):DN S H l0 ms E outs (n+1) i (⟨some d,.binOp .quo T x y T',ty,pos,af,g⟩::l) r0:=
 iR (fun A=>aKT rfl h) (fun G=>⟨bK (hx G),bK (hy G),trivial⟩) hN hg h1 hr kk
theorem aQr {T T':Nat} {x y:Operand} {u v r:Int} {k:IntKind} (hx:ev E x=some (.vc (pI k u))) (hy:ev E y=some (.vc (pI k v))) (hN:Nat.blt d S.N=true) (hg:dA ops E g) (h:chr u v=some r) (k:GL S ops κ rest H ((d,.vc (pI k r))::E) Q):GL S ops κ (⟨some d,.binOp .rem T x y T',ty,pos,af,g⟩::rest) H E Q:=
 lA (aHq rfl h) ⟨dK hx,dK hy,trivial⟩ hg hN k
theorem aPG {T T':Nat} {x y:Operand} {u v r:Int} {k:IntKind} (hx:∀G,uK l0 ms E outs G i x=some (.vc (pI k u))) (hy:∀G,uK l0 ms E outs G i y=some (.vc (pI k v))) (hN:Nat.blt d S.N=true) (hg:GD l0 ms E outs i g) (h1:mC ms [] i [0]=true) (h:chr u v=some r) {r0:List Ou} (hr:r0=.v (.vc (pI k r))::ro) (kk:DN S H l0 ms E outs n (i+1) l ro):DN S H l0 ms E outs (n+1) i (⟨some d,.binOp .rem T x y T',ty,pos,af,g⟩::l) r0:=
 iR (fun A=>aHq rfl h) (fun G=>⟨bK (hx G),bK (hy G),trivial⟩) hN hg h1 hr kk
theorem aQF {T:Nat} {x:Operand} {u:Bool} (hx:ev E x=some (.vc (pB u))) (hN:Nat.blt d S.N=true) (hg:dA ops E g) (k:GL S ops κ rest H ((d,.vc (pB (!u)))::E) Q):GL S ops κ (⟨some d,.unOp .not T x,ty,pos,af,g⟩::rest) H E Q:=
 lA (aKV rfl) ⟨dK hx,trivial⟩ hg hN k
theorem aQH {T:Nat} {x:Operand} {u:Bool} (hx:∀G,uK l0 ms E outs G i x=some (.vc (pB u))) (hN:Nat.blt d S.N=true) (hg:GD l0 ms E outs i g) (h1:mC ms [] i [0]=true) {r0:List Ou} (hr:r0=.v (.vc (pB (!u)))::ro) (kk:DN S H l0 ms E outs n (i+1) l ro):DN S H l0 ms E outs (n+1) i (⟨some d,.unOp .not T x,ty,pos,af,g⟩::l) r0:=
 iR (fun A=>aKV rfl) (fun G=>⟨bK (hx G),trivial⟩) hN hg h1 hr kk
theorem aRo {T:Nat} {x:Operand} {u:Bool} {w:Bool} (hx:∀G,uK l0 ms E outs G i x=some (.vc (pB u))) (hN:Nat.blt d S.N=true) (hg:GD l0 ms E outs i g) (h1:mC ms [] i [0]=true) (hb:(!u)=w) {r0:List Ou} (hr:r0=.v (.vc (pB w))::ro) (kk:DN S H l0 ms E outs n (i+1) l ro):DN S H l0 ms E outs (n+1) i (⟨some d,.unOp .not T x,ty,pos,af,g⟩::l) r0:=
 iR (fun A=>nW (aKV rfl) hb) (fun G=>⟨bK (hx G),trivial⟩) hN hg h1 hr kk
theorem aPL {T:Nat} {x:Operand} {u r:Int} (hx:ev E x=some (.vc (pI .i64 u))) (hN:Nat.blt d S.N=true) (hg:dA ops E g) (h:aS (-u)=some r) (k:GL S ops κ rest H ((d,.vc (pI .i64 r))::E) Q):GL S ops κ (⟨some d,.unOp .neg T x,ty,pos,af,g⟩::rest) H E Q:=
 lA (aQL rfl h) ⟨dK hx,trivial⟩ hg hN k
theorem aPJ {T:Nat} {x:Operand} {u r:Int} (hx:∀G,uK l0 ms E outs G i x=some (.vc (pI .i64 u))) (hN:Nat.blt d S.N=true) (hg:GD l0 ms E outs i g) (h1:mC ms [] i [0]=true) (h:aS (-u)=some r) {r0:List Ou} (hr:r0=.v (.vc (pI .i64 r))::ro) (kk:DN S H l0 ms E outs n (i+1) l ro):DN S H l0 ms E outs (n+1) i (⟨some d,.unOp .neg T x,ty,pos,af,g⟩::l) r0:=
 iR (fun A=>aQL rfl h) (fun G=>⟨bK (hx G),trivial⟩) hN hg h1 hr kk
theorem aQM {x:Operand} {p q:VP} (hx:ev E x=some (.t2 p q)) (hN:Nat.blt d S.N=true) (hg:dA ops E g) (k:GL S ops κ rest H ((d,p)::E) Q):GL S ops κ (⟨some d,.extract x 0,ty,pos,af,g⟩::rest) H E Q:=
 lA (aHY rfl) ⟨dK hx,trivial⟩ hg hN k
theorem aQi {x:Operand} {p q:VP} (hx:∀G,uK l0 ms E outs G i x=some (.t2 p q)) (hN:Nat.blt d S.N=true) (hg:GD l0 ms E outs i g) (h1:mC ms [] i [0]=true) {r0:List Ou} (hr:r0=.v (p)::ro) (kk:DN S H l0 ms E outs n (i+1) l ro):DN S H l0 ms E outs (n+1) i (⟨some d,.extract x 0,ty,pos,af,g⟩::l) r0:=
 iR (fun A=>aHY rfl) (fun G=>⟨bK (hx G),trivial⟩) hN hg h1 hr kk
theorem aQK {x:Operand} {p q:VP} (hx:ev E x=some (.t2 p q)) (hN:Nat.blt d S.N=true) (hg:dA ops E g) (k:GL S ops κ rest H ((d,q)::E) Q):GL S ops κ (⟨some d,.extract x 1,ty,pos,af,g⟩::rest) H E Q:=
 lA (aIo rfl) ⟨dK hx,trivial⟩ hg hN k
theorem aQv {x:Operand} {p q:VP} (hx:∀G,uK l0 ms E outs G i x=some (.t2 p q)) (hN:Nat.blt d S.N=true) (hg:GD l0 ms E outs i g) (h1:mC ms [] i [0]=true) {r0:List Ou} (hr:r0=.v (q)::ro) (kk:DN S H l0 ms E outs n (i+1) l ro):DN S H l0 ms E outs (n+1) i (⟨some d,.extract x 1,ty,pos,af,g⟩::l) r0:=
 iR (fun A=>aIo rfl) (fun G=>⟨bK (hx G),trivial⟩) hN hg h1 hr kk
theorem aPV {x:Operand} {p q r:VP} (hx:ev E x=some (.t3 p q r)) (hN:Nat.blt d S.N=true) (hg:dA ops E g) (k:GL S ops κ rest H ((d,p)::E) Q):GL S ops κ (⟨some d,.extract x 0,ty,pos,af,g⟩::rest) H E Q:=
 lA (aKZ rfl) ⟨dK hx,trivial⟩ hg hN k
theorem aP7 {x:Operand} {p q r:VP} (hx:∀G,uK l0 ms E outs G i x=some (.t3 p q r)) (hN:Nat.blt d S.N=true) (hg:GD l0 ms E outs i g) (h1:mC ms [] i [0]=true) {r0:List Ou} (hr:r0=.v (p)::ro) (kk:DN S H l0 ms E outs n (i+1) l ro):DN S H l0 ms E outs (n+1) i (⟨some d,.extract x 0,ty,pos,af,g⟩::l) r0:=
 iR (fun A=>aKZ rfl) (fun G=>⟨bK (hx G),trivial⟩) hN hg h1 hr kk
theorem aQc {x:Operand} {p q r:VP} (hx:ev E x=some (.t3 p q r)) (hN:Nat.blt d S.N=true) (hg:dA ops E g) (k:GL S ops κ rest H ((d,q)::E) Q):GL S ops κ (⟨some d,.extract x 1,ty,pos,af,g⟩::rest) H E Q:=
 lA (aL9 rfl) ⟨dK hx,trivial⟩ hg hN k
theorem aQJ {x:Operand} {p q r:VP} (hx:∀G,uK l0 ms E outs G i x=some (.t3 p q r)) (hN:Nat.blt d S.N=true) (hg:GD l0 ms E outs i g) (h1:mC ms [] i [0]=true) {r0:List Ou} (hr:r0=.v (q)::ro) (kk:DN S H l0 ms E outs n (i+1) l ro):DN S H l0 ms E outs (n+1) i (⟨some d,.extract x 1,ty,pos,af,g⟩::l) r0:=
 iR (fun A=>aL9 rfl) (fun G=>⟨bK (hx G),trivial⟩) hN hg h1 hr kk
theorem aQN {x:Operand} {p q r:VP} (hx:ev E x=some (.t3 p q r)) (hN:Nat.blt d S.N=true) (hg:dA ops E g) (k:GL S ops κ rest H ((d,r)::E) Q):GL S ops κ (⟨some d,.extract x 2,ty,pos,af,g⟩::rest) H E Q:=
 lA (aLX rfl) ⟨dK hx,trivial⟩ hg hN k
theorem aQp {x:Operand} {p q r:VP} (hx:∀G,uK l0 ms E outs G i x=some (.t3 p q r)) (hN:Nat.blt d S.N=true) (hg:GD l0 ms E outs i g) (h1:mC ms [] i [0]=true) {r0:List Ou} (hr:r0=.v (r)::ro) (kk:DN S H l0 ms E outs n (i+1) l ro):DN S H l0 ms E outs (n+1) i (⟨some d,.extract x 2,ty,pos,af,g⟩::l) r0:=
 iR (fun A=>aLX rfl) (fun G=>⟨bK (hx G),trivial⟩) hN hg h1 hr kk
theorem aR0 {x y:Operand} {u v:Int} {ts:Array TypeId} (hx:ev E x=some (.vc (pI .i64 u))) (hy:ev E y=some (.vc (pI .i64 v))) (hN:Nat.blt d S.N=true) (hg:dA ops E g) (k:GL S ops κ rest H ((d,.vc (pI .i64 (min u v)))::E) Q):GL S ops κ (⟨some d,.call {callee:=.builtin .min,args:=#[x,y],argTypes:=ts},ty,pos,af,g⟩::rest) H E Q:=
 lA (aPW rfl) ⟨dK hx,dK hy,trivial⟩ hg hN k
theorem aSi {x y:Operand} {u v:Int} {ts:Array TypeId} (hx:∀G,uK l0 ms E outs G i x=some (.vc (pI .i64 u))) (hy:∀G,uK l0 ms E outs G i y=some (.vc (pI .i64 v))) (hN:Nat.blt d S.N=true) (hg:GD l0 ms E outs i g) (h1:mC ms [] i [0]=true) {r0:List Ou} (hr:r0=.v (.vc (pI .i64 (min u v)))::ro) (kk:DN S H l0 ms E outs n (i+1) l ro):DN S H l0 ms E outs (n+1) i (⟨some d,.call {callee:=.builtin .min,args:=#[x,y],argTypes:=ts},ty,pos,af,g⟩::l) r0:=
 iR (fun A=>aPW rfl) (fun G=>⟨bK (hx G),bK (hy G),trivial⟩) hN hg h1 hr kk
theorem aS0 {x y:Operand} {u v:Int} {ts:Array TypeId} (hx:ev E x=some (.vc (pI .i64 u))) (hy:ev E y=some (.vc (pI .i64 v))) (hN:Nat.blt d S.N=true) (hg:dA ops E g) (k:GL S ops κ rest H ((d,.vc (pI .i64 (max u v)))::E) Q):GL S ops κ (⟨some d,.call {callee:=.builtin .max,args:=#[x,y],argTypes:=ts},ty,pos,af,g⟩::rest) H E Q:=
 lA (aQk rfl) ⟨dK hx,dK hy,trivial⟩ hg hN k
theorem aR3 {x y:Operand} {u v:Int} {ts:Array TypeId} (hx:∀G,uK l0 ms E outs G i x=some (.vc (pI .i64 u))) (hy:∀G,uK l0 ms E outs G i y=some (.vc (pI .i64 v))) (hN:Nat.blt d S.N=true) (hg:GD l0 ms E outs i g) (h1:mC ms [] i [0]=true) {r0:List Ou} (hr:r0=.v (.vc (pI .i64 (max u v)))::ro) (kk:DN S H l0 ms E outs n (i+1) l ro):DN S H l0 ms E outs (n+1) i (⟨some d,.call {callee:=.builtin .max,args:=#[x,y],argTypes:=ts},ty,pos,af,g⟩::l) r0:=
 iR (fun A=>aQk rfl) (fun G=>⟨bK (hx G),bK (hy G),trivial⟩) hN hg h1 hr kk
theorem aSa {α:Type} {C:Cd α} {xs zs:List α} {t e bytes:Nat} {x y:Operand} {hi:Int} {k:IntKind} (hx:ev E x=some (.vc (pS C xs))) (hy:ev E y=some (.vc (pI k hi))) (ht:TyS S.P t e C.n bytes) (hN:Nat.blt d S.N=true) (hg:dA ops E g) (h:slL xs 0 hi=some zs) (k:GL S ops κ rest H ((d,.vc (pS C zs))::E) Q):GL S ops κ (⟨some d,.slice t x none (some y) none,ty,pos,af,g⟩::rest) H E Q:=
 lA (aDK rfl ht h) ⟨dK hx,dK hy,trivial⟩ hg hN k
theorem aSq {α:Type} {C:Cd α} {xs zs:List α} {t e bytes:Nat} {x y:Operand} {hi:Int} {k:IntKind} (hx:∀G,uK l0 ms E outs G i x=some (.vc (pS C xs))) (hy:∀G,uK l0 ms E outs G i y=some (.vc (pI k hi))) (ht:TyS S.P t e C.n bytes) (hN:Nat.blt d S.N=true) (hg:GD l0 ms E outs i g) (h1:mC ms [] i [0]=true) (h:slL xs 0 hi=some zs) {r0:List Ou} (hr:r0=.v (.vc (pS C zs))::ro) (kk:DN S H l0 ms E outs n (i+1) l ro):DN S H l0 ms E outs (n+1) i (⟨some d,.slice t x none (some y) none,ty,pos,af,g⟩::l) r0:=
 iR (fun A=>aDK rfl ht h) (fun G=>⟨bK (hx G),bK (hy G),trivial⟩) hN hg h1 hr kk
theorem aSE {α:Type} {C:Cd α} {xs zs:List α} {t e bytes:Nat} {x y:Operand} {lo:Int} {k:IntKind} (hx:ev E x=some (.vc (pS C xs))) (hy:ev E y=some (.vc (pI k lo))) (ht:TyS S.P t e C.n bytes) (hN:Nat.blt d S.N=true) (hg:dA ops E g) (h:slL xs lo xs.length=some zs) (k:GL S ops κ rest H ((d,.vc (pS C zs))::E) Q):GL S ops κ (⟨some d,.slice t x (some y) none none,ty,pos,af,g⟩::rest) H E Q:=
 lA (aH3 rfl ht h) ⟨dK hx,dK hy,trivial⟩ hg hN k
theorem aR7 {α:Type} {C:Cd α} {xs zs:List α} {t e bytes:Nat} {x y:Operand} {lo:Int} {k:IntKind} (hx:∀G,uK l0 ms E outs G i x=some (.vc (pS C xs))) (hy:∀G,uK l0 ms E outs G i y=some (.vc (pI k lo))) (ht:TyS S.P t e C.n bytes) (hN:Nat.blt d S.N=true) (hg:GD l0 ms E outs i g) (h1:mC ms [] i [0]=true) (h:slL xs lo xs.length=some zs) {r0:List Ou} (hr:r0=.v (.vc (pS C zs))::ro) (kk:DN S H l0 ms E outs n (i+1) l ro):DN S H l0 ms E outs (n+1) i (⟨some d,.slice t x (some y) none none,ty,pos,af,g⟩::l) r0:=
 iR (fun A=>aH3 rfl ht h) (fun G=>⟨bK (hx G),bK (hy G),trivial⟩) hN hg h1 hr kk
theorem aQe {α:Type} {C:Cd α} {xs zs:List α} {t e bytes:Nat} {x y z:Operand} {lo hi:Int} {k k2:IntKind} (hx:ev E x=some (.vc (pS C xs))) (hy:ev E y=some (.vc (pI k lo))) (hz:ev E z=some (.vc (pI k2 hi))) (ht:TyS S.P t e C.n bytes) (hN:Nat.blt d S.N=true) (hg:dA ops E g) (h:slL xs lo hi=some zs) (k:GL S ops κ rest H ((d,.vc (pS C zs))::E) Q):GL S ops κ (⟨some d,.slice t x (some y) (some z) none,ty,pos,af,g⟩::rest) H E Q:=
 lA (aLc rfl ht h) ⟨dK hx,dK hy,dK hz,trivial⟩ hg hN k
theorem aPO {α:Type} {C:Cd α} {xs zs:List α} {t e bytes:Nat} {x y z:Operand} {lo hi:Int} {k k2:IntKind} (hx:∀G,uK l0 ms E outs G i x=some (.vc (pS C xs))) (hy:∀G,uK l0 ms E outs G i y=some (.vc (pI k lo))) (hz:∀G,uK l0 ms E outs G i z=some (.vc (pI k2 hi))) (ht:TyS S.P t e C.n bytes) (hN:Nat.blt d S.N=true) (hg:GD l0 ms E outs i g) (h1:mC ms [] i [0]=true) (h:slL xs lo hi=some zs) {r0:List Ou} (hr:r0=.v (.vc (pS C zs))::ro) (kk:DN S H l0 ms E outs n (i+1) l ro):DN S H l0 ms E outs (n+1) i (⟨some d,.slice t x (some y) (some z) none,ty,pos,af,g⟩::l) r0:=
 iR (fun A=>aLc rfl ht h) (fun G=>⟨bK (hx G),bK (hy G),bK (hz G),trivial⟩) hN hg h1 hr kk
theorem aSl {c x y:Operand} {p:VP} (hc:ev E c=some (.vc (pB true))) (hx:ev E x=some p) (hN:Nat.blt d S.N=true) (hg:dA ops E g) (k:GL S ops κ rest H ((d,p)::E) Q):GL S ops κ (⟨some d,.pick c x y,ty,pos,af,g⟩::rest) H E Q:=
 lA (yA rfl) ⟨dK hc,dK hx,trivial⟩ hg hN k
theorem aRY {c x y:Operand} {p:VP} (hc:∀G,uK l0 ms E outs G i c=some (.vc (pB true))) (hx:∀G,uK l0 ms E outs G i x=some p) (hN:Nat.blt d S.N=true) (hg:GD l0 ms E outs i g) (h1:mC ms [] i [0]=true) {r0:List Ou} (hr:r0=.v (p)::ro) (kk:DN S H l0 ms E outs n (i+1) l ro):DN S H l0 ms E outs (n+1) i (⟨some d,.pick c x y,ty,pos,af,g⟩::l) r0:=
 iR (fun A=>yA rfl) (fun G=>⟨bK (hc G),bK (hx G),trivial⟩) hN hg h1 hr kk
theorem aSC {c x y:Operand} {p:VP} (hc:ev E c=some (.vc (pB false))) (hy:ev E y=some p) (hN:Nat.blt d S.N=true) (hg:dA ops E g) (k:GL S ops κ rest H ((d,p)::E) Q):GL S ops κ (⟨some d,.pick c x y,ty,pos,af,g⟩::rest) H E Q:=
 lA (aBP rfl) ⟨dK hc,dK hy,trivial⟩ hg hN k
theorem aS7 {c x y:Operand} {p:VP} (hc:∀G,uK l0 ms E outs G i c=some (.vc (pB false))) (hy:∀G,uK l0 ms E outs G i y=some p) (hN:Nat.blt d S.N=true) (hg:GD l0 ms E outs i g) (h1:mC ms [] i [0]=true) {r0:List Ou} (hr:r0=.v (p)::ro) (kk:DN S H l0 ms E outs n (i+1) l ro):DN S H l0 ms E outs (n+1) i (⟨some d,.pick c x y,ty,pos,af,g⟩::l) r0:=
 iR (fun A=>aBP rfl) (fun G=>⟨bK (hc G),bK (hy G),trivial⟩) hN hg h1 hr kk
theorem aSV {x:Operand} {β:Option Nat} {off:Nat} (hx:ev E x=some (.vc (pP β off))) (hN:Nat.blt d S.N=true) (hg:dA ops E g) (k:GL S ops κ rest H ((d,.vc (pP β off))::E) Q):GL S ops κ (⟨some d,.nilCheck x,ty,pos,af,g⟩::rest) H E Q:=
 lA (s9 rfl) ⟨dK hx,trivial⟩ hg hN k
theorem aSg {x:Operand} {β:Option Nat} {off:Nat} (hx:∀G,uK l0 ms E outs G i x=some (.vc (pP β off))) (hN:Nat.blt d S.N=true) (hg:GD l0 ms E outs i g) (h1:mC ms [] i [0]=true) {r0:List Ou} (hr:r0=.v (.vc (pP β off))::ro) (kk:DN S H l0 ms E outs n (i+1) l ro):DN S H l0 ms E outs (n+1) i (⟨some d,.nilCheck x,ty,pos,af,g⟩::l) r0:=
 iR (fun A=>s9 rfl) (fun G=>⟨bK (hx G),trivial⟩) hN hg h1 hr kk
theorem aPX {x:Operand} {β:Option Nat} {j:Int} {n f:Nat} (hx:ev E x=some (.vc (pE β j n f))) (hN:Nat.blt d S.N=true) (hg:dA ops E g) (k:GL S ops κ rest H ((d,.vc (pE β j n f))::E) Q):GL S ops κ (⟨some d,.nilCheck x,ty,pos,af,g⟩::rest) H E Q:=
 lA (aOx rfl) ⟨dK hx,trivial⟩ hg hN k
theorem aP4 {x:Operand} {β:Option Nat} {j:Int} {n f:Nat} (hx:∀G,uK l0 ms E outs G i x=some (.vc (pE β j n f))) (hN:Nat.blt d S.N=true) (hg:GD l0 ms E outs i g) (h1:mC ms [] i [0]=true) {r0:List Ou} (hr:r0=.v (.vc (pE β j n f))::ro) (kk:DN S H l0 ms E outs n (i+1) l ro):DN S H l0 ms E outs (n+1) i (⟨some d,.nilCheck x,ty,pos,af,g⟩::l) r0:=
 iR (fun A=>aOx rfl) (fun G=>⟨bK (hx G),trivial⟩) hN hg h1 hr kk
theorem aPB {x:Operand} {ps:List CP} (hx:ev E x=some (.vc (pM ps))) (hN:Nat.blt d S.N=true) (hg:dA ops E g) (k:GL S ops κ rest H ((d,.vc (pM ps))::E) Q):GL S ops κ (⟨some d,.nilCheck x,ty,pos,af,g⟩::rest) H E Q:=
 lA (aM3 rfl) ⟨dK hx,trivial⟩ hg hN k
theorem aP3 {x:Operand} {ps:List CP} (hx:∀G,uK l0 ms E outs G i x=some (.vc (pM ps))) (hN:Nat.blt d S.N=true) (hg:GD l0 ms E outs i g) (h1:mC ms [] i [0]=true) {r0:List Ou} (hr:r0=.v (.vc (pM ps))::ro) (kk:DN S H l0 ms E outs n (i+1) l ro):DN S H l0 ms E outs (n+1) i (⟨some d,.nilCheck x,ty,pos,af,g⟩::l) r0:=
 iR (fun A=>aM3 rfl) (fun G=>⟨bK (hx G),trivial⟩) hN hg h1 hr kk
theorem aOt {f:Nat} {xs:List Operand} {ps:List VP} {post:VP} {ts:Array TypeId} (he:evs E xs=some ps) (hN:Nat.blt d S.N=true) (hg:dA ops E g) (c:Ct S.P f ps post) (k:GL S ops κ rest H ((d,post)::E) Q):GL S ops κ (⟨some d,.call {callee:=.value (.func f),args:=xs.toArray,argTypes:=ts},ty,pos,af,g⟩::rest) H E Q:=
 lA (bE rfl c (aIb he).2) (aIb he).1 hg hN k
theorem aP6 {T:Nat} {zs:List CP} (hz:TyZ S.P T zs) (hN:Nat.blt d S.N=true) {r0:List Ou} (hr:r0=.a T zs::ro) (k:DN S H l0 ms E outs n (i+1) l ro):DN S H l0 ms E outs (n+1) i (⟨some d,.alloc T,ty,pos,af,none⟩::l) r0:=by
 subst hr
 exact aHX hN (.alc hz rfl rfl rfl) k
theorem aOo {f:Nat} {xs:List Operand} {ps:List VP} {post:VP} {ts:Array TypeId} (he:∀G,aQ9 l0 ms E outs G i xs=some ps) (hN:Nat.blt d S.N=true) (hg:GD l0 ms E outs i g) (h1:mC ms [] i [0]=true) (c:Ct S.P f ps post) {r0:List Ou} (hr:r0=.v post::ro) (k:DN S H l0 ms E outs n (i+1) l ro):DN S H l0 ms E outs (n+1) i (⟨some d,.call {callee:=.value (.func f),args:=xs.toArray,argTypes:=ts},ty,pos,af,g⟩::l) r0:=
 iR (fun A=>bE rfl c (aFz (he fun _=>(none,0))).2) (fun G=>(aFz (he G)).1) hN hg h1 hr k
theorem aST {t off:Nat} {x y:Operand} {β:Option Nat} {e:HA} {p:VP} {ps:List CP} (hx:ev E x=some (.vc (pP β off))) (hy:ev E y=some p) (ht:Ty1 S.P t) (hi:aAj H β e ⟨e.β,e.c,e.T,e.sz,e.n,ps⟩ H') (hp:p.flat) (hk:p.cells.length=1) (hq:yX e.ps off p.cells=some ps) (k:GL S ops κ rest H' E Q):GL S ops κ (⟨none,.store t x y,ty,pos,af,none⟩::rest) H E Q:=by
 obtain⟨i,h1,h2,h3⟩:=hi.at
 exact⟨fun q=>mD (t_s i rfl h1 h2 ht.s hp hk hq h3) ⟨dK hx,dK hy,trivial⟩ (k.h q) rfl rfl⟩
theorem aSD {t off r:Nat} {x y:Operand} {β:Option Nat} {e:HA} {p:VP} {ps:List CP} (hx:ev E x=some (.vc (pP β off))) (hy:ev E y=some p) (ht:TyA S.P t r) (hi:aAj H β e ⟨e.β,e.c,e.T,e.sz,e.n,ps⟩ H') (hp:p.flat) (hk:p.cells.length=r) (hq:yX e.ps off p.cells=some ps) (k:GL S ops κ rest H' E Q):GL S ops κ (⟨none,.store t x y,ty,pos,af,none⟩::rest) H E Q:=by
 obtain⟨i,h1,h2,h3⟩:=hi.at
 exact⟨fun q=>mD (t_s i rfl h1 h2 ht.s hp hk hq h3) ⟨dK hx,dK hy,trivial⟩ (k.h q) rfl rfl⟩
theorem dr {id:Nat} (ms:List Nat) (m n:Nat) (outs:List Ou) (k:∀bs G,WL S l.toArray κ (l.drop outs.length) (aEa bs 0 outs++H) (aEb bs G 0 l outs++E)) (hops:DN S H l ms E outs m 0 l outs:=by
 repeat (first
  |(apply aRV;exact fun _=>rfl;exact rfl;(first|exact GD.p|exact GD.g rfl (fun _=>rfl));exact rfl;exact rfl)
  |(apply aRR;exact fun _=>rfl;exact rfl;(first|exact GD.p|exact GD.g rfl (fun _=>rfl));exact rfl;exact rfl)
  |(apply e_n;exact rfl;exact fun _=>rfl;exact rfl;exact rfl;exact rfl)
  |(apply aSy;exact fun _=>rfl;exact fun _=>rfl;exact inferInstance;exact rfl;(first|exact GD.p|exact GD.g rfl (fun _=>rfl));exact rfl;(with_reducible assumption);exact rfl)
  |(apply aQy;exact fun _=>rfl;exact inferInstance;exact rfl;(first|exact GD.p|exact GD.g rfl (fun _=>rfl));exact rfl;exact rfl)
  |(apply aS3;exact fun _=>rfl;exact inferInstance;exact rfl;(first|exact GD.p|exact GD.g rfl (fun _=>rfl));exact rfl;exact rfl)
  |(apply aPZ;exact fun _=>rfl;exact inferInstance;exact rfl;(first|exact GD.p|exact GD.g rfl (fun _=>rfl));exact rfl;exact rfl)
  |(apply aP9;exact fun _=>rfl;exact inferInstance;exact rfl;exact rfl;(first|exact GD.p|exact GD.g rfl (fun _=>rfl));exact rfl;exact rfl)
  |(apply aQG;exact fun _=>rfl;exact inferInstance;exact rfl;exact rfl;(first|exact GD.p|exact GD.g rfl (fun _=>rfl));exact rfl;exact rfl)
  |(apply aSP;exact fun _=>rfl;exact inferInstance;(repeat (first|exact iI.a rfl|apply iI.b));exact rfl;exact rfl;(first|exact GD.p|exact GD.g rfl (fun _=>rfl));exact rfl;exact rfl)
  |(apply aSs;exact fun _=>rfl;exact inferInstance;(repeat (first|exact iI.a rfl|apply iI.b));exact rfl;exact rfl;(first|exact GD.p|exact GD.g rfl (fun _=>rfl));exact rfl;exact rfl)
  |(apply aQB;exact fun _=>rfl;exact fun _=>rfl;(repeat (first|exact iI.a rfl|apply iI.b));(first|exact rfl|with_reducible assumption|exact bC (by with_reducible assumption) (by first|with_reducible assumption|exact rfl));exact inferInstance;exact rfl;(first|exact GD.p|exact GD.g rfl (fun _=>rfl));exact rfl;(with_reducible assumption);exact rfl)
  |(apply aP1;exact fun _=>rfl;(repeat (first|exact iI.a rfl|apply iI.b));(first|exact rfl|with_reducible assumption|exact bC (by with_reducible assumption) (by first|with_reducible assumption|exact rfl));exact inferInstance;exact rfl;(first|exact GD.p|exact GD.g rfl (fun _=>rfl));exact rfl;exact rfl)
  |(apply aND;exact fun _=>rfl;(repeat (first|exact iI.a rfl|apply iI.b));exact rfl;(with_reducible assumption);exact inferInstance;exact rfl;exact rfl;exact rfl;(first|exact GD.p|exact GD.g rfl (fun _=>rfl));exact rfl;exact rfl)
  |(apply aN0;exact fun _=>rfl;(repeat (first|exact iI.a rfl|apply iI.b));exact rfl;(with_reducible assumption);exact inferInstance;exact rfl;exact rfl;exact rfl;(first|exact GD.p|exact GD.g rfl (fun _=>rfl));exact rfl;exact rfl)
  |(apply aSv;exact fun _=>rfl;exact inferInstance;exact rfl;(first|exact GD.p|exact GD.g rfl (fun _=>rfl));exact rfl;exact rfl)
  |(apply aSA;exact fun _=>rfl;exact fun _=>rfl;exact rfl;(first|exact GD.p|exact GD.g rfl (fun _=>rfl));exact rfl;exact rfl)
  |(apply aSJ;exact fun _=>rfl;exact fun _=>rfl;exact rfl;(first|exact GD.p|exact GD.g rfl (fun _=>rfl));exact rfl;exact rfl)
  |(apply aSL;exact fun _=>rfl;exact fun _=>rfl;exact rfl;(first|exact GD.p|exact GD.g rfl (fun _=>rfl));exact rfl;exact rfl)
  |(apply aSr;exact fun _=>rfl;exact fun _=>rfl;exact rfl;(first|exact GD.p|exact GD.g rfl (fun _=>rfl));exact rfl;exact rfl)
  |(apply aRU;exact fun _=>rfl;exact fun _=>rfl;exact rfl;(first|exact GD.p|exact GD.g rfl (fun _=>rfl));exact rfl;exact rfl)
  |(apply aSo;exact fun _=>rfl;exact fun _=>rfl;exact rfl;(first|exact GD.p|exact GD.g rfl (fun _=>rfl));exact rfl;exact rfl)
  |(apply aQg;exact fun _=>rfl;exact fun _=>rfl;exact rfl;(first|exact GD.p|exact GD.g rfl (fun _=>rfl));exact rfl;(with_reducible assumption);exact rfl)
  |(apply aQD;exact fun _=>rfl;exact fun _=>rfl;exact rfl;(first|exact GD.p|exact GD.g rfl (fun _=>rfl));exact rfl;(with_reducible assumption);exact rfl)
  |(apply aQs;exact fun _=>rfl;exact fun _=>rfl;exact rfl;(first|exact GD.p|exact GD.g rfl (fun _=>rfl));exact rfl;(with_reducible assumption);exact rfl)
  |(apply aQt;exact fun _=>rfl;exact fun _=>rfl;exact rfl;(first|exact GD.p|exact GD.g rfl (fun _=>rfl));exact rfl;(with_reducible assumption);exact rfl)
  |(apply aPG;exact fun _=>rfl;exact fun _=>rfl;exact rfl;(first|exact GD.p|exact GD.g rfl (fun _=>rfl));exact rfl;(with_reducible assumption);exact rfl)
  |(apply aQH;exact fun _=>rfl;exact rfl;(first|exact GD.p|exact GD.g rfl (fun _=>rfl));exact rfl;exact rfl)
  |(apply aPJ;exact fun _=>rfl;exact rfl;(first|exact GD.p|exact GD.g rfl (fun _=>rfl));exact rfl;(with_reducible assumption);exact rfl)
  |(apply aQi;exact fun _=>rfl;exact rfl;(first|exact GD.p|exact GD.g rfl (fun _=>rfl));exact rfl;exact rfl)
  |(apply aQv;exact fun _=>rfl;exact rfl;(first|exact GD.p|exact GD.g rfl (fun _=>rfl));exact rfl;exact rfl)
  |(apply aP7;exact fun _=>rfl;exact rfl;(first|exact GD.p|exact GD.g rfl (fun _=>rfl));exact rfl;exact rfl)
  |(apply aQJ;exact fun _=>rfl;exact rfl;(first|exact GD.p|exact GD.g rfl (fun _=>rfl));exact rfl;exact rfl)
  |(apply aQp;exact fun _=>rfl;exact rfl;(first|exact GD.p|exact GD.g rfl (fun _=>rfl));exact rfl;exact rfl)
  |(apply aSi;exact fun _=>rfl;exact fun _=>rfl;exact rfl;(first|exact GD.p|exact GD.g rfl (fun _=>rfl));exact rfl;exact rfl)
  |(apply aR3;exact fun _=>rfl;exact fun _=>rfl;exact rfl;(first|exact GD.p|exact GD.g rfl (fun _=>rfl));exact rfl;exact rfl)
  |(apply aSq;exact fun _=>rfl;exact fun _=>rfl;exact inferInstance;exact rfl;(first|exact GD.p|exact GD.g rfl (fun _=>rfl));exact rfl;(with_reducible assumption);exact rfl)
  |(apply aR7;exact fun _=>rfl;exact fun _=>rfl;exact inferInstance;exact rfl;(first|exact GD.p|exact GD.g rfl (fun _=>rfl));exact rfl;(with_reducible assumption);exact rfl)
  |(apply aPO;exact fun _=>rfl;exact fun _=>rfl;exact fun _=>rfl;exact inferInstance;exact rfl;(first|exact GD.p|exact GD.g rfl (fun _=>rfl));exact rfl;(with_reducible assumption);exact rfl)
  |(apply aRY;exact fun _=>rfl;exact fun _=>rfl;exact rfl;(first|exact GD.p|exact GD.g rfl (fun _=>rfl));exact rfl;exact rfl)
  |(apply aS7;exact fun _=>rfl;exact fun _=>rfl;exact rfl;(first|exact GD.p|exact GD.g rfl (fun _=>rfl));exact rfl;exact rfl)
  |(apply aSg;exact fun _=>rfl;exact rfl;(first|exact GD.p|exact GD.g rfl (fun _=>rfl));exact rfl;exact rfl)
  |(apply aP4;exact fun _=>rfl;exact rfl;(first|exact GD.p|exact GD.g rfl (fun _=>rfl));exact rfl;exact rfl)
  |(apply aP3;exact fun _=>rfl;exact rfl;(first|exact GD.p|exact GD.g rfl (fun _=>rfl));exact rfl;exact rfl)
  |(apply aOo;exact fun _=>rfl;exact rfl;(first|exact GD.p|exact GD.g rfl (fun _=>rfl));exact rfl;assumption;exact rfl)
  |(apply aP6;exact inferInstance;exact rfl;exact rfl)
  |(apply e_u;exact rfl;exact fun _=>rfl;exact rfl;exact rfl)
  |(apply aQj;exact rfl))) (hx:Mix S.P:=by infer_instance)
  (hm:aDb ms l ms=true:=by kernel_rfl) (hb:zT l 0=true:=by kernel_rfl) (hq:aB4 l=true:=by kernel_rfl) (hm2:Nat.beq l.length (m+n)=true:=by kernel_rfl) (ht:aDu l ms m n=true:=by kernel_rfl):WC S (.region id l.toArray true) κ H E:=
 iQ ms m n outs hx.h hops.h k hm hb hq (by rw [hops.len];simp) hm2 ht
theorem drb {id:Nat} (ms:List Nat) (m n:Nat) (outs:List Ou) (k:∀bs G,WL S l.toArray κ (l.drop outs.length) (aEa bs 0 outs++H) (aEb bs G 0 l outs++E)) (hops:DN S H l ms E outs m 0 l outs:=by
 repeat (first
  |(apply aSe;exact fun _=>rfl;exact rfl;(first|exact GD.p|exact GD.g rfl (fun _=>rfl));exact rfl;(with_reducible assumption);exact rfl)
  |(apply aR4;exact fun _=>rfl;exact rfl;(first|exact GD.p|exact GD.g rfl (fun _=>rfl));exact rfl;(with_reducible assumption);exact rfl)
  |(apply aSZ;exact fun _=>rfl;exact fun _=>rfl;exact rfl;(first|exact GD.p|exact GD.g rfl (fun _=>rfl));exact rfl;(with_reducible assumption);exact rfl)
  |(apply aSn;exact fun _=>rfl;exact fun _=>rfl;exact rfl;(first|exact GD.p|exact GD.g rfl (fun _=>rfl));exact rfl;(with_reducible assumption);exact rfl)
  |(apply aSw;exact fun _=>rfl;exact fun _=>rfl;exact rfl;(first|exact GD.p|exact GD.g rfl (fun _=>rfl));exact rfl;(with_reducible assumption);exact rfl)
  |(apply aRP;exact fun _=>rfl;exact fun _=>rfl;exact rfl;(first|exact GD.p|exact GD.g rfl (fun _=>rfl));exact rfl;(with_reducible assumption);exact rfl)
  |(apply aSY;exact fun _=>rfl;exact fun _=>rfl;exact rfl;(first|exact GD.p|exact GD.g rfl (fun _=>rfl));exact rfl;(with_reducible assumption);exact rfl)
  |(apply aS1;exact fun _=>rfl;exact fun _=>rfl;exact rfl;(first|exact GD.p|exact GD.g rfl (fun _=>rfl));exact rfl;(with_reducible assumption);exact rfl)
  |(apply aRo;exact fun _=>rfl;exact rfl;(first|exact GD.p|exact GD.g rfl (fun _=>rfl));exact rfl;(with_reducible assumption);exact rfl)
  |(apply aRV;exact fun _=>rfl;exact rfl;(first|exact GD.p|exact GD.g rfl (fun _=>rfl));exact rfl;exact rfl)
  |(apply aRR;exact fun _=>rfl;exact rfl;(first|exact GD.p|exact GD.g rfl (fun _=>rfl));exact rfl;exact rfl)
  |(apply e_n;exact rfl;exact fun _=>rfl;exact rfl;exact rfl;exact rfl)
  |(apply aSy;exact fun _=>rfl;exact fun _=>rfl;exact inferInstance;exact rfl;(first|exact GD.p|exact GD.g rfl (fun _=>rfl));exact rfl;(with_reducible assumption);exact rfl)
  |(apply aQy;exact fun _=>rfl;exact inferInstance;exact rfl;(first|exact GD.p|exact GD.g rfl (fun _=>rfl));exact rfl;exact rfl)
  |(apply aS3;exact fun _=>rfl;exact inferInstance;exact rfl;(first|exact GD.p|exact GD.g rfl (fun _=>rfl));exact rfl;exact rfl)
  |(apply aPZ;exact fun _=>rfl;exact inferInstance;exact rfl;(first|exact GD.p|exact GD.g rfl (fun _=>rfl));exact rfl;exact rfl)
  |(apply aP9;exact fun _=>rfl;exact inferInstance;exact rfl;exact rfl;(first|exact GD.p|exact GD.g rfl (fun _=>rfl));exact rfl;exact rfl)
  |(apply aQG;exact fun _=>rfl;exact inferInstance;exact rfl;exact rfl;(first|exact GD.p|exact GD.g rfl (fun _=>rfl));exact rfl;exact rfl)
  |(apply aSP;exact fun _=>rfl;exact inferInstance;(repeat (first|exact iI.a rfl|apply iI.b));exact rfl;exact rfl;(first|exact GD.p|exact GD.g rfl (fun _=>rfl));exact rfl;exact rfl)
  |(apply aSs;exact fun _=>rfl;exact inferInstance;(repeat (first|exact iI.a rfl|apply iI.b));exact rfl;exact rfl;(first|exact GD.p|exact GD.g rfl (fun _=>rfl));exact rfl;exact rfl)
  |(apply aQB;exact fun _=>rfl;exact fun _=>rfl;(repeat (first|exact iI.a rfl|apply iI.b));(first|exact rfl|with_reducible assumption|exact bC (by with_reducible assumption) (by first|with_reducible assumption|exact rfl));exact inferInstance;exact rfl;(first|exact GD.p|exact GD.g rfl (fun _=>rfl));exact rfl;(with_reducible assumption);exact rfl)
  |(apply aP1;exact fun _=>rfl;(repeat (first|exact iI.a rfl|apply iI.b));(first|exact rfl|with_reducible assumption|exact bC (by with_reducible assumption) (by first|with_reducible assumption|exact rfl));exact inferInstance;exact rfl;(first|exact GD.p|exact GD.g rfl (fun _=>rfl));exact rfl;exact rfl)
  |(apply aND;exact fun _=>rfl;(repeat (first|exact iI.a rfl|apply iI.b));exact rfl;(with_reducible assumption);exact inferInstance;exact rfl;exact rfl;exact rfl;(first|exact GD.p|exact GD.g rfl (fun _=>rfl));exact rfl;exact rfl)
  |(apply aN0;exact fun _=>rfl;(repeat (first|exact iI.a rfl|apply iI.b));exact rfl;(with_reducible assumption);exact inferInstance;exact rfl;exact rfl;exact rfl;(first|exact GD.p|exact GD.g rfl (fun _=>rfl));exact rfl;exact rfl)
  |(apply aSv;exact fun _=>rfl;exact inferInstance;exact rfl;(first|exact GD.p|exact GD.g rfl (fun _=>rfl));exact rfl;exact rfl)
  |(apply aSA;exact fun _=>rfl;exact fun _=>rfl;exact rfl;(first|exact GD.p|exact GD.g rfl (fun _=>rfl));exact rfl;exact rfl)
  |(apply aSJ;exact fun _=>rfl;exact fun _=>rfl;exact rfl;(first|exact GD.p|exact GD.g rfl (fun _=>rfl));exact rfl;exact rfl)
  |(apply aSL;exact fun _=>rfl;exact fun _=>rfl;exact rfl;(first|exact GD.p|exact GD.g rfl (fun _=>rfl));exact rfl;exact rfl)
  |(apply aSr;exact fun _=>rfl;exact fun _=>rfl;exact rfl;(first|exact GD.p|exact GD.g rfl (fun _=>rfl));exact rfl;exact rfl)
  |(apply aRU;exact fun _=>rfl;exact fun _=>rfl;exact rfl;(first|exact GD.p|exact GD.g rfl (fun _=>rfl));exact rfl;exact rfl)
  |(apply aSo;exact fun _=>rfl;exact fun _=>rfl;exact rfl;(first|exact GD.p|exact GD.g rfl (fun _=>rfl));exact rfl;exact rfl)
  |(apply aQg;exact fun _=>rfl;exact fun _=>rfl;exact rfl;(first|exact GD.p|exact GD.g rfl (fun _=>rfl));exact rfl;(with_reducible assumption);exact rfl)
  |(apply aQD;exact fun _=>rfl;exact fun _=>rfl;exact rfl;(first|exact GD.p|exact GD.g rfl (fun _=>rfl));exact rfl;(with_reducible assumption);exact rfl)
  |(apply aQs;exact fun _=>rfl;exact fun _=>rfl;exact rfl;(first|exact GD.p|exact GD.g rfl (fun _=>rfl));exact rfl;(with_reducible assumption);exact rfl)
  |(apply aQt;exact fun _=>rfl;exact fun _=>rfl;exact rfl;(first|exact GD.p|exact GD.g rfl (fun _=>rfl));exact rfl;(with_reducible assumption);exact rfl)
  |(apply aPG;exact fun _=>rfl;exact fun _=>rfl;exact rfl;(first|exact GD.p|exact GD.g rfl (fun _=>rfl));exact rfl;(with_reducible assumption);exact rfl)
  |(apply aQH;exact fun _=>rfl;exact rfl;(first|exact GD.p|exact GD.g rfl (fun _=>rfl));exact rfl;exact rfl)
  |(apply aPJ;exact fun _=>rfl;exact rfl;(first|exact GD.p|exact GD.g rfl (fun _=>rfl));exact rfl;(with_reducible assumption);exact rfl)
  |(apply aQi;exact fun _=>rfl;exact rfl;(first|exact GD.p|exact GD.g rfl (fun _=>rfl));exact rfl;exact rfl)
  |(apply aQv;exact fun _=>rfl;exact rfl;(first|exact GD.p|exact GD.g rfl (fun _=>rfl));exact rfl;exact rfl)
  |(apply aP7;exact fun _=>rfl;exact rfl;(first|exact GD.p|exact GD.g rfl (fun _=>rfl));exact rfl;exact rfl)
  |(apply aQJ;exact fun _=>rfl;exact rfl;(first|exact GD.p|exact GD.g rfl (fun _=>rfl));exact rfl;exact rfl)
  |(apply aQp;exact fun _=>rfl;exact rfl;(first|exact GD.p|exact GD.g rfl (fun _=>rfl));exact rfl;exact rfl)
  |(apply aSi;exact fun _=>rfl;exact fun _=>rfl;exact rfl;(first|exact GD.p|exact GD.g rfl (fun _=>rfl));exact rfl;exact rfl)
  |(apply aR3;exact fun _=>rfl;exact fun _=>rfl;exact rfl;(first|exact GD.p|exact GD.g rfl (fun _=>rfl));exact rfl;exact rfl)
  |(apply aSq;exact fun _=>rfl;exact fun _=>rfl;exact inferInstance;exact rfl;(first|exact GD.p|exact GD.g rfl (fun _=>rfl));exact rfl;(with_reducible assumption);exact rfl)
  |(apply aR7;exact fun _=>rfl;exact fun _=>rfl;exact inferInstance;exact rfl;(first|exact GD.p|exact GD.g rfl (fun _=>rfl));exact rfl;(with_reducible assumption);exact rfl)
  |(apply aPO;exact fun _=>rfl;exact fun _=>rfl;exact fun _=>rfl;exact inferInstance;exact rfl;(first|exact GD.p|exact GD.g rfl (fun _=>rfl));exact rfl;(with_reducible assumption);exact rfl)
  |(apply aRY;exact fun _=>rfl;exact fun _=>rfl;exact rfl;(first|exact GD.p|exact GD.g rfl (fun _=>rfl));exact rfl;exact rfl)
  |(apply aS7;exact fun _=>rfl;exact fun _=>rfl;exact rfl;(first|exact GD.p|exact GD.g rfl (fun _=>rfl));exact rfl;exact rfl)
  |(apply aSg;exact fun _=>rfl;exact rfl;(first|exact GD.p|exact GD.g rfl (fun _=>rfl));exact rfl;exact rfl)
  |(apply aP4;exact fun _=>rfl;exact rfl;(first|exact GD.p|exact GD.g rfl (fun _=>rfl));exact rfl;exact rfl)
  |(apply aP3;exact fun _=>rfl;exact rfl;(first|exact GD.p|exact GD.g rfl (fun _=>rfl));exact rfl;exact rfl)
  |(apply aOo;exact fun _=>rfl;exact rfl;(first|exact GD.p|exact GD.g rfl (fun _=>rfl));exact rfl;assumption;exact rfl)
  |(apply aP6;exact inferInstance;exact rfl;exact rfl)
  |(apply e_u;exact rfl;exact fun _=>rfl;exact rfl;exact rfl)
  |(apply aQj;exact rfl))) (hx:Mix S.P:=by infer_instance)
  (hm:aDb ms l ms=true:=by kernel_rfl) (hb:zT l 0=true:=by kernel_rfl) (hq:aB4 l=true:=by kernel_rfl) (hm2:Nat.beq l.length (m+n)=true:=by kernel_rfl) (ht:aDu l ms m n=true:=by kernel_rfl):WC S (.region id l.toArray true) κ H E:=
 iQ ms m n outs hx.h hops.h k hm hb hq (by rw [hops.len];simp) hm2 ht
theorem go {P:Prop} (Q:Prop) (k:Q) (h:D P Q:=by
 first
  |with_reducible refine sL ?_
  |with_reducible refine sC ?_
  |with_reducible refine sX ?_
 repeat (first
  |(apply aQw)
  |(apply aNc)
  |(apply aP0)
  |(apply aQb)
  |(apply aSp;exact rfl;exact rfl;(first|exact dA.p|exact dA.g rfl rfl rfl))
  |(apply aR1;exact rfl;exact rfl;(first|exact dA.p|exact dA.g rfl rfl rfl))
  |(apply b_n;exact rfl;exact rfl;exact rfl;exact rfl;exact rfl)
  |(apply aSH;exact rfl;exact rfl;exact inferInstance;exact rfl;(first|exact dA.p|exact dA.g rfl rfl rfl);(with_reducible assumption))
  |(apply aPH;exact rfl;exact inferInstance;exact rfl;(first|exact dA.p|exact dA.g rfl rfl rfl))
  |(apply aSk;exact rfl;exact inferInstance;exact rfl;(first|exact dA.p|exact dA.g rfl rfl rfl))
  |(apply aQI;exact rfl;exact inferInstance;exact rfl;(first|exact dA.p|exact dA.g rfl rfl rfl))
  |(apply aQE;exact rfl;exact inferInstance;exact rfl;exact rfl;(first|exact dA.p|exact dA.g rfl rfl rfl))
  |(apply aQm;exact rfl;exact inferInstance;exact rfl;exact rfl;(first|exact dA.p|exact dA.g rfl rfl rfl))
  |(apply aSS;exact rfl;exact inferInstance;(repeat (first|exact iI.a rfl|apply iI.b));exact rfl;exact rfl;(first|exact dA.p|exact dA.g rfl rfl rfl))
  |(apply aR8;exact rfl;exact inferInstance;(repeat (first|exact iI.a rfl|apply iI.b));exact rfl;exact rfl;(first|exact dA.p|exact dA.g rfl rfl rfl))
  |(apply aPC;exact rfl;exact rfl;(repeat (first|exact iI.a rfl|apply iI.b));(first|exact rfl|with_reducible assumption|exact bC (by with_reducible assumption) (by first|with_reducible assumption|exact rfl));exact inferInstance;exact rfl;(first|exact dA.p|exact dA.g rfl rfl rfl);(with_reducible assumption))
  |(apply aQd;exact rfl;(repeat (first|exact iI.a rfl|apply iI.b));(first|exact rfl|with_reducible assumption|exact bC (by with_reducible assumption) (by first|with_reducible assumption|exact rfl));exact inferInstance;exact rfl;(first|exact dA.p|exact dA.g rfl rfl rfl))
  |(apply aOa;exact rfl;(repeat (first|exact iI.a rfl|apply iI.b));exact rfl;(with_reducible assumption);exact inferInstance;exact rfl;exact rfl;exact rfl;(first|exact dA.p|exact dA.g rfl rfl rfl))
  |(apply aMV;exact rfl;(repeat (first|exact iI.a rfl|apply iI.b));exact rfl;(with_reducible assumption);exact inferInstance;exact rfl;exact rfl;exact rfl;(first|exact dA.p|exact dA.g rfl rfl rfl))
  |(apply aSK;exact rfl;exact inferInstance;exact rfl;(first|exact dA.p|exact dA.g rfl rfl rfl))
  |(apply aSW;exact rfl;exact rfl;exact rfl;(first|exact dA.p|exact dA.g rfl rfl rfl))
  |(apply aSm;exact rfl;exact rfl;exact rfl;(first|exact dA.p|exact dA.g rfl rfl rfl))
  |(apply aSF;exact rfl;exact rfl;exact rfl;(first|exact dA.p|exact dA.g rfl rfl rfl))
  |(apply aSh;exact rfl;exact rfl;exact rfl;(first|exact dA.p|exact dA.g rfl rfl rfl))
  |(apply aSN;exact rfl;exact rfl;exact rfl;(first|exact dA.p|exact dA.g rfl rfl rfl))
  |(apply aSB;exact rfl;exact rfl;exact rfl;(first|exact dA.p|exact dA.g rfl rfl rfl))
  |(apply aPQ;exact rfl;exact rfl;exact rfl;(first|exact dA.p|exact dA.g rfl rfl rfl);(with_reducible assumption))
  |(apply aQu;exact rfl;exact rfl;exact rfl;(first|exact dA.p|exact dA.g rfl rfl rfl);(with_reducible assumption))
  |(apply aQf;exact rfl;exact rfl;exact rfl;(first|exact dA.p|exact dA.g rfl rfl rfl);(with_reducible assumption))
  |(apply aQz;exact rfl;exact rfl;exact rfl;(first|exact dA.p|exact dA.g rfl rfl rfl);(with_reducible assumption))
  |(apply aQr;exact rfl;exact rfl;exact rfl;(first|exact dA.p|exact dA.g rfl rfl rfl);(with_reducible assumption))
  |(apply aQF;exact rfl;exact rfl;(first|exact dA.p|exact dA.g rfl rfl rfl))
  |(apply aPL;exact rfl;exact rfl;(first|exact dA.p|exact dA.g rfl rfl rfl);(with_reducible assumption))
  |(apply aQM;exact rfl;exact rfl;(first|exact dA.p|exact dA.g rfl rfl rfl))
  |(apply aQK;exact rfl;exact rfl;(first|exact dA.p|exact dA.g rfl rfl rfl))
  |(apply aPV;exact rfl;exact rfl;(first|exact dA.p|exact dA.g rfl rfl rfl))
  |(apply aQc;exact rfl;exact rfl;(first|exact dA.p|exact dA.g rfl rfl rfl))
  |(apply aQN;exact rfl;exact rfl;(first|exact dA.p|exact dA.g rfl rfl rfl))
  |(apply aR0;exact rfl;exact rfl;exact rfl;(first|exact dA.p|exact dA.g rfl rfl rfl))
  |(apply aS0;exact rfl;exact rfl;exact rfl;(first|exact dA.p|exact dA.g rfl rfl rfl))
  |(apply aSa;exact rfl;exact rfl;exact inferInstance;exact rfl;(first|exact dA.p|exact dA.g rfl rfl rfl);(with_reducible assumption))
  |(apply aSE;exact rfl;exact rfl;exact inferInstance;exact rfl;(first|exact dA.p|exact dA.g rfl rfl rfl);(with_reducible assumption))
  |(apply aQe;exact rfl;exact rfl;exact rfl;exact inferInstance;exact rfl;(first|exact dA.p|exact dA.g rfl rfl rfl);(with_reducible assumption))
  |(apply aSl;exact rfl;exact rfl;exact rfl;(first|exact dA.p|exact dA.g rfl rfl rfl))
  |(apply aSC;exact rfl;exact rfl;exact rfl;(first|exact dA.p|exact dA.g rfl rfl rfl))
  |(apply aSV;exact rfl;exact rfl;(first|exact dA.p|exact dA.g rfl rfl rfl))
  |(apply aPX;exact rfl;exact rfl;(first|exact dA.p|exact dA.g rfl rfl rfl))
  |(apply aPB;exact rfl;exact rfl;(first|exact dA.p|exact dA.g rfl rfl rfl))
  |(apply aOt;exact rfl;exact rfl;(first|exact dA.p|exact dA.g rfl rfl rfl);assumption)
  |(apply aST;exact rfl;exact rfl;exact inferInstance;(repeat (first|exact aAj.a rfl|apply aAj.b));exact trivial;exact rfl;exact rfl)
  |(apply aSD;exact rfl;exact rfl;exact inferInstance;(repeat (first|exact aAj.a rfl|apply aAj.b));exact trivial;exact rfl;exact rfl)
  |(apply aLV;exact rfl;exact rfl;(repeat (first|exact iI.a rfl|apply iI.b));exact rfl;(with_reducible assumption);(with_reducible assumption);exact ty1s;(repeat (first|exact aAj.a rfl|apply aAj.b));exact trivial;exact rfl;exact rfl)
  |(apply aLV;exact rfl;exact rfl;(repeat (first|exact iI.a rfl|apply iI.b));exact rfl;(with_reducible assumption);(with_reducible assumption);exact tyAs;(repeat (first|exact aAj.a rfl|apply aAj.b));exact trivial;exact rfl;exact rfl)
  |(apply b_u;exact rfl;exact rfl;exact rfl;exact rfl)
  |(apply aNk)
  |(apply aM2)
  |(apply aLj)
  |(apply aLN)
  |(apply aQC))
 first
  |exact eL
  |exact eC
  |exact eX):P:=h.h k
theorem rv_1 {t T off:Nat} {β:Option Nat} {e:HA} {q:CP} {rs:List ResultVar} {ps:List VP} (h:jG E t=some (.vc (pP β off))) (ht:Ty1 S.P T) (hi:iI H β e) (hq:vI 1 (e.ps.drop off)=some [q]) (kk:RVs S H E rs ps):RVs S H E (.cell t T::rs) (.vc q::ps):=by
 obtain⟨i,h1,h2⟩:=hi.at
 exact yL i 1 h h1 h2 hq (.one ht) kk
theorem rv_A {t T off k:Nat} {β:Option Nat} {e:HA} {qs:List CP} {rs:List ResultVar} {ps:List VP} (h:jG E t=some (.vc (pP β off))) (ht:TyA S.P T k) (hi:iI H β e) (hq:vI k (e.ps.drop off)=some qs) (kk:RVs S H E rs ps):RVs S H E (.cell t T::rs) (.va qs::ps):=by
 obtain⟨i,h1,h2⟩:=hi.at
 exact yL i k h h1 h2 hq (.agg ht (zA hq)) kk
theorem aSd {P:Program} {fn:Func} {w0:World} {M0:jI} {B:List Nat} {post:VP} {N:NX} {rs:List ResultVar} {ps:List VP} (hk:κ.to .ret=(.ret,.base (aGf P fn (Rp P w0 M0 B (fun Ho q=>Ho=[]∧q=post))))) (hrs:fn.results=rs.toArray) (hv:RVs ⟨P,w0,M0,B,N⟩ H E rs ps) (hl:Nat.ble ps.length 4=true) (hpost:aKc ps=post) (hfr:∀D,N.fr D→w0.heap.size≤D∧M0 D=none):GC ⟨P,w0,M0,B,N⟩ .ret κ H E Q:=
 ⟨fun _=>dQ (dL (by rw [hk];exact eE (.inl rfl) hrs hv hl hpost hfr))⟩
theorem bI {P:Prop} (h:D P True:=by
 first
  |with_reducible refine sL ?_
  |with_reducible refine sC ?_
  |with_reducible refine sX ?_
 repeat (first
  |(apply aQw)
  |(apply aNc)
  |(apply aP0)
  |(apply aQb)
  |(apply aSp;exact rfl;exact rfl;(first|exact dA.p|exact dA.g rfl rfl rfl))
  |(apply aR1;exact rfl;exact rfl;(first|exact dA.p|exact dA.g rfl rfl rfl))
  |(apply b_n;exact rfl;exact rfl;exact rfl;exact rfl;exact rfl)
  |(apply aSH;exact rfl;exact rfl;exact inferInstance;exact rfl;(first|exact dA.p|exact dA.g rfl rfl rfl);(with_reducible assumption))
  |(apply aPH;exact rfl;exact inferInstance;exact rfl;(first|exact dA.p|exact dA.g rfl rfl rfl))
  |(apply aSk;exact rfl;exact inferInstance;exact rfl;(first|exact dA.p|exact dA.g rfl rfl rfl))
  |(apply aQI;exact rfl;exact inferInstance;exact rfl;(first|exact dA.p|exact dA.g rfl rfl rfl))
  |(apply aQE;exact rfl;exact inferInstance;exact rfl;exact rfl;(first|exact dA.p|exact dA.g rfl rfl rfl))
  |(apply aQm;exact rfl;exact inferInstance;exact rfl;exact rfl;(first|exact dA.p|exact dA.g rfl rfl rfl))
  |(apply aSS;exact rfl;exact inferInstance;(repeat (first|exact iI.a rfl|apply iI.b));exact rfl;exact rfl;(first|exact dA.p|exact dA.g rfl rfl rfl))
  |(apply aR8;exact rfl;exact inferInstance;(repeat (first|exact iI.a rfl|apply iI.b));exact rfl;exact rfl;(first|exact dA.p|exact dA.g rfl rfl rfl))
  |(apply aPC;exact rfl;exact rfl;(repeat (first|exact iI.a rfl|apply iI.b));(first|exact rfl|with_reducible assumption|exact bC (by with_reducible assumption) (by first|with_reducible assumption|exact rfl));exact inferInstance;exact rfl;(first|exact dA.p|exact dA.g rfl rfl rfl);(with_reducible assumption))
  |(apply aQd;exact rfl;(repeat (first|exact iI.a rfl|apply iI.b));(first|exact rfl|with_reducible assumption|exact bC (by with_reducible assumption) (by first|with_reducible assumption|exact rfl));exact inferInstance;exact rfl;(first|exact dA.p|exact dA.g rfl rfl rfl))
  |(apply aOa;exact rfl;(repeat (first|exact iI.a rfl|apply iI.b));exact rfl;(with_reducible assumption);exact inferInstance;exact rfl;exact rfl;exact rfl;(first|exact dA.p|exact dA.g rfl rfl rfl))
  |(apply aMV;exact rfl;(repeat (first|exact iI.a rfl|apply iI.b));exact rfl;(with_reducible assumption);exact inferInstance;exact rfl;exact rfl;exact rfl;(first|exact dA.p|exact dA.g rfl rfl rfl))
  |(apply aSK;exact rfl;exact inferInstance;exact rfl;(first|exact dA.p|exact dA.g rfl rfl rfl))
  |(apply aSW;exact rfl;exact rfl;exact rfl;(first|exact dA.p|exact dA.g rfl rfl rfl))
  |(apply aSm;exact rfl;exact rfl;exact rfl;(first|exact dA.p|exact dA.g rfl rfl rfl))
  |(apply aSF;exact rfl;exact rfl;exact rfl;(first|exact dA.p|exact dA.g rfl rfl rfl))
  |(apply aSh;exact rfl;exact rfl;exact rfl;(first|exact dA.p|exact dA.g rfl rfl rfl))
  |(apply aSN;exact rfl;exact rfl;exact rfl;(first|exact dA.p|exact dA.g rfl rfl rfl))
  |(apply aSB;exact rfl;exact rfl;exact rfl;(first|exact dA.p|exact dA.g rfl rfl rfl))
  |(apply aPQ;exact rfl;exact rfl;exact rfl;(first|exact dA.p|exact dA.g rfl rfl rfl);(with_reducible assumption))
  |(apply aQu;exact rfl;exact rfl;exact rfl;(first|exact dA.p|exact dA.g rfl rfl rfl);(with_reducible assumption))
  |(apply aQf;exact rfl;exact rfl;exact rfl;(first|exact dA.p|exact dA.g rfl rfl rfl);(with_reducible assumption))
  |(apply aQz;exact rfl;exact rfl;exact rfl;(first|exact dA.p|exact dA.g rfl rfl rfl);(with_reducible assumption))
  |(apply aQr;exact rfl;exact rfl;exact rfl;(first|exact dA.p|exact dA.g rfl rfl rfl);(with_reducible assumption))
  |(apply aQF;exact rfl;exact rfl;(first|exact dA.p|exact dA.g rfl rfl rfl))
  |(apply aPL;exact rfl;exact rfl;(first|exact dA.p|exact dA.g rfl rfl rfl);(with_reducible assumption))
  |(apply aQM;exact rfl;exact rfl;(first|exact dA.p|exact dA.g rfl rfl rfl))
  |(apply aQK;exact rfl;exact rfl;(first|exact dA.p|exact dA.g rfl rfl rfl))
  |(apply aPV;exact rfl;exact rfl;(first|exact dA.p|exact dA.g rfl rfl rfl))
  |(apply aQc;exact rfl;exact rfl;(first|exact dA.p|exact dA.g rfl rfl rfl))
  |(apply aQN;exact rfl;exact rfl;(first|exact dA.p|exact dA.g rfl rfl rfl))
  |(apply aR0;exact rfl;exact rfl;exact rfl;(first|exact dA.p|exact dA.g rfl rfl rfl))
  |(apply aS0;exact rfl;exact rfl;exact rfl;(first|exact dA.p|exact dA.g rfl rfl rfl))
  |(apply aSa;exact rfl;exact rfl;exact inferInstance;exact rfl;(first|exact dA.p|exact dA.g rfl rfl rfl);(with_reducible assumption))
  |(apply aSE;exact rfl;exact rfl;exact inferInstance;exact rfl;(first|exact dA.p|exact dA.g rfl rfl rfl);(with_reducible assumption))
  |(apply aQe;exact rfl;exact rfl;exact rfl;exact inferInstance;exact rfl;(first|exact dA.p|exact dA.g rfl rfl rfl);(with_reducible assumption))
  |(apply aSl;exact rfl;exact rfl;exact rfl;(first|exact dA.p|exact dA.g rfl rfl rfl))
  |(apply aSC;exact rfl;exact rfl;exact rfl;(first|exact dA.p|exact dA.g rfl rfl rfl))
  |(apply aSV;exact rfl;exact rfl;(first|exact dA.p|exact dA.g rfl rfl rfl))
  |(apply aPX;exact rfl;exact rfl;(first|exact dA.p|exact dA.g rfl rfl rfl))
  |(apply aPB;exact rfl;exact rfl;(first|exact dA.p|exact dA.g rfl rfl rfl))
  |(apply aOt;exact rfl;exact rfl;(first|exact dA.p|exact dA.g rfl rfl rfl);assumption)
  |(apply aST;exact rfl;exact rfl;exact inferInstance;(repeat (first|exact aAj.a rfl|apply aAj.b));exact trivial;exact rfl;exact rfl)
  |(apply aSD;exact rfl;exact rfl;exact inferInstance;(repeat (first|exact aAj.a rfl|apply aAj.b));exact trivial;exact rfl;exact rfl)
  |(apply aLV;exact rfl;exact rfl;(repeat (first|exact iI.a rfl|apply iI.b));exact rfl;(with_reducible assumption);(with_reducible assumption);exact ty1s;(repeat (first|exact aAj.a rfl|apply aAj.b));exact trivial;exact rfl;exact rfl)
  |(apply aLV;exact rfl;exact rfl;(repeat (first|exact iI.a rfl|apply iI.b));exact rfl;(with_reducible assumption);(with_reducible assumption);exact tyAs;(repeat (first|exact aAj.a rfl|apply aAj.b));exact trivial;exact rfl;exact rfl)
  |(apply b_u;exact rfl;exact rfl;exact rfl;exact rfl)
  |(apply aNk)
  |(apply aM2)
  |(apply aLj)
  |(apply aLN)
  |(apply aQC))
 repeat (cases(by with_reducible assumption:some _=some _))
 apply aSd
 ·exact rfl
 ·exact rfl
 ·repeat (first
   |exact RVs.nil
   |(apply RVs.tmp;exact rfl)
   |(apply rv_A;exact rfl;exact inferInstance;(repeat (first|exact iI.a rfl|apply iI.b));exact rfl)
   |(apply rv_1;exact rfl;exact inferInstance;(repeat (first|exact iI.a rfl|apply iI.b));exact rfl))
 ·exact rfl
 ·exact rfl
 ·exact fun _ h=>h):P:=h.h trivial
theorem dI {E':sN} (l:List Nat) {a:Act} {w:World} (h:hs S H E a w) (hp:cE H l=some H':=by exact rfl) (hl:l.Nodup:=by decide) (hE:aGO E E':=by repeat (first|exact trivial|refine⟨rfl,?_⟩)):hs S H' E' a w:=zL l hp hl hE h
theorem nK {PJ:List HA→sN→Prop} {E':sN} (J:∀H E,PJ H E→WX S .normal κ H E) (h:PJ H' E') (l:List Nat) (hp:cE H l=some H':=by exact rfl) (hE:aGO E E':=by repeat (first|exact trivial|refine⟨rfl,?_⟩)) (hl:l.Nodup:=by decide):WX S .normal κ H E:=aEd J h l hp hE hl
theorem aB {α:Type} {A B:Option α} {r:α} {t:Nat} {b:Bool} {x y:Code} (hF:(bif b then A else B)=some r) (ht:jG E t=some (.vc (pB b))) (hx:b=true→A=some r→WC S x κ H E) (hy:b=false→B=some r→WC S y κ H E):WC S (.cond (.tmp t) x y) κ H E:=
 aGW ht (fun h=>hx h (vK h hF)) (fun h=>hy h (tU h hF))
theorem cC {α:Type} {A B:Option α} {r:α} {d:Nat} {c:Bool} (hF:(bif c then A else B)=some r) (ht:c=true→A=some r→WL S ops κ rest H ((d,.vc (pB true))::E)) (hf:c=false→B=some r→WL S ops κ rest H ((d,.vc (pB false))::E)):WL S ops κ rest H ((d,.vc (pB c))::E):=
 aKi (fun h=>ht h (vK h hF)) (fun h=>hf h (tU h hF))
end
end Go.Proofs.YtolfcbpgmfbgmaaGreat
set_option linter.unusedVariables false
set_option maxRecDepth 100000
namespace Go.Proofs.YtolfcbpgmfbgmaaGreat
theorem aU:Tryz.prog.follows .mixedOrders=true:=by kernel_rfl
instance Tryz_mix:Mix Tryz.prog:=⟨aU⟩
instance tyA40:TyA Tryz.prog 40 2:=mkA Tryz.underlying40 rfl (by kernel_rfl)
theorem tyB40:TyB Tryz.prog 40 [(0,1),(1,1)] ([pB false]++[pS cI ([]:List Int)]):=mkB (z:=.agg #[.bool false,.slice none 0 0]) (by kernel_rfl) Tryz.underlying40 (by kernel_rfl) (fun M=>bB.app (show bB M [pB false] [.bool false] from zU1) (show bB M [pS cI ([]:List Int)] [.slice none 0 0] from⟨cD cI M,trivial⟩))
instance tyF40_0:TyF Tryz.prog 40 0 0:=mkF (ft:=4) (k:=0) Tryz.underlying40 rfl rfl rfl (by kernel_rfl)
instance tyF40_1:TyF Tryz.prog 40 1 1:=mkF (ft:=22) (k:=0) Tryz.underlying40 rfl rfl rfl (by kernel_rfl)
instance tyO22:Ty1 Tryz.prog 22:=mk1 Tryz.underlying22 rfl (by kernel_rfl)
instance tyO3:Ty1 Tryz.prog 3:=mk1 Tryz.underlying3 rfl (by kernel_rfl)
instance tyO4:Ty1 Tryz.prog 4:=mk1 Tryz.underlying4 rfl (by kernel_rfl)
instance tyS22:TyS Tryz.prog 22 3 1 8:=mkS (z:=.int .i64 0) (k:=0) Tryz.underlying22 (by kernel_rfl) rfl
instance tyZ3:TyZ Tryz.prog 3 [pI .i64 0]:=mkZ (z:=.int .i64 0) (k:=1) (by kernel_rfl) rfl (fun M=>show bB M [pI .i64 0] [.int .i64 0] from zU1)
instance tyZ40:TyZ Tryz.prog 40 ([pB false]++[pS cI ([]:List Int)]):=mkZ (z:=.agg #[.bool false,.slice none 0 0]) (k:=2) (by kernel_rfl) rfl (fun M=>bB.app (show bB M [pB false] [.bool false] from zU1) (show bB M [pS cI ([]:List Int)] [.slice none 0 0] from⟨cD cI M,trivial⟩))
def pR (K:Nat) (a0:Bool) (a1:List Int) (x4:Int):Option aE:=
 bif(x4==0) then(some (⟨false,([]:List Int)⟩:aE)) else((slL a1 0 x4).bind fun x8=>some (⟨a0,x8⟩:aE))
def fO (K:Nat) (a1:List Int):Nat→Int→Option Int
 |0,_=>none
 |k+1,x3=>bif(decide (0<x3)) then((aS (x3-1)).bind fun v11=>(bF a1 (max v11 0)).bind fun v13=>bif(v13==0) then((aS (x3-1)).bind fun v16=>fO K a1 k v16) else(some x3)) else(some x3)
def bA (K:Nat) (a0:Bool) (a1:List Int):Option aE:=
 (fO K a1 K (a1.length:Int)).bind fun x4=>pR K a0 a1 x4
theorem bH {K:Nat} {a0:Bool} {a1:List Int} {r:aE} (hF:bA K a0 a1=some r):Ct Tryz.prog 94 [.vc (pB a0),.vc (pS cI a1)] (.va (aE.e r)):=by
 unfold bA at hF
 refine aA Tryz.func94 rfl (by kernel_rfl) Tryz.ntmps94 rfl (fun w0 M0=>?_)
 refine aC (aH (aN rfl tyZ40 (fun b1=>?_)))
 refine go ?_ ?_
 refine aG (aP (fun H E=>∃(x4:Int),pR K a0 a1 x4=some r∧H=[⟨some b1,1,40,2,1,([pB false]++[pS cI ([]:List Int)])⟩]∧E=[(0,.vc (pB a0)),(1,.vc (pS cI a1)),(4,.vc (pP (some b1) 0)),(5,.vc (pI .i64 x4))]) ?_ (fun Jj6=>?_))
 ·rintro _ _ ⟨x4,hF,rfl,rfl⟩
  unfold pR at hF
  refine go ?_ ?_
  refine aB hF rfl (fun h7 hF=>?_) (fun h7 hF=>?_)
  ·refine aC (aH (aI (gU (is:=[]) (xs:=[]) (ps:=[]) rfl tyB40 rfl rfl trivial rfl) trivial ?_))
   exact bI
  obtain⟨x8,h9,hF⟩:=aM hF
  refine go ?_ ?_
  refine aI (gU (is:=[0,1]) (xs:=[.tmp 24,.tmp 27]) (ps:=[.vc (pB a0),.vc (pS cI x8)]) rfl tyB40 rfl rfl ⟨trivial,trivial,trivial⟩ rfl) zU2 ?_
  exact bI
 obtain⟨x4',hL,hRl5⟩:=aM hF
 refine cA (fun k a w=>∃(x3:Int),fO K a1 k x3=some x4'∧hs _ [⟨some b1,1,40,2,1,([pB false]++[pS cI ([]:List Int)])⟩] [(0,.vc (pB a0)),(1,.vc (pS cI a1)),(4,.vc (pP (some b1) 0)),(5,.vc (pI .i64 x3))] a w) K (fun a w ⟨_,hF,_⟩=>by cases hF) (fun k a w ⟨x3,hF,hh⟩=>b0 ?_ hh) (fun a w hh=>⟨(a1.length:Int),hL,dI [0] hh⟩)
 rw [fO.eq_2] at hF
 refine go ?_ ?_
 refine cC hF (fun h10 hF=>?_) (fun h10 hF=>?_)
 ·obtain⟨v11,h12,v13,h14,hF⟩:=tW hF
  refine go ?_ ?_
  refine aB hF rfl (fun h15 hF=>?_) (fun h15 hF=>?_)
  ·refine eU (aJ (aG ?_))
   have hF:=tJ h12 hF
   refine go ?_ ?_
   exact aF (fun a w hh=>⟨v11,hF,dI [0] hh⟩)
  refine aV ?_
  obtain rfl:=eP hF
  exact nK Jj6 ⟨x3,hRl5,rfl,rfl⟩ [0]
 refine go ?_ ?_
 refine wX rfl ?_
 refine aV ?_
 obtain rfl:=eP hF
 exact nK Jj6 ⟨x3,hRl5,rfl,rfl⟩ [0]
def sD (K:Nat) (a0:aE) (a1:aE) (x25:List Int):Option aE:=
 (bA K (a0.neg != a1.neg) x25).bind fun v33=>some v33
def r4 (K:Nat) (a1:aE) (x24:Int) (recl31:(List Int)→Int→Option (List Int)) (x52:List Int) (x58:Int):Option (List Int):=
 (aS (x24+(a1.d.length:Int))).bind fun v61=>(bF x52 v61).bind fun v63=>(qL x52 v61 x58).bind fun x65=>(aS (x24+1)).bind fun v68=>recl31 x65 v68
def iB (K:Nat) (a0:aE) (a1:aE) (x24:Int):Nat→(List Int)→Int→Int→Option ((List Int)×Int)
 |0,_,_,_=>none
 |k+1,x44,x50,x51=>bif(decide (x51<(a1.d.length:Int))) then((aS (x24+x51)).bind fun v73=>(bF x44 v73).bind fun v75=>(bF a0.d x24).bind fun v77=>(bF a1.d x51).bind fun v79=>(aS (v77*v79)).bind fun v81=>(aS (v75+v81)).bind fun v83=>(aS (v83+x50)).bind fun v85=>(aS (x24+x51)).bind fun v87=>(chr v85 1000000000).bind fun v89=>(bF x44 v87).bind fun v91=>(qL x44 v87 v89).bind fun x93=>(chq v85 1000000000).bind fun v96=>(aS (x51+1)).bind fun v98=>iB K a0 a1 x24 k x93 v96 v98) else(some (x44,x50))
def hU (K:Nat) (a0:aE) (a1:aE):Nat→(List Int)→Int→Option (List Int)
 |0,_,_=>none
 |k+1,x18,x24=>bif(decide (x24<(a0.d.length:Int))) then((iB K a0 a1 x24 K x18 0 0).bind fun(x52,x58)=>r4 K a1 x24 (hU K a0 a1 k) x52 x58) else(some x18)
def eW (K:Nat) (a0:aE) (a1:aE):Option aE:=
 (aS ((a0.d.length:Int)+(a1.d.length:Int))).bind fun v4=>(mkL v4 0).bind fun x6=>(hU K a0 a1 K x6 0).bind fun x25=>sD K a0 a1 x25
theorem kD {K:Nat} {a0:aE} {a1:aE} {r:aE} (hF:eW K a0 a1=some r):Ct Tryz.prog 58 [.va (aE.e a0),.va (aE.e a1)] (.va (aE.e r)):=by
 unfold eW at hF
 refine aA Tryz.func58 rfl (by kernel_rfl) Tryz.ntmps58 rfl (fun w0 M0=>?_)
 refine aC (aH (bV rfl rfl trivial (fun b1=>?_)))
 refine bV rfl rfl trivial (fun b2=>?_)
 refine aN rfl tyZ40 (fun b3=>?_)
 obtain⟨v4,h5,x6,h7,hF⟩:=tW hF
 refine go ?_ ?_
 refine nN (C:=cI) rfl tyS22 rfl tyZ3 rfl h7 (fun b8=>?_)
 refine go ?_ ?_
 refine aG (aP (fun H E=>∃(x25:List Int),sD K a0 a1 x25=some r∧x25.length=x6.length∧H=[hO cI b8 x6.length 3 x6.length x25,⟨some b3,1,40,2,1,([pB false]++[pS cI ([]:List Int)])⟩,⟨some b2,1,40,2,1,(aE.e a1)⟩,⟨some b1,1,40,2,1,(aE.e a0)⟩]∧E=[(2,.vc (pP (some b1) 0)),(3,.vc (pP (some b2) 0)),(4,.vc (pP (some b3) 0)),(5,.vc (pO b8 x6.length x6.length))]) ?_ (fun Jj32=>?_))
 ·rintro _ _ ⟨x25,hF,q29,rfl,rfl⟩
  unfold sD at hF
  refine go ?_ ?_
  refine aI (aB7 rfl Tryz.underlying4) zU2 ?_
  refine dS ?_
  refine tV 0 [5,74] rfl q29 zU2 rfl ?_
  obtain⟨v33,h34,hF⟩:=aW hF bH
  exact bI
 obtain⟨x25',hL,hRl31⟩:=aM hF
 refine cA (fun k a w=>∃(x18:List Int),∃(x24:Int),hU K a0 a1 k x18 x24=some x25'∧x18.length=x6.length∧hs _ [hO cI b8 x6.length 3 x6.length x18,⟨some b3,1,40,2,1,([pB false]++[pS cI ([]:List Int)])⟩,⟨some b2,1,40,2,1,(aE.e a1)⟩,⟨some b1,1,40,2,1,(aE.e a0)⟩] [(2,.vc (pP (some b1) 0)),(3,.vc (pP (some b2) 0)),(4,.vc (pP (some b3) 0)),(5,.vc (pO b8 x6.length x6.length)),(6,.vc (pI .i64 x24))] a w) K (fun a w ⟨_,_,hF,_,_⟩=>by cases hF) (fun k a w ⟨x18,x24,hF,q22,hh⟩=>b0 ?_ hh) (fun a w hh=>⟨x6,0,hL,rfl,dI [0,1,2,3] hh⟩)
 rw [hU.eq_2] at hF
 refine go ?_ ?_
 refine aB hF rfl (fun h35 hF=>?_) (fun h35 hF=>?_)
 ·refine go ?_ ?_
  refine aG (go ?_ ?_)
  refine aG (aP (fun H E=>∃(x52:List Int),∃(x58:Int),r4 K a1 x24 (hU K a0 a1 k) x52 x58=some x25'∧x52.length=x6.length∧H=[hO cI b8 x6.length 3 x6.length x52,⟨some b3,1,40,2,1,([pB false]++[pS cI ([]:List Int)])⟩,⟨some b2,1,40,2,1,(aE.e a1)⟩,⟨some b1,1,40,2,1,(aE.e a0)⟩]∧E=[(2,.vc (pP (some b1) 0)),(3,.vc (pP (some b2) 0)),(4,.vc (pP (some b3) 0)),(5,.vc (pO b8 x6.length x6.length)),(6,.vc (pI .i64 x24)),(7,.vc (pI .i64 x58))]) ?_ (fun Jj60=>?_))
  ·rintro _ _ ⟨x52,x58,hF,q56,rfl,rfl⟩
   unfold r4 at hF
   obtain⟨v61,h62,v63,h64,x65,h66,v68,h69,hF⟩:=bn4 hF
   refine go ?_ ?_
   exact aF (fun a w hh=>⟨x65,v68,hF,(bC h66 q56),dI [0,1,2,3] hh⟩)
  obtain⟨⟨x52',x58'⟩,hL,hRl59⟩:=aM hF
  refine cA (fun k a w=>∃(x44:List Int),∃(x50:Int),∃(x51:Int),iB K a0 a1 x24 k x44 x50 x51=some (x52',x58')∧x44.length=x6.length∧hs _ [hO cI b8 x6.length 3 x6.length x44,⟨some b3,1,40,2,1,([pB false]++[pS cI ([]:List Int)])⟩,⟨some b2,1,40,2,1,(aE.e a1)⟩,⟨some b1,1,40,2,1,(aE.e a0)⟩] [(2,.vc (pP (some b1) 0)),(3,.vc (pP (some b2) 0)),(4,.vc (pP (some b3) 0)),(5,.vc (pO b8 x6.length x6.length)),(6,.vc (pI .i64 x24)),(7,.vc (pI .i64 x50)),(8,.vc (pI .i64 x51))] a w) K (fun a w ⟨_,_,_,hF,_,_⟩=>by cases hF) (fun k a w ⟨x44,x50,x51,hF,q48,hh⟩=>b0 ?_ hh) (fun a w hh=>⟨x18,0,0,hL,q22,dI [0,1,2,3] hh⟩)
  rw [iB.eq_2] at hF
  refine go ?_ ?_
  refine aB hF rfl (fun h70 hF=>?_) (fun h70 hF=>?_)
  ·refine go ?_ ?_
   refine aG (aC ?_)
   obtain⟨v73,h74,hF⟩:=aM hF
   obtain⟨v75,h76,hF⟩:=aM hF
   obtain⟨v77,h78,hF⟩:=aM hF
   obtain⟨v79,h80,hF⟩:=aM hF
   obtain⟨v81,h82,hF⟩:=aM hF
   obtain⟨v83,h84,hF⟩:=aM hF
   obtain⟨v85,h86,hF⟩:=aM hF
   refine dr [0,0,0,6,15,31,0,64,0,448,960,0,2048,0,14336,30720,65472,131071,0,524287,1048575] 21 0 ?_ (fun bs72 G71=>?_)
   have hF:=tJ h74 hF
   obtain⟨v89,h90,hF⟩:=aM hF
   have hF:=tJ h76 hF
   obtain⟨x93,h94,v96,h97,v98,h99,hF⟩:=bn3 hF
   refine go ?_ ?_
   exact aF (fun a w hh=>⟨x93,v96,v98,hF,(bC h94 q48),dI [0,1,2,3] hh⟩)
  refine aV ?_
  obtain⟨rfl,rfl⟩:=sm2 hF
  exact nK Jj60 ⟨x44,x50,hRl59,q48,rfl,rfl⟩ [0,1,2,3]
 refine aV ?_
 obtain rfl:=eP hF
 exact nK Jj32 ⟨x18,hRl31,q22,rfl,rfl⟩ [0,1,2,3]
def cP (a0:List Int) (a1:Int):Option Int:=
 bif(decide (a1<(a0.length:Int))) then((bF a0 a1).bind fun v2=>some v2) else(some 0)
theorem gE {a0:List Int} {a1:Int} {r:Int} (hF:cP a0 a1=some r):Ct Tryz.prog 140 [.vc (pS cI a0),.vc (pI .i64 a1)] (.vc (pI .i64 r)):=by
 unfold cP at hF
 refine aA Tryz.func140 rfl (by kernel_rfl) Tryz.ntmps140 rfl (fun w0 M0=>?_)
 refine go ?_ ?_
 refine aB hF rfl (fun h1 hF=>?_) (fun h1 hF=>?_)
 ·obtain⟨v2,h3,hF⟩:=aM hF
  exact bI
 exact bI
def rE (K:Nat) (x19:List Int):Option (List Int):=
 some x19
def bT (K:Nat) (a0:List Int) (a1:List Int):Nat→(List Int)→Int→Int→Option (List Int)
 |0,_,_,_=>none
 |k+1,x11,x17,x18=>bif(decide (x18<(a0.length:Int))) then((cP a0 x18).bind fun v28=>(cP a1 x18).bind fun v30=>(aS (v28+v30)).bind fun v32=>(aS (v32+x17)).bind fun v34=>(chr v34 1000000000).bind fun v36=>(oG x11 [v36]).bind fun x38=>(chq v34 1000000000).bind fun v45=>(aS (x18+1)).bind fun v47=>bT K a0 a1 k x38 v45 v47) else(bif(decide (x18<(a1.length:Int))) then((cP a0 x18).bind fun v50=>(cP a1 x18).bind fun v52=>(aS (v50+v52)).bind fun v54=>(aS (v54+x17)).bind fun v56=>(chr v56 1000000000).bind fun v58=>(oG x11 [v58]).bind fun x60=>(chq v56 1000000000).bind fun v67=>(aS (x18+1)).bind fun v69=>bT K a0 a1 k x60 v67 v69) else(bif(decide (0<x17)) then((cP a0 x18).bind fun v72=>(cP a1 x18).bind fun v74=>(aS (v72+v74)).bind fun v76=>(aS (v76+x17)).bind fun v78=>(chr v78 1000000000).bind fun v80=>(oG x11 [v80]).bind fun x82=>(chq v78 1000000000).bind fun v89=>(aS (x18+1)).bind fun v91=>bT K a0 a1 k x82 v89 v91) else(some x11)))
def rS (K:Nat) (a0:List Int) (a1:List Int):Option (List Int):=
 (bT K a0 a1 K ([]:List Int) 0 0).bind fun x19=>rE K x19
theorem aDo {K:Nat} {a0:List Int} {a1:List Int} {r:List Int} (hF:rS K a0 a1=some r):Ct Tryz.prog 98 [.vc (pS cI a0),.vc (pS cI a1)] (.vc (pS cI r)):=by
 unfold rS at hF
 refine aA Tryz.func98 rfl (by kernel_rfl) Tryz.ntmps98 rfl (fun w0 M0=>?_)
 refine aC (aH (aI (aL (.inr rfl)) ⟨cD cI,trivial⟩ ?_))
 refine aT (aJ (aC (aH (jP cI 3 rfl ?_))))
 refine go ?_ ?_
 refine aG (aP (fun H E=>∃(x19:List Int),∃(b20:Option Nat),∃(c21:Nat),∃(n22:Nat),rE K x19=some r∧x19.length=n22∧H=[hO cI b20 c21 3 n22 x19]∧E=[(5,.vc (pO b20 n22 c21))]) ?_ (fun Jj26=>?_))
 ·rintro _ _ ⟨x19,b20,c21,n22,hF,q23,rfl,rfl⟩
  unfold rE at hF
  refine go ?_ ?_
  refine dQ (dL (lF 0 [4,5,41] rfl q23 ⟨rfl,rfl,rfl,trivial⟩ rfl ?_))
  obtain rfl:=eP hF
  exact eE (.inl rfl) Tryz.results98 (.tmp rfl .nil) rfl rfl
 obtain⟨x19',hL,hRl25⟩:=aM hF
 refine cA (fun k a w=>∃(x11:List Int),∃(x17:Int),∃(x18:Int),∃(b12:Option Nat),∃(c13:Nat),∃(n14:Nat),bT K a0 a1 k x11 x17 x18=some x19'∧x11.length=n14∧hs _ [hO cI b12 c13 3 n14 x11] [(0,.vc (pS cI a0)),(1,.vc (pS cI a1)),(5,.vc (pO b12 n14 c13)),(6,.vc (pI .i64 x17)),(7,.vc (pI .i64 x18))] a w) K (fun a w ⟨_,_,_,_,_,_,hF,_,_⟩=>by cases hF) (fun k a w ⟨x11,x17,x18,b12,c13,n14,hF,q15,hh⟩=>b0 ?_ hh) (fun a w hh=>⟨([]:List Int),0,0,none,0,0,hL,rfl,dI [0] hh⟩)
 rw [bT.eq_2] at hF
 refine go ?_ ?_
 refine cC hF (fun h27 hF=>?_) (fun h27 hF=>?_)
 ·refine go ?_ ?_
  refine fV rfl ?_
  refine go ?_ ?_
  refine aG ?_
  obtain⟨v28,h29,hF⟩:=aW hF gE
  obtain⟨v30,h31,hF⟩:=aW hF gE
  obtain⟨v32,h33,v34,h35,v36,h37,hF⟩:=bn3 hF
  refine go ?_ ?_
  refine aI (eR (C:=cI) (xs:=[.tmp 36]) (ps:=[.vc (pI .i64 v36)]) (zs:=[v36]) rfl tyS22 rfl ⟨⟨trivial,rfl⟩,trivial⟩ rfl) zU1 ?_
  obtain⟨x38,h39,hF⟩:=aM hF
  refine iK 0 rfl tyS22 rfl rfl q15 rfl rfl h39 (fun b40 c41 H42 e43=>?_)
  cases e43
  obtain⟨v45,h46,v47,h48,hF⟩:=tW hF
  refine go ?_ ?_
  exact aF (fun a w hh=>⟨x38,v45,v47,b40,c41,(n14+[v36].length),hF,(bD h39 q15),dI [0] hh⟩)
 refine go ?_ ?_
 refine cC hF (fun h49 hF=>?_) (fun h49 hF=>?_)
 ·refine go ?_ ?_
  refine fV rfl ?_
  refine go ?_ ?_
  refine aG ?_
  obtain⟨v50,h51,hF⟩:=aW hF gE
  obtain⟨v52,h53,hF⟩:=aW hF gE
  obtain⟨v54,h55,v56,h57,v58,h59,hF⟩:=bn3 hF
  refine go ?_ ?_
  refine aI (eR (C:=cI) (xs:=[.tmp 36]) (ps:=[.vc (pI .i64 v58)]) (zs:=[v58]) rfl tyS22 rfl ⟨⟨trivial,rfl⟩,trivial⟩ rfl) zU1 ?_
  obtain⟨x60,h61,hF⟩:=aM hF
  refine iK 0 rfl tyS22 rfl rfl q15 rfl rfl h61 (fun b62 c63 H64 e65=>?_)
  cases e65
  obtain⟨v67,h68,v69,h70,hF⟩:=tW hF
  refine go ?_ ?_
  exact aF (fun a w hh=>⟨x60,v67,v69,b62,c63,(n14+[v58].length),hF,(bD h61 q15),dI [0] hh⟩)
 refine go ?_ ?_
 refine aB hF rfl (fun h71 hF=>?_) (fun h71 hF=>?_)
 ·refine go ?_ ?_
  refine aG ?_
  obtain⟨v72,h73,hF⟩:=aW hF gE
  obtain⟨v74,h75,hF⟩:=aW hF gE
  obtain⟨v76,h77,v78,h79,v80,h81,hF⟩:=bn3 hF
  refine go ?_ ?_
  refine aI (eR (C:=cI) (xs:=[.tmp 36]) (ps:=[.vc (pI .i64 v80)]) (zs:=[v80]) rfl tyS22 rfl ⟨⟨trivial,rfl⟩,trivial⟩ rfl) zU1 ?_
  obtain⟨x82,h83,hF⟩:=aM hF
  refine iK 0 rfl tyS22 rfl rfl q15 rfl rfl h83 (fun b84 c85 H86 e87=>?_)
  cases e87
  obtain⟨v89,h90,v91,h92,hF⟩:=tW hF
  refine go ?_ ?_
  exact aF (fun a w hh=>⟨x82,v89,v91,b84,c85,(n14+[v80].length),hF,(bD h83 q15),dI [0] hh⟩)
 refine aV ?_
 obtain rfl:=eP hF
 exact nK Jj26 ⟨x11,b12,c13,n14,hRl25,q15,rfl,rfl⟩ [0]
def sG (K:Nat):Option Int:=
 some 0
def cV (K:Nat) (a0:List Int) (a1:List Int):Nat→Int→Option (LR Int Unit)
 |0,_=>none
 |k+1,x6=>bif(decide (0≤x6)) then((bF a0 x6).bind fun v12=>(bF a1 x6).bind fun v14=>bif(decide (v12<v14)) then(some (.ret (-1))) else((bF a0 x6).bind fun v19=>(bF a1 x6).bind fun v21=>bif(decide (v21<v19)) then(some (.ret 1)) else((aS (x6-1)).bind fun v24=>cV K a0 a1 k v24))) else(some (.go ()))
def bU (K:Nat) (a0:List Int) (a1:List Int):Option Int:=
 bif(decide ((a0.length:Int)<(a1.length:Int))) then(some (-1)) else(bif(decide ((a1.length:Int)<(a0.length:Int))) then(some 1) else((aS ((a0.length:Int)-1)).bind fun v3=>(cV K a0 a1 K v3).bind fun o=>match o with| .ret r=>some r| .go _=>sG K))
theorem iF {K:Nat} {a0:List Int} {a1:List Int} {r:Int} (hF:bU K a0 a1=some r):Ct Tryz.prog 99 [.vc (pS cI a0),.vc (pS cI a1)] (.vc (pI .i64 r)):=by
 unfold bU at hF
 refine aA Tryz.func99 rfl (by kernel_rfl) Tryz.ntmps99 rfl (fun w0 M0=>?_)
 refine go ?_ ?_
 refine aB hF rfl (fun h1 hF=>?_) (fun h1 hF=>?_)
 ·exact bI
 refine go ?_ ?_
 refine aB hF rfl (fun h2 hF=>?_) (fun h2 hF=>?_)
 ·exact bI
 obtain⟨v3,h4,hF⟩:=aM hF
 refine go ?_ ?_
 refine aG (aP (fun H E=>sG K=some r∧H=[]∧E=[]) ?_ (fun Jj8=>?_))
 ·rintro _ _ ⟨hF,rfl,rfl⟩
  unfold sG at hF
  exact bI
 obtain⟨ol7,hL,hRl7⟩:=aM hF
 refine cA (fun k a w=>∃(x6:Int),cV K a0 a1 k x6=some ol7∧hs _ [] [(0,.vc (pS cI a0)),(1,.vc (pS cI a1)),(5,.vc (pI .i64 x6))] a w) K (fun a w ⟨_,hF,_⟩=>by cases hF) (fun k a w ⟨x6,hF,hh⟩=>b0 ?_ hh) (fun a w hh=>⟨v3,hL,dI [] hh⟩)
 rw [cV.eq_2] at hF
 refine go ?_ ?_
 refine aB hF rfl (fun h9 hF=>?_) (fun h9 hF=>?_)
 ·refine go ?_ ?_
  refine aG (aC (aC ?_))
  obtain⟨v12,h13,hF⟩:=aM hF
  obtain⟨v14,h15,hF⟩:=aM hF
  refine dr [0,0,3,7,0,0,48,112,255] 9 0 ?_ (fun bs11 G10=>?_)
  refine aT (aJ (aB hF rfl (fun h16 hF=>?_) (fun h16 hF=>?_)))
  ·exact bI
  have hF:=tJ h13 hF
  have hF:=tJ h15 hF
  refine go ?_ ?_
  refine dr [0,0,3,7,0,0,48,112,255] 9 0 ?_ (fun bs18 G17=>?_)
  refine aT (aJ (aB hF rfl (fun h23 hF=>?_) (fun h23 hF=>?_)))
  ·exact bI
  obtain⟨v24,h25,hF⟩:=aM hF
  refine go ?_ ?_
  exact aF (fun a w hh=>⟨v24,hF,dI [] hh⟩)
 refine aV ?_
 obtain rfl:=eP hF
 exact nK Jj8 ⟨hRl7,rfl,rfl⟩ []
def pT (K:Nat) (x19:List Int):Option (List Int):=
 some x19
def dZ (K:Nat) (a0:List Int) (a1:List Int):Nat→(List Int)→Int→Int→Option (List Int)
 |0,_,_,_=>none
 |k+1,x11,x17,x18=>bif(decide (x18<(a0.length:Int))) then((bF a0 x18).bind fun v30=>(cP a1 x18).bind fun v32=>(aS (v30-v32)).bind fun v34=>(aS (v34-x17)).bind fun v36=>bif(decide (v36<0)) then((aS (v36+1000000000)).bind fun v39=>(oG x11 [v39]).bind fun x41=>(aS (x18+1)).bind fun v48=>dZ K a0 a1 k x41 1 v48) else((oG x11 [v36]).bind fun x50=>(aS (x18+1)).bind fun v57=>dZ K a0 a1 k x50 0 v57)) else(some x11)
def fT (K:Nat) (a0:List Int) (a1:List Int):Option (List Int):=
 (dZ K a0 a1 K ([]:List Int) 0 0).bind fun x19=>pT K x19
theorem pG {K:Nat} {a0:List Int} {a1:List Int} {r:List Int} (hF:fT K a0 a1=some r):Ct Tryz.prog 100 [.vc (pS cI a0),.vc (pS cI a1)] (.vc (pS cI r)):=by
 unfold fT at hF
 refine aA Tryz.func100 rfl (by kernel_rfl) Tryz.ntmps100 rfl (fun w0 M0=>?_)
 refine aC (aH (aI (aL (.inr rfl)) ⟨cD cI,trivial⟩ ?_))
 refine aT (aJ (aC (aH (jP cI 3 rfl ?_))))
 refine go ?_ ?_
 refine aG (aP (fun H E=>∃(x19:List Int),∃(b20:Option Nat),∃(c21:Nat),∃(n22:Nat),pT K x19=some r∧x19.length=n22∧H=[hO cI b20 c21 3 n22 x19]∧E=[(5,.vc (pO b20 n22 c21))]) ?_ (fun Jj26=>?_))
 ·rintro _ _ ⟨x19,b20,c21,n22,hF,q23,rfl,rfl⟩
  unfold pT at hF
  refine go ?_ ?_
  refine dQ (dL (lF 0 [4,5,33] rfl q23 ⟨rfl,rfl,rfl,trivial⟩ rfl ?_))
  obtain rfl:=eP hF
  exact eE (.inl rfl) Tryz.results100 (.tmp rfl .nil) rfl rfl
 obtain⟨x19',hL,hRl25⟩:=aM hF
 refine cA (fun k a w=>∃(x11:List Int),∃(x17:Int),∃(x18:Int),∃(b12:Option Nat),∃(c13:Nat),∃(n14:Nat),dZ K a0 a1 k x11 x17 x18=some x19'∧x11.length=n14∧hs _ [hO cI b12 c13 3 n14 x11] [(0,.vc (pS cI a0)),(1,.vc (pS cI a1)),(5,.vc (pO b12 n14 c13)),(6,.vc (pI .i64 x17)),(7,.vc (pI .i64 x18))] a w) K (fun a w ⟨_,_,_,_,_,_,hF,_,_⟩=>by cases hF) (fun k a w ⟨x11,x17,x18,b12,c13,n14,hF,q15,hh⟩=>b0 ?_ hh) (fun a w hh=>⟨([]:List Int),0,0,none,0,0,hL,rfl,dI [0] hh⟩)
 rw [dZ.eq_2] at hF
 refine go ?_ ?_
 refine aB hF rfl (fun h27 hF=>?_) (fun h27 hF=>?_)
 ·refine go ?_ ?_
  refine aG (aC ?_)
  obtain⟨v30,h31,hF⟩:=aM hF
  obtain⟨v32,h33,hF⟩:=aW hF gE
  obtain⟨v34,h35,hF⟩:=aM hF
  obtain⟨v36,h37,hF⟩:=aM hF
  refine dr [0,0,3,7,0,0,48,127,0,511,1023] 11 0 ?_ (fun bs29 G28=>?_)
  refine go ?_ ?_
  refine aB hF rfl (fun h38 hF=>?_) (fun h38 hF=>?_)
  ·obtain⟨v39,h40,hF⟩:=aM hF
   refine go ?_ ?_
   refine aI (eR (C:=cI) (xs:=[.tmp 30]) (ps:=[.vc (pI .i64 v39)]) (zs:=[v39]) rfl tyS22 rfl ⟨⟨trivial,rfl⟩,trivial⟩ rfl) zU1 ?_
   obtain⟨x41,h42,hF⟩:=aM hF
   refine iK 0 rfl tyS22 rfl rfl q15 rfl rfl h42 (fun b43 c44 H45 e46=>?_)
   cases e46
   obtain⟨v48,h49,hF⟩:=aM hF
   refine go ?_ ?_
   exact aF (fun a w hh=>⟨x41,1,v48,b43,c44,(n14+[v39].length),hF,(bD h42 q15),dI [0] hh⟩)
  refine go ?_ ?_
  refine aI (eR (C:=cI) (xs:=[.tmp 30]) (ps:=[.vc (pI .i64 v36)]) (zs:=[v36]) rfl tyS22 rfl ⟨⟨trivial,rfl⟩,trivial⟩ rfl) zU1 ?_
  obtain⟨x50,h51,hF⟩:=aM hF
  refine iK 0 rfl tyS22 rfl rfl q15 rfl rfl h51 (fun b52 c53 H54 e55=>?_)
  cases e55
  obtain⟨v57,h58,hF⟩:=aM hF
  refine go ?_ ?_
  exact aF (fun a w hh=>⟨x50,0,v57,b52,c53,(n14+[v36].length),hF,(bD h51 q15),dI [0] hh⟩)
 refine aV ?_
 obtain rfl:=eP hF
 exact nK Jj26 ⟨x11,b12,c13,n14,hRl25,q15,rfl,rfl⟩ [0]
def pX (K:Nat) (a0:aE) (a1:aE):Option aE:=
 bif(a0.neg==a1.neg) then((rS K a0.d a1.d).bind fun v7=>(bA K a0.neg v7).bind fun v9=>some v9) else((bU K a0.d a1.d).bind fun v11=>bif(decide (v11<0)) then((fT K a1.d a0.d).bind fun v16=>(bA K a1.neg v16).bind fun v18=>some v18) else((fT K a0.d a1.d).bind fun v22=>(bA K a0.neg v22).bind fun v24=>some v24))
theorem aAz {K:Nat} {a0:aE} {a1:aE} {r:aE} (hF:pX K a0 a1=some r):Ct Tryz.prog 61 [.va (aE.e a0),.va (aE.e a1)] (.va (aE.e r)):=by
 unfold pX at hF
 refine aA Tryz.func61 rfl (by kernel_rfl) Tryz.ntmps61 rfl (fun w0 M0=>?_)
 refine aC (aH (bV rfl rfl trivial (fun b1=>?_)))
 refine bV rfl rfl trivial (fun b2=>?_)
 refine aN rfl tyZ40 (fun b3=>?_)
 refine go ?_ ?_
 refine aI (aNg rfl Tryz.underlying4) zU2 ?_
 refine aT (aJ (aB hF rfl (fun h4 hF=>?_) (fun h4 hF=>?_)))
 ·refine aC ?_
  obtain⟨v7,h8,hF⟩:=aW hF aDo
  obtain⟨v9,h10,hF⟩:=aW hF bH
  refine dr [0,1,0,4,0,16,60,127,255] 8 1 ?_ (fun bs6 G5=>?_)
  exact bI
 obtain⟨v11,h12,hF⟩:=aW hF iF
 refine go ?_ ?_
 refine aB hF rfl (fun h13 hF=>?_) (fun h13 hF=>?_)
 ·refine aC ?_
  obtain⟨v16,h17,hF⟩:=aW hF pG
  obtain⟨v18,h19,hF⟩:=aW hF bH
  refine dr [0,1,0,4,0,16,60,127,255] 8 1 ?_ (fun bs15 G14=>?_)
  exact bI
 obtain⟨v22,h23,hF⟩:=aW hF pG
 obtain⟨v24,h25,hF⟩:=aW hF bH
 refine go ?_ ?_
 refine dr [0,1,0,4,0,16,60,127,255] 8 1 ?_ (fun bs21 G20=>?_)
 exact bI
def tH (K:Nat) (a0:Int) (x18:List Int):Option aE:=
 (bA K (decide (a0<0)) x18).bind fun v26=>some v26
def dM (K:Nat):Nat→(List Int)→Int→Option (List Int)
 |0,_,_=>none
 |k+1,x11,x17=>bif(x17 != 0) then((chr x17 1000000000).bind fun v29=>bif(decide (v29<0)) then((aS (-v29)).bind fun v32=>(oG x11 [v32]).bind fun x34=>(chq x17 1000000000).bind fun v41=>dM K k x34 v41) else((oG x11 [v29]).bind fun x43=>(chq x17 1000000000).bind fun v50=>dM K k x43 v50)) else(some x11)
def iO (K:Nat) (a0:Int):Option aE:=
 (dM K K ([]:List Int) a0).bind fun x18=>tH K a0 x18
theorem m8 {K:Nat} {a0:Int} {r:aE} (hF:iO K a0=some r):Ct Tryz.prog 62 [.vc (pI .i64 a0)] (.va (aE.e r)):=by
 unfold iO at hF
 refine aA Tryz.func62 rfl (by kernel_rfl) Tryz.ntmps62 rfl (fun w0 M0=>?_)
 refine aC (aH (aN rfl tyZ40 (fun b1=>?_)))
 refine aT (aJ (aC (aH (jP cI 3 rfl ?_))))
 refine go ?_ ?_
 refine aG (aP (fun H E=>∃(x18:List Int),∃(b19:Option Nat),∃(c20:Nat),∃(n21:Nat),tH K a0 x18=some r∧x18.length=n21∧H=[hO cI b19 c20 3 n21 x18,⟨some b1,1,40,2,1,([pB false]++[pS cI ([]:List Int)])⟩]∧E=[(2,.vc (pP (some b1) 0)),(3,.vc (pO b19 n21 c20)),(4,.vc (pB (decide (a0<0))))]) ?_ (fun Jj25=>?_))
 ·rintro _ _ ⟨x18,b19,c20,n21,hF,q22,rfl,rfl⟩
  unfold tH at hF
  refine aJ (aC (aH (dS ?_)))
  refine dS ?_
  refine tV 0 [3,23] rfl q22 zU2 rfl ?_
  obtain⟨v26,h27,hF⟩:=aW hF bH
  exact bI
 obtain⟨x18',hL,hRl24⟩:=aM hF
 refine cA (fun k a w=>∃(x11:List Int),∃(x17:Int),∃(b12:Option Nat),∃(c13:Nat),∃(n14:Nat),dM K k x11 x17=some x18'∧x11.length=n14∧hs _ [hO cI b12 c13 3 n14 x11,⟨some b1,1,40,2,1,([pB false]++[pS cI ([]:List Int)])⟩] [(0,.vc (pI .i64 x17)),(2,.vc (pP (some b1) 0)),(3,.vc (pO b12 n14 c13)),(4,.vc (pB (decide (a0<0))))] a w) K (fun a w ⟨_,_,_,_,_,hF,_,_⟩=>by cases hF) (fun k a w ⟨x11,x17,b12,c13,n14,hF,q15,hh⟩=>b0 ?_ hh) (fun a w hh=>⟨([]:List Int),a0,none,0,0,hL,rfl,dI [0,1] hh⟩)
 rw [dM.eq_2] at hF
 refine go ?_ ?_
 refine aB hF rfl (fun h28 hF=>?_) (fun h28 hF=>?_)
 ·refine eU (aJ (aG ?_))
  obtain⟨v29,h30,hF⟩:=aM hF
  refine go ?_ ?_
  refine aB hF rfl (fun h31 hF=>?_) (fun h31 hF=>?_)
  ·obtain⟨v32,h33,hF⟩:=aM hF
   refine go ?_ ?_
   refine aI (eR (C:=cI) (xs:=[.tmp 17]) (ps:=[.vc (pI .i64 v32)]) (zs:=[v32]) rfl tyS22 rfl ⟨⟨trivial,rfl⟩,trivial⟩ rfl) zU1 ?_
   obtain⟨x34,h35,hF⟩:=aM hF
   refine iK 0 rfl tyS22 rfl rfl q15 rfl rfl h35 (fun b36 c37 H38 e39=>?_)
   cases e39
   obtain⟨v41,h42,hF⟩:=aM hF
   refine go ?_ ?_
   exact aF (fun a w hh=>⟨x34,v41,b36,c37,(n14+[v32].length),hF,(bD h35 q15),dI [0,1] hh⟩)
  refine go ?_ ?_
  refine aI (eR (C:=cI) (xs:=[.tmp 17]) (ps:=[.vc (pI .i64 v29)]) (zs:=[v29]) rfl tyS22 rfl ⟨⟨trivial,rfl⟩,trivial⟩ rfl) zU1 ?_
  obtain⟨x43,h44,hF⟩:=aM hF
  refine iK 0 rfl tyS22 rfl rfl q15 rfl rfl h44 (fun b45 c46 H47 e48=>?_)
  cases e48
  obtain⟨v50,h51,hF⟩:=aM hF
  refine go ?_ ?_
  exact aF (fun a w hh=>⟨x43,v50,b45,c46,(n14+[v29].length),hF,(bD h44 q15),dI [0,1] hh⟩)
 refine aV ?_
 obtain rfl:=eP hF
 exact nK Jj25 ⟨x11,b12,c13,n14,hRl24,q15,rfl,rfl⟩ [0,1]
def m5 (K:Nat) (a0:aE):Option aE:=
 (bA K (!a0.neg) a0.d).bind fun v3=>some v3
theorem xS {K:Nat} {a0:aE} {r:aE} (hF:m5 K a0=some r):Ct Tryz.prog 84 [.va (aE.e a0)] (.va (aE.e r)):=by
 unfold m5 at hF
 refine aA Tryz.func84 rfl (by kernel_rfl) Tryz.ntmps84 rfl (fun w0 M0=>?_)
 refine aC (aH (bV rfl rfl trivial (fun b1=>?_)))
 refine aN rfl tyZ40 (fun b2=>?_)
 obtain⟨v3,h4,hF⟩:=aW hF bH
 exact bI
def fE (a0:Bool) (a1:Int):Option aE:=
 bif(a1==0) then(some (⟨false,([]:List Int)⟩:aE)) else(bif(decide (a1<1000000000)) then(some (⟨a0,[(IntKind.i64.wrap a1)]⟩:aE)) else(bif(decide (a1<1000000000000000000)) then((chr a1 1000000000).bind fun v5=>(uq a1 1000000000).bind fun v7=>some (⟨a0,[(IntKind.i64.wrap v5),(IntKind.i64.wrap v7)]⟩:aE)) else((chr a1 1000000000).bind fun v9=>(uq a1 1000000000).bind fun v11=>(chr v11 1000000000).bind fun v13=>(uq a1 1000000000).bind fun v15=>(uq v15 1000000000).bind fun v17=>some (⟨a0,[(IntKind.i64.wrap v9),(IntKind.i64.wrap v13),(IntKind.i64.wrap v17)]⟩:aE))))
theorem kY {a0:Bool} {a1:Int} {r:aE} (hF:fE a0 a1=some r):Ct Tryz.prog 134 [.vc (pB a0),.vc (pI .u64 a1)] (.va (aE.e r)):=by
 unfold fE at hF
 refine aA Tryz.func134 rfl (by kernel_rfl) Tryz.ntmps134 rfl (fun w0 M0=>?_)
 refine aC (aH (aN rfl tyZ40 (fun b1=>?_)))
 refine go ?_ ?_
 refine aG (go ?_ ?_)
 refine aB hF rfl (fun h2 hF=>?_) (fun h2 hF=>?_)
 ·refine aC (aH (aI (gU (is:=[]) (xs:=[]) (ps:=[]) rfl tyB40 rfl rfl trivial rfl) trivial ?_))
  exact bI
 refine go ?_ ?_
 refine aB hF rfl (fun h3 hF=>?_) (fun h3 hF=>?_)
 ·refine go ?_ ?_
  refine aI (aE6 rfl ⟨_,Tryz.underlying131⟩ Tryz.underlying3) zU1 ?_
  refine aI (eR (C:=cI) (xs:=[.tmp 14]) (ps:=[.vc (pI .i64 (IntKind.i64.wrap a1))]) (zs:=[(IntKind.i64.wrap a1)]) rfl tyS22 rfl ⟨⟨trivial,rfl⟩,trivial⟩ rfl) zU1 ?_
  refine aI (gU (is:=[0,1]) (xs:=[.tmp 12,.tmp 15]) (ps:=[.vc (pB a0),.vc (pS cI [(IntKind.i64.wrap a1)])]) rfl tyB40 rfl rfl ⟨trivial,trivial,trivial⟩ rfl) zU2 ?_
  exact bI
 refine go ?_ ?_
 refine aB hF rfl (fun h4 hF=>?_) (fun h4 hF=>?_)
 ·obtain⟨v5,h6,hF⟩:=aM hF
  refine go ?_ ?_
  refine aI (aE6 rfl ⟨_,Tryz.underlying131⟩ Tryz.underlying3) zU1 ?_
  refine dS ?_
  obtain⟨v7,h8,hF⟩:=aM hF
  refine aI (aHZ rfl h8) ⟨rfl,qM _ _,trivial⟩ ?_
  refine aI (aE6 rfl ⟨_,Tryz.underlying131⟩ Tryz.underlying3) zU1 ?_
  refine aI (eR (C:=cI) (xs:=[.tmp 23,.tmp 26]) (ps:=[.vc (pI .i64 (IntKind.i64.wrap v5)),.vc (pI .i64 (IntKind.i64.wrap v7))]) (zs:=[(IntKind.i64.wrap v5),(IntKind.i64.wrap v7)]) rfl tyS22 rfl ⟨⟨trivial,rfl⟩,⟨trivial,rfl⟩,trivial⟩ rfl) zU2 ?_
  refine aI (gU (is:=[0,1]) (xs:=[.tmp 20,.tmp 27]) (ps:=[.vc (pB a0),.vc (pS cI [(IntKind.i64.wrap v5),(IntKind.i64.wrap v7)])]) rfl tyB40 rfl rfl ⟨trivial,trivial,trivial⟩ rfl) zU2 ?_
  exact bI
 obtain⟨v9,h10,hF⟩:=aM hF
 refine go ?_ ?_
 refine aI (aE6 rfl ⟨_,Tryz.underlying131⟩ Tryz.underlying3) zU1 ?_
 refine dS ?_
 obtain⟨v11,h12,hF⟩:=aM hF
 refine aI (aHZ rfl h12) ⟨rfl,qM _ _,trivial⟩ ?_
 obtain⟨v13,h14,hF⟩:=aM hF
 refine aI (aHq rfl h14) ⟨rfl,qM _ _,trivial⟩ ?_
 refine aI (aE6 rfl ⟨_,Tryz.underlying131⟩ Tryz.underlying3) zU1 ?_
 refine dS ?_
 have hF:=tJ h12 hF
 refine aI (aHZ rfl h12) ⟨rfl,qM _ _,trivial⟩ ?_
 obtain⟨v17,h18,hF⟩:=aM hF
 refine aI (aHZ rfl h18) ⟨rfl,qM _ _,trivial⟩ ?_
 refine aI (aE6 rfl ⟨_,Tryz.underlying131⟩ Tryz.underlying3) zU1 ?_
 refine aI (eR (C:=cI) (xs:=[.tmp 32,.tmp 36,.tmp 40]) (ps:=[.vc (pI .i64 (IntKind.i64.wrap v9)),.vc (pI .i64 (IntKind.i64.wrap v13)),.vc (pI .i64 (IntKind.i64.wrap v17))]) (zs:=[(IntKind.i64.wrap v9),(IntKind.i64.wrap v13),(IntKind.i64.wrap v17)]) rfl tyS22 rfl ⟨⟨trivial,rfl⟩,⟨trivial,rfl⟩,⟨trivial,rfl⟩,trivial⟩ rfl) ⟨rfl,rfl,rfl,trivial⟩ ?_
 refine aI (gU (is:=[0,1]) (xs:=[.tmp 29,.tmp 41]) (ps:=[.vc (pB a0),.vc (pS cI [(IntKind.i64.wrap v9),(IntKind.i64.wrap v13),(IntKind.i64.wrap v17)])]) rfl tyB40 rfl rfl ⟨trivial,trivial,trivial⟩ rfl) zU2 ?_
 exact bI
def m6 (a0:Int):Option aE:=
 bif(decide (a0<0)) then((fE (decide (a0<0)) (wu (-(IntKind.u64.wrap a0)))).bind fun v3=>some v3) else((fE (decide (a0<0)) (IntKind.u64.wrap a0)).bind fun v5=>some v5)
theorem tO {a0:Int} {r:aE} (hF:m6 a0=some r):Ct Tryz.prog 86 [.vc (pI .i64 a0)] (.va (aE.e r)):=by
 unfold m6 at hF
 refine aA Tryz.func86 rfl (by kernel_rfl) Tryz.ntmps86 rfl (fun w0 M0=>?_)
 refine aC (aH (aN rfl tyZ40 (fun b1=>?_)))
 refine go ?_ ?_
 refine aI (aE6 rfl ⟨_,Tryz.underlying3⟩ Tryz.underlying131) zU1 ?_
 refine go ?_ ?_
 refine aB hF rfl (fun h2 hF=>?_) (fun h2 hF=>?_)
 ·refine aH (dS ?_)
  refine aI (aQ6 rfl) zU1 ?_
  obtain⟨v3,h4,hF⟩:=aW hF kY
  exact bI
 obtain⟨v5,h6,hF⟩:=aW hF kY
 exact bI
def wR (a0:aE):Option Int:=
 bif a0.neg then(some (-1)) else(bif((a0.d.length:Int)==0) then(some 0) else(some 1))
theorem aFm {a0:aE} {r:Int} (hF:wR a0=some r):Ct Tryz.prog 88 [.va (aE.e a0)] (.vc (pI .i64 r)):=by
 unfold wR at hF
 refine aA Tryz.func88 rfl (by kernel_rfl) Tryz.ntmps88 rfl (fun w0 M0=>?_)
 refine aC (aH (bV rfl rfl trivial (fun b1=>?_)))
 refine go ?_ ?_
 refine aG (go ?_ ?_)
 refine aB hF rfl (fun h2 hF=>?_) (fun h2 hF=>?_)
 ·exact bI
 refine go ?_ ?_
 refine aB hF rfl (fun h3 hF=>?_) (fun h3 hF=>?_)
 ·exact bI
 exact bI
def nZ (K:Nat) (a0:aE) (a1:aE):Option Int:=
 bif(a0.neg != a1.neg) then(bif a0.neg then(some (-1)) else(some 1)) else(bif a0.neg then((bU K a1.d a0.d).bind fun v6=>some v6) else((bU K a0.d a1.d).bind fun v8=>some v8))
theorem aBU {K:Nat} {a0:aE} {a1:aE} {r:Int} (hF:nZ K a0 a1=some r):Ct Tryz.prog 136 [.va (aE.e a0),.va (aE.e a1)] (.vc (pI .i64 r)):=by
 unfold nZ at hF
 refine aA Tryz.func136 rfl (by kernel_rfl) Tryz.ntmps136 rfl (fun w0 M0=>?_)
 refine aC (aH (bV rfl rfl trivial (fun b1=>?_)))
 refine bV rfl rfl trivial (fun b2=>?_)
 refine go ?_ ?_
 refine aI (aB7 rfl Tryz.underlying4) zU2 ?_
 refine aT (aJ (aB hF rfl (fun h3 hF=>?_) (fun h3 hF=>?_)))
 ·refine go ?_ ?_
  refine aB hF rfl (fun h4 hF=>?_) (fun h4 hF=>?_)
  ·exact bI
  exact bI
 refine go ?_ ?_
 refine aB hF rfl (fun h5 hF=>?_) (fun h5 hF=>?_)
 ·obtain⟨v6,h7,hF⟩:=aW hF iF
  exact bI
 obtain⟨v8,h9,hF⟩:=aW hF iF
 exact bI
def rU (K:Nat) (a0:aE):Option Int:=
 (nZ K a0 (⟨false,([]:List Int)⟩:aE)).bind fun v2=>some v2
theorem aDe {K:Nat} {a0:aE} {r:Int} (hF:rU K a0=some r):Ct Tryz.prog 91 [.va (aE.e a0)] (.vc (pI .i64 r)):=by
 unfold rU at hF
 refine aA Tryz.func91 rfl (by kernel_rfl) Tryz.ntmps91 rfl (fun w0 M0=>?_)
 refine aC (aH (bV rfl rfl trivial (fun b1=>?_)))
 refine go ?_ ?_
 refine aI (gU (is:=[]) (xs:=[]) (ps:=[]) rfl tyB40 rfl rfl trivial rfl) trivial ?_
 obtain⟨v2,h3,hF⟩:=aW hF aBU
 exact bI
def vN (K:Nat):Option Bool:=
 some true
def iA (K:Nat) (a0:aE) (a1:aE):Nat→Int→Option (LR Bool Unit)
 |0,_=>none
 |k+1,x6=>bif(decide (x6<(a0.d.length:Int))) then((bF a0.d x6).bind fun v12=>(bF a1.d x6).bind fun v14=>bif(v12 != v14) then(some (.ret false)) else((aS (x6+1)).bind fun v17=>iA K a0 a1 k v17)) else(some (.go ()))
def oJ (K:Nat) (a0:aE) (a1:aE):Option Bool:=
 bif(a0.neg != a1.neg) then(some false) else(bif((a0.d.length:Int) != (a1.d.length:Int)) then(some false) else((iA K a0 a1 K 0).bind fun o=>match o with| .ret r=>some r| .go _=>vN K))
theorem aAe {K:Nat} {a0:aE} {a1:aE} {r:Bool} (hF:oJ K a0 a1=some r):Ct Tryz.prog 92 [.va (aE.e a0),.va (aE.e a1)] (.vc (pB r)):=by
 unfold oJ at hF
 refine aA Tryz.func92 rfl (by kernel_rfl) Tryz.ntmps92 rfl (fun w0 M0=>?_)
 refine aC (aH (bV rfl rfl trivial (fun b1=>?_)))
 refine bV rfl rfl trivial (fun b2=>?_)
 refine go ?_ ?_
 refine aI (aB7 rfl Tryz.underlying4) zU2 ?_
 refine dS ?_
 refine cC hF (fun h3 hF=>?_) (fun h3 hF=>?_)
 ·refine go ?_ ?_
  refine fV rfl ?_
  exact bI
 refine go ?_ ?_
 refine aB hF rfl (fun h4 hF=>?_) (fun h4 hF=>?_)
 ·exact bI
 refine go ?_ ?_
 refine aG (aP (fun H E=>vN K=some r∧H=[]∧E=[]) ?_ (fun Jj8=>?_))
 ·rintro _ _ ⟨hF,rfl,rfl⟩
  unfold vN at hF
  exact bI
 obtain⟨ol7,hL,hRl7⟩:=aM hF
 refine cA (fun k a w=>∃(x6:Int),iA K a0 a1 k x6=some ol7∧hs _ [⟨some b2,1,40,2,1,(aE.e a1)⟩,⟨some b1,1,40,2,1,(aE.e a0)⟩] [(2,.vc (pP (some b1) 0)),(3,.vc (pP (some b2) 0)),(5,.vc (pI .i64 x6))] a w) K (fun a w ⟨_,hF,_⟩=>by cases hF) (fun k a w ⟨x6,hF,hh⟩=>b0 ?_ hh) (fun a w hh=>⟨0,hL,dI [0,1] hh⟩)
 rw [iA.eq_2] at hF
 refine go ?_ ?_
 refine aB hF rfl (fun h9 hF=>?_) (fun h9 hF=>?_)
 ·refine go ?_ ?_
  refine aG (aC ?_)
  obtain⟨v12,h13,hF⟩:=aM hF
  obtain⟨v14,h15,hF⟩:=aM hF
  refine dr [0,1,0,7,15,0,32,0,224,480,1023] 11 0 ?_ (fun bs11 G10=>?_)
  refine aT (aJ (aB hF rfl (fun h16 hF=>?_) (fun h16 hF=>?_)))
  ·exact bI
  obtain⟨v17,h18,hF⟩:=aM hF
  refine go ?_ ?_
  exact aF (fun a w hh=>⟨v17,hF,dI [0,1] hh⟩)
 refine aV ?_
 obtain rfl:=eP hF
 exact nK Jj8 ⟨hRl7,rfl,rfl⟩ []
def gO (a0:List Int):Option Int:=
 (cP a0 1).bind fun v1=>(aS (v1*1000000000)).bind fun v3=>(cP a0 0).bind fun v5=>(aS (v3+v5)).bind fun v7=>some v7
theorem nI {a0:List Int} {r:Int} (hF:gO a0=some r):Ct Tryz.prog 138 [.vc (pS cI a0)] (.vc (pI .i64 r)):=by
 unfold gO at hF
 refine aA Tryz.func138 rfl (by kernel_rfl) Tryz.ntmps138 rfl (fun w0 M0=>?_)
 obtain⟨v1,h2,hF⟩:=aW hF gE
 obtain⟨v3,h4,hF⟩:=aM hF
 obtain⟨v5,h6,hF⟩:=aW hF gE
 obtain⟨v7,h8,hF⟩:=aM hF
 exact bI
def jM (K:Nat) (a0:List Int) (a1:Int):Option (List Int):=
 (bA K false a0).bind fun v1=>(iO K a1).bind fun v3=>(eW K v1 v3).bind fun v5=>some v5.d
theorem sY {K:Nat} {a0:List Int} {a1:Int} {r:List Int} (hF:jM K a0 a1=some r):Ct Tryz.prog 165 [.vc (pS cI a0),.vc (pI .i64 a1)] (.vc (pS cI r)):=by
 unfold jM at hF
 refine aA Tryz.func165 rfl (by kernel_rfl) Tryz.ntmps165 rfl (fun w0 M0=>?_)
 refine aC (aH (aI (aL (.inr rfl)) ⟨cD cI,trivial⟩ ?_))
 obtain⟨v1,h2,hF⟩:=aW hF bH
 obtain⟨v3,h4,hF⟩:=aW hF m8
 obtain⟨v5,h6,hF⟩:=aW hF kD
 refine go ?_ ?_
 refine aN rfl tyZ40 (fun b7=>?_)
 exact bI
def kS (K:Nat) (x46:List Int) (x52:List Int):Option ((List Int)×(List Int)):=
 some (x46,x52)
def iT (K:Nat) (a1:List Int) (x38:List Int) (x45:Int) (v68:aE) (recl53:(List Int)→(List Int)→Int→Option ((List Int)×(List Int))) (x78:Int):Option ((List Int)×(List Int)):=
 (jM K a1 x78).bind fun v81=>(fT K v68.d v81).bind fun v83=>(bA K false v83).bind fun v85=>(bF x38 x45).bind fun v88=>(qL x38 x45 x78).bind fun x90=>(aS (x45-1)).bind fun v93=>recl53 x90 v85.d v93
def bL (K:Nat) (a1:List Int) (v68:aE):Nat→Int→Int→Option Int
 |0,_,_=>none
 |k+1,x76,x77=>bif(decide (x76<x77)) then((aS (x76+x77)).bind fun v96=>(aS (v96+1)).bind fun v98=>(chq v98 2).bind fun v100=>(jM K a1 v100).bind fun v102=>(bU K v102 v68.d).bind fun v104=>bif(decide (v104≤0)) then(bL K a1 v68 k v100 x77) else((aS (v100-1)).bind fun v107=>bL K a1 v68 k x76 v107)) else(some x76)
def f0 (K:Nat) (a1:List Int) (x38:List Int) (x45:Int) (v68:aE) (recl53:(List Int)→(List Int)→Int→Option ((List Int)×(List Int))) (x72:Int):Option ((List Int)×(List Int)):=
 (bL K a1 v68 K 0 x72).bind fun x78=>iT K a1 x38 x45 v68 recl53 x78
def bG (K:Nat) (a0:List Int) (a1:List Int):Nat→(List Int)→(List Int)→Int→Option ((List Int)×(List Int))
 |0,_,_,_=>none
 |k+1,x38,x44,x45=>bif(decide (0≤x45)) then((bF a0 x45).bind fun v56=>(oG [v56] x44).bind fun x61=>(bA K false x61).bind fun v68=>(bU K v68.d a1).bind fun v109=>bif(decide (v109<0)) then(f0 K a1 x38 x45 v68 (bG K a0 a1 k) 0) else(f0 K a1 x38 x45 v68 (bG K a0 a1 k) 999999999)) else(some (x38,x44))
def rO (K:Nat) (x135:List Int) (x141:List Int):Option ((List Int)×(List Int)):=
 some (x135,x141)
def nG (K:Nat) (a1:List Int) (x127:List Int) (x134:Int) (v157:aE) (recl142:(List Int)→(List Int)→Int→Option ((List Int)×(List Int))) (x167:Int):Option ((List Int)×(List Int)):=
 (jM K a1 x167).bind fun v170=>(fT K v157.d v170).bind fun v172=>(bA K false v172).bind fun v174=>(bF x127 x134).bind fun v177=>(qL x127 x134 x167).bind fun x179=>(aS (x134-1)).bind fun v182=>recl142 x179 v174.d v182
def fF (K:Nat) (a1:List Int) (v157:aE):Nat→Int→Int→Option Int
 |0,_,_=>none
 |k+1,x165,x166=>bif(decide (x165<x166)) then((aS (x165+x166)).bind fun v185=>(aS (v185+1)).bind fun v187=>(chq v187 2).bind fun v189=>(jM K a1 v189).bind fun v191=>(bU K v191 v157.d).bind fun v193=>bif(decide (v193≤0)) then(fF K a1 v157 k v189 x166) else((aS (v189-1)).bind fun v196=>fF K a1 v157 k x165 v196)) else(some x165)
def kG (K:Nat) (a1:List Int) (x127:List Int) (x134:Int) (v157:aE) (recl142:(List Int)→(List Int)→Int→Option ((List Int)×(List Int))) (x161:Int):Option ((List Int)×(List Int)):=
 (fF K a1 v157 K 0 x161).bind fun x167=>nG K a1 x127 x134 v157 recl142 x167
def bY (K:Nat) (a0:List Int) (a1:List Int):Nat→(List Int)→(List Int)→Int→Option ((List Int)×(List Int))
 |0,_,_,_=>none
 |k+1,x127,x133,x134=>bif(decide (0≤x134)) then((bF a0 x134).bind fun v145=>(oG [v145] x133).bind fun x150=>(bA K false x150).bind fun v157=>(bU K v157.d a1).bind fun v198=>bif(decide (v198<0)) then(kG K a1 x127 x134 v157 (bY K a0 a1 k) 0) else(kG K a1 x127 x134 v157 (bY K a0 a1 k) 999999999)) else(some (x127,x133))
def jO (K:Nat) (a0:List Int) (a1:List Int):Option ((List Int)×(List Int)):=
 bif(decide ((a0.length:Int)≤2)) then(bif(decide ((a1.length:Int)≤2)) then((gO a0).bind fun v3=>(gO a1).bind fun v5=>(chq v3 v5).bind fun v7=>(iO K v7).bind fun v9=>(gO a0).bind fun v12=>(gO a1).bind fun v14=>(chr v12 v14).bind fun v16=>(iO K v16).bind fun v18=>some (v9.d,v18.d)) else((mkL (a0.length:Int) 0).bind fun x23=>(aS ((a0.length:Int)-1)).bind fun v28=>(bG K a0 a1 K x23 [] v28).bind fun(x46,x52)=>kS K x46 x52)) else((mkL (a0.length:Int) 0).bind fun x112=>(aS ((a0.length:Int)-1)).bind fun v117=>(bY K a0 a1 K x112 [] v117).bind fun(x135,x141)=>rO K x135 x141)
theorem aBY {K:Nat} {a0:List Int} {a1:List Int} {r:(List Int)×(List Int)} (hF:jO K a0 a1=some r):Ct Tryz.prog 139 [.vc (pS cI a0),.vc (pS cI a1)] (.t2 (.vc (pS cI r.1)) (.vc (pS cI r.2))):=by
 unfold jO at hF
 refine aA Tryz.func139 rfl (by kernel_rfl) Tryz.ntmps139 rfl (fun w0 M0=>?_)
 refine aC (aH (aI (aL (.inr rfl)) ⟨cD cI,trivial⟩ ?_))
 refine aI (aL (.inr rfl)) ⟨cD cI,trivial⟩ ?_
 refine go ?_ ?_
 refine cC hF (fun h1 hF=>?_) (fun h1 hF=>?_)
 ·refine go ?_ ?_
  refine aB hF rfl (fun h2 hF=>?_) (fun h2 hF=>?_)
  ·obtain⟨v3,h4,hF⟩:=aW hF nI
   obtain⟨v5,h6,hF⟩:=aW hF nI
   obtain⟨v7,h8,hF⟩:=aM hF
   obtain⟨v9,h10,hF⟩:=aW hF m8
   refine go ?_ ?_
   refine aN rfl tyZ40 (fun b11=>?_)
   obtain⟨v12,h13,hF⟩:=aW hF nI
   obtain⟨v14,h15,hF⟩:=aW hF nI
   obtain⟨v16,h17,hF⟩:=aM hF
   obtain⟨v18,h19,hF⟩:=aW hF m8
   refine go ?_ ?_
   refine aN rfl tyZ40 (fun b20=>?_)
   refine go ?_ ?_
   refine dr [0,1,0,4,3,31] 6 0 ?_ (fun bs22 G21=>?_)
   refine aT (aJ ?_)
   exact bI
  obtain⟨x23,h24,hF⟩:=aM hF
  refine go ?_ ?_
  refine nN (C:=cI) rfl tyS22 rfl tyZ3 rfl h24 (fun b25=>?_)
  refine go ?_ ?_
  refine aI (aL (.inr rfl)) ⟨cD cI,trivial⟩ ?_
  obtain⟨v28,h29,hF⟩:=aM hF
  refine go ?_ ?_
  refine aG (aP (fun H E=>∃(x46:List Int),∃(x52:List Int),kS K x46 x52=some r∧x46.length=x23.length∧H=[hO cI b25 x23.length 3 x23.length x46]∧E=[(8,.vc (pO b25 x23.length x23.length)),(9,.vc (pS cI x52))]) ?_ (fun Jj54=>?_))
  ·rintro _ _ ⟨x46,x52,hF,q50,rfl,rfl⟩
   unfold kS at hF
   refine go ?_ ?_
   refine dQ (dL (lF 0 [4,8,93] rfl q50 ⟨rfl,rfl,rfl,trivial⟩ rfl ?_))
   obtain rfl:=eP hF
   exact eE (.inl rfl) Tryz.results139 (.tmp rfl (.tmp rfl .nil)) rfl rfl
  obtain⟨⟨x46',x52'⟩,hL,hRl53⟩:=aM hF
  refine cA (fun k a w=>∃(x38:List Int),∃(x44:List Int),∃(x45:Int),bG K a0 a1 k x38 x44 x45=some (x46',x52')∧x38.length=x23.length∧hs _ [hO cI b25 x23.length 3 x23.length x38] [(0,.vc (pS cI a0)),(1,.vc (pS cI a1)),(8,.vc (pO b25 x23.length x23.length)),(9,.vc (pS cI x44)),(10,.vc (pI .i64 x45))] a w) K (fun a w ⟨_,_,_,hF,_,_⟩=>by cases hF) (fun k a w ⟨x38,x44,x45,hF,q42,hh⟩=>b0 ?_ hh) (fun a w hh=>⟨x23,[],v28,hL,rfl,dI [0] hh⟩)
  rw [bG.eq_2] at hF
  refine go ?_ ?_
  refine aB hF rfl (fun h55 hF=>?_) (fun h55 hF=>?_)
  ·refine go ?_ ?_
   refine aG ?_
   obtain⟨v56,h57,hF⟩:=aM hF
   refine go ?_ ?_
   refine aIQ (aF4 (C:=cI) (xs:=[.tmp 53]) (ps:=[.vc (pI .i64 v56)]) (zs:=[v56]) rfl tyS22 rfl ⟨⟨trivial,rfl⟩,trivial⟩ rfl) zU1 (fun b58 _=>?_)
   refine dS ?_
   obtain⟨x61,h62,hF⟩:=aM hF
   refine iK 0 rfl tyS22 rfl rfl rfl rfl rfl h62 (fun b63 c64 H65 e66=>?_)
   cases e66
   refine tV 0 [56] rfl (bD h62 rfl) zU1 rfl ?_
   obtain⟨v68,h69,hF⟩:=aW hF bH
   refine aI (bE rfl h69 rfl) ⟨k_B _,rfl,trivial⟩ ?_
   refine aN rfl tyZ40 (fun b70=>?_)
   refine mD (t_s 0 rfl rfl rfl tyA40.s) zU2 ?_
   refine aT (aJ (aC (aH (aI (gV (off:=0) (k:=1) rfl tyF40_1) zU1 ?_))))
   refine aI (gC 0 1 rfl rfl rfl rfl (.one tyO22)) zU1 ?_
   refine zP ?_
   refine aT (aJ (aC (aH (aI (aL (.inr rfl)) ⟨qM _ _,trivial⟩ ?_))))
   refine aT (aJ (aC (aH (aI (aL (.inr rfl)) ⟨qM _ _,trivial⟩ ?_))))
   refine aT (aJ (aC (aAa (fun H E=>∃(x72:Int),f0 K a1 x38 x45 v68 (bG K a0 a1 k) x72=some (x46',x52')∧H=[hO cI b25 x23.length 3 x23.length x38]∧E=[(0,.vc (pS cI a0)),(1,.vc (pS cI a1)),(8,.vc (pO b25 x23.length x23.length)),(9,.vc (pS cI v68.d)),(10,.vc (pI .i64 x45)),(12,.vc (pI .i64 0)),(13,.vc (pI .i64 x72))]) ?_ (fun Jj73=>?_))))
   ·rintro _ _ ⟨x72,hF,rfl,rfl⟩
    unfold f0 at hF
    refine aC (aG (aP (fun H E=>∃(x78:Int),iT K a1 x38 x45 v68 (bG K a0 a1 k) x78=some (x46',x52')∧H=[hO cI b25 x23.length 3 x23.length x38]∧E=[(0,.vc (pS cI a0)),(1,.vc (pS cI a1)),(8,.vc (pO b25 x23.length x23.length)),(9,.vc (pS cI v68.d)),(10,.vc (pI .i64 x45)),(12,.vc (pI .i64 x78))]) ?_ (fun Jj80=>?_)))
    ·rintro _ _ ⟨x78,hF,rfl,rfl⟩
     unfold iT at hF
     obtain⟨v81,h82,hF⟩:=aW hF sY
     obtain⟨v83,h84,hF⟩:=aW hF pG
     obtain⟨v85,h86,hF⟩:=aW hF bH
     refine go ?_ ?_
     refine aN rfl tyZ40 (fun b87=>?_)
     obtain⟨v88,h89,x90,h91,v93,h94,hF⟩:=bn3 hF
     refine go ?_ ?_
     exact aF (fun a w hh=>⟨x90,v85.d,v93,hF,(bC h91 q42),dI [1] hh⟩)
    obtain⟨x78',hL,hRl79⟩:=aM hF
    refine cA (fun k a w=>∃(x76:Int),∃(x77:Int),bL K a1 v68 k x76 x77=some x78'∧hs _ [hO cI b25 x23.length 3 x23.length x38] [(0,.vc (pS cI a0)),(1,.vc (pS cI a1)),(8,.vc (pO b25 x23.length x23.length)),(9,.vc (pS cI v68.d)),(10,.vc (pI .i64 x45)),(12,.vc (pI .i64 x76)),(13,.vc (pI .i64 x77))] a w) K (fun a w ⟨_,_,hF,_⟩=>by cases hF) (fun k a w ⟨x76,x77,hF,hh⟩=>b0 ?_ hh) (fun a w hh=>⟨0,x72,hL,dI [0] hh⟩)
    rw [bL.eq_2] at hF
    refine go ?_ ?_
    refine aB hF rfl (fun h95 hF=>?_) (fun h95 hF=>?_)
    ·refine eU (aJ (aG ?_))
     obtain⟨v96,h97,v98,h99,v100,h101,hF⟩:=bn3 hF
     obtain⟨v102,h103,hF⟩:=aW hF sY
     obtain⟨v104,h105,hF⟩:=aW hF iF
     refine go ?_ ?_
     refine aB hF rfl (fun h106 hF=>?_) (fun h106 hF=>?_)
     ·refine go ?_ ?_
      exact aF (fun a w hh=>⟨v100,x77,hF,dI [0] hh⟩)
     obtain⟨v107,h108,hF⟩:=aM hF
     refine go ?_ ?_
     exact aF (fun a w hh=>⟨x76,v107,hF,dI [0] hh⟩)
    refine aV ?_
    obtain rfl:=eP hF
    exact nK Jj80 ⟨x76,hRl79,rfl,rfl⟩ [0]
   obtain⟨v109,h110,hF⟩:=aW hF iF
   refine go ?_ ?_
   refine aB hF rfl (fun h111 hF=>?_) (fun h111 hF=>?_)
   ·refine aH (aI (aL (.inr rfl)) ⟨qM _ _,trivial⟩ ?_)
    refine aT ?_
    exact nK Jj73 ⟨0,hF,rfl,rfl⟩ [1]
   refine eU ?_
   exact nK Jj73 ⟨999999999,hF,rfl,rfl⟩ [1]
  refine aV ?_
  obtain⟨rfl,rfl⟩:=sm2 hF
  exact nK Jj54 ⟨x38,x44,hRl53,q42,rfl,rfl⟩ [0]
 refine go ?_ ?_
 refine wX rfl ?_
 obtain⟨x112,h113,hF⟩:=aM hF
 refine go ?_ ?_
 refine nN (C:=cI) rfl tyS22 rfl tyZ3 rfl h113 (fun b114=>?_)
 refine go ?_ ?_
 refine aI (aL (.inr rfl)) ⟨cD cI,trivial⟩ ?_
 obtain⟨v117,h118,hF⟩:=aM hF
 refine go ?_ ?_
 refine aG (aP (fun H E=>∃(x135:List Int),∃(x141:List Int),rO K x135 x141=some r∧x135.length=x112.length∧H=[hO cI b114 x112.length 3 x112.length x135]∧E=[(8,.vc (pO b114 x112.length x112.length)),(9,.vc (pS cI x141))]) ?_ (fun Jj143=>?_))
 ·rintro _ _ ⟨x135,x141,hF,q139,rfl,rfl⟩
  unfold rO at hF
  refine go ?_ ?_
  refine dQ (dL (lF 0 [4,8,93] rfl q139 ⟨rfl,rfl,rfl,trivial⟩ rfl ?_))
  obtain rfl:=eP hF
  exact eE (.inl rfl) Tryz.results139 (.tmp rfl (.tmp rfl .nil)) rfl rfl
 obtain⟨⟨x135',x141'⟩,hL,hRl142⟩:=aM hF
 refine cA (fun k a w=>∃(x127:List Int),∃(x133:List Int),∃(x134:Int),bY K a0 a1 k x127 x133 x134=some (x135',x141')∧x127.length=x112.length∧hs _ [hO cI b114 x112.length 3 x112.length x127] [(0,.vc (pS cI a0)),(1,.vc (pS cI a1)),(8,.vc (pO b114 x112.length x112.length)),(9,.vc (pS cI x133)),(10,.vc (pI .i64 x134))] a w) K (fun a w ⟨_,_,_,hF,_,_⟩=>by cases hF) (fun k a w ⟨x127,x133,x134,hF,q131,hh⟩=>b0 ?_ hh) (fun a w hh=>⟨x112,[],v117,hL,rfl,dI [0] hh⟩)
 rw [bY.eq_2] at hF
 refine go ?_ ?_
 refine aB hF rfl (fun h144 hF=>?_) (fun h144 hF=>?_)
 ·refine go ?_ ?_
  refine aG ?_
  obtain⟨v145,h146,hF⟩:=aM hF
  refine go ?_ ?_
  refine aIQ (aF4 (C:=cI) (xs:=[.tmp 53]) (ps:=[.vc (pI .i64 v145)]) (zs:=[v145]) rfl tyS22 rfl ⟨⟨trivial,rfl⟩,trivial⟩ rfl) zU1 (fun b147 _=>?_)
  refine dS ?_
  obtain⟨x150,h151,hF⟩:=aM hF
  refine iK 0 rfl tyS22 rfl rfl rfl rfl rfl h151 (fun b152 c153 H154 e155=>?_)
  cases e155
  refine tV 0 [56] rfl (bD h151 rfl) zU1 rfl ?_
  obtain⟨v157,h158,hF⟩:=aW hF bH
  refine aI (bE rfl h158 rfl) ⟨k_B _,rfl,trivial⟩ ?_
  refine aN rfl tyZ40 (fun b159=>?_)
  refine mD (t_s 0 rfl rfl rfl tyA40.s) zU2 ?_
  refine aT (aJ (aC (aH (aI (gV (off:=0) (k:=1) rfl tyF40_1) zU1 ?_))))
  refine aI (gC 0 1 rfl rfl rfl rfl (.one tyO22)) zU1 ?_
  refine zP ?_
  refine aT (aJ (aC (aH (aI (aL (.inr rfl)) ⟨qM _ _,trivial⟩ ?_))))
  refine aT (aJ (aC (aH (aI (aL (.inr rfl)) ⟨qM _ _,trivial⟩ ?_))))
  refine aT (aJ (aC (aAa (fun H E=>∃(x161:Int),kG K a1 x127 x134 v157 (bY K a0 a1 k) x161=some (x135',x141')∧H=[hO cI b114 x112.length 3 x112.length x127]∧E=[(0,.vc (pS cI a0)),(1,.vc (pS cI a1)),(8,.vc (pO b114 x112.length x112.length)),(9,.vc (pS cI v157.d)),(10,.vc (pI .i64 x134)),(12,.vc (pI .i64 0)),(13,.vc (pI .i64 x161))]) ?_ (fun Jj162=>?_))))
  ·rintro _ _ ⟨x161,hF,rfl,rfl⟩
   unfold kG at hF
   refine aC (aG (aP (fun H E=>∃(x167:Int),nG K a1 x127 x134 v157 (bY K a0 a1 k) x167=some (x135',x141')∧H=[hO cI b114 x112.length 3 x112.length x127]∧E=[(0,.vc (pS cI a0)),(1,.vc (pS cI a1)),(8,.vc (pO b114 x112.length x112.length)),(9,.vc (pS cI v157.d)),(10,.vc (pI .i64 x134)),(12,.vc (pI .i64 x167))]) ?_ (fun Jj169=>?_)))
   ·rintro _ _ ⟨x167,hF,rfl,rfl⟩
    unfold nG at hF
    obtain⟨v170,h171,hF⟩:=aW hF sY
    obtain⟨v172,h173,hF⟩:=aW hF pG
    obtain⟨v174,h175,hF⟩:=aW hF bH
    refine go ?_ ?_
    refine aN rfl tyZ40 (fun b176=>?_)
    obtain⟨v177,h178,x179,h180,v182,h183,hF⟩:=bn3 hF
    refine go ?_ ?_
    exact aF (fun a w hh=>⟨x179,v174.d,v182,hF,(bC h180 q131),dI [1] hh⟩)
   obtain⟨x167',hL,hRl168⟩:=aM hF
   refine cA (fun k a w=>∃(x165:Int),∃(x166:Int),fF K a1 v157 k x165 x166=some x167'∧hs _ [hO cI b114 x112.length 3 x112.length x127] [(0,.vc (pS cI a0)),(1,.vc (pS cI a1)),(8,.vc (pO b114 x112.length x112.length)),(9,.vc (pS cI v157.d)),(10,.vc (pI .i64 x134)),(12,.vc (pI .i64 x165)),(13,.vc (pI .i64 x166))] a w) K (fun a w ⟨_,_,hF,_⟩=>by cases hF) (fun k a w ⟨x165,x166,hF,hh⟩=>b0 ?_ hh) (fun a w hh=>⟨0,x161,hL,dI [0] hh⟩)
   rw [fF.eq_2] at hF
   refine go ?_ ?_
   refine aB hF rfl (fun h184 hF=>?_) (fun h184 hF=>?_)
   ·refine eU (aJ (aG ?_))
    obtain⟨v185,h186,v187,h188,v189,h190,hF⟩:=bn3 hF
    obtain⟨v191,h192,hF⟩:=aW hF sY
    obtain⟨v193,h194,hF⟩:=aW hF iF
    refine go ?_ ?_
    refine aB hF rfl (fun h195 hF=>?_) (fun h195 hF=>?_)
    ·refine go ?_ ?_
     exact aF (fun a w hh=>⟨v189,x166,hF,dI [0] hh⟩)
    obtain⟨v196,h197,hF⟩:=aM hF
    refine go ?_ ?_
    exact aF (fun a w hh=>⟨x165,v196,hF,dI [0] hh⟩)
   refine aV ?_
   obtain rfl:=eP hF
   exact nK Jj169 ⟨x165,hRl168,rfl,rfl⟩ [0]
  obtain⟨v198,h199,hF⟩:=aW hF iF
  refine go ?_ ?_
  refine aB hF rfl (fun h200 hF=>?_) (fun h200 hF=>?_)
  ·refine aH (aI (aL (.inr rfl)) ⟨qM _ _,trivial⟩ ?_)
   refine aT ?_
   exact nK Jj162 ⟨0,hF,rfl,rfl⟩ [1]
  refine eU ?_
  exact nK Jj162 ⟨999999999,hF,rfl,rfl⟩ [1]
 refine aV ?_
 obtain⟨rfl,rfl⟩:=sm2 hF
 exact nK Jj143 ⟨x127,x133,hRl142,q131,rfl,rfl⟩ [0]
def k8 (K:Nat) (a0:aE) (a1:aE):Option (aE×aE):=
 bif((a1.d.length:Int)==0) then(some ((⟨false,([]:List Int)⟩:aE),(⟨false,([]:List Int)⟩:aE))) else((jO K a0.d a1.d).bind fun v6=>(bA K (a0.neg != a1.neg) v6.1).bind fun v8=>(bA K false v6.2).bind fun v11=>bif a0.neg then(bif(decide (0<(v11.d.length:Int))) then((bA K (a0.neg != a1.neg) [1]).bind fun v18=>(pX K v8 v18).bind fun v20=>(fT K a1.d v11.d).bind fun v22=>(bA K false v22).bind fun v24=>some (v20,v24)) else(some (v8,v11))) else(some (v8,v11)))
theorem uO {K:Nat} {a0:aE} {a1:aE} {r:aE×aE} (hF:k8 K a0 a1=some r):Ct Tryz.prog 96 [.va (aE.e a0),.va (aE.e a1)] (.t2 (.va (aE.e r.1)) (.va (aE.e r.2))):=by
 unfold k8 at hF
 refine aA Tryz.func96 rfl (by kernel_rfl) Tryz.ntmps96 rfl (fun w0 M0=>?_)
 refine aC (aH (bV rfl rfl trivial (fun b1=>?_)))
 refine bV rfl rfl trivial (fun b2=>?_)
 refine aN rfl tyZ40 (fun b3=>?_)
 refine aN rfl tyZ40 (fun b4=>?_)
 refine go ?_ ?_
 refine aB hF rfl (fun h5 hF=>?_) (fun h5 hF=>?_)
 ·refine aC (aH (aI (gU (is:=[]) (xs:=[]) (ps:=[]) rfl tyB40 rfl rfl trivial rfl) trivial ?_))
  refine aI (gU (is:=[]) (xs:=[]) (ps:=[]) rfl tyB40 rfl rfl trivial rfl) trivial ?_
  exact bI
 obtain⟨v6,h7,hF⟩:=aW hF aBY
 refine go ?_ ?_
 refine aI (aB7 rfl Tryz.underlying4) zU2 ?_
 refine dS ?_
 obtain⟨v8,h9,hF⟩:=aW hF bH
 refine aI (bE rfl h9 rfl) zU2 ?_
 refine aN rfl tyZ40 (fun b10=>?_)
 obtain⟨v11,h12,hF⟩:=aW hF bH
 refine go ?_ ?_
 refine aN rfl tyZ40 (fun b13=>?_)
 refine go ?_ ?_
 refine cC hF (fun h14 hF=>?_) (fun h14 hF=>?_)
 ·refine go ?_ ?_
  refine aB hF rfl (fun h15 hF=>?_) (fun h15 hF=>?_)
  ·refine aC ?_
   obtain⟨v18,h19,hF⟩:=aW hF bH
   obtain⟨v20,h21,hF⟩:=aW hF aAz
   refine iQ [0,0,2,0,8,30,0,126,255,511] 9 1 [.v (.va (aE.e v8)),.v (.vc (pP (some b1) 0)),.v (.vc (pB a0.neg)),.v (.vc (pP (some b2) 0)),.v (.vc (pB a1.neg)),.v (.vc (pB (a0.neg != a1.neg))),.v (.vc (pS cI [1])),.v (.va (aE.e v18)),.v (.va (aE.e v20))] aU ⟨d0 (gC 1 2 rfl rfl rfl rfl (.agg tyA40)) zU1,d0 (gV (off:=0) (k:=0) rfl tyF40_0) zU1,d0 (gC 5 1 rfl rfl rfl rfl (.one tyO4)) zU1,d0 (gV (off:=0) (k:=0) rfl tyF40_0) zU1,d0 (gC 4 1 rfl rfl rfl rfl (.one tyO4)) zU1,⟨rfl,.run (L:=[0]) ⟨fun G16 A=>aB7 rfl Tryz.underlying4,trivial⟩ (fun G16=>zU2)⟩,d0 (eR (C:=cI) (xs:=[.const (.int .i64 (1))]) (ps:=[.vc (pI .i64 1)]) (zs:=[1]) rfl tyS22 rfl ⟨⟨trivial,rfl⟩,trivial⟩ rfl) ⟨qM _ _,trivial⟩,d0 (bE rfl h19 rfl) zU2,d0 (bE rfl h21 rfl) zU2,trivial⟩ (fun bs17 G16=>?_)
   obtain⟨v22,h23,hF⟩:=aW hF pG
   obtain⟨v24,h25,hF⟩:=aW hF bH
   refine go ?_ ?_
   refine r6 (HsM [(0,fun G26=>[⟨some b13,1,40,2,1,(aE.e v24)⟩,⟨some b10,1,40,2,1,(aE.e v20)⟩,⟨some b4,1,40,2,1,([pB false]++[pS cI ([]:List Int)])⟩,⟨some b3,1,40,2,1,([pB false]++[pS cI ([]:List Int)])⟩,⟨some b2,1,40,2,1,(aE.e a1)⟩,⟨some b1,1,40,2,1,(aE.e a0)⟩]),(1,fun G26=>[⟨some b13,1,40,2,1,(aE.e v24)⟩,⟨some b10,1,40,2,1,(aE.e v20)⟩,⟨some b4,1,40,2,1,([pB false]++[pS cI ([]:List Int)])⟩,⟨some b3,1,40,2,1,(aE.e v20)⟩,⟨some b2,1,40,2,1,(aE.e a1)⟩,⟨some b1,1,40,2,1,(aE.e a0)⟩])]) [2] [0,0,1,7] 3 1 [.v (.va (aE.e v20)),.v (.va (aE.e v24)),.g (fun _ _=>.any)] aU ⟨d1 0 (gC 1 2 rfl rfl rfl rfl (.agg tyA40)) zU1,⟨rfl,.run (L:=[0,1]) ⟨fun G26 A=>gC 0 2 rfl rfl rfl rfl (.agg tyA40),fun G26 A=>gC 0 2 rfl rfl rfl rfl (.agg tyA40),trivial⟩ (fun G26=>zU1)⟩,⟨rfl,.hvy [0] ⟨fun G26 A=>aB8 (t_s 3 rfl rfl rfl tyA40.s),trivial⟩ (fun G26=>zU2)⟩,trivial⟩ (fun bs27 G26=>?_)
   exact bI
  refine go ?_ ?_
  refine r6 (HsM [(0,fun G28=>[⟨some b13,1,40,2,1,(aE.e v11)⟩,⟨some b10,1,40,2,1,(aE.e v8)⟩,⟨some b4,1,40,2,1,([pB false]++[pS cI ([]:List Int)])⟩,⟨some b3,1,40,2,1,([pB false]++[pS cI ([]:List Int)])⟩,⟨some b2,1,40,2,1,(aE.e a1)⟩,⟨some b1,1,40,2,1,(aE.e a0)⟩]),(1,fun G28=>[⟨some b13,1,40,2,1,(aE.e v11)⟩,⟨some b10,1,40,2,1,(aE.e v8)⟩,⟨some b4,1,40,2,1,([pB false]++[pS cI ([]:List Int)])⟩,⟨some b3,1,40,2,1,(aE.e v8)⟩,⟨some b2,1,40,2,1,(aE.e a1)⟩,⟨some b1,1,40,2,1,(aE.e a0)⟩])]) [2] [0,0,1,7] 3 1 [.v (.va (aE.e v8)),.v (.va (aE.e v11)),.g (fun _ _=>.any)] aU ⟨d1 0 (gC 1 2 rfl rfl rfl rfl (.agg tyA40)) zU1,⟨rfl,.run (L:=[0,1]) ⟨fun G28 A=>gC 0 2 rfl rfl rfl rfl (.agg tyA40),fun G28 A=>gC 0 2 rfl rfl rfl rfl (.agg tyA40),trivial⟩ (fun G28=>zU1)⟩,⟨rfl,.hvy [0] ⟨fun G28 A=>aB8 (t_s 3 rfl rfl rfl tyA40.s),trivial⟩ (fun G28=>zU2)⟩,trivial⟩ (fun bs29 G28=>?_)
  exact bI
 refine go ?_ ?_
 refine wX rfl ?_
 refine go ?_ ?_
 refine r6 (HsM [(0,fun G30=>[⟨some b13,1,40,2,1,(aE.e v11)⟩,⟨some b10,1,40,2,1,(aE.e v8)⟩,⟨some b4,1,40,2,1,([pB false]++[pS cI ([]:List Int)])⟩,⟨some b3,1,40,2,1,([pB false]++[pS cI ([]:List Int)])⟩,⟨some b2,1,40,2,1,(aE.e a1)⟩,⟨some b1,1,40,2,1,(aE.e a0)⟩]),(1,fun G30=>[⟨some b13,1,40,2,1,(aE.e v11)⟩,⟨some b10,1,40,2,1,(aE.e v8)⟩,⟨some b4,1,40,2,1,([pB false]++[pS cI ([]:List Int)])⟩,⟨some b3,1,40,2,1,(aE.e v8)⟩,⟨some b2,1,40,2,1,(aE.e a1)⟩,⟨some b1,1,40,2,1,(aE.e a0)⟩])]) [2] [0,0,1,7] 3 1 [.v (.va (aE.e v8)),.v (.va (aE.e v11)),.g (fun _ _=>.any)] aU ⟨d1 0 (gC 1 2 rfl rfl rfl rfl (.agg tyA40)) zU1,⟨rfl,.run (L:=[0,1]) ⟨fun G30 A=>gC 0 2 rfl rfl rfl rfl (.agg tyA40),fun G30 A=>gC 0 2 rfl rfl rfl rfl (.agg tyA40),trivial⟩ (fun G30=>zU1)⟩,⟨rfl,.hvy [0] ⟨fun G30 A=>aB8 (t_s 3 rfl rfl rfl tyA40.s),trivial⟩ (fun G30=>zU2)⟩,trivial⟩ (fun bs31 G30=>?_)
 exact bI
def vT (K:Nat) (x14:aE):Option aE:=
 some x14
def sA (K:Nat) (x28:Int):Option (LR aE aE):=
 (iO K x28).bind fun v31=>some (.ret v31)
def g8 (K:Nat):Nat→Int→Int→Option Int
 |0,_,_=>none
 |k+1,x26,x27=>bif(decide (0<x27)) then((chr x26 x27).bind fun v34=>g8 K k x27 v34) else(some x26)
def fK (K:Nat):Nat→aE→aE→Option (LR aE aE)
 |0,_,_=>none
 |k+1,x12,x13=>bif(decide (0<(x12.d.length:Int))) then(bif(decide ((x13.d.length:Int)≤2)) then(bif(decide ((x12.d.length:Int)≤2)) then((gO x13.d).bind fun v20=>(gO x12.d).bind fun v22=>(g8 K K v20 v22).bind fun x28=>sA K x28) else((k8 K x13 x12).bind fun v36=>fK K k v36.2 x12)) else((k8 K x13 x12).bind fun v40=>fK K k v40.2 x12)) else(some (.go x13))
def qB (K:Nat) (a0:aE) (a1:aE):Option aE:=
 (bA K false a0.d).bind fun v4=>(bA K false a1.d).bind fun v7=>(fK K K v7 v4).bind fun o=>match o with| .ret r=>some r| .go x14=>vT K x14
theorem aAM {K:Nat} {a0:aE} {a1:aE} {r:aE} (hF:qB K a0 a1=some r):Ct Tryz.prog 95 [.va (aE.e a0),.va (aE.e a1)] (.va (aE.e r)):=by
 unfold qB at hF
 refine aA Tryz.func95 rfl (by kernel_rfl) Tryz.ntmps95 rfl (fun w0 M0=>?_)
 refine aC (aH (bV rfl rfl trivial (fun b1=>?_)))
 refine bV rfl rfl trivial (fun b2=>?_)
 refine aN rfl tyZ40 (fun b3=>?_)
 obtain⟨v4,h5,hF⟩:=aW hF bH
 refine go ?_ ?_
 refine aN rfl tyZ40 (fun b6=>?_)
 obtain⟨v7,h8,hF⟩:=aW hF bH
 refine go ?_ ?_
 refine aN rfl tyZ40 (fun b9=>?_)
 refine go ?_ ?_
 refine aG (aP (fun H E=>∃(x14:aE),vT K x14=some r∧H=[⟨some b6,1,40,2,1,(aE.e x14)⟩,⟨some b3,1,40,2,1,([pB false]++[pS cI ([]:List Int)])⟩]∧E=[(4,.vc (pP (some b3) 0)),(5,.vc (pP (some b6) 0))]) ?_ (fun Jj16=>?_))
 ·rintro _ _ ⟨x14,hF,rfl,rfl⟩
  unfold vT at hF
  exact bI
 obtain⟨ol15,hL,hRl15⟩:=aM hF
 refine cA (fun k a w=>∃(x12:aE),∃(x13:aE),fK K k x12 x13=some ol15∧hs _ [⟨some b9,1,40,2,1,(aE.e x12)⟩,⟨some b6,1,40,2,1,(aE.e x13)⟩,⟨some b3,1,40,2,1,([pB false]++[pS cI ([]:List Int)])⟩] [(4,.vc (pP (some b3) 0)),(5,.vc (pP (some b6) 0)),(6,.vc (pP (some b9) 0))] a w) K (fun a w ⟨_,_,hF,_⟩=>by cases hF) (fun k a w ⟨x12,x13,hF,hh⟩=>b0 ?_ hh) (fun a w hh=>⟨v7,v4,hL,dI [0,1,2] hh⟩)
 rw [fK.eq_2] at hF
 refine go ?_ ?_
 refine aB hF rfl (fun h17 hF=>?_) (fun h17 hF=>?_)
 ·refine eU (aJ (aG (go ?_ ?_)))
  refine cC hF (fun h18 hF=>?_) (fun h18 hF=>?_)
  ·refine go ?_ ?_
   refine aB hF rfl (fun h19 hF=>?_) (fun h19 hF=>?_)
   ·obtain⟨v20,h21,hF⟩:=aW hF nI
    obtain⟨v22,h23,hF⟩:=aW hF nI
    refine go ?_ ?_
    refine aG (aP (fun H E=>∃(x28:Int),sA K x28=some ol15∧H=[⟨some b3,1,40,2,1,([pB false]++[pS cI ([]:List Int)])⟩]∧E=[(4,.vc (pP (some b3) 0)),(7,.vc (pI .i64 x28))]) ?_ (fun Jj30=>?_))
    ·rintro _ _ ⟨x28,hF,rfl,rfl⟩
     unfold sA at hF
     obtain⟨v31,h32,hF⟩:=aW hF m8
     exact bI
    obtain⟨x28',hL,hRl29⟩:=aM hF
    refine cA (fun k a w=>∃(x26:Int),∃(x27:Int),g8 K k x26 x27=some x28'∧hs _ [⟨some b3,1,40,2,1,([pB false]++[pS cI ([]:List Int)])⟩] [(4,.vc (pP (some b3) 0)),(7,.vc (pI .i64 x26)),(8,.vc (pI .i64 x27))] a w) K (fun a w ⟨_,_,hF,_⟩=>by cases hF) (fun k a w ⟨x26,x27,hF,hh⟩=>b0 ?_ hh) (fun a w hh=>⟨v20,v22,hL,dI [2] hh⟩)
    rw [g8.eq_2] at hF
    refine go ?_ ?_
    refine aB hF rfl (fun h33 hF=>?_) (fun h33 hF=>?_)
    ·refine eU (aJ (aG ?_))
     obtain⟨v34,h35,hF⟩:=aM hF
     refine go ?_ ?_
     exact aF (fun a w hh=>⟨x27,v34,hF,dI [0] hh⟩)
    refine aV ?_
    obtain rfl:=eP hF
    exact nK Jj30 ⟨x26,hRl29,rfl,rfl⟩ [0]
   obtain⟨v36,h37,hF⟩:=aW hF uO
   refine go ?_ ?_
   refine aN rfl tyZ40 (fun b38=>?_)
   refine aN rfl tyZ40 (fun b39=>?_)
   refine go ?_ ?_
   exact aF (fun a w hh=>⟨v36.2,x12,hF,dI [2,3,4] hh⟩)
  refine go ?_ ?_
  refine wX rfl ?_
  obtain⟨v40,h41,hF⟩:=aW hF uO
  refine go ?_ ?_
  refine aN rfl tyZ40 (fun b42=>?_)
  refine aN rfl tyZ40 (fun b43=>?_)
  refine go ?_ ?_
  exact aF (fun a w hh=>⟨v40.2,x12,hF,dI [2,3,4] hh⟩)
 refine aV ?_
 obtain rfl:=eP hF
 exact nK Jj16 ⟨x13,hRl15,rfl,rfl⟩ [1,2]
def tR (a0:aE):Option aE:=
 bif(!a0.neg) then(some (⟨(decide (0<(a0.d.length:Int))),a0.d⟩:aE)) else(some (⟨false,a0.d⟩:aE))
theorem aAK {a0:aE} {r:aE} (hF:tR a0=some r):Ct Tryz.prog 109 [.va (aE.e a0)] (.va (aE.e r)):=by
 unfold tR at hF
 refine aA Tryz.func109 rfl (by kernel_rfl) Tryz.ntmps109 rfl (fun w0 M0=>?_)
 refine aC (aH (bV rfl rfl trivial (fun b1=>?_)))
 refine aN rfl tyZ40 (fun b2=>?_)
 refine go ?_ ?_
 refine cC hF (fun h3 hF=>?_) (fun h3 hF=>?_)
 ·exact bI
 exact bI
def xJ (K:Nat) (a0:Bool) (a1:List Int) (x4:Int):Option aE:=
 bif(x4==0) then(some (⟨false,([]:List Int)⟩:aE)) else((slL a1 0 x4).bind fun x8=>some (⟨a0,x8⟩:aE))
def nL (K:Nat) (a1:List Int):Nat→Int→Option Int
 |0,_=>none
 |k+1,x3=>bif(decide (0<x3)) then((aS (x3-1)).bind fun v11=>(bF a1 v11).bind fun v13=>bif(v13==0) then((aS (x3-1)).bind fun v16=>nL K a1 k v16) else(some x3)) else(some x3)
def eK (K:Nat) (a0:Bool) (a1:List Int):Option aE:=
 (nL K a1 K (a1.length:Int)).bind fun x4=>xJ K a0 a1 x4
theorem jJ {K:Nat} {a0:Bool} {a1:List Int} {r:aE} (hF:eK K a0 a1=some r):Ct Tryz.prog 155 [.vc (pB a0),.vc (pS cI a1)] (.va (aE.e r)):=by
 unfold eK at hF
 refine aA Tryz.func155 rfl (by kernel_rfl) Tryz.ntmps155 rfl (fun w0 M0=>?_)
 refine aC (aH (aN rfl tyZ40 (fun b1=>?_)))
 refine go ?_ ?_
 refine aG (aP (fun H E=>∃(x4:Int),xJ K a0 a1 x4=some r∧H=[⟨some b1,1,40,2,1,([pB false]++[pS cI ([]:List Int)])⟩]∧E=[(0,.vc (pB a0)),(1,.vc (pS cI a1)),(4,.vc (pP (some b1) 0)),(5,.vc (pI .i64 x4))]) ?_ (fun Jj6=>?_))
 ·rintro _ _ ⟨x4,hF,rfl,rfl⟩
  unfold xJ at hF
  refine go ?_ ?_
  refine aB hF rfl (fun h7 hF=>?_) (fun h7 hF=>?_)
  ·refine aC (aH (aI (gU (is:=[]) (xs:=[]) (ps:=[]) rfl tyB40 rfl rfl trivial rfl) trivial ?_))
   exact bI
  obtain⟨x8,h9,hF⟩:=aM hF
  refine go ?_ ?_
  refine aI (aPm rfl tyS22 h9) ⟨rfl,rfl,rfl,trivial⟩ ?_
  refine aI (gU (is:=[0,1]) (xs:=[.tmp 23,.tmp 27]) (ps:=[.vc (pB a0),.vc (pS cI x8)]) rfl tyB40 rfl rfl ⟨trivial,trivial,trivial⟩ rfl) zU2 ?_
  exact bI
 obtain⟨x4',hL,hRl5⟩:=aM hF
 refine cA (fun k a w=>∃(x3:Int),nL K a1 k x3=some x4'∧hs _ [⟨some b1,1,40,2,1,([pB false]++[pS cI ([]:List Int)])⟩] [(0,.vc (pB a0)),(1,.vc (pS cI a1)),(4,.vc (pP (some b1) 0)),(5,.vc (pI .i64 x3))] a w) K (fun a w ⟨_,hF,_⟩=>by cases hF) (fun k a w ⟨x3,hF,hh⟩=>b0 ?_ hh) (fun a w hh=>⟨(a1.length:Int),hL,dI [0] hh⟩)
 rw [nL.eq_2] at hF
 refine go ?_ ?_
 refine cC hF (fun h10 hF=>?_) (fun h10 hF=>?_)
 ·obtain⟨v11,h12,v13,h14,hF⟩:=tW hF
  refine go ?_ ?_
  refine aB hF rfl (fun h15 hF=>?_) (fun h15 hF=>?_)
  ·refine eU (aJ (aG ?_))
   have hF:=tJ h12 hF
   refine go ?_ ?_
   exact aF (fun a w hh=>⟨v11,hF,dI [0] hh⟩)
  refine aV ?_
  obtain rfl:=eP hF
  exact nK Jj6 ⟨x3,hRl5,rfl,rfl⟩ [0]
 refine go ?_ ?_
 refine wX rfl ?_
 refine aV ?_
 obtain rfl:=eP hF
 exact nK Jj6 ⟨x3,hRl5,rfl,rfl⟩ [0]
def u9 (K:Nat) (x2:List Int) (x28:List Int) (x34:Int):Option (List Int):=
 (bF x28 (x2.length:Int)).bind fun v37=>(qL x28 (x2.length:Int) x34).bind fun x39=>some x39
def cZ (K:Nat) (x2:List Int) (x3:List Int):Nat→(List Int)→Int→Int→Option ((List Int)×Int)
 |0,_,_,_=>none
 |k+1,x20,x26,x27=>bif(decide (x27<(x2.length:Int))) then((bF x2 x27).bind fun v43=>(aS (v43+x26)).bind fun v45=>bif(decide (x27<(x3.length:Int))) then((bF x3 x27).bind fun v48=>(aS (v45+v48)).bind fun v50=>bif(decide (1000000000≤v50)) then((aS (v50-1000000000)).bind fun v53=>(bF x20 x27).bind fun v55=>(qL x20 x27 v53).bind fun x57=>(aS (x27+1)).bind fun v60=>cZ K x2 x3 k x57 1 v60) else((bF x20 x27).bind fun v62=>(qL x20 x27 v50).bind fun x64=>(aS (x27+1)).bind fun v67=>cZ K x2 x3 k x64 0 v67)) else(bif(decide (1000000000≤v45)) then((aS (v45-1000000000)).bind fun v70=>(bF x20 x27).bind fun v72=>(qL x20 x27 v70).bind fun x74=>(aS (x27+1)).bind fun v77=>cZ K x2 x3 k x74 1 v77) else((bF x20 x27).bind fun v79=>(qL x20 x27 v45).bind fun x81=>(aS (x27+1)).bind fun v84=>cZ K x2 x3 k x81 0 v84))) else(some (x20,x26))
def p6 (K:Nat) (x2:List Int) (x3:List Int):Option (List Int):=
 (aS ((x2.length:Int)+1)).bind fun v5=>(mkL v5 0).bind fun x7=>(cZ K x2 x3 K x7 0 0).bind fun(x28,x34)=>u9 K x2 x28 x34
def rQ (K:Nat) (a0:List Int) (a1:List Int):Option (List Int):=
 bif(decide ((a0.length:Int)<(a1.length:Int))) then(p6 K a1 a0) else(p6 K a0 a1)
theorem aB9 {K:Nat} {a0:List Int} {a1:List Int} {r:List Int} (hF:rQ K a0 a1=some r):Ct Tryz.prog 156 [.vc (pS cI a0),.vc (pS cI a1)] (.vc (pS cI r)):=by
 unfold rQ at hF
 refine aA Tryz.func156 rfl (by kernel_rfl) Tryz.ntmps156 rfl (fun w0 M0=>?_)
 refine aC (aH (aI (aL (.inr rfl)) ⟨cD cI,trivial⟩ ?_))
 refine aT (aJ (aC (aAa (fun H E=>∃(x2:List Int),∃(x3:List Int),p6 K x2 x3=some r∧H=[]∧E=[(0,.vc (pS cI x2)),(1,.vc (pS cI x3))]) ?_ (fun Jj4=>?_))))
 ·rintro _ _ ⟨x2,x3,hF,rfl,rfl⟩
  unfold p6 at hF
  obtain⟨v5,h6,x7,h8,hF⟩:=tW hF
  refine go ?_ ?_
  refine nN (C:=cI) rfl tyS22 rfl tyZ3 rfl h8 (fun b9=>?_)
  refine go ?_ ?_
  refine aG (aP (fun H E=>∃(x28:List Int),∃(x34:Int),u9 K x2 x28 x34=some r∧x28.length=x7.length∧H=[hO cI b9 x7.length 3 x7.length x28]∧E=[(0,.vc (pS cI x2)),(5,.vc (pO b9 x7.length x7.length)),(6,.vc (pI .i64 x34))]) ?_ (fun Jj36=>?_))
  ·rintro _ _ ⟨x28,x34,hF,q32,rfl,rfl⟩
   unfold u9 at hF
   obtain⟨v37,h38,x39,h40,hF⟩:=tW hF
   refine go ?_ ?_
   refine dQ (dL (lF 0 [4,5,50,55] rfl (bC h40 q32) ⟨rfl,rfl,rfl,rfl,trivial⟩ rfl ?_))
   obtain rfl:=eP hF
   exact eE (.inl rfl) Tryz.results156 (.tmp rfl .nil) rfl rfl
  obtain⟨⟨x28',x34'⟩,hL,hRl35⟩:=aM hF
  refine cA (fun k a w=>∃(x20:List Int),∃(x26:Int),∃(x27:Int),cZ K x2 x3 k x20 x26 x27=some (x28',x34')∧x20.length=x7.length∧hs _ [hO cI b9 x7.length 3 x7.length x20] [(0,.vc (pS cI x2)),(1,.vc (pS cI x3)),(5,.vc (pO b9 x7.length x7.length)),(6,.vc (pI .i64 x26)),(21,.vc (pS cI x2)),(22,.vc (pI .i64 (x2.length:Int))),(23,.vc (pI .i64 x27))] a w) K (fun a w ⟨_,_,_,hF,_,_⟩=>by cases hF) (fun k a w ⟨x20,x26,x27,hF,q24,hh⟩=>b0 ?_ hh) (fun a w hh=>⟨x7,0,0,hL,rfl,dI [0] hh⟩)
  rw [cZ.eq_2] at hF
  refine go ?_ ?_
  refine aB hF rfl (fun h42 hF=>?_) (fun h42 hF=>?_)
  ·refine go ?_ ?_
   refine aG ?_
   obtain⟨v43,h44,v45,h46,hF⟩:=tW hF
   refine go ?_ ?_
   refine aB hF rfl (fun h47 hF=>?_) (fun h47 hF=>?_)
   ·obtain⟨v48,h49,v50,h51,hF⟩:=tW hF
    refine go ?_ ?_
    refine aB hF rfl (fun h52 hF=>?_) (fun h52 hF=>?_)
    ·obtain⟨v53,h54,v55,h56,x57,h58,v60,h61,hF⟩:=bn4 hF
     refine go ?_ ?_
     exact aF (fun a w hh=>⟨x57,1,v60,hF,(bC h58 q24),dI [0] hh⟩)
    obtain⟨v62,h63,x64,h65,v67,h68,hF⟩:=bn3 hF
    refine go ?_ ?_
    exact aF (fun a w hh=>⟨x64,0,v67,hF,(bC h65 q24),dI [0] hh⟩)
   refine go ?_ ?_
   refine aB hF rfl (fun h69 hF=>?_) (fun h69 hF=>?_)
   ·obtain⟨v70,h71,v72,h73,x74,h75,v77,h78,hF⟩:=bn4 hF
    refine go ?_ ?_
    exact aF (fun a w hh=>⟨x74,1,v77,hF,(bC h75 q24),dI [0] hh⟩)
   obtain⟨v79,h80,x81,h82,v84,h85,hF⟩:=bn3 hF
   refine go ?_ ?_
   exact aF (fun a w hh=>⟨x81,0,v84,hF,(bC h82 q24),dI [0] hh⟩)
  refine aV ?_
  obtain⟨rfl,rfl⟩:=sm2 hF
  exact nK Jj36 ⟨x20,x26,hRl35,q24,rfl,rfl⟩ [0]
 refine go ?_ ?_
 refine aB hF rfl (fun h86 hF=>?_) (fun h86 hF=>?_)
 ·refine aH (dS ?_)
  refine dS ?_
  refine zP ?_
  refine zP ?_
  refine aT ?_
  exact nK Jj4 ⟨a1,a0,hF,rfl,rfl⟩ []
 refine eU ?_
 exact nK Jj4 ⟨a0,a1,hF,rfl,rfl⟩ []
def n9 (a0:Int):Option Bool:=
 some (a0 != a0)
theorem yJ {a0:Int} {r:Bool} (hF:n9 a0=some r):Ct Tryz.prog 174 [.vc (pI .i64 a0)] (.vc (pB r)):=by
 unfold n9 at hF
 refine aA Tryz.func174 rfl (by kernel_rfl) Tryz.ntmps174 rfl (fun w0 M0=>?_)
 exact bI
def iS (a0:Int) (a1:Int):Option Int:=
 (n9 a0).bind fun v1=>(n9 a1).bind fun v3=>bif v1 then(bif v3 then(some 0) else(some (-1))) else(bif v3 then(some 1) else(bif(decide (a0<a1)) then(some (-1)) else(bif(decide (a1<a0)) then(some 1) else(some 0))))
theorem wI {a0:Int} {a1:Int} {r:Int} (hF:iS a0 a1=some r):Ct Tryz.prog 170 [.vc (pI .i64 a0),.vc (pI .i64 a1)] (.vc (pI .i64 r)):=by
 unfold iS at hF
 refine aA Tryz.func170 rfl (by kernel_rfl) Tryz.ntmps170 rfl (fun w0 M0=>?_)
 obtain⟨v1,h2,hF⟩:=aW hF yJ
 obtain⟨v3,h4,hF⟩:=aW hF yJ
 refine go ?_ ?_
 refine aB hF rfl (fun h5 hF=>?_) (fun h5 hF=>?_)
 ·refine go ?_ ?_
  refine aB hF rfl (fun h6 hF=>?_) (fun h6 hF=>?_)
  ·exact bI
  exact bI
 refine go ?_ ?_
 refine aB hF rfl (fun h7 hF=>?_) (fun h7 hF=>?_)
 ·exact bI
 refine go ?_ ?_
 refine aB hF rfl (fun h8 hF=>?_) (fun h8 hF=>?_)
 ·exact bI
 refine go ?_ ?_
 refine aB hF rfl (fun h9 hF=>?_) (fun h9 hF=>?_)
 ·exact bI
 exact bI
def wN (K:Nat):Option Int:=
 some 0
def gI (K:Nat) (a0:List Int) (a1:List Int):Nat→Int→Option (LR Int Unit)
 |0,_=>none
 |k+1,x7=>bif(decide (0≤x7)) then((bF a0 x7).bind fun v13=>(bF a1 x7).bind fun v15=>bif(v13 != v15) then((bF a0 x7).bind fun v20=>(bF a1 x7).bind fun v22=>(iS v20 v22).bind fun v24=>some (.ret v24)) else((aS (x7-1)).bind fun v26=>gI K a0 a1 k v26)) else(some (.go ()))
def gJ (K:Nat) (a0:List Int) (a1:List Int):Option Int:=
 bif((a0.length:Int) != (a1.length:Int)) then((iS (a0.length:Int) (a1.length:Int)).bind fun v2=>some v2) else((aS ((a0.length:Int)-1)).bind fun v4=>(gI K a0 a1 K v4).bind fun o=>match o with| .ret r=>some r| .go _=>wN K)
theorem oF {K:Nat} {a0:List Int} {a1:List Int} {r:Int} (hF:gJ K a0 a1=some r):Ct Tryz.prog 157 [.vc (pS cI a0),.vc (pS cI a1)] (.vc (pI .i64 r)):=by
 unfold gJ at hF
 refine aA Tryz.func157 rfl (by kernel_rfl) Tryz.ntmps157 rfl (fun w0 M0=>?_)
 refine go ?_ ?_
 refine aB hF rfl (fun h1 hF=>?_) (fun h1 hF=>?_)
 ·obtain⟨v2,h3,hF⟩:=aW hF wI
  exact bI
 obtain⟨v4,h5,hF⟩:=aM hF
 refine go ?_ ?_
 refine aG (aP (fun H E=>wN K=some r∧H=[]∧E=[]) ?_ (fun Jj9=>?_))
 ·rintro _ _ ⟨hF,rfl,rfl⟩
  unfold wN at hF
  exact bI
 obtain⟨ol8,hL,hRl8⟩:=aM hF
 refine cA (fun k a w=>∃(x7:Int),gI K a0 a1 k x7=some ol8∧hs _ [] [(0,.vc (pS cI a0)),(1,.vc (pS cI a1)),(5,.vc (pI .i64 x7))] a w) K (fun a w ⟨_,hF,_⟩=>by cases hF) (fun k a w ⟨x7,hF,hh⟩=>b0 ?_ hh) (fun a w hh=>⟨v4,hL,dI [] hh⟩)
 rw [gI.eq_2] at hF
 refine go ?_ ?_
 refine aB hF rfl (fun h10 hF=>?_) (fun h10 hF=>?_)
 ·refine go ?_ ?_
  refine aG (aC ?_)
  obtain⟨v13,h14,hF⟩:=aM hF
  obtain⟨v15,h16,hF⟩:=aM hF
  refine dr [0,0,3,7,0,0,48,112,255] 9 0 ?_ (fun bs12 G11=>?_)
  refine aT (aJ (aB hF rfl (fun h17 hF=>?_) (fun h17 hF=>?_)))
  ·refine aC ?_
   have hF:=tJ h14 hF
   have hF:=tJ h16 hF
   obtain⟨v24,h25,hF⟩:=aW hF wI
   refine dr [0,0,3,7,0,0,48,112,255,511] 10 0 ?_ (fun bs19 G18=>?_)
   refine aT (aJ ?_)
   exact bI
  obtain⟨v26,h27,hF⟩:=aM hF
  refine go ?_ ?_
  exact aF (fun a w hh=>⟨v26,hF,dI [] hh⟩)
 refine aV ?_
 obtain rfl:=eP hF
 exact nK Jj9 ⟨hRl8,rfl,rfl⟩ []
def t0 (K:Nat) (x21:List Int):Option (List Int):=
 some x21
def kU (K:Nat) (x20:Int) (recl27:(List Int)→Int→Option (List Int)) (x31:List Int):Option (List Int):=
 (bF x31 x20).bind fun v38=>bif(decide (v38<0)) then((bF x31 x20).bind fun v41=>(aS (v41+1000000000)).bind fun v43=>(bF x31 x20).bind fun v45=>(qL x31 x20 v43).bind fun x47=>(aS (x20+1)).bind fun v50=>(bF x47 v50).bind fun v52=>(aS (v52-1)).bind fun v54=>(bF x47 v50).bind fun v56=>(qL x47 v50 v54).bind fun x58=>(aS (x20+1)).bind fun v61=>recl27 x58 v61) else((aS (x20+1)).bind fun v63=>recl27 x31 v63)
def eI (K:Nat) (a0:List Int) (a1:List Int) (x1:List Int):Nat→(List Int)→Int→Option (List Int)
 |0,_,_=>none
 |k+1,x14,x20=>bif(decide (x20<((cpL x1 a0).length:Int))) then(bif(decide (x20<(a1.length:Int))) then((bF x14 x20).bind fun v68=>(bF a1 x20).bind fun v70=>(aS (v68-v70)).bind fun v72=>(bF x14 x20).bind fun v74=>(qL x14 x20 v72).bind fun x76=>kU K x20 (eI K a0 a1 x1 k) x76) else(kU K x20 (eI K a0 a1 x1 k) x14)) else(some x14)
def nM (K:Nat) (a0:List Int) (a1:List Int):Option (List Int):=
 (mkL (a0.length:Int) 0).bind fun x1=>(eI K a0 a1 x1 K (cpL x1 a0) 0).bind fun x21=>t0 K x21
theorem zC {K:Nat} {a0:List Int} {a1:List Int} {r:List Int} (hF:nM K a0 a1=some r):Ct Tryz.prog 158 [.vc (pS cI a0),.vc (pS cI a1)] (.vc (pS cI r)):=by
 unfold nM at hF
 refine aA Tryz.func158 rfl (by kernel_rfl) Tryz.ntmps158 rfl (fun w0 M0=>?_)
 refine aC (aH (aI (aL (.inr rfl)) ⟨cD cI,trivial⟩ ?_))
 obtain⟨x1,h2,hF⟩:=aM hF
 refine go ?_ ?_
 refine nN (C:=cI) rfl tyS22 rfl tyZ3 rfl h2 (fun b3=>?_)
 refine go ?_ ?_
 refine aI (t_cp 0 rfl tyS22 rfl rfl rfl) zU2 ?_
 refine go ?_ ?_
 refine aI (aB3 (C:=cI) (xs:=(cpL x1 a0)) (T:=3) rfl tyS22 (aEo rfl)) zU1 ?_
 refine go ?_ ?_
 refine aG (aP (fun H E=>∃(x21:List Int),t0 K x21=some r∧x21.length=x1.length∧H=[hO cI b3 x1.length 3 x1.length x21]∧E=[(5,.vc (pO b3 x1.length x1.length))]) ?_ (fun Jj28=>?_))
 ·rintro _ _ ⟨x21,hF,q25,rfl,rfl⟩
  unfold t0 at hF
  refine go ?_ ?_
  refine dQ (dL (lF 0 [4,5,51] rfl q25 ⟨rfl,rfl,rfl,trivial⟩ rfl ?_))
  obtain rfl:=eP hF
  exact eE (.inl rfl) Tryz.results158 (.tmp rfl .nil) rfl rfl
 obtain⟨x21',hL,hRl27⟩:=aM hF
 refine cA (fun k a w=>∃(x14:List Int),∃(x20:Int),eI K a0 a1 x1 k x14 x20=some x21'∧x14.length=x1.length∧hs _ [hO cI b3 x1.length 3 x1.length x14] [(1,.vc (pS cI a1)),(5,.vc (pO b3 x1.length x1.length)),(14,.vc (pI .i64 ((cpL x1 a0).length:Int))),(15,.vc (pI .i64 x20))] a w) K (fun a w ⟨_,_,hF,_,_⟩=>by cases hF) (fun k a w ⟨x14,x20,hF,q18,hh⟩=>b0 ?_ hh) (fun a w hh=>⟨(cpL x1 a0),0,hL,(aEo rfl),dI [0] hh⟩)
 rw [eI.eq_2] at hF
 refine go ?_ ?_
 refine aB hF rfl (fun h29 hF=>?_) (fun h29 hF=>?_)
 ·refine go ?_ ?_
  refine aG (aC (aH (dS ?_)))
  refine zP ?_
  refine aT (aJ (aC (aAa (fun H E=>∃(x31:List Int),kU K x20 (eI K a0 a1 x1 k) x31=some x21'∧x31.length=x1.length∧H=[hO cI b3 x1.length 3 x1.length x31]∧E=[(1,.vc (pS cI a1)),(5,.vc (pO b3 x1.length x1.length)),(6,.vc (pI .i64 x20)),(14,.vc (pI .i64 ((cpL x1 a0).length:Int))),(15,.vc (pI .i64 x20))]) ?_ (fun Jj37=>?_))))
  ·rintro _ _ ⟨x31,hF,q35,rfl,rfl⟩
   unfold kU at hF
   obtain⟨v38,h39,hF⟩:=aM hF
   refine go ?_ ?_
   refine aB hF rfl (fun h40 hF=>?_) (fun h40 hF=>?_)
   ·have hF:=tJ h39 hF
    obtain⟨v43,h44,hF⟩:=aM hF
    have hF:=tJ h39 hF
    obtain⟨x47,h48,v50,h51,v52,h53,v54,h55,hF⟩:=bn4 hF
    have hF:=tJ h53 hF
    obtain⟨x58,h59,hF⟩:=aM hF
    have hF:=tJ h51 hF
    refine go ?_ ?_
    exact aF (fun a w hh=>⟨x58,v50,hF,(bC h59 (bC h48 q35)),dI [0] hh⟩)
   obtain⟨v63,h64,hF⟩:=aM hF
   refine go ?_ ?_
   exact aF (fun a w hh=>⟨x31,v63,hF,q35,dI [0] hh⟩)
  refine go ?_ ?_
  refine aB hF rfl (fun h65 hF=>?_) (fun h65 hF=>?_)
  ·obtain⟨v68,h69,hF⟩:=aM hF
   obtain⟨v70,h71,hF⟩:=aM hF
   obtain⟨v72,h73,hF⟩:=aM hF
   have hF:=tJ h69 hF
   refine dr [0,0,3,7,0,0,48,112,255,511,1023] 10 1 ?_ (fun bs67 G66=>?_)
   obtain⟨x76,h77,hF⟩:=aM hF
   refine mD (yM 0 rfl rfl h69 h77 tyO3.s) zU2 ?_
   refine aT ?_
   exact nK Jj37 ⟨x76,hF,(bC h77 q18),rfl,rfl⟩ [0]
  refine eU ?_
  exact nK Jj37 ⟨x14,hF,q18,rfl,rfl⟩ [0]
 refine aV ?_
 obtain rfl:=eP hF
 exact nK Jj28 ⟨x14,hRl27,q18,rfl,rfl⟩ [0]
def oQ (K:Nat) (a0:aE) (a1:aE):Option aE:=
 bif(a0.neg==a1.neg) then((rQ K a0.d a1.d).bind fun v7=>(eK K a0.neg v7).bind fun v9=>some v9) else((gJ K a0.d a1.d).bind fun v11=>bif(decide (v11<0)) then((nM K a1.d a0.d).bind fun v16=>(eK K a1.neg v16).bind fun v18=>some v18) else((nM K a0.d a1.d).bind fun v22=>(eK K a0.neg v22).bind fun v24=>some v24))
theorem aAu {K:Nat} {a0:aE} {a1:aE} {r:aE} (hF:oQ K a0 a1=some r):Ct Tryz.prog 122 [.va (aE.e a0),.va (aE.e a1)] (.va (aE.e r)):=by
 unfold oQ at hF
 refine aA Tryz.func122 rfl (by kernel_rfl) Tryz.ntmps122 rfl (fun w0 M0=>?_)
 refine aC (aH (bV rfl rfl trivial (fun b1=>?_)))
 refine bV rfl rfl trivial (fun b2=>?_)
 refine aN rfl tyZ40 (fun b3=>?_)
 refine go ?_ ?_
 refine aG (go ?_ ?_)
 refine aI (aNg rfl Tryz.underlying4) zU2 ?_
 refine go ?_ ?_
 refine aB hF rfl (fun h4 hF=>?_) (fun h4 hF=>?_)
 ·refine aC ?_
  obtain⟨v7,h8,hF⟩:=aW hF aB9
  obtain⟨v9,h10,hF⟩:=aW hF jJ
  refine dr [0,1,0,4,0,16,60,127,255] 8 1 ?_ (fun bs6 G5=>?_)
  exact bI
 obtain⟨v11,h12,hF⟩:=aW hF oF
 refine go ?_ ?_
 refine aB hF rfl (fun h13 hF=>?_) (fun h13 hF=>?_)
 ·refine aC ?_
  obtain⟨v16,h17,hF⟩:=aW hF zC
  obtain⟨v18,h19,hF⟩:=aW hF jJ
  refine dr [0,1,0,4,0,16,60,127,255] 8 1 ?_ (fun bs15 G14=>?_)
  exact bI
 obtain⟨v22,h23,hF⟩:=aW hF zC
 obtain⟨v24,h25,hF⟩:=aW hF jJ
 refine go ?_ ?_
 refine dr [0,1,0,4,0,16,60,127,255] 8 1 ?_ (fun bs21 G20=>?_)
 exact bI
def sS (K:Nat) (a0:aE) (a1:aE) (x37:List Int):Option aE:=
 (eK K (a0.neg != a1.neg) x37).bind fun v45=>some v45
def sQ (K:Nat) (a1:aE) (x36:Int) (recl43:(List Int)→Int→Option (List Int)) (x66:List Int) (x72:Int):Option (List Int):=
 (aS (x36+(a1.d.length:Int))).bind fun v75=>(bF x66 v75).bind fun v77=>(qL x66 v75 x72).bind fun x79=>(aS (x36+1)).bind fun v82=>recl43 x79 v82
def iP (K:Nat) (a1:aE) (x36:Int) (v48:Int):Nat→(List Int)→Int→Int→Option ((List Int)×Int)
 |0,_,_,_=>none
 |k+1,x58,x64,x65=>bif(decide (x65<(a1.d.length:Int))) then((bF a1.d x65).bind fun v85=>(aS (x36+x65)).bind fun v87=>(bF x58 v87).bind fun v89=>(aS (v48*v85)).bind fun v91=>(aS (v89+v91)).bind fun v93=>(aS (v93+x64)).bind fun v95=>(chq v95 1000000000).bind fun v97=>(aS (x36+x65)).bind fun v99=>(aS (v97*1000000000)).bind fun v101=>(aS (v95-v101)).bind fun v103=>(bF x58 v99).bind fun v105=>(qL x58 v99 v103).bind fun x107=>(aS (x65+1)).bind fun v110=>iP K a1 x36 v48 k x107 v97 v110) else(some (x58,x64))
def gD (K:Nat) (a0:aE) (a1:aE):Nat→(List Int)→Int→Option (List Int)
 |0,_,_=>none
 |k+1,x30,x36=>bif(decide (x36<(a0.d.length:Int))) then((bF a0.d x36).bind fun v48=>(iP K a1 x36 v48 K x30 0 0).bind fun(x66,x72)=>sQ K a1 x36 (gD K a0 a1 k) x66 x72) else(some x30)
def xO (K:Nat) (a0:aE) (a1:aE) (x133:List Int):Option aE:=
 (eK K (a0.neg != a1.neg) x133).bind fun v141=>some v141
def vE (K:Nat) (a1:aE) (x132:Int) (recl139:(List Int)→Int→Option (List Int)) (x162:List Int) (x168:Int):Option (List Int):=
 (aS (x132+(a1.d.length:Int))).bind fun v171=>(bF x162 v171).bind fun v173=>(qL x162 v171 x168).bind fun x175=>(aS (x132+1)).bind fun v178=>recl139 x175 v178
def oP (K:Nat) (a1:aE) (x132:Int) (v144:Int):Nat→(List Int)→Int→Int→Option ((List Int)×Int)
 |0,_,_,_=>none
 |k+1,x154,x160,x161=>bif(decide (x161<(a1.d.length:Int))) then((bF a1.d x161).bind fun v181=>(aS (x132+x161)).bind fun v183=>(bF x154 v183).bind fun v185=>(aS (v144*v181)).bind fun v187=>(aS (v185+v187)).bind fun v189=>(aS (v189+x160)).bind fun v191=>(chq v191 1000000000).bind fun v193=>(aS (x132+x161)).bind fun v195=>(aS (v193*1000000000)).bind fun v197=>(aS (v191-v197)).bind fun v199=>(bF x154 v195).bind fun v201=>(qL x154 v195 v199).bind fun x203=>(aS (x161+1)).bind fun v206=>oP K a1 x132 v144 k x203 v193 v206) else(some (x154,x160))
def lZ (K:Nat) (a0:aE) (a1:aE):Nat→(List Int)→Int→Option (List Int)
 |0,_,_=>none
 |k+1,x126,x132=>bif(decide (x132<(a0.d.length:Int))) then((bF a0.d x132).bind fun v144=>(oP K a1 x132 v144 K x126 0 0).bind fun(x162,x168)=>vE K a1 x132 (lZ K a0 a1 k) x162 x168) else(some x126)
def bR (K:Nat) (a0:aE) (a1:aE):Option aE:=
 bif((a0.d.length:Int)==1) then(bif((a1.d.length:Int)==1) then((bF a0.d 0).bind fun v10=>(bF a1.d 0).bind fun v12=>(fE (a0.neg != a1.neg) (wu ((IntKind.u64.wrap v10)*(IntKind.u64.wrap v12)))).bind fun v14=>some v14) else((aS ((a0.d.length:Int)+(a1.d.length:Int))).bind fun v16=>(mkL v16 0).bind fun x18=>(gD K a0 a1 K x18 0).bind fun x37=>sS K a0 a1 x37)) else((aS ((a0.d.length:Int)+(a1.d.length:Int))).bind fun v112=>(mkL v112 0).bind fun x114=>(lZ K a0 a1 K x114 0).bind fun x133=>xO K a0 a1 x133)
theorem iJ {K:Nat} {a0:aE} {a1:aE} {r:aE} (hF:bR K a0 a1=some r):Ct Tryz.prog 124 [.va (aE.e a0),.va (aE.e a1)] (.va (aE.e r)):=by
 unfold bR at hF
 refine aA Tryz.func124 rfl (by kernel_rfl) Tryz.ntmps124 rfl (fun w0 M0=>?_)
 refine aC (aH (bV rfl rfl trivial (fun b1=>?_)))
 refine bV rfl rfl trivial (fun b2=>?_)
 refine aN rfl tyZ40 (fun b3=>?_)
 refine go ?_ ?_
 refine dr [0,1,0,4,3,31] 6 0 ?_ (fun bs5 G4=>?_)
 refine go ?_ ?_
 refine cC hF (fun h6 hF=>?_) (fun h6 hF=>?_)
 ·refine go ?_ ?_
  refine aB hF rfl (fun h7 hF=>?_) (fun h7 hF=>?_)
  ·refine aC ?_
   obtain⟨v10,h11,hF⟩:=aM hF
   obtain⟨v12,h13,hF⟩:=aM hF
   obtain⟨v14,h15,hF⟩:=aW hF kY
   refine iQ [0,1,0,4,15,0,32,96,224,0,512,1536,3584,8160,16383,32767] 15 1 [.v (.vc (pP (some b1) 0)),.v (.vc (pB a0.neg)),.v (.vc (pP (some b2) 0)),.v (.vc (pB a1.neg)),.v (.vc (pB (a0.neg != a1.neg))),.v (.vc (pS cI a0.d)),.v (.vc (pM (cI.e v10))),.v (.vc (pI .i64 v10)),.v (.vc (pI .u64 (IntKind.u64.wrap v10))),.v (.vc (pS cI a1.d)),.v (.vc (pM (cI.e v12))),.v (.vc (pI .i64 v12)),.v (.vc (pI .u64 (IntKind.u64.wrap v12))),.v (.vc (pI .u64 (wu ((IntKind.u64.wrap v10)*(IntKind.u64.wrap v12))))),.v (.va (aE.e v14))] aU ⟨d0 (gV (off:=0) (k:=0) rfl tyF40_0) zU1,d0 (gC 2 1 rfl rfl rfl rfl (.one tyO4)) zU1,d0 (gV (off:=0) (k:=0) rfl tyF40_0) zU1,d0 (gC 1 1 rfl rfl rfl rfl (.one tyO4)) zU1,⟨rfl,.run (L:=[0]) ⟨fun G8 A=>aB7 rfl Tryz.underlying4,trivial⟩ (fun G8=>zU2)⟩,d0 (aL (.inl rfl)) zU1,d0 (zS rfl tyS22 h11) ⟨rfl,qM _ _,trivial⟩,d0 (x0 1 rfl rfl (.one tyO3)) zU1,⟨rfl,.run (L:=[0]) ⟨fun G8 A=>aE6 rfl ⟨_,Tryz.underlying3⟩ Tryz.underlying131,trivial⟩ (fun G8=>zU1)⟩,d0 (aL (.inl rfl)) zU1,d0 (zS rfl tyS22 h13) ⟨rfl,qM _ _,trivial⟩,d0 (x0 1 rfl rfl (.one tyO3)) zU1,⟨rfl,.run (L:=[0]) ⟨fun G8 A=>aE6 rfl ⟨_,Tryz.underlying3⟩ Tryz.underlying131,trivial⟩ (fun G8=>zU1)⟩,d0 (aRv rfl) zU2,d0 (bE rfl h15 rfl) zU2,trivial⟩ (fun bs9 G8=>?_)
   exact bI
  obtain⟨v16,h17,x18,h19,hF⟩:=tW hF
  refine go ?_ ?_
  refine nN (C:=cI) rfl tyS22 rfl tyZ3 rfl h19 (fun b20=>?_)
  refine go ?_ ?_
  refine aG (aP (fun H E=>∃(x37:List Int),sS K a0 a1 x37=some r∧x37.length=x18.length∧H=[hO cI b20 x18.length 3 x18.length x37,⟨some b3,1,40,2,1,([pB false]++[pS cI ([]:List Int)])⟩,⟨some b2,1,40,2,1,(aE.e a1)⟩,⟨some b1,1,40,2,1,(aE.e a0)⟩]∧E=[(2,.vc (pP (some b1) 0)),(3,.vc (pP (some b2) 0)),(4,.vc (pP (some b3) 0)),(7,.vc (pO b20 x18.length x18.length))]) ?_ (fun Jj44=>?_))
  ·rintro _ _ ⟨x37,hF,q41,rfl,rfl⟩
   unfold sS at hF
   refine go ?_ ?_
   refine aI (aB7 rfl Tryz.underlying4) zU2 ?_
   refine dS ?_
   refine tV 0 [7,98] rfl q41 zU2 rfl ?_
   obtain⟨v45,h46,hF⟩:=aW hF jJ
   exact bI
  obtain⟨x37',hL,hRl43⟩:=aM hF
  refine cA (fun k a w=>∃(x30:List Int),∃(x36:Int),gD K a0 a1 k x30 x36=some x37'∧x30.length=x18.length∧hs _ [hO cI b20 x18.length 3 x18.length x30,⟨some b3,1,40,2,1,([pB false]++[pS cI ([]:List Int)])⟩,⟨some b2,1,40,2,1,(aE.e a1)⟩,⟨some b1,1,40,2,1,(aE.e a0)⟩] [(2,.vc (pP (some b1) 0)),(3,.vc (pP (some b2) 0)),(4,.vc (pP (some b3) 0)),(6,.vc (pS cI a1.d)),(7,.vc (pO b20 x18.length x18.length)),(47,.vc (pS cI a0.d)),(48,.vc (pI .i64 (a0.d.length:Int))),(49,.vc (pI .i64 x36))] a w) K (fun a w ⟨_,_,hF,_,_⟩=>by cases hF) (fun k a w ⟨x30,x36,hF,q34,hh⟩=>b0 ?_ hh) (fun a w hh=>⟨x18,0,hL,rfl,dI [0,1,2,3] hh⟩)
  rw [gD.eq_2] at hF
  refine go ?_ ?_
  refine aB hF rfl (fun h47 hF=>?_) (fun h47 hF=>?_)
  ·refine go ?_ ?_
   refine aG ?_
   obtain⟨v48,h49,hF⟩:=aM hF
   refine go ?_ ?_
   refine aG (aP (fun H E=>∃(x66:List Int),∃(x72:Int),sQ K a1 x36 (gD K a0 a1 k) x66 x72=some x37'∧x66.length=x18.length∧H=[hO cI b20 x18.length 3 x18.length x66,⟨some b3,1,40,2,1,([pB false]++[pS cI ([]:List Int)])⟩,⟨some b2,1,40,2,1,(aE.e a1)⟩,⟨some b1,1,40,2,1,(aE.e a0)⟩]∧E=[(2,.vc (pP (some b1) 0)),(3,.vc (pP (some b2) 0)),(4,.vc (pP (some b3) 0)),(6,.vc (pS cI a1.d)),(7,.vc (pO b20 x18.length x18.length)),(8,.vc (pI .i64 x36)),(10,.vc (pI .i64 x72)),(47,.vc (pS cI a0.d)),(48,.vc (pI .i64 (a0.d.length:Int))),(49,.vc (pI .i64 x36))]) ?_ (fun Jj74=>?_))
   ·rintro _ _ ⟨x66,x72,hF,q70,rfl,rfl⟩
    unfold sQ at hF
    obtain⟨v75,h76,v77,h78,x79,h80,v82,h83,hF⟩:=bn4 hF
    refine go ?_ ?_
    exact aF (fun a w hh=>⟨x79,v82,hF,(bC h80 q70),dI [0,1,2,3] hh⟩)
   obtain⟨⟨x66',x72'⟩,hL,hRl73⟩:=aM hF
   refine cA (fun k a w=>∃(x58:List Int),∃(x64:Int),∃(x65:Int),iP K a1 x36 v48 k x58 x64 x65=some (x66',x72')∧x58.length=x18.length∧hs _ [hO cI b20 x18.length 3 x18.length x58,⟨some b3,1,40,2,1,([pB false]++[pS cI ([]:List Int)])⟩,⟨some b2,1,40,2,1,(aE.e a1)⟩,⟨some b1,1,40,2,1,(aE.e a0)⟩] [(2,.vc (pP (some b1) 0)),(3,.vc (pP (some b2) 0)),(4,.vc (pP (some b3) 0)),(6,.vc (pS cI a1.d)),(7,.vc (pO b20 x18.length x18.length)),(8,.vc (pI .i64 x36)),(9,.vc (pI .i64 v48)),(10,.vc (pI .i64 x64)),(47,.vc (pS cI a0.d)),(48,.vc (pI .i64 (a0.d.length:Int))),(49,.vc (pI .i64 x36)),(54,.vc (pS cI a1.d)),(55,.vc (pI .i64 (a1.d.length:Int))),(56,.vc (pI .i64 x65))] a w) K (fun a w ⟨_,_,_,hF,_,_⟩=>by cases hF) (fun k a w ⟨x58,x64,x65,hF,q62,hh⟩=>b0 ?_ hh) (fun a w hh=>⟨x30,0,0,hL,q34,dI [0,1,2,3] hh⟩)
   rw [iP.eq_2] at hF
   refine go ?_ ?_
   refine aB hF rfl (fun h84 hF=>?_) (fun h84 hF=>?_)
   ·refine go ?_ ?_
    refine aG ?_
    obtain⟨v85,h86,v87,h88,v89,h90,v91,h92,hF⟩:=bn4 hF
    obtain⟨v93,h94,v95,h96,v97,h98,hF⟩:=bn3 hF
    have hF:=tJ h88 hF
    obtain⟨v101,h102,v103,h104,hF⟩:=tW hF
    have hF:=tJ h90 hF
    obtain⟨x107,h108,v110,h111,hF⟩:=tW hF
    refine go ?_ ?_
    exact aF (fun a w hh=>⟨x107,v97,v110,hF,(bC h108 q62),dI [0,1,2,3] hh⟩)
   refine aV ?_
   obtain⟨rfl,rfl⟩:=sm2 hF
   exact nK Jj74 ⟨x58,x64,hRl73,q62,rfl,rfl⟩ [0,1,2,3]
  refine aV ?_
  obtain rfl:=eP hF
  exact nK Jj44 ⟨x30,hRl43,q34,rfl,rfl⟩ [0,1,2,3]
 refine go ?_ ?_
 refine wX rfl ?_
 obtain⟨v112,h113,x114,h115,hF⟩:=tW hF
 refine go ?_ ?_
 refine nN (C:=cI) rfl tyS22 rfl tyZ3 rfl h115 (fun b116=>?_)
 refine go ?_ ?_
 refine aG (aP (fun H E=>∃(x133:List Int),xO K a0 a1 x133=some r∧x133.length=x114.length∧H=[hO cI b116 x114.length 3 x114.length x133,⟨some b3,1,40,2,1,([pB false]++[pS cI ([]:List Int)])⟩,⟨some b2,1,40,2,1,(aE.e a1)⟩,⟨some b1,1,40,2,1,(aE.e a0)⟩]∧E=[(2,.vc (pP (some b1) 0)),(3,.vc (pP (some b2) 0)),(4,.vc (pP (some b3) 0)),(7,.vc (pO b116 x114.length x114.length))]) ?_ (fun Jj140=>?_))
 ·rintro _ _ ⟨x133,hF,q137,rfl,rfl⟩
  unfold xO at hF
  refine go ?_ ?_
  refine aI (aB7 rfl Tryz.underlying4) zU2 ?_
  refine dS ?_
  refine tV 0 [7,98] rfl q137 zU2 rfl ?_
  obtain⟨v141,h142,hF⟩:=aW hF jJ
  exact bI
 obtain⟨x133',hL,hRl139⟩:=aM hF
 refine cA (fun k a w=>∃(x126:List Int),∃(x132:Int),lZ K a0 a1 k x126 x132=some x133'∧x126.length=x114.length∧hs _ [hO cI b116 x114.length 3 x114.length x126,⟨some b3,1,40,2,1,([pB false]++[pS cI ([]:List Int)])⟩,⟨some b2,1,40,2,1,(aE.e a1)⟩,⟨some b1,1,40,2,1,(aE.e a0)⟩] [(2,.vc (pP (some b1) 0)),(3,.vc (pP (some b2) 0)),(4,.vc (pP (some b3) 0)),(6,.vc (pS cI a1.d)),(7,.vc (pO b116 x114.length x114.length)),(47,.vc (pS cI a0.d)),(48,.vc (pI .i64 (a0.d.length:Int))),(49,.vc (pI .i64 x132))] a w) K (fun a w ⟨_,_,hF,_,_⟩=>by cases hF) (fun k a w ⟨x126,x132,hF,q130,hh⟩=>b0 ?_ hh) (fun a w hh=>⟨x114,0,hL,rfl,dI [0,1,2,3] hh⟩)
 rw [lZ.eq_2] at hF
 refine go ?_ ?_
 refine aB hF rfl (fun h143 hF=>?_) (fun h143 hF=>?_)
 ·refine go ?_ ?_
  refine aG ?_
  obtain⟨v144,h145,hF⟩:=aM hF
  refine go ?_ ?_
  refine aG (aP (fun H E=>∃(x162:List Int),∃(x168:Int),vE K a1 x132 (lZ K a0 a1 k) x162 x168=some x133'∧x162.length=x114.length∧H=[hO cI b116 x114.length 3 x114.length x162,⟨some b3,1,40,2,1,([pB false]++[pS cI ([]:List Int)])⟩,⟨some b2,1,40,2,1,(aE.e a1)⟩,⟨some b1,1,40,2,1,(aE.e a0)⟩]∧E=[(2,.vc (pP (some b1) 0)),(3,.vc (pP (some b2) 0)),(4,.vc (pP (some b3) 0)),(6,.vc (pS cI a1.d)),(7,.vc (pO b116 x114.length x114.length)),(8,.vc (pI .i64 x132)),(10,.vc (pI .i64 x168)),(47,.vc (pS cI a0.d)),(48,.vc (pI .i64 (a0.d.length:Int))),(49,.vc (pI .i64 x132))]) ?_ (fun Jj170=>?_))
  ·rintro _ _ ⟨x162,x168,hF,q166,rfl,rfl⟩
   unfold vE at hF
   obtain⟨v171,h172,v173,h174,x175,h176,v178,h179,hF⟩:=bn4 hF
   refine go ?_ ?_
   exact aF (fun a w hh=>⟨x175,v178,hF,(bC h176 q166),dI [0,1,2,3] hh⟩)
  obtain⟨⟨x162',x168'⟩,hL,hRl169⟩:=aM hF
  refine cA (fun k a w=>∃(x154:List Int),∃(x160:Int),∃(x161:Int),oP K a1 x132 v144 k x154 x160 x161=some (x162',x168')∧x154.length=x114.length∧hs _ [hO cI b116 x114.length 3 x114.length x154,⟨some b3,1,40,2,1,([pB false]++[pS cI ([]:List Int)])⟩,⟨some b2,1,40,2,1,(aE.e a1)⟩,⟨some b1,1,40,2,1,(aE.e a0)⟩] [(2,.vc (pP (some b1) 0)),(3,.vc (pP (some b2) 0)),(4,.vc (pP (some b3) 0)),(6,.vc (pS cI a1.d)),(7,.vc (pO b116 x114.length x114.length)),(8,.vc (pI .i64 x132)),(9,.vc (pI .i64 v144)),(10,.vc (pI .i64 x160)),(47,.vc (pS cI a0.d)),(48,.vc (pI .i64 (a0.d.length:Int))),(49,.vc (pI .i64 x132)),(54,.vc (pS cI a1.d)),(55,.vc (pI .i64 (a1.d.length:Int))),(56,.vc (pI .i64 x161))] a w) K (fun a w ⟨_,_,_,hF,_,_⟩=>by cases hF) (fun k a w ⟨x154,x160,x161,hF,q158,hh⟩=>b0 ?_ hh) (fun a w hh=>⟨x126,0,0,hL,q130,dI [0,1,2,3] hh⟩)
  rw [oP.eq_2] at hF
  refine go ?_ ?_
  refine aB hF rfl (fun h180 hF=>?_) (fun h180 hF=>?_)
  ·refine go ?_ ?_
   refine aG ?_
   obtain⟨v181,h182,v183,h184,v185,h186,v187,h188,hF⟩:=bn4 hF
   obtain⟨v189,h190,v191,h192,v193,h194,hF⟩:=bn3 hF
   have hF:=tJ h184 hF
   obtain⟨v197,h198,v199,h200,hF⟩:=tW hF
   have hF:=tJ h186 hF
   obtain⟨x203,h204,v206,h207,hF⟩:=tW hF
   refine go ?_ ?_
   exact aF (fun a w hh=>⟨x203,v193,v206,hF,(bC h204 q158),dI [0,1,2,3] hh⟩)
  refine aV ?_
  obtain⟨rfl,rfl⟩:=sm2 hF
  exact nK Jj170 ⟨x154,x160,hRl169,q158,rfl,rfl⟩ [0,1,2,3]
 refine aV ?_
 obtain rfl:=eP hF
 exact nK Jj140 ⟨x126,hRl139,q130,rfl,rfl⟩ [0,1,2,3]
def rL (a0:List Int):Option (Int×Bool):=
 bif((a0.length:Int)==0) then(some (0,true)) else(bif((a0.length:Int)==1) then((bF a0 0).bind fun v3=>some (v3,true)) else(bif((a0.length:Int)==2) then((bF a0 1).bind fun v8=>(aS (v8*1000000000)).bind fun v10=>(bF a0 0).bind fun v12=>(aS (v10+v12)).bind fun v14=>some (v14,true)) else(some (0,false))))
theorem yP {a0:List Int} {r:Int×Bool} (hF:rL a0=some r):Ct Tryz.prog 161 [.vc (pS cI a0)] (.t2 (.vc (pI .i64 r.1)) (.vc (pB r.2))):=by
 unfold rL at hF
 refine aA Tryz.func161 rfl (by kernel_rfl) Tryz.ntmps161 rfl (fun w0 M0=>?_)
 refine go ?_ ?_
 refine aG (go ?_ ?_)
 refine aB hF rfl (fun h1 hF=>?_) (fun h1 hF=>?_)
 ·exact bI
 refine go ?_ ?_
 refine aB hF rfl (fun h2 hF=>?_) (fun h2 hF=>?_)
 ·obtain⟨v3,h4,hF⟩:=aM hF
  exact bI
 refine go ?_ ?_
 refine aB hF rfl (fun h5 hF=>?_) (fun h5 hF=>?_)
 ·refine aC ?_
  obtain⟨v8,h9,hF⟩:=aM hF
  obtain⟨v10,h11,hF⟩:=aM hF
  obtain⟨v12,h13,hF⟩:=aM hF
  obtain⟨v14,h15,hF⟩:=aM hF
  refine dr [0,1,3,7,0,16,48,127,255,511] 10 0 ?_ (fun bs7 G6=>?_)
  refine aT (aJ ?_)
  exact bI
 exact bI
def tZ (K:Nat) (x24:List Int) (x30:Int):Option ((List Int)×Int):=
 some (x24,x30)
def kX (K:Nat) (a0:List Int) (a1:Int):Nat→(List Int)→Int→Int→Option ((List Int)×Int)
 |0,_,_,_=>none
 |k+1,x16,x22,x23=>bif(decide (0≤x23)) then((aS (x22*1000000000)).bind fun v34=>(bF a0 x23).bind fun v36=>(aS (v34+v36)).bind fun v38=>(chq v38 a1).bind fun v42=>(chr v38 a1).bind fun v44=>(bF x16 x23).bind fun v46=>(qL x16 x23 v42).bind fun x48=>(aS (x23-1)).bind fun v52=>kX K a0 a1 k x48 v44 v52) else(some (x16,x22))
def sO (K:Nat) (a0:List Int) (a1:Int):Option ((List Int)×Int):=
 (mkL (a0.length:Int) 0).bind fun x1=>(aS ((a0.length:Int)-1)).bind fun v6=>(kX K a0 a1 K x1 0 v6).bind fun(x24,x30)=>tZ K x24 x30
theorem aBt {K:Nat} {a0:List Int} {a1:Int} {r:(List Int)×Int} (hF:sO K a0 a1=some r):Ct Tryz.prog 171 [.vc (pS cI a0),.vc (pI .i64 a1)] (.t2 (.vc (pS cI r.1)) (.vc (pI .i64 r.2))):=by
 unfold sO at hF
 refine aA Tryz.func171 rfl (by kernel_rfl) Tryz.ntmps171 rfl (fun w0 M0=>?_)
 refine aC (aH (aI (aL (.inr rfl)) ⟨cD cI,trivial⟩ ?_))
 obtain⟨x1,h2,hF⟩:=aM hF
 refine go ?_ ?_
 refine nN (C:=cI) rfl tyS22 rfl tyZ3 rfl h2 (fun b3=>?_)
 obtain⟨v6,h7,hF⟩:=aM hF
 refine go ?_ ?_
 refine aG (aP (fun H E=>∃(x24:List Int),∃(x30:Int),tZ K x24 x30=some r∧x24.length=x1.length∧H=[hO cI b3 x1.length 3 x1.length x24]∧E=[(6,.vc (pO b3 x1.length x1.length)),(7,.vc (pI .i64 x30))]) ?_ (fun Jj32=>?_))
 ·rintro _ _ ⟨x24,x30,hF,q28,rfl,rfl⟩
  unfold tZ at hF
  refine go ?_ ?_
  refine dQ (dL (lF 0 [4,6,36] rfl q28 ⟨rfl,rfl,rfl,trivial⟩ rfl ?_))
  obtain rfl:=eP hF
  exact eE (.inl rfl) Tryz.results171 (.tmp rfl (.tmp rfl .nil)) rfl rfl
 obtain⟨⟨x24',x30'⟩,hL,hRl31⟩:=aM hF
 refine cA (fun k a w=>∃(x16:List Int),∃(x22:Int),∃(x23:Int),kX K a0 a1 k x16 x22 x23=some (x24',x30')∧x16.length=x1.length∧hs _ [hO cI b3 x1.length 3 x1.length x16] [(0,.vc (pS cI a0)),(1,.vc (pI .i64 a1)),(6,.vc (pO b3 x1.length x1.length)),(7,.vc (pI .i64 x22)),(8,.vc (pI .i64 x23))] a w) K (fun a w ⟨_,_,_,hF,_,_⟩=>by cases hF) (fun k a w ⟨x16,x22,x23,hF,q20,hh⟩=>b0 ?_ hh) (fun a w hh=>⟨x1,0,v6,hL,rfl,dI [0] hh⟩)
 rw [kX.eq_2] at hF
 refine go ?_ ?_
 refine aB hF rfl (fun h33 hF=>?_) (fun h33 hF=>?_)
 ·refine go ?_ ?_
  refine aG ?_
  obtain⟨v34,h35,v36,h37,v38,h39,v42,h43,hF⟩:=bn4 hF
  obtain⟨v44,h45,v46,h47,x48,h49,hF⟩:=bn3 hF
  refine go ?_ ?_
  refine r6 (HsM [(0,fun G40=>[hO cI b3 x1.length 3 x1.length x16]),(1,fun G40=>[hO cI b3 x1.length 3 x1.length x48])]) [9] [0,0,0,0,12,0,0,96,31,287,1023] 11 0 [.v (.vc (pO b3 x1.length x1.length)),.v (.vc (pI .i64 x23)),.v (.vc (pI .i64 v38)),.v (.vc (pI .i64 a1)),.v (.vc (pI .i64 v42)),.v (.vc (pI .i64 v38)),.v (.vc (pI .i64 a1)),.v (.vc (pI .i64 v44)),.v (.vc (pE b3 x23 cI.n 0)),.g (fun _ _=>.any),.v (.vc (pI .i64 v44))] aU ⟨d1 0 (aL (.inl rfl)) zU1,d1 0 (aL (.inl rfl)) zU1,d1 0 (aL (.inl rfl)) zU1,d1 0 (aL (.inl rfl)) zU1,d1 0 (aKT rfl h43) zU2,⟨rfl,.run (L:=[0,1]) ⟨fun G40 A=>aL (.inl rfl),fun G40 A=>aL (.inl rfl),trivial⟩ (fun G40=>zU1)⟩,⟨rfl,.run (L:=[0,1]) ⟨fun G40 A=>aL (.inl rfl),fun G40 A=>aL (.inl rfl),trivial⟩ (fun G40=>zU1)⟩,⟨rfl,.run (L:=[0,1]) ⟨fun G40 A=>aHq rfl h45,fun G40 A=>aHq rfl h45,trivial⟩ (fun G40=>zU2)⟩,d1 0 (cY (C:=cI) 0 rfl tyS22 rfl q20 (aD h47).1 (aD h47).2.1) zU2,⟨rfl,.hvy [0] ⟨fun G40 A=>aB8 (yM 0 rfl rfl h47 h49 tyO3.s),trivial⟩ (fun G40=>zU2)⟩,d1 1 (aL (.inr rfl)) zU1,trivial⟩ (fun bs41 G40=>?_)
  obtain⟨v52,h53,hF⟩:=aM hF
  refine go ?_ ?_
  exact aF (fun a w hh=>⟨x48,v44,v52,hF,(bC h49 q20),dI [0] hh⟩)
 refine aV ?_
 obtain⟨rfl,rfl⟩:=sm2 hF
 exact nK Jj32 ⟨x16,x22,hRl31,q20,rfl,rfl⟩ [0]
def tG (K:Nat) (a0:List Int) (x26:List Int) (x32:Int):Option (List Int):=
 (bF x26 (a0.length:Int)).bind fun v35=>(qL x26 (a0.length:Int) x32).bind fun x37=>some x37
def kI (K:Nat) (a0:List Int) (a1:Int):Nat→(List Int)→Int→Int→Option ((List Int)×Int)
 |0,_,_,_=>none
 |k+1,x18,x24,x25=>bif(decide (x25<(a0.length:Int))) then((bF a0 x25).bind fun v41=>(aS (v41*a1)).bind fun v43=>(aS (v43+x24)).bind fun v45=>(chr v45 1000000000).bind fun v47=>(chq v45 1000000000).bind fun v49=>(bF x18 x25).bind fun v51=>(qL x18 x25 v47).bind fun x53=>(aS (x25+1)).bind fun v56=>kI K a0 a1 k x53 v49 v56) else(some (x18,x24))
def oL (K:Nat) (a0:List Int) (a1:Int):Option (List Int):=
 (aS ((a0.length:Int)+1)).bind fun v3=>(mkL v3 0).bind fun x5=>(kI K a0 a1 K x5 0 0).bind fun(x26,x32)=>tG K a0 x26 x32
theorem aAO {K:Nat} {a0:List Int} {a1:Int} {r:List Int} (hF:oL K a0 a1=some r):CtO Tryz.prog 175 [] [.vc (pS cI a0),.vc (pI .i64 a1)] (fun Ho q=>∃b60 c61 n59,r.length=n59∧Ho=[hO cI b60 c61 3 n59 r]∧q=.vc (pO b60 n59 c61)):=by
 unfold oL at hF
 refine aA Tryz.func175 rfl (by kernel_rfl) Tryz.ntmps175 rfl (fun w0 M0=>?_)
 refine aC (aH (jP cI 3 rfl ?_))
 obtain⟨v3,h4,x5,h6,hF⟩:=tW hF
 refine go ?_ ?_
 refine nN (C:=cI) rfl tyS22 rfl tyZ3 rfl h6 (fun b7=>?_)
 refine go ?_ ?_
 refine aG (aP (fun H E=>∃(x26:List Int),∃(x32:Int),tG K a0 x26 x32=some r∧x26.length=x5.length∧H=[hO cI b7 x5.length 3 x5.length x26]∧E=[(0,.vc (pS cI a0)),(5,.vc (pO b7 x5.length x5.length)),(6,.vc (pI .i64 x32))]) ?_ (fun Jj34=>?_))
 ·rintro _ _ ⟨x26,x32,hF,q30,rfl,rfl⟩
  unfold tG at hF
  obtain⟨v35,h36,x37,h38,hF⟩:=tW hF
  refine go ?_ ?_
  refine dQ (dL ?_)
  obtain rfl:=eP hF
  exact aCq (.inl rfl) Tryz.results175 (.tmp rfl .nil) rfl [0] rfl (by decide) ⟨b7,x5.length,x5.length,(bC h38 q30),rfl,rfl⟩
 obtain⟨⟨x26',x32'⟩,hL,hRl33⟩:=aM hF
 refine cA (fun k a w=>∃(x18:List Int),∃(x24:Int),∃(x25:Int),kI K a0 a1 k x18 x24 x25=some (x26',x32')∧x18.length=x5.length∧hs _ [hO cI b7 x5.length 3 x5.length x18] [(0,.vc (pS cI a0)),(1,.vc (pI .i64 a1)),(5,.vc (pO b7 x5.length x5.length)),(6,.vc (pI .i64 x24)),(14,.vc (pS cI a0)),(15,.vc (pI .i64 (a0.length:Int))),(16,.vc (pI .i64 x25))] a w) K (fun a w ⟨_,_,_,hF,_,_⟩=>by cases hF) (fun k a w ⟨x18,x24,x25,hF,q22,hh⟩=>b0 ?_ hh) (fun a w hh=>⟨x5,0,0,hL,rfl,dI [0] hh⟩)
 rw [kI.eq_2] at hF
 refine go ?_ ?_
 refine aB hF rfl (fun h40 hF=>?_) (fun h40 hF=>?_)
 ·refine go ?_ ?_
  refine aG ?_
  obtain⟨v41,h42,v43,h44,v45,h46,v47,h48,hF⟩:=bn4 hF
  obtain⟨v49,h50,v51,h52,x53,h54,v56,h57,hF⟩:=bn4 hF
  refine go ?_ ?_
  exact aF (fun a w hh=>⟨x53,v49,v56,hF,(bC h54 q22),dI [0] hh⟩)
 refine aV ?_
 obtain⟨rfl,rfl⟩:=sm2 hF
 exact nK Jj34 ⟨x18,x24,hRl33,q22,rfl,rfl⟩ [0]
theorem aEf {K:Nat} {a0:List Int} {a1:Int} {r:List Int} (hF:oL K a0 a1=some r):Ct Tryz.prog 175 [.vc (pS cI a0),.vc (pI .i64 a1)] (.vc (pS cI r)):=aKK (aAO hF)
def uP (K:Nat) (a1:List Int) (v7:Int) (x60:List Int) (x66:List Int):Option ((List Int)×(List Int)):=
 (slL x66 0 (a1.length:Int)).bind fun x74=>(sO K x74 v7).bind fun v76=>some (x60,v76.1)
def t7 (K:Nat) (a1:List Int) (x47:List Int) (x59:Int) (v157:Int) (recl72:(List Int)→(List Int)→Int→Option ((List Int)×(List Int))) (x175:List Int) (x181:Int):Option ((List Int)×(List Int)):=
 (aS (x59+(a1.length:Int))).bind fun v184=>(bF x175 v184).bind fun v186=>(aS (v186+x181)).bind fun v188=>(bF x175 v184).bind fun v190=>(qL x175 v184 v188).bind fun x192=>(bF x47 x59).bind fun v195=>(qL x47 x59 v157).bind fun x197=>(aS (x59-1)).bind fun v200=>recl72 x197 x192 v200
def jL (K:Nat) (a1:List Int) (x17:List Int) (x59:Int):Nat→(List Int)→Int→Int→Option ((List Int)×Int)
 |0,_,_,_=>none
 |k+1,x167,x173,x174=>bif(decide (x174<(a1.length:Int))) then((aS (x174+x59)).bind fun v205=>(bF x167 v205).bind fun v207=>(bF x17 x174).bind fun v209=>(aS (v207+v209)).bind fun v211=>(aS (v211+x173)).bind fun v213=>(aS (x174+x59)).bind fun v215=>(chr v213 1000000000).bind fun v217=>(chq v213 1000000000).bind fun v219=>(bF x167 v215).bind fun v221=>(qL x167 v215 v217).bind fun x223=>(aS (x174+1)).bind fun v226=>jL K a1 x17 x59 k x223 v219 v226) else(some (x167,x173))
def qR (K:Nat) (a1:List Int) (x17:List Int) (x47:List Int) (x59:Int) (x113:Int) (recl72:(List Int)→(List Int)→Int→Option ((List Int)×(List Int))) (x132:List Int) (x138:Int):Option ((List Int)×(List Int)):=
 (aS (x59+(a1.length:Int))).bind fun v141=>(bF x132 v141).bind fun v143=>(aS (v143-x138)).bind fun v145=>(bF x132 v141).bind fun v147=>(qL x132 v141 v145).bind fun x149=>(aS (x59+(a1.length:Int))).bind fun v152=>(bF x149 v152).bind fun v154=>bif(decide (v154<0)) then((aS (x113-1)).bind fun v157=>(jL K a1 x17 x59 K x149 0 0).bind fun(x175,x181)=>t7 K a1 x47 x59 v157 recl72 x175 x181) else((bF x47 x59).bind fun v228=>(qL x47 x59 x113).bind fun x230=>(aS (x59-1)).bind fun v233=>recl72 x230 x149 v233)
def fS (K:Nat) (a1:List Int) (x17:List Int) (x59:Int) (x113:Int):Nat→(List Int)→Int→Int→Option ((List Int)×Int)
 |0,_,_,_=>none
 |k+1,x124,x130,x131=>bif(decide (x131<(a1.length:Int))) then((aS (x131+x59)).bind fun v238=>(bF x124 v238).bind fun v240=>(bF x17 x131).bind fun v242=>(aS (x113*v242)).bind fun v244=>(aS (v240-v244)).bind fun v246=>(aS (v246-x130)).bind fun v248=>bif(decide (v248<0)) then((aS (-v248)).bind fun v251=>(aS (v251+1000000000)).bind fun v253=>(aS (v253-1)).bind fun v255=>(chq v255 1000000000).bind fun v257=>(aS (v257*1000000000)).bind fun v259=>(aS (v248+v259)).bind fun v261=>(aS (x131+x59)).bind fun v263=>(bF x124 v263).bind fun v265=>(qL x124 v263 v261).bind fun x267=>(aS (x131+1)).bind fun v270=>fS K a1 x17 x59 x113 k x267 v257 v270) else((aS (x131+x59)).bind fun v272=>(bF x124 v272).bind fun v274=>(qL x124 v272 v248).bind fun x276=>(aS (x131+1)).bind fun v279=>fS K a1 x17 x59 x113 k x276 0 v279)) else(some (x124,x130))
def qU (K:Nat) (a1:List Int) (x17:List Int) (x47:List Int) (x53:List Int) (x59:Int) (recl72:(List Int)→(List Int)→Int→Option ((List Int)×(List Int))) (x113:Int):Option ((List Int)×(List Int)):=
 (fS K a1 x17 x59 x113 K x53 0 0).bind fun(x132,x138)=>qR K a1 x17 x47 x59 x113 recl72 x132 x138
def eG (K:Nat) (a1:List Int) (x17:List Int) (x53:List Int) (x59:Int):Nat→Int→Int→Option Int
 |0,_,_=>none
 |k+1,x111,x112=>bif(decide (1000000000≤x111)) then((aS (x111-1)).bind fun v284=>(aS ((a1.length:Int)-1)).bind fun v286=>(bF x17 v286).bind fun v288=>(aS (x112+v288)).bind fun v290=>bif(decide (1000000000≤v290)) then(some v284) else(eG K a1 x17 x53 x59 k v284 v290)) else((aS ((a1.length:Int)-2)).bind fun v293=>(bF x17 v293).bind fun v295=>(aS (x111*v295)).bind fun v297=>(aS (x112*1000000000)).bind fun v299=>(aS (x59+(a1.length:Int))).bind fun v301=>(aS (v301-2)).bind fun v303=>(bF x53 v303).bind fun v305=>(aS (v299+v305)).bind fun v307=>bif(decide (v307<v297)) then((aS (x111-1)).bind fun v310=>(aS ((a1.length:Int)-1)).bind fun v312=>(bF x17 v312).bind fun v314=>(aS (x112+v314)).bind fun v316=>bif(decide (1000000000≤v316)) then(some v310) else(eG K a1 x17 x53 x59 k v310 v316)) else(some x111))
def fB (K:Nat) (a1:List Int) (x17:List Int):Nat→(List Int)→(List Int)→Int→Option ((List Int)×(List Int))
 |0,_,_,_=>none
 |k+1,x47,x53,x59=>bif(decide (0≤x59)) then((aS (x59+(a1.length:Int))).bind fun v81=>(bF x53 v81).bind fun v83=>(aS (v83*1000000000)).bind fun v85=>(aS (x59+(a1.length:Int))).bind fun v87=>(aS (v87-1)).bind fun v89=>(bF x53 v89).bind fun v91=>(aS (v85+v91)).bind fun v93=>(aS ((a1.length:Int)-1)).bind fun v97=>(bF x17 v97).bind fun v99=>(chq v93 v99).bind fun v101=>(aS ((a1.length:Int)-1)).bind fun v103=>(bF x17 v103).bind fun v105=>(chr v93 v105).bind fun v107=>(eG K a1 x17 x53 x59 K v101 v107).bind fun x113=>qU K a1 x17 x47 x53 x59 (fB K a1 x17 k) x113) else(some (x47,x53))
def wM (K:Nat) (a0:List Int) (a1:List Int):Option ((List Int)×(List Int)):=
 (aS ((a1.length:Int)-1)).bind fun v1=>(bF a1 v1).bind fun v3=>(aS (v3+1)).bind fun v5=>(chq 1000000000 v5).bind fun v7=>(oL K a0 v7).bind fun v11=>(oL K a1 v7).bind fun v15=>(slL v15 0 (a1.length:Int)).bind fun x17=>(aS ((a0.length:Int)-(a1.length:Int))).bind fun v23=>(aS (v23+1)).bind fun v25=>(mkL v25 0).bind fun x27=>(aS ((a0.length:Int)-(a1.length:Int))).bind fun v32=>(fB K a1 x17 K x27 v11 v32).bind fun(x60,x66)=>uP K a1 v7 x60 x66
theorem aFo {K:Nat} {a0:List Int} {a1:List Int} {r:(List Int)×(List Int)} (hF:wM K a0 a1=some r):Ct Tryz.prog 172 [.vc (pS cI a0),.vc (pS cI a1)] (.t2 (.vc (pS cI r.1)) (.vc (pS cI r.2))):=by
 unfold wM at hF
 refine aA Tryz.func172 rfl (by kernel_rfl) Tryz.ntmps172 rfl (fun w0 M0=>?_)
 refine aC (aH (aI (aL (.inr rfl)) ⟨cD cI,trivial⟩ ?_))
 refine aI (aL (.inr rfl)) ⟨cD cI,trivial⟩ ?_
 obtain⟨v1,h2,v3,h4,v5,h6,v7,h8,hF⟩:=bn4 hF
 obtain⟨v11,h12,hF⟩:=aM hF
 obtain⟨v15,h16,hF⟩:=aW hF aEf
 obtain⟨x17,h18,hF⟩:=aM hF
 refine go ?_ ?_
 refine r6 (HsM [(0,fun G9=>[]),(1,fun G9=>[hO cI ((G9 2).1) ((G9 2).2) 3 v11.length v11]),(3,fun G9=>[hO cI ((G9 9).1) ((G9 9).2) 3 v11.length v11])]) [2,9] [0,0,3,0,0,31,0,64,255,63,1023] 11 0 [.v (.vc (pS cI a0)),.v (.vc (pI .i64 v7)),.g (fun b c=>.vc (pO b v11.length c)),.v (.vc (pS cI a1)),.v (.vc (pI .i64 v7)),.v (.vc (pS cI v15)),.v (.vc (pS cI a1)),.v (.vc (pI .i64 (a1.length:Int))),.v (.vc (pS cI x17)),.g (fun b c=>.vc (pO b v11.length c)),.v (.vc (pS cI x17))] aU ⟨d1 0 (aL (.inl rfl)) zU1,d1 0 (aL (.inl rfl)) zU1,⟨rfl,.hvy [0] ⟨fun G9 A=>aIu rfl (aAO h12) rfl,trivial⟩ (fun G9=>zU2)⟩,⟨rfl,.run (L:=[0,1]) ⟨fun G9 A=>aL (.inl rfl),fun G9 A=>aL (.inl rfl),trivial⟩ (fun G9=>zU1)⟩,⟨rfl,.run (L:=[0,1]) ⟨fun G9 A=>aL (.inl rfl),fun G9 A=>aL (.inl rfl),trivial⟩ (fun G9=>zU1)⟩,d1 1 (bE rfl h16 rfl) zU2,⟨rfl,.run (L:=[0,1,3]) ⟨fun G9 A=>aL (.inl rfl),fun G9 A=>aL (.inl rfl),fun G9 A=>aL (.inl rfl),trivial⟩ (fun G9=>zU1)⟩,⟨rfl,.run (L:=[0,1,3]) ⟨fun G9 A=>aJs rfl tyS22,fun G9 A=>aJs rfl tyS22,fun G9 A=>aJs rfl tyS22,trivial⟩ (fun G9=>zU1)⟩,⟨rfl,.run (L:=[1,3]) ⟨fun G9 A=>aDK rfl tyS22 h18,fun G9 A=>aDK rfl tyS22 h18,trivial⟩ (fun G9=>zU2)⟩,⟨rfl,.hvy [1] ⟨fun G9 A=>aIU ((G9 2).1) ((G9 2).2) (aL (.inr rfl)),trivial⟩ (fun G9=>zU1)⟩,d1 3 (aL (.inr rfl)) zU1,trivial⟩ (fun bs10 G9=>?_)
 obtain⟨v23,h24,v25,h26,x27,h28,hF⟩:=bn3 hF
 refine go ?_ ?_
 refine nN (C:=cI) rfl tyS22 rfl tyZ3 rfl h28 (fun b29=>?_)
 have hF:=tJ h24 hF
 refine go ?_ ?_
 refine aG (aP (fun H E=>∃(x60:List Int),∃(x66:List Int),uP K a1 v7 x60 x66=some r∧x60.length=x27.length∧x66.length=v11.length∧H=[hO cI b29 x27.length 3 x27.length x60,hO cI ((G9 9).1) ((G9 9).2) 3 v11.length x66]∧E=[(6,.vc (pI .i64 v7)),(7,.vc (pO ((G9 9).1) v11.length ((G9 9).2))),(9,.vc (pI .i64 (a1.length:Int))),(10,.vc (pO b29 x27.length x27.length))]) ?_ (fun Jj73=>?_))
 ·rintro _ _ ⟨x60,x66,hF,q64,q70,rfl,rfl⟩
  unfold uP at hF
  refine aJ (aC (aH (dS ?_)))
  refine dS ?_
  refine tV 1 [7,213] rfl q70 zU2 rfl ?_
  obtain⟨x74,h75,hF⟩:=aM hF
  obtain⟨v76,h77,hF⟩:=aW hF aBt
  refine go ?_ ?_
  refine dQ (dL (lF 0 [4,10,220] rfl q64 ⟨rfl,rfl,rfl,trivial⟩ rfl ?_))
  obtain rfl:=eP hF
  exact eE (.inl rfl) Tryz.results172 (.tmp rfl (.tmp rfl .nil)) rfl rfl
 obtain⟨⟨x60',x66'⟩,hL,hRl72⟩:=aM hF
 refine cA (fun k a w=>∃(x47:List Int),∃(x53:List Int),∃(x59:Int),fB K a1 x17 k x47 x53 x59=some (x60',x66')∧x47.length=x27.length∧x53.length=v11.length∧hs _ [hO cI b29 x27.length 3 x27.length x47,hO cI ((G9 9).1) ((G9 9).2) 3 v11.length x53] [(6,.vc (pI .i64 v7)),(7,.vc (pO ((G9 9).1) v11.length ((G9 9).2))),(8,.vc (pS cI x17)),(9,.vc (pI .i64 (a1.length:Int))),(10,.vc (pO b29 x27.length x27.length)),(11,.vc (pI .i64 x59))] a w) K (fun a w ⟨_,_,_,hF,_,_,_⟩=>by cases hF) (fun k a w ⟨x47,x53,x59,hF,q51,q57,hh⟩=>b0 ?_ hh) (fun a w hh=>⟨x27,v11,v23,hL,rfl,rfl,dI [0,1] hh⟩)
 rw [fB.eq_2] at hF
 refine go ?_ ?_
 refine aB hF rfl (fun h78 hF=>?_) (fun h78 hF=>?_)
 ·refine go ?_ ?_
  refine aG (aKL (aC ?_))
  obtain⟨v81,h82,hF⟩:=aM hF
  obtain⟨v83,h84,hF⟩:=aM hF
  obtain⟨v85,h86,hF⟩:=aM hF
  have hF:=tJ h82 hF
  obtain⟨v89,h90,hF⟩:=aM hF
  obtain⟨v91,h92,hF⟩:=aM hF
  obtain⟨v93,h94,hF⟩:=aM hF
  refine dr [0,0,0,6,15,31,63,0,0,0,768,1792,3968,8064,16383,32767] 16 0 ?_ (fun bs80 G79=>?_)
  have hF:=tJ h2 hF
  obtain⟨v99,h100,v101,h102,hF⟩:=tW hF
  have hF:=tJ h2 hF
  have hF:=tJ h100 hF
  obtain⟨v107,h108,hF⟩:=aM hF
  refine go ?_ ?_
  refine dr [0,0,0,4,14,30,63,0,0,0,512,1792,3840,8064,127,32767] 16 0 ?_ (fun bs96 G95=>?_)
  refine go ?_ ?_
  refine aG (aP (fun H E=>∃(x113:Int),qU K a1 x17 x47 x53 x59 (fB K a1 x17 k) x113=some (x60',x66')∧H=[hO cI b29 x27.length 3 x27.length x47,hO cI ((G9 9).1) ((G9 9).2) 3 v11.length x53]∧E=[(6,.vc (pI .i64 v7)),(7,.vc (pO ((G9 9).1) v11.length ((G9 9).2))),(8,.vc (pS cI x17)),(9,.vc (pI .i64 (a1.length:Int))),(10,.vc (pO b29 x27.length x27.length)),(11,.vc (pI .i64 x59)),(13,.vc (pI .i64 x113))]) ?_ (fun Jj115=>?_))
  ·rintro _ _ ⟨x113,hF,rfl,rfl⟩
   unfold qU at hF
   refine go ?_ ?_
   refine aG (aP (fun H E=>∃(x132:List Int),∃(x138:Int),qR K a1 x17 x47 x59 x113 (fB K a1 x17 k) x132 x138=some (x60',x66')∧x132.length=v11.length∧H=[hO cI b29 x27.length 3 x27.length x47,hO cI ((G9 9).1) ((G9 9).2) 3 v11.length x132]∧E=[(6,.vc (pI .i64 v7)),(7,.vc (pO ((G9 9).1) v11.length ((G9 9).2))),(8,.vc (pS cI x17)),(9,.vc (pI .i64 (a1.length:Int))),(10,.vc (pO b29 x27.length x27.length)),(11,.vc (pI .i64 x59)),(13,.vc (pI .i64 x113)),(15,.vc (pI .i64 x138))]) ?_ (fun Jj140=>?_))
   ·rintro _ _ ⟨x132,x138,hF,q136,rfl,rfl⟩
    unfold qR at hF
    have hF:=tJ h82 hF
    obtain⟨v143,h144,v145,h146,hF⟩:=tW hF
    have hF:=tJ h144 hF
    obtain⟨x149,h150,hF⟩:=aM hF
    have hF:=tJ h82 hF
    obtain⟨v154,h155,hF⟩:=aM hF
    refine go ?_ ?_
    refine aB hF rfl (fun h156 hF=>?_) (fun h156 hF=>?_)
    ·obtain⟨v157,h158,hF⟩:=aM hF
     refine go ?_ ?_
     refine aG (aP (fun H E=>∃(x175:List Int),∃(x181:Int),t7 K a1 x47 x59 v157 (fB K a1 x17 k) x175 x181=some (x60',x66')∧x175.length=v11.length∧H=[hO cI b29 x27.length 3 x27.length x47,hO cI ((G9 9).1) ((G9 9).2) 3 v11.length x175]∧E=[(6,.vc (pI .i64 v7)),(7,.vc (pO ((G9 9).1) v11.length ((G9 9).2))),(8,.vc (pS cI x17)),(9,.vc (pI .i64 (a1.length:Int))),(10,.vc (pO b29 x27.length x27.length)),(11,.vc (pI .i64 x59)),(13,.vc (pI .i64 v157)),(15,.vc (pI .i64 x181))]) ?_ (fun Jj183=>?_))
     ·rintro _ _ ⟨x175,x181,hF,q179,rfl,rfl⟩
      unfold t7 at hF
      have hF:=tJ h82 hF
      obtain⟨v186,h187,v188,h189,hF⟩:=tW hF
      have hF:=tJ h187 hF
      obtain⟨x192,h193,v195,h196,x197,h198,v200,h201,hF⟩:=bn4 hF
      refine go ?_ ?_
      exact aF (fun a w hh=>⟨x197,x192,v200,hF,(bC h198 q51),(bC h193 q179),dI [0,1] hh⟩)
     obtain⟨⟨x175',x181'⟩,hL,hRl182⟩:=aM hF
     refine cA (fun k a w=>∃(x167:List Int),∃(x173:Int),∃(x174:Int),jL K a1 x17 x59 k x167 x173 x174=some (x175',x181')∧x167.length=v11.length∧hs _ [hO cI b29 x27.length 3 x27.length x47,hO cI ((G9 9).1) ((G9 9).2) 3 v11.length x167] [(6,.vc (pI .i64 v7)),(7,.vc (pO ((G9 9).1) v11.length ((G9 9).2))),(8,.vc (pS cI x17)),(9,.vc (pI .i64 (a1.length:Int))),(10,.vc (pO b29 x27.length x27.length)),(11,.vc (pI .i64 x59)),(13,.vc (pI .i64 v157)),(15,.vc (pI .i64 x173)),(172,.vc (pI .i64 (a1.length:Int))),(173,.vc (pI .i64 x174))] a w) K (fun a w ⟨_,_,_,hF,_,_⟩=>by cases hF) (fun k a w ⟨x167,x173,x174,hF,q171,hh⟩=>b0 ?_ hh) (fun a w hh=>⟨x149,0,0,hL,(bC h150 q136),dI [0,1] hh⟩)
     rw [jL.eq_2] at hF
     refine go ?_ ?_
     refine aB hF rfl (fun h202 hF=>?_) (fun h202 hF=>?_)
     ·refine go ?_ ?_
      refine aG ?_
      obtain⟨v205,h206,v207,h208,v209,h210,v211,h212,hF⟩:=bn4 hF
      obtain⟨v213,h214,hF⟩:=aM hF
      refine go ?_ ?_
      refine dr [0,0,0,6,15,31,0,0,192,448,1023,0,4095,8191] 14 0 ?_ (fun bs204 G203=>?_)
      have hF:=tJ h206 hF
      obtain⟨v217,h218,v219,h220,hF⟩:=tW hF
      have hF:=tJ h208 hF
      obtain⟨x223,h224,v226,h227,hF⟩:=tW hF
      refine go ?_ ?_
      exact aF (fun a w hh=>⟨x223,v219,v226,hF,(bC h224 q171),dI [0,1] hh⟩)
     refine aV ?_
     obtain⟨rfl,rfl⟩:=sm2 hF
     exact nK Jj183 ⟨x167,x173,hRl182,q171,rfl,rfl⟩ [0,1]
    obtain⟨v228,h229,x230,h231,v233,h234,hF⟩:=bn3 hF
    refine go ?_ ?_
    exact aF (fun a w hh=>⟨x230,x149,v233,hF,(bC h231 q51),(bC h150 q136),dI [0,1] hh⟩)
   obtain⟨⟨x132',x138'⟩,hL,hRl139⟩:=aM hF
   refine cA (fun k a w=>∃(x124:List Int),∃(x130:Int),∃(x131:Int),fS K a1 x17 x59 x113 k x124 x130 x131=some (x132',x138')∧x124.length=v11.length∧hs _ [hO cI b29 x27.length 3 x27.length x47,hO cI ((G9 9).1) ((G9 9).2) 3 v11.length x124] [(6,.vc (pI .i64 v7)),(7,.vc (pO ((G9 9).1) v11.length ((G9 9).2))),(8,.vc (pS cI x17)),(9,.vc (pI .i64 (a1.length:Int))),(10,.vc (pO b29 x27.length x27.length)),(11,.vc (pI .i64 x59)),(13,.vc (pI .i64 x113)),(15,.vc (pI .i64 x130)),(117,.vc (pI .i64 (a1.length:Int))),(118,.vc (pI .i64 x131))] a w) K (fun a w ⟨_,_,_,hF,_,_⟩=>by cases hF) (fun k a w ⟨x124,x130,x131,hF,q128,hh⟩=>b0 ?_ hh) (fun a w hh=>⟨x53,0,0,hL,q57,dI [0,1] hh⟩)
   rw [fS.eq_2] at hF
   refine go ?_ ?_
   refine aB hF rfl (fun h235 hF=>?_) (fun h235 hF=>?_)
   ·refine go ?_ ?_
    refine aG ?_
    obtain⟨v238,h239,v240,h241,v242,h243,v244,h245,hF⟩:=bn4 hF
    obtain⟨v246,h247,v248,h249,hF⟩:=tW hF
    refine go ?_ ?_
    refine dr [0,0,0,6,15,31,0,0,0,384,896,1984,4095,0,16383,32767] 16 0 ?_ (fun bs237 G236=>?_)
    refine go ?_ ?_
    refine aB hF rfl (fun h250 hF=>?_) (fun h250 hF=>?_)
    ·obtain⟨v251,h252,v253,h254,v255,h256,v257,h258,hF⟩:=bn4 hF
     obtain⟨v259,h260,v261,h262,hF⟩:=tW hF
     have hF:=tJ h239 hF
     have hF:=tJ h241 hF
     obtain⟨x267,h268,v270,h271,hF⟩:=tW hF
     refine go ?_ ?_
     exact aF (fun a w hh=>⟨x267,v257,v270,hF,(bC h268 q128),dI [0,1] hh⟩)
    have hF:=tJ h239 hF
    have hF:=tJ h241 hF
    obtain⟨x276,h277,v279,h280,hF⟩:=tW hF
    refine go ?_ ?_
    exact aF (fun a w hh=>⟨x276,0,v279,hF,(bC h277 q128),dI [0,1] hh⟩)
   refine aV ?_
   obtain⟨rfl,rfl⟩:=sm2 hF
   exact nK Jj140 ⟨x124,x130,hRl139,q128,rfl,rfl⟩ [0,1]
  obtain⟨x113',hL,hRl114⟩:=aM hF
  refine cA (fun k a w=>∃(x111:Int),∃(x112:Int),eG K a1 x17 x53 x59 k x111 x112=some x113'∧hs _ [hO cI b29 x27.length 3 x27.length x47,hO cI ((G9 9).1) ((G9 9).2) 3 v11.length x53] [(6,.vc (pI .i64 v7)),(7,.vc (pO ((G9 9).1) v11.length ((G9 9).2))),(8,.vc (pS cI x17)),(9,.vc (pI .i64 (a1.length:Int))),(10,.vc (pO b29 x27.length x27.length)),(11,.vc (pI .i64 x59)),(13,.vc (pI .i64 x111)),(14,.vc (pI .i64 x112))] a w) K (fun a w ⟨_,_,hF,_⟩=>by cases hF) (fun k a w ⟨x111,x112,hF,hh⟩=>b0 ?_ hh) (fun a w hh=>⟨v101,v107,hL,dI [0,1] hh⟩)
  rw [eG.eq_2] at hF
  refine aC (aC ?_)
  rcases Bool.eq_false_or_eq_true (decide (1000000000≤x111)) with h283|h283
  ·have hF:=vK h283 hF
   refine drb [0,1,3,7,7,7,39,119,247,511,7,1031,7,7,7,24583,57351,126983,258055,523271,1048575,2097151] 22 0 ?_ (fun bs282 G281=>?_)
   refine aT (aJ (fV rfl ?_))
   refine eU (aJ (aG ?_))
   obtain⟨v284,h285,hF⟩:=aM hF
   have hF:=tJ h2 hF
   have hF:=tJ h100 hF
   obtain⟨v290,h291,hF⟩:=aM hF
   refine go ?_ ?_
   refine aB hF rfl (fun h292 hF=>?_) (fun h292 hF=>?_)
   ·refine aV ?_
    obtain rfl:=eP hF
    exact nK Jj115 ⟨v284,hRl114,rfl,rfl⟩ [0,1]
   refine eU (aCz ?_)
   exact aF (fun a w hh=>⟨v284,v290,hF,dI [0,1] hh⟩)
  have hF:=tU h283 hF
  obtain⟨v293,h294,hF⟩:=aM hF
  obtain⟨v295,h296,hF⟩:=aM hF
  obtain⟨v297,h298,hF⟩:=aM hF
  obtain⟨v299,h300,hF⟩:=aM hF
  have hF:=tJ h82 hF
  obtain⟨v303,h304,hF⟩:=aM hF
  obtain⟨v305,h306,hF⟩:=aM hF
  obtain⟨v307,h308,hF⟩:=aM hF
  refine drb [0,1,3,7,7,7,39,119,247,511,7,1031,7,7,7,24583,57351,126983,258055,523271,1048575,2097151] 22 0 ?_ (fun bs282 G281=>?_)
  refine aT (aJ (aB hF rfl (fun h309 hF=>?_) (fun h309 hF=>?_)))
  ·refine eU (aJ (aG ?_))
   obtain⟨v310,h311,hF⟩:=aM hF
   have hF:=tJ h2 hF
   have hF:=tJ h100 hF
   obtain⟨v316,h317,hF⟩:=aM hF
   refine go ?_ ?_
   refine aB hF rfl (fun h318 hF=>?_) (fun h318 hF=>?_)
   ·refine aV ?_
    obtain rfl:=eP hF
    exact nK Jj115 ⟨v310,hRl114,rfl,rfl⟩ [0,1]
   refine eU (aCz ?_)
   exact aF (fun a w hh=>⟨v310,v316,hF,dI [0,1] hh⟩)
  refine aV ?_
  obtain rfl:=eP hF
  exact nK Jj115 ⟨x111,hRl114,rfl,rfl⟩ [0,1]
 refine aV ?_
 obtain⟨rfl,rfl⟩:=sm2 hF
 exact nK Jj73 ⟨x47,x53,hRl72,q51,q57,rfl,rfl⟩ [0,1]
def nJ (K:Nat) (a0:List Int) (a1:List Int):Option (aE×aE):=
 (gJ K a0 a1).bind fun v5=>bif(decide (v5<0)) then((eK K false a0).bind fun v8=>some ((⟨false,([]:List Int)⟩:aE),v8)) else(bif((a1.length:Int)==1) then((bF a1 0).bind fun v11=>(sO K a0 v11).bind fun v13=>(eK K false v13.1).bind fun v15=>(fE false (IntKind.u64.wrap v13.2)).bind fun v17=>some (v15,v17)) else((wM K a0 a1).bind fun v19=>(eK K false v19.1).bind fun v21=>(eK K false v19.2).bind fun v23=>some (v21,v23)))
def oN (K:Nat) (a0:List Int) (a1:List Int):Option (aE×aE):=
 (rL a0).bind fun v25=>bif v25.2 then((rL a1).bind fun v28=>bif v28.2 then((chq v25.1 v28.1).bind fun v33=>(fE false (IntKind.u64.wrap v33)).bind fun v35=>(chr v25.1 v28.1).bind fun v37=>(fE false (IntKind.u64.wrap v37)).bind fun v39=>some (v35,v39)) else(nJ K a0 a1)) else(nJ K a0 a1)
theorem yB {K:Nat} {a0:List Int} {a1:List Int} {r:aE×aE} (hF:oN K a0 a1=some r):Ct Tryz.prog 162 [.vc (pS cI a0),.vc (pS cI a1)] (.t2 (.va (aE.e r.1)) (.va (aE.e r.2))):=by
 unfold oN at hF
 refine aA Tryz.func162 rfl (by kernel_rfl) Tryz.ntmps162 rfl (fun w0 M0=>?_)
 refine aC (aH (aN rfl tyZ40 (fun b1=>?_)))
 refine aN rfl tyZ40 (fun b2=>?_)
 refine aT (aJ (aC (aAa (fun H E=>nJ K a0 a1=some r∧H=[⟨some b2,1,40,2,1,([pB false]++[pS cI ([]:List Int)])⟩,⟨some b1,1,40,2,1,([pB false]++[pS cI ([]:List Int)])⟩]∧E=[(0,.vc (pS cI a0)),(1,.vc (pS cI a1)),(4,.vc (pP (some b1) 0)),(5,.vc (pP (some b2) 0))]) ?_ (fun Jj4=>?_))))
 ·rintro _ _ ⟨hF,rfl,rfl⟩
  unfold nJ at hF
  obtain⟨v5,h6,hF⟩:=aW hF oF
  refine go ?_ ?_
  refine aB hF rfl (fun h7 hF=>?_) (fun h7 hF=>?_)
  ·refine aC (aH (aI (gU (is:=[]) (xs:=[]) (ps:=[]) rfl tyB40 rfl rfl trivial rfl) trivial ?_))
   obtain⟨v8,h9,hF⟩:=aW hF jJ
   exact bI
  refine go ?_ ?_
  refine aB hF rfl (fun h10 hF=>?_) (fun h10 hF=>?_)
  ·obtain⟨v11,h12,hF⟩:=aM hF
   obtain⟨v13,h14,hF⟩:=aW hF aBt
   obtain⟨v15,h16,hF⟩:=aW hF jJ
   refine go ?_ ?_
   refine aI (aE6 rfl ⟨_,Tryz.underlying3⟩ Tryz.underlying131) zU1 ?_
   obtain⟨v17,h18,hF⟩:=aW hF kY
   exact bI
  obtain⟨v19,h20,hF⟩:=aW hF aFo
  obtain⟨v21,h22,hF⟩:=aW hF jJ
  obtain⟨v23,h24,hF⟩:=aW hF jJ
  exact bI
 obtain⟨v25,h26,hF⟩:=aW hF yP
 refine go ?_ ?_
 refine aB hF rfl (fun h27 hF=>?_) (fun h27 hF=>?_)
 ·obtain⟨v28,h29,hF⟩:=aW hF yP
  refine go ?_ ?_
  refine aB hF rfl (fun h30 hF=>?_) (fun h30 hF=>?_)
  ·refine aC ?_
   obtain⟨v33,h34,hF⟩:=aM hF
   obtain⟨v35,h36,hF⟩:=aW hF kY
   obtain⟨v37,h38,hF⟩:=aM hF
   obtain⟨v39,h40,hF⟩:=aW hF kY
   refine iQ [0,0,3,7,15,0,0,96,224,511,1023,2047] 10 2 [.v (.vc (pI .i64 v25.1)),.v (.vc (pI .i64 v28.1)),.v (.vc (pI .i64 v33)),.v (.vc (pI .u64 (IntKind.u64.wrap v33))),.v (.va (aE.e v35)),.v (.vc (pI .i64 v25.1)),.v (.vc (pI .i64 v28.1)),.v (.vc (pI .i64 v37)),.v (.vc (pI .u64 (IntKind.u64.wrap v37))),.v (.va (aE.e v39))] aU ⟨d0 (aL (.inl rfl)) zU1,d0 (aL (.inl rfl)) zU1,d0 (aKT rfl h34) zU2,⟨rfl,.run (L:=[0]) ⟨fun G31 A=>aE6 rfl ⟨_,Tryz.underlying3⟩ Tryz.underlying131,trivial⟩ (fun G31=>zU1)⟩,d0 (bE rfl h36 rfl) ⟨k_B _,rfl,trivial⟩,d0 (aL (.inl rfl)) zU1,d0 (aL (.inl rfl)) zU1,d0 (aHq rfl h38) zU2,⟨rfl,.run (L:=[0]) ⟨fun G31 A=>aE6 rfl ⟨_,Tryz.underlying3⟩ Tryz.underlying131,trivial⟩ (fun G31=>zU1)⟩,d0 (bE rfl h40 rfl) ⟨k_B _,rfl,trivial⟩,trivial⟩ (fun bs32 G31=>?_)
   exact bI
  refine eU ?_
  exact nK Jj4 ⟨hF,rfl,rfl⟩ [0,1]
 refine eU ?_
 exact nK Jj4 ⟨hF,rfl,rfl⟩ [0,1]
def yH (K:Nat) (x14:aE):Option aE:=
 some x14
def wA (K:Nat) (x28:Int):Option (LR aE aE):=
 (fE false (IntKind.u64.wrap x28)).bind fun v31=>some (.ret v31)
def lD (K:Nat):Nat→Int→Int→Option Int
 |0,_,_=>none
 |k+1,x26,x27=>bif(decide (0<x27)) then((chr x26 x27).bind fun v36=>lD K k x27 v36) else(some x26)
def jW (K:Nat):Nat→aE→aE→Option (LR aE aE)
 |0,_,_=>none
 |k+1,x12,x13=>bif(decide (0<(x13.d.length:Int))) then((rL x12.d).bind fun v18=>(rL x13.d).bind fun v20=>bif v18.2 then(bif v20.2 then((lD K K v18.1 v20.1).bind fun x28=>wA K x28) else((oN K x12.d x13.d).bind fun v38=>jW K k x13 v38.2)) else((oN K x12.d x13.d).bind fun v44=>jW K k x13 v44.2)) else(some (.go x12))
def vM (K:Nat) (a0:aE) (a1:aE):Option aE:=
 (eK K false a0.d).bind fun v6=>(eK K false a1.d).bind fun v8=>(jW K K v6 v8).bind fun o=>match o with| .ret r=>some r| .go x14=>yH K x14
theorem aCB {K:Nat} {a0:aE} {a1:aE} {r:aE} (hF:vM K a0 a1=some r):Ct Tryz.prog 131 [.va (aE.e a0),.va (aE.e a1)] (.va (aE.e r)):=by
 unfold vM at hF
 refine aA Tryz.func131 rfl (by kernel_rfl) Tryz.ntmps131 rfl (fun w0 M0=>?_)
 refine aC (aH (bV rfl rfl trivial (fun b1=>?_)))
 refine bV rfl rfl trivial (fun b2=>?_)
 refine aN rfl tyZ40 (fun b3=>?_)
 obtain⟨v6,h7,hF⟩:=aW hF jJ
 obtain⟨v8,h9,hF⟩:=aW hF jJ
 refine go ?_ ?_
 refine dr [0,1,3,0,8,31,0,0,255,511] 8 2 ?_ (fun bs5 G4=>?_)
 refine go ?_ ?_
 refine aG (aP (fun H E=>∃(x14:aE),yH K x14=some r∧H=[⟨some (bs5 6),1,40,2,1,(aE.e x14)⟩,⟨some b3,1,40,2,1,([pB false]++[pS cI ([]:List Int)])⟩]∧E=[(4,.vc (pP (some b3) 0)),(5,.vc (pP (some (bs5 6)) 0))]) ?_ (fun Jj16=>?_))
 ·rintro _ _ ⟨x14,hF,rfl,rfl⟩
  unfold yH at hF
  exact bI
 obtain⟨ol15,hL,hRl15⟩:=aM hF
 refine cA (fun k a w=>∃(x12:aE),∃(x13:aE),jW K k x12 x13=some ol15∧hs _ [⟨some (bs5 6),1,40,2,1,(aE.e x12)⟩,⟨some (bs5 7),1,40,2,1,(aE.e x13)⟩,⟨some b3,1,40,2,1,([pB false]++[pS cI ([]:List Int)])⟩] [(4,.vc (pP (some b3) 0)),(5,.vc (pP (some (bs5 6)) 0)),(6,.vc (pP (some (bs5 7)) 0))] a w) K (fun a w ⟨_,_,hF,_⟩=>by cases hF) (fun k a w ⟨x12,x13,hF,hh⟩=>b0 ?_ hh) (fun a w hh=>⟨v6,v8,hL,dI [0,1,2] hh⟩)
 rw [jW.eq_2] at hF
 refine go ?_ ?_
 refine aB hF rfl (fun h17 hF=>?_) (fun h17 hF=>?_)
 ·refine eU (aJ (aG ?_))
  obtain⟨v18,h19,hF⟩:=aW hF yP
  obtain⟨v20,h21,hF⟩:=aW hF yP
  refine go ?_ ?_
  refine cC hF (fun h22 hF=>?_) (fun h22 hF=>?_)
  ·refine go ?_ ?_
   refine aB hF rfl (fun h23 hF=>?_) (fun h23 hF=>?_)
   ·refine aC (aG (aP (fun H E=>∃(x28:Int),wA K x28=some ol15∧H=[⟨some b3,1,40,2,1,([pB false]++[pS cI ([]:List Int)])⟩]∧E=[(4,.vc (pP (some b3) 0)),(7,.vc (pI .i64 x28))]) ?_ (fun Jj30=>?_)))
    ·rintro _ _ ⟨x28,hF,rfl,rfl⟩
     unfold wA at hF
     refine go ?_ ?_
     refine aI (aE6 rfl ⟨_,Tryz.underlying3⟩ Tryz.underlying131) zU1 ?_
     obtain⟨v31,h32,hF⟩:=aW hF kY
     exact bI
    obtain⟨x28',hL,hRl29⟩:=aM hF
    refine cA (fun k a w=>∃(x26:Int),∃(x27:Int),lD K k x26 x27=some x28'∧hs _ [⟨some b3,1,40,2,1,([pB false]++[pS cI ([]:List Int)])⟩] [(4,.vc (pP (some b3) 0)),(7,.vc (pI .i64 x26)),(9,.vc (pI .i64 x27))] a w) K (fun a w ⟨_,_,hF,_⟩=>by cases hF) (fun k a w ⟨x26,x27,hF,hh⟩=>b0 ?_ hh) (fun a w hh=>⟨v18.1,v20.1,hL,dI [2] hh⟩)
    rw [lD.eq_2] at hF
    refine go ?_ ?_
    refine aB hF rfl (fun h33 hF=>?_) (fun h33 hF=>?_)
    ·refine eU (aJ (aG ?_))
     obtain⟨v36,h37,hF⟩:=aM hF
     refine dr [0,0,0,6,3,31] 6 0 ?_ (fun bs35 G34=>?_)
     refine aT (aCz ?_)
     exact aF (fun a w hh=>⟨x27,v36,hF,dI [0] hh⟩)
    refine aV ?_
    obtain rfl:=eP hF
    exact nK Jj30 ⟨x26,hRl29,rfl,rfl⟩ [0]
   obtain⟨v38,h39,hF⟩:=aW hF yB
   refine go ?_ ?_
   refine aN rfl tyZ40 (fun b40=>?_)
   refine aN rfl tyZ40 (fun b41=>?_)
   refine go ?_ ?_
   refine r6 (HsM [(0,fun G42=>[⟨some b41,1,40,2,1,(aE.e v38.2)⟩,⟨some b40,1,40,2,1,(aE.e v38.1)⟩,⟨some (bs5 6),1,40,2,1,(aE.e x12)⟩,⟨some (bs5 7),1,40,2,1,(aE.e x13)⟩,⟨some b3,1,40,2,1,([pB false]++[pS cI ([]:List Int)])⟩]),(1,fun G42=>[⟨some b41,1,40,2,1,(aE.e v38.2)⟩,⟨some b40,1,40,2,1,(aE.e v38.1)⟩,⟨some (bs5 6),1,40,2,1,(aE.e x13)⟩,⟨some (bs5 7),1,40,2,1,(aE.e x13)⟩,⟨some b3,1,40,2,1,([pB false]++[pS cI ([]:List Int)])⟩])]) [2] [0,0,1,7] 3 1 [.v (.va (aE.e x13)),.v (.va (aE.e v38.2)),.g (fun _ _=>.any)] aU ⟨d1 0 (gC 3 2 rfl rfl rfl rfl (.agg tyA40)) zU1,⟨rfl,.run (L:=[0,1]) ⟨fun G42 A=>gC 0 2 rfl rfl rfl rfl (.agg tyA40),fun G42 A=>gC 0 2 rfl rfl rfl rfl (.agg tyA40),trivial⟩ (fun G42=>zU1)⟩,⟨rfl,.hvy [0] ⟨fun G42 A=>aB8 (t_s 2 rfl rfl rfl tyA40.s),trivial⟩ (fun G42=>zU2)⟩,trivial⟩ (fun bs43 G42=>?_)
   refine go ?_ ?_
   exact aF (fun a w hh=>⟨x13,v38.2,hF,dI [2,3,4] hh⟩)
  refine go ?_ ?_
  refine wX rfl ?_
  obtain⟨v44,h45,hF⟩:=aW hF yB
  refine go ?_ ?_
  refine aN rfl tyZ40 (fun b46=>?_)
  refine aN rfl tyZ40 (fun b47=>?_)
  refine go ?_ ?_
  refine r6 (HsM [(0,fun G48=>[⟨some b47,1,40,2,1,(aE.e v44.2)⟩,⟨some b46,1,40,2,1,(aE.e v44.1)⟩,⟨some (bs5 6),1,40,2,1,(aE.e x12)⟩,⟨some (bs5 7),1,40,2,1,(aE.e x13)⟩,⟨some b3,1,40,2,1,([pB false]++[pS cI ([]:List Int)])⟩]),(1,fun G48=>[⟨some b47,1,40,2,1,(aE.e v44.2)⟩,⟨some b46,1,40,2,1,(aE.e v44.1)⟩,⟨some (bs5 6),1,40,2,1,(aE.e x13)⟩,⟨some (bs5 7),1,40,2,1,(aE.e x13)⟩,⟨some b3,1,40,2,1,([pB false]++[pS cI ([]:List Int)])⟩])]) [2] [0,0,1,7] 3 1 [.v (.va (aE.e x13)),.v (.va (aE.e v44.2)),.g (fun _ _=>.any)] aU ⟨d1 0 (gC 3 2 rfl rfl rfl rfl (.agg tyA40)) zU1,⟨rfl,.run (L:=[0,1]) ⟨fun G48 A=>gC 0 2 rfl rfl rfl rfl (.agg tyA40),fun G48 A=>gC 0 2 rfl rfl rfl rfl (.agg tyA40),trivial⟩ (fun G48=>zU1)⟩,⟨rfl,.hvy [0] ⟨fun G48 A=>aB8 (t_s 2 rfl rfl rfl tyA40.s),trivial⟩ (fun G48=>zU2)⟩,trivial⟩ (fun bs49 G48=>?_)
  refine go ?_ ?_
  exact aF (fun a w hh=>⟨x13,v44.2,hF,dI [2,3,4] hh⟩)
 refine aV ?_
 obtain rfl:=eP hF
 exact nK Jj16 ⟨x12,hRl15,rfl,rfl⟩ [0,2]
def nA (K:Nat) (a0:aE) (a1:aE) (x11:aE) (x12:aE):Option (aE×aE):=
 bif(a0.neg != a1.neg) then(some ((⟨(decide (0<(x12.d.length:Int))),x12.d⟩:aE),x11)) else(some ((⟨false,x12.d⟩:aE),x11))
def vL (K:Nat) (a0:aE) (a1:aE):Option (aE×aE):=
 bif((a1.d.length:Int)==0) then(some ((⟨false,([]:List Int)⟩:aE),(⟨false,([]:List Int)⟩:aE))) else((oN K a0.d a1.d).bind fun v6=>bif a0.neg then(bif(decide (0<(v6.2.d.length:Int))) then((rQ K v6.1.d [1]).bind fun v21=>(eK K false v21).bind fun v23=>(nM K a1.d v6.2.d).bind fun v25=>(eK K false v25).bind fun v27=>nA K a0 a1 v27 v23) else(nA K a0 a1 v6.2 v6.1)) else(nA K a0 a1 v6.2 v6.1))
theorem aCN {K:Nat} {a0:aE} {a1:aE} {r:aE×aE} (hF:vL K a0 a1=some r):Ct Tryz.prog 133 [.va (aE.e a0),.va (aE.e a1)] (.t2 (.va (aE.e r.1)) (.va (aE.e r.2))):=by
 unfold vL at hF
 refine aA Tryz.func133 rfl (by kernel_rfl) Tryz.ntmps133 rfl (fun w0 M0=>?_)
 refine aC (aH (bV rfl rfl trivial (fun b1=>?_)))
 refine bV rfl rfl trivial (fun b2=>?_)
 refine aN rfl tyZ40 (fun b3=>?_)
 refine aN rfl tyZ40 (fun b4=>?_)
 refine go ?_ ?_
 refine aB hF rfl (fun h5 hF=>?_) (fun h5 hF=>?_)
 ·refine aC (aH (aI (gU (is:=[]) (xs:=[]) (ps:=[]) rfl tyB40 rfl rfl trivial rfl) trivial ?_))
  refine aI (gU (is:=[]) (xs:=[]) (ps:=[]) rfl tyB40 rfl rfl trivial rfl) trivial ?_
  exact bI
 obtain⟨v6,h7,hF⟩:=aW hF yB
 refine go ?_ ?_
 refine aN rfl tyZ40 (fun b8=>?_)
 refine aN rfl tyZ40 (fun b9=>?_)
 refine mD (t_s 1 rfl rfl rfl tyA40.s) zU2 ?_
 refine mD (t_s 0 rfl rfl rfl tyA40.s) zU2 ?_
 refine aT (aJ (aC (aAa (fun H E=>∃(x11:aE),∃(x12:aE),nA K a0 a1 x11 x12=some r∧H=[⟨some b9,1,40,2,1,(aE.e x11)⟩,⟨some b8,1,40,2,1,(aE.e x12)⟩,⟨some b4,1,40,2,1,([pB false]++[pS cI ([]:List Int)])⟩,⟨some b3,1,40,2,1,([pB false]++[pS cI ([]:List Int)])⟩,⟨some b2,1,40,2,1,(aE.e a1)⟩,⟨some b1,1,40,2,1,(aE.e a0)⟩]∧E=[(2,.vc (pP (some b1) 0)),(3,.vc (pP (some b2) 0)),(4,.vc (pP (some b3) 0)),(5,.vc (pP (some b4) 0)),(6,.vc (pP (some b8) 0)),(7,.vc (pP (some b9) 0))]) ?_ (fun Jj13=>?_))))
 ·rintro _ _ ⟨x11,x12,hF,rfl,rfl⟩
  unfold nA at hF
  refine go ?_ ?_
  refine aI (aB7 rfl Tryz.underlying4) zU2 ?_
  refine dS ?_
  refine cC hF (fun h14 hF=>?_) (fun h14 hF=>?_)
  ·refine go ?_ ?_
   refine r6 (HsM [(0,fun G15=>[⟨some b9,1,40,2,1,(aE.e x11)⟩,⟨some b8,1,40,2,1,([pB (decide (0<(x12.d.length:Int)))]++[pS cI x12.d])⟩,⟨some b4,1,40,2,1,([pB false]++[pS cI ([]:List Int)])⟩,⟨some b3,1,40,2,1,([pB false]++[pS cI ([]:List Int)])⟩,⟨some b2,1,40,2,1,(aE.e a1)⟩,⟨some b1,1,40,2,1,(aE.e a0)⟩]),(1,fun G15=>[⟨some b9,1,40,2,1,(aE.e x11)⟩,⟨some b8,1,40,2,1,([pB (decide (0<(x12.d.length:Int)))]++[pS cI x12.d])⟩,⟨some b4,1,40,2,1,([pB false]++[pS cI ([]:List Int)])⟩,⟨some b3,1,40,2,1,([pB (decide (0<(x12.d.length:Int)))]++[pS cI x12.d])⟩,⟨some b2,1,40,2,1,(aE.e a1)⟩,⟨some b1,1,40,2,1,(aE.e a0)⟩])]) [2] [0,0,1,7] 3 1 [.v (.va ([pB (decide (0<(x12.d.length:Int)))]++[pS cI x12.d])),.v (.va (aE.e x11)),.g (fun _ _=>.any)] aU ⟨d1 0 (gC 1 2 rfl rfl rfl rfl (.agg tyA40)) zU1,⟨rfl,.run (L:=[0,1]) ⟨fun G15 A=>gC 0 2 rfl rfl rfl rfl (.agg tyA40),fun G15 A=>gC 0 2 rfl rfl rfl rfl (.agg tyA40),trivial⟩ (fun G15=>zU1)⟩,⟨rfl,.hvy [0] ⟨fun G15 A=>aB8 (t_s 3 rfl rfl rfl tyA40.s),trivial⟩ (fun G15=>zU2)⟩,trivial⟩ (fun bs16 G15=>?_)
   exact bI
  refine go ?_ ?_
  refine r6 (HsM [(0,fun G17=>[⟨some b9,1,40,2,1,(aE.e x11)⟩,⟨some b8,1,40,2,1,([pB false]++[pS cI x12.d])⟩,⟨some b4,1,40,2,1,([pB false]++[pS cI ([]:List Int)])⟩,⟨some b3,1,40,2,1,([pB false]++[pS cI ([]:List Int)])⟩,⟨some b2,1,40,2,1,(aE.e a1)⟩,⟨some b1,1,40,2,1,(aE.e a0)⟩]),(1,fun G17=>[⟨some b9,1,40,2,1,(aE.e x11)⟩,⟨some b8,1,40,2,1,([pB false]++[pS cI x12.d])⟩,⟨some b4,1,40,2,1,([pB false]++[pS cI ([]:List Int)])⟩,⟨some b3,1,40,2,1,([pB false]++[pS cI x12.d])⟩,⟨some b2,1,40,2,1,(aE.e a1)⟩,⟨some b1,1,40,2,1,(aE.e a0)⟩])]) [2] [0,0,1,7] 3 1 [.v (.va ([pB false]++[pS cI x12.d])),.v (.va (aE.e x11)),.g (fun _ _=>.any)] aU ⟨d1 0 (gC 1 2 rfl rfl rfl rfl (.agg tyA40)) zU1,⟨rfl,.run (L:=[0,1]) ⟨fun G17 A=>gC 0 2 rfl rfl rfl rfl (.agg tyA40),fun G17 A=>gC 0 2 rfl rfl rfl rfl (.agg tyA40),trivial⟩ (fun G17=>zU1)⟩,⟨rfl,.hvy [0] ⟨fun G17 A=>aB8 (t_s 3 rfl rfl rfl tyA40.s),trivial⟩ (fun G17=>zU2)⟩,trivial⟩ (fun bs18 G17=>?_)
  exact bI
 refine go ?_ ?_
 refine cC hF (fun h19 hF=>?_) (fun h19 hF=>?_)
 ·refine go ?_ ?_
  refine aB hF rfl (fun h20 hF=>?_) (fun h20 hF=>?_)
  ·refine go ?_ ?_
   refine aI (eR (C:=cI) (xs:=[.const (.int .i64 (1))]) (ps:=[.vc (pI .i64 1)]) (zs:=[1]) rfl tyS22 rfl ⟨⟨trivial,rfl⟩,trivial⟩ rfl) ⟨qM _ _,trivial⟩ ?_
   obtain⟨v21,h22,hF⟩:=aW hF aB9
   refine aI (bE rfl h22 rfl) zU2 ?_
   obtain⟨v23,h24,hF⟩:=aW hF jJ
   refine aI (bE rfl h24 rfl) ⟨k_B _,rfl,trivial⟩ ?_
   refine mD (t_s 1 rfl rfl rfl tyA40.s) zU2 ?_
   refine aT (aJ (aH (aI (gV (off:=0) (k:=1) rfl tyF40_1) zU1 ?_)))
   refine aI (gC 4 1 rfl rfl rfl rfl (.one tyO22)) zU1 ?_
   refine aI (gV (off:=0) (k:=1) rfl tyF40_1) zU1 ?_
   refine aI (gC 0 1 rfl rfl rfl rfl (.one tyO22)) zU1 ?_
   obtain⟨v25,h26,hF⟩:=aW hF zC
   refine aI (bE rfl h26 rfl) zU2 ?_
   obtain⟨v27,h28,hF⟩:=aW hF jJ
   refine aI (bE rfl h28 rfl) ⟨k_B _,rfl,trivial⟩ ?_
   refine mD (t_s 0 rfl rfl rfl tyA40.s) zU2 ?_
   refine aT ?_
   exact nK Jj13 ⟨v27,v23,hF,rfl,rfl⟩ [0,1,2,3,4,5]
  refine eU ?_
  exact nK Jj13 ⟨v6.2,v6.1,hF,rfl,rfl⟩ [0,1,2,3,4,5]
 refine go ?_ ?_
 refine wX rfl ?_
 refine eU ?_
 exact nK Jj13 ⟨v6.2,v6.1,hF,rfl,rfl⟩ [0,1,2,3,4,5]
def mY (K:Nat) (a0:aE) (a1:aE):Option Int:=
 bif(a0.neg != a1.neg) then(bif a0.neg then(some (-1)) else(bif(a0.neg != a1.neg) then(some 1) else(bif a0.neg then((gJ K a1.d a0.d).bind fun v7=>some v7) else((gJ K a0.d a1.d).bind fun v9=>some v9)))) else(bif(a0.neg != a1.neg) then(some 1) else(bif a0.neg then((gJ K a1.d a0.d).bind fun v13=>some v13) else((gJ K a0.d a1.d).bind fun v15=>some v15)))
theorem xT {K:Nat} {a0:aE} {a1:aE} {r:Int} (hF:mY K a0 a1=some r):Ct Tryz.prog 135 [.va (aE.e a0),.va (aE.e a1)] (.vc (pI .i64 r)):=by
 unfold mY at hF
 refine aA Tryz.func135 rfl (by kernel_rfl) Tryz.ntmps135 rfl (fun w0 M0=>?_)
 refine aC (aH (bV rfl rfl trivial (fun b1=>?_)))
 refine bV rfl rfl trivial (fun b2=>?_)
 refine go ?_ ?_
 refine aG (go ?_ ?_)
 refine aI (aB7 rfl Tryz.underlying4) zU2 ?_
 refine dS ?_
 refine cC hF (fun h3 hF=>?_) (fun h3 hF=>?_)
 ·refine go ?_ ?_
  refine aB hF rfl (fun h4 hF=>?_) (fun h4 hF=>?_)
  ·exact bI
  refine go ?_ ?_
  refine aI (aB7 rfl Tryz.underlying4) zU2 ?_
  refine go ?_ ?_
  refine aB hF rfl (fun h5 hF=>?_) (fun h5 hF=>?_)
  ·exact bI
  refine go ?_ ?_
  refine aB hF rfl (fun h6 hF=>?_) (fun h6 hF=>?_)
  ·obtain⟨v7,h8,hF⟩:=aW hF oF
   exact bI
  obtain⟨v9,h10,hF⟩:=aW hF oF
  exact bI
 refine go ?_ ?_
 refine wX rfl ?_
 refine go ?_ ?_
 refine aI (aB7 rfl Tryz.underlying4) zU2 ?_
 refine go ?_ ?_
 refine aB hF rfl (fun h11 hF=>?_) (fun h11 hF=>?_)
 ·exact bI
 refine go ?_ ?_
 refine aB hF rfl (fun h12 hF=>?_) (fun h12 hF=>?_)
 ·obtain⟨v13,h14,hF⟩:=aW hF oF
  exact bI
 obtain⟨v15,h16,hF⟩:=aW hF oF
 exact bI
def sH (K:Nat):Option Int:=
 some (-1)
def fZ (K:Nat) (a0:List Int) (a1:(Int→Option Bool)):Nat→Int→Option (LR Int Unit)
 |0,_=>none
 |k+1,x2=>bif(decide (x2<(a0.length:Int))) then((bF a0 x2).bind fun v6=>(a1 v6).bind fun v8=>bif v8 then(some (.ret x2)) else((aS (x2+1)).bind fun v11=>fZ K a0 a1 k v11)) else(some (.go ()))
def mR (K:Nat) (a0:List Int) (a1:(Int→Option Bool)):Option Int:=
 (fZ K a0 a1 K 0).bind fun o=>match o with| .ret r=>some r| .go _=>sH K
theorem aBi {K:Nat} {a0:List Int} {a1:(Int→Option Bool)} {r:Int} (hF:mR K a0 a1=some r):Ct Tryz.prog 173 [.vc (pS cI a0),.vc (pFn Tryz.prog (fun x:Int=>[.vc (pI .i64 x)]) (fun r:Bool=>.vc (pB r)) a1)] (.vc (pI .i64 r)):=by
 unfold mR at hF
 refine aA Tryz.func173 rfl (by kernel_rfl) Tryz.ntmps173 rfl (fun w0 M0=>?_)
 refine go ?_ ?_
 refine aG (aP (fun H E=>sH K=some r∧H=[]∧E=[]) ?_ (fun Jj4=>?_))
 ·rintro _ _ ⟨hF,rfl,rfl⟩
  unfold sH at hF
  exact bI
 obtain⟨ol3,hL,hRl3⟩:=aM hF
 refine cA (fun k a w=>∃(x2:Int),fZ K a0 a1 k x2=some ol3∧hs _ [] [(0,.vc (pS cI a0)),(1,.vc (pFn Tryz.prog (fun x:Int=>[.vc (pI .i64 x)]) (fun r:Bool=>.vc (pB r)) a1)),(7,.vc (pI .i64 (a0.length:Int))),(8,.vc (pI .i64 x2))] a w) K (fun a w ⟨_,hF,_⟩=>by cases hF) (fun k a w ⟨x2,hF,hh⟩=>b0 ?_ hh) (fun a w hh=>⟨0,hL,dI [] hh⟩)
 rw [fZ.eq_2] at hF
 refine go ?_ ?_
 refine aB hF rfl (fun h5 hF=>?_) (fun h5 hF=>?_)
 ·refine go ?_ ?_
  refine aG ?_
  obtain⟨v6,h7,v8,h9,hF⟩:=tW hF
  refine go ?_ ?_
  refine aI (aEC (pre:=fun x:Int=>[.vc (pI .i64 x)]) (post:=fun r:Bool=>.vc (pB r)) (x:=v6) (r:=v8) rfl h9 rfl) zU2 ?_
  refine aT (aJ (aB hF rfl (fun h10 hF=>?_) (fun h10 hF=>?_)))
  ·exact bI
  obtain⟨v11,h12,hF⟩:=aM hF
  refine go ?_ ?_
  exact aF (fun a w hh=>⟨v11,hF,dI [] hh⟩)
 refine aV ?_
 obtain rfl:=eP hF
 exact nK Jj4 ⟨hRl3,rfl,rfl⟩ []
def f8 (K:Nat) (a0:List Int) (a1:(Int→Option Bool)):Option Bool:=
 (mR K a0 a1).bind fun v1=>some (decide (0≤v1))
theorem aAt {K:Nat} {a0:List Int} {a1:(Int→Option Bool)} {r:Bool} (hF:f8 K a0 a1=some r):Ct Tryz.prog 163 [.vc (pS cI a0),.vc (pFn Tryz.prog (fun x:Int=>[.vc (pI .i64 x)]) (fun r:Bool=>.vc (pB r)) a1)] (.vc (pB r)):=by
 unfold f8 at hF
 refine aA Tryz.func163 rfl (by kernel_rfl) Tryz.ntmps163 rfl (fun w0 M0=>?_)
 obtain⟨v1,h2,hF⟩:=aW hF aBi
 exact bI
def jV (a0:Int):Option Bool:=
 bif(decide (a0<0)) then(some true) else(some (decide (1000000000≤a0)))
theorem aDP {a0:Int} {r:Bool} (hF:jV a0=some r):Ct Tryz.prog 164 [.vc (pI .i64 a0)] (.vc (pB r)):=by
 unfold jV at hF
 refine aA Tryz.func164 rfl (by kernel_rfl) Tryz.ntmps164 rfl (fun w0 M0=>?_)
 refine go ?_ ?_
 refine cC hF (fun h1 hF=>?_) (fun h1 hF=>?_)
 ·exact bI
 exact bI
def jE (K:Nat) (a0:aE):Option Bool:=
 (f8 K a0.d (jV)).bind fun v2=>bif v2 then(some false) else(bif((a0.d.length:Int)==0) then(bif(!a0.neg) then(some true) else(bif(decide (0<(a0.d.length:Int))) then((aS ((a0.d.length:Int)-1)).bind fun v8=>(bF a0.d v8).bind fun v10=>some (v10 != 0)) else(some false))) else(bif(decide (0<(a0.d.length:Int))) then((aS ((a0.d.length:Int)-1)).bind fun v13=>(bF a0.d v13).bind fun v15=>some (v15 != 0)) else(some false)))
theorem aBl {K:Nat} {a0:aE} {r:Bool} (hF:jE K a0=some r):Ct Tryz.prog 137 [.va (aE.e a0)] (.vc (pB r)):=by
 unfold jE at hF
 refine aA Tryz.func137 rfl (by kernel_rfl) Tryz.ntmps137 rfl (fun w0 M0=>?_)
 refine aC (aH (bV rfl rfl trivial (fun b1=>?_)))
 obtain⟨v2,h3,hF⟩:=aW hF aAt
 refine go ?_ ?_
 refine aI (bE rfl h3 rfl) ⟨rfl,(aRL (P:=Tryz.prog) (φ:=(jV)) (pre:=fun x:Int=>[.vc (pI .i64 x)]) (post:=fun r:Bool=>.vc (pB r)) (fun x r h=>aDP h)),trivial⟩ ?_
 refine aT (aJ (aB hF rfl (fun h4 hF=>?_) (fun h4 hF=>?_)))
 ·exact bI
 refine go ?_ ?_
 refine cC hF (fun h5 hF=>?_) (fun h5 hF=>?_)
 ·refine go ?_ ?_
  refine cC hF (fun h6 hF=>?_) (fun h6 hF=>?_)
  ·exact bI
  refine go ?_ ?_
  refine cC hF (fun h7 hF=>?_) (fun h7 hF=>?_)
  ·obtain⟨v8,h9,v10,h11,hF⟩:=tW hF
   exact bI
  exact bI
 refine go ?_ ?_
 refine cC hF (fun h12 hF=>?_) (fun h12 hF=>?_)
 ·obtain⟨v13,h14,v15,h16,hF⟩:=tW hF
  exact bI
 exact bI
def iW (K:Nat) (a0:aE):Option Bool:=
 bif((a0.d.length:Int)==0) then(some (!a0.neg)) else((aS ((a0.d.length:Int)-1)).bind fun v7=>(bF a0.d v7).bind fun v9=>some (v9 != 0))
def dG (K:Nat) (a0:aE):Nat→Int→Option (LR Bool Unit)
 |0,_=>none
 |k+1,x3=>bif(decide (x3<(a0.d.length:Int))) then((bF a0.d x3).bind fun v12=>bif(decide (v12<0)) then(some (.ret false)) else((bF a0.d x3).bind fun v15=>bif(decide (1000000000≤v15)) then(some (.ret false)) else((aS (x3+1)).bind fun v18=>dG K a0 k v18))) else(some (.go ()))
def eF (K:Nat) (a0:aE):Option Bool:=
 (dG K a0 K 0).bind fun o=>match o with| .ret r=>some r| .go _=>iW K a0
theorem zN {K:Nat} {a0:aE} {r:Bool} (hF:eF K a0=some r):Ct Tryz.prog 141 [.va (aE.e a0)] (.vc (pB r)):=by
 unfold eF at hF
 refine aA Tryz.func141 rfl (by kernel_rfl) Tryz.ntmps141 rfl (fun w0 M0=>?_)
 refine aC (aH (bV rfl rfl trivial (fun b1=>?_)))
 refine go ?_ ?_
 refine aG (aP (fun H E=>iW K a0=some r∧H=[⟨some b1,1,40,2,1,(aE.e a0)⟩]∧E=[(1,.vc (pP (some b1) 0))]) ?_ (fun Jj5=>?_))
 ·rintro _ _ ⟨hF,rfl,rfl⟩
  unfold iW at hF
  refine go ?_ ?_
  refine aB hF rfl (fun h6 hF=>?_) (fun h6 hF=>?_)
  ·exact bI
  obtain⟨v7,h8,v9,h10,hF⟩:=tW hF
  exact bI
 obtain⟨ol4,hL,hRl4⟩:=aM hF
 refine cA (fun k a w=>∃(x3:Int),dG K a0 k x3=some ol4∧hs _ [⟨some b1,1,40,2,1,(aE.e a0)⟩] [(1,.vc (pP (some b1) 0)),(3,.vc (pI .i64 x3))] a w) K (fun a w ⟨_,hF,_⟩=>by cases hF) (fun k a w ⟨x3,hF,hh⟩=>b0 ?_ hh) (fun a w hh=>⟨0,hL,dI [0] hh⟩)
 rw [dG.eq_2] at hF
 refine go ?_ ?_
 refine aB hF rfl (fun h11 hF=>?_) (fun h11 hF=>?_)
 ·refine go ?_ ?_
  refine aG ?_
  obtain⟨v12,h13,hF⟩:=aM hF
  refine go ?_ ?_
  refine cC hF (fun h14 hF=>?_) (fun h14 hF=>?_)
  ·refine go ?_ ?_
   refine fV rfl ?_
   exact bI
  have hF:=tJ h13 hF
  refine go ?_ ?_
  refine aB hF rfl (fun h17 hF=>?_) (fun h17 hF=>?_)
  ·exact bI
  obtain⟨v18,h19,hF⟩:=aM hF
  refine go ?_ ?_
  exact aF (fun a w hh=>⟨v18,hF,dI [0] hh⟩)
 refine aV ?_
 obtain rfl:=eP hF
 exact nK Jj5 ⟨hRl4,rfl,rfl⟩ [0]
end Go.Proofs.YtolfcbpgmfbgmaaGreat
set_option linter.unusedVariables false
set_option maxRecDepth 100000
namespace Go.Proofs.YtolfcbpgmfbgmaaGreat
end Go.Proofs.YtolfcbpgmfbgmaaGreat
set_option linter.unusedVariables false
namespace Go.Proofs.YtolfcbpgmfbgmaaGreat
theorem ckN {n m:Nat} {x:Int} (h:x=n) (hn:n≤9000000000000000000):aS x=some (n:Int):=by
 subst h;exact vX ⟨by omega,by omega⟩
theorem aY {k n:Nat} (h:n<k):∃k',k=k'+1∧n≤k':=⟨k-1,by omega,by omega⟩
theorem aCp {u:List Int} {i:Nat} {v:Int} (h:Dr u 0 i) (hl:i<u.length) (h0:0≤v) (h1:v<1000000000):Dr (u.set i v) 0 (i+1):=fun t ht=>by
 by_cases e:t=i
 ·subst e;rw [Nat.zero_add,eA hl];exact⟨h0,h1⟩
 ·rw [fP (by omega)];exact h t (by omega)
def mkG (neg:Bool) (n:Nat):aE:=if n=0 then⟨false,[]⟩ else⟨neg,bO n⟩
theorem o5 (n:Nat):mkG false n=Z n:=by
 unfold mkG Z
 by_cases h:n=0
 ·subst h;simp [aAZ]
 ·rw [if_neg h];simp
theorem aLm (n:Nat):mkG true n=Z (-n):=by
 unfold mkG Z
 by_cases h:n=0
 ·subst h;simp [aAZ]
 ·rw [if_neg h];simp;omega
theorem wT (b:Bool) (n:Nat):mkG b n=Z (if b then -(n:Int) else n):=by
 cases b
 ·simpa using o5 n
 ·simpa using aLm n
theorem aQa (u:List Int):∀(n:Nat),n≤u.length→n≤9000000000000→∃m:Nat,m≤n∧(∀i,m≤i→i<n→u.getD i 0=0)∧(m=0∨u.getD (m-1) 0≠0)∧∀K k,n<k→nL K u k n=some (m:Int)
 |0,_,_=>⟨0,Nat.le_refl _,fun i _ h=>by omega,.inl rfl,fun K k hk=>by
   obtain⟨k',rfl,_⟩:=aY hk
   simp [nL]⟩
 |n+1,h,hL=>by
  have e1:aS (((n+1:Nat):Int)-1)=some (n:Int):=ckN (m:=0) (by omega) (by omega)
  have e2:decide (0<((n+1:Nat):Int))=true:=decide_eq_true (by omega)
  have e3:=bZ (xs:=u) (i:=n) (by omega)
  by_cases h0:u.getD n 0=0
  ·obtain⟨m,h1,h2,h3,h4⟩:=aQa u n (by omega) (by omega)
   refine⟨m,by omega,fun i a b=>?_,h3,fun K k hk=>?_⟩
   ·by_cases e:i=n
    ·subst e;exact h0
    ·exact h2 i a (by omega)
   ·obtain⟨k',rfl,hk'⟩:=aY hk
    simp only [nL,e1,e2,e3,h0,bS,oB,beq_self_eq_true]
    exact h4 K k' (by omega)
  ·refine⟨n+1,by omega,fun i a b=>by omega,.inr (by simpa using h0),fun K k hk=>?_⟩
   obtain⟨k',rfl,hk'⟩:=aY hk
   have e4:(u.getD n 0==0)=false:=by simpa using h0
   simp only [nL,e1,e2,e3,e4,bS,bM,oB]
theorem aS8 {u:List Int} (hd:lV u) {m:Nat} (h1:m≤u.length) (h2:∀i,m≤i→i<u.length→u.getD i 0=0) (h3:m=0∨u.getD (m-1) 0≠0):u.take m=bO (vD u).toNat∧(m=0↔vD u=0):=by
 have hg:∀i,i<m→(u.take m).getD i 0=u.getD i 0:=fun i hi=>by
  simp only [List.getD_eq_getElem?_getD,List.getElem?_take];rw [if_pos hi]
 have hl:(u.take m).length=m:=by simp;omega
 have hok:lV (u.take m):=fun i=>by
  rcases Nat.lt_or_ge i m with h|h
  ·rw [hg i h];exact hd i
  ·rw [xB (by omega)];omega
 have hv:vD (u.take m)=vD u:=by
  unfold vD
  rw [hl]
  obtain⟨c,hc⟩:=Nat.exists_eq_add_of_le h1
  rw [hc,y6,aFx (j:=0+m) (fun i hi=>h2 _ (by omega) (by omega))]
  rw [aEA (v:=u) (k:=0) (fun i hi=>by rw [Nat.zero_add];exact hg i hi)]
  simp
 have ht:Top (u.take m):=by
  rcases h3 with h|h
  ·subst h;exact .inl (by simp)
  ·by_cases h0:m=0
   ·subst h0;exact .inl (by simp)
   ·refine .inr ?_
    rw [hl,hg _ (by omega)];exact h
 have:=aPb hok ht
 rw [hv] at this
 refine⟨this.symm,fun h=>?_,fun h=>?_⟩
 ·subst h
  rw [←hv];simp;rfl
 ·rw [h] at this
  simp only [Int.toNat_zero,aAZ] at this
  have:(u.take m).length=0:=by rw [←this];rfl
  omega
theorem z5 (neg:Bool) {u:List Int} (hd:lV u) (hL:u.length≤9000000000000):Ev (fun K=>eK K neg u) (mkG neg (vD u).toNat):=by
 obtain⟨m,h1,h2,h3,h4⟩:=aQa u u.length (Nat.le_refl _) hL
 obtain⟨h5,h6⟩:=aS8 hd h1 h2 h3
 have hn:=hd.nonneg
 refine⟨u.length+1,fun K hK=>?_⟩
 simp only [eK,h4 K K (by omega),oB,xJ]
 unfold mkG
 by_cases h0:m=0
 ·have e:((m:Int)==0)=true:=by simp [h0]
  rw [e,bS,if_pos (by have:=h6.1 h0;omega)]
 ·have e:((m:Int)==0)=false:=by simp [h0]
  rw [e,bM,aId h1,oB,if_neg (by intro h;exact h0 (h6.2 (by omega))),h5]
theorem aC9 {out a b:List Int} {i:Nat} {c c' v:Int} (hl:i<out.length) (hI:W out 0 i+c*PB i=W a 0 i+W b 0 i) (hv:v+1000000000*c'=a.getD i 0+b.getD i 0+c):
  W (out.set i v) 0 (i+1)+c'*PB (i+1)=W a 0 (i+1)+W b 0 (i+1):=by
 rw [dU,dU,dU,Nat.zero_add,eA hl,aAg (.inr (by omega))]
 simp only [PB]
 grind
theorem aCm {a b:List Int} (ha:lV a) (hb:lV b) (hab:b.length≤a.length) (hL:a.length≤9000000000000):∀(t i:Nat) (out:List Int) (c:Int),i+t=a.length→out.length=a.length+1→Dr out 0 i→0≤c→c≤1→W out 0 i+c*PB i=W a 0 i+W b 0 i→
  ∃out' c',out'.length=a.length+1∧Dr out' 0 a.length∧0≤c'∧c'≤1∧W out' 0 a.length+c'*PB a.length=W a 0 a.length+W b 0 a.length∧∀K k,t<k→cZ K a b k out c (i:Int)=some (out',c')
 |0,i,out,c,hi,ho,hD,hc0,hc1,hI=>by
  have:i=a.length:=by omega
  subst this
  refine⟨out,c,ho,hD,hc0,hc1,hI,fun K k hk=>?_⟩
  obtain⟨k',rfl,_⟩:=aY hk
  simp [cZ]
 |t+1,i,out,c,hi,ho,hD,hc0,hc1,hI=>by
  have ha':=ha i
  have hb':=hb i
  have e1:decide ((i:Int)<(a.length:Int))=true:=decide_eq_true (by omega)
  have e2:=bZ (xs:=a) (i:=i) (by omega)
  have e3:aS ((i:Int)+1)=some ((i+1:Nat):Int):=ckN (m:=0) (by omega) (by omega)
  have e4:=bZ (xs:=out) (i:=i) (by omega)
  have e5:∀v,qL out (i:Int) v=some (out.set i v):=fun v=>vQ (by omega)
  have e6:aS (a.getD i 0+c)=some (a.getD i 0+c):=vX (by omega)
  have e7:aS (a.getD i 0+c+b.getD i 0)=some (a.getD i 0+c+b.getD i 0):=vX (by omega)
  have e8:aS (a.getD i 0+c+b.getD i 0-1000000000)=some (a.getD i 0+c+b.getD i 0-1000000000):=vX (by omega)
  have e9:aS (a.getD i 0+c-1000000000)=some (a.getD i 0+c-1000000000):=vX (by omega)
  by_cases hbl:i<b.length
  ·have f1:decide ((i:Int)<(b.length:Int))=true:=decide_eq_true (by omega)
   have f2:=bZ (xs:=b) (i:=i) hbl
   by_cases hs:1000000000≤a.getD i 0+c+b.getD i 0
   ·obtain⟨o,d,h1,h2,h3,h4,h5,h6⟩:=aCm ha hb hab hL t (i+1) (out.set i (a.getD i 0+c+b.getD i 0-1000000000)) 1 (by omega) (by simpa using ho) (aCp hD (by omega) (by omega) (by omega)) (by omega) (by omega) (aC9 (by omega) hI (by omega))
    refine⟨o,d,h1,h2,h3,h4,h5,fun K k hk=>?_⟩
    obtain⟨k',rfl,_⟩:=aY hk
    simp only [cZ,e1,e2,e3,e4,e5,e6,e7,e8,f1,f2,decide_eq_true hs,bS,oB]
    exact h6 K k' (by omega)
   ·obtain⟨o,d,h1,h2,h3,h4,h5,h6⟩:=aCm ha hb hab hL t (i+1) (out.set i (a.getD i 0+c+b.getD i 0)) 0 (by omega) (by simpa using ho) (aCp hD (by omega) (by omega) (by omega)) (by omega) (by omega) (aC9 (by omega) hI (by omega))
    refine⟨o,d,h1,h2,h3,h4,h5,fun K k hk=>?_⟩
    obtain⟨k',rfl,_⟩:=aY hk
    simp only [cZ,e1,e2,e3,e4,e5,e6,e7,f1,f2,decide_eq_false hs,bS,bM,oB]
    exact h6 K k' (by omega)
  ·have f1:decide ((i:Int)<(b.length:Int))=false:=decide_eq_false (by omega)
   have f2:b.getD i 0=0:=xB (by omega)
   by_cases hs:1000000000≤a.getD i 0+c
   ·obtain⟨o,d,h1,h2,h3,h4,h5,h6⟩:=aCm ha hb hab hL t (i+1) (out.set i (a.getD i 0+c-1000000000)) 1 (by omega) (by simpa using ho) (aCp hD (by omega) (by omega) (by omega)) (by omega) (by omega) (aC9 (by omega) hI (by omega))
    refine⟨o,d,h1,h2,h3,h4,h5,fun K k hk=>?_⟩
    obtain⟨k',rfl,_⟩:=aY hk
    simp only [cZ,e1,e2,e3,e4,e5,e6,e9,f1,decide_eq_true hs,bS,bM,oB]
    exact h6 K k' (by omega)
   ·obtain⟨o,d,h1,h2,h3,h4,h5,h6⟩:=aCm ha hb hab hL t (i+1) (out.set i (a.getD i 0+c)) 0 (by omega) (by simpa using ho) (aCp hD (by omega) (by omega) (by omega)) (by omega) (by omega) (aC9 (by omega) hI (by omega))
    refine⟨o,d,h1,h2,h3,h4,h5,fun K k hk=>?_⟩
    obtain⟨k',rfl,_⟩:=aY hk
    simp only [cZ,e1,e2,e3,e4,e5,e6,f1,decide_eq_false hs,bS,bM,oB]
    exact h6 K k' (by omega)
theorem aIq (n j m:Nat):Dr (List.replicate n 0) j m:=fun i _=>by
 simp only [List.getD_eq_getElem?_getD,List.getElem?_replicate];split<;>simp
theorem aLy {a b:List Int} (ha:lV a) (hb:lV b) (hab:b.length≤a.length) (hL:a.length≤60000000000):∃r,lV r∧r.length=a.length+1∧vD r=vD a+vD b∧Ev (fun K=>p6 K a b) r:=by
 obtain⟨o,c,h1,h2,h3,h4,h5,h6⟩:=aCm ha hb hab (by omega) a.length 0 (List.replicate (a.length+1) 0) 0 (by omega) (by simp) (aIq _ _ _) (by omega) (by omega) (by simp [W])
 have e1:aS ((a.length:Int)+1)=some ((a.length+1:Nat):Int):=ckN (m:=0) (by omega) (by omega)
 have e2:mkL ((a.length+1:Nat):Int) (0:Int)=some (List.replicate (a.length+1) 0):=aBM (by omega)
 refine⟨o.set a.length c,Dr.ok ?_,by simpa using h1,?_,⟨a.length+1,fun K hK=>?_⟩⟩
 ·rw [show(o.set a.length c).length=a.length+1 by simpa using h1]
  exact aCp h2 (by omega) (by omega) (by omega)
 ·unfold vD
  rw [show(o.set a.length c).length=a.length+1 by simpa using h1,dU,Nat.zero_add,eA (by omega),aAg (.inr (by omega)),h5,aBG hab]
 ·have h6':=h6 K K (by omega)
  simp only [Int.natCast_zero] at h6'
  simp only [p6,e1,e2,oB,h6',u9,bZ (xs:=o) (i:=a.length) (by omega),vQ (xs:=o) (i:=a.length) (v:=c) (by omega)]
theorem aJk {a b:List Int} (ha:lV a) (hb:lV b) (hL:a.length≤60000000000) (hM:b.length≤60000000000):∃r,lV r∧r.length≤max a.length b.length+1∧vD r=vD a+vD b∧Ev (fun K=>rQ K a b) r:=by
 by_cases h:a.length<b.length
 ·obtain⟨r,h1,h2,h3,h4⟩:=aLy hb ha (by omega) hM
  refine⟨r,h1,by omega,by omega,h4.congr fun K=>?_⟩
  simp only [rQ,show decide ((a.length:Int)<(b.length:Int))=true from decide_eq_true (by omega),bS]
 ·obtain⟨r,h1,h2,h3,h4⟩:=aLy ha hb (by omega) hL
  refine⟨r,h1,by omega,by omega,h4.congr fun K=>?_⟩
  simp only [rQ,show decide ((a.length:Int)<(b.length:Int))=false from decide_eq_false (by omega),bM]
end Go.Proofs.YtolfcbpgmfbgmaaGreat
set_option linter.unusedVariables false
namespace Go.Proofs.YtolfcbpgmfbgmaaGreat
theorem dT {p:Prop} [Decidable p] (h:p):decide p=true:=decide_eq_true h
theorem dF {p:Prop} [Decidable p] (h:¬p):decide p=false:=decide_eq_false h
theorem nT {x y:Int} (h:x≠y):(x != y)=true:=bne_iff_ne.2 h
theorem nF {x y:Int} (h:x=y):(x != y)=false:=by subst h;exact bne_self_eq_false x
theorem qT {x y:Int} (h:x=y):(x==y)=true:=beq_iff_eq.2 h
theorem qF {x y:Int} (h:x≠y):(x==y)=false:=beq_false_of_ne h
theorem aN5 {u:List Int} {k n:Nat} {v:Int} (h:k<n) (hl:k<u.length):W (u.set k v) 0 n=W u 0 n+(v-u.getD k 0)*PB k:=by
 obtain⟨c,rfl⟩:=Nat.exists_eq_add_of_le h
 rw [y6,y6,dU,dU,Nat.zero_add,eA hl,aAg (.inr (by omega)),aAg (.inl (by omega))]
 grind
theorem aPp {n:Nat} {a:List Int} (h:n=a.length):cpL (List.replicate n 0) a=a:=by
 subst h;simp [cpL]
theorem aE9 {a b x1:List Int} (ha:lV a) (hb:lV b) (hbl:b.length≤a.length) (hv:vD b≤vD a) (hL:a.length≤9000000000000) (hx:(cpL x1 a).length=a.length):∀(t i:Nat) (out:List Int),i+t=a.length→out.length=a.length→Dr out 0 i→
  (∀s,i<s→out.getD s 0=a.getD s 0)→a.getD i 0-1≤out.getD i 0→out.getD i 0≤a.getD i 0→W out 0 a.length+W b 0 i=vD a→
  ∃r,r.length=a.length∧lV r∧vD r=vD a-vD b∧∀K k,t<k→eI K a b x1 k out (i:Int)=some r
 |0,i,out,hi,ho,hD,hs,h1,h2,hW=>by
  have:i=a.length:=by omega
  subst this
  refine⟨out,ho,Dr.ok (by rwa [ho]),?_,fun K k hk=>?_⟩
  ·unfold vD
   rw [ho]
   rw [aBG hbl] at hW
   have e1:vD b=W b 0 b.length:=rfl
   have e2:vD a=W a 0 a.length:=rfl
   omega
  ·obtain⟨k',rfl,_⟩:=aY hk
   simp [eI,hx]
 |t+1,i,out,hi,ho,hD,hs,h1,h2,hW=>by
  have ha':=ha i
  have hb':=hb i
  have e1:decide ((i:Int)<((cpL x1 a).length:Int))=true:=dT (by omega)
  have e3:aS ((i:Int)+1)=some ((i+1:Nat):Int):=ckN (m:=0) (by omega) (by omega)
  have key:∀o:List Int,o.length=a.length→Dr o 0 i→(∀s,i<s→o.getD s 0=a.getD s 0)→o.getD i 0=out.getD i 0-b.getD i 0→W o 0 a.length+W b 0 (i+1)=vD a→
    ∃r,r.length=a.length∧lV r∧vD r=vD a-vD b∧∀K k,t≤k→t<k→kU K (i:Int) (eI K a b x1 k) o=some r:=by
   intro o hlo hDo hso hoi hWo
   have e2:=bZ (xs:=o) (i:=i) (by omega)
   by_cases hneg:o.getD i 0<0
   ·have e4:aS (o.getD i 0+1000000000)=some (o.getD i 0+1000000000):=vX (by omega)
    have hlt:i+1<a.length:=by
     rcases Nat.lt_or_ge (i+1) a.length with h|h
     ·exact h
     ·exfalso
      have hia:a.length=i+1:=by omega
      have w1:=(aBS hDo).2
      rw [hia] at hWo
      rw [dU,Nat.zero_add] at hWo
      have w2:vD b=W b 0 (i+1):=by rw [aBG (n:=i+1) (by omega)]
      have hp:=uD i
      have:o.getD i 0*PB i≤(-1)*PB i:=Int.mul_le_mul_of_nonneg_right (by omega) (by omega)
      have hbn:=hb.nonneg
      omega
    have e5:qL o (i:Int) (o.getD i 0+1000000000)=some (o.set i (o.getD i 0+1000000000)):=vQ (by omega)
    have e6:bF (o.set i (o.getD i 0+1000000000)) ((i+1:Nat):Int)=some (a.getD (i+1) 0):=by
     rw [bZ (by simp;omega),fP (by omega),hso _ (by omega)]
    have ha2:=ha (i+1)
    have e7:aS (a.getD (i+1) 0-1)=some (a.getD (i+1) 0-1):=vX (by omega)
    have e8:qL (o.set i (o.getD i 0+1000000000)) ((i+1:Nat):Int) (a.getD (i+1) 0-1)=some ((o.set i (o.getD i 0+1000000000)).set (i+1) (a.getD (i+1) 0-1)):=vQ (by simp;omega)
    obtain⟨r,g1,g2,g3,g4⟩:=aE9 ha hb hbl hv hL hx t (i+1) ((o.set i (o.getD i 0+1000000000)).set (i+1) (a.getD (i+1) 0-1)) (by omega) (by simpa using hlo)
     (fun s hs'=>by
      rw [fP (by omega)]
      exact aCp hDo (by omega) (by omega) (by omega) s hs')
     (fun s hs'=>by rw [fP (by omega),fP (by omega),hso s (by omega)])
     (by rw [eA (by simp;omega)];omega) (by rw [eA (by simp;omega)];omega)
     (by
      rw [aN5 (k:=i+1) (by omega) (by simp;omega),aN5 (k:=i) (by omega) (by omega),fP (by omega),hso (i+1) (by omega)]
      simp only [PB] at *
      have:o.getD i 0+1000000000-o.getD i 0=1000000000:=by omega
      rw [this]
      have:a.getD (i+1) 0-1-a.getD (i+1) 0=-1:=by omega
      rw [this]
      omega)
    refine⟨r,g1,g2,g3,fun K k hk hk'=>?_⟩
    simp only [kU,e2,e3,e4,e5,e6,e7,e8,dT hneg,bS,oB]
    exact g4 K k hk'
   ·obtain⟨r,g1,g2,g3,g4⟩:=aE9 ha hb hbl hv hL hx t (i+1) o (by omega) hlo (fun s hs'=>by
      by_cases e:s=i
      ·subst e;rw [Nat.zero_add];omega
      ·exact hDo s (by omega)) (fun s hs'=>hso s (by omega)) (by rw [hso _ (by omega)];omega) (by rw [hso _ (by omega)];omega) hWo
    refine⟨r,g1,g2,g3,fun K k hk hk'=>?_⟩
    simp only [kU,e2,e3,dF hneg,bM,oB]
    exact g4 K k hk'
  by_cases hib:i<b.length
  ·have f1:decide ((i:Int)<(b.length:Int))=true:=dT (by omega)
   have f2:=bZ (xs:=b) (i:=i) hib
   have f3:=bZ (xs:=out) (i:=i) (by omega)
   have f4:aS (out.getD i 0-b.getD i 0)=some (out.getD i 0-b.getD i 0):=vX (by omega)
   have f5:qL out (i:Int) (out.getD i 0-b.getD i 0)=some (out.set i (out.getD i 0-b.getD i 0)):=vQ (by omega)
   obtain⟨r,g1,g2,g3,g4⟩:=key (out.set i (out.getD i 0-b.getD i 0)) (by simpa using ho) (fun s hs'=>by rw [fP (by omega)];exact hD s hs') (fun s hs'=>by rw [fP (by omega)];exact hs s hs') (eA (by omega)) (by
    rw [aN5 (by omega) (by omega),dU,Nat.zero_add]
    have:(out.getD i 0-b.getD i 0-out.getD i 0)=- b.getD i 0:=by omega
    rw [this,Int.neg_mul]
    omega)
   refine⟨r,g1,g2,g3,fun K k hk=>?_⟩
   obtain⟨k',rfl,_⟩:=aY hk
   simp only [eI,e1,f1,f2,f3,f4,f5,bS,oB]
   exact g4 K k' (by omega) (by omega)
  ·have f1:decide ((i:Int)<(b.length:Int))=false:=dF (by omega)
   have f2:b.getD i 0=0:=xB (by omega)
   obtain⟨r,g1,g2,g3,g4⟩:=key out ho hD hs (by omega) (by rw [dU,Nat.zero_add,f2];omega)
   refine⟨r,g1,g2,g3,fun K k hk=>?_⟩
   obtain⟨k',rfl,_⟩:=aY hk
   simp only [eI,e1,f1,bS,bM]
   exact g4 K k' (by omega) (by omega)
theorem aEQ {a b:List Int} (ha:lV a) (hb:lV b) (hbl:b.length≤a.length) (hv:vD b≤vD a) (hL:a.length≤60000000000):
  ∃r,r.length=a.length∧lV r∧vD r=vD a-vD b∧Ev (fun K=>nM K a b) r:=by
 have e1:mkL (a.length:Int) (0:Int)=some (List.replicate a.length 0):=aBM (by omega)
 have e2:cpL (List.replicate a.length 0) a=a:=aPp rfl
 obtain⟨r,g1,g2,g3,g4⟩:=aE9 (x1:=List.replicate a.length 0) ha hb hbl hv (by omega) (by rw [e2]) a.length 0 a (by omega) rfl (fun s h=>by omega) (fun s h=>rfl) (by omega) (by omega) (by simp [W])
 refine⟨r,g1,g2,g3,⟨a.length+1,fun K hK=>?_⟩⟩
 have h:=g4 K K (by omega)
 simp only [Int.natCast_zero] at h
 simp only [nM,e1,e2,oB,h,t0]
theorem aIr (x y:Int):iS x y=some (if x<y then -1 else if y<x then 1 else 0):=by
 unfold iS n9
 have e1:(x != x)=false:=by simp
 have e2:(y != y)=false:=by simp
 simp only [e1,e2,oB,bM]
 by_cases h:x<y
 ·rw [dT h,bS,if_pos h]
 ·rw [dF h,bM,if_neg h]
  by_cases h2:y<x
  ·rw [dT h2,bS,if_pos h2]
  ·rw [dF h2,bM,if_neg h2]
theorem aLx {u v:List Int} {n:Nat} (hu:lV u) (hv:lV v) (h:u.getD n 0<v.getD n 0):W u 0 (n+1)<W v 0 (n+1):=by
 rw [dU,dU,Nat.zero_add]
 have h1:=(aBS (hu.dr 0 n)).2
 have h2:=(aBS (hv.dr 0 n)).1
 have hp:=uD n
 have:(u.getD n 0+1)*PB n≤v.getD n 0*PB n:=Int.mul_le_mul_of_nonneg_right (by omega) (by omega)
 rw [Int.add_mul] at this
 omega
def xK (x y:Int):Int:=if x<y then -1 else if y<x then 1 else 0
theorem aF6 {u v:List Int} (hu:lV u) (hv:lV v) (hl:u.length=v.length) (hL:u.length≤9000000000000):∀(j:Nat),j≤u.length→∀K k,j<k→
  gI K u v k ((j:Int)-1)=some (if W u 0 j<W v 0 j then .ret (-1) else if W v 0 j<W u 0 j then .ret 1 else .go ())
 |0,_,K,k,hk=>by
  obtain⟨k',rfl,_⟩:=aY hk
  simp [gI,W]
 |j+1,hj,K,k,hk=>by
  obtain⟨k',rfl,hk'⟩:=aY hk
  have e0:((j+1:Nat):Int)-1=(j:Int):=by omega
  have e1:decide (0≤(j:Int))=true:=dT (by omega)
  have e2:=bZ (xs:=u) (i:=j) (by omega)
  have e3:=bZ (xs:=v) (i:=j) (by omega)
  rw [e0]
  rcases Int.lt_trichotomy (u.getD j 0) (v.getD j 0) with h|h|h
  ·have:=aLx hu hv h
   have e4:(u.getD j 0 != v.getD j 0)=true:=nT (by omega)
   simp only [gI,e1,e2,e3,e4,bS,oB,aIr]
   rw [if_pos h,if_pos this]
  ·have e4:(u.getD j 0 != v.getD j 0)=false:=nF h
   have e5:aS ((j:Int)-1)=some ((j:Int)-1):=vX (by omega)
   have ih:=aF6 hu hv hl hL j (by omega) K k' (by omega)
   have c1:(W u 0 (j+1)<W v 0 (j+1))↔(W u 0 j<W v 0 j):=by rw [dU,dU,Nat.zero_add,h];omega
   have c2:(W v 0 (j+1)<W u 0 (j+1))↔(W v 0 j<W u 0 j):=by rw [dU,dU,Nat.zero_add,h];omega
   simp only [gI,e1,e2,e3,e4,e5,bS,bM,oB,c1,c2]
   exact ih
  ·have:=aLx hv hu h
   have e4:(u.getD j 0 != v.getD j 0)=true:=nT (by omega)
   simp only [gI,e1,e2,e3,e4,bS,oB,aIr]
   rw [if_neg (by omega),if_pos h,if_neg (by omega),if_pos this]
theorem aHM {u v:List Int} (hu:lV u) (hv:lV v) (tv:Top v) (h:u.length<v.length):vD u<vD v:=by
 have h1:=hu.lt
 have h2:=tv.pos hv (by intro e;subst e;simp at h)
 have h3:=aEy (a:=u.length) (b:=v.length-1) (by omega)
 omega
theorem aA1 {u v:List Int} (hu:lV u) (hv:lV v) (tu:Top u) (tv:Top v) (hL:u.length≤9000000000000):Ev (fun K=>gJ K u v) (xK (vD u) (vD v)):=by
 refine⟨u.length+1,fun K hK=>?_⟩
 by_cases h:u.length=v.length
 ·have e1:((u.length:Int) != (v.length:Int))=false:=nF (by omega)
  have e2:aS ((u.length:Int)-1)=some ((u.length:Int)-1):=vX (by omega)
  have e3:=aF6 hu hv h hL u.length (Nat.le_refl _) K K (by omega)
  simp only [gJ,e1,e2,e3,bM,oB]
  unfold xK vD
  rw [←h]
  by_cases h1:W u 0 u.length<W v 0 u.length
  ·rw [if_pos h1,if_pos h1]
  ·rw [if_neg h1,if_neg h1]
   by_cases h2:W v 0 u.length<W u 0 u.length
   ·rw [if_pos h2,if_pos h2]
   ·rw [if_neg h2,if_neg h2];rfl
 ·have e1:((u.length:Int) != (v.length:Int))=true:=nT (by omega)
  simp only [gJ,e1,bS,oB,aIr]
  unfold xK
  rcases Nat.lt_or_ge u.length v.length with h1|h1
  ·have:=aHM hu hv tv h1
   rw [if_pos (by omega),if_pos this]
  ·have:=aHM hv hu tu (by omega)
   rw [if_neg (by omega),if_pos (by omega),if_neg (by omega),if_pos this]
theorem aGe {x y:Int} (h1:0≤x) (h2:x<1000000000) (h3:0≤y) (h4:y<1000000000):0≤x*y∧x*y≤999999998000000001:=by
 refine⟨Int.mul_nonneg h1 h3,?_⟩
 have:x*y≤999999999*999999999:=Int.mul_le_mul (by omega) (by omega) h3 (by omega)
 omega
theorem W1 (u:List Int) (j:Nat):W u j 1=u.getD j 0:=by simp [W,PB]
theorem W2 (u:List Int) (j:Nat):W u j 2=u.getD j 0+u.getD (j+1) 0*1000000000:=by simp [W,PB]
theorem vD0:vD []=0:=rfl
theorem vD1 (a:Int):vD [a]=a:=by show W _ 0 1=a;rw [W1];rfl
theorem vD2 (a b:Int):vD [a,b]=a+b*1000000000:=by show W _ 0 2=_;rw [W2];rfl
theorem aCS {u:List Int} (hu:lV u):rL u=some (if u.length≤2 then(vD u,true) else(0,false)):=by
 unfold rL
 have h0:=hu 0
 have h1:=hu 1
 match u,hu with
 |[],_=>simp [vD0]
 |[a],_=>
  have e:=bZ (xs:=[a]) (i:=0) (by simp)
  simp only [Int.natCast_zero] at e
  simp [e,vD1]
 |[a,b],_=>
  simp at h0 h1
  have e:=bZ (xs:=[a,b]) (i:=0) (by simp)
  have e':=bZ (xs:=[a,b]) (i:=1) (by simp)
  simp only [Int.natCast_zero,Int.natCast_one] at e e'
  have f1:aS (b*1000000000)=some (b*1000000000):=vX (by omega)
  have f2:aS (b*1000000000+a)=some (b*1000000000+a):=vX (by omega)
  simp [e,e',vD2,f1,f2]
  omega
 |a::b::c::t,_=>
  have e1:(((a::b::c::t).length:Int)==0)=false:=qF (by simp;omega)
  have e2:(((a::b::c::t).length:Int)==1)=false:=qF (by simp;omega)
  have e3:(((a::b::c::t).length:Int)==2)=false:=qF (by simp;omega)
  simp only [e1,e2,e3,bM]
  rw [if_neg (by simp)]
theorem aPN {x:Int} (h0:0≤x) (h1:x≤18446744073709551615):wu x=x:=IntWalk.u64_in x ⟨h0,h1⟩
theorem aPD {x y:Int} (h0:0≤x) (h1:0<y) (h2:x≤18446744073709551615):uq x y=some (x/y):=by
 unfold uq
 rw [if_neg (by omega),Int.tdiv_eq_ediv_of_nonneg h0]
 have a:=Int.ediv_nonneg h0 (Int.le_of_lt h1)
 have b:=Int.ediv_le_self y h0
 rw [aPN a (by omega)]
theorem aL2 {n:Nat} (h0:n≠0) (h:n<1000000000):bO n=[(n:Int)]:=by
 rw [yN h0,show n/1000000000=0 by omega,aAZ,show n%1000000000=n by omega]
theorem uV (neg:Bool) {n:Nat} (h:n≤18446744073709551615):fE neg (n:Int)=some (mkG neg n):=by
 unfold fE mkG
 have i64:∀x:Int,0≤x→x≤9223372036854775807→IntKind.i64.wrap x=x:=fun x a b=>IntWalk.i64_in x ⟨by omega,b⟩
 by_cases h0:n=0
 ·subst h0;simp
 ·have e0:((n:Int)==0)=false:=qF (by omega)
  rw [e0,bM,if_neg h0]
  by_cases h1:n<1000000000
  ·rw [dT (by omega),bS,aL2 h0 h1,i64 _ (by omega) (by omega)]
  ·rw [dF (by omega),bM,yN h0]
   have q1:uq (n:Int) 1000000000=some ((n:Int)/1000000000):=aPD (by omega) (by omega) (by omega)
   have r1:chr (n:Int) 1000000000=some ((n:Int)%1000000000):=u5 (by omega) (by omega)
   by_cases h2:n<1000000000000000000
   ·rw [dT (by omega),bS]
    simp only [q1,r1,oB]
    rw [aL2 (n:=n/1000000000) (by omega) (by omega),i64 _ (by omega) (by omega),i64 _ (by omega) (by omega)]
    simp
   ·rw [dF (by omega),bM]
    have q2:uq ((n:Int)/1000000000) 1000000000=some ((n:Int)/1000000000/1000000000):=aPD (by omega) (by omega) (by omega)
    have r2:chr ((n:Int)/1000000000) 1000000000=some ((n:Int)/1000000000%1000000000):=u5 (by omega) (by omega)
    simp only [q1,r1,q2,r2,oB]
    rw [yN (n:=n/1000000000) (by omega),aL2 (n:=n/1000000000/1000000000) (by omega) (by omega),i64 _ (by omega) (by omega),i64 _ (by omega) (by omega),i64 _ (by omega) (by omega)]
    simp
theorem aGa {n:Int} (h:-9223372036854775808≤n∧n≤9223372036854775807):m6 n=some (Z n):=by
 unfold m6
 by_cases h0:n<0
 ·rw [dT h0,bS]
  have e1:wu (-(IntKind.u64.wrap n))=((-n).toNat:Int):=by
   show IntKind.u64.wrap (-(IntKind.u64.wrap n))=_
   simp only [IntKind.wrap,IntKind.bits,IntKind.signed]
   simp
   omega
  rw [e1,uV _ (by omega),oB,aLm]
  congr 2;omega
 ·rw [dF h0,bM]
  have e1:IntKind.u64.wrap n=((n.toNat:Nat):Int):=by rw [IntWalk.u64_in n (by omega)];omega
  rw [e1,uV _ (by omega),oB,o5]
  congr 2;omega
theorem Z_d (x:Int):(Z x).d=bO x.natAbs:=rfl
theorem uA (x:Int):(Z x).neg=decide (x<0):=rfl
theorem uM (x:Int):(Z x).d.length=dl x.natAbs:=rfl
theorem aNt (x:Int):wR (Z x)=some x.sign:=by
 unfold wR
 rw [uA,uM]
 by_cases h:x<0
 ·rw [dT h,bS,Int.sign_eq_neg_one_of_neg h]
 ·rw [dF h,bM]
  by_cases h0:x=0
  ·subst h0;rw [show Int.natAbs 0=0 from rfl,yE];rfl
  ·have:dl x.natAbs≠0:=by rw [Ne,xP];omega
   have e:((dl x.natAbs:Int)==0)=false:=qF (by omega)
   rw [e,bM,Int.sign_eq_one_of_pos (by omega)]
theorem aLA (x:Int):tR (Z x)=some (Z (-x)):=by
 unfold tR
 rw [uA,uM,Z_d]
 unfold Z
 rw [Int.natAbs_neg]
 by_cases h:x<0
 ·have:dl x.natAbs≠0:=by rw [Ne,xP];omega
  rw [dT h,dF (p:=-x<0) (by omega)];rfl
 ·rw [dF h]
  simp only [Bool.not_false,bS]
  congr 2
  by_cases h0:x=0
  ·subst h0;rw [show Int.natAbs 0=0 from rfl,yE];rfl
  ·have:dl x.natAbs≠0:=by rw [Ne,xP];omega
   rw [dT (by omega),dT (by omega)]
theorem aLL {x y:Int} (hx:dl x.natAbs≤50000000000) (hy:dl y.natAbs≤50000000000):Ev (fun K=>oQ K (Z x) (Z y)) (Z (x+y)):=by
 have dx:=bN x.natAbs
 have dy:=bN y.natAbs
 have vx:=dJ x.natAbs
 have vy:=dJ y.natAbs
 have tx:=pL x.natAbs
 have ty:=pL y.natAbs
 have lx:(bO x.natAbs).length≤50000000000:=hx
 have ly:(bO y.natAbs).length≤50000000000:=hy
 unfold oQ
 simp only [Z_d,uA]
 by_cases hs:(decide (x<0)==decide (y<0))=true
 ·simp only [hs,bS]
  obtain⟨r,h1,h2,h3,h4⟩:=aJk dx dy (by omega) (by omega)
  have h5:=z5 (decide (x<0)) h1 (by omega)
  refine Ev.bind h4 (Ev.bind h5 ?_)
  rw [wT]
  have hs':(x<0)↔(y<0):=by simpa using hs
  have:(if decide (x<0)=true then -(((vD r).toNat:Nat):Int) else(((vD r).toNat:Nat):Int))=x+y:=by
   by_cases h:x<0
   ·rw [if_pos (by simpa using h)];omega
   ·rw [if_neg (by simpa using h)];omega
  rw [this]
  exact Ev.pure _
 ·simp only [Bool.not_eq_true] at hs
  simp only [hs,bM]
  have hs':¬((x<0)↔(y<0)):=by simpa using hs
  refine Ev.bind (aA1 dx dy tx ty (by omega)) ?_
  rw [vx,vy]
  unfold xK
  by_cases hlt:x.natAbs<y.natAbs
  ·have hle:(bO x.natAbs).length≤(bO y.natAbs).length:=sW (by omega)
   obtain⟨r,h1,h2,h3,h4⟩:=aEQ dy dx hle (by omega) (by omega)
   have h5:=z5 (decide (y<0)) h2 (by omega)
   rw [if_pos (by omega)]
   refine Ev.congr (g:=fun K=>(nM K (bO y.natAbs) (bO x.natAbs)).bind fun v16=>(eK K (decide (y<0)) v16).bind fun v18=>some v18) ?_ (fun K=>rfl)
   refine Ev.bind h4 (Ev.bind h5 ?_)
   rw [wT]
   have:(if decide (y<0)=true then -(((vD r).toNat:Nat):Int) else(((vD r).toNat:Nat):Int))=x+y:=by
    by_cases h:y<0
    ·rw [if_pos (by simpa using h)];omega
    ·rw [if_neg (by simpa using h)];omega
   rw [this]
   exact Ev.pure _
  ·have hle:(bO y.natAbs).length≤(bO x.natAbs).length:=sW (by omega)
   obtain⟨r,h1,h2,h3,h4⟩:=aEQ dx dy hle (by omega) (by omega)
   have h5:=z5 (decide (x<0)) h2 (by omega)
   have hc:decide ((if(x.natAbs:Int)<y.natAbs then(-1:Int) else if(y.natAbs:Int)<x.natAbs then 1 else 0)<0)=false:=by
    rw [if_neg (by omega)]
    split<;>rfl
   simp only [hc,bM]
   refine Ev.bind h4 (Ev.bind h5 ?_)
   rw [wT]
   have:(if decide (x<0)=true then -(((vD r).toNat:Nat):Int) else(((vD r).toNat:Nat):Int))=x+y:=by
    by_cases h:x<0
    ·rw [if_pos (by simpa using h)];omega
    ·rw [if_neg (by simpa using h)];omega
   rw [this]
   exact Ev.pure _
end Go.Proofs.YtolfcbpgmfbgmaaGreat
set_option linter.unusedVariables false
namespace Go.Proofs.YtolfcbpgmfbgmaaGreat
theorem aNy {v:Int} (h:0≤v):0≤v/1000000000∧0≤v%1000000000∧v%1000000000<1000000000∧v%1000000000+1000000000*(v/1000000000)=v:=by omega
theorem aJc {out a:List Int} {i:Nat} {c c' k v:Int} (hl:i<out.length) (hI:W out 0 i+c*PB i=k*W a 0 i) (hv:v+1000000000*c'=a.getD i 0*k+c):
  W (out.set i v) 0 (i+1)+c'*PB (i+1)=k*W a 0 (i+1):=by
 rw [dU,dU,Nat.zero_add,eA hl,aAg (.inr (by omega))]
 simp only [PB]
 grind
theorem aFH {a:List Int} {f:Int} (ha:lV a) (hf0:0≤f) (hf1:f<1000000000) (hL:a.length≤9000000000000):∀(t i:Nat) (out:List Int) (c:Int),i+t=a.length→out.length=a.length+1→Dr out 0 i→0≤c→c<1000000000→W out 0 i+c*PB i=f*W a 0 i→
  ∃out' c',out'.length=a.length+1∧Dr out' 0 a.length∧0≤c'∧c'<1000000000∧W out' 0 a.length+c'*PB a.length=f*vD a∧∀K k,t<k→kI K a f k out c (i:Int)=some (out',c')
 |0,i,out,c,hi,ho,hD,hc0,hc1,hI=>by
  have:i=a.length:=by omega
  subst this
  refine⟨out,c,ho,hD,hc0,hc1,hI,fun K k hk=>?_⟩
  obtain⟨k',rfl,_⟩:=aY hk
  simp [kI]
 |t+1,i,out,c,hi,ho,hD,hc0,hc1,hI=>by
  have ha':=ha i
  have hm:=aGe ha'.1 ha'.2 hf0 hf1
  obtain⟨d1,d2,d3,d4⟩:=aNy (v:=a.getD i 0*f+c) (by omega)
  have e1:decide ((i:Int)<(a.length:Int))=true:=dT (by omega)
  have e2:=bZ (xs:=a) (i:=i) (by omega)
  have e3:aS ((i:Int)+1)=some ((i+1:Nat):Int):=ckN (m:=0) (by omega) (by omega)
  have e4:=bZ (xs:=out) (i:=i) (by omega)
  have e5:∀v,qL out (i:Int) v=some (out.set i v):=fun v=>vQ (by omega)
  have e6:aS (a.getD i 0*f)=some (a.getD i 0*f):=vX (by omega)
  have e7:aS (a.getD i 0*f+c)=some (a.getD i 0*f+c):=vX (by omega)
  have e8:chr (a.getD i 0*f+c) 1000000000=some ((a.getD i 0*f+c)%1000000000):=u5 (by omega) (by omega)
  have e9:chq (a.getD i 0*f+c) 1000000000=some ((a.getD i 0*f+c)/1000000000):=xV (by omega) (by omega) (by omega)
  obtain⟨o,d,h1,h2,h3,h4,h5,h6⟩:=aFH ha hf0 hf1 hL t (i+1) (out.set i ((a.getD i 0*f+c)%1000000000)) ((a.getD i 0*f+c)/1000000000) (by omega) (by simpa using ho) (aCp hD (by omega) (by omega) (by omega)) (by omega) (by omega) (aJc (by omega) hI (by omega))
  refine⟨o,d,h1,h2,h3,h4,h5,fun K k hk=>?_⟩
  obtain⟨k',rfl,_⟩:=aY hk
  simp only [kI,e1,e2,e3,e4,e5,e6,e7,e8,e9,bS,oB]
  exact h6 K k' (by omega)
theorem aGx {a:List Int} {f:Int} (ha:lV a) (hf0:0≤f) (hf1:f<1000000000) (hL:a.length≤60000000000):∃r,r.length=a.length+1∧lV r∧vD r=f*vD a∧Ev (fun K=>oL K a f) r:=by
 obtain⟨o,c,h1,h2,h3,h4,h5,h6⟩:=aFH ha hf0 hf1 (by omega) a.length 0 (List.replicate (a.length+1) 0) 0 (by omega) (by simp) (aIq _ _ _) (by omega) (by omega) (by simp [W])
 have e1:aS ((a.length:Int)+1)=some ((a.length+1:Nat):Int):=ckN (m:=0) (by omega) (by omega)
 have e2:mkL ((a.length+1:Nat):Int) (0:Int)=some (List.replicate (a.length+1) 0):=aBM (by omega)
 refine⟨o.set a.length c,by simpa using h1,Dr.ok ?_,?_,⟨a.length+1,fun K hK=>?_⟩⟩
 ·rw [show(o.set a.length c).length=a.length+1 by simpa using h1]
  exact aCp h2 (by omega) (by omega) (by omega)
 ·unfold vD at h5 ⊢
  rw [show(o.set a.length c).length=a.length+1 by simpa using h1,dU,Nat.zero_add,eA (by omega),aAg (.inr (by omega)),h5]
 ·have h6':=h6 K K (by omega)
  simp only [Int.natCast_zero] at h6'
  simp only [oL,e1,e2,oB,h6',tG,bZ (xs:=o) (i:=a.length) (by omega),vQ (xs:=o) (i:=a.length) (v:=c) (by omega)]
theorem aDJ (u:List Int) (j n:Nat):W u j (n+1)=u.getD j 0+1000000000*W u (j+1) n:=by
 rw [Nat.add_comm n 1,y6,W1,show PB 1=1000000000 from by decide]
theorem aHh {a:List Int} {b:Int} (ha:lV a) (hb0:0<b) (hb1:b<1000000000) (hL:a.length≤9000000000000):∀(j:Nat) (q:List Int) (r:Int),j≤a.length→q.length=a.length→Dr q j (a.length-j)→0≤r→r<b→W a j (a.length-j)=b*W q j (a.length-j)+r→
  ∃q' r',q'.length=a.length∧lV q'∧0≤r'∧r'<b∧vD a=b*vD q'+r'∧∀K k,j<k→kX K a b k q r ((j:Int)-1)=some (q',r')
 |0,q,r,hj,hq,hD,hr0,hr1,hI=>by
  refine⟨q,r,hq,Dr.ok (by rw [hq];simpa using hD),hr0,hr1,?_,fun K k hk=>?_⟩
  ·simp only [Nat.sub_zero] at hI
   unfold vD
   rw [hq];exact hI
  ·obtain⟨k',rfl,_⟩:=aY hk
   simp [kX]
 |j+1,q,r,hj,hq,hD,hr0,hr1,hI=>by
  have ha':=ha j
  have e0:((j+1:Nat):Int)-1=(j:Int):=by omega
  have e1:decide (0≤(j:Int))=true:=dT (by omega)
  have e2:=bZ (xs:=a) (i:=j) (by omega)
  have e3:aS ((j:Int)-1)=some ((j:Int)-1):=vX (by omega)
  have e4:=bZ (xs:=q) (i:=j) (by omega)
  have e5:∀v,qL q (j:Int) v=some (q.set j v):=fun v=>vQ (by omega)
  have e6:aS (r*1000000000)=some (r*1000000000):=vX (by omega)
  have e7:aS (r*1000000000+a.getD j 0)=some (r*1000000000+a.getD j 0):=vX (by omega)
  have e8:chr (r*1000000000+a.getD j 0) b=some ((r*1000000000+a.getD j 0)%b):=u5 (by omega) hb0
  have e9:chq (r*1000000000+a.getD j 0) b=some ((r*1000000000+a.getD j 0)/b):=xV (by omega) hb0 (by omega)
  have hq0:0≤(r*1000000000+a.getD j 0)/b:=Int.ediv_nonneg (by omega) (by omega)
  have hq1:(r*1000000000+a.getD j 0)/b<1000000000:=Int.ediv_lt_of_lt_mul hb0 (by
   have:(r+1)*1000000000≤b*1000000000:=Int.mul_le_mul_of_nonneg_right (by omega) (by omega)
   rw [Int.mul_comm 1000000000 b]
   omega)
  have hm0:=Int.emod_nonneg (r*1000000000+a.getD j 0) (show b≠0 by omega)
  have hm1:=Int.emod_lt_of_pos (r*1000000000+a.getD j 0) hb0
  have hdm:=Int.mul_ediv_add_emod (r*1000000000+a.getD j 0) b
  have es:a.length-j=(a.length-(j+1))+1:=by omega
  obtain⟨q',r',h1,h2,h3,h4,h5,h6⟩:=aHh ha hb0 hb1 hL j (q.set j ((r*1000000000+a.getD j 0)/b)) ((r*1000000000+a.getD j 0)%b) (by omega) (by simpa using hq)
   (fun i hi=>by
    by_cases e:i=0
    ·subst e;rw [Nat.add_zero,eA (by omega)];exact⟨hq0,hq1⟩
    ·rw [fP (by omega)]
     have:=hD (i-1) (by omega)
     rwa [show j+1+(i-1)=j+i by omega] at this) hm0 hm1 (by
    rw [es,aDJ,aDJ,eA (by omega),aAg (.inl (by omega)),hI]
    grind)
  refine⟨q',r',h1,h2,h3,h4,h5,fun K k hk=>?_⟩
  obtain⟨k',rfl,_⟩:=aY hk
  rw [e0]
  simp only [kX,e1,e2,e3,e4,e5,e6,e7,e8,e9,bS,oB]
  exact h6 K k' (by omega)
theorem aHm {a:List Int} {b:Int} (ha:lV a) (hb0:0<b) (hb1:b<1000000000) (hL:a.length≤60000000000):∃q r,q.length=a.length∧lV q∧vD q=vD a/b∧r=vD a%b∧Ev (fun K=>sO K a b) (q,r):=by
 obtain⟨q,r,h1,h2,h3,h4,h5,h6⟩:=aHh ha hb0 hb1 (by omega) a.length (List.replicate a.length 0) 0 (Nat.le_refl _) (by simp) (aIq _ _ _) (by omega) hb0 (by simp [W])
 have e1:mkL (a.length:Int) (0:Int)=some (List.replicate a.length 0):=aBM (by omega)
 have e2:aS ((a.length:Int)-1)=some ((a.length:Int)-1):=vX (by omega)
 refine⟨q,r,h1,h2,?_,?_,⟨a.length+1,fun K hK=>?_⟩⟩
 ·rw [h5,Int.add_comm,Int.add_mul_ediv_left _ _ (by omega),Int.ediv_eq_zero_of_lt h3 h4,Int.zero_add]
 ·rw [h5,Int.add_comm,Int.add_mul_emod_self_left,Int.emod_eq_of_lt h3 h4]
 ·have h6':=h6 K K (by omega)
  simp only [sO,e1,e2,oB,h6',tZ]
theorem aMT {out o0 b:List Int} {i k:Nat} {c c' f v:Int} (hl:i+k<out.length) (hI:W out i k+c*PB k=W o0 i k+f*W b 0 k) (hv:v+1000000000*c'=o0.getD (i+k) 0+f*b.getD k 0+c):
  W (out.set (i+k) v) i (k+1)+c'*PB (k+1)=W o0 i (k+1)+f*W b 0 (k+1):=by
 rw [dU,dU,dU,eA hl,aAg (.inr (by omega)),Nat.zero_add]
 simp only [PB]
 grind
structure aIa (o0 b:List Int) (i:Nat) (f:Int) (out:List Int) (c:Int) (k:Nat):Prop where
 len:out.length=o0.length
 ok:lV out
 c0:0≤c
 c1:c<1000000000
 same:∀s,s<i∨i+k≤s→out.getD s 0=o0.getD s 0
 val:W out i k+c*PB k=W o0 i k+f*W b 0 k
theorem lV.set {u:List Int} {i:Nat} {v:Int} (h:lV u) (h0:0≤v) (h1:v<1000000000):lV (u.set i v):=fun t=>by
 rw [aBm];split
 ·exact⟨h0,h1⟩
 ·exact h t
theorem aIa.step {o0 b out:List Int} {i k:Nat} {f c:Int} (h:aIa o0 b i f out c k) (hl:i+k<o0.length) (hf0:0≤f) (hf1:f<1000000000) (hb:lV b):
  0≤out.getD (i+k) 0+f*b.getD k 0+c∧out.getD (i+k) 0+f*b.getD k 0+c≤999999999999999999∧0≤f*b.getD k 0∧f*b.getD k 0≤999999998000000001∧0≤out.getD (i+k) 0∧out.getD (i+k) 0<1000000000∧
  aIa o0 b i f (out.set (i+k) ((out.getD (i+k) 0+f*b.getD k 0+c)%1000000000)) ((out.getD (i+k) 0+f*b.getD k 0+c)/1000000000) (k+1):=by
 have hb':=hb k
 have hm:=aGe hf0 hf1 hb'.1 hb'.2
 have ho:=h.ok (i+k)
 have c0:=h.c0
 have c1:=h.c1
 obtain⟨d1,d2,d3,d4⟩:=aNy (v:=out.getD (i+k) 0+f*b.getD k 0+c) (by omega)
 have he:=h.same (i+k) (.inr (Nat.le_refl _))
 refine⟨by omega,by omega,hm.1,hm.2,ho.1,ho.2,by simpa using h.len,h.ok.set d2 d3,d1,by omega,fun s hs=>?_,by exact aMT (by have:=h.len;omega) h.val (by omega)⟩
 rw [fP (by omega)]
 exact h.same s (by omega)
theorem aKS {o0:List Int} {y:aE} {i:Nat} {f:Int} (hb:lV y.d) (hf0:0≤f) (hf1:f<1000000000) (hl:i+y.d.length≤o0.length) (hL:o0.length≤9000000000000):∀(t k:Nat) (out:List Int) (c:Int),k+t=y.d.length→aIa o0 y.d i f out c k→
  ∃out' c',aIa o0 y.d i f out' c' y.d.length∧∀K n,t<n→iP K y (i:Int) f n out c (k:Int)=some (out',c')
 |0,k,out,c,hk,hP=>by
  have:k=y.d.length:=by omega
  subst this
  refine⟨out,c,hP,fun K n hn=>?_⟩
  obtain⟨n',rfl,_⟩:=aY hn
  simp [iP]
 |t+1,k,out,c,hk,hP=>by
  obtain⟨g1,g2,g3,g4,g5,g6,g7⟩:=hP.step (by omega) hf0 hf1 hb
  have c0:=hP.c0
  have c1:=hP.c1
  have hlo:=hP.len
  generalize hv:out.getD (i+k) 0+f*y.d.getD k 0+c=v at *
  have e1:decide ((k:Int)<(y.d.length:Int))=true:=dT (by omega)
  have e2:=bZ (xs:=y.d) (i:=k) (by omega)
  have e3:aS ((k:Int)+1)=some ((k+1:Nat):Int):=ckN (m:=0) (by omega) (by omega)
  have e4:aS ((i:Int)+(k:Int))=some ((i+k:Nat):Int):=ckN (m:=0) (by omega) (by omega)
  have e5:=bZ (xs:=out) (i:=i+k) (by omega)
  have e6:aS (f*y.d.getD k 0)=some (f*y.d.getD k 0):=vX (by omega)
  have e7:aS (out.getD (i+k) 0+f*y.d.getD k 0)=some (out.getD (i+k) 0+f*y.d.getD k 0):=vX (by omega)
  have e8:aS (out.getD (i+k) 0+f*y.d.getD k 0+c)=some v:=by rw [hv];exact vX (by omega)
  have e9:chq v 1000000000=some (v/1000000000):=xV (by omega) (by omega) (by omega)
  have e10:aS (v/1000000000*1000000000)=some (v/1000000000*1000000000):=vX (by omega)
  have e11:aS (v-v/1000000000*1000000000)=some (v%1000000000):=by
   rw [show v-v/1000000000*1000000000=v%1000000000 by omega];exact vX (by omega)
  have e12:qL out ((i+k:Nat):Int) (v%1000000000)=some (out.set (i+k) (v%1000000000)):=vQ (by omega)
  obtain⟨o,d,h1,h2⟩:=aKS hb hf0 hf1 hl hL t (k+1) _ _ (by omega) g7
  refine⟨o,d,h1,fun K n hn=>?_⟩
  obtain⟨n',rfl,_⟩:=aY hn
  simp only [iP,e1,e2,e3,e4,e5,e6,e7,e8,e9,e10,e11,e12,bS,oB]
  exact h2 K n' (by omega)
structure aFa (a b out:List Int) (i:Nat):Prop where
 len:out.length=a.length+b.length
 ok:lV out
 zero:∀s,i+b.length≤s→out.getD s 0=0
 val:W out 0 (i+b.length)=W a 0 i*vD b
theorem aFa.start (a b:List Int):aFa a b (List.replicate (a.length+b.length) 0) 0 where
 len:=by simp
 ok:=fun i=>by simp only [List.getD_eq_getElem?_getD,List.getElem?_replicate];split<;>simp
 zero:=fun s _=>by simp only [List.getD_eq_getElem?_getD,List.getElem?_replicate];split<;>simp
 val:=by
  rw [aFx]
  ·simp [W]
  ·intro i _;simp only [List.getD_eq_getElem?_getD,List.getElem?_replicate];split<;>simp
theorem aFa.row {a b out:List Int} {i:Nat} (h:aFa a b out i):aIa out b i (a.getD i 0) out 0 0 where
 len:=rfl
 ok:=h.ok
 c0:=Int.le_refl _
 c1:=by decide
 same:=fun _ _=>rfl
 val:=by simp [W]
theorem aFa.next {a b out out':List Int} {i:Nat} {c:Int} (h:aFa a b out i) (hi:i<a.length) (hr:aIa out b i (a.getD i 0) out' c b.length):aFa a b (out'.set (i+b.length) c) (i+1) where
 len:=by simpa using hr.len.trans h.len
 ok:=hr.ok.set hr.c0 hr.c1
 zero:=fun s hs=>by
  rw [fP (by omega),hr.same s (by omega)]
  exact h.zero s (by omega)
 val:=by
  have hlen:=hr.len.trans h.len
  rw [show i+1+b.length=(i+b.length)+1 by omega,dU,Nat.zero_add,eA (by omega),aAg (.inr (by omega)),y6,dU,Nat.zero_add]
  have h1:=hr.val
  have h2:=h.val
  rw [y6,Nat.zero_add] at h2
  have h3:W out' 0 i=W out 0 i:=aEA fun s hs=>by
   rw [Nat.zero_add];exact hr.same s (.inl hs)
  rw [h3,aCj]
  unfold vD at *
  grind
theorem aLD {x y:aE} (ha:lV x.d) (hb:lV y.d) (hL:x.d.length+y.d.length≤9000000000000):∀(t i:Nat) (out:List Int),i+t=x.d.length→aFa x.d y.d out i→
  ∃out',aFa x.d y.d out' x.d.length∧xZ (fun K k=>gD K x y k out (i:Int)) out'
 |0,i,out,hi,hP=>by
  have:i=x.d.length:=by omega
  subst this
  refine⟨out,hP,xZ.of 1 fun K n hn=>?_⟩
  obtain⟨n',rfl,_⟩:=aY (n:=0) hn
  simp [gD]
 |t+1,i,out,hi,hP=>by
  have ha':=ha i
  have hlo:=hP.len
  obtain⟨o,c,h1,h2⟩:=aKS hb ha'.1 ha'.2 (by omega) (by omega) y.d.length 0 out 0 (by omega) hP.row
  have hlo2:=h1.len
  obtain⟨r,h3,h4⟩:=aLD ha hb hL t (i+1) _ (by omega) (hP.next (by omega) h1)
  refine⟨r,h3,xZ.step ?_⟩
  have e1:decide ((i:Int)<(x.d.length:Int))=true:=dT (by omega)
  have e2:=bZ (xs:=x.d) (i:=i) (by omega)
  have e3:aS ((i:Int)+1)=some ((i+1:Nat):Int):=ckN (m:=0) (by omega) (by omega)
  have e4:aS ((i:Int)+(y.d.length:Int))=some ((i+y.d.length:Nat):Int):=ckN (m:=0) (by omega) (by omega)
  have e5:=bZ (xs:=o) (i:=i+y.d.length) (by omega)
  have e6:qL o ((i+y.d.length:Nat):Int) c=some (o.set (i+y.d.length) c):=vQ (by omega)
  simp only [gD,e1,e2,bS,oB]
  refine xZ.bind (x:=(o,c)) (f:=fun K=>iP K y (i:Int) (x.d.getD i 0) K out 0 0) ⟨y.d.length+1,fun K hK=>h2 K K (by omega)⟩ ?_
  simp only [sQ,e3,e4,e5,e6,oB]
  exact h4
theorem aID (x y:Int):(if(decide (x<0) != decide (y<0))=true then -((x.natAbs:Int)*y.natAbs) else(x.natAbs:Int)*y.natAbs)=x*y:=by
 by_cases hx:x<0<;>by_cases hy:y<0
 ·rw [dT hx,dT hy,show(x.natAbs:Int)=-x by omega,show(y.natAbs:Int)=-y by omega];simp [Int.neg_mul_neg]
 ·rw [dT hx,dF hy,show(x.natAbs:Int)=-x by omega,show(y.natAbs:Int)=y by omega];simp [Int.neg_mul]
 ·rw [dF hx,dT hy,show(x.natAbs:Int)=x by omega,show(y.natAbs:Int)=-y by omega];simp [Int.mul_neg]
 ·rw [dF hx,dF hy,show(x.natAbs:Int)=x by omega,show(y.natAbs:Int)=y by omega];simp
theorem aNr {x y:Int} (hL:dl x.natAbs+dl y.natAbs≤60000000000):Ev (fun K=>(aS (((Z x).d.length:Int)+((Z y).d.length:Int))).bind fun v16=>(mkL v16 0).bind fun x18=>(gD K (Z x) (Z y) K x18 0).bind fun x37=>sS K (Z x) (Z y) x37) (Z (x*y)):=by
 have dx:=bN x.natAbs
 have dy:=bN y.natAbs
 have lx:(bO x.natAbs).length=dl x.natAbs:=rfl
 have ly:(bO y.natAbs).length=dl y.natAbs:=rfl
 obtain⟨r,h1,h2⟩:=aLD (x:=Z x) (y:=Z y) dx dy (by rw [uM,uM];omega) (Z x).d.length 0 _ (by omega) (aFa.start _ _)
 have e1:aS (((Z x).d.length:Int)+((Z y).d.length:Int))=some (((Z x).d.length+(Z y).d.length:Nat):Int):=ckN (m:=0) (by omega) (by rw [uM,uM];omega)
 have e2:mkL (((Z x).d.length+(Z y).d.length:Nat):Int) (0:Int)=some (List.replicate ((Z x).d.length+(Z y).d.length) 0):=aBM (by rw [uM,uM];omega)
 simp only [e1,e2,oB]
 refine Ev.bind h2.ev ?_
 have h3:=z5 ((Z x).neg != (Z y).neg) h1.ok (by rw [h1.len,uM,uM];omega)
 unfold sS
 refine Ev.bind h3 ?_
 have hv:vD r=x.natAbs*y.natAbs:=by
  have:=h1.val
  rw [←h1.len] at this
  have vx:=dJ x.natAbs
  have vy:=dJ y.natAbs
  unfold vD at *
  rw [this]
  show W (bO x.natAbs) 0 (bO x.natAbs).length*W (bO y.natAbs) 0 (bO y.natAbs).length=_
  rw [vx,vy]
 rw [wT,uA,uA,hv]
 have:(if(decide (x<0) != decide (y<0))=true then -((((x.natAbs:Int)*y.natAbs).toNat:Nat):Int) else((((x.natAbs:Int)*y.natAbs).toNat:Nat):Int))=x*y:=by
  have h0:0≤(x.natAbs:Int)*y.natAbs:=Int.mul_nonneg (by omega) (by omega)
  rw [Int.toNat_of_nonneg h0]
  exact aID x y
 rw [this]
 exact Ev.pure _
theorem aG2 (K:Nat) (y:aE) (x v:Int):∀(k:Nat) (s:List Int) (c i:Int),oP K y x v k s c i=iP K y x v k s c i
 |0,_,_,_=>rfl
 |k+1,s,c,i=>by simp only [oP,iP,aG2 K y x v k]
theorem aHG (K:Nat) (x y:aE):∀(k:Nat) (s:List Int) (i:Int),lZ K x y k s i=gD K x y k s i
 |0,_,_=>rfl
 |k+1,s,i=>by simp only [lZ,gD,vE,sQ,aG2,aHG K x y k]
theorem aCA {n:Nat} (h:(bO n).length=1):(bO n).getD 0 0=n∧n<1000000000:=by
 have h1:=dJ n
 unfold vD at h1
 rw [h,W1] at h1
 have:=bN n 0
 omega
theorem aA0 {x y:Int} (hL:dl x.natAbs+dl y.natAbs≤60000000000):Ev (fun K=>bR K (Z x) (Z y)) (Z (x*y)):=by
 have hc:=aNr hL
 unfold bR
 by_cases h1:(Z x).d.length=1
 ·have e1:(((Z x).d.length:Int)==1)=true:=qT (by omega)
  simp only [e1,bS]
  by_cases h2:(Z y).d.length=1
  ·have e2:(((Z y).d.length:Int)==1)=true:=qT (by omega)
   obtain⟨a1,a2⟩:=aCA h1
   obtain⟨b1,b2⟩:=aCA h2
   have r1:=bZ (xs:=(Z x).d) (i:=0) (by omega)
   have r2:=bZ (xs:=(Z y).d) (i:=0) (by omega)
   simp only [Int.natCast_zero] at r1 r2
   rw [Z_d] at r1 r2
   rw [a1] at r1
   rw [b1] at r2
   have hb:=aGe (x:=(x.natAbs:Int)) (y:=(y.natAbs:Int)) (by omega) (by omega) (by omega) (by omega)
   have e3:wu (IntKind.u64.wrap (x.natAbs:Int)*IntKind.u64.wrap (y.natAbs:Int))=((x.natAbs*y.natAbs:Nat):Int):=by
    rw [IntWalk.u64_in _ ⟨by omega,by omega⟩,IntWalk.u64_in _ ⟨by omega,by omega⟩,aPN hb.1 (by omega),Int.natCast_mul]
   have hb':x.natAbs*y.natAbs≤18446744073709551615:=by
    have:((x.natAbs*y.natAbs:Nat):Int)=x.natAbs*y.natAbs:=Int.natCast_mul _ _
    omega
   refine Ev.of fun K=>?_
   rw [Z_d] at e2
   simp only [e2,bS,r1,r2,Z_d,uA,oB,e3,uV _ hb']
   rw [wT]
   congr 2
   rw [Int.natCast_mul]
   exact aID x y
  ·have e2:(((Z y).d.length:Int)==1)=false:=qF (by omega)
   simp only [e2,bM]
   exact hc
 ·have e1:(((Z x).d.length:Int)==1)=false:=qF (by omega)
  simp only [e1,bM,aHG]
  exact hc
end Go.Proofs.YtolfcbpgmfbgmaaGreat
