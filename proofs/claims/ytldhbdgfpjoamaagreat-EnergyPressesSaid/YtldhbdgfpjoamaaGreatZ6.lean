/- Texts of the proof, part 6: YD LS XL XF XA XU XV XW XX XY YE YF YG YH YI YJ YK YL YV WA WB WC WD YM XZ YN YO YP. -/
import Derived.Test.YtldhbdgfpjoamaaGreatZ5
set_option linter.unusedSimpArgs false
set_option linter.unusedVariables false
namespace Go.Proofs.YtldhbdgfpjoamaaGreat
/-- A tableau: its rows are combinations of those of Z, and the columns of the basic variables are those of the unit matrix. -/
structure TI (n w:Nat) (Z T:Nat→Nat→Rat) (b:Nat→Nat):Prop where
 ex:∃E:Nat→Nat→Rat,∀i c,i<n→c<w→T i c=aBc E Z n i c
 lt:∀j,j<n→b j<w
 un:∀i j,i<n→j<n→T i (b j)=if i=j then 1 else 0
def pA (T:Nat→Nat→Rat) (r c i k:Nat):Rat:=if i=r then T r k/T r c else T i k-T i c*(T r k/T r c)
theorem aAk {E Z:Nat→Nat→Rat} {n i k:Nat}:aBc E Z n i k=sm (fun j=>Z j k*E i j) n:=by
 unfold aBc aJZ tr
 first|rfl|(refine bM fun j _=>?_;first|rfl|exact Rat.mul_comm _ _)
theorem TI.pivot {n w:Nat} {Z T:Nat→Nat→Rat} {b:Nat→Nat} (h:TI n w Z T b) {r c:Nat} (hr:r<n) (hc:c<w) (hp:T r c≠0):TI n w Z (pA T r c) (iD b r c):=by
 obtain⟨⟨E,hE⟩,hb,hu⟩:=h
 refine⟨⟨fun i j=>if i=r then E r j/T r c else E i j-T i c*(E r j/T r c),fun i k hi hk=>?_⟩,fun j hj=>?_,fun i j hi hj=>?_⟩
 ·rw [aAk]
  have e1:T r k/T r c=sm (fun j=>Z j k*(E r j/T r c)) n:=by
   rw [hE r k hr hk,aAk,Rat.div_def,Rat.mul_comm,←rG]
   refine bM fun j _=>?_
   rw [Rat.div_def,Rat.mul_comm,Rat.mul_assoc]
  unfold pA
  by_cases e:i=r
  ·rw [if_pos e,e1]
   exact bM fun j _=>by rw [if_pos e]
  ·rw [if_neg e,hE i k hi hk,aAk,e1,←rG,Rat.sub_eq_add_neg,←aBT,←aBJ]
   refine bM fun j _=>?_
   rw [if_neg e,Rat.sub_eq_add_neg,Rat.mul_add,Rat.mul_neg,←Rat.mul_assoc,←Rat.mul_assoc,Rat.mul_comm (T i c)]
 ·by_cases e:j=r
  ·rw [e,bA];exact hc
  ·rw [cG e];exact hb j hj
 ·unfold pA
  by_cases e:j=r
  ·rw [e,bA,Rat.div_def,Rat.mul_inv_cancel _ hp]
   by_cases e2:i=r
   ·rw [if_pos e2,if_pos e2]
   ·rw [if_neg e2,if_neg e2,Rat.mul_one,Rat.sub_self]
  ·have h0:T r (b j)=0:=by rw [hu r j hr hj,if_neg fun h=>e h.symm]
   rw [cG e,h0,Rat.div_def,Rat.zero_mul]
   by_cases e2:i=r
   ·rw [if_pos e2,if_neg (by omega)]
   ·rw [if_neg e2,Rat.mul_zero,Rat.sub_eq_add_neg,Rat.neg_zero,Rat.add_zero]
    exact hu i j hi hj
theorem TI.start {n w:Nat} {Z:Nat→Nat→Rat} (hw:n≤w) (hz:∀i j,i<n→j<n→Z i j=if i=j then 1 else 0):TI n w Z Z (fun j=>j):=
 ⟨⟨aAv,fun i c hi hc=>by
  rw [aAk]
  have:sm (fun j=>Z j c*aAv i j) n=sm (fun j=>if j=i then Z i c else 0) n:=bM fun j _=>by
   unfold aAv
   by_cases e:j=i
   ·rw [if_pos e,e,if_pos rfl,Rat.mul_one]
   ·rw [if_neg e,if_neg (fun h=>e h.symm),Rat.mul_zero]
  rw [this]
  have key:∀m,m≤n→sm (fun j=>if j=i then Z i c else 0) m=if i<m then Z i c else 0:=by
   intro m
   induction m with
   |zero=>intro _;rw [if_neg (by omega)];rfl
   |succ m ih=>
    intro hm
    show sm _ m+(if m=i then Z i c else 0)=_
    rw [ih (by omega)]
    by_cases e:m=i
    ·rw [if_pos e,if_neg (by omega),if_pos (by omega),Rat.zero_add]
    ·rw [if_neg e,Rat.add_zero]
     by_cases e2:i<m
     ·rw [if_pos e2,if_pos (by omega)]
     ·rw [if_neg e2,if_neg (by omega)]
  rw [key n (Nat.le_refl n),if_pos hi]⟩,fun j hj=>by omega,fun i j hi hj=>hz i j hi hj⟩
theorem aSa {M:Nat}:∀n,n≤64→fM M n≤(64*M)^n
 |0,_=>Nat.le_refl _
 |n+1,h=>by
  show(n+1)*(M*fM M n)≤_
  rw [Nat.pow_succ,Nat.mul_comm ((64*M)^n),←Nat.mul_assoc]
  exact Nat.mul_le_mul (Nat.mul_le_mul_right M h) (aSa n (by omega))
theorem TI.scale {n w:Nat} {Z T:Nat→Nat→Rat} {b:Nat→Nat} (h:TI n w Z T b) {D:Rat} (hD:D≠0):TI n w (fun i c=>Z i c*D) T b:=by
 obtain⟨⟨E,hE⟩,hb,hu⟩:=h
 refine⟨⟨fun i j=>E i j/D,fun i c hi hc=>?_⟩,hb,hu⟩
 rw [hE i c hi hc,aAk,aAk]
 refine bM fun j _=>?_
 rw [Rat.div_def,Rat.mul_comm (E i j),Rat.mul_assoc,←Rat.mul_assoc D,Rat.mul_inv_cancel _ hD,Rat.one_mul]
theorem TI.bd {n w M k:Nat} {Z T:Nat→Nat→Rat} {b:Nat→Nat} {D:Rat} (h:TI n w Z T b) (hD:D≠0) (hZ:∀i c,i<n→c<w→isZ M (Z i c*D)) (hn:n≤64) (hM:(64*M)^n<2^k):Bdx n w k T:=by
 obtain⟨⟨E,hE⟩,hb,hu⟩:=h.scale hD
 exact aNj hE hb hu hZ (Nat.lt_of_le_of_lt (aSa n hn) hM)
end Go.Proofs.YtldhbdgfpjoamaaGreat
set_option linter.unusedVariables false
namespace Go.Proofs.YtldhbdgfpjoamaaGreat
/-- Terms that are few and small. -/
def TB (l:List aE):Prop:=l.length≤12∧∀t∈l,Bd 8 t.k
def RB (r:aA):Prop:=TB r.j∧TB r.t
def RsB (l:List aA):Prop:=∀r∈l,RB r
theorem TB.nil:TB []:=⟨by simp,fun t h=>absurd h List.not_mem_nil⟩
theorem RsB.nil:RsB []:=fun t h=>absurd h List.not_mem_nil
theorem RsB.snoc {l:List aA} {r:aA} (h:RsB l) (hr:RB r):RsB (l++[r]):=fun x hx=>by
 rcases List.mem_append.1 hx with h1|h1
 ·exact h x h1
 ·rw [List.mem_singleton.1 h1];exact hr
def RC (r:aA):Prop:=RB r∧Bd 8 r.mu
def RsC (l:List aA):Prop:=∀r∈l,RC r
theorem RsC.snoc {l:List aA} {r:aA} (h:RsC l) (hr:RC r):RsC (l++[r]):=fun x hx=>by
 rcases List.mem_append.1 hx with h1|h1
 ·exact h x h1
 ·rw [List.mem_singleton.1 h1];exact hr
structure aTt (s:bH):Prop where
 n1:1≤s.dofs.length
 n4:s.dofs.length≤4
 dofs:aG6 s.dofs
 ll:s.load.length=s.dofs.length
 vl:s.v.length=s.dofs.length
 load:sV 8 s.load
 v:sV 8 s.v
 rows:RsB s.rows
 rl:s.rows.length≤4
 mus:RsC s.rows
theorem tab7 {m:Int} (h0:0≤m) (h1:m<7):∃x,bL [0,1,(-1),0,2,(-1),1] m=some x∧-2≤x∧x≤2:=by
 have:m=0∨m=1∨m=2∨m=3∨m=4∨m=5∨m=6:=by omega
 rcases this with rfl|rfl|rfl|rfl|rfl|rfl|rfl<;>exact⟨_,rfl,by omega,by omega⟩
end Go.Proofs.YtldhbdgfpjoamaaGreat
set_option linter.unusedVariables false
namespace Go.Proofs.YtldhbdgfpjoamaaGreat
/-- What a term adds to a rate. -/
def trm (a:List Rat) (t:aE):Rat:=bif decide (0≤t.dof∧t.dof<(a.length:Int)) then t.k*kP a t.dof.toNat else 0
def rtf (a:List Rat):List aE→Rat→Rat
 |[],x=>x
 |t::l,x=>rtf a l (x+trm a t)
def rt (l:List aE) (a:List Rat):Rat:=rtf a l 0
theorem aLc {a:List Rat} {B:Nat} {t:aE} (ha:sV B a) (ht:Bd 8 t.k):Bd (8+B) (trm a t):=by
 unfold trm
 by_cases h:0≤t.dof∧t.dof<(a.length:Int)
 ·rw [decide_eq_true h]
  exact(ht.mul (ha _ (jV (by omega)))).mono (by omega)
 ·rw [decide_eq_false h]
  exact Bd.zero.mono (by omega)
theorem aOd {a:List Rat} {B:Nat} (ha:sV B a):∀(l:List aE) (x:Rat) (n:Nat),(∀t∈l,Bd 8 t.k)→Bd n x→Bd (n+(B+9)*l.length) (rtf a l x)
 |[],x,n,_,hx=>hx.mono (by simp)
 |t::l,x,n,hl,hx=>(aOd ha l (x+trm a t) (n+(8+B)+1) (fun t h=>hl t (List.mem_cons_of_mem _ h)) (hx.add (aLc ha (hl t List.mem_cons_self)))).mono (by simp only [List.length_cons,Nat.mul_succ];omega)
theorem aBW {a:List Rat} {B:Nat} {l:List aE} (ha:sV B a) (hl:TB l):Bd (1+(B+9)*12) (rt l a):=(aOd ha l 0 1 hl.2 Bd.zero).mono (by have:=Nat.mul_le_mul_left (B+9) hl.1;omega)
theorem aJu {a:List Rat} {l:List aE} (ha:sV 64 a) (hl:TB l):Bd 1000 (rt l a):=(aBW ha hl).mono (by omega)
theorem aG9 {l:List aE} {i:Nat} (h:i<l.length):∃x,x∈l∧l.drop i=x::l.drop (i+1)∧bL l (i:Int)=some x:=
 ⟨l[i],List.getElem_mem h,List.drop_eq_getElem_cons h,rdG (List.getElem?_eq_getElem h)⟩
theorem aFR {a:List Rat} {t:aE} (x:Rat) (h:¬(0≤t.dof∧t.dof<(a.length:Int))):x+trm a t=x:=by
 unfold trm;rw [decide_eq_false h];exact Rat.add_zero x
theorem aMk {a:List Rat} {B:Nat} {l:List aE} (ha:sV B a) (hl:TB l) (K:Nat):∀(t i k n:Nat) (x:Rat),i+t=l.length→t<k→Bd n x→n+(B+9)*t≤1073741824→l4 K l a k x (i:Int)=some (rtf a (l.drop i) x)
 |0,i,k,n,x,hi,hk,hx,hn=>by
  obtain⟨k',rfl,_⟩:=bD hk
  rw [List.drop_eq_nil_of_le (by omega)]
  simp only [l4,dF (show¬(i:Int)<(l.length:Int) by omega),bU];rfl
 |t+1,i,k,n,x,hi,hk,hx,hn=>by
  have h12:=hl.1
  obtain⟨k',rfl,_⟩:=bD hk
  obtain⟨y,h1,h2,h3⟩:=aG9 (l:=l) (i:=i) (by omega)
  have hB:(B+9)*(t+1)=(B+9)*t+(B+9):=Nat.mul_succ _ _
  have ih:=aMk ha hl K t (i+1) k' (n+(8+B)+1) (x+trm a y) (by omega) (by omega) (hx.add (aLc ha (hl.2 y h1))) (by omega)
  rw [h2]
  show _=some (rtf a (l.drop (i+1)) (x+trm a y))
  simp only [l4,dT (show(i:Int)<(l.length:Int) by omega),cA,h3,oB]
  by_cases h0:0≤y.dof
  ·simp only [dT h0,cA]
   by_cases h4:y.dof<(a.length:Int)
   ·have e:y.dof=((y.dof.toNat:Nat):Int):=by omega
    have hr:bL a y.dof=some (kP a y.dof.toNat):=by
     have:=aCJ (l:=a) (i:=y.dof.toNat) (by omega)
     rwa [←e] at this
    have hv:=ha _ (jV (l:=a) (i:=y.dof.toNat) (by omega))
    have ht:trm a y=y.k*kP a y.dof.toNat:=by unfold trm;rw [decide_eq_true ⟨h0,h4⟩];rfl
    rw [ht] at ih ⊢
    simp only [dT h4,cA,hr,oB,pU (hl.2 y h1) hv (by omega) (by omega),s6 hx ((hl.2 y h1).mul hv) (by omega) (by omega),oC (i:=i) (by omega)]
    exact ih
   ·rw [aFR x (fun h=>h4 h.2)] at ih ⊢
    simp only [dF h4,bU,oC (i:=i) (by omega),oB]
    exact ih
  ·rw [aFR x (fun h=>h0 h.1)] at ih ⊢
   simp only [dF h0,bU,oC (i:=i) (by omega),oB]
   exact ih
theorem zT {a:List Rat} {B:Nat} {l:List aE} (ha:sV B a) (hB:B≤80000000) (hl:TB l) {K:Nat} (hK:13≤K):jQ K l a=some (rt l a):=by
 have h:=hl.1
 have h2:=Nat.mul_le_mul_left (B+9) h
 have:=aMk ha hl K l.length 0 K 1 0 (by omega) (by omega) Bd.zero (by omega)
 simp only [Int.natCast_zero,List.drop_zero] at this
 simp only [jQ,this,oB,xO];rfl
theorem aH7 {a:List Rat} {l:List aE} (ha:sV 64 a) (hl:TB l) {K:Nat} (hK:13≤K):jQ K l a=some (rt l a):=zT ha (by omega) hl hK
theorem aKq {a:List Rat} {B:Nat} {l:List aE} (ha:sV B a) (hl:TB l) (K:Nat):∀(t i k n:Nat) (x:Rat),i+t=l.length→t<k→Bd n x→n+(B+9)*t≤1073741824→iZ K l a k x (i:Int)=some (rtf a (l.drop i) x)
 |0,i,k,n,x,hi,hk,hx,hn=>by
  obtain⟨k',rfl,_⟩:=bD hk
  rw [List.drop_eq_nil_of_le (by omega)]
  simp only [iZ,dF (show¬(i:Int)<(l.length:Int) by omega),bU];rfl
 |t+1,i,k,n,x,hi,hk,hx,hn=>by
  have h12:=hl.1
  obtain⟨k',rfl,_⟩:=bD hk
  obtain⟨y,h1,h2,h3⟩:=aG9 (l:=l) (i:=i) (by omega)
  have hB:(B+9)*(t+1)=(B+9)*t+(B+9):=Nat.mul_succ _ _
  have ih:=aKq ha hl K t (i+1) k' (n+(8+B)+1) (x+trm a y) (by omega) (by omega) (hx.add (aLc ha (hl.2 y h1))) (by omega)
  rw [h2]
  show _=some (rtf a (l.drop (i+1)) (x+trm a y))
  simp only [iZ,dT (show(i:Int)<(l.length:Int) by omega),cA,h3,oB]
  by_cases h0:0≤y.dof
  ·simp only [dT h0,cA]
   by_cases h4:y.dof<(a.length:Int)
   ·have e:max y.dof 0=((y.dof.toNat:Nat):Int):=by omega
    have hr:bL a (max y.dof 0)=some (kP a y.dof.toNat):=by
     rw [e];exact aCJ (l:=a) (i:=y.dof.toNat) (by omega)
    have hv:=ha _ (jV (l:=a) (i:=y.dof.toNat) (by omega))
    have ht:trm a y=y.k*kP a y.dof.toNat:=by unfold trm;rw [decide_eq_true ⟨h0,h4⟩];rfl
    rw [ht] at ih ⊢
    simp only [dT h4,cA,hr,oB,pU (hl.2 y h1) hv (by omega) (by omega),s6 hx ((hl.2 y h1).mul hv) (by omega) (by omega),oC (i:=i) (by omega)]
    exact ih
   ·rw [aFR x (fun h=>h4 h.2)] at ih ⊢
    simp only [dF h4,bU,oC (i:=i) (by omega),oB]
    exact ih
  ·rw [aFR x (fun h=>h0 h.1)] at ih ⊢
   simp only [dF h0,bU,oC (i:=i) (by omega),oB]
   exact ih
theorem aC0 {a:List Rat} {B:Nat} {l:List aE} (ha:sV B a) (hB:B≤80000000) (hl:TB l) {K:Nat} (hK:13≤K):jT K l a=some (rt l a):=by
 have h:=hl.1
 have h2:=Nat.mul_le_mul_left (B+9) h
 have:=aKq ha hl K l.length 0 K 1 0 (by omega) (by omega) Bd.zero (by omega)
 simp only [Int.natCast_zero,List.drop_zero] at this
 simp only [jT,this,oB,yV];rfl
theorem aI7 {a:List Rat} {l:List aE} (ha:sV 64 a) (hl:TB l) {K:Nat} (hK:13≤K):jT K l a=some (rt l a):=aC0 ha (by omega) hl hK
def aKo (v a:List Rat) (r:aA):Bool:=decide ((rt r.t v*(rt r.t v+rt r.t a)).num.sign<0)
theorem aQB {x:Rat} (h:0<x):x.num.sign=1:=by
 have h1:=Rat.num_nonneg.2 (Rat.le_of_lt h)
 have h2:x.num≠0:=fun e=>by rw [Rat.num_eq_zero.1 e] at h;exact Rat.lt_irrefl h
 exact Int.sign_eq_one_of_pos (by omega)
theorem aTF {x:Rat} (h:x<0):0< -x:=by
 have:=Rat.neg_lt_neg h
 rwa [Rat.neg_zero] at this
theorem aQD {x:Rat} (h:x<0):x.num.sign=-1:=by
 have h1:=aQB (aTF h)
 rw [Rat.neg_num,Int.sign_neg] at h1
 omega
theorem aE3 {l:List aA} {i:Nat} (h:i<l.length):∃x,x∈l∧l.drop i=x::l.drop (i+1)∧bL l (i:Int)=some x:=
 ⟨l[i],List.getElem_mem h,List.drop_eq_getElem_cons h,rdG (List.getElem?_eq_getElem h)⟩
theorem aUA {l:List aA} {f:aA→Option Bool} {b:aA→Bool} (hf:∀r∈l,f r=some (b r)) (hl:l.length≤1000) (K:Nat):∀(t i k:Nat),i+t=l.length→t<k→
  (l.drop i).any b=false∧eH K l f k (i:Int)=some (.go ())∨(l.drop i).any b=true∧∃j:Nat,eH K l f k (i:Int)=some (.ret (j:Int))
 |0,i,k,hi,hk=>by
  obtain⟨k',rfl,_⟩:=bD hk
  refine .inl ⟨by rw [List.drop_eq_nil_of_le (by omega)];rfl,?_⟩
  simp only [eH,dF (show¬(i:Int)<(l.length:Int) by omega),bU]
 |t+1,i,k,hi,hk=>by
  obtain⟨k',rfl,_⟩:=bD hk
  obtain⟨x,h1,h2,h3⟩:=aE3 (l:=l) (i:=i) (by omega)
  rw [h2]
  simp only [eH,dT (show(i:Int)<(l.length:Int) by omega),cA,h3,oB,hf x h1,List.any_cons]
  cases b x
  ·simp only [bU,Bool.false_or,oC (i:=i) (by omega),oB]
   exact aUA hf hl K t (i+1) k' (by omega) (by omega)
  ·exact .inr ⟨rfl,i,by simp only [cA]⟩
theorem aHY {l:List aA} {f:aA→Option Bool} {b:aA→Bool} (hf:∀r∈l,f r=some (b r)) (hl:l.length≤1000) {K:Nat} (hK:l.length<K):fN K l f=some (l.any b):=by
 have:=aUA hf hl K l.length 0 K (by omega) hK
 simp only [Int.natCast_zero,List.drop_zero] at this
 rcases this with⟨h1,h2⟩|⟨h1,y,h2⟩
 ·simp only [fN,mJ,h2,oB,m5,h1];rfl
 ·simp only [fN,mJ,h2,oB,h1,dT (show(0:Int)≤(y:Int) by omega)]
end Go.Proofs.YtldhbdgfpjoamaaGreat
set_option linter.unusedVariables false
namespace Go.Proofs.YtldhbdgfpjoamaaGreat
def xN (l:List aE) (i:Nat):aE:=l.getD i ⟨0,0⟩
theorem aGC {l:List aE} {i:Nat} (h:i<l.length):bL l (i:Int)=some (xN l i):=rdD _ h
theorem aAB {l:List aE} {i:Nat} (h:i<l.length):xN l i∈l:=by
 unfold xN
 simp only [List.getD_eq_getElem?_getD,List.getElem?_eq_getElem h,Option.getD_some]
 exact List.getElem_mem h
def tk (n:Nat) (l:List aE) (i:Nat):Bool:=decide (0≤(xN l i).dof∧(xN l i).dof<(n:Int)∧(0<i→(xN l (i-1)).dof<(xN l i).dof))
def tks (n:Nat) (l:List aE):Nat→Nat→Bool
 |0,_=>true
 |t+1,i=>tk n l i&&tks n l t (i+1)
def tOk (n:Nat) (l:List aE):Bool:=tks n l l.length 0
theorem zE {m:Nat} {a:Rat} (ha:Bd m a) (hm:m≤1073741824):aEI a=some true:=by unfold aEI;rw [ha.qs hm];rfl
theorem aKk {n:Nat} {l:List aE} (hl:TB l) (K:Nat):∀(t i k:Nat),i+t=l.length→t<k→lO K l (n:Int) k (i:Int)=some (bif tks n l t i then .go () else .ret false)
 |0,i,k,hi,hk=>by
  obtain⟨k',rfl,_⟩:=bD hk
  simp only [lO,dF (show¬(i:Int)<(l.length:Int) by omega),bU,tks,cA]
 |t+1,i,k,hi,hk=>by
  have h12:=hl.1
  obtain⟨k',rfl,_⟩:=bD hk
  have hb:=zE (hl.2 _ (aAB (l:=l) (i:=i) (by omega))) (by omega)
  have ih:=aKk (n:=n) hl K t (i+1) k' (by omega) (by omega)
  simp only [lO,dT (show(i:Int)<(l.length:Int) by omega),cA,aGC (l:=l) (i:=i) (by omega),oB,hb,Bool.not_true,bU,tks,oC (i:=i) (by omega)]
  by_cases h0:(xN l i).dof<0
  ·have e:tk n l i=false:=decide_eq_false (by omega)
   simp only [dT h0,cA,e,Bool.false_and,bU]
  ·simp only [dF h0,bU]
   by_cases h1:(n:Int)≤(xN l i).dof
   ·have e:tk n l i=false:=decide_eq_false (by omega)
    simp only [dT h1,cA,e,Bool.false_and,bU]
   ·simp only [dF h1,bU]
    by_cases h2:0<i
    ·have e1:aT ((i:Int)-1)=some ((i-1:Nat):Int):=by rw [k5 (by omega)];congr 1;omega
     simp only [dT (show(0:Int)<(i:Int) by omega),cA,e1,oB,aGC (l:=l) (i:=i-1) (by omega)]
     by_cases h3:(xN l i).dof≤(xN l (i-1)).dof
     ·have e:tk n l i=false:=decide_eq_false (by omega)
      simp only [dT h3,cA,e,Bool.false_and,bU]
     ·have e:tk n l i=true:=decide_eq_true (by omega)
      simp only [dF h3,bU,e,Bool.true_and]
      exact ih
    ·have e:tk n l i=true:=decide_eq_true (by omega)
     simp only [dF (show¬(0:Int)<(i:Int) by omega),bU,e,Bool.true_and]
     exact ih
theorem aJU {n:Nat} {l:List aE} (hl:TB l) {K:Nat} (hK:13≤K):tU K l (n:Int)=some (tOk n l):=by
 have h:=hl.1
 have:=aKk (n:=n) hl K l.length 0 K (by omega) (by omega)
 simp only [Int.natCast_zero] at this
 simp only [tU,this,oB,vF,tOk]
 cases tks n l l.length 0<;>rfl
theorem aHB {n:Nat} {l:List aE} (hl:TB l) (K:Nat):∀(t i k:Nat),i+t=l.length→t<k→kD K l (n:Int) k (i:Int)=some (bif tks n l t i then .go () else .ret false)
 |0,i,k,hi,hk=>by
  obtain⟨k',rfl,_⟩:=bD hk
  simp only [kD,dF (show¬(i:Int)<(l.length:Int) by omega),bU,tks,cA]
 |t+1,i,k,hi,hk=>by
  have h12:=hl.1
  obtain⟨k',rfl,_⟩:=bD hk
  have hb:=zE (hl.2 _ (aAB (l:=l) (i:=i) (by omega))) (by omega)
  have ih:=aHB (n:=n) hl K t (i+1) k' (by omega) (by omega)
  simp only [kD,dT (show(i:Int)<(l.length:Int) by omega),cA,aGC (l:=l) (i:=i) (by omega),oB,hb,Bool.not_true,bU,tks,oC (i:=i) (by omega)]
  by_cases h0:(xN l i).dof<0
  ·have e:tk n l i=false:=decide_eq_false (by omega)
   simp only [dT h0,cA,e,Bool.false_and,bU]
  ·simp only [dF h0,bU]
   by_cases h1:(n:Int)≤(xN l i).dof
   ·have e:tk n l i=false:=decide_eq_false (by omega)
    simp only [dT h1,cA,e,Bool.false_and,bU]
   ·simp only [dF h1,bU]
    by_cases h2:0<i
    ·have e1:aT ((i:Int)-1)=some ((i-1:Nat):Int):=by rw [k5 (by omega)];congr 1;omega
     have e2:max (((i-1:Nat):Int)) 0=((i-1:Nat):Int):=by omega
     simp only [dT (show(0:Int)<(i:Int) by omega),cA,e1,oB,e2,aGC (l:=l) (i:=i-1) (by omega)]
     by_cases h3:(xN l i).dof≤(xN l (i-1)).dof
     ·have e:tk n l i=false:=decide_eq_false (by omega)
      simp only [dT h3,cA,e,Bool.false_and,bU]
     ·have e:tk n l i=true:=decide_eq_true (by omega)
      simp only [dF h3,bU,e,Bool.true_and]
      exact ih
    ·have e:tk n l i=true:=decide_eq_true (by omega)
     simp only [dF (show¬(0:Int)<(i:Int) by omega),bU,e,Bool.true_and]
     exact ih
theorem aHw {n:Nat} {l:List aE} (hl:TB l) {K:Nat} (hK:13≤K):sH K l (n:Int)=some (tOk n l):=by
 have h:=hl.1
 have:=aHB (n:=n) hl K l.length 0 K (by omega) (by omega)
 simp only [Int.natCast_zero] at this
 simp only [sH,this,oB,xT,tOk]
 cases tks n l l.length 0<;>rfl
theorem aMB {l:List Rat} (hl:sV 64 l) (hn:l.length≤1000) (K:Nat):∀(t i k:Nat),i+t=l.length→t<k→fL K l sR k (i:Int)=some (.go ())
 |0,i,k,hi,hk=>by
  obtain⟨k',rfl,_⟩:=bD hk
  simp only [fL,dF (show¬(i:Int)<(l.length:Int) by omega),bU]
 |t+1,i,k,hi,hk=>by
  obtain⟨k',rfl,_⟩:=bD hk
  simp only [fL,dT (show(i:Int)<(l.length:Int) by omega),cA,aCJ (l:=l) (i:=i) (by omega),oB,sR,zE (hl _ (jV (l:=l) (i:=i) (by omega))) (by omega),Bool.not_true,bU,oC (i:=i) (by omega)]
  exact aMB hl hn K t (i+1) k' (by omega) (by omega)
theorem aMi {l:List Rat} (hl:sV 64 l) (hn:l.length≤1000) {K:Nat} (hK:l.length<K):vE K l=some true:=by
 have:=aMB hl hn K l.length 0 K (by omega) (by omega)
 simp only [Int.natCast_zero] at this
 simp only [vE,mU,pN,this,oB,mW];rfl
theorem aJJ {l:List Rat} (hl:sV 64 l) (hn:l.length≤1000) (K:Nat):∀(t i k:Nat),i+t=l.length→t<k→nK K l k (i:Int)=some (.go ())
 |0,i,k,hi,hk=>by
  obtain⟨k',rfl,_⟩:=bD hk
  simp only [nK,dF (show¬(i:Int)<(l.length:Int) by omega),bU]
 |t+1,i,k,hi,hk=>by
  obtain⟨k',rfl,_⟩:=bD hk
  simp only [nK,dT (show(i:Int)<(l.length:Int) by omega),cA,aCJ (l:=l) (i:=i) (by omega),oB,zE (hl _ (jV (l:=l) (i:=i) (by omega))) (by omega),Bool.not_true,bU,oC (i:=i) (by omega)]
  exact aJJ hl hn K t (i+1) k' (by omega) (by omega)
theorem aJ3 {l:List Rat} (hl:sV 64 l) (hn:l.length≤1000) {K:Nat} (hK:l.length<K):s5 K l=some true:=by
 have:=aJJ hl hn K l.length 0 K (by omega) (by omega)
 simp only [Int.natCast_zero] at this
 simp only [s5,this,oB,yU]
structure SB (d:List aD) (f v:List Rat) (l:List aA):Prop where
 sd:∀x∈d,Bd 8 x.inv
 dl:d.length≤100
 sf:sV 64 f
 fl:f.length≤100
 sv:sV 64 v
 vl:v.length≤100
 sl:RsC l
 ll:l.length≤100
def aEW (x:aD):Bool:=decide (0<x.inv.num.sign)
def aAZ (n:Nat) (v:List Rat) (r:aA):Bool:=tOk n r.j&&tOk n r.t&&decide (0≤r.mu.num.sign)
def sO (v:List Rat) (r:aA):Bool:=decide ((rt r.j v).num.sign=0)
def z6 (d:List aD) (f v:List Rat) (l:List aA):Bool:=decide (d.length≤12∧f.length=d.length∧v.length=d.length)&&d.all aEW&&l.all fun r=>aAZ d.length v r&&sO v r
theorem aHS {l:List aD} {i:Nat} (h:i<l.length):∃x,x∈l∧l.drop i=x::l.drop (i+1)∧bL l (i:Int)=some x:=
 ⟨l[i],List.getElem_mem h,List.drop_eq_getElem_cons h,rdG (List.getElem?_eq_getElem h)⟩
theorem aKf {a0:aF} (hd:∀x∈a0.dofs,Bd 8 x.inv) (hl:a0.dofs.length≤100) (K:Nat):∀(t i k:Nat),i+t=a0.dofs.length→t<k→iM K a0 k (i:Int)=some (bif(a0.dofs.drop i).all aEW then .go () else .ret false)
 |0,i,k,hi,hk=>by
  obtain⟨k',rfl,_⟩:=bD hk
  rw [List.drop_eq_nil_of_le (by omega)]
  simp only [iM,dF (show¬(i:Int)<(a0.dofs.length:Int) by omega),bU];rfl
 |t+1,i,k,hi,hk=>by
  obtain⟨k',rfl,_⟩:=bD hk
  obtain⟨x,h1,h2,h3⟩:=aHS (l:=a0.dofs) (i:=i) (by omega)
  have hb:=hd x h1
  rw [h2,List.all_cons]
  simp only [iM,dT (show(i:Int)<(a0.dofs.length:Int) by omega),cA,h3,oB,zE hb (by omega),Bool.not_true,bU,mF hb (by omega)]
  by_cases h:x.inv.num.sign≤0
  ·have e:aEW x=false:=decide_eq_false (by omega)
   simp only [dT h,cA,e,Bool.false_and,bU]
  ·have e:aEW x=true:=decide_eq_true (by omega)
   simp only [dF h,bU,e,Bool.true_and,oC (i:=i) (by omega),oB]
   exact aKf hd hl K t (i+1) k' (by omega) (by omega)
theorem aHb {d:List aD} (hd:∀x∈d,Bd 8 x.inv) (hl:d.length≤100) (K:Nat):∀(t i k:Nat),i+t=d.length→t<k→lA K d k (i:Int)=some (bif(d.drop i).all aEW then .go () else .ret false)
 |0,i,k,hi,hk=>by
  obtain⟨k',rfl,_⟩:=bD hk
  rw [List.drop_eq_nil_of_le (by omega)]
  simp only [lA,dF (show¬(i:Int)<(d.length:Int) by omega),bU];rfl
 |t+1,i,k,hi,hk=>by
  obtain⟨k',rfl,_⟩:=bD hk
  obtain⟨x,h1,h2,h3⟩:=aHS (l:=d) (i:=i) (by omega)
  have hb:=hd x h1
  rw [h2,List.all_cons]
  simp only [lA,dT (show(i:Int)<(d.length:Int) by omega),cA,h3,oB,zE hb (by omega),Bool.not_true,bU,mF hb (by omega)]
  by_cases h:x.inv.num.sign≤0
  ·have e:aEW x=false:=decide_eq_false (by omega)
   simp only [dT h,cA,e,Bool.false_and,bU]
  ·have e:aEW x=true:=decide_eq_true (by omega)
   simp only [dF h,bU,e,Bool.true_and,oC (i:=i) (by omega),oB]
   exact aHb hd hl K t (i+1) k' (by omega) (by omega)
theorem aP9 {a0:aF} {n:Nat} {r:aA} (hv:sV 64 a0.v) (hr:RC r) {K:Nat} (hK:13≤K):lM K (n:Int) a0 r=some (!(aAZ n a0.v r&&sO a0.v r)):=by
 simp only [lM,aJU hr.1.1 hK,aJU hr.1.2 hK,oB,zE hr.2 (by omega),Bool.not_true,bU,mF hr.2 (by omega),aH7 hv hr.1.1 hK,mF (aJu hv hr.1.1) (by omega),aAZ,sO]
 cases tOk n r.j
 ·rfl
 ·cases tOk n r.t
  ·rfl
  ·by_cases h:r.mu.num.sign<0
   ·simp only [Bool.not_true,bU,dT h,cA,dF (show¬0≤r.mu.num.sign by omega)];rfl
   ·simp only [Bool.not_true,bU,dF h,dT (show 0≤r.mu.num.sign by omega),Bool.true_and]
    by_cases h2:(rt r.j a0.v).num.sign=0
    ·rw [dT h2,nF h2];rfl
    ·rw [dF h2,nT h2];rfl
theorem aLB {d:List aD} {f v:List Rat} {l:List aA} (h:SB d f v l) {K:Nat} (hK:200≤K):qJ K ⟨d,f,v,l⟩=some (z6 d f v l):=by
 have hdl:=h.dl
 have hfl:=h.fl
 have hvl:=h.vl
 have hll:=h.ll
 have e1:=aKf (a0:=⟨d,f,v,l⟩) h.sd h.dl K d.length 0 K (by simp) (by omega)
 have e2:=aHY (l:=l) (b:=fun r=>!(aAZ d.length v r&&sO v r)) (fun r hr=>aP9 (a0:=⟨d,f,v,l⟩) (n:=d.length) h.sv (h.sl r hr) (K:=K) (by omega)) (by omega) (show l.length<K by omega)
 simp only [Int.natCast_zero,List.drop_zero] at e1
 have e3:(!l.any fun r=>!(aAZ d.length v r&&sO v r))=l.all fun r=>aAZ d.length v r&&sO v r:=by
  rw [List.not_any_eq_all_not];congr;funext r;rw [Bool.not_not]
 simp only [qJ,aMi h.sf (by omega) (show f.length<K by omega),aMi h.sv (by omega) (show v.length<K by omega),e1,pT,e2,oB,Bool.not_true,bU,e3,z6]
 by_cases h1:d.length≤12
 ·by_cases h2:f.length=d.length
  ·by_cases h3:v.length=d.length
   ·simp only [dF (show¬(12:Int)<(d.length:Int) by omega),nF (show(f.length:Int)=(d.length:Int) by omega),nF (show(v.length:Int)=(d.length:Int) by omega),bU,decide_eq_true (show d.length≤12∧f.length=d.length∧v.length=d.length from⟨h1,h2,h3⟩),Bool.true_and]
    cases d.all aEW<;>rfl
   ·simp only [dF (show¬(12:Int)<(d.length:Int) by omega),nF (show(f.length:Int)=(d.length:Int) by omega),nT (show(v.length:Int)≠(d.length:Int) by omega),bU,cA,decide_eq_false (show¬(d.length≤12∧f.length=d.length∧v.length=d.length) from fun h=>h3 h.2.2),Bool.false_and]
  ·simp only [dF (show¬(12:Int)<(d.length:Int) by omega),nT (show(f.length:Int)≠(d.length:Int) by omega),bU,cA,decide_eq_false (show¬(d.length≤12∧f.length=d.length∧v.length=d.length) from fun h=>h2 h.2.1),Bool.false_and]
 ·simp only [dT (show(12:Int)<(d.length:Int) by omega),cA,decide_eq_false (show¬(d.length≤12∧f.length=d.length∧v.length=d.length) from fun h=>h1 h.1),Bool.false_and]
theorem aH3 {d:List aD} {v:List Rat} {l:List aA} (hl:RsC l) (hn:l.length≤100) {K:Nat} (hK:13≤K):∀(t i k:Nat),i+t=l.length→t<k→k8 K d l k (i:Int)=some (bif(l.drop i).all (aAZ d.length v) then .go () else .ret false)
 |0,i,k,hi,hk=>by
  obtain⟨k',rfl,_⟩:=bD hk
  rw [List.drop_eq_nil_of_le (by omega)]
  simp only [k8,dF (show¬(i:Int)<(l.length:Int) by omega),bU];rfl
 |t+1,i,k,hi,hk=>by
  obtain⟨k',rfl,_⟩:=bD hk
  obtain⟨r,h1,h2,h3⟩:=aE3 (l:=l) (i:=i) (by omega)
  have hr:=hl r h1
  have ih:=aH3 (d:=d) (v:=v) hl hn hK t (i+1) k' (by omega) (by omega)
  rw [h2,List.all_cons]
  simp only [k8,dT (show(i:Int)<(l.length:Int) by omega),cA,h3,oB,aHw hr.1.1 hK,aHw hr.1.2 hK,zE hr.2 (by omega),Bool.not_true,bU,mF hr.2 (by omega)]
  unfold aAZ at ih ⊢
  cases tOk d.length r.j
  ·rfl
  ·cases tOk d.length r.t
   ·rfl
   ·by_cases h:r.mu.num.sign<0
    ·simp only [Bool.not_true,bU,dT h,cA,dF (show¬0≤r.mu.num.sign by omega)];rfl
    ·simp only [Bool.not_true,bU,dF h,dT (show 0≤r.mu.num.sign by omega),Bool.true_and,oC (i:=i) (by omega),oB]
     exact ih
theorem aHJ {v:List Rat} {l:List aA} (hv:sV 64 v) (hl:RsC l) (hn:l.length≤100) {K:Nat} (hK:13≤K):∀(t i k:Nat),i+t=l.length→t<k→oK K v l k (i:Int)=some (bif(l.drop i).all (sO v) then .go () else .ret false)
 |0,i,k,hi,hk=>by
  obtain⟨k',rfl,_⟩:=bD hk
  rw [List.drop_eq_nil_of_le (by omega)]
  simp only [oK,dF (show¬(i:Int)<(l.length:Int) by omega),bU];rfl
 |t+1,i,k,hi,hk=>by
  obtain⟨k',rfl,_⟩:=bD hk
  obtain⟨r,h1,h2,h3⟩:=aE3 (l:=l) (i:=i) (by omega)
  have hr:=hl r h1
  rw [h2,List.all_cons]
  simp only [oK,dT (show(i:Int)<(l.length:Int) by omega),cA,h3,oB,aI7 hv hr.1.1 hK,mF (aJu hv hr.1.1) (by omega)]
  by_cases h:(rt r.j v).num.sign=0
  ·have e:sO v r=true:=decide_eq_true h
   simp only [nF h,bU,e,Bool.true_and,oC (i:=i) (by omega),oB]
   exact aHJ hv hl hn hK t (i+1) k' (by omega) (by omega)
  ·have e:sO v r=false:=decide_eq_false h
   simp only [nT h,cA,e,Bool.false_and,bU]
theorem aJN {α:Type} {p q:α→Bool}:∀l:List α,(l.all fun x=>p x&&q x)=(l.all p&&l.all q)
 |[]=>rfl
 |x::l=>by
  rw [List.all_cons,List.all_cons,List.all_cons,aJN l]
  cases p x<;>cases q x<;>cases l.all p<;>rfl
theorem aK2 {d:List aD} {f v:List Rat} {l:List aA} (h:SB d f v l) {K:Nat} (hK:200≤K):uC K d f v l=some (z6 d f v l):=by
 have hdl:=h.dl
 have hfl:=h.fl
 have hvl:=h.vl
 have hll:=h.ll
 have e1:=aHb (d:=d) h.sd h.dl K d.length 0 K (by simp) (by omega)
 have e2:=aH3 (d:=d) (v:=v) h.sl h.ll (K:=K) (by omega) l.length 0 K (by omega) (by omega)
 have e3:=aHJ h.sv h.sl h.ll (K:=K) (by omega) l.length 0 K (by omega) (by omega)
 simp only [Int.natCast_zero,List.drop_zero] at e1 e2 e3
 simp only [uC,zL,aJ3 h.sf (by omega) (show f.length<K by omega),aJ3 h.sv (by omega) (show v.length<K by omega),e1,wM,e2,vZ,e3,zS,oB,Bool.not_true,bU,z6,aJN (p:=aAZ d.length v) (q:=sO v)]
 by_cases h1:d.length≤12
 ·by_cases h2:f.length=d.length
  ·by_cases h3:v.length=d.length
   ·simp only [dF (show¬(12:Int)<(d.length:Int) by omega),nF (show(f.length:Int)=(d.length:Int) by omega),nF (show(v.length:Int)=(d.length:Int) by omega),bU,decide_eq_true (show d.length≤12∧f.length=d.length∧v.length=d.length from⟨h1,h2,h3⟩),Bool.true_and]
    cases d.all aEW
    ·rfl
    ·cases l.all (aAZ d.length v)
     ·rfl
     ·cases l.all (sO v)<;>rfl
   ·simp only [dF (show¬(12:Int)<(d.length:Int) by omega),nF (show(f.length:Int)=(d.length:Int) by omega),nT (show(v.length:Int)≠(d.length:Int) by omega),bU,cA,decide_eq_false (show¬(d.length≤12∧f.length=d.length∧v.length=d.length) from fun h=>h3 h.2.2),Bool.false_and,oB,Bool.not_false]
  ·simp only [dF (show¬(12:Int)<(d.length:Int) by omega),nT (show(f.length:Int)≠(d.length:Int) by omega),bU,cA,decide_eq_false (show¬(d.length≤12∧f.length=d.length∧v.length=d.length) from fun h=>h2 h.2.1),Bool.false_and,oB,Bool.not_false]
 ·simp only [dT (show(12:Int)<(d.length:Int) by omega),cA,decide_eq_false (show¬(d.length≤12∧f.length=d.length∧v.length=d.length) from fun h=>h1 h.1),Bool.false_and,oB,Bool.not_false]
end Go.Proofs.YtldhbdgfpjoamaaGreat
set_option linter.unusedVariables false
namespace Go.Proofs.YtldhbdgfpjoamaaGreat
/-- What the terms say of a degree of freedom. -/
def cf:List aE→Nat→Rat
 |[],_=>0
 |t::l,i=>(if t.dof=(i:Int) then t.k else 0)+cf l i
def InT (n:Nat) (l:List aE):Prop:=∀t∈l,0≤t.dof∧t.dof<(n:Int)
theorem aOh {n:Nat} {l:List aE}:∀(t i:Nat),tks n l t i=true→∀j,i≤j→j<i+t→tk n l j=true
 |0,i,h,j,h1,h2=>by omega
 |t+1,i,h,j,h1,h2=>by
  have h3:(tk n l i&&tks n l t (i+1))=true:=h
  rw [Bool.and_eq_true] at h3
  by_cases e:j=i
  ·rw [e];exact h3.1
  ·exact aOh t (i+1) h3.2 j (by omega) (by omega)
theorem aNU {n:Nat} {l:List aE} (h:tOk n l=true):InT n l:=fun t ht=>by
 obtain⟨i,hi,rfl⟩:=List.getElem_of_mem ht
 have:=of_decide_eq_true (aOh l.length 0 h i (by omega) (by omega))
 have e:xN l i=l[i]:=by unfold xN;simp [List.getD_eq_getElem?_getD,hi]
 rw [e] at this
 exact⟨this.1,this.2.1⟩
theorem aUJ {A B t:Nat} (h:A+(B+9)*(t+1)≤1073741824):A+(8+B)+1+(B+9)*t≤1073741824∧A≤1073741824∧B≤1073741824:=by
 rw [Nat.mul_succ] at h;omega
theorem aSW {g:Nat→Rat} {n A B e:Nat} {v:Rat} (hg:∀j,j<n→Bd A (g j)) (hAB:A≤B) (hv:Bd B v):∀j,j<n→Bd B (iD g e v j):=fun j hj=>by
 by_cases h:j=e
 ·rw [h,bA];exact hv
 ·rw [cG h];exact(hg j hj).mono hAB
theorem aQN {g:Nat→Rat} {n e:Nat} {y:aE} {l:List aE} {c:Rat} (he:y.dof=(e:Int)):mp (fun j=>iD g e (g e+y.k*c) j+cf l j*c) n=mp (fun j=>g j+cf (y::l) j*c) n:=cJ fun j _=>by
 show _=g j+((if y.dof=(j:Int) then y.k else 0)+cf l j)*c
 by_cases h:j=e
 ·subst h;rw [bA,if_pos he,Rat.add_mul,Rat.add_assoc]
 ·rw [cG h,if_neg (by omega),Rat.zero_add]
theorem aRa {n C:Nat} {l:List aE} {c:Rat} (hl:∀t∈l,Bd 8 t.k) (hi:InT n l) (hc:Bd C c) (Fl:Nat→List Rat→Int→Option (List Rat)) (h0:∀k x,Fl (k+1) x (l.length:Int)=some x)
  (h1:∀k (g:Nat→Rat) (i A:Nat),i<l.length→(∀j,j<n→Bd A (g j))→A≤1073741824→C≤1073741824→∀(e:Nat),(xN l i).dof=(e:Int)→e<n→Fl (k+1) (mp g n) (i:Int)=Fl k (mp (iD g e (g e+(xN l i).k*c)) n) ((i+1:Nat):Int)):
  ∀(t i k A:Nat) (g:Nat→Rat),i+t=l.length→t<k→(∀j,j<n→Bd A (g j))→A+(C+9)*t≤1073741824→Fl k (mp g n) (i:Int)=some (mp (fun j=>g j+cf (l.drop i) j*c) n)∧∀j,j<n→Bd (A+(C+9)*t) (g j+cf (l.drop i) j*c)
 |0,i,k,A,g,hi',hk,hg,hA=>by
  obtain⟨k',rfl,_⟩:=bD hk
  have e:i=l.length:=by omega
  subst e
  have e2:∀j,g j+cf (l.drop l.length) j*c=g j:=fun j=>by rw [List.drop_eq_nil_of_le (Nat.le_refl _)];show g j+0*c=g j;rw [Rat.zero_mul,Rat.add_zero]
  refine⟨?_,fun j hj=>by rw [e2];exact(hg j hj).mono (by omega)⟩
  rw [h0,cJ (g:=g) fun j _=>e2 j]
 |t+1,i,k,A,g,hi',hk,hg,hA=>by
  obtain⟨k',rfl,_⟩:=bD hk
  have hil:i<l.length:=by omega
  obtain⟨b1,b2,b3⟩:=aUJ hA
  obtain⟨m1,m2⟩:=hi _ (aAB hil)
  have he:(xN l i).dof=(((xN l i).dof.toNat:Nat):Int):=by omega
  have hv:=(hg _ (show(xN l i).dof.toNat<n by omega)).add ((hl _ (aAB hil)).mul hc)
  have ih:=aRa hl hi hc Fl h0 h1 t (i+1) k' (A+(8+C)+1) (iD g (xN l i).dof.toNat (g (xN l i).dof.toNat+(xN l i).k*c)) (by omega) (by omega) (aSW hg (by omega) hv) b1
  have ed:l.drop i=xN l i::l.drop (i+1):=by
   rw [List.drop_eq_getElem_cons hil];unfold xN;simp [List.getD_eq_getElem?_getD,hil]
  have e3:=aQN (n:=n) (g:=g) (l:=l.drop (i+1)) (c:=c) he
  rw [h1 k' g i A hil hg b2 b3 _ he (by omega),ih.1,ed,e3]
  refine⟨rfl,fun j hj=>?_⟩
  have e4:=congrArg (fun x=>kP x j) e3
  simp only [zM hj] at e4
  rw [←e4]
  exact(ih.2 j hj).mono (by rw [Nat.mul_succ];omega)
theorem aON {n C:Nat} {l:List aE} {c:Rat} (hl:TB l) (hi:InT n l) (hc:Bd C c) {A:Nat} {g:Nat→Rat} (hg:∀j,j<n→Bd A (g j)) (hA:A+(C+9)*12≤1073741824) (hn:n≤1000) {K:Nat} (hK:13≤K):
  uF K (mp g n) l c=some (mp (fun j=>g j+cf l j*c) n)∧∀j,j<n→Bd (A+(C+9)*12) (g j+cf l j*c):=by
 have h12:=hl.1
 have hm:=Nat.mul_le_mul_left (C+9) h12
 have key:=aRa (n:=n) hl.2 hi hc (fun k x i=>nI K l c k x i) (fun k x=>by
  simp only [nI,dF (show¬(l.length:Int)<(l.length:Int) by omega),bU]) (fun k g i A hil hg h1 h2 e he hen=>by
  have hk:=hl.2 _ (aAB hil)
  simp only [nI,dT (show(i:Int)<(l.length:Int) by omega),cA,aGC hil,oB,he,eD (f:=g) hen,pU hk hc (by omega) h2,s6 (hg e hen) (hk.mul hc) h1 (by omega),t8 (f:=g) hen,oC (i:=i) (by omega)]) l.length 0 K A g (by omega) (by omega) hg (by omega)
 simp only [Int.natCast_zero,List.drop_zero] at key
 have ha:qR ([]:List Rat) (mp g n)=some (mp g n):=by rw [aCq (by simp [mp];omega)];rfl
 refine⟨?_,fun j hj=>(key.2 j hj).mono (by omega)⟩
 simp only [uF,ha,oB,key.1,yT]
def hU (l:List aA) (i:Nat):aA:=l.getD i ⟨0,0,0,0,0,[],[],0,0⟩
theorem aDW {l:List aA} {i:Nat} (h:i<l.length):bL l (i:Int)=some (hU l i):=rdD _ h
theorem lB {l:List aA} {i:Nat} (h:i<l.length):hU l i∈l:=by
 unfold hU
 simp only [List.getD_eq_getElem?_getD,List.getElem?_eq_getElem h,Option.getD_some]
 exact List.getElem_mem h
def rcq (l:List aA) (p:Nat→aI) (r j:Nat):Rat:=cf (hU l r).j j*(p r).n+cf (hU l r).t j*(p r).f
def ptot (l:List aA) (p:Nat→aI) (m j:Nat):Rat:=sm (fun r=>rcq l p r j) m
def InR (n:Nat) (l:List aA):Prop:=∀r∈l,InT n r.j∧InT n r.t
def PB' (C m:Nat) (p:Nat→aI):Prop:=∀r,r<m→Bd C (p r).n∧Bd C (p r).f
theorem aRz {A C t:Nat} (h:A+(C+9)*24*(t+1)≤1073741824):A+(C+9)*12≤1073741824∧A+(C+9)*12+(C+9)*12≤1073741824∧A+(C+9)*12+(C+9)*12+(C+9)*24*t≤1073741824:=by
 rw [Nat.mul_succ ((C+9)*24) t] at h
 generalize(C+9)*24*t=x at *
 omega
theorem aLy {g:Nat→Rat} {l:List aA} {p:Nat→aI} {i n:Nat} (f:Nat→Rat) (hg:g=fun j=>f j+ptot l p i j):mp (fun j=>g j+cf (hU l i).j j*(p i).n+cf (hU l i).t j*(p i).f) n=mp (fun j=>f j+ptot l p (i+1) j) n:=cJ fun j _=>by
 subst hg
 show f j+ptot l p i j+_+_=f j+(ptot l p i j+rcq l p i j)
 unfold rcq
 rw [Rat.add_assoc,Rat.add_assoc]
theorem aFP {n C:Nat} {l:List aA} {p:Nat→aI} (hl:RsB l) (hr:InR n l) (hp:PB' C l.length p) (f:Nat→Rat) (hn:n≤1000) (hll:l.length≤1000) {K:Nat} (hK:13≤K):
  ∀(t i k A:Nat),i+t=l.length→t<k→(∀j,j<n→Bd A (f j+ptot l p i j))→A+(C+9)*24*t≤1073741824→nG K l (mp p l.length) k (mp (fun j=>f j+ptot l p i j) n) (i:Int)=some (mp (fun j=>f j+ptot l p l.length j) n)∧∀j,j<n→Bd (A+(C+9)*24*t) (f j+ptot l p l.length j)
 |0,i,k,A,hi',hk,hg,hA=>by
  obtain⟨k',rfl,_⟩:=bD hk
  have e:i=l.length:=by omega
  subst e
  exact⟨by simp only [nG,dF (show¬(l.length:Int)<(l.length:Int) by omega),bU],fun j hj=>(hg j hj).mono (by omega)⟩
 |t+1,i,k,A,hi',hk,hg,hA=>by
  obtain⟨k',rfl,_⟩:=bD hk
  have hil:i<l.length:=by omega
  obtain⟨b1,b2,b3⟩:=aRz hA
  have hm:=lB hil
  obtain⟨p1,p2⟩:=hp i hil
  obtain⟨e1,f1⟩:=aON (hl _ hm).1 (hr _ hm).1 p1 hg b1 hn hK
  obtain⟨e2,f2⟩:=aON (hl _ hm).2 (hr _ hm).2 p2 f1 b2 hn hK
  have e3:=aLy (n:=n) (l:=l) (p:=p) (i:=i) f rfl
  have f3:∀j,j<n→Bd (A+(C+9)*12+(C+9)*12) (f j+ptot l p (i+1) j):=fun j hj=>by
   have:=congrArg (fun x=>kP x j) e3
   simp only [zM hj] at this
   rw [←this];exact f2 j hj
  obtain⟨i1,i2⟩:=aFP hl hr hp f hn hll hK t (i+1) k' _ (by omega) (by omega) f3 b3
  have hms:(C+9)*24*(t+1)=(C+9)*24*t+(C+9)*24:=Nat.mul_succ _ _
  refine⟨?_,fun j hj=>(i2 j hj).mono (by omega)⟩
  simp only [nG,dT (show(i:Int)<(l.length:Int) by omega),cA,aDW hil,eD (f:=p) hil,oB,e1,e2,e3,oC (i:=i) (by omega)]
  exact i1
def xL (d:List aD) (i:Nat):aD:=d.getD i ⟨0,0,false,0,0⟩
theorem aKX {d:List aD} {i:Nat} (h:i<d.length):bL d (i:Int)=some (xL d i):=rdD _ h
theorem zI {d:List aD} {i:Nat} (h:i<d.length):xL d i∈d:=by
 unfold xL
 simp only [List.getD_eq_getElem?_getD,List.getElem?_eq_getElem h,Option.getD_some]
 exact List.getElem_mem h
def acc (d:List aD) (f:Nat→Rat) (l:List aA) (p:Nat→aI) (j:Nat):Rat:=(f j+ptot l p l.length j)*(xL d j).inv
def aIK (A C m:Nat):Nat:=A+(C+9)*24*m+8
theorem aLJ {d:List aD} {f s:Nat→Rat} {A B:Nat} (hd:∀x∈d,Bd 8 x.inv) (hn:d.length≤1000) (hf:∀j,j<d.length→Bd A (f j)) (hs:∀j,j<d.length→Bd B (s j)) (hA:A≤500000000) (hB:B≤500000000) (K:Nat):
  ∀(t i k:Nat),i+t=d.length→t<k→gA K d (mp f d.length) (mp s d.length) k (mp (fun j=>(xL d j).inv*(f j+s j)) i) (i:Int)=some (mp (fun j=>(xL d j).inv*(f j+s j)) d.length)
 |0,i,k,hi,hk=>by
  obtain⟨k',rfl,_⟩:=bD hk
  have e:i=d.length:=by omega
  subst e
  simp only [gA,dF (show¬(d.length:Int)<(d.length:Int) by omega),bU]
 |t+1,i,k,hi,hk=>by
  obtain⟨k',rfl,_⟩:=bD hk
  have hil:i<d.length:=by omega
  have hv:=hd _ (zI hil)
  simp only [gA,dT (show(i:Int)<(d.length:Int) by omega),cA,aKX hil,eD (f:=f) hil,eD (f:=s) hil,oB,s6 (hf i hil) (hs i hil) (by omega) (by omega),pU hv ((hf i hil).add (hs i hil)) (by omega) (by omega),apM (g:=fun j=>(xL d j).inv*(f j+s j)) (i:=i) (by omega),oC (i:=i) (by omega)]
  exact aLJ hd hn hf hs hA hB K t (i+1) k' (by omega) (by omega)
theorem aMc {d:List aD} {f:Nat→Rat} {l:List aA} {p:Nat→aI} {A C:Nat} (hd:∀x∈d,Bd 8 x.inv) (hn:d.length≤1000) (hf:∀j,j<d.length→Bd A (f j)) (hl:RsB l) (hr:InR d.length l) (hll:l.length≤1000) (hp:PB' C l.length p) (hA:A≤400000000) (hC:(C+9)*24*l.length≤400000000) {K:Nat} (hK:2000≤K):
  lV K d (mp f d.length) l (mp p l.length)=some (mp (acc d f l p) d.length):=by
 have z:mp (fun j=>(0:Rat)+ptot l p 0 j) d.length=mp (fun _=>(0:Rat)) d.length:=cJ fun j _=>by show(0:Rat)+0=0;exact Rat.add_zero 0
 obtain⟨s1,s2⟩:=aFP (p:=p) hl hr hp (fun _=>(0:Rat)) hn hll (show 13≤K by omega) l.length 0 K 1 (by omega) (by omega) (fun j hj=>by show Bd 1 ((0:Rat)+0);rw [Rat.add_zero];exact Bd.zero) (by omega)
 rw [z] at s1
 have s3:∀j,j<d.length→Bd 400000001 ((0:Rat)+ptot l p l.length j):=fun j hj=>(s2 j hj).mono (by omega)
 have a1:=aLJ hd hn hf s3 (by omega) (by omega) K d.length 0 K (by omega) (by omega)
 simp only [Int.natCast_zero,zG] at s1 a1
 have e:mp (fun j=>(xL d j).inv*(f j+((0:Rat)+ptot l p l.length j))) d.length=mp (acc d f l p) d.length:=cJ fun j _=>by rw [Rat.zero_add,Rat.mul_comm];rfl
 simp only [lV,aAR,aDi (z:=(0:Rat)) (n:=d.length) (by omega),oB,s1,yS,a1,rW,e]
theorem aFe {d:List aD} {f:Nat→Rat} {l:List aA} {p:Nat→aI} {A C:Nat} (hd:∀x∈d,Bd 8 x.inv) (hf:∀j,j<d.length→Bd A (f j)) (hl:RsB l) (hr:InR d.length l) (hp:PB' C l.length p) (hn:d.length≤1000) (hll:l.length≤1000) (hA:A≤400000000) (hC:(C+9)*24*l.length≤400000000):sV (aIK A C l.length) (mp (acc d f l p) d.length):=z7 fun j hj=>by
 obtain⟨_,s2⟩:=aFP (p:=p) hl hr hp f hn hll (K:=1013) (by omega) l.length 0 (l.length+1) A (by omega) (by omega) (fun j hj=>by show Bd A (f j+0);rw [Rat.add_zero];exact hf j hj) (by omega)
 exact(s2 j hj).mul (hd _ (zI hj))
theorem aPb {n C:Nat} {a2:List aI} {r:Nat} {v72:aA} {q:aI} (hq:bL a2 (r:Int)=some q) (hl:TB v72.j) (hi:InT n v72.j) (hc:Bd C q.n) {A:Nat} {g:Nat→Rat} (hg:∀j,j<n→Bd A (g j)) (hA:A+(C+9)*12≤1073741824) {K:Nat} (hK:13≤K):
  dC K a2 (r:Int) v72 K (mp g n) 0=some (mp (fun j=>g j+cf v72.j j*q.n) n)∧∀j,j<n→Bd (A+(C+9)*12) (g j+cf v72.j j*q.n):=by
 have h12:=hl.1
 have hm:=Nat.mul_le_mul_left (C+9) h12
 have key:=aRa (n:=n) hl.2 hi hc (fun k x i=>dC K a2 (r:Int) v72 k x i) (fun k x=>by
  simp only [dC,dF (show¬(v72.j.length:Int)<(v72.j.length:Int) by omega),bU]) (fun k g i A hil hg h1 h2 e he hen=>by
  have hk:=hl.2 _ (aAB hil)
  simp only [dC,dT (show(i:Int)<(v72.j.length:Int) by omega),cA,aGC hil,oB,he,eD (f:=g) hen,hq,pU hk hc (by omega) h2,s6 (hg e hen) (hk.mul hc) h1 (by omega),t8 (f:=g) hen,oC (i:=i) (by omega)]) v72.j.length 0 K A g (by omega) (by omega) hg (by omega)
 simp only [Int.natCast_zero,List.drop_zero] at key
 exact⟨key.1,fun j hj=>(key.2 j hj).mono (by omega)⟩
theorem aMV {n C:Nat} {a2:List aI} {r:Nat} {v72:aA} {q:aI} (hq:bL a2 (r:Int)=some q) (hl:TB v72.t) (hi:InT n v72.t) (hc:Bd C q.f) {A:Nat} {g:Nat→Rat} (hg:∀j,j<n→Bd A (g j)) (hA:A+(C+9)*12≤1073741824) {K:Nat} (hK:13≤K):
  cX K a2 (r:Int) v72 K (mp g n) 0=some (mp (fun j=>g j+cf v72.t j*q.f) n)∧∀j,j<n→Bd (A+(C+9)*12) (g j+cf v72.t j*q.f):=by
 have h12:=hl.1
 have hm:=Nat.mul_le_mul_left (C+9) h12
 have key:=aRa (n:=n) hl.2 hi hc (fun k x i=>cX K a2 (r:Int) v72 k x i) (fun k x=>by
  simp only [cX,dF (show¬(v72.t.length:Int)<(v72.t.length:Int) by omega),bU]) (fun k g i A hil hg h1 h2 e he hen=>by
  have hk:=hl.2 _ (aAB hil)
  simp only [cX,dT (show(i:Int)<(v72.t.length:Int) by omega),cA,aGC hil,oB,he,eD (f:=g) hen,hq,pU hk hc (by omega) h2,s6 (hg e hen) (hk.mul hc) h1 (by omega),t8 (f:=g) hen,oC (i:=i) (by omega)]) v72.t.length 0 K A g (by omega) (by omega) hg (by omega)
 simp only [Int.natCast_zero,List.drop_zero] at key
 exact⟨key.1,fun j hj=>(key.2 j hj).mono (by omega)⟩
theorem aJc {a0:aF} {n C:Nat} {p:Nat→aI} (hl:RsB a0.rows) (hr:InR n a0.rows) (hp:PB' C a0.rows.length p) (f:Nat→Rat) (hn:n≤1000) (hll:a0.rows.length≤1000) {K:Nat} (hK:13≤K):
  ∀(t i k A:Nat),i+t=a0.rows.length→t<k→(∀j,j<n→Bd A (f j+ptot a0.rows p i j))→A+(C+9)*24*t≤1073741824→cK K a0 (mp p a0.rows.length) k (mp (fun j=>f j+ptot a0.rows p i j) n) (i:Int)=some (mp (fun j=>f j+ptot a0.rows p a0.rows.length j) n)
 |0,i,k,A,hi',hk,hg,hA=>by
  obtain⟨k',rfl,_⟩:=bD hk
  have e:i=a0.rows.length:=by omega
  subst e
  simp only [cK,dF (show¬(a0.rows.length:Int)<(a0.rows.length:Int) by omega),bU]
 |t+1,i,k,A,hi',hk,hg,hA=>by
  obtain⟨k',rfl,_⟩:=bD hk
  have hil:i<a0.rows.length:=by omega
  obtain⟨b1,b2,b3⟩:=aRz hA
  have hm:=lB hil
  obtain⟨p1,p2⟩:=hp i hil
  have hq:=eD (f:=p) hil
  obtain⟨e1,f1⟩:=aPb hq (hl _ hm).1 (hr _ hm).1 p1 hg b1 hK
  obtain⟨e2,f2⟩:=aMV hq (hl _ hm).2 (hr _ hm).2 p2 f1 b2 hK
  have e3:=aLy (n:=n) (l:=a0.rows) (p:=p) (i:=i) f rfl
  have f3:∀j,j<n→Bd (A+(C+9)*12+(C+9)*12) (f j+ptot a0.rows p (i+1) j):=fun j hj=>by
   have:=congrArg (fun x=>kP x j) e3
   simp only [zM hj] at this
   rw [←this];exact f2 j hj
  simp only [cK,dT (show(i:Int)<(a0.rows.length:Int) by omega),cA,aDW hil,oB,e1,jN,e2,e3,jE,oC (i:=i) (by omega)]
  exact aJc hl hr hp f hn hll hK t (i+1) k' _ (by omega) (by omega) f3 b3
theorem aJI {a0:aF} {B:Nat} (hd:∀x∈a0.dofs,Bd 8 x.inv) (hn:a0.dofs.length≤1000) (hB:B≤1000000000) (h:Nat→Rat) (hh:∀j,j<a0.dofs.length→Bd B (h j)) (K:Nat):
  ∀(t i k:Nat),i+t=a0.dofs.length→t<k→dQ K a0 k (mp (fun j=>if j<i then h j*(xL a0.dofs j).inv else h j) a0.dofs.length) (i:Int)=some (mp (fun j=>h j*(xL a0.dofs j).inv) a0.dofs.length)
 |0,i,k,hi,hk=>by
  obtain⟨k',rfl,_⟩:=bD hk
  have e:i=a0.dofs.length:=by omega
  subst e
  simp only [dQ,dF (show¬(a0.dofs.length:Int)<(a0.dofs.length:Int) by omega),bU]
  exact congrArg some (cJ fun j hj=>if_pos hj)
 |t+1,i,k,hi,hk=>by
  obtain⟨k',rfl,_⟩:=bD hk
  have hil:i<a0.dofs.length:=by omega
  have e1:(fun j=>if j<i then h j*(xL a0.dofs j).inv else h j) i=h i:=if_neg (by omega)
  have e2:mp (iD (fun j=>if j<i then h j*(xL a0.dofs j).inv else h j) i (h i*(xL a0.dofs i).inv)) a0.dofs.length=mp (fun j=>if j<i+1 then h j*(xL a0.dofs j).inv else h j) a0.dofs.length:=cJ fun j hj=>by
   by_cases e:j=i
   ·subst e;rw [bA,if_pos (by omega)]
   ·rw [cG e]
    by_cases hlt:j<i
    ·rw [if_pos hlt,if_pos (by omega)]
    ·rw [if_neg hlt,if_neg (by omega)]
  simp only [dQ,dT (show(i:Int)<(a0.dofs.length:Int) by omega),cA,aKX hil,eD (f:=fun j=>if j<i then h j*(xL a0.dofs j).inv else h j) hil,e1,oB,pU (hh i hil) (hd _ (zI hil)) (by omega) (by omega),t8 (f:=fun j=>if j<i then h j*(xL a0.dofs j).inv else h j) hil,e2,oC (i:=i) (by omega)]
  exact aJI hd hn hB h hh K t (i+1) k' (by omega) (by omega)
theorem aPX {x:List Rat} (hn:x.length≤60000000000):nR x=some x:=by
 unfold nR
 first|(rw [aCq (by simp;omega)];rfl)|(simp [aCq (show([]:List Rat).length+x.length≤60000000000 by simp;omega)])
theorem aIM {d:List aD} {f0 v0:List Rat} {f:Nat→Rat} {l:List aA} {p:Nat→aI} {A C:Nat} (hd:∀x∈d,Bd 8 x.inv) (hn:d.length≤1000) (hf:∀j,j<d.length→Bd A (f j)) (hl:RsB l) (hr:InR d.length l) (hll:l.length≤1000) (hp:PB' C l.length p) (hA:A≤400000000) (hC:(C+9)*24*l.length≤400000000) {K:Nat} (hK:2000≤K):
  bQ K ⟨d,f0,v0,l⟩ (mp f d.length) (mp p l.length)=some (mp (acc d f l p) d.length):=by
 have z:mp (fun j=>f j+ptot l p 0 j) d.length=mp f d.length:=cJ fun j _=>Rat.add_zero _
 have hz:∀j,j<d.length→Bd A (f j+ptot l p 0 j):=fun j hj=>by show Bd A (f j+0);rw [Rat.add_zero];exact hf j hj
 have s1:=aJc (a0:=⟨d,f0,v0,l⟩) (p:=p) hl hr hp f hn hll (show 13≤K by omega) l.length 0 K A (by simp) (by omega) hz (by omega)
 obtain⟨_,s2⟩:=aFP (p:=p) hl hr hp f hn hll (K:=1013) (by omega) l.length 0 (l.length+1) A (by omega) (by omega) hz (by omega)
 have s3:=aJI (a0:=⟨d,f0,v0,l⟩) (B:=900000000) hd hn (by omega) (fun j=>f j+ptot l p l.length j) (fun j hj=>(s2 j hj).mono (by omega)) K d.length 0 K (by simp) (by omega)
 simp only at s1 s3
 rw [z] at s1
 have e0:mp (fun j=>if j<0 then(f j+ptot l p l.length j)*(xL d j).inv else f j+ptot l p l.length j) d.length=mp (fun j=>f j+ptot l p l.length j) d.length:=cJ fun j _=>if_neg (by omega)
 rw [e0] at s3
 simp only [Int.natCast_zero] at s1 s3
 have hc:=aPX (x:=mp f d.length) (by rw [bO];omega)
 simp only [bQ,hc,oB,s1,jL,s3,jO]
 rfl
end Go.Proofs.YtldhbdgfpjoamaaGreat
set_option linter.unusedVariables false
namespace Go.Proofs.YtldhbdgfpjoamaaGreat
/-- Whether a row sticks. -/
def stk (v:List Rat) (r:aA):Bool:=decide (0<r.t.length)&&decide ((rt r.t v).num.sign=0)
def blk (v:List Rat) (l:List aA) (i:Nat):List (Nat×Nat):=(i,0)::(bif stk v (hU l i) then [(i,1),(i,2),(i,3)] else [])
def unk (v:List Rat) (l:List aA):Nat→List (Nat×Nat)
 |0=>[]
 |i+1=>unk v l i++blk v l i
def off (v:List Rat) (l:List aA):Nat→Nat
 |0=>0
 |i+1=>off v l i+(bif stk v (hU l i) then 4 else 1)
theorem aA0 {v:List Rat} {l:List aA}:∀m,(unk v l m).length=off v l m
 |0=>rfl
 |m+1=>by
  show(unk v l m++blk v l m).length=off v l m+_
  rw [List.length_append,aA0 m]
  unfold blk
  cases stk v (hU l m)<;>rfl
theorem tJ {v:List Rat} {l:List aA}:∀m,off v l m≤4*m
 |0=>Nat.le_refl _
 |m+1=>by
  have:=tJ (v:=v) (l:=l) m
  show off v l m+_≤_
  cases stk v (hU l m)
  ·show off v l m+1≤_;omega
  ·show off v l m+4≤_;omega
def vq (v:List Rat) (l:List aA) (r q:Nat):Prop:=q=0∨(stk v (hU l r)=true∧q≤3)
theorem aJY {v:List Rat} {l:List aA} {r q:Nat} (h:vq v l r q):off v l r+q<off v l (r+1):=by
 show _<off v l r+(bif stk v (hU l r) then 4 else 1)
 rcases h with h|⟨h,h2⟩
 ·rw [h];cases stk v (hU l r)<;>simp
 ·rw [h];show _<off v l r+4;omega
theorem aOH {v:List Rat} {l:List aA} {r m:Nat} (h:r≤m):off v l r≤off v l m:=by
 induction m with
 |zero=>
  have:r=0:=by omega
  rw [this];exact Nat.le_refl _
 |succ m ih=>
  by_cases e:r=m+1
  ·rw [e];exact Nat.le_refl _
  ·have h1:=ih (by omega)
   have h2:=aJY (v:=v) (l:=l) (r:=m) (q:=0) (.inl rfl)
   omega
theorem sM {v:List Rat} {l:List aA} {r m q:Nat} (h:r<m) (hq:vq v l r q):off v l r+q<off v l m:=Nat.lt_of_lt_of_le (aJY hq) (aOH h)
theorem aFQ {v:List Rat} {l:List aA} {r q:Nat} (hq:vq v l r q):∀m,r<m→(unk v l m)[off v l r+q]?=some (r,q)
 |0,h=>by omega
 |m+1,h=>by
  show(unk v l m++blk v l m)[off v l r+q]?=some (r,q)
  by_cases e:r=m
  ·subst e
   rw [List.getElem?_append_right (by rw [aA0];omega),aA0,Nat.add_sub_cancel_left]
   unfold blk
   rcases hq with hq|⟨h1,h2⟩
   ·rw [hq];rfl
   ·rw [h1]
    have:q=0∨q=1∨q=2∨q=3:=by omega
    rcases this with rfl|rfl|rfl|rfl<;>rfl
  ·rw [List.getElem?_append_left (by rw [aA0];exact sM (by omega) hq)]
   exact aFQ hq m (by omega)
theorem vR {v:List Rat} {l:List aA}:∀m k,k<off v l m→∃r q,r<m∧vq v l r q∧k=off v l r+q
 |0,k,h=>by exact absurd h (Nat.not_lt_zero _)
 |m+1,k,h=>by
  by_cases e:k<off v l m
  ·obtain⟨r,q,h1,h2,h3⟩:=vR m k e
   exact⟨r,q,by omega,h2,h3⟩
  ·have h':k<off v l m+(bif stk v (hU l m) then 4 else 1):=h
   refine⟨m,k-off v l m,by omega,?_,by omega⟩
   cases hs:stk v (hU l m)
   ·rw [hs] at h';have:k<off v l m+1:=h';exact .inl (by omega)
   ·rw [hs] at h';have:k<off v l m+4:=h';exact .inr ⟨hs,by omega⟩
theorem aFA {v:List Rat} {l:List aA} {r q r' q':Nat} (h:vq v l r q) (h':vq v l r' q') (e:off v l r+q=off v l r'+q'):r=r'∧q=q':=by
 have key:r=r':=by
  rcases Nat.lt_trichotomy r r' with h1|h1|h1
  ·have:=sM h1 h;omega
  ·exact h1
  ·have:=sM h1 h';omega
 subst key
 exact⟨rfl,by omega⟩
def pu (x:Nat×Nat):aC:=⟨(x.1:Int),(x.2:Int)⟩
def ru (x:Nat×Nat):aY:=⟨(x.1:Int),(x.2:Int)⟩
theorem aML {d:List aD} {f v:List Rat} {l:List aA} {r:aA} (hv:sV 64 v) (hr:RB r) {K:Nat} (hK:13≤K):nO K ⟨d,f,v,l⟩ r=some (rt r.t v).num.sign:=by
 simp only [nO,aH7 hv hr.2 hK,oB,mF (aJu hv hr.2) (by omega)]
theorem aJS {v:List Rat} {r:aA} (hv:sV 64 v) (hr:RB r) {K:Nat} (hK:13≤K):tH K r v=some (rt r.t v).num.sign:=by
 simp only [tH,aI7 hv hr.2 hK,oB,mF (aJu hv hr.2) (by omega)]
theorem apA {α:Type} {xs ys:List α} (h:xs.length+ys.length≤60000000000):qR xs ys=some (xs++ys):=aCq (by omega)
theorem aEv {d:List aD} {f v:List Rat} {l:List aA} (hv:sV 64 v) (hl:RsB l) (hn:l.length≤1000) {K:Nat} (hK:13≤K):∀(t i k:Nat),i+t=l.length→t<k→dN K ⟨d,f,v,l⟩ k ((unk v l i).map pu) (i:Int)=some ((unk v l l.length).map pu)
 |0,i,k,hi,hk=>by
  obtain⟨k',rfl,_⟩:=bD hk
  have e:i=l.length:=by omega
  subst e
  simp only [dN,dF (show¬(l.length:Int)<(l.length:Int) by omega),bU]
 |t+1,i,k,hi,hk=>by
  obtain⟨k',rfl,_⟩:=bD hk
  have hil:i<l.length:=by omega
  have hr:=hl _ (lB hil)
  have h4:=tJ (v:=v) (l:=l) i
  have hlen:((unk v l i).map pu).length=off v l i:=by rw [List.length_map,aA0]
  have ih:=aEv (d:=d) (f:=f) hv hl hn hK t (i+1) k' (by omega) (by omega)
  have e1:qR ((unk v l i).map pu) [(⟨(i:Int),0⟩:aC)]=some ((unk v l i).map pu++[(⟨(i:Int),0⟩:aC)]):=apA (by rw [hlen];simp;omega)
  have e2:qR ((unk v l i).map pu++[(⟨(i:Int),0⟩:aC)]) [(⟨(i:Int),1⟩:aC),⟨(i:Int),2⟩,⟨(i:Int),3⟩]=some ((unk v l i).map pu++[(⟨(i:Int),0⟩:aC)]++[(⟨(i:Int),1⟩:aC),⟨(i:Int),2⟩,⟨(i:Int),3⟩]):=apA (by rw [List.length_append,hlen];simp;omega)
  have e3:(unk v l (i+1)).map pu=(unk v l i).map pu++(blk v l i).map pu:=List.map_append
  rw [e3] at ih
  simp only [dN,dT (show(i:Int)<(l.length:Int) by omega),cA,aDW hil,oB,e1]
  unfold blk stk at ih
  by_cases h0:0<(hU l i).t.length
  ·simp only [dT (show(0:Int)<((hU l i).t.length:Int) by omega),cA,aML hv hr hK,oB]
   by_cases h1:(rt (hU l i).t v).num.sign=0
   ·simp only [qT h1,cA,e2,oB,oC (i:=i) (by omega)]
    rw [decide_eq_true h0,decide_eq_true h1] at ih
    rw [List.append_assoc]
    exact ih
   ·simp only [qF h1,bU,oC (i:=i) (by omega),oB]
    rw [decide_eq_false h1,Bool.and_false] at ih
    exact ih
  ·simp only [dF (show¬(0:Int)<((hU l i).t.length:Int) by omega),bU,oC (i:=i) (by omega),oB]
   rw [decide_eq_false h0,Bool.false_and] at ih
   exact ih
theorem aFi {d:List aD} {f v:List Rat} {l:List aA} (hv:sV 64 v) (hl:RsB l) (hn:l.length≤1000) {K:Nat} (hK:2000≤K):kE K ⟨d,f,v,l⟩=some ((unk v l l.length).map pu):=by
 have:=aEv (d:=d) (f:=f) hv hl hn (show 13≤K by omega) l.length 0 K (by omega) (by omega)
 simp only [Int.natCast_zero] at this
 simp only [kE,show([]:List aC)=(unk v l 0).map pu from rfl,this,oB,l6]
theorem aDv {v:List Rat} {l:List aA} (hv:sV 64 v) (hl:RsB l) (hn:l.length≤1000) {K:Nat} (hK:13≤K):∀(t i k:Nat),i+t=l.length→t<k→fA K v l k ((unk v l i).map ru) (i:Int)=some ((unk v l l.length).map ru)
 |0,i,k,hi,hk=>by
  obtain⟨k',rfl,_⟩:=bD hk
  have e:i=l.length:=by omega
  subst e
  simp only [fA,dF (show¬(l.length:Int)<(l.length:Int) by omega),bU]
 |t+1,i,k,hi,hk=>by
  obtain⟨k',rfl,_⟩:=bD hk
  have hil:i<l.length:=by omega
  have hr:=hl _ (lB hil)
  have h4:=tJ (v:=v) (l:=l) i
  have hlen:((unk v l i).map ru).length=off v l i:=by rw [List.length_map,aA0]
  have ih:=aDv hv hl hn hK t (i+1) k' (by omega) (by omega)
  have e1:qR ((unk v l i).map ru) [(⟨(i:Int),0⟩:aY)]=some ((unk v l i).map ru++[(⟨(i:Int),0⟩:aY)]):=apA (by rw [hlen];simp;omega)
  have e2:qR ((unk v l i).map ru++[(⟨(i:Int),0⟩:aY)]) [(⟨(i:Int),1⟩:aY),⟨(i:Int),2⟩,⟨(i:Int),3⟩]=some ((unk v l i).map ru++[(⟨(i:Int),0⟩:aY)]++[(⟨(i:Int),1⟩:aY),⟨(i:Int),2⟩,⟨(i:Int),3⟩]):=apA (by rw [List.length_append,hlen];simp;omega)
  have e3:(unk v l (i+1)).map ru=(unk v l i).map ru++(blk v l i).map ru:=List.map_append
  rw [e3] at ih
  simp only [fA,dT (show(i:Int)<(l.length:Int) by omega),cA,aDW hil,oB,e1]
  unfold blk stk at ih
  by_cases h0:0<(hU l i).t.length
  ·simp only [dT (show(0:Int)<((hU l i).t.length:Int) by omega),cA,aJS hv hr hK,oB]
   by_cases h1:(rt (hU l i).t v).num.sign=0
   ·simp only [qT h1,cA,e2,oB,oC (i:=i) (by omega)]
    rw [decide_eq_true h0,decide_eq_true h1] at ih
    rw [List.append_assoc]
    exact ih
   ·simp only [qF h1,bU,oC (i:=i) (by omega),oB]
    rw [decide_eq_false h1,Bool.and_false] at ih
    exact ih
  ·simp only [dF (show¬(0:Int)<((hU l i).t.length:Int) by omega),bU,oC (i:=i) (by omega),oB]
   rw [decide_eq_false h0,Bool.false_and] at ih
   exact ih
theorem aAm {v:List Rat} {l:List aA} (hv:sV 64 v) (hl:RsB l) (hn:l.length≤1000) {K:Nat} (hK:2000≤K):kA K v l=some ((unk v l l.length).map ru):=by
 have:=aDv hv hl hn (show 13≤K by omega) l.length 0 K (by omega) (by omega)
 simp only [Int.natCast_zero] at this
 simp only [kA,show([]:List aY)=(unk v l 0).map ru from rfl,this,oB,uZ]
theorem rdU {v:List Rat} {l:List aA} {m r q:Nat} (hq:vq v l r q) (hr:r<m):bL ((unk v l m).map pu) ((off v l r+q:Nat):Int)=some ⟨(r:Int),(q:Int)⟩:=rdG (by rw [List.getElem?_map,aFQ hq m hr];rfl)
theorem aUz {v:List Rat} {l:List aA} {m r q:Nat} (hq:vq v l r q) (hr:r<m):bL ((unk v l m).map ru) ((off v l r+q:Nat):Int)=some ⟨(r:Int),(q:Int)⟩:=rdG (by rw [List.getElem?_map,aFQ hq m hr];rfl)
theorem vK {v:List Rat} {l:List aA} {m:Nat}:((unk v l m).map pu).length=off v l m:=by rw [List.length_map,aA0]
theorem aCQ {v:List Rat} {l:List aA} {m:Nat}:((unk v l m).map ru).length=off v l m:=by rw [List.length_map,aA0]
end Go.Proofs.YtldhbdgfpjoamaaGreat
set_option linter.unusedVariables false
namespace Go.Proofs.YtldhbdgfpjoamaaGreat
instance vqDec {v:List Rat} {l:List aA} {r q:Nat}:Decidable (vq v l r q):=by unfold vq;infer_instance
theorem vq3 {v:List Rat} {l:List aA} {r q:Nat} (h:vq v l r q):q≤3:=by
 rcases h with h|h
 ·omega
 ·exact h.2
def ow (v:List Rat) (l:List aA) (z:Nat→Rat) (i k q:Nat):Rat:=if vq v l i q∧off v l i+q<k then z (off v l i+q) else 0
theorem aOD {v:List Rat} {l:List aA} {z:Nat→Rat} {i k r q0:Nat} (hq:vq v l r q0) (hk:k=off v l r+q0):(r=i→mp (iD (ow v l z i k) q0 (z k)) 4=mp (ow v l z i (k+1)) 4)∧(r≠i→mp (ow v l z i k) 4=mp (ow v l z i (k+1)) 4):=by
 refine⟨fun e=>cJ fun q _=>?_,fun e=>cJ fun q _=>?_⟩
 ·subst e
  by_cases h:q=q0
  ·subst h
   rw [bA]
   unfold ow
   rw [if_pos ⟨hq,by omega⟩,←hk]
  ·rw [cG h]
   unfold ow
   by_cases h2:vq v l r q∧off v l r+q<k
   ·rw [if_pos h2,if_pos ⟨h2.1,by omega⟩]
   ·rw [if_neg h2,if_neg fun h3=>h2 ⟨h3.1,by omega⟩]
 ·unfold ow
  by_cases h2:vq v l i q∧off v l i+q<k
  ·rw [if_pos h2,if_pos ⟨h2.1,by omega⟩]
  ·rw [if_neg h2,if_neg fun h3=>?_]
   have:off v l i+q=off v l r+q0:=by
    have:=h3.2
    by_cases e2:off v l i+q<k
    ·exact absurd ⟨h3.1,e2⟩ h2
    ·omega
   exact e (aFA h3.1 hq this).1.symm
theorem aMw {v:List Rat} {l:List aA} {m:Nat} {z:Nat→Rat} (hm:m≤1000) (i:Nat) (K:Nat):∀(t k fu:Nat),k+t=off v l m→t<fu→iT K (mp z (off v l m)) ((unk v l m).map ru) (i:Int) fu (mp (ow v l z i k) 4) (k:Int)=some (mp (ow v l z i (off v l m)) 4)
 |0,k,fu,hi,hk=>by
  obtain⟨k',rfl,_⟩:=bD hk
  have e:k=off v l m:=by omega
  subst e
  simp only [iT,aCQ,dF (show¬(off v l m:Int)<(off v l m:Int) by omega),bU]
 |t+1,k,fu,hi,hk=>by
  obtain⟨k',rfl,_⟩:=bD hk
  have hkl:k<off v l m:=by omega
  have h4:=tJ (v:=v) (l:=l) m
  obtain⟨r,q,h1,h2,h3⟩:=vR m k hkl
  have hq3:=vq3 h2
  have hu:=aUz (m:=m) h2 h1
  rw [←h3] at hu
  obtain⟨s1,s2⟩:=aOD (z:=z) (i:=i) h2 h3
  have ih:=aMw (v:=v) (l:=l) (z:=z) hm i K t (k+1) k' (by omega) (by omega)
  simp only [iT,aCQ,dT (show(k:Int)<(off v l m:Int) by omega),cA,hu,oB]
  by_cases e:r=i
  ·simp only [qT (show(r:Int)=(i:Int) by omega),cA,eD (f:=z) hkl,eD (f:=ow v l z i k) (n:=4) (i:=q) (by omega),oB,t8 (f:=ow v l z i k) (n:=4) (i:=q) (by omega),s1 e,oC (i:=k) (by omega)]
   exact ih
  ·simp only [qF (show(r:Int)≠(i:Int) by omega),bU,oC (i:=k) (by omega),oB,s2 e]
   exact ih
def pz (v:List Rat) (l:List aA) (z:Nat→Rat) (i:Nat):aI:=
 if(hU l i).t.length=0 then⟨z (off v l i),0⟩
 else if(rt (hU l i).t v).num.sign≠0 then⟨z (off v l i),(((-(rt (hU l i).t v).num.sign:Int):Rat)/((1:Int):Rat))*((hU l i).mu*z (off v l i))⟩
 else⟨z (off v l i),z (off v l i+1)-z (off v l i+2)⟩
theorem aLo (x:Rat):-1≤x.num.sign∧x.num.sign≤1:=by
 rcases Int.lt_trichotomy x.num 0 with h|h|h
 ·rw [Int.sign_eq_neg_one_of_neg h];omega
 ·rw [h];decide
 ·rw [Int.sign_eq_one_of_pos h];omega
theorem qsg (x:Rat):qof (-x.num.sign) 1=some (((-x.num.sign:Int):Rat)/((1:Int):Rat))∧Bd 2 (((-x.num.sign:Int):Rat)/((1:Int):Rat)):=by
 have:=aLo x
 obtain⟨r,h1,h2,h3⟩:=aDy (k:=2) (p:=-x.num.sign) (q:=1) (by omega) (by omega) (by decide) (by omega)
 rw [←h2];exact⟨h1,h3⟩
theorem aGx {v:List Rat} {l:List aA} {z:Nat→Rat} {C:Nat} (hz:∀k,k<off v l l.length→Bd C (z k)) (hl:RsC l):PB' (2*C+11) l.length (pz v l z):=fun i hi=>by
 have h0:=hz _ (sM (v:=v) (l:=l) (r:=i) (q:=0) hi (.inl rfl))
 rw [Nat.add_zero] at h0
 have hm:=(hl _ (lB hi)).2
 unfold pz
 split
 ·exact⟨h0.mono (by omega),Bd.zero.mono (by omega)⟩
 ·rename_i ht
  split
  ·exact⟨h0.mono (by omega),((qsg _).2.mul (hm.mul h0)).mono (by omega)⟩
  ·rename_i hs
   have hst:stk v (hU l i)=true:=by
    unfold stk
    rw [decide_eq_true (show 0<(hU l i).t.length by omega),decide_eq_true (show(rt (hU l i).t v).num.sign=0 from Decidable.of_not_not hs)];rfl
   exact⟨h0.mono (by omega),((hz _ (sM (q:=1) hi (.inr ⟨hst,by omega⟩))).sub (hz _ (sM (q:=2) hi (.inr ⟨hst,by omega⟩)))).mono (by omega)⟩
theorem aGU {v:List Rat} {l:List aA} {z:Nat→Rat} {C:Nat} (hv:sV 64 v) (hl:RsC l) (hz:∀k,k<off v l l.length→Bd C (z k)) (hC:C≤500000000) (hn:l.length≤1000) {K:Nat} (hK:5000≤K):∀(t i k:Nat),i+t=l.length→t<k→k9 K v l (mp z (off v l l.length)) ((unk v l l.length).map ru) k (mp (pz v l z) i) (i:Int)=some (mp (pz v l z) l.length)
 |0,i,k,hi,hk=>by
  obtain⟨k',rfl,_⟩:=bD hk
  have e:i=l.length:=by omega
  subst e
  simp only [k9,dF (show¬(l.length:Int)<(l.length:Int) by omega),bU]
 |t+1,i,k,hi,hk=>by
  obtain⟨k',rfl,_⟩:=bD hk
  have hil:i<l.length:=by omega
  have h4:=tJ (v:=v) (l:=l) l.length
  have hr:=hl _ (lB hil)
  have ih:=aGU hv hl hz hC hn hK t (i+1) k' (by omega) (by omega)
  have e0:mp (ow v l z i 0) 4=mp (fun _=>(0:Rat)) 4:=cJ fun q _=>if_neg (by omega)
  have e1:=aMw (v:=v) (l:=l) (m:=l.length) (z:=z) hn i K (off v l l.length) 0 K (by omega) (by omega)
  rw [e0] at e1
  simp only [Int.natCast_zero] at e1
  have hmk:yJ 4 (0:Rat)=some (mp (fun _=>(0:Rat)) 4):=aDi (n:=4) (by omega)
  have l0:=sM (v:=v) (l:=l) (m:=l.length) (r:=i) (q:=0) hil (.inl rfl)
  have o0:ow v l z i (off v l l.length) 0=z (off v l i):=by unfold ow;rw [if_pos ⟨.inl rfl,l0⟩,Nat.add_zero]
  rw [Nat.add_zero] at l0
  have r0:bL (mp (ow v l z i (off v l l.length)) 4) 0=some (z (off v l i)):=by rw [←o0];exact eD (i:=0) (by omega)
  have hF:vW K (hU l i) v (mp (ow v l z i (off v l l.length)) 4)=some (pz v l z i):=by
   simp only [vW,aJS hv hr.1 (show 13≤K by omega),oB,r0]
   unfold pz
   by_cases ht:(hU l i).t.length=0
   ·simp only [qT (show((hU l i).t.length:Int)=0 by omega),cA,if_pos ht]
   ·simp only [qF (show((hU l i).t.length:Int)≠0 by omega),bU,if_neg ht]
    by_cases hs:(rt (hU l i).t v).num.sign=0
    ·have hst:stk v (hU l i)=true:=by
      unfold stk;rw [decide_eq_true (show 0<(hU l i).t.length by omega),decide_eq_true hs];rfl
     have l1:=sM (v:=v) (l:=l) (m:=l.length) (r:=i) (q:=1) hil (.inr ⟨hst,by omega⟩)
     have l2:=sM (v:=v) (l:=l) (m:=l.length) (r:=i) (q:=2) hil (.inr ⟨hst,by omega⟩)
     have r1:bL (mp (ow v l z i (off v l l.length)) 4) 1=some (z (off v l i+1)):=by
      have:ow v l z i (off v l l.length) 1=z (off v l i+1):=if_pos ⟨.inr ⟨hst,by omega⟩,l1⟩
      rw [←this];exact eD (i:=1) (by omega)
     have r2:bL (mp (ow v l z i (off v l l.length)) 4) 2=some (z (off v l i+2)):=by
      have:ow v l z i (off v l l.length) 2=z (off v l i+2):=if_pos ⟨.inr ⟨hst,by omega⟩,l2⟩
      rw [←this];exact eD (i:=2) (by omega)
     simp only [nF hs,bU,r1,r2,oB,zD (hz _ l1) (hz _ l2) (by omega) (by omega),if_neg (show¬((rt (hU l i).t v).num.sign≠0) from fun h=>h hs)]
    ·have hb:=aLo (rt (hU l i).t v)
     have hz0:=hz _ l0
     simp only [nT hs,cA,k5 (show -9223372036854775808≤-(rt (hU l i).t v).num.sign∧_ by omega),oB,(qsg _).1,pU hr.2 hz0 (by omega) (by omega),pU (qsg (rt (hU l i).t v)).2 (hr.2.mul hz0) (by omega) (by omega),if_pos hs]
  simp only [k9,dT (show(i:Int)<(l.length:Int) by omega),cA,hmk,oB,e1,wL,aDW hil,hF,apM (g:=pz v l z) (i:=i) (by omega),oC (i:=i) (by omega)]
  exact ih
theorem aHi {v:List Rat} {l:List aA} {z:Nat→Rat} {C:Nat} (hv:sV 64 v) (hl:RsC l) (hz:∀k,k<off v l l.length→Bd C (z k)) (hC:C≤500000000) (hn:l.length≤1000) {K:Nat} (hK:5000≤K):rQ K v l (mp z (off v l l.length))=some (mp (pz v l z) l.length):=by
 have:=aGU hv hl hz hC hn hK l.length 0 K (by omega) (by omega)
 simp only [Int.natCast_zero,zG] at this
 simp only [rQ,aAm hv (fun r h=>(hl r h).1) hn (show 2000≤K by omega),oB,this,wA]
def uk (v:List Rat) (l:List aA) (k:Nat):Nat×Nat:=(unk v l l.length).getD k (0,0)
theorem aEy {v:List Rat} {l:List aA} {r q:Nat} (hq:vq v l r q) (hr:r<l.length):uk v l (off v l r+q)=(r,q):=by
 unfold uk
 rw [List.getD_eq_getElem?_getD,aFQ hq _ hr];rfl
def rv (v:List Rat) (l:List aA) (a:List Rat) (k:Nat):Rat:=
 if(uk v l k).2=0 then rt (hU l (uk v l k).1).j a
 else if(uk v l k).2=1 then rt (hU l (uk v l k).1).t a
 else if(uk v l k).2=2 then -(rt (hU l (uk v l k).1).t a)
 else 0
def zv (v:List Rat) (l:List aA) (z:Nat→Rat) (k:Nat):Rat:=
 if(uk v l k).2=0 then 0
 else if(uk v l k).2=1 then z (k+2)
 else if(uk v l k).2=2 then z (k+1)
 else(hU l (uk v l k).1).mu*z (k-3)-(z (k-2)+z (k-1))
def vl (v:List Rat) (l:List aA) (a:List Rat) (z:Nat→Rat) (k:Nat):Rat:=rv v l a k+zv v l z k
theorem aGm {v a:List Rat} {l:List aA} {z:Nat→Rat} {C B:Nat} (hl:RsC l) (ha:sV B a) (hB:B≤10000000) (hz:∀k,k<off v l l.length→Bd C (z k)) (hC:C≤100000000) (hn:l.length≤1000) {K:Nat} (hK:13≤K):∀(t k fu:Nat),k+t=off v l l.length→t<fu→eR K l (mp z (off v l l.length)) a ((unk v l l.length).map ru) fu (mp (vl v l a z) k) (k:Int)=some (mp (vl v l a z) (off v l l.length))
 |0,k,fu,hi,hk=>by
  obtain⟨k',rfl,_⟩:=bD hk
  have e:k=off v l l.length:=by omega
  subst e
  simp only [eR,aCQ,dF (show¬(off v l l.length:Int)<(off v l l.length:Int) by omega),bU]
 |t+1,k,fu,hi,hk=>by
  obtain⟨k',rfl,_⟩:=bD hk
  have hkl:k<off v l l.length:=by omega
  have h4:=tJ (v:=v) (l:=l) l.length
  obtain⟨r,q,h1,h2,h3⟩:=vR l.length k hkl
  have hq3:=vq3 h2
  have hu:=aUz (m:=l.length) h2 h1
  rw [←h3] at hu
  have huk:=aEy h2 h1
  rw [←h3] at huk
  have hr:=hl _ (lB h1)
  have ih:=aGm hl ha hB hz hC hn hK t (k+1) k' (by omega) (by omega)
  have bj:=aBW ha hr.1.1
  have bt:=aBW ha hr.1.2
  have ap:=apM (g:=vl v l a z) (i:=k) (by omega)
  simp only [eR,aCQ,dT (show(k:Int)<(off v l l.length:Int) by omega),cA,hu,oB,aDW h1]
  have hcase:q=0∨q=1∨q=2∨q=3:=by omega
  rcases hcase with rfl|rfl|rfl|rfl
  ·have e:vl v l a z k=rt (hU l r).j a:=by unfold vl rv zv;rw [huk];exact Rat.add_zero _
   rw [e] at ap
   simp only [qT (show((0:Nat):Int)=0 from rfl),cA,aC0 ha (by omega) hr.1.1 hK,oB,ap,oC (i:=k) (by omega)]
   exact ih
  ·have hst:stk v (hU l r)=true:=by rcases h2 with h|h;omega;exact h.1
   have l3:=sM (v:=v) (l:=l) (m:=l.length) (r:=r) (q:=3) h1 (.inr ⟨hst,by omega⟩)
   have e:vl v l a z k=rt (hU l r).t a+z (k+2):=by unfold vl rv zv;rw [huk];rfl
   rw [e] at ap
   have c2:aT ((k:Int)+2)=some ((k+2:Nat):Int):=by rw [k5 (by omega)];rfl
   simp only [qF (show((1:Nat):Int)≠0 by omega),qT (show((1:Nat):Int)=1 from rfl),bU,cA,aC0 ha (by omega) hr.1.2 hK,oB,c2,eD (f:=z) (n:=off v l l.length) (i:=k+2) (by omega),s6 bt (hz (k+2) (by omega)) (by omega) (by omega),ap,oC (i:=k) (by omega)]
   exact ih
  ·have hst:stk v (hU l r)=true:=by rcases h2 with h|h;omega;exact h.1
   have l3:=sM (v:=v) (l:=l) (m:=l.length) (r:=r) (q:=3) h1 (.inr ⟨hst,by omega⟩)
   have e:vl v l a z k=z (k+1)-rt (hU l r).t a:=by
    unfold vl rv zv;rw [huk]
    show -(rt (hU l r).t a)+z (k+1)=_
    rw [Rat.add_comm,Rat.sub_eq_add_neg]
   rw [e] at ap
   simp only [qF (show((2:Nat):Int)≠0 by omega),qF (show((2:Nat):Int)≠1 by omega),qT (show((2:Nat):Int)=2 from rfl),bU,cA,oC (i:=k) (by omega),oB,eD (f:=z) (n:=off v l l.length) (i:=k+1) (by omega),aC0 ha (by omega) hr.1.2 hK,zD (hz (k+1) (by omega)) bt (by omega) (by omega),ap]
   exact ih
  ·have e:vl v l a z k=(hU l r).mu*z (k-3)-(z (k-2)+z (k-1)):=by unfold vl rv zv;rw [huk];exact Rat.zero_add _
   rw [e] at ap
   have c1:aT ((k:Int)-3)=some ((k-3:Nat):Int):=by rw [k5 (by omega)];congr 1;omega
   have c2:aT ((k:Int)-2)=some ((k-2:Nat):Int):=by rw [k5 (by omega)];congr 1;omega
   have c3:aT ((k:Int)-1)=some ((k-1:Nat):Int):=by rw [k5 (by omega)];congr 1;omega
   have z1:=hz (k-3) (by omega)
   have z2:=hz (k-2) (by omega)
   have z3:=hz (k-1) (by omega)
   simp only [qF (show((3:Nat):Int)≠0 by omega),qF (show((3:Nat):Int)≠1 by omega),qF (show((3:Nat):Int)≠2 by omega),bU,c1,c2,c3,oB,eD (f:=z) (n:=off v l l.length) (i:=k-3) (by omega),eD (f:=z) (n:=off v l l.length) (i:=k-2) (by omega),eD (f:=z) (n:=off v l l.length) (i:=k-1) (by omega),pU hr.2 z1 (by omega) (by omega),s6 z2 z3 (by omega) (by omega),zD (hr.2.mul z1) (z2.add z3) (by omega) (by omega),ap,oC (i:=k) (by omega)]
   exact ih
theorem aVk {v a:List Rat} {l:List aA} {z:Nat→Rat} {C B:Nat} (hl:RsC l) (ha:sV B a) (hz:∀k,k<off v l l.length→Bd C (z k)) {k:Nat} (hk:k<off v l l.length):Bd (1+(B+9)*12+(3*C+20)) (vl v l a z k):=by
 obtain⟨r,q,h1,h2,h3⟩:=vR l.length k hk
 have hq3:=vq3 h2
 have huk:=aEy h2 h1
 rw [←h3] at huk
 have hr:=hl _ (lB h1)
 have bj:=aBW ha hr.1.1
 have bt:=aBW ha hr.1.2
 have hC:∀k,k<off v l l.length→Bd (3*C+19) (z k):=fun k hk=>(hz k hk).mono (by omega)
 have b1:Bd (1+(B+9)*12) (rv v l a k):=by
  unfold rv;rw [huk]
  split
  ·exact bj
  ·split
   ·exact bt
   ·split
    ·exact bt.neg
    ·exact Bd.zero.mono (by omega)
 have b2:Bd (3*C+19) (zv v l z k):=by
  unfold zv;rw [huk]
  have hcase:q=0∨q=1∨q=2∨q=3:=by omega
  rcases hcase with rfl|rfl|rfl|rfl
  ·exact Bd.zero.mono (by omega)
  ·have hst:stk v (hU l r)=true:=by rcases h2 with h|h;omega;exact h.1
   have l3:=sM (v:=v) (l:=l) (m:=l.length) (r:=r) (q:=3) h1 (.inr ⟨hst,by omega⟩)
   exact hC _ (by omega)
  ·have hst:stk v (hU l r)=true:=by rcases h2 with h|h;omega;exact h.1
   have l3:=sM (v:=v) (l:=l) (m:=l.length) (r:=r) (q:=3) h1 (.inr ⟨hst,by omega⟩)
   exact hC _ (by omega)
  ·exact((hr.2.mul (hz (k-3) (by omega))).sub ((hz (k-2) (by omega)).add (hz (k-1) (by omega)))).mono (by omega)
 exact(b1.add b2).mono (by omega)
end Go.Proofs.YtldhbdgfpjoamaaGreat
set_option linter.unusedVariables false
namespace Go.Proofs.YtldhbdgfpjoamaaGreat
theorem aNH {d:List aD} {f:Nat→Rat} {v:List Rat} {l:List aA} {z:Nat→Rat} {A C:Nat} (hd:∀x∈d,Bd 8 x.inv) (hn:d.length≤100) (hf:∀j,j<d.length→Bd A (f j)) (hv:sV 64 v) (hl:RsC l) (hr:InR d.length l) (hll:l.length≤100) (hz:∀k,k<off v l l.length→Bd C (z k)) (hA:A≤1000000) (hC:(2*C+20)*24*l.length≤5000000) (hC2:C≤100000000) {K:Nat} (hK:5000≤K):
  oH K d (mp f d.length) v l (mp z (off v l l.length))=some (mp (vl v l (mp (acc d f l (pz v l z)) d.length) z) (off v l l.length)):=by
 have hp:=aGx hz hl
 have hrb:RsB l:=fun r h=>(hl r h).1
 have hcl:(2*C+11+9)*24*l.length≤5000000:=hC
 have e1:=aHi hv hl hz (by omega) (by omega) hK
 have e2:=aMc (p:=pz v l z) hd (show d.length≤1000 by omega) hf hrb hr (by omega) hp (by omega) (by omega) (show 2000≤K by omega)
 have hb:=aFe (p:=pz v l z) hd hf hrb hr hp (by omega) (by omega) (by omega) (by omega)
 have e3:=aGm (z:=z) hl hb (by unfold aIK;omega) hz hC2 (show l.length≤1000 by omega) (show 13≤K by omega) (off v l l.length) 0 K (by omega) (by have:=tJ (v:=v) (l:=l) l.length;omega)
 simp only [Int.natCast_zero,zG] at e3
 simp only [oH,e1,oB,e2,aAm hv hrb (show l.length≤1000 by omega) (show 2000≤K by omega),e3,wG]
theorem aQY {f g:Nat→Rat} {n:Nat} (t:aE):trm (mp (fun j=>f j+g j) n) t=trm (mp f n) t+trm (mp g n) t:=by
 unfold trm
 rw [bO,bO,bO]
 by_cases h:0≤t.dof∧t.dof<(n:Int)
 ·rw [decide_eq_true h]
  show t.k*kP _ _=t.k*kP _ _+t.k*kP _ _
  rw [zM (by omega),zM (by omega),zM (by omega),Rat.mul_add]
 ·rw [decide_eq_false h];exact(Rat.add_zero 0).symm
theorem add4 (x y a b:Rat):x+y+(a+b)=x+a+(y+b):=by
 rw [Rat.add_assoc,←Rat.add_assoc y,Rat.add_comm y a,Rat.add_assoc a,←Rat.add_assoc]
theorem aMo {f g:Nat→Rat} {n:Nat}:∀(l:List aE) (x y:Rat),rtf (mp (fun j=>f j+g j) n) l (x+y)=rtf (mp f n) l x+rtf (mp g n) l y
 |[],x,y=>rfl
 |t::l,x,y=>by
  show rtf _ l (x+y+trm _ t)=rtf _ l (x+trm _ t)+rtf _ l (y+trm _ t)
  rw [aQY,←aMo l,add4]
theorem aIp {f g:Nat→Rat} {n:Nat} (l:List aE):rt l (mp (fun j=>f j+g j) n)=rt l (mp f n)+rt l (mp g n):=by
 have:=aMo (f:=f) (g:=g) (n:=n) l 0 0
 rwa [Rat.add_zero] at this
theorem aLe {v:List Rat} {l:List aA} {f g:Nat→Rat} {n k:Nat}:rv v l (mp (fun j=>f j+g j) n) k=rv v l (mp f n) k+rv v l (mp g n) k:=by
 unfold rv
 split
 ·exact aIp _
 ·split
  ·exact aIp _
  ·split
   ·rw [aIp,Rat.neg_add]
   ·exact(Rat.add_zero 0).symm
theorem aGw {n:Nat}:∀(l:List aE) (x:Rat),rtf (mp (fun _=>(0:Rat)) n) l x=x
 |[],x=>rfl
 |t::l,x=>by
  show rtf _ l (x+trm _ t)=x
  have:trm (mp (fun _=>(0:Rat)) n) t=0:=by
   unfold trm
   rw [bO]
   by_cases h:0≤t.dof∧t.dof<(n:Int)
   ·rw [decide_eq_true h];show t.k*kP _ _=0;rw [zM (by omega),Rat.mul_zero]
   ·rw [decide_eq_false h];rfl
  rw [this,Rat.add_zero]
  exact aGw l x
theorem aQH {v:List Rat} {l:List aA} {n k:Nat}:rv v l (mp (fun _=>(0:Rat)) n) k=0:=by
 unfold rv rt
 rw [aGw,aGw]
 split
 ·rfl
 ·split
  ·rfl
  ·split<;>rfl
def p0:Nat→aI:=fun _=>⟨0,0⟩
def z0:Nat→Rat:=fun _=>0
theorem aE5 {l:List aA} {j:Nat}:∀m,ptot l p0 m j=0
 |0=>rfl
 |m+1=>by
  show ptot l p0 m j+rcq l p0 m j=0
  rw [aE5 m]
  unfold rcq
  show(0:Rat)+(cf _ _*0+cf _ _*0)=0
  rw [Rat.mul_zero,Rat.mul_zero,Rat.add_zero,Rat.add_zero]
theorem aHG {d:List aD} {f:Nat→Rat} {l:List aA} {p:Nat→aI}:acc d f l p=fun j=>acc d f l p0 j+acc d z0 l p j:=by
 funext j
 unfold acc z0
 rw [aE5,Rat.add_zero,Rat.zero_add,←Rat.add_mul]
theorem aGh {l:List aA} {p q:Nat→aI} {j:Nat}:∀m,(∀r,r<m→p r=q r)→ptot l p m j=ptot l q m j
 |0,_=>rfl
 |m+1,h=>by
  show ptot l p m j+rcq l p m j=ptot l q m j+rcq l q m j
  rw [aGh m fun r hr=>h r (by omega)]
  unfold rcq
  rw [h m (by omega)]
theorem aHv {d:List aD} {f:Nat→Rat} {l:List aA} {p q:Nat→aI} (h:∀r,r<l.length→p r=q r):acc d f l p=acc d f l q:=by
 funext j
 unfold acc
 rw [aGh _ h]
theorem aN7 {d:List aD} {l:List aA}:acc d z0 l p0=fun _=>0:=by
 funext j
 unfold acc z0
 rw [aE5,Rat.add_zero,Rat.zero_mul]
theorem aLF {v:List Rat} {l:List aA} {i:Nat}:pz v l z0 i=⟨0,0⟩:=by
 unfold pz z0
 split
 ·rfl
 ·split
  ·rw [Rat.mul_zero,Rat.mul_zero]
  ·rw [Rat.sub_self]
theorem aQ3 {v:List Rat} {l:List aA} {k:Nat}:zv v l z0 k=0:=by
 unfold zv z0
 split
 ·rfl
 ·split
  ·rfl
  ·split
   ·rfl
   ·rw [Rat.mul_zero,Rat.add_zero,Rat.sub_self]
def ek (k:Nat):Nat→Rat:=iD z0 k 1
def Mf (d:List aD) (v:List Rat) (l:List aA) (i k:Nat):Rat:=rv v l (mp (acc d z0 l (pz v l (ek k))) d.length) i+zv v l (ek k) i
def qf (d:List aD) (f:Nat→Rat) (v:List Rat) (l:List aA) (i:Nat):Rat:=rv v l (mp (acc d f l p0) d.length) i
theorem aIl {d:List aD} {f:Nat→Rat} {v:List Rat} {l:List aA} {n i:Nat}:vl v l (mp (acc d f l (pz v l z0)) d.length) z0 i=qf d f v l i:=by
 unfold vl qf
 rw [aQ3,Rat.add_zero,aHv (q:=p0) fun r _=>aLF]
theorem aN6 {d:List aD} {f:Nat→Rat} {v:List Rat} {l:List aA} {k i:Nat}:vl v l (mp (acc d f l (pz v l (ek k))) d.length) (ek k) i-qf d f v l i=Mf d v l i k:=by
 unfold vl qf Mf
 rw [aHG,aLe]
 generalize rv v l (mp (acc d f l p0) d.length) i=a
 generalize rv v l (mp (acc d z0 l (pz v l (ek k))) d.length) i=b
 generalize zv v l (ek k) i=c
 rw [Rat.add_assoc,Rat.sub_eq_add_neg,Rat.add_comm a,Rat.add_assoc,Rat.add_neg_cancel,Rat.add_zero]
theorem aLI {k j:Nat}:Bd 1 (ek k j):=by
 unfold ek iD z0
 split
 ·constructor<;>decide
 ·exact Bd.zero
structure ScB (d:List aD) (f v:List Rat) (l:List aA):Prop where
 sb:SB d f v l
 n8:d.length≤12
 m8:l.length≤8
 ir:InR d.length l
 fl:f.length=d.length
theorem aMN {d:List aD} {f v:List Rat} {l:List aA} (h:SB d f v l) (hm:l.length≤8) (hf:z6 d f v l=true):ScB d f v l:=by
 unfold z6 at hf
 rw [Bool.and_eq_true,Bool.and_eq_true] at hf
 have h1:=of_decide_eq_true hf.1.1
 refine⟨h,h1.1,hm,fun r hr=>?_,h1.2.1⟩
 have h2:=List.all_eq_true.1 hf.2 r hr
 unfold aAZ at h2
 rw [Bool.and_eq_true,Bool.and_eq_true,Bool.and_eq_true] at h2
 exact⟨aNU h2.1.1.1,aNU h2.1.1.2⟩
theorem ScB.fbd {d:List aD} {f v:List Rat} {l:List aA} (h:ScB d f v l):∀j,j<d.length→Bd 64 (kP f j):=fun j hj=>h.sb.sf _ (jV (by rw [h.fl];exact hj))
theorem ScB.fmp {d:List aD} {f v:List Rat} {l:List aA} (h:ScB d f v l):f=mp (kP f) d.length:=by rw [←h.fl];exact aK0 f
theorem bd8 {C m:Nat} (hC:C≤1) (hm:m≤8):(2*C+20)*24*m≤5000000:=Nat.le_trans (Nat.mul_le_mul (Nat.mul_le_mul_right 24 (show 2*C+20≤22 by omega)) hm) (by decide)
theorem ScB.vals {d:List aD} {f v:List Rat} {l:List aA} (h:ScB d f v l) {z:Nat→Rat} (hz:∀k,Bd 1 (z k)) {K:Nat} (hK:5000≤K):oH K d f v l (mp z (off v l l.length))=some (mp (vl v l (mp (acc d (kP f) l (pz v l z)) d.length) z) (off v l l.length)):=by
 have h8:=h.m8
 have hn:=h.n8
 have:=aNH (z:=z) h.sb.sd (by omega) h.fbd h.sb.sv h.sb.sl h.ir (by omega) (fun k _=>hz k) (by omega) (bd8 (Nat.le_refl 1) h8) (by omega) hK
 rwa [←h.fmp] at this
theorem ScB.vbd {d:List aD} {f v:List Rat} {l:List aA} (h:ScB d f v l) {z:Nat→Rat} (hz:∀k,Bd 1 (z k)) {k:Nat} (hk:k<off v l l.length):Bd 100000 (vl v l (mp (acc d (kP f) l (pz v l z)) d.length) z k):=by
 have h8:=h.m8
 have hn:=h.n8
 have hp:=aGx (l:=l) (v:=v) (z:=z) (C:=1) (fun k _=>hz k) h.sb.sl
 have hb:=aFe (p:=pz v l z) h.sb.sd h.fbd (fun r hr=>(h.sb.sl r hr).1) h.ir hp (by omega) (by omega) (by omega) (Nat.le_trans (bd8 (C:=1) (Nat.le_refl 1) h8) (by decide))
 exact(aVk h.sb.sl hb (fun k _=>hz k) hk).mono (by unfold aIK;omega)
theorem aPU {v:List Rat} {l:List aA} {w q:Nat→Rat} {m:Nat} (hm:m≤100) (hw:∀i,i<off v l m→Bd 100000 (w i)) (hq:∀i,i<off v l m→Bd 100000 (q i)) (K:Nat):∀(t i k:Nat),i+t=off v l m→t<k→kH K ((unk v l m).map ru) (mp q (off v l m)) (mp w (off v l m)) k (mp (fun i=>w i-q i) i) (i:Int)=some (mp (fun i=>w i-q i) (off v l m))
 |0,i,k,hi,hk=>by
  obtain⟨k',rfl,_⟩:=bD hk
  have e:i=off v l m:=by omega
  subst e
  simp only [kH,aCQ,dF (show¬(off v l m:Int)<(off v l m:Int) by omega),bU]
 |t+1,i,k,hi,hk=>by
  obtain⟨k',rfl,_⟩:=bD hk
  have hil:i<off v l m:=by omega
  have h4:=tJ (v:=v) (l:=l) m
  simp only [kH,aCQ,dT (show(i:Int)<(off v l m:Int) by omega),cA,eD (f:=w) hil,eD (f:=q) hil,oB,zD (hw i hil) (hq i hil) (by omega) (by omega),apM (g:=fun i=>w i-q i) (i:=i) (by omega),oC (i:=i) (by omega)]
  exact aPU hm hw hq K t (i+1) k' (by omega) (by omega)
theorem aJx:qof 1 1=some 1:=by rw [aGa (by omega) (by omega),aTg]
theorem aOr {d:List aD} {f v:List Rat} {l:List aA} (h:ScB d f v l) {K:Nat} (hK:5000≤K):∀(t i k:Nat),i+t=off v l l.length→t<k→kM K d f v l ((unk v l l.length).map ru) (mp (qf d (kP f) v l) (off v l l.length)) k (mx (tr (Mf d v l)) i (off v l l.length)) (i:Int)=some (mx (tr (Mf d v l)) (off v l l.length) (off v l l.length))
 |0,i,k,hi,hk=>by
  obtain⟨k',rfl,_⟩:=bD hk
  have e:i=off v l l.length:=by omega
  rw [e]
  simp only [kM,aCQ,dF (show¬(off v l l.length:Int)<(off v l l.length:Int) by omega),bU]
 |t+1,i,k,hi,hk=>by
  obtain⟨k',rfl,_⟩:=bD hk
  have hil:i<off v l l.length:=by omega
  have h8:=h.m8
  have h4:=tJ (v:=v) (l:=l) l.length
  have e1:oO (mp (fun _=>(0:Rat)) (off v l l.length)) (i:Int) 1=some (mp (ek i) (off v l l.length)):=t8 (f:=z0) hil
  have e2:=aPU (v:=v) (l:=l) (m:=l.length) (w:=vl v l (mp (acc d (kP f) l (pz v l (ek i))) d.length) (ek i)) (q:=qf d (kP f) v l) (by omega) (fun j hj=>h.vbd (fun _=>aLI) hj) (fun j hj=>by rw [←aIl (n:=0)];exact h.vbd (z:=z0) (fun _=>Bd.zero) hj) K (off v l l.length) 0 K (by omega) (by omega)
  simp only [Int.natCast_zero,zG] at e2
  have e3:mp (fun j=>vl v l (mp (acc d (kP f) l (pz v l (ek i))) d.length) (ek i) j-qf d (kP f) v l j) (off v l l.length)=mp (tr (Mf d v l) i) (off v l l.length):=cJ fun j _=>aN6
  rw [e3] at e2
  have e4:qR (mx (tr (Mf d v l)) i (off v l l.length)) [mp (tr (Mf d v l) i) (off v l l.length)]=some (mx (tr (Mf d v l)) (i+1) (off v l l.length)):=apM (g:=fun i=>mp (tr (Mf d v l) i) (off v l l.length)) (by omega)
  simp only [kM,aCQ,dT (show(i:Int)<(off v l l.length:Int) by omega),cA,aDi (z:=(0:Rat)) (n:=off v l l.length) (by omega),aJx,eD (f:=fun _=>(0:Rat)) hil,oB,e1,h.vals (z:=ek i) (fun _=>aLI) hK,e2,vM,e4,oC (i:=i) (by omega)]
  exact aOr h hK t (i+1) k' (by omega) (by omega)
theorem aUo (g:Nat→Nat→Rat):tr (tr g)=g:=rfl
theorem aKl {d:List aD} {f v:List Rat} {l:List aA} (h:ScB d f v l) (hf:z6 d f v l=true) {K:Nat} (hK:5000≤K):t0 K d f v l=some (mx (Mf d v l) (off v l l.length) (off v l l.length),mp (qf d (kP f) v l) (off v l l.length)):=by
 have h8:=h.m8
 have h4:=tJ (v:=v) (l:=l) l.length
 have e1:=h.vals (z:=z0) (fun _=>Bd.zero) hK
 have e2:mp (vl v l (mp (acc d (kP f) l (pz v l z0)) d.length) z0) (off v l l.length)=mp (qf d (kP f) v l) (off v l l.length):=cJ fun j _=>aIl (n:=0)
 have e3:mp (fun _=>(0:Rat)) (off v l l.length)=mp z0 (off v l l.length):=rfl
 have e4:=aOr h hK (off v l l.length) 0 K (by omega) (by omega)
 have e5:mx (tr (Mf d v l)) 0 (off v l l.length)=[]:=rfl
 rw [e5] at e4
 simp only [Int.natCast_zero] at e4
 have e6:=aPc (g:=tr (Mf d v l)) (h:=off v l l.length) (w:=off v l l.length) (fun h=>h) (by omega) (by omega) (K:=K) (by omega)
 simp only [t0,aK2 h.sb (show 200≤K by omega),hf,oB,Bool.not_true,bU,aAm h.sb.sv (fun r hr=>(h.sb.sl r hr).1) (show l.length≤1000 by omega) (show 2000≤K by omega),aCQ,aDi (z:=(0:Rat)) (n:=off v l l.length) (by omega),e3,e1,e2,e4,vL,e6,aUo]
end Go.Proofs.YtldhbdgfpjoamaaGreat
set_option linter.unusedVariables false
namespace Go.Proofs.YtldhbdgfpjoamaaGreat
/-- The rows as they lie, and where. -/
def rsl (G:Nat→Nat→Rat) (N:Nat):List (List Rat):=[]::mx G N N
def ord (N:Nat):List Nat:=mp (fun i=>i+1) N
theorem aDT {G:Nat→Nat→Rat} {N i:Nat} (h:i<N):(rsl G N).getD (i+1) []=mp (G i) N:=by
 unfold rsl mx
 rw [List.getD_eq_getElem?_getD,List.getElem?_cons_succ,aBh h];rfl
theorem aGG {G:Nat→Nat→Rat} {N i:Nat} {f:Nat→Rat}:(rsl G N).set (i+1) (mp f N)=rsl (iD G i f) N:=by
 unfold rsl
 rw [List.set_cons_succ]
 unfold mx
 rw [aOg,aTb];rfl
theorem xD {G H:Nat→Nat→Rat} {N:Nat} (h:∀i c,i<N→c<N→G i c=H i c):rsl G N=rsl H N:=by
 unfold rsl;rw [aPH h]
theorem aTo {G:Nat→Nat→Rat} {N:Nat}:aBb (rsl G N) (ord N)=mx G N N:=by
 unfold aBb ord mp mx
 rw [List.map_map]
 unfold mp
 refine List.map_congr_left fun i hi=>?_
 exact aDT (List.mem_range.1 hi)
theorem rdO {N i:Nat} (h:i<N):bL (ord N) (i:Int)=some (i+1):=eD h
theorem aPg {v:List Rat} {l:List aA} {m:Nat} (hm:m≤100) (K:Nat):∀(t i k:Nat),i+t=off v l m→t<k→fO K ((unk v l m).map pu) (mp (fun _=>(0:Nat)) (off v l m)) k (mp (fun j=>if j<i then j+1 else 0) (off v l m)) ([]::mx (fun _=>z0) i (off v l m)) (i:Int)=some (ord (off v l m),rsl (fun _=>z0) (off v l m))
 |0,i,k,hi,hk=>by
  obtain⟨k',rfl,_⟩:=bD hk
  have e:i=off v l m:=by omega
  subst e
  simp only [fO,bO,dF (show¬(off v l m:Int)<(off v l m:Int) by omega),bU]
  have:mp (fun j=>if j<off v l m then j+1 else 0) (off v l m)=ord (off v l m):=cJ fun j hj=>if_pos hj
  rw [this];rfl
 |t+1,i,k,hi,hk=>by
  obtain⟨k',rfl,_⟩:=bD hk
  have hil:i<off v l m:=by omega
  have h4:=tJ (v:=v) (l:=l) m
  have e0:([]::mx (fun _=>z0) i (off v l m)).length=i+1:=by rw [List.length_cons,w9]
  have e1:oO (mp (fun j=>if j<i then j+1 else 0) (off v l m)) (i:Int) (i+1)=some (mp (fun j=>if j<i+1 then j+1 else 0) (off v l m)):=by
   rw [t8 hil]
   congr 1
   refine cJ fun j _=>?_
   by_cases e:j=i
   ·subst e;rw [bA,if_pos (by omega)]
   ·rw [cG e]
    by_cases hlt:j<i
    ·rw [if_pos hlt,if_pos (by omega)]
    ·rw [if_neg hlt,if_neg (by omega)]
  have e2:([]::mx (fun _=>z0) i (off v l m))++[mp (fun _=>(0:Rat)) (off v l m)]=[]::mx (fun _=>z0) (i+1) (off v l m):=by
   show []::(mx (fun _=>z0) i (off v l m)++_)=_
   unfold mx
   rw [aFB];rfl
  simp only [fO,bO,dT (show(i:Int)<(off v l m:Int) by omega),cA,vK,aDi (z:=(0:Rat)) (n:=off v l m) (by omega),oB,eD (f:=fun j=>if j<i then j+1 else 0) hil,e0,e1,e2,oC (i:=i) (by omega)]
  exact aPg hm K t (i+1) k' (by omega) (by omega)
theorem aO8 {g:Nat→Rat} {N i:Nat} {w:Rat} (h:i<N):gO (mp g N) (i:Int) w=some (mp (iD g i w) N):=by
 simp only [gO,eD (f:=g) h,t8 (f:=g) h,oB]
theorem aTw {w:Nat→Rat} {N i:Nat}:mp (iD (fun j=>if j<i then w j else 0) i (w i)) N=mp (fun j=>if j<i+1 then w j else 0) N:=cJ fun j _=>by
 by_cases e:j=i
 ·subst e;rw [bA,if_pos (by omega)]
 ·rw [cG e]
  by_cases hlt:j<i
  ·rw [if_pos hlt,if_pos (by omega)]
  ·rw [if_neg hlt,if_neg (by omega)]
theorem aTQ {w:Nat→Rat} {N i:Nat} (h:w i=0):mp (fun j=>if j<i then w j else 0) N=mp (fun j=>if j<i+1 then w j else 0) N:=cJ fun j _=>by
 by_cases e:j=i
 ·subst e;rw [if_neg (by omega),if_pos (by omega),h]
 ·by_cases hlt:j<i
  ·rw [if_pos hlt,if_pos (by omega)]
  ·rw [if_neg hlt,if_neg (by omega)]
theorem rv0 {v:List Rat} {l:List aA} {a:List Rat} {r q k:Nat} (hq:vq v l r q) (hr:r<l.length) (hk:k=off v l r+q):rv v l a k=if q=0 then rt (hU l r).j a else if q=1 then rt (hU l r).t a else if q=2 then -(rt (hU l r).t a) else 0:=by
 unfold rv;rw [hk,aEy hq hr]
theorem aOw {d:List aD} {f v a:List Rat} {l:List aA} {B:Nat} (hl:RsC l) (ha:sV B a) (hB:B≤10000000) (hn:l.length≤100) {K:Nat} (hK:13≤K):∀(t k fu:Nat),k+t=off v l l.length→t<fu→cE K a ((unk v l l.length).map pu) ⟨d,f,v,l⟩ fu (mp (fun j=>if j<k then rv v l a j else 0) (off v l l.length)) (k:Int)=some (mp (rv v l a) (off v l l.length))
 |0,k,fu,hi,hk=>by
  obtain⟨k',rfl,_⟩:=bD hk
  have e:k=off v l l.length:=by omega
  subst e
  simp only [cE,vK,dF (show¬(off v l l.length:Int)<(off v l l.length:Int) by omega),bU]
  exact congrArg some (cJ fun j hj=>if_pos hj)
 |t+1,k,fu,hi,hk=>by
  obtain⟨k',rfl,_⟩:=bD hk
  have hkl:k<off v l l.length:=by omega
  have h4:=tJ (v:=v) (l:=l) l.length
  obtain⟨r,q,h1,h2,h3⟩:=vR l.length k hkl
  have hq3:=vq3 h2
  have hu:=rdU (m:=l.length) h2 h1
  rw [←h3] at hu
  have hr:=hl _ (lB h1)
  have hrv:=rv0 (a:=a) h2 h1 h3
  have ih:=aOw (d:=d) (f:=f) (v:=v) hl ha hB hn hK t (k+1) k' (by omega) (by omega)
  have bt:=aBW ha hr.1.2
  simp only [cE,vK,dT (show(k:Int)<(off v l l.length:Int) by omega),cA,hu,oB,aDW h1]
  have hcase:q=0∨q=1∨q=2∨q=3:=by omega
  rcases hcase with rfl|rfl|rfl|rfl
  ·have e:rv v l a k=rt (hU l r).j a:=hrv
   simp only [qT (show((0:Nat):Int)=0 from rfl),cA,zT ha (by omega) hr.1.1 hK,oB,aO8 (g:=fun j=>if j<k then rv v l a j else 0) hkl,oC (i:=k) (by omega)]
   rw [←e,aTw];exact ih
  ·have e:rv v l a k=rt (hU l r).t a:=hrv
   simp only [qF (show((1:Nat):Int)≠0 by omega),qT (show((1:Nat):Int)=1 from rfl),bU,cA,zT ha (by omega) hr.1.2 hK,oB,aO8 (g:=fun j=>if j<k then rv v l a j else 0) hkl,oC (i:=k) (by omega)]
   rw [←e,aTw];exact ih
  ·have e:rv v l a k=-(rt (hU l r).t a):=hrv
   simp only [qF (show((2:Nat):Int)≠0 by omega),qF (show((2:Nat):Int)≠1 by omega),qT (show((2:Nat):Int)=2 from rfl),bU,cA,zT ha (by omega) hr.1.2 hK,oB,aC8 bt (by omega),aO8 (g:=fun j=>if j<k then rv v l a j else 0) hkl,oC (i:=k) (by omega)]
   rw [←e,aTw];exact ih
  ·have e:rv v l a k=0:=hrv
   simp only [qF (show((3:Nat):Int)≠0 by omega),qF (show((3:Nat):Int)≠1 by omega),qF (show((3:Nat):Int)≠2 by omega),bU,oB,oC (i:=k) (by omega)]
   rw [aTQ e];exact ih
def adc (G:Nat→Nat→Rat) (k:Nat) (w:Nat→Rat) (t i c:Nat):Rat:=if c=k∧i<t then G i c+w i else G i c
theorem aOa {G:Nat→Nat→Rat} {N i k BG BW:Nat} {w:Rat} (hi:i<N) (hk:k<N) (hG:Bd BG (G i k)) (hw:Bd BW w) (h1:BG≤1073741824) (h2:BW≤1073741824):gR (ord N,rsl G N) (k:Int) (i:Int) w=some (ord N,rsl (iD G i (iD (G i) k (G i k+w))) N):=by
 simp only [gR,rdO hi,oB,aDT hi,eD (f:=G i) hk,s6 hG hw h1 h2,t8 (f:=G i) hk,aGG]
theorem aF3 {G:Nat→Nat→Rat} {k t N:Nat} {w:Nat→Rat}:rsl (iD (adc G k w t) t (iD (adc G k w t t) k (adc G k w t t k+w t))) N=rsl (adc G k w (t+1)) N:=xD fun i c _ _=>by
 by_cases e:i=t
 ·subst e
  rw [bA]
  by_cases h:c=k
  ·subst h
   rw [bA]
   unfold adc
   rw [if_neg (by omega),if_pos ⟨rfl,by omega⟩]
  ·rw [cG h]
   unfold adc
   rw [if_neg (fun h2=>h h2.1),if_neg (fun h2=>h h2.1)]
 ·rw [cG e]
  unfold adc
  by_cases h:c=k∧i<t
  ·rw [if_pos h,if_pos ⟨h.1,by omega⟩]
  ·rw [if_neg h,if_neg fun h2=>h ⟨h2.1,by omega⟩]
theorem aOA {G:Nat→Nat→Rat} {k t N:Nat} {w:Nat→Rat} (h0:w t=0):rsl (adc G k w t) N=rsl (adc G k w (t+1)) N:=xD fun i c _ _=>by
 unfold adc
 by_cases h:c=k∧i<t
 ·rw [if_pos h,if_pos ⟨h.1,by omega⟩]
 ·rw [if_neg h]
  by_cases h2:c=k∧i<t+1
  ·have:i=t:=by
    by_cases e:i=t
    ·exact e
    ·exact absurd ⟨h2.1,by omega⟩ h
   rw [if_pos h2,this,h0,Rat.add_zero]
  ·rw [if_neg h2]
theorem aOF {d:List aD} {f v a:List Rat} {l:List aA} {G:Nat→Nat→Rat} {c B BG:Nat} (hl:RsC l) (ha:sV B a) (hB:B≤10000000) (hn:l.length≤100) (hc:c<off v l l.length) (hG:∀i,i<off v l l.length→Bd BG (G i c)) (hBG:BG≤1073741824) {K:Nat} (hK:13≤K):∀(t k fu:Nat),k+t=off v l l.length→t<fu→cD K a (c:Int) ((unk v l l.length).map pu) ⟨d,f,v,l⟩ fu (ord (off v l l.length)) (rsl (adc G c (rv v l a) k) (off v l l.length)) (k:Int)=some (ord (off v l l.length),rsl (adc G c (rv v l a) (off v l l.length)) (off v l l.length))
 |0,k,fu,hi,hk=>by
  obtain⟨k',rfl,_⟩:=bD hk
  have e:k=off v l l.length:=by omega
  subst e
  simp only [cD,vK,dF (show¬(off v l l.length:Int)<(off v l l.length:Int) by omega),bU]
 |t+1,k,fu,hi,hk=>by
  obtain⟨k',rfl,_⟩:=bD hk
  have hkl:k<off v l l.length:=by omega
  have h4:=tJ (v:=v) (l:=l) l.length
  obtain⟨r,q,h1,h2,h3⟩:=vR l.length k hkl
  have hq3:=vq3 h2
  have hu:=rdU (m:=l.length) h2 h1
  rw [←h3] at hu
  have hr:=hl _ (lB h1)
  have hrv:=rv0 (a:=a) h2 h1 h3
  have ih:=aOF (d:=d) (f:=f) hl ha hB hn hc hG hBG hK t (k+1) k' (by omega) (by omega)
  have bj:=aBW ha hr.1.1
  have bt:=aBW ha hr.1.2
  have hGk:Bd BG (adc G c (rv v l a) k k c):=by unfold adc;rw [if_neg (by omega)];exact hG k hkl
  simp only [cD,vK,dT (show(k:Int)<(off v l l.length:Int) by omega),cA,hu,oB,aDW h1]
  have hcase:q=0∨q=1∨q=2∨q=3:=by omega
  rcases hcase with rfl|rfl|rfl|rfl
  ·have e:rv v l a k=rt (hU l r).j a:=hrv
   simp only [qT (show((0:Nat):Int)=0 from rfl),cA,zT ha (by omega) hr.1.1 hK,oB,aOa hkl hc hGk bj hBG (by omega),oC (i:=k) (by omega)]
   rw [←e,aF3];exact ih
  ·have e:rv v l a k=rt (hU l r).t a:=hrv
   simp only [qF (show((1:Nat):Int)≠0 by omega),qT (show((1:Nat):Int)=1 from rfl),bU,cA,zT ha (by omega) hr.1.2 hK,oB,aOa hkl hc hGk bt hBG (by omega),oC (i:=k) (by omega)]
   rw [←e,aF3];exact ih
  ·have e:rv v l a k=-(rt (hU l r).t a):=hrv
   simp only [qF (show((2:Nat):Int)≠0 by omega),qF (show((2:Nat):Int)≠1 by omega),qT (show((2:Nat):Int)=2 from rfl),bU,cA,zT ha (by omega) hr.1.2 hK,oB,aC8 bt (by omega),aOa hkl hc hGk bt.neg hBG (by omega),oC (i:=k) (by omega)]
   rw [←e,aF3];exact ih
  ·have e:rv v l a k=0:=hrv
   simp only [qF (show((3:Nat):Int)≠0 by omega),qF (show((3:Nat):Int)≠1 by omega),qF (show((3:Nat):Int)≠2 by omega),bU,oB,oC (i:=k) (by omega)]
   rw [aOA e];exact ih
theorem aUh {d:List aD} {f v a:List Rat} {l:List aA} {G:Nat→Nat→Rat} {c B BG:Nat} (hl:RsC l) (ha:sV B a) (hB:B≤10000000) (hn:l.length≤100) (hc:c<off v l l.length) (hG:∀i,i<off v l l.length→Bd BG (G i c)) (hBG:BG≤1073741824) {K:Nat} (hK:5000≤K):cN K a (c:Int) ((unk v l l.length).map pu) ⟨d,f,v,l⟩ (ord (off v l l.length)) (rsl G (off v l l.length))=some (ord (off v l l.length),rsl (adc G c (rv v l a) (off v l l.length)) (off v l l.length)):=by
 have h4:=tJ (v:=v) (l:=l) l.length
 have e:rsl (adc G c (rv v l a) 0) (off v l l.length)=rsl G (off v l l.length):=xD fun i c' _ _=>if_neg (by omega)
 have:=aOF (d:=d) (f:=f) hl ha hB hn hc hG hBG (K:=K) (by omega) (off v l l.length) 0 K (by omega) (by omega)
 rw [e] at this
 simp only [Int.natCast_zero] at this
 simp only [cN,this,oB,kC]
theorem yD {v:List Rat} {l:List aA} {r q r' q':Nat} (h:vq v l r q) (h':vq v l r' q'):ek (off v l r+q) (off v l r'+q')=if r'=r∧q'=q then 1 else 0:=by
 unfold ek
 by_cases e:r'=r∧q'=q
 ·rw [if_pos e,e.1,e.2,bA]
 ·rw [if_neg e,cG fun h3=>e (aFA h' h h3)];rfl
theorem aLq {v:List Rat} {l:List aA} {z:Nat→Rat} {i:Nat} (h0:z (off v l i)=0) (h1:stk v (hU l i)=true→z (off v l i+1)=0∧z (off v l i+2)=0):pz v l z i=⟨0,0⟩:=by
 unfold pz
 rw [h0]
 split
 ·rfl
 ·rename_i ht
  split
  ·rw [Rat.mul_zero,Rat.mul_zero]
  ·rename_i hs
   have hst:stk v (hU l i)=true:=by
    unfold stk
    rw [decide_eq_true (show 0<(hU l i).t.length by omega),decide_eq_true (show(rt (hU l i).t v).num.sign=0 from Decidable.of_not_not hs)];rfl
   rw [(h1 hst).1,(h1 hst).2,Rat.sub_self]
theorem aI5 {v:List Rat} {l:List aA} {r q i:Nat} (h:vq v l r q) (hi:i≠r):pz v l (ek (off v l r+q)) i=⟨0,0⟩:=
 aLq (by have:=yD h (r':=i) (q':=0) (.inl rfl);rw [Nat.add_zero] at this;rw [this,if_neg fun h=>hi h.1]) fun hs=>
  ⟨by rw [yD h (.inr ⟨hs,by omega⟩),if_neg fun h=>hi h.1],by rw [yD h (.inr ⟨hs,by omega⟩),if_neg fun h=>hi h.1]⟩
theorem aPZ {v:List Rat} {l:List aA} {r q:Nat} {x:aI} (h:vq v l r q) (hx:pz v l (ek (off v l r+q)) r=x):mp (iD p0 r x) l.length=mp (pz v l (ek (off v l r+q))) l.length:=cJ fun i _=>by
 by_cases e:i=r
 ·rw [e,bA,hx]
 ·rw [cG e,aI5 h e];rfl
theorem aK1 {v:List Rat} {r:aA} (h:stk v r=true):r.t.length≠0∧(rt r.t v).num.sign=0:=by
 unfold stk at h
 rw [Bool.and_eq_true] at h
 have h1:=of_decide_eq_true h.1
 exact⟨by omega,of_decide_eq_true h.2⟩
def bc (v:List Rat) (l:List aA) (k:Nat) (i:Nat):Rat:=zv v l (ek k) i
theorem zv0 {v:List Rat} {l:List aA} {z:Nat→Rat} {r q k:Nat} (hq:vq v l r q) (hr:r<l.length) (hk:k=off v l r+q):zv v l z k=if q=0 then 0 else if q=1 then z (k+2) else if q=2 then z (k+1) else(hU l r).mu*z (k-3)-(z (k-2)+z (k-1)):=by
 unfold zv;rw [hk,aEy hq hr]
theorem vqs {v:List Rat} {l:List aA} {r q p:Nat} (h:vq v l r q) (hq:q≠0) (hp:p≤3):vq v l r p:=by
 rcases h with h|h
 ·exact absurd h hq
 ·exact .inr ⟨h.1,hp⟩
theorem aKt {v:List Rat} {l:List aA} {r q r' q':Nat} (h:vq v l r q) (h':vq v l r' q') (hr':r'<l.length):zv v l (ek (off v l r+q)) (off v l r'+q')=if q'=0 then 0 else if q'=1 then(if r'=r∧3=q then 1 else 0) else if q'=2 then(if r'=r∧3=q then 1 else 0) else(hU l r').mu*(if r'=r∧0=q then 1 else 0)-((if r'=r∧1=q then 1 else 0)+(if r'=r∧2=q then 1 else 0)):=by
 rw [zv0 h' hr' rfl]
 have hq3:=vq3 h'
 have hcase:q'=0∨q'=1∨q'=2∨q'=3:=by omega
 rcases hcase with rfl|rfl|rfl|rfl
 ·rfl
 ·show ek _ (off v l r'+3)=_
  rw [yD h (vqs h' (by omega) (by omega))];rfl
 ·show ek _ (off v l r'+3)=_
  rw [yD h (vqs h' (by omega) (by omega))];rfl
 ·show(hU l r').mu*ek _ (off v l r'+0)-(ek _ (off v l r'+1)+ek _ (off v l r'+2))=_
  rw [yD h (vqs h' (by omega) (by omega)),yD h (vqs h' (by omega) (by omega)),yD h (vqs h' (by omega) (by omega))];rfl
theorem aF0 {v:List Rat} {l:List aA} {g:Nat→Rat} {x:Rat} {r q r' q':Nat} (h:vq v l r q) (h':vq v l r' q'):iD g (off v l r+q) x (off v l r'+q')=if r'=r∧q'=q then x else g (off v l r'+q'):=by
 by_cases e:r'=r∧q'=q
 ·rw [if_pos e,e.1,e.2,bA]
 ·rw [if_neg e,cG fun h3=>e (aFA h' h h3)]
theorem aVd {v:List Rat} {l:List aA} {r i:Nat} (hs:stk v (hU l r)=true) (hi:i<off v l l.length):bc v l (off v l r) i=iD z0 (off v l r+3) (hU l r).mu i:=by
 obtain⟨r',q',h1,h2,rfl⟩:=vR l.length i hi
 have hq3:=vq3 h2
 have:=aKt (v:=v) (l:=l) (r:=r) (q:=0) (.inl rfl) h2 h1
 rw [Nat.add_zero] at this
 unfold bc
 rw [this,aF0 (.inr ⟨hs,by omega⟩) h2]
 have hcase:q'=0∨q'=1∨q'=2∨q'=3:=by omega
 rcases hcase with rfl|rfl|rfl|rfl
 ·simp [z0]
 ·simp [z0]
 ·simp [z0]
 ·by_cases e:r'=r
  ·subst e;simp [Rat.sub_eq_add_neg,Rat.add_zero,Rat.zero_add,Rat.neg_zero,Rat.mul_zero,Rat.mul_one]
  ·simp [e,z0,Rat.sub_eq_add_neg,Rat.add_zero,Rat.zero_add,Rat.neg_zero,Rat.mul_zero,Rat.mul_one]
theorem aSQ {v:List Rat} {l:List aA} {r i:Nat} (hs:stk v (hU l r)=false) (hi:i<off v l l.length):bc v l (off v l r) i=0:=by
 obtain⟨r',q',h1,h2,rfl⟩:=vR l.length i hi
 have hq3:=vq3 h2
 have:=aKt (v:=v) (l:=l) (r:=r) (q:=0) (.inl rfl) h2 h1
 rw [Nat.add_zero] at this
 unfold bc
 rw [this]
 have hcase:q'=0∨q'=1∨q'=2∨q'=3:=by omega
 rcases hcase with rfl|rfl|rfl|rfl
 ·simp
 ·simp
 ·simp
 ·have e:r'≠r:=fun e=>by
   rcases h2 with h|h
   ·omega
   ·rw [e,hs] at h;exact absurd h.1 (by decide)
  simp [e,Rat.sub_eq_add_neg,Rat.add_zero,Rat.zero_add,Rat.neg_zero,Rat.mul_zero,Rat.mul_one]
theorem aUv {v:List Rat} {l:List aA} {r i:Nat} (h:vq v l r 1) (hi:i<off v l l.length):bc v l (off v l r+1) i=iD z0 (off v l r+3) (-1) i:=by
 obtain⟨r',q',h1,h2,rfl⟩:=vR l.length i hi
 have hq3:=vq3 h2
 unfold bc
 rw [aKt h h2 h1,aF0 (vqs h (by omega) (by omega)) h2]
 have hcase:q'=0∨q'=1∨q'=2∨q'=3:=by omega
 rcases hcase with rfl|rfl|rfl|rfl
 ·simp [z0]
 ·simp [z0]
 ·simp [z0]
 ·by_cases e:r'=r
  ·subst e;simp [Rat.sub_eq_add_neg,Rat.add_zero,Rat.zero_add,Rat.neg_zero,Rat.mul_zero,Rat.mul_one]
  ·simp [e,z0,Rat.sub_eq_add_neg,Rat.add_zero,Rat.zero_add,Rat.neg_zero,Rat.mul_zero,Rat.mul_one]
theorem aVv {v:List Rat} {l:List aA} {r i:Nat} (h:vq v l r 2) (hi:i<off v l l.length):bc v l (off v l r+2) i=iD z0 (off v l r+3) (-1) i:=by
 obtain⟨r',q',h1,h2,rfl⟩:=vR l.length i hi
 have hq3:=vq3 h2
 unfold bc
 rw [aKt h h2 h1,aF0 (vqs h (by omega) (by omega)) h2]
 have hcase:q'=0∨q'=1∨q'=2∨q'=3:=by omega
 rcases hcase with rfl|rfl|rfl|rfl
 ·simp [z0]
 ·simp [z0]
 ·simp [z0]
 ·by_cases e:r'=r
  ·subst e;simp [Rat.sub_eq_add_neg,Rat.add_zero,Rat.zero_add,Rat.neg_zero,Rat.mul_zero,Rat.mul_one]
  ·simp [e,z0,Rat.sub_eq_add_neg,Rat.add_zero,Rat.zero_add,Rat.neg_zero,Rat.mul_zero,Rat.mul_one]
theorem aUn {v:List Rat} {l:List aA} {r i:Nat} (h:vq v l r 3) (hi:i<off v l l.length):bc v l (off v l r+3) i=iD (iD z0 (off v l r+1) 1) (off v l r+2) 1 i:=by
 obtain⟨r',q',h1,h2,rfl⟩:=vR l.length i hi
 have hq3:=vq3 h2
 unfold bc
 rw [aKt h h2 h1,aF0 (vqs h (by omega) (by omega)) h2,aF0 (vqs h (by omega) (by omega)) h2]
 have hcase:q'=0∨q'=1∨q'=2∨q'=3:=by omega
 rcases hcase with rfl|rfl|rfl|rfl
 ·simp [z0]
 ·by_cases e:r'=r<;>simp [e,z0]
 ·by_cases e:r'=r<;>simp [e,z0]
 ·simp [z0,Rat.sub_eq_add_neg,Rat.add_zero,Rat.zero_add,Rat.neg_zero,Rat.mul_zero,Rat.mul_one]
end Go.Proofs.YtldhbdgfpjoamaaGreat
set_option linter.unusedVariables false
namespace Go.Proofs.YtldhbdgfpjoamaaGreat
def aCl (G:Nat→Nat→Rat) (k:Nat) (b:Nat→Rat) (i c:Nat):Rat:=if c=k then b i else G i c
def gk (M:Nat→Nat→Rat) (k i c:Nat):Rat:=if c<k then M i c else 0
theorem aEo {M:Nat→Nat→Rat} {k:Nat}:aCl (gk M k) k z0=gk M k:=by
 funext i c
 unfold aCl gk z0
 by_cases h:c=k
 ·rw [if_pos h,if_neg (by omega)]
 ·rw [if_neg h]
theorem aQ7 {G:Nat→Nat→Rat} {k i:Nat} {b:Nat→Rat}:aCl G k b i k=b i:=if_pos rfl
theorem aD6 {G:Nat→Nat→Rat} {k j N:Nat} {b:Nat→Rat} {x:Rat}:rsl (iD (aCl G k b) j (iD (aCl G k b j) k x)) N=rsl (aCl G k (iD b j x)) N:=xD fun i c _ _=>by
 by_cases e:i=j
 ·subst e
  rw [bA]
  by_cases h:c=k
  ·subst h;rw [bA];unfold aCl;rw [if_pos rfl,bA]
  ·rw [cG h];unfold aCl;rw [if_neg h,if_neg h]
 ·rw [cG e]
  unfold aCl
  by_cases h:c=k
  ·rw [if_pos h,if_pos h,cG e]
  ·rw [if_neg h,if_neg h]
theorem aSN {M:Nat→Nat→Rat} {k N:Nat} {b w:Nat→Rat} (h:∀i,i<N→M i k=b i+w i):rsl (adc (aCl (gk M k) k b) k w N) N=rsl (gk M (k+1)) N:=xD fun i c hi _=>by
 unfold adc aCl gk
 by_cases e:c=k
 ·subst e;rw [if_pos ⟨rfl,hi⟩,if_pos rfl,if_pos (by omega),h i hi]
 ·rw [if_neg fun h2=>e h2.1,if_neg e]
  by_cases e2:c<k
  ·rw [if_pos e2,if_pos (by omega)]
  ·rw [if_neg e2,if_neg (by omega)]
theorem aQg {M:Nat→Nat→Rat} {k N:Nat} {b:Nat→Rat} (h:∀i,i<N→M i k=b i):rsl (aCl (gk M k) k b) N=rsl (gk M (k+1)) N:=xD fun i c hi _=>by
 unfold aCl gk
 by_cases e:c=k
 ·subst e;rw [if_pos rfl,if_pos (by omega),h i hi]
 ·rw [if_neg e]
  by_cases e2:c<k
  ·rw [if_pos e2,if_pos (by omega)]
  ·rw [if_neg e2,if_neg (by omega)]
theorem aFH {d:List aD} {f v:List Rat} {l:List aA} (h:ScB d f v l) {k:Nat} (hk:k<off v l l.length) {b:Nat→Rat} (hb:∀i,i<off v l l.length→bc v l k i=b i) (hbb:∀i,Bd 8 (b i)) {K:Nat} (hK:5000≤K):
  bQ K ⟨d,f,v,l⟩ (mp z0 d.length) (mp (pz v l (ek k)) l.length)=some (mp (acc d z0 l (pz v l (ek k))) d.length)∧
  cN K (mp (acc d z0 l (pz v l (ek k))) d.length) (k:Int) ((unk v l l.length).map pu) ⟨d,f,v,l⟩ (ord (off v l l.length)) (rsl (aCl (gk (Mf d v l) k) k b) (off v l l.length))=some (ord (off v l l.length),rsl (gk (Mf d v l) (k+1)) (off v l l.length)):=by
 have h8:=h.m8
 have hn:=h.n8
 have hp:=aGx (l:=l) (v:=v) (z:=ek k) (C:=1) (fun k _=>aLI) h.sb.sl
 have hrb:RsB l:=fun r hr=>(h.sb.sl r hr).1
 have hc:(2*1+11+9)*24*l.length≤400000000:=Nat.le_trans (bd8 (C:=1) (Nat.le_refl 1) h8) (by decide)
 have hz:∀j,j<d.length→Bd 1 (z0 j):=fun j _=>Bd.zero
 have hbd:=aFe (p:=pz v l (ek k)) h.sb.sd hz hrb h.ir hp (by omega) (by omega) (by omega) hc
 refine⟨aIM (p:=pz v l (ek k)) h.sb.sd (by omega) hz hrb h.ir (by omega) hp (by omega) hc (by omega),?_⟩
 have e:=aUh (d:=d) (f:=f) (G:=aCl (gk (Mf d v l) k) k b) (c:=k) (BG:=8) h.sb.sl hbd (by unfold aIK;omega) (by omega) hk (fun i hi=>by rw [aQ7];exact hbb i) (by omega) hK
 rw [e,aSN fun i hi=>?_]
 rw [←hb i hi]
 exact Rat.add_comm _ _
theorem aNd {x:List aI} (hn:x.length≤60000000000):pH x=some x:=by
 unfold pH
 rw [aCq (by simp;omega)];rfl
theorem aIu {j:Nat} {x:Rat} (h:Bd 8 x):∀i,Bd 8 (iD z0 j x i):=fun i=>by
 by_cases e:i=j
 ·rw [e,bA];exact h
 ·rw [cG e];exact Bd.zero.mono (by omega)
theorem aMG:Bd 8 (-1:Rat):=(show Bd 1 (-1:Rat) by constructor<;>decide).mono (by omega)
theorem aCG:Bd 8 (1:Rat):=(show Bd 1 (1:Rat) by constructor<;>decide).mono (by omega)
theorem aLP:aEz 1=some (-1:Rat):=aC8 aCG (by omega)
theorem aTR {v:List Rat} {l:List aA} {r:Nat}:pz v l (ek (off v l r)) r=⟨1,if(hU l r).t.length=0 then 0 else(((-(rt (hU l r).t v).num.sign:Int):Rat)/((1:Int):Rat))*((hU l r).mu*1)⟩:=by
 have h0:ek (off v l r) (off v l r)=1:=bA
 have hv0:vq v l r 0:=.inl rfl
 unfold pz
 rw [h0]
 by_cases ht:(hU l r).t.length=0
 ·rw [if_pos ht,if_pos ht]
 ·rw [if_neg ht,if_neg ht]
  by_cases hs:(rt (hU l r).t v).num.sign=0
  ·have hst:stk v (hU l r)=true:=by
    unfold stk;rw [decide_eq_true (show 0<(hU l r).t.length by omega),decide_eq_true hs];rfl
   have e1:=yD hv0 (r':=r) (q':=1) (.inr ⟨hst,by omega⟩)
   have e2:=yD hv0 (r':=r) (q':=2) (.inr ⟨hst,by omega⟩)
   rw [Nat.add_zero] at e1 e2
   rw [if_neg (fun h=>h hs),e1,e2,hs]
   have z:((-(0:Int):Int):Rat)/((1:Int):Rat)=0:=by decide+kernel
   rw [z,Rat.zero_mul]
   simp [Rat.sub_self]
  ·rw [if_pos hs]
theorem aUQ {v:List Rat} {l:List aA} {r:Nat} (h:vq v l r 1):pz v l (ek (off v l r+1)) r=⟨0,1⟩:=by
 have hst:stk v (hU l r)=true:=by rcases h with h|h;omega;exact h.1
 obtain⟨s1,s2⟩:=aK1 hst
 have e0:ek (off v l r+1) (off v l r)=if r=r∧0=1 then 1 else 0:=yD h (r':=r) (q':=0) (.inl rfl)
 unfold pz
 rw [if_neg s1,if_neg (fun h=>h s2),e0,yD h (r':=r) (q':=1) h,yD h (r':=r) (q':=2) (vqs h (by omega) (by omega))]
 simp [Rat.sub_eq_add_neg,Rat.add_zero,Rat.neg_zero]
theorem aU4 {v:List Rat} {l:List aA} {r:Nat} (h:vq v l r 2):pz v l (ek (off v l r+2)) r=⟨0,-1⟩:=by
 have hst:stk v (hU l r)=true:=by rcases h with h|h;omega;exact h.1
 obtain⟨s1,s2⟩:=aK1 hst
 have e0:ek (off v l r+2) (off v l r)=if r=r∧0=2 then 1 else 0:=yD h (r':=r) (q':=0) (.inl rfl)
 unfold pz
 rw [if_neg s1,if_neg (fun h=>h s2),e0,yD h (r':=r) (q':=1) (vqs h (by omega) (by omega)),yD h (r':=r) (q':=2) h]
 simp [Rat.sub_eq_add_neg,Rat.zero_add]
theorem aVo {d:List aD} {v:List Rat} {l:List aA} {r i:Nat} (h:vq v l r 3):Mf d v l i (off v l r+3)=bc v l (off v l r+3) i:=by
 unfold Mf bc
 have e:∀r',r'<l.length→pz v l (ek (off v l r+3)) r'=p0 r':=fun r' _=>by
  by_cases e:r'=r
  ·subst e
   have e0:ek (off v l r'+3) (off v l r')=if r'=r'∧0=3 then 1 else 0:=yD h (r':=r') (q':=0) (.inl rfl)
   refine aLq (by rw [e0,if_neg (by omega)]) fun hs=>⟨?_,?_⟩
   ·rw [yD h (r':=r') (q':=1) (vqs h (by omega) (by omega)),if_neg (by omega)]
   ·rw [yD h (r':=r') (q':=2) (vqs h (by omega) (by omega)),if_neg (by omega)]
  ·exact aI5 h e
 rw [aHv e,aN7,aQH,Rat.zero_add]
theorem aF1 {d:List aD} {f v:List Rat} {l:List aA} {r:aA} {x:Rat} {C:Nat} (hv:sV 64 v) (hr:RC r) (hx:Bd C x) (hC:C≤500000000) {K:Nat} (hK:13≤K):kZ K ⟨d,f,v,l⟩ r x=some ((((-(rt r.t v).num.sign:Int):Rat)/((1:Int):Rat))*(r.mu*x)):=by
 have hb:=aLo (rt r.t v)
 simp only [kZ,aML hv hr.1 hK,oB,k5 (show -9223372036854775808≤-(rt r.t v).num.sign∧_ by omega),(qsg _).1,pU hr.2 hx (by omega) (by omega),pU (qsg (rt r.t v)).2 (hr.2.mul hx) (by omega) (by omega)]
theorem aLM {d:List aD} {f v:List Rat} {l:List aA} (h:ScB d f v l) {K:Nat} (hK:5000≤K):∀(t k fu:Nat),k+t=off v l l.length→t<fu→bG K ⟨d,f,v,l⟩ ((unk v l l.length).map pu) (mp p0 l.length) 1 fu (ord (off v l l.length)) (rsl (gk (Mf d v l) k) (off v l l.length)) (k:Int)=some (ord (off v l l.length),rsl (gk (Mf d v l) (off v l l.length)) (off v l l.length))
 |0,k,fu,hi,hk=>by
  obtain⟨k',rfl,_⟩:=bD hk
  have e:k=off v l l.length:=by omega
  rw [e]
  simp only [bG,vK,dF (show¬(off v l l.length:Int)<(off v l l.length:Int) by omega),bU]
 |t+1,k,fu,hi,hk=>by
  obtain⟨k',rfl,_⟩:=bD hk
  have hkl:k<off v l l.length:=by omega
  have h8:=h.m8
  have hn:=h.n8
  have h4:=tJ (v:=v) (l:=l) l.length
  obtain⟨r,q,h1,h2,h3⟩:=vR l.length k hkl
  have hq3:=vq3 h2
  have hu:=rdU (m:=l.length) h2 h1
  rw [←h3] at hu
  have hr:=h.sb.sl _ (lB h1)
  have ih:=aLM h hK t (k+1) k' (by omega) (by omega)
  have hcl:=aNd (x:=mp p0 l.length) (by rw [bO];omega)
  have hz:yJ ((d.length:Nat):Int) (0:Rat)=some (mp z0 d.length):=aDi (by omega)
  have c3:aT ((k:Int)+3)=some ((k+3:Nat):Int):=by rw [k5 (by omega)];rfl
  have hcase:q=0∨q=1∨q=2∨q=3:=by omega
  rcases hcase with rfl|rfl|rfl|rfl
  ·have hk0:k=off v l r:=h3
   have hpk:=aPZ (x:=⟨1,if(hU l r).t.length=0 then 0 else(((-(rt (hU l r).t v).num.sign:Int):Rat)/((1:Int):Rat))*((hU l r).mu*1)⟩) (r:=r) h2 (by rw [Nat.add_zero];exact aTR)
   rw [Nat.add_zero,←hk0] at hpk
   have key:d6 K ⟨d,f,v,l⟩ ((unk v l l.length).map pu) (ord (off v l l.length)) (rsl (gk (Mf d v l) k) (off v l l.length)) (k:Int) ⟨(r:Int),0⟩ (hU l r) (bG K ⟨d,f,v,l⟩ ((unk v l l.length).map pu) (mp p0 l.length) 1 k') (mp (pz v l (ek k)) l.length)=some (ord (off v l l.length),rsl (gk (Mf d v l) (off v l l.length)) (off v l l.length)):=by
    cases hst:stk v (hU l r)
    ·obtain⟨a1,a2⟩:=aFH h hkl (b:=z0) (fun i hi=>by rw [hk0];exact aSQ hst hi) (fun i=>Bd.zero.mono (by omega)) hK
     rw [aEo] at a2
     by_cases hk3:k+3<off v l l.length
     ·obtain⟨r',q',g1,g2,g3⟩:=vR l.length (k+3) hk3
      have hu':=rdU (m:=l.length) g2 g1
      rw [←g3] at hu'
      have hne:((r':Int)==(r:Int)&&((q':Nat):Int)==3)=false:=by
       rw [Bool.and_eq_false_iff]
       by_cases e:r'=r
       ·right
        refine qF fun e2=>?_
        rw [e] at g2
        rcases g2 with g|g
        ·omega
        ·rw [hst] at g;exact absurd g.1 (by decide)
       ·left;exact qF (by omega)
      simp only [d6,c3,oB,vK,dT (show((k+3:Nat):Int)<(off v l l.length:Int) by omega),cA,hu',hne,bU,hz,a1,a2,oC (i:=k) (by omega)]
      exact ih
     ·simp only [d6,c3,oB,vK,dF (show¬((k+3:Nat):Int)<(off v l l.length:Int) by omega),bU,hz,a1,a2,oC (i:=k) (by omega)]
      exact ih
    ·have v3:vq v l r 3:=.inr ⟨hst,by omega⟩
     have l3:=sM (v:=v) (l:=l) (m:=l.length) h1 v3
     rw [←hk0] at l3
     have hu':=rdU (m:=l.length) v3 h1
     rw [←hk0] at hu'
     obtain⟨a1,a2⟩:=aFH h hkl (b:=iD z0 (k+3) (hU l r).mu) (fun i hi=>by rw [hk0];exact aVd hst hi) (aIu hr.2) hK
     have hy:((r:Int)==(r:Int)&&((3:Nat):Int)==3)=true:=by rw [qT rfl];rfl
     have e1:=aD6 (G:=gk (Mf d v l) k) (k:=k) (j:=k+3) (N:=off v l l.length) (b:=z0) (x:=(hU l r).mu)
     rw [aEo] at e1
     simp only [d6,c3,oB,vK,dT (show((k+3:Nat):Int)<(off v l l.length:Int) by omega),cA,hu',hy,rdO l3,aDT l3,eD (f:=gk (Mf d v l) k (k+3)) hkl,t8 (f:=gk (Mf d v l) k (k+3)) hkl,aGG,e1,hz,a1,a2,oC (i:=k) (by omega)]
     exact ih
   simp only [bG,vK,dT (show(k:Int)<(off v l l.length:Int) by omega),cA,hu,oB,hcl,aDW h1,qT (show((0:Nat):Int)=0 from rfl),eD (f:=p0) h1,t8 (f:=p0) h1]
   by_cases ht:(hU l r).t.length=0
   ·rw [if_pos ht] at hpk
    simp only [dF (show¬(0:Int)<((hU l r).t.length:Int) by omega),bU]
    rw [show(⟨1,(p0 r).f⟩:aI)=⟨1,0⟩ from rfl,hpk]
    exact key
   ·rw [if_neg ht] at hpk
    simp only [dT (show(0:Int)<((hU l r).t.length:Int) by omega),cA,aF1 h.sb.sv hr aCG (by omega) (show 13≤K by omega),oB,eD (f:=iD p0 r ⟨1,(p0 r).f⟩) h1,t8 (f:=iD p0 r ⟨1,(p0 r).f⟩) h1,bA,aQ5,hpk]
    exact key
  ·have v3:vq v l r 3:=vqs h2 (by omega) (by omega)
   have l3:=sM (v:=v) (l:=l) (m:=l.length) h1 v3
   have hj:k+2<off v l l.length:=by omega
   have hpk:=aPZ (x:=⟨0,1⟩) h2 (aUQ h2)
   rw [←h3] at hpk
   obtain⟨a1,a2⟩:=aFH h hkl (b:=iD z0 (k+2) (-1)) (fun i hi=>by rw [h3];exact aUv h2 hi) (aIu aMG) hK
   have e1:=aD6 (G:=gk (Mf d v l) k) (k:=k) (j:=k+2) (N:=off v l l.length) (b:=z0) (x:=-1)
   rw [aEo] at e1
   have c4:aT (((k+3:Nat):Int)-1)=some ((k+2:Nat):Int):=by rw [show((k+3:Nat):Int)-1=((k+2:Nat):Int) by omega,k5 (by omega)]
   have ep:(⟨(p0 r).n,1⟩:aI)=⟨0,1⟩:=rfl
   simp only [bG,vK,dT (show(k:Int)<(off v l l.length:Int) by omega),cA,hu,oB,hcl,aDW h1,qF (show((1:Nat):Int)≠0 by omega),qT (show((1:Nat):Int)=1 from rfl),bU,eD (f:=p0) h1,t8 (f:=p0) h1,ep,hpk,c3,c4,rdO hj,aLP,aDT hj,eD (f:=gk (Mf d v l) k (k+2)) hkl,t8 (f:=gk (Mf d v l) k (k+2)) hkl,aGG,e1,hz,a1,a2,oC (i:=k) (by omega)]
   exact ih
  ·have v3:vq v l r 3:=vqs h2 (by omega) (by omega)
   have l3:=sM (v:=v) (l:=l) (m:=l.length) h1 v3
   have hj:k+1<off v l l.length:=by omega
   have hpk:=aPZ (x:=⟨0,-1⟩) h2 (aU4 h2)
   rw [←h3] at hpk
   obtain⟨a1,a2⟩:=aFH h hkl (b:=iD z0 (k+1) (-1)) (fun i hi=>by rw [h3];exact aVv h2 hi) (aIu aMG) hK
   have e1:=aD6 (G:=gk (Mf d v l) k) (k:=k) (j:=k+1) (N:=off v l l.length) (b:=z0) (x:=-1)
   rw [aEo] at e1
   have c4:aT (((k+3:Nat):Int)-2)=some ((k+1:Nat):Int):=by rw [show((k+3:Nat):Int)-2=((k+1:Nat):Int) by omega,k5 (by omega)]
   have ep:(⟨(p0 r).n,-1⟩:aI)=⟨0,-1⟩:=rfl
   simp only [bG,vK,dT (show(k:Int)<(off v l l.length:Int) by omega),cA,hu,oB,hcl,aDW h1,qF (show((2:Nat):Int)≠0 by omega),qF (show((2:Nat):Int)≠1 by omega),qT (show((2:Nat):Int)=2 from rfl),bU,eD (f:=p0) h1,t8 (f:=p0) h1,aLP,ep,hpk,c3,c4,rdO hj,aDT hj,eD (f:=gk (Mf d v l) k (k+1)) hkl,t8 (f:=gk (Mf d v l) k (k+1)) hkl,aGG,e1,hz,a1,a2,oC (i:=k) (by omega)]
   exact ih
  ·have hj1:k-2<off v l l.length:=by omega
   have hj2:k-1<off v l l.length:=by omega
   have e1:=aD6 (G:=gk (Mf d v l) k) (k:=k) (j:=k-2) (N:=off v l l.length) (b:=z0) (x:=1)
   rw [aEo] at e1
   have e2:=aD6 (G:=gk (Mf d v l) k) (k:=k) (j:=k-1) (N:=off v l l.length) (b:=iD z0 (k-2) 1) (x:=1)
   have e3:rsl (aCl (gk (Mf d v l) k) k (iD (iD z0 (k-2) 1) (k-1) 1)) (off v l l.length)=rsl (gk (Mf d v l) (k+1)) (off v l l.length):=aQg fun i hi=>by
    rw [h3,aVo h2,aUn h2 hi];rfl
   have c1:aT (((k+1:Nat):Int)-3)=some ((k-2:Nat):Int):=by rw [show((k+1:Nat):Int)-3=((k-2:Nat):Int) by omega,k5 (by omega)]
   have c2:aT ((k:Int)+2)=some ((k+2:Nat):Int):=by rw [k5 (by omega)];rfl
   have c4:aT (((k+2:Nat):Int)-3)=some ((k-1:Nat):Int):=by rw [show((k+2:Nat):Int)-3=((k-1:Nat):Int) by omega,k5 (by omega)]
   simp only [bG,vK,dT (show(k:Int)<(off v l l.length:Int) by omega),cA,hu,oB,hcl,aDW h1,qF (show((3:Nat):Int)≠0 by omega),qF (show((3:Nat):Int)≠1 by omega),qF (show((3:Nat):Int)≠2 by omega),qT (show((3:Nat):Int)=3 from rfl),bU,oC (i:=k) (by omega),c1,c2,c4,rdO hj1,rdO hj2,aDT hj1,eD (f:=gk (Mf d v l) k (k-2)) hkl,t8 (f:=gk (Mf d v l) k (k-2)) hkl,aGG,e1,aDT hj2,eD (f:=aCl (gk (Mf d v l) k) k (iD z0 (k-2) 1) (k-1)) hkl,t8 (f:=aCl (gk (Mf d v l) k) k (iD z0 (k-2) 1) (k-1)) hkl,e2,e3]
   exact ih
theorem aJD {d:List aD} {f v:List Rat} {l:List aA} (h:ScB d f v l) {K:Nat} (hK:5000≤K):nC K ⟨d,f,v,l⟩=some (mx (Mf d v l) (off v l l.length) (off v l l.length),mp (qf d (kP f) v l) (off v l l.length)):=by
 have h8:=h.m8
 have hn:=h.n8
 have h4:=tJ (v:=v) (l:=l) l.length
 have hrb:RsB l:=fun r hr=>(h.sb.sl r hr).1
 have e1:=aPg (v:=v) (l:=l) (m:=l.length) (by omega) K (off v l l.length) 0 K (by omega) (by omega)
 have e2:mp (fun j=>if j<0 then j+1 else 0) (off v l l.length)=mp (fun _=>(0:Nat)) (off v l l.length):=cJ fun j _=>if_neg (by omega)
 rw [e2] at e1
 have e3:([]::mx (fun _=>z0) 0 (off v l l.length):List (List Rat))=[[]]:=rfl
 rw [e3] at e1
 simp only [Int.natCast_zero] at e1
 have hc:(1+9)*24*l.length≤400000000:=by omega
 have hp0:PB' 1 l.length p0:=fun r _=>⟨Bd.zero,Bd.zero⟩
 have e4:=aIM (f0:=f) (v0:=v) (p:=p0) h.sb.sd (show d.length≤1000 by omega) h.fbd hrb h.ir (by omega) hp0 (by omega) hc (show 2000≤K by omega)
 rw [←h.fmp] at e4
 have hb:=aFe (p:=p0) h.sb.sd h.fbd hrb h.ir hp0 (by omega) (by omega) (by omega) hc
 have e5:=aOw (d:=d) (f:=f) (v:=v) h.sb.sl hb (by unfold aIK;omega) (by omega) (show 13≤K by omega) (off v l l.length) 0 K (by omega) (by omega)
 have e6:mp (fun j=>if j<0 then rv v l (mp (acc d (kP f) l p0) d.length) j else 0) (off v l l.length)=mp (fun _=>(0:Rat)) (off v l l.length):=cJ fun j _=>if_neg (by omega)
 rw [e6] at e5
 simp only [Int.natCast_zero] at e5
 have e7:=aLM h hK (off v l l.length) 0 K (by omega) (by omega)
 have e8:rsl (gk (Mf d v l) 0) (off v l l.length)=rsl (fun _=>z0) (off v l l.length):=xD fun i c _ _=>if_neg (by omega)
 rw [e8] at e7
 simp only [Int.natCast_zero] at e7
 have e9:rsl (gk (Mf d v l) (off v l l.length)) (off v l l.length)=rsl (Mf d v l) (off v l l.length):=xD fun i c _ hc=>if_pos hc
 rw [e9] at e7
 simp only [nC,aFi h.sb.sv hrb (show l.length≤1000 by omega) (show 2000≤K by omega),oB,vK,aDi (z:=(0:Nat)) (n:=off v l l.length) (by omega),aDi (z:=(0:Rat)) (n:=off v l l.length) (by omega),e1,mZ,aDi (z:=(⟨0,0⟩:aI)) (n:=l.length) (by omega),show mp (fun _=>(⟨0,0⟩:aI)) l.length=mp p0 l.length from rfl,e4,l8,e5,kG,aJx,e7,mL,aTo]
 rfl
end Go.Proofs.YtldhbdgfpjoamaaGreat
set_option linter.unusedVariables false
namespace Go.Proofs.YtldhbdgfpjoamaaGreat
/-- A number that is whole when it is multiplied so often. -/
def dn (D e M:Nat) (x:Rat):Prop:=isZ M (x*((D^e:Nat):Rat))
theorem dn.mono {D e M N:Nat} {x:Rat} (h:dn D e M x) (hn:M≤N):dn D e N x:=isZ.mono h hn
theorem dn.zero {D e M:Nat}:dn D e M 0:=⟨0,by rw [Rat.zero_mul];rfl,Nat.zero_le _⟩
theorem dn.add {D e M N:Nat} {x y:Rat} (h:dn D e M x) (k:dn D e N y):dn D e (M+N) (x+y):=by
 unfold dn;rw [Rat.add_mul];exact isZ.add h k
theorem dn.neg {D e M:Nat} {x:Rat} (h:dn D e M x):dn D e M (-x):=by
 obtain⟨q,h1,h2⟩:=h
 exact⟨-q,by rw [Rat.neg_mul,h1,Rat.intCast_neg],by omega⟩
theorem dn.mul {D e e' M N:Nat} {x y:Rat} (h:dn D e M x) (k:dn D e' N y):dn D (e+e') (M*N) (x*y):=by
 have:=isZ.mul h k
 unfold dn
 rw [Nat.pow_add,Rat.natCast_mul]
 have e2:x*y*(((D^e:Nat):Rat)*((D^e':Nat):Rat))=x*((D^e:Nat):Rat)*(y*((D^e':Nat):Rat)):=by
  rw [Rat.mul_assoc,←Rat.mul_assoc y,Rat.mul_comm y,Rat.mul_assoc ((D^e:Nat):Rat),←Rat.mul_assoc]
 rw [e2];exact this
theorem dn.up {D e M:Nat} {x:Rat} (h:dn D e M x):dn D (e+1) (M*D) x:=by
 have h1:dn D 1 D 1:=⟨(D:Int),by rw [Rat.one_mul,Nat.pow_one];rfl,by simp⟩
 have:=h.mul h1
 rwa [Rat.mul_one] at this
structure DD (D:Nat) (d:List aD) (f:Nat→Rat) (l:List aA):Prop where
 pos:1≤D
 inv:∀x∈d,dn D 1 (256*D) x.inv
 fl:∀j,j<d.length→dn D 1 (256*D) (f j)
 tj:∀r∈l,∀t∈r.j,dn D 1 (256*D) t.k
 tt:∀r∈l,∀t∈r.t,dn D 1 (256*D) t.k
 mu:∀r∈l,dn D 1 (256*D) r.mu
theorem aN4 {D M:Nat} {j:Nat}:∀(l:List aE),(∀t∈l,dn D 1 M t.k)→dn D 1 (l.length*M) (cf l j)
 |[],_=>dn.zero
 |t::l,h=>by
  have h1:=aN4 (j:=j) l fun t ht=>h t (List.mem_cons_of_mem _ ht)
  show dn D 1 ((l.length+1)*M) ((if t.dof=(j:Int) then t.k else 0)+cf l j)
  rw [Nat.succ_mul,Nat.add_comm]
  refine dn.add ?_ h1
  split
  ·exact h t List.mem_cons_self
  ·exact dn.zero
theorem aLx {D M e P:Nat} {l:List aA} {p:Nat→aI} {j:Nat} (hj:∀r∈l,∀t∈r.j,dn D 1 M t.k) (ht:∀r∈l,∀t∈r.t,dn D 1 M t.k) (hl:RsB l) (hp:∀r,r<l.length→dn D e P (p r).n∧dn D e P (p r).f):∀m,m≤l.length→dn D (1+e) (m*(24*M*P)) (ptot l p m j)
 |0,_=>dn.zero
 |m+1,hm=>by
  have h1:=aLx (j:=j) hj ht hl hp m (by omega)
  have hr:=lB (l:=l) (i:=m) (by omega)
  obtain⟨p1,p2⟩:=hp m (by omega)
  have c1:=(aN4 (j:=j) (hU l m).j (hj _ hr)).mono (Nat.mul_le_mul_right M (hl _ hr).1.1)
  have c2:=(aN4 (j:=j) (hU l m).t (ht _ hr)).mono (Nat.mul_le_mul_right M (hl _ hr).2.1)
  have h2:=(c1.mul p1).add (c2.mul p2)
  show dn D (1+e) _ (ptot l p m j+rcq l p m j)
  rw [Nat.succ_mul]
  exact h1.add (h2.mono (by rw [←Nat.add_mul,←Nat.add_mul];exact Nat.le_refl _))
theorem aPK {D M e A n:Nat} {a:Nat→Rat} (ha:∀j,j<n→dn D e A (a j)):∀(l:List aE) (x:Rat) (X:Nat),(∀t∈l,dn D 1 M t.k)→dn D (1+e) X x→dn D (1+e) (X+l.length*(M*A)) (rtf (mp a n) l x)
 |[],x,X,_,hx=>hx.mono (by simp)
 |t::l,x,X,h,hx=>by
  have h1:dn D (1+e) (M*A) (trm (mp a n) t):=by
   unfold trm
   rw [bO]
   by_cases hc:0≤t.dof∧t.dof<(n:Int)
   ·rw [decide_eq_true hc]
    show dn D (1+e) _ (t.k*kP _ _)
    rw [zM (by omega)]
    exact(h t List.mem_cons_self).mul (ha _ (by omega))
   ·rw [decide_eq_false hc];exact dn.zero
  have:=aPK ha l (x+trm (mp a n) t) (X+M*A) (fun t ht=>h t (List.mem_cons_of_mem _ ht)) (hx.add h1)
  refine this.mono ?_
  rw [List.length_cons,Nat.succ_mul];omega
theorem aR1 {D M e A n:Nat} {a:Nat→Rat} (ha:∀j,j<n→dn D e A (a j)) {l:List aE} (hl:l.length≤12) (h:∀t∈l,dn D 1 M t.k):dn D (1+e) (12*(M*A)) (rt l (mp a n)):=
 (aPK ha l 0 0 h dn.zero).mono (by rw [Nat.zero_add];exact Nat.mul_le_mul_right _ hl)
theorem aRP {D e A n k:Nat} {d:List aD} {f:Nat→Rat} {v:List Rat} {l:List aA} {a:Nat→Rat} (h:DD D d f l) (hl:RsB l) (ha:∀j,j<n→dn D e A (a j)) (hk:k<off v l l.length):dn D (1+e) (12*(256*D*A)) (rv v l (mp a n) k):=by
 obtain⟨r,q,h1,h2,h3⟩:=vR l.length k hk
 have hr:=lB h1
 have bj:=aR1 ha (hl _ hr).1.1 (h.tj _ hr)
 have bt:=aR1 ha (hl _ hr).2.1 (h.tt _ hr)
 rw [rv0 h2 h1 h3]
 split
 ·exact bj
 ·split
  ·exact bt
  ·split
   ·exact bt.neg
   ·exact dn.zero
theorem aHk {D k j:Nat}:dn D 0 1 (ek k j):=by
 unfold ek iD z0
 split
 ·exact⟨1,by rw [Rat.one_mul];rfl,by decide⟩
 ·exact dn.zero
theorem aUW {D:Nat} {d:List aD} {f:Nat→Rat} {v:List Rat} {l:List aA} (h:DD D d f l) {k r:Nat} (hr:r<l.length):dn D 1 (512*D) (pz v l (ek k) r).n∧dn D 1 (512*D) (pz v l (ek k) r).f:=by
 have h0:dn D 1 (1*D) (ek k (off v l r)):=aHk.up
 have hD:=h.pos
 unfold pz
 split
 ·exact⟨h0.mono (by omega),dn.zero⟩
 ·split
  ·refine⟨h0.mono (by omega),?_⟩
   have hb:=aLo (rt (hU l r).t v)
   have c:dn D 0 1 (((-(rt (hU l r).t v).num.sign:Int):Rat)/((1:Int):Rat)):=⟨-(rt (hU l r).t v).num.sign,by
    rw [Rat.div_def,show(((1:Int):Rat))⁻¹=1 by decide+kernel,Nat.pow_zero,Rat.mul_one];exact Rat.mul_one _,by omega⟩
   have:=c.mul ((h.mu _ (lB hr)).mul (aHk (D:=D) (k:=k) (j:=off v l r)))
   exact this.mono (by omega)
  ·refine⟨h0.mono (by omega),?_⟩
   have:=(aHk (D:=D) (k:=k) (j:=off v l r+1)).add (aHk (D:=D) (k:=k) (j:=off v l r+2)).neg
   rw [←Rat.sub_eq_add_neg] at this
   exact this.up.mono (by omega)
theorem aNO {D e P m:Nat} {d:List aD} {f g:Nat→Rat} {l:List aA} {p:Nat→aI} (h:DD D d f l) (hl:RsB l) (hm:l.length≤m) {X:Nat} (hg:∀j,j<d.length→dn D (1+e) X (g j)) (hp:∀r,r<l.length→dn D e P (p r).n∧dn D e P (p r).f):∀j,j<d.length→dn D (1+e+1) ((X+m*(24*(256*D)*P))*(256*D)) (acc d g l p j):=fun j hj=>
 ((hg j hj).add ((aLx h.tj h.tt hl hp l.length (Nat.le_refl _)).mono (Nat.mul_le_mul_right _ hm))).mul (h.inv _ (zI hj))
theorem aUN {D k i:Nat} {d:List aD} {f:Nat→Rat} {v:List Rat} {l:List aA} (h:DD D d f l) (hi:i<off v l l.length):dn D 1 (300*D) (zv v l (ek k) i):=by
 obtain⟨r,q,h1,h2,h3⟩:=vR l.length i hi
 have hD:=h.pos
 have u:∀j,dn D 1 (1*D) (ek k j):=fun j=>aHk.up
 rw [zv0 h2 h1 h3]
 split
 ·exact dn.zero
 ·split
  ·exact(u _).mono (by omega)
  ·split
   ·exact(u _).mono (by omega)
   ·have:=((h.mu _ (lB h1)).mul (aHk (D:=D) (k:=k) (j:=i-3))).add ((u (i-2)).add (u (i-1))).neg
    rw [←Rat.sub_eq_add_neg] at this
    exact this.mono (by omega)
theorem four {D:Nat}:12*(256*D*((0+5*(24*(256*D)*(512*D)))*(256*D)))+300*D*D*D*D≤2^50*(D*D*D*D):=by
 have e:12*(256*D*((0+5*(24*(256*D)*(512*D)))*(256*D)))=(12*256*5*24*256*512*256)*(D*D*D*D):=by
  rw [Nat.zero_add]
  simp only [Nat.mul_assoc,Nat.mul_left_comm,Nat.mul_comm]
 have e2:300*D*D*D*D=300*(D*D*D*D):=by simp only [Nat.mul_assoc]
 rw [e,e2]
 generalize D*D*D*D=x
 omega
theorem aVu {D:Nat} {d:List aD} {f:Nat→Rat} {v:List Rat} {l:List aA} (h:DD D d f l) (hl:RsB l) (hm:l.length≤5) {i k:Nat} (hi:i<off v l l.length):dn D 4 (2^50*(D*D*D*D)) (Mf d v l i k):=by
 have a:=aNO (e:=1) (g:=z0) (X:=0) h hl hm (fun j _=>dn.zero) (fun r hr=>aUW (v:=v) (k:=k) h hr)
 have r:=aRP (v:=v) h hl a hi
 have z:=(aUN (k:=k) h hi).up.up.up
 exact(r.add z).mono four
end Go.Proofs.YtldhbdgfpjoamaaGreat
set_option linter.unusedVariables false
namespace Go.Proofs.YtldhbdgfpjoamaaGreat
theorem aQq (x:Rat):x*((x.den:Nat):Rat)=(x.num:Rat):=by
 have h:((x.den:Nat):Rat)≠0:=fun e=>x.den_nz (by exact_mod_cast e)
 have e:x=(x.num:Rat)/((x.den:Nat):Rat):=by
  conv=>lhs;rw [←Rat.num_divInt_den x,Rat.divInt_eq_div]
  rfl
 conv=>lhs;lhs;rw [e]
 exact Rat.div_mul_cancel h
theorem aLH:∀xs:List Rat,(∀x∈xs,Bd 8 x)→∃D:Nat,1≤D∧D≤256^xs.length∧∀x∈xs,dn D 1 (256*D) x
 |[],_=>⟨1,Nat.le_refl _,Nat.le_refl _,fun x h=>absurd h List.not_mem_nil⟩
 |x::xs,h=>by
  obtain⟨D,h1,h2,h3⟩:=aLH xs fun y hy=>h y (List.mem_cons_of_mem _ hy)
  obtain⟨b1,b2⟩:=h x List.mem_cons_self
  have hp:=x.den_pos
  have hle:D*x.den≤256^(xs.length+1):=by
   rw [Nat.pow_succ];exact Nat.mul_le_mul h2 (by omega)
  refine⟨D*x.den,Nat.mul_pos h1 hp,hle,fun y hy=>?_⟩
  rcases List.mem_cons.1 hy with rfl|hy
  ·refine⟨y.num*D,?_,?_⟩
   ·rw [Nat.pow_one,Rat.natCast_mul,Rat.mul_comm (D:Rat),←Rat.mul_assoc,aQq,Rat.intCast_mul];rfl
   ·rw [Int.natAbs_mul,Int.natAbs_natCast]
    refine Nat.le_trans (Nat.mul_le_mul_right D (show y.num.natAbs≤256 by omega)) ?_
    exact Nat.mul_le_mul_left 256 (Nat.le_mul_of_pos_right D hp)
  ·obtain⟨q,q1,q2⟩:=h3 y hy
   refine⟨q*x.den,?_,?_⟩
   ·rw [Nat.pow_one] at q1 ⊢
    rw [Rat.natCast_mul,←Rat.mul_assoc,q1,Rat.intCast_mul];rfl
   ·rw [Int.natAbs_mul,Int.natAbs_natCast,←Nat.mul_assoc]
    exact Nat.mul_le_mul_right _ q2
def aNa (r:aA):List Rat:=r.mu::(r.j.map (·.k)++r.t.map (·.k))
def aPd (d:List aD) (f:Nat→Rat) (l:List aA):List Rat:=d.map (·.inv)++mp f d.length++l.flatMap aNa
theorem aOJ {r:aA} (h:RB r):(aNa r).length≤25:=by
 have h1:=h.1.1
 have h2:=h.2.1
 unfold aNa
 simp only [List.length_cons,List.length_append,List.length_map]
 omega
theorem aHg:∀l:List aA,RsB l→(l.flatMap aNa).length≤25*l.length
 |[],_=>Nat.le_refl _
 |r::l,h=>by
  have h1:=aHg l fun x hx=>h x (List.mem_cons_of_mem _ hx)
  have h2:=aOJ (h r List.mem_cons_self)
  rw [List.flatMap_cons,List.length_append,List.length_cons]
  omega
theorem aVc {d:List aD} {f:Nat→Rat} {l:List aA} (hd:∀x∈d,Bd 8 x.inv) (hn:d.length≤12) (hf:∀j,j<d.length→Bd 8 (f j)) (hl:RsC l) (hm:l.length≤5):∃D,DD D d f l∧D≤256^149:=by
 have hrb:RsB l:=fun r hr=>(hl r hr).1
 obtain⟨D,h1,h2,h3⟩:=aLH (aPd d f l) fun x hx=>by
  unfold aPd at hx
  rcases List.mem_append.1 hx with hx|hx
  ·rcases List.mem_append.1 hx with hx|hx
   ·obtain⟨y,hy,rfl⟩:=List.mem_map.1 hx
    exact hd y hy
   ·exact z7 hf x hx
  ·obtain⟨r,hr,hx⟩:=List.mem_flatMap.1 hx
   unfold aNa at hx
   rcases List.mem_cons.1 hx with rfl|hx
   ·exact(hl r hr).2
   ·rcases List.mem_append.1 hx with hx|hx
    ·obtain⟨t,ht,rfl⟩:=List.mem_map.1 hx
     exact(hl r hr).1.1.2 t ht
    ·obtain⟨t,ht,rfl⟩:=List.mem_map.1 hx
     exact(hl r hr).1.2.2 t ht
 have hlen:(aPd d f l).length≤149:=by
  have:=aHg l hrb
  unfold aPd
  simp only [List.length_append,List.length_map,bO]
  omega
 have inR:∀r∈l,∀x∈aNa r,x∈aPd d f l:=fun r hr x hx=>List.mem_append.2 (.inr (List.mem_flatMap.2 ⟨r,hr,hx⟩))
 refine⟨D,⟨h1,fun x hx=>h3 _ (List.mem_append.2 (.inl (List.mem_append.2 (.inl (List.mem_map.2 ⟨x,hx,rfl⟩))))),fun j hj=>h3 _ (List.mem_append.2 (.inl (List.mem_append.2 (.inr (List.mem_map.2 ⟨j,List.mem_range.2 hj,rfl⟩))))),fun r hr t ht=>h3 _ (inR r hr _ ?_),fun r hr t ht=>h3 _ (inR r hr _ ?_),fun r hr=>h3 _ (inR r hr _ List.mem_cons_self)⟩,Nat.le_trans h2 (Nat.pow_le_pow_right (by omega) hlen)⟩
 ·exact List.mem_cons_of_mem _ (List.mem_append.2 (.inl (List.mem_map.2 ⟨t,ht,rfl⟩)))
 ·exact List.mem_cons_of_mem _ (List.mem_append.2 (.inr (List.mem_map.2 ⟨t,ht,rfl⟩)))
def lX (M:Nat→Nat→Rat) (q:Nat→Rat) (n i c:Nat):Rat:=
 if c<n then(if i=c then 1 else 0) else if c<2*n then -(M i (c-n)) else if c=2*n then -1 else q i
theorem aLj {M:Nat→Nat→Rat} {q:Nat→Rat} {n:Nat}:TI n (2*n+2) (lX M q n) (lX M q n) (fun j=>j):=TI.start (by omega) fun i j hi hj=>if_pos hj
theorem aSV {D e:Nat} (h:1≤D):dn D e (D^e) 1:=⟨((D^e:Nat):Int),by rw [Rat.one_mul];rfl,by simp⟩
theorem aU2 {D:Nat} {d:List aD} {f:Nat→Rat} {v:List Rat} {l:List aA} (h:DD D d f l) (hl:RsB l) (hm:l.length≤5) {i:Nat} (hi:i<off v l l.length):dn D 4 (2^50*(D*D*D*D)) (qf d f v l i):=by
 have a:=aNO (e:=0) (g:=f) (P:=0) (p:=p0) h hl hm h.fl (fun r hr=>⟨dn.zero,dn.zero⟩)
 have r:=(aRP (v:=v) h hl a hi).up
 refine r.mono ?_
 have e:12*(256*D*((256*D+5*(24*(256*D)*0))*(256*D)))*D=(12*256*256*256)*(D*D*D*D):=by
  simp only [Nat.mul_zero,Nat.add_zero]
  simp only [Nat.mul_assoc,Nat.mul_left_comm,Nat.mul_comm]
 rw [e]
 generalize D*D*D*D=x
 omega
theorem aS5 {D:Nat} {d:List aD} {f:Nat→Rat} {v:List Rat} {l:List aA} (h:DD D d f l) (hl:RsB l) (hm:l.length≤5) {i c:Nat} (hi:i<off v l l.length):dn D 4 (2^50*(D*D*D*D)) (lX (Mf d v l) (qf d f v l) (off v l l.length) i c):=by
 have hD:=h.pos
 have o:dn D 4 (2^50*(D*D*D*D)) (1:Rat):=(aSV hD).mono (by
  have:D^4=D*D*D*D:=by simp [Nat.pow_succ]
  rw [this]
  generalize D*D*D*D=x
  omega)
 unfold lX
 split
 ·split
  ·exact o
  ·exact dn.zero
 ·split
  ·exact(aVu h hl hm hi).neg
  ·split
   ·exact o.neg
   ·exact aU2 h hl hm hi
end Go.Proofs.YtldhbdgfpjoamaaGreat
set_option linter.unusedVariables false
namespace Go.Proofs.YtldhbdgfpjoamaaGreat
/-- The rows of a tableau as they lie. -/
structure aBS (n w:Nat) (rs:List (List Rat)) (od:Nat→Nat) (T:Nat→Nat→Rat):Prop where
 lt:∀i,i<n→od i<rs.length
 inj:∀i j,i<n→j<n→od i=od j→i=j
 row:∀i,i<n→rs.getD (od i) []=mp (T i) w
def jY (n j:Nat):Nat:=if j=0 then 2*n+1 else j-1
def lx (T:Nat→Nat→Rat) (n i:Nat) (c:Rat) (k:Nat) (d:Rat):Nat→Nat→Bool
 |0,_=>false
 |t+1,j=>bif decide (T i (jY n j)/c=T k (jY n j)/d) then lx T n i c k d t (j+1) else decide (T i (jY n j)/c<T k (jY n j)/d)
def les (T:Nat→Nat→Rat) (n i:Nat) (c:Rat) (k:Nat) (d:Rat):Bool:=lx T n i c k d (n+1) 0
theorem aLz {m k:Nat} {a b:Rat} (ha:Bd m a) (hb:Bd k b) (hm:m≤1073741824) (hk:k≤1073741824):aPT a b=some (if a<b then -1 else if b<a then 1 else 0):=by
 unfold aPT;rw [ha.qs hm,hb.qs hk];rfl
theorem aEZ {a b:Rat}:((if a<b then -1 else if b<a then 1 else 0:Int)=0↔a=b)∧decide ((if a<b then -1 else if b<a then 1 else 0:Int)<0)=decide (a<b):=by
 by_cases h:a<b
 ·rw [if_pos h]
  refine⟨⟨fun h2=>absurd h2 (by decide),fun h2=>?_⟩,by rw [decide_eq_true h];rfl⟩
  rw [h2] at h;exact absurd h (Rat.lt_irrefl)
 ·rw [if_neg h]
  by_cases h2:b<a
  ·rw [if_pos h2]
   refine⟨⟨fun h3=>absurd h3 (by decide),fun h3=>?_⟩,by rw [decide_eq_false h];rfl⟩
   rw [h3] at h2;exact absurd h2 (Rat.lt_irrefl)
  ·rw [if_neg h2]
   exact⟨⟨fun _=>Rat.le_antisymm (Rat.not_lt.1 h2) (Rat.not_lt.1 h),fun _=>rfl⟩,by rw [decide_eq_false h];rfl⟩
theorem aL2 {n j:Nat} (h:j≤n):jY n j<2*n+2:=by unfold jY;split<;>omega
theorem aHF {n:Nat} {rs:List (List Rat)} {od:Nat→Nat} {T:Nat→Nat→Rat} (hr:aBS n (2*n+2) rs od T) {B C:Nat} (hT:Bdx n (2*n+2) B T) {i k:Nat} (hi:i<n) (hk:k<n) {c d:Rat} (hc:Bd C c) (hd:Bd C d) (hBC:B+C≤500000000) (hn:n≤1000) (K:Nat):
  ∀(t j fu:Nat),j+t=n+1→t<fu→a9 K (i:Int) c (k:Int) d (n:Int) (mp od n) rs fu ((j:Int)-1)=some (.ret (lx T n i c k d t j))∨(lx T n i c k d t j=false∧a9 K (i:Int) c (k:Int) d (n:Int) (mp od n) rs fu ((j:Int)-1)=some (.go ()))
 |0,j,fu,hj,hf=>by
  obtain⟨fu',rfl,_⟩:=bD hf
  refine .inr ⟨rfl,?_⟩
  simp only [a9,dF (show¬(j:Int)-1<(n:Int) by omega),bU]
 |t+1,j,fu,hj,hf=>by
  obtain⟨fu',rfl,_⟩:=bD hf
  have hl:=aL2 (n:=n) (j:=j) (by omega)
  have b1:=(hT i _ hi hl).div hc
  have b2:=(hT k _ hk hl).div hd
  have ih:=aHF hr hT hi hk hc hd hBC hn K t (j+1) fu' (by omega) (by omega)
  have key:d9 K (i:Int) c (k:Int) d (mp od n) rs ((j:Int)-1) (a9 K (i:Int) c (k:Int) d (n:Int) (mp od n) rs fu') ((jY n j:Nat):Int)=bif decide (T i (jY n j)/c=T k (jY n j)/d) then a9 K (i:Int) c (k:Int) d (n:Int) (mp od n) rs fu' (((j+1:Nat):Int)-1) else some (.ret (decide (T i (jY n j)/c<T k (jY n j)/d))):=by
   simp only [d9,eD (f:=od) hi,eD (f:=od) hk,oB,hr.row i hi,hr.row k hk,eD (f:=T i) hl,eD (f:=T k) hl,aB5 (hT i _ hi hl) hc (by omega) (by omega),aB5 (hT k _ hk hl) hd (by omega) (by omega),aLz b1 b2 (by omega) (by omega)]
   by_cases h:T i (jY n j)/c=T k (jY n j)/d
   ·rw [nF (aEZ.1.2 h),bU,decide_eq_true h,cA,k5 (by omega),oB]
    congr 1
    omega
   ·rw [nT (fun h2=>h (aEZ.1.1 h2)),cA,decide_eq_false h,bU,aEZ.2]
  have main:a9 K (i:Int) c (k:Int) d (n:Int) (mp od n) rs (fu'+1) ((j:Int)-1)=bif decide (T i (jY n j)/c=T k (jY n j)/d) then a9 K (i:Int) c (k:Int) d (n:Int) (mp od n) rs fu' (((j+1:Nat):Int)-1) else some (.ret (decide (T i (jY n j)/c<T k (jY n j)/d))):=by
   rw [←key]
   by_cases h0:j=0
   ·subst h0
    have c1:aT (2*(n:Int))=some (2*(n:Int)):=k5 (by omega)
    have c2:aT (2*(n:Int)+1)=some ((jY n 0:Nat):Int):=by
     rw [k5 (by omega)];congr 1
    simp only [a9,dT (show((0:Nat):Int)-1<(n:Int) by omega),cA,dT (show((0:Nat):Int)-1<0 by omega),c1,c2,oB]
   ·have e:((jY n j:Nat):Int)=(j:Int)-1:=by unfold jY;rw [if_neg h0];omega
    rw [e]
    simp only [a9,dT (show(j:Int)-1<(n:Int) by omega),cA,dF (show¬(j:Int)-1<0 by omega),bU]
  rw [main]
  have el:lx T n i c k d (t+1) j=bif decide (T i (jY n j)/c=T k (jY n j)/d) then lx T n i c k d t (j+1) else decide (T i (jY n j)/c<T k (jY n j)/d):=rfl
  rw [el]
  by_cases h:T i (jY n j)/c=T k (jY n j)/d
  ·rw [decide_eq_true h,cA,cA];exact ih
  ·rw [decide_eq_false h,bU,bU];exact .inl rfl
theorem aJp {n:Nat} {rs:List (List Rat)} {od:Nat→Nat} {T:Nat→Nat→Rat} {a6:List Int} (hr:aBS n (2*n+2) rs od T) {B C:Nat} (hT:Bdx n (2*n+2) B T) {i k:Nat} (hi:i<n) (hk:k<n) {c d:Rat} (hc:Bd C c) (hd:Bd C d) (hBC:B+C≤500000000) (hn:n≤1000) {K:Nat} (hK:2000≤K):eE K (i:Int) c (k:Int) d (n:Int) (mp od n) a6 rs=some (les T n i c k d):=by
 have:=aHF hr hT hi hk hc hd hBC hn K (n+1) 0 K (by omega) (by omega)
 rw [show((0:Nat):Int)-1=-1 from rfl] at this
 rcases this with h|⟨h1,h2⟩
 ·simp only [eE,h,oB];rfl
 ·simp only [eE,h2,oB,jC]
  exact congrArg some h1.symm
def aAK (T:Nat→Nat→Rat) (n i:Nat) (c:Rat) (j:Nat):Rat:=T i (jY n j)/c
theorem aL9 {n:Nat} {T:Nat→Nat→Rat} {B C i:Nat} {c:Rat} (hT:Bdx n (2*n+2) B T) (hi:i<n) (hc:Bd C c) (hB:B≤1073741824) (hC:C≤1073741824) (hn:n≤1000) (K:Nat):∀(t j fu:Nat),j+t=n→t<fu→nJ K (mp (T i) (2*n+2)) (n:Int) c fu (mp (aAK T n i c) (j+1)) (j:Int)=some (mp (aAK T n i c) (n+1))
 |0,j,fu,hj,hf=>by
  obtain⟨fu',rfl,_⟩:=bD hf
  have e:j=n:=by omega
  subst e
  simp only [nJ,dF (show¬(j:Int)<(j:Int) by omega),bU]
 |t+1,j,fu,hj,hf=>by
  obtain⟨fu',rfl,_⟩:=bD hf
  have e:aAK T n i c (j+1)=T i j/c:=by unfold aAK jY;rw [if_neg (by omega),Nat.add_sub_cancel]
  have ap:=apM (g:=aAK T n i c) (i:=j+1) (by omega)
  rw [e] at ap
  simp only [nJ,dT (show(j:Int)<(n:Int) by omega),cA,eD (f:=T i) (n:=2*n+2) (i:=j) (by omega),oB,aB5 (hT i j hi (by omega)) hc hB hC,ap,oC (i:=j) (by omega)]
  exact aL9 hT hi hc hB hC hn K t (j+1) fu' (by omega) (by omega)
theorem aIh {n:Nat} {T:Nat→Nat→Rat} {B C i:Nat} {c:Rat} (hT:Bdx n (2*n+2) B T) (hi:i<n) (hc:Bd C c) (hB:B≤1073741824) (hC:C≤1073741824) (hn:n≤1000) {K:Nat} (hK:2000≤K):oX K (mp (T i) (2*n+2)) (n:Int) c=some (mp (aAK T n i c) (n+1)):=by
 have:=aL9 hT hi hc hB hC hn K n 0 K (by omega) (by omega)
 simp only [Int.natCast_zero] at this
 have c1:aT (2*(n:Int))=some (2*(n:Int)):=k5 (by omega)
 have c2:aT (2*(n:Int)+1)=some ((2*n+1:Nat):Int):=by rw [k5 (by omega)];congr 1
 have e:[T i (2*n+1)/c]=mp (aAK T n i c) (0+1):=rfl
 simp only [oX,c1,c2,oB,eD (f:=T i) (n:=2*n+2) (i:=2*n+1) (by omega),aB5 (hT i (2*n+1) hi (by omega)) hc hB hC,e,this,yM]
theorem aHM {n:Nat} {T:Nat→Nat→Rat} {B C i k:Nat} {c d:Rat} (hT:Bdx n (2*n+2) B T) (hi:i<n) (hk:k<n) (hc:Bd C c) (hd:Bd C d) (hBC:B+C≤500000000) (hn:n≤1000) (K:Nat):∀(t j fu:Nat),j+t=n+1→t<fu→jJ K (mp (aAK T n i c) (n+1)) (mp (aAK T n k d) (n+1)) fu (j:Int)=some (.ret (lx T n i c k d t j))∨(lx T n i c k d t j=false∧jJ K (mp (aAK T n i c) (n+1)) (mp (aAK T n k d) (n+1)) fu (j:Int)=some (.go ()))
 |0,j,fu,hj,hf=>by
  obtain⟨fu',rfl,_⟩:=bD hf
  refine .inr ⟨rfl,?_⟩
  simp only [jJ,bO,dF (show¬(j:Int)<((n+1:Nat):Int) by omega),bU]
 |t+1,j,fu,hj,hf=>by
  obtain⟨fu',rfl,_⟩:=bD hf
  have hl:=aL2 (n:=n) (j:=j) (by omega)
  have b1:Bd (B+C) (aAK T n i c j):=(hT i _ hi hl).div hc
  have b2:Bd (B+C) (aAK T n k d j):=(hT k _ hk hl).div hd
  have ih:=aHM hT hi hk hc hd hBC hn K t (j+1) fu' (by omega) (by omega)
  have el:lx T n i c k d (t+1) j=bif decide (aAK T n i c j=aAK T n k d j) then lx T n i c k d t (j+1) else decide (aAK T n i c j<aAK T n k d j):=rfl
  rw [el]
  simp only [jJ,bO,dT (show(j:Int)<((n+1:Nat):Int) by omega),cA,eD (f:=aAK T n i c) (n:=n+1) (i:=j) (by omega),eD (f:=aAK T n k d) (n:=n+1) (i:=j) (by omega),oB,aLz b1 b2 (by omega) (by omega)]
  by_cases h:aAK T n i c j=aAK T n k d j
  ·rw [nF (aEZ.1.2 h),bU,decide_eq_true h,cA,oC (i:=j) (by omega),oB];exact ih
  ·rw [nT (fun h2=>h (aEZ.1.1 h2)),cA,decide_eq_false h,bU,aEZ.2];exact .inl rfl
theorem aHK {n:Nat} {T:Nat→Nat→Rat} {B C i k:Nat} {c d:Rat} (hT:Bdx n (2*n+2) B T) (hi:i<n) (hk:k<n) (hc:Bd C c) (hd:Bd C d) (hBC:B+C≤500000000) (hn:n≤1000) {K:Nat} (hK:2000≤K):oJ K (mp (aAK T n i c) (n+1)) (mp (aAK T n k d) (n+1))=some (les T n i c k d):=by
 have:=aHM hT hi hk hc hd hBC hn K (n+1) 0 K (by omega) (by omega)
 simp only [Int.natCast_zero] at this
 rcases this with h|⟨h1,h2⟩
 ·simp only [oJ,h,oB];rfl
 ·simp only [oJ,h2,oB,xG]
  exact congrArg some h1.symm
end Go.Proofs.YtldhbdgfpjoamaaGreat
set_option linter.unusedVariables false
namespace Go.Proofs.YtldhbdgfpjoamaaGreat
def aAO (T:Nat→Nat→Rat) (r c k:Nat):Rat:=T r k/T r c
theorem aJ2 {n w r c B:Nat} {T:Nat→Nat→Rat} (hT:Bdx n w B T) (hr:r<n) (hc:c<w) (hB:B≤500000000) (hw:w≤100000) (K:Nat):∀(t k fu:Nat),k+t=w→t<fu→lL K (mx T n w) (r:Int) (c:Int) fu (mp (aAO T r c) k) (k:Int)=some (mp (aAO T r c) w)
 |0,k,fu,hk,hf=>by
  obtain⟨fu',rfl,_⟩:=bD hf
  have e:k=w:=by omega
  subst e
  simp only [lL,aDH (g:=T) (w:=k) hr,oB,bO,dF (show¬(k:Int)<(k:Int) by omega),bU]
 |t+1,k,fu,hk,hf=>by
  obtain⟨fu',rfl,_⟩:=bD hf
  have hkw:k<w:=by omega
  have ap:=apM (g:=aAO T r c) (i:=k) (by omega)
  simp only [lL,aDH (g:=T) (w:=w) hr,oB,bO,dT (show(k:Int)<(w:Int) by omega),cA,eD (f:=T r) hkw,eD (f:=T r) hc,aB5 (hT r k hr hkw) (hT r c hr hc) (by omega) (by omega),show T r k/T r c=aAO T r c k from rfl,ap,oC (i:=k) (by omega)]
  exact aJ2 hT hr hc hB hw K t (k+1) fu' (by omega) (by omega)
theorem aMH {n w r c B k:Nat} {T:Nat→Nat→Rat} (hT:Bdx n w B T) (hr:r<n) (hc:c<w) (hk:k<w):Bd (B+B) (aAO T r c k):=(hT r k hr hk).div (hT r c hr hc)
theorem aJA {n w r c i B:Nat} {T:Nat→Nat→Rat} (hT:Bdx n w B T) (hr:r<n) (hc:c<w) (hi:i<n) (hne:i≠r) (hB:B≤200000000) (hw:w≤100000) (K:Nat):∀(t k fu:Nat),k+t=w→t<fu→lR K (mx T n w) (c:Int) (mp (aAO T r c) w) (i:Int) fu (mp (pA T r c i) k) (k:Int)=some (mp (pA T r c i) w)
 |0,k,fu,hk,hf=>by
  obtain⟨fu',rfl,_⟩:=bD hf
  have e:k=w:=by omega
  subst e
  simp only [lR,bO,dF (show¬(k:Int)<(k:Int) by omega),bU]
 |t+1,k,fu,hk,hf=>by
  obtain⟨fu',rfl,_⟩:=bD hf
  have hkw:k<w:=by omega
  have ap:=apM (g:=pA T r c i) (i:=k) (by omega)
  have e:T i k-T i c*aAO T r c k=pA T r c i k:=by unfold pA aAO;rw [if_neg hne]
  have b:=aMH hT hr hc hkw
  have b2:=hT i c hi hc
  simp only [lR,bO,dT (show(k:Int)<(w:Int) by omega),cA,aDH (g:=T) (w:=w) hi,oB,eD (f:=T i) hkw,eD (f:=T i) hc,eD (f:=aAO T r c) hkw,pU b2 b (by omega) (by omega),zD (hT i k hi hkw) (b2.mul b) (by omega) (by omega),e,ap,oC (i:=k) (by omega)]
  exact aJA hT hr hc hi hne hB hw K t (k+1) fu' (by omega) (by omega)
theorem aJV {n w r c B:Nat} {T:Nat→Nat→Rat} (hT:Bdx n w B T) (hr:r<n) (hc:c<w) (hB:B≤200000000) (hw:w≤100000) (hn:n≤100000) {K:Nat} (hK:w<K):∀(t i fu:Nat),i+t=n→t<fu→gW K (mx T n w) (r:Int) (c:Int) (mp (aAO T r c) w) fu (mx (pA T r c) i w) (i:Int)=some (mx (pA T r c) n w)
 |0,i,fu,hk,hf=>by
  obtain⟨fu',rfl,_⟩:=bD hf
  have e:i=n:=by omega
  subst e
  simp only [gW,w9,dF (show¬(i:Int)<(i:Int) by omega),bU]
 |t+1,i,fu,hk,hf=>by
  obtain⟨fu',rfl,_⟩:=bD hf
  have hin:i<n:=by omega
  have ap:qR (mx (pA T r c) i w) [mp (pA T r c i) w]=some (mx (pA T r c) (i+1) w):=apM (g:=fun i=>mp (pA T r c i) w) (by omega)
  have ih:=aJV hT hr hc hB hw hn hK t (i+1) fu' (by omega) (by omega)
  by_cases e:i=r
  ·have e2:mp (aAO T r c) w=mp (pA T r c i) w:=cJ fun k _=>by unfold pA aAO;rw [if_pos e]
   simp only [gW,w9,dT (show(i:Int)<(n:Int) by omega),cA,qT (show(i:Int)=(r:Int) by omega)]
   rw [e2] at ih ⊢
   simp only [ap,oB,oC (i:=i) (by omega)]
   exact ih
  ·have h82:=aJA hT hr hc hin e hB hw K w 0 K (by omega) hK
   simp only [Int.natCast_zero,zG] at h82
   simp only [gW,w9,dT (show(i:Int)<(n:Int) by omega),cA,qF (show(i:Int)≠(r:Int) by omega),bU,h82,oB,xH,ap,oC (i:=i) (by omega)]
   exact ih
theorem aQv {n w r c B:Nat} {T:Nat→Nat→Rat} (hT:Bdx n w B T) (hr:r<n) (hc:c<w) (hB:B≤200000000) (hw:w≤100000) (hn:n≤100000) {K:Nat} (hK:w+n<K):vV K (mx T n w) (r:Int) (c:Int)=some (mx (pA T r c) n w):=by
 have e1:=aJ2 hT hr hc (by omega) hw K w 0 K (by omega) (by omega)
 have e2:=aJV hT hr hc hB hw hn (K:=K) (by omega) n 0 K (by omega) (by omega)
 have e3:mx (pA T r c) 0 w=[]:=rfl
 rw [e3] at e2
 simp only [Int.natCast_zero,zG] at e1 e2
 simp only [vV,e1,oB,xB,e2,xF]
theorem aTC {xs ys:List Rat} (h:xs.length=ys.length):cpL xs ys=ys:=by
 unfold cpL
 rw [h,Nat.min_self,List.take_length,←h,List.drop_length,List.append_nil]
theorem aGp {rs:List (List Rat)} {o p:Nat} {x:List Rat} (ho:o<rs.length):(rs.set o x).getD p []=if p=o then x else rs.getD p []:=by
 rw [List.getD_eq_getElem?_getD,List.getD_eq_getElem?_getD,List.getElem?_set]
 by_cases h:o=p
 ·subst h;rw [if_pos rfl,if_pos ho,if_pos rfl];rfl
 ·rw [if_neg h,if_neg (fun e=>h e.symm)]
theorem aBS.set {n w:Nat} {rs:List (List Rat)} {od:Nat→Nat} {T:Nat→Nat→Rat} (h:aBS n w rs od T) {i:Nat} (hi:i<n) (f:Nat→Rat):aBS n w (rs.set (od i) (mp f w)) od (iD T i f):=
 ⟨fun j hj=>by rw [List.length_set];exact h.lt j hj,h.inj,fun j hj=>by
  rw [aGp (h.lt i hi)]
  by_cases e:j=i
  ·subst e;rw [if_pos rfl,bA]
  ·rw [if_neg (fun e2=>e (h.inj j i hj hi e2)),cG e]
   exact h.row j hj⟩
theorem aBS.congr {n w:Nat} {rs:List (List Rat)} {od:Nat→Nat} {T T':Nat→Nat→Rat} (h:aBS n w rs od T) (e:∀i k,i<n→k<w→T i k=T' i k):aBS n w rs od T':=
 ⟨h.lt,h.inj,fun i hi=>by rw [h.row i hi];exact cJ fun k hk=>e i k hi hk⟩
theorem aKn {w v27 B:Nat} {a5:List (List Rat)} {x22:List Rat} {g:Nat→Rat} {p:Rat} (hx:cpL x22 (a5.getD v27 [])=mp g w) (hg:∀k,k<w→Bd B (g k)) (hp:Bd B p) (hB:B≤1073741824) (hw:w≤100000) (K:Nat):∀(t k fu:Nat),k+t=w→t<fu→dJ K a5 x22 v27 p fu (mp (fun j=>if j<k then g j/p else g j) w) (k:Int)=some (mp (fun j=>g j/p) w)
 |0,k,fu,hk,hf=>by
  obtain⟨fu',rfl,_⟩:=bD hf
  have e:k=w:=by omega
  subst e
  simp only [dJ,hx,bO,dF (show¬(k:Int)<(k:Int) by omega),bU]
  exact congrArg some (cJ fun j hj=>if_pos hj)
 |t+1,k,fu,hk,hf=>by
  obtain⟨fu',rfl,_⟩:=bD hf
  have hkw:k<w:=by omega
  have e1:(fun j=>if j<k then g j/p else g j) k=g k:=if_neg (by omega)
  have e2:mp (iD (fun j=>if j<k then g j/p else g j) k (g k/p)) w=mp (fun j=>if j<k+1 then g j/p else g j) w:=cJ fun j _=>by
   by_cases e:j=k
   ·subst e;rw [bA,if_pos (by omega)]
   ·rw [cG e]
    by_cases hlt:j<k
    ·rw [if_pos hlt,if_pos (by omega)]
    ·rw [if_neg hlt,if_neg (by omega)]
  simp only [dJ,hx,bO,dT (show(k:Int)<(w:Int) by omega),cA,eD (f:=fun j=>if j<k then g j/p else g j) hkw,e1,oB,aB5 (hg k hkw) hp hB hB,t8 (f:=fun j=>if j<k then g j/p else g j) hkw,e2,oC (i:=k) (by omega)]
  exact aKn hx hg hp hB hw K t (k+1) fu' (by omega) (by omega)
theorem aHe {w o B:Nat} {a5 x66:List (List Rat)} {g q:Nat→Rat} {x:Rat} (ho:o<x66.length) (hne:a5.length≠o) (h66:x66.getD o []=mp g w) (hq:x66.getD a5.length []=mp q w) (hg:∀k,k<w→Bd B (g k)) (hqb:∀k,k<w→Bd (B+B) (q k)) (hx:Bd B x) (hB:B≤200000000) (hw:w≤100000) (K:Nat):∀(t k fu:Nat),k+t=w→t<fu→dG K a5 x66 o x fu (x66.set o (mp (fun j=>if j<k then g j-x*q j else g j) w)) (k:Int)=some (x66.set o (mp (fun j=>g j-x*q j) w))
 |0,k,fu,hk,hf=>by
  obtain⟨fu',rfl,_⟩:=bD hf
  have e:k=w:=by omega
  subst e
  simp only [dG,h66,bO,dF (show¬(k:Int)<(k:Int) by omega),bU]
  exact congrArg (fun z=>some (x66.set o z)) (cJ fun j hj=>if_pos hj)
 |t+1,k,fu,hk,hf=>by
  obtain⟨fu',rfl,_⟩:=bD hf
  have hkw:k<w:=by omega
  have e1:(fun j=>if j<k then g j-x*q j else g j) k=g k:=if_neg (by omega)
  have e2:mp (iD (fun j=>if j<k then g j-x*q j else g j) k (g k-x*q k)) w=mp (fun j=>if j<k+1 then g j-x*q j else g j) w:=cJ fun j _=>by
   by_cases e:j=k
   ·subst e;rw [bA,if_pos (by omega)]
   ·rw [cG e]
    by_cases hlt:j<k
    ·rw [if_pos hlt,if_pos (by omega)]
    ·rw [if_neg hlt,if_neg (by omega)]
  have r1:(x66.set o (mp (fun j=>if j<k then g j-x*q j else g j) w)).getD o []=mp (fun j=>if j<k then g j-x*q j else g j) w:=by rw [aGp ho,if_pos rfl]
  have r2:(x66.set o (mp (fun j=>if j<k then g j-x*q j else g j) w)).getD a5.length []=mp q w:=by rw [aGp ho,if_neg hne];exact hq
  simp only [dG,h66,bO,dT (show(k:Int)<(w:Int) by omega),cA,r1,r2,eD (f:=fun j=>if j<k then g j-x*q j else g j) hkw,eD (f:=q) hkw,e1,oB,pU hx (hqb k hkw) (by omega) (by omega),zD (hg k hkw) (hx.mul (hqb k hkw)) (by omega) (by omega),t8 (f:=fun j=>if j<k then g j-x*q j else g j) hkw,e2,List.set_set,oC (i:=k) (by omega)]
  exact aHe ho hne h66 hq hg hqb hx hB hw K t (k+1) fu' (by omega) (by omega)
def pst (T:Nat→Nat→Rat) (r c t i k:Nat):Rat:=if i<t∨i=r then pA T r c i k else T i k
theorem aPQ {T:Nat→Nat→Rat} {r c t:Nat}:∀i k,(iD (pst T r c t) t (pA T r c t)) i k=pst T r c (t+1) i k:=fun i k=>by
 by_cases e:i=t
 ·subst e;rw [bA];unfold pst;rw [if_pos (.inl (by omega))]
 ·rw [cG e];unfold pst
  by_cases h:i<t∨i=r
  ·rw [if_pos h,if_pos (by omega)]
  ·rw [if_neg h,if_neg (by omega)]
theorem aJX {T:Nat→Nat→Rat} {r c t:Nat} (h:t=r∨T t c=0):∀i k,pst T r c t i k=pst T r c (t+1) i k:=fun i k=>by
 unfold pst
 by_cases h1:i<t∨i=r
 ·rw [if_pos h1,if_pos (by omega)]
 ·rw [if_neg h1]
  by_cases e:i=t
  ·subst e
   have h2:T i c=0:=by rcases h with h|h;exact absurd (.inr h) h1;exact h
   rw [if_pos (.inl (by omega))]
   unfold pA
   rw [if_neg (fun e=>h1 (.inr e)),h2,Rat.zero_mul,Rat.sub_eq_add_neg,Rat.neg_zero,Rat.add_zero]
  ·rw [if_neg (by omega)]
theorem aEh {n w r c B:Nat} {a5:List (List Rat)} {od:Nat→Nat} {T:Nat→Nat→Rat} (hT:Bdx n w B T) (hr:r<n) (hc:c<w) (hor:od r=a5.length) (hB:B≤200000000) (hw:w≤100000) (hn:n≤100000) {K:Nat} (hK:w<K):∀(t i fu:Nat) (rs:List (List Rat)),i+t=n→t<fu→aBS n w rs od (pst T r c i)→∃rs',bJ K (r:Int) (c:Int) a5 (mp od n) fu rs (i:Int)=some rs'∧aBS n w rs' od (pA T r c)
 |0,i,fu,rs,hk,hf,h=>by
  obtain⟨fu',rfl,_⟩:=bD hf
  have e:i=n:=by omega
  subst e
  refine⟨rs,by simp only [bJ,bO,dF (show¬(i:Int)<(i:Int) by omega),bU],h.congr fun j k hj _=>if_pos (.inl hj)⟩
 |t+1,i,fu,rs,hk,hf,h=>by
  obtain⟨fu',rfl,_⟩:=bD hf
  have hin:i<n:=by omega
  have hrow:=h.row i hin
  by_cases e:i=r
  ·obtain⟨rs',g1,g2⟩:=aEh hT hr hc hor hB hw hn hK t (i+1) fu' rs (by omega) (by omega) (h.congr fun j k _ _=>aJX (.inl e) j k)
   refine⟨rs',?_,g2⟩
   simp only [bJ,bO,dT (show(i:Int)<(n:Int) by omega),cA,eD (f:=od) hin,oB,hrow,eD (f:=pst T r c i i) hc,qT (show(i:Int)=(r:Int) by omega),oC (i:=i) (by omega)]
   exact g1
  ·have ei:pst T r c i i=T i:=by funext k;unfold pst;rw [if_neg (by omega)]
   rw [ei] at hrow
   by_cases hz:T i c=0
   ·obtain⟨rs',g1,g2⟩:=aEh hT hr hc hor hB hw hn hK t (i+1) fu' rs (by omega) (by omega) (h.congr fun j k _ _=>aJX (.inr hz) j k)
    refine⟨rs',?_,g2⟩
    simp only [bJ,bO,dT (show(i:Int)<(n:Int) by omega),cA,eD (f:=od) hin,oB,hrow,eD (f:=T i) hc,qF (show(i:Int)≠(r:Int) by omega),bU,mF (hT i c hin hc) (by omega),qT (aEP.2 hz),oC (i:=i) (by omega)]
    exact g1
   ·have hne:a5.length≠od i:=fun h2=>e (h.inj i r hin hr (by rw [←h2,hor]))
    have hq:rs.getD a5.length []=mp (aAO T r c) w:=by
     rw [←hor,h.row r hr]
     exact cJ fun k _=>by unfold pst pA aAO;rw [if_pos (.inr rfl),if_pos rfl]
    have h112:=aHe (h.lt i hin) hne hrow hq (fun k hk=>hT i k hin hk) (fun k hk=>aMH hT hr hc hk) (hT i c hin hc) hB hw K w 0 K (by omega) hK
    have e0:rs.set (od i) (mp (fun j=>if j<0 then T i j-T i c*aAO T r c j else T i j) w)=rs:=by
     have e9:mp (fun j=>if j<0 then T i j-T i c*aAO T r c j else T i j) w=rs.getD (od i) []:=by
      rw [hrow];exact cJ fun j _=>if_neg (by omega)
     rw [e9,List.getD_eq_getElem?_getD,List.getElem?_eq_getElem (h.lt i hin),Option.getD_some,List.set_getElem_self]
    rw [e0] at h112
    simp only [Int.natCast_zero] at h112
    have e1:mp (fun j=>T i j-T i c*aAO T r c j) w=mp (pA T r c i) w:=cJ fun j _=>by unfold pA aAO;rw [if_neg e]
    rw [e1] at h112
    obtain⟨rs',g1,g2⟩:=aEh hT hr hc hor hB hw hn hK t (i+1) fu' _ (by omega) (by omega) ((h.set hin (pA T r c i)).congr fun j k _ _=>aPQ j k)
    refine⟨rs',?_,g2⟩
    simp only [bJ,bO,dT (show(i:Int)<(n:Int) by omega),cA,eD (f:=od) hin,oB,hrow,eD (f:=T i) hc,qF (show(i:Int)≠(r:Int) by omega),bU,mF (hT i c hin hc) (by omega),qF (fun h2=>hz (aEP.1 h2)),h112,iJ,oC (i:=i) (by omega)]
    exact g1
theorem aQQ {n w r c B:Nat} {rs:List (List Rat)} {od b:Nat→Nat} {T:Nat→Nat→Rat} {a2:Int} (h:aBS n w rs od T) (hT:Bdx n w B T) (hr:r<n) (hc:c<w) (hB:B≤200000000) (hw:w≤100000) (hn:n≤100000) {K:Nat} (hK:w+n<K):∃rs' od',iG K (r:Int) (c:Int) a2 (mp od n) (mp (fun i=>((b i:Nat):Int)) n) rs=some (((b r:Nat):Int),mp od' n,mp (fun i=>((iD b r c i:Nat):Int)) n,rs')∧aBS n w rs' od' (pA T r c):=by
 have hrow:=h.row r hr
 have hcp:cpL (mp (fun _=>(0:Rat)) w) (rs.getD (od r) [])=mp (T r) w:=by rw [hrow];exact aTC (by rw [bO,bO])
 have h53:=aKn hcp (fun k hk=>hT r k hr hk) (hT r c hr hc) (by omega) hw K w 0 K (by omega) (by omega)
 have e0:mp (fun j=>if j<0 then T r j/T r c else T r j) w=mp (T r) w:=cJ fun j _=>if_neg (by omega)
 rw [e0] at h53
 have h0:aBS n w (rs++[mp (aAO T r c) w]) (iD od r rs.length) (pst T r c 0):=by
  refine⟨fun i hi=>?_,fun i j hi hj e=>?_,fun i hi=>?_⟩
  ·by_cases e:i=r
   ·rw [e,bA];simp
   ·rw [cG e];have:=h.lt i hi;simp;omega
  ·by_cases e1:i=r
   ·by_cases e2:j=r
    ·rw [e1,e2]
    ·rw [e1,bA,cG e2] at e;have:=h.lt j hj;omega
   ·by_cases e2:j=r
    ·rw [e2,bA,cG e1] at e;have:=h.lt i hi;omega
    ·rw [cG e1,cG e2] at e;exact h.inj i j hi hj e
  ·by_cases e:i=r
   ·rw [e,bA,List.getD_eq_getElem?_getD,List.getElem?_append_right (Nat.le_refl _),Nat.sub_self]
    show mp (aAO T r c) w=_
    exact cJ fun k _=>by unfold pst pA aAO;rw [if_pos (.inr rfl),if_pos rfl]
   ·have hl:=h.lt i hi
    rw [cG e,List.getD_eq_getElem?_getD,List.getElem?_append_left hl,←List.getD_eq_getElem?_getD,h.row i hi]
    exact cJ fun k _=>by unfold pst;rw [if_neg (by omega)]
 obtain⟨rs',g1,g2⟩:=aEh (a5:=rs) hT hr hc bA hB hw hn (K:=K) (by omega) n 0 K _ (by omega) (by omega) h0
 simp only [Int.natCast_zero] at h53 g1
 have e3:mp (fun j=>T r j/T r c) w=mp (aAO T r c) w:=rfl
 rw [e3] at h53
 have e4:mp (iD (fun i=>((b i:Nat):Int)) r (c:Int)) n=mp (fun i=>((iD b r c i:Nat):Int)) n:=cJ fun i _=>by
  by_cases e:i=r
  ·rw [e,bA,bA]
  ·rw [cG e,cG e]
 refine⟨rs',iD od r rs.length,?_,g2⟩
 simp only [iG,eD (f:=od) hr,oB,hrow,bO,aDi (z:=(0:Rat)) (n:=w) (by omega)]
 rw [←hrow,hcp]
 simp only [eD (f:=T r) hc,oB,h53,iQ,eD (f:=od) hr,t8 (f:=od) hr,g1,iR,eD (f:=fun i=>((b i:Nat):Int)) hr,t8 (f:=fun i=>((b i:Nat):Int)) hr,e4]
end Go.Proofs.YtldhbdgfpjoamaaGreat
set_option linter.unusedVariables false
namespace Go.Proofs.YtldhbdgfpjoamaaGreat
def enc (s:Option Nat):Int:=match s with|none=>-1|some r=>(r:Int)
def sel (T:Nat→Nat→Rat) (n c:Nat):Nat→Nat→Option Nat→Option Nat
 |0,_,s=>s
 |t+1,i,s=>bif decide (0<(T i c).num.sign) then(match s with
  |none=>sel T n c t (i+1) (some i)
  |some r=>bif les T n i (T i c) r (T r c) then sel T n c t (i+1) (some i) else sel T n c t (i+1) (some r)) else sel T n c t (i+1) s
theorem aAD {T:Nat→Nat→Rat} {n c:Nat}:∀t i s r,(∀q,s=some q→q<i∧0<(T q c).num.sign)→sel T n c t i s=some r→r<i+t∧0<(T r c).num.sign
 |0,i,s,r,h,e=>by have:=h r e;exact⟨by omega,this.2⟩
 |t+1,i,s,r,h,e=>by
  unfold sel at e
  by_cases hp:0<(T i c).num.sign
  ·rw [decide_eq_true hp,cA] at e
   have hi:∀q,some i=some q→q<i+1∧0<(T q c).num.sign:=fun q hq=>by cases hq;exact⟨by omega,hp⟩
   cases s with
   |none=>have:=aAD t (i+1) (some i) r hi e;exact⟨by omega,this.2⟩
   |some p=>
    have hs:∀q,some p=some q→q<i+1∧0<(T q c).num.sign:=fun q hq=>by have:=h q hq;exact⟨by omega,this.2⟩
    simp only at e
    cases hl:les T n i (T i c) p (T p c)
    ·rw [hl,bU] at e;have:=aAD t (i+1) (some p) r hs e;exact⟨by omega,this.2⟩
    ·rw [hl,cA] at e;have:=aAD t (i+1) (some i) r hi e;exact⟨by omega,this.2⟩
  ·rw [decide_eq_false hp,bU] at e
   have:=aAD t (i+1) s r (fun q hq=>by have:=h q hq;exact⟨by omega,this.2⟩) e
   exact⟨by omega,this.2⟩
theorem aHX {n c B:Nat} {rs:List (List Rat)} {od:Nat→Nat} {T:Nat→Nat→Rat} {v6:Int×(List Nat)×(List Int)×(List (List Rat))} {x:Int} {bs:List Int} (h6:v6.1=(n:Int)) (h:aBS n (2*n+2) rs od T) (hT:Bdx n (2*n+2) B T) (hc:c<2*n+2) (hB:B≤200000000) (hn:n≤1000) {K:Nat} (hK:2000≤K):∀(t i fu:Nat) (s:Option Nat),i+t=n→t<fu→(∀q,s=some q→q<i)→dR K v6 (x,mp od n,bs,rs) (c:Int) fu (enc s) (i:Int)=some (enc (sel T n c t i s))
 |0,i,fu,s,hi,hf,hs=>by
  obtain⟨fu',rfl,_⟩:=bD hf
  simp only [dR,bO,dF (show¬(i:Int)<(n:Int) by omega),bU,sel]
 |t+1,i,fu,s,hi,hf,hs=>by
  obtain⟨fu',rfl,_⟩:=bD hf
  have hin:i<n:=by omega
  have hb:=hT i c hin hc
  have ih:=fun s hs=>aHX (x:=x) (bs:=bs) h6 h hT hc hB hn hK t (i+1) fu' s (by omega) (by omega) hs
  simp only [dR,bO,dT (show(i:Int)<(n:Int) by omega),cA,eD (f:=od) hin,oB,h.row i hin,eD (f:=T i) hc,mF hb (by omega),sel]
  by_cases hp:0<(T i c).num.sign
  ·simp only [dT hp,cA]
   cases s with
   |none=>
    simp only [enc,dT (show(-1:Int)<0 by omega),cA,oC (i:=i) (by omega),oB]
    exact ih (some i) (fun q hq=>by cases hq;omega)
   |some p=>
    have hpn:p<n:=by have:=hs p rfl;omega
    have hl:=aJp (a6:=bs) h hT hin hpn hb (hT p c hpn hc) (by omega) hn hK
    simp only [enc,dF (show¬(p:Int)<0 by omega),bU,eD (f:=od) hpn,h.row p hpn,eD (f:=T p) hc,oB,h6,hl]
    cases les T n i (T i c) p (T p c)
    ·simp only [bU,oC (i:=i) (by omega),oB]
     exact ih (some p) (fun q hq=>by have:=hs q hq;omega)
    ·simp only [cA,oC (i:=i) (by omega),oB]
     exact ih (some i) (fun q hq=>by cases hq;omega)
  ·simp only [dF hp,bU,oC (i:=i) (by omega),oB]
   exact ih s (fun q hq=>by have:=hs q hq;omega)
theorem aG8 {n c B:Nat} {T:Nat→Nat→Rat} {a1:List Rat} (h1:a1.length=n) (hT:Bdx n (2*n+2) B T) (hc:c<2*n+2) (hB:B≤200000000) (hn:n≤1000) {K:Nat} (hK:2000≤K):∀(t i fu:Nat) (s:Option Nat),i+t=n→t<fu→(∀q,s=some q→q<i)→eP K a1 (mx T n (2*n+2)) (c:Int) fu (enc s) (i:Int)=some (enc (sel T n c t i s))
 |0,i,fu,s,hi,hf,hs=>by
  obtain⟨fu',rfl,_⟩:=bD hf
  simp only [eP,h1,dF (show¬(i:Int)<(n:Int) by omega),bU,sel]
 |t+1,i,fu,s,hi,hf,hs=>by
  obtain⟨fu',rfl,_⟩:=bD hf
  have hin:i<n:=by omega
  have hb:=hT i c hin hc
  have ih:=fun s hs=>aG8 h1 hT hc hB hn hK t (i+1) fu' s (by omega) (by omega) hs
  simp only [eP,h1,dT (show(i:Int)<(n:Int) by omega),cA,aDH (g:=T) (w:=2*n+2) hin,oB,eD (f:=T i) hc,mF hb (by omega),sel]
  by_cases hp:0<(T i c).num.sign
  ·simp only [dT hp,dF (show¬(T i c).num.sign≤0 by omega),cA,bU]
   cases s with
   |none=>
    simp only [enc,dT (show(-1:Int)<0 by omega),cA,oC (i:=i) (by omega),oB]
    exact ih (some i) (fun q hq=>by cases hq;omega)
   |some p=>
    have hpn:p<n:=by have:=hs p rfl;omega
    have hbp:=hT p c hpn hc
    have hl:=aHK hT hin hpn hb hbp (by omega) hn hK
    simp only [enc,dF (show¬(p:Int)<0 by omega),bU,aIh hT hin hb (by omega) (by omega) hn hK,aDH (g:=T) (w:=2*n+2) hpn,eD (f:=T p) hc,oB,aIh hT hpn hbp (by omega) (by omega) hn hK,hl]
    cases les T n i (T i c) p (T p c)
    ·simp only [bU,oC (i:=i) (by omega),oB]
     exact ih (some p) (fun q hq=>by have:=hs q hq;omega)
    ·simp only [cA,oC (i:=i) (by omega),oB]
     exact ih (some i) (fun q hq=>by cases hq;omega)
  ·simp only [dF hp,dT (show(T i c).num.sign≤0 by omega),cA,bU,oC (i:=i) (by omega),oB]
   exact ih s (fun q hq=>by have:=hs q hq;omega)
def swv (T:Nat→Nat→Rat) (b:Nat→Nat) (n:Nat):Nat→Nat→Rat
 |0=>z0
 |i+1=>if b i<n then iD (swv T b n i) (b i) (T i (2*n+1)) else swv T b n i
def szv (T:Nat→Nat→Rat) (b:Nat→Nat) (n:Nat):Nat→Nat→Rat
 |0=>z0
 |i+1=>if b i<n then szv T b n i else if b i<2*n then iD (szv T b n i) (b i-n) (T i (2*n+1)) else szv T b n i
theorem aJw {n:Nat} {rs:List (List Rat)} {od b:Nat→Nat} {T:Nat→Nat→Rat} (h:aBS n (2*n+2) rs od T) (hn:n≤1000) (K:Nat):∀(t i fu:Nat),i+t=n→t<fu→bP K (n:Int) (mp od n) (mp (fun i=>((b i:Nat):Int)) n) rs fu (mp (swv T b n i) n) (mp (szv T b n i) n) (i:Int)=some (mp (swv T b n n) n,mp (szv T b n n) n)
 |0,i,fu,hi,hf=>by
  obtain⟨fu',rfl,_⟩:=bD hf
  have e:i=n:=by omega
  subst e
  simp only [bP,bO,dF (show¬(i:Int)<(i:Int) by omega),bU]
 |t+1,i,fu,hi,hf=>by
  obtain⟨fu',rfl,_⟩:=bD hf
  have hin:i<n:=by omega
  have ih:=aJw (b:=b) h hn K t (i+1) fu' (by omega) (by omega)
  have c1:aT (2*(n:Int))=some (2*(n:Int)):=k5 (by omega)
  have c2:aT (2*(n:Int)+1)=some ((2*n+1:Nat):Int):=by rw [k5 (by omega)];congr 1
  simp only [bP,bO,dT (show(i:Int)<(n:Int) by omega),cA,eD (f:=fun i=>((b i:Nat):Int)) hin,eD (f:=od) hin,oB,c1,c2,h.row i hin,eD (f:=T i) (n:=2*n+2) (i:=2*n+1) (by omega)]
  by_cases h1:b i<n
  ·have e1:swv T b n (i+1)=iD (swv T b n i) (b i) (T i (2*n+1)):=if_pos h1
   have e2:szv T b n (i+1)=szv T b n i:=if_pos h1
   rw [e1,e2] at ih
   simp only [dT (show((b i:Nat):Int)<(n:Int) by omega),cA,eD (f:=swv T b n i) h1,t8 (f:=swv T b n i) h1,oB,oC (i:=i) (by omega)]
   exact ih
  ·have e1:swv T b n (i+1)=swv T b n i:=if_neg h1
   by_cases h2:b i<2*n
   ·have e2:szv T b n (i+1)=iD (szv T b n i) (b i-n) (T i (2*n+1)):=by
     show(if b i<n then _ else _)=_
     rw [if_neg h1,if_pos h2]
    have c3:aT (((b i:Nat):Int)-(n:Int))=some ((b i-n:Nat):Int):=by rw [show((b i:Nat):Int)-(n:Int)=((b i-n:Nat):Int) by omega,k5 (by omega)]
    rw [e1,e2] at ih
    simp only [dF (show¬((b i:Nat):Int)<(n:Int) by omega),bU,dT (show((b i:Nat):Int)<2*(n:Int) by omega),cA,c3,oB,eD (f:=szv T b n i) (n:=n) (i:=b i-n) (by omega),t8 (f:=szv T b n i) (n:=n) (i:=b i-n) (by omega),oC (i:=i) (by omega)]
    exact ih
   ·have e2:szv T b n (i+1)=szv T b n i:=by
     show(if b i<n then _ else _)=_
     rw [if_neg h1,if_neg h2]
    rw [e1,e2] at ih
    simp only [dF (show¬((b i:Nat):Int)<(n:Int) by omega),bU,dF (show¬((b i:Nat):Int)<2*(n:Int) by omega),oC (i:=i) (by omega),oB]
    exact ih
theorem aMg {n:Nat} {rs:List (List Rat)} {od b:Nat→Nat} {T:Nat→Nat→Rat} (h:aBS n (2*n+2) rs od T) (hn:n≤1000) {K:Nat} (hK:2000≤K):eU K (n:Int) (mp od n) (mp (fun i=>((b i:Nat):Int)) n) rs=some ⟨mp (szv T b n n) n,mp (swv T b n n) n,0⟩:=by
 have:=aJw (b:=b) h hn K n 0 K (by omega) (by omega)
 simp only [Int.natCast_zero] at this
 have e:mp (fun _=>(0:Rat)) n=mp (swv T b n 0) n:=rfl
 have e2:mp (swv T b n 0) n=mp (szv T b n 0) n:=rfl
 simp only [eU,aDi (z:=(0:Rat)) (n:=n) (by omega),oB,e]
 rw [show bP K (n:Int) (mp od n) (mp (fun i=>((b i:Nat):Int)) n) rs K (mp (swv T b n 0) n) (mp (swv T b n 0) n) 0=_ from this]
 rfl
theorem aHE {n:Nat} {b:Nat→Nat} {T:Nat→Nat→Rat} {a1:List Rat} (h1:a1.length=n) (hb:∀i,i<n→b i<2*n) (hn:n≤1000) (K:Nat):∀(t i fu:Nat),i+t=n→t<fu→f9 K a1 (mx T n (2*n+2)) (mp (fun i=>((b i:Nat):Int)) n) fu (mp (swv T b n i) n) (mp (szv T b n i) n) (i:Int)=some (mp (swv T b n n) n,mp (szv T b n n) n)
 |0,i,fu,hi,hf=>by
  obtain⟨fu',rfl,_⟩:=bD hf
  have e:i=n:=by omega
  subst e
  simp only [f9,h1,dF (show¬(i:Int)<(i:Int) by omega),bU]
 |t+1,i,fu,hi,hf=>by
  obtain⟨fu',rfl,_⟩:=bD hf
  have hin:i<n:=by omega
  have ih:=aHE (T:=T) h1 hb hn K t (i+1) fu' (by omega) (by omega)
  have c1:aT (2*(n:Int))=some (2*(n:Int)):=k5 (by omega)
  have c2:aT (2*(n:Int)+1)=some ((2*n+1:Nat):Int):=by rw [k5 (by omega)];congr 1
  have h2:=hb i hin
  simp only [f9,h1,dT (show(i:Int)<(n:Int) by omega),cA,eD (f:=fun i=>((b i:Nat):Int)) hin,oB]
  by_cases h3:b i<n
  ·have e1:swv T b n (i+1)=iD (swv T b n i) (b i) (T i (2*n+1)):=if_pos h3
   have e2:szv T b n (i+1)=szv T b n i:=if_pos h3
   rw [e1,e2] at ih
   simp only [dT (show((b i:Nat):Int)<(n:Int) by omega),cA,aDH (g:=T) (w:=2*n+2) hin,c1,c2,oB,eD (f:=T i) (n:=2*n+2) (i:=2*n+1) (by omega),eD (f:=swv T b n i) h3,t8 (f:=swv T b n i) h3,oC (i:=i) (by omega)]
   exact ih
  ·have e1:swv T b n (i+1)=swv T b n i:=if_neg h3
   have e2:szv T b n (i+1)=iD (szv T b n i) (b i-n) (T i (2*n+1)):=by
    show(if b i<n then _ else _)=_
    rw [if_neg h3,if_pos h2]
   have c3:aT (((b i:Nat):Int)-(n:Int))=some ((b i-n:Nat):Int):=by rw [show((b i:Nat):Int)-(n:Int)=((b i-n:Nat):Int) by omega,k5 (by omega)]
   rw [e1,e2] at ih
   simp only [dF (show¬((b i:Nat):Int)<(n:Int) by omega),bU,c3,aDH (g:=T) (w:=2*n+2) hin,c1,c2,oB,eD (f:=T i) (n:=2*n+2) (i:=2*n+1) (by omega),eD (f:=szv T b n i) (n:=n) (i:=b i-n) (by omega),t8 (f:=szv T b n i) (n:=n) (i:=b i-n) (by omega),oC (i:=i) (by omega)]
   exact ih
end Go.Proofs.YtldhbdgfpjoamaaGreat
set_option linter.unusedVariables false
namespace Go.Proofs.YtldhbdgfpjoamaaGreat
/-- The run from a tableau on. -/
def lem (n most:Nat):Nat→(Nat→Nat→Rat)→(Nat→Nat)→Nat→Nat→Nat→aW×Int
 |0,_,_,_,_,_=>(⟨[],[],0⟩,16)
 |f+1,T,b,r,c,cnt=>
  if cnt=most then(⟨[],[],0⟩,16)
  else if b r=2*n then(⟨mp (szv (pA T r c) (iD b r c) n n) n,mp (swv (pA T r c) (iD b r c) n n) n,((cnt+1:Nat):Int)⟩,0)
  else match sel (pA T r c) n (if b r<n then b r+n else b r-n) n 0 none with
   |none=>(⟨[],[],0⟩,15)
   |some r'=>lem n most f (pA T r c) (iD b r c) r' (if b r<n then b r+n else b r-n) (cnt+1)
structure LI (n:Nat) (Z T:Nat→Nat→Rat) (b:Nat→Nat) (r c:Nat):Prop where
 ti:TI n (2*n+2) Z T b
 hr:r<n
 hc:c≤2*n
 hp:T r c≠0
 hb:∀j,j<n→b j≤2*n
 fst:c=2*n→b r≠2*n
theorem TI.inj {n w:Nat} {Z T:Nat→Nat→Rat} {b:Nat→Nat} (h:TI n w Z T b) {i j:Nat} (hi:i<n) (hj:j<n) (e:b i=b j):i=j:=by
 by_cases h1:i=j
 ·exact h1
 ·have a:=h.un i i hi hi
  have c:=h.un i j hi hj
  rw [if_pos rfl,e] at a
  rw [if_neg h1,a] at c
  exact absurd c (by decide)
theorem aLl {n x:Nat} (hx:x≤2*n) (hne:x≠2*n):(if x<n then x+n else x-n)<2*n:=by split<;>omega
theorem LI.next {n:Nat} {Z T:Nat→Nat→Rat} {b:Nat→Nat} {r c r':Nat} (h:LI n Z T b r c) (hne:b r≠2*n) (hs:sel (pA T r c) n (if b r<n then b r+n else b r-n) n 0 none=some r'):LI n Z (pA T r c) (iD b r c) r' (if b r<n then b r+n else b r-n):=by
 have hlt:=aLl (h.hb r h.hr) hne
 obtain⟨s1,s2⟩:=aAD n 0 none r' (fun q hq=>by cases hq) hs
 refine⟨h.ti.pivot h.hr (by have:=h.hc;omega) h.hp,by omega,by omega,fun e=>?_,fun j hj=>?_,fun e=>by omega⟩
 ·rw [e] at s2;exact absurd s2 (by decide)
 ·by_cases e:j=r
  ·rw [e,bA];exact h.hc
  ·rw [cG e];exact h.hb j hj
def Sm (n B:Nat) (Z:Nat→Nat→Rat):Prop:=∀T b,TI n (2*n+2) Z T b→Bdx n (2*n+2) B T
theorem aVh {n most B:Nat} {Z:Nat→Nat→Rat} {v6:Int×(List Nat)×(List Int)×(List (List Rat))} (h6:v6.1=(n:Int)) (hZ:Sm n B Z) (hB:B≤200000000) (hn:n≤1000) (hm:most≤100000) {K:Nat} (hK:5000≤K):∀(f cnt fu:Nat) (rs:List (List Rat)) (od:Nat→Nat) (T:Nat→Nat→Rat) (b:Nat→Nat) (r c:Nat),cnt+f=most+1→0<f→f≤fu→aBS n (2*n+2) rs od T→LI n Z T b r c→
  dL K (most:Int) v6 fu (mp od n) (mp (fun i=>((b i:Nat):Int)) n) rs (r:Int) (c:Int) (cnt:Int)=some (.ret (lem n most f T b r c cnt))
 |0,cnt,fu,rs,od,T,b,r,c,hc,h0,hf,hR,h=>by omega
 |f+1,cnt,fu,rs,od,T,b,r,c,hc,h0,hf,hR,h=>by
  obtain⟨fu',rfl,hf'⟩:=bD (show f<fu by omega)
  unfold lem
  by_cases e:cnt=most
  ·rw [if_pos e]
   simp only [dL,qT (show(cnt:Int)=(most:Int) by omega),cA]
  ·rw [if_neg e]
   have hcw:=h.hc
   have hT:=hZ T b h.ti
   have ti':=h.ti.pivot h.hr (show c<2*n+2 by omega) h.hp
   have hT':=hZ _ _ ti'
   obtain⟨rs',od',p1,p2⟩:=aQQ (b:=b) (a2:=v6.1) hR hT h.hr (show c<2*n+2 by omega) hB (by omega) (by omega) (K:=K) (by omega)
   have hbr:=h.hb r h.hr
   have c1:aT (2*(n:Int))=some (2*(n:Int)):=k5 (by omega)
   rw [h6] at p1
   simp only [dL,qF (show(cnt:Int)≠(most:Int) by omega),bU,h6,p1,oB,c1]
   by_cases e2:b r=2*n
   ·rw [if_pos e2]
    simp only [qT (show((b r:Nat):Int)=2*(n:Int) by omega),cA,aMg (b:=iD b r c) p2 hn (show 2000≤K by omega),oB,oC (i:=cnt) (by omega)]
   ·rw [if_neg e2]
    have hlt:=aLl hbr e2
    have c2:aT (((b r:Nat):Int)+(n:Int))=some ((b r+n:Nat):Int):=by rw [k5 (by omega)];rfl
    have hsel:=aHX (v6:=v6) (x:=((b r:Nat):Int)) (bs:=mp (fun i=>((iD b r c i:Nat):Int)) n) h6 p2 hT' (show(if b r<n then b r+n else b r-n)<2*n+2 by omega) hB hn (show 2000≤K by omega) n 0 K none (by omega) (by omega) (fun q hq=>by cases hq)
    simp only [Int.natCast_zero,show enc none=(-1:Int) from rfl] at hsel
    have key:jI K v6 (cnt:Int) (((b r:Nat):Int),mp od' n,mp (fun i=>((iD b r c i:Nat):Int)) n,rs') (dL K (most:Int) v6 fu') (((if b r<n then b r+n else b r-n:Nat)):Int)=some (.ret (match sel (pA T r c) n (if b r<n then b r+n else b r-n) n 0 none with|none=>(⟨[],[],0⟩,15)|some r'=>lem n most f (pA T r c) (iD b r c) r' (if b r<n then b r+n else b r-n) (cnt+1))):=by
     simp only [jI,hsel,oB,o5]
     cases hs:sel (pA T r c) n (if b r<n then b r+n else b r-n) n 0 none with
     |none=>rfl
     |some r'=>
      simp only [enc,dF (show¬(r':Int)<0 by omega),bU,oC (i:=cnt) (by omega),oB]
      exact aVh h6 hZ hB hn hm hK f (cnt+1) fu' rs' od' _ _ r' _ (by omega) (by omega) (by omega) p2 (h.next e2 hs)
    simp only [qF (show((b r:Nat):Int)≠2*(n:Int) by omega),bU,c2,oB]
    by_cases h3:b r<n
    ·rw [if_pos h3] at key
     simp only [dF (show¬(n:Int)≤((b r:Nat):Int) by omega),bU,if_pos h3]
     exact key
    ·rw [if_neg h3] at key
     have c3:aT (((b r:Nat):Int)-(n:Int))=some ((b r-n:Nat):Int):=by rw [show((b r:Nat):Int)-(n:Int)=((b r-n:Nat):Int) by omega,k5 (by omega)]
     simp only [dT (show(n:Int)≤((b r:Nat):Int) by omega),cA,c3,oB,if_neg h3]
     exact key
theorem aUB {n most B:Nat} {Z:Nat→Nat→Rat} {a1:List Rat} (h1:a1.length=n) (hZ:Sm n B Z) (hB:B≤200000000) (hn:n≤1000) (hm:most≤100000) {K:Nat} (hK:5000≤K):∀(f cnt fu:Nat) (T:Nat→Nat→Rat) (b:Nat→Nat) (r c:Nat),cnt+f=most+1→0<f→f≤fu→LI n Z T b r c→
  lP K a1 (most:Int) fu (mp (fun i=>((b i:Nat):Int)) n) (mx T n (2*n+2)) (r:Int) (c:Int) (cnt:Int)=some (.ret (lem n most f T b r c cnt))
 |0,cnt,fu,T,b,r,c,hc,h0,hf,h=>by omega
 |f+1,cnt,fu,T,b,r,c,hc,h0,hf,h=>by
  obtain⟨fu',rfl,hf'⟩:=bD (show f<fu by omega)
  unfold lem
  by_cases e:cnt=most
  ·rw [if_pos e]
   simp only [lP,qT (show(cnt:Int)=(most:Int) by omega),cA]
  ·rw [if_neg e]
   have hcw:=h.hc
   have hr:=h.hr
   have hT:=hZ T b h.ti
   have ti':=h.ti.pivot h.hr (show c<2*n+2 by omega) h.hp
   have hT':=hZ _ _ ti'
   have p1:=aQv hT h.hr (show c<2*n+2 by omega) hB (by omega) (by omega) (K:=K) (by omega)
   have hbr:=h.hb r h.hr
   have c1:aT (2*(n:Int))=some (2*(n:Int)):=k5 (by omega)
   have e4:mp (iD (fun i=>((b i:Nat):Int)) r (c:Int)) n=mp (fun i=>((iD b r c i:Nat):Int)) n:=cJ fun i _=>by
    by_cases e:i=r
    ·rw [e,bA,bA]
    ·rw [cG e,cG e]
   simp only [lP,qF (show(cnt:Int)≠(most:Int) by omega),bU,p1,oB,oC (i:=cnt) (by omega),eD (f:=fun i=>((b i:Nat):Int)) hr,t8 (f:=fun i=>((b i:Nat):Int)) hr,e4,h1,c1]
   by_cases e2:b r=2*n
   ·rw [if_pos e2]
    have hb2:∀i,i<n→iD b r c i<2*n:=fun i hi=>by
     by_cases ei:i=r
     ·rw [ei,bA]
      have:=h.fst
      by_cases ec:c=2*n
      ·exact absurd e2 (this ec)
      ·omega
     ·rw [cG ei]
      have h5:=h.hb i hi
      by_cases e6:b i=2*n
      ·exact absurd (h.ti.inj hi hr (by rw [e6,e2])) ei
      ·omega
    have hs:=aHE (T:=pA T r c) h1 hb2 hn K n 0 K (by omega) (by omega)
    simp only [Int.natCast_zero] at hs
    have z1:mp (fun _=>(0:Rat)) n=mp (swv (pA T r c) (iD b r c) n 0) n:=rfl
    have hs':f9 K a1 (mx (pA T r c) n (2*n+2)) (mp (fun i=>((iD b r c i:Nat):Int)) n) K (mp (fun _=>(0:Rat)) n) (mp (fun _=>(0:Rat)) n) 0=some (mp (swv (pA T r c) (iD b r c) n n) n,mp (szv (pA T r c) (iD b r c) n n) n):=hs
    simp only [qT (show((b r:Nat):Int)=2*(n:Int) by omega),cA,aDi (z:=(0:Rat)) (n:=n) (by omega),oB,hs',vY]
   ·rw [if_neg e2]
    have hlt:=aLl hbr e2
    have c2:aT (((b r:Nat):Int)+(n:Int))=some ((b r+n:Nat):Int):=by rw [k5 (by omega)];rfl
    have c3:yK ((b r+n:Nat):Int) (2*(n:Int))=some (((if b r<n then b r+n else b r-n:Nat)):Int):=by
     rw [mT (by omega) (by omega)]
     congr 1
     by_cases h3:b r<n
     ·rw [if_pos h3,Int.emod_eq_of_lt (by omega) (by omega)]
     ·rw [if_neg h3,show((b r+n:Nat):Int)=((b r-n:Nat):Int)+2*(n:Int) by omega,Int.add_emod_right,Int.emod_eq_of_lt (by omega) (by omega)]
    have hsel:=aG8 h1 hT' (show(if b r<n then b r+n else b r-n)<2*n+2 by omega) hB hn (show 2000≤K by omega) n 0 K none (by omega) (by omega) (fun q hq=>by cases hq)
    simp only [Int.natCast_zero,show enc none=(-1:Int) from rfl] at hsel
    simp only [qF (show((b r:Nat):Int)≠2*(n:Int) by omega),bU,c2,oB,c3,hsel,wD]
    cases hs:sel (pA T r c) n (if b r<n then b r+n else b r-n) n 0 none with
    |none=>rfl
    |some r'=>
     simp only [enc,dF (show¬(r':Int)<0 by omega),bU]
     exact aUB h1 hZ hB hn hm hK f (cnt+1) fu' _ _ r' _ (by omega) (by omega) (by omega) (h.next e2 hs)
end Go.Proofs.YtldhbdgfpjoamaaGreat
set_option linter.unusedVariables false
namespace Go.Proofs.YtldhbdgfpjoamaaGreat
theorem aJf {l:List Rat} {B:Nat} (hl:sV B l) (hB:B≤1073741824) (hn:l.length≤1000) (K:Nat):∀(t i k:Nat),i+t=l.length→t<k→jU K l k (i:Int)=some (.go ())
 |0,i,k,hi,hk=>by
  obtain⟨k',rfl,_⟩:=bD hk
  simp only [jU,dF (show¬(i:Int)<(l.length:Int) by omega),bU]
 |t+1,i,k,hi,hk=>by
  obtain⟨k',rfl,_⟩:=bD hk
  simp only [jU,dT (show(i:Int)<(l.length:Int) by omega),cA,aCJ (l:=l) (i:=i) (by omega),oB,zE (hl _ (jV (l:=l) (i:=i) (by omega))) hB,Bool.not_true,bU,oC (i:=i) (by omega)]
  exact aJf hl hB hn K t (i+1) k' (by omega) (by omega)
theorem aKp {l:List Rat} {B:Nat} (hl:sV B l) (hB:B≤1073741824) (hn:l.length≤1000) {K:Nat} (hK:l.length<K):o6 K l=some true:=by
 have:=aJf hl hB hn K l.length 0 K (by omega) hK
 simp only [Int.natCast_zero] at this
 simp only [o6,this,oB,rE]
theorem aHy {l:List Rat} {B:Nat} (hl:sV B l) (hB:B≤1073741824) (hn:l.length≤1000) (K:Nat):∀(t i k:Nat),i+t=l.length→t<k→nM K l k (i:Int)=some (.go ())
 |0,i,k,hi,hk=>by
  obtain⟨k',rfl,_⟩:=bD hk
  simp only [nM,dF (show¬(i:Int)<(l.length:Int) by omega),bU]
 |t+1,i,k,hi,hk=>by
  obtain⟨k',rfl,_⟩:=bD hk
  simp only [nM,dT (show(i:Int)<(l.length:Int) by omega),cA,aCJ (l:=l) (i:=i) (by omega),oB,zE (hl _ (jV (l:=l) (i:=i) (by omega))) hB,Bool.not_true,bU,oC (i:=i) (by omega)]
  exact aHy hl hB hn K t (i+1) k' (by omega) (by omega)
theorem aHC {l:List Rat} {B:Nat} (hl:sV B l) (hB:B≤1073741824) (hn:l.length≤1000) {K:Nat} (hK:l.length<K):s7 K l=some true:=by
 have:=aHy hl hB hn K l.length 0 K (by omega) hK
 simp only [Int.natCast_zero] at this
 simp only [s7,this,oB,yR]
theorem aHR {M:Nat→Nat→Rat} {q:Nat→Rat} {n B:Nat} (hM:Bdx n n B M) (hB:B≤1073741824) (hn:n≤32) {K:Nat} (hK:100≤K):∀(t i k:Nat),i+t=n→t<k→jA K (mx M n n) (mp q n) k (i:Int)=some (.go ())
 |0,i,k,hi,hk=>by
  obtain⟨k',rfl,_⟩:=bD hk
  simp only [jA,w9,dF (show¬(i:Int)<(n:Int) by omega),bU]
 |t+1,i,k,hi,hk=>by
  obtain⟨k',rfl,_⟩:=bD hk
  have hin:i<n:=by omega
  have g:=aKp (l:=mp (M i) n) (z7 fun c hc=>hM i c hin hc) hB (by rw [bO];omega) (K:=K) (by rw [bO];omega)
  simp only [jA,w9,dT (show(i:Int)<(n:Int) by omega),cA,aDH (g:=M) (w:=n) hin,oB,bO,nF (rfl:(n:Int)=(n:Int)),bU,g,Bool.not_true,oC (i:=i) (by omega)]
  exact aHR hM hB hn hK t (i+1) k' (by omega) (by omega)
theorem aHL {M:Nat→Nat→Rat} {q:Nat→Rat} {n B:Nat} (hM:Bdx n n B M) (hq:∀i,i<n→Bd B (q i)) (hB:B≤1073741824) (hn:n≤32) {K:Nat} (hK:100≤K):qE K (mx M n n) (mp q n)=some true:=by
 have g:=aKp (l:=mp q n) (z7 hq) hB (by rw [bO];omega) (K:=K) (by rw [bO];omega)
 have e:=aHR (q:=q) hM hB hn hK n 0 K (by omega) (by omega)
 simp only [Int.natCast_zero] at e
 simp only [qE,w9,bO,nF (rfl:(n:Int)=(n:Int)),bU,dF (show¬(32:Int)<(n:Int) by omega),g,oB,Bool.not_true,e,qL]
theorem aGn {M:Nat→Nat→Rat} {q:Nat→Rat} {n B:Nat} (hM:Bdx n n B M) (hB:B≤1073741824) (hn:n≤32) {K:Nat} (hK:100≤K):∀(t i k:Nat),i+t=n→t<k→l9 K (mx M n n) (mp q n) k (i:Int)=some (.go ())
 |0,i,k,hi,hk=>by
  obtain⟨k',rfl,_⟩:=bD hk
  simp only [l9,w9,dF (show¬(i:Int)<(n:Int) by omega),bU]
 |t+1,i,k,hi,hk=>by
  obtain⟨k',rfl,_⟩:=bD hk
  have hin:i<n:=by omega
  have g:=aHC (l:=mp (M i) n) (z7 fun c hc=>hM i c hin hc) hB (by rw [bO];omega) (K:=K) (by rw [bO];omega)
  simp only [l9,w9,dT (show(i:Int)<(n:Int) by omega),cA,aDH (g:=M) (w:=n) hin,oB,bO,nF (rfl:(n:Int)=(n:Int)),bU,g,Bool.not_true,oC (i:=i) (by omega)]
  exact aGn hM hB hn hK t (i+1) k' (by omega) (by omega)
theorem aGK {M:Nat→Nat→Rat} {q:Nat→Rat} {n B:Nat} (hM:Bdx n n B M) (hq:∀i,i<n→Bd B (q i)) (hB:B≤1073741824) (hn:n≤32) {K:Nat} (hK:100≤K):vO K (mx M n n) (mp q n)=some true:=by
 have g:=aHC (l:=mp q n) (z7 hq) hB (by rw [bO];omega) (K:=K) (by rw [bO];omega)
 have e:=aGn (q:=q) hM hB hn hK n 0 K (by omega) (by omega)
 simp only [Int.natCast_zero] at e
 simp only [vO,w9,bO,nF (rfl:(n:Int)=(n:Int)),bU,dF (show¬(32:Int)<(n:Int) by omega),g,oB,Bool.not_true,e,yA]
def ng (q:Nat→Rat):Nat→Nat→Bool
 |0,_=>false
 |t+1,i=>bif decide ((q i).num.sign<0) then true else ng q t (i+1)
theorem aPz {q:Nat→Rat} {n B:Nat} (hq:∀i,i<n→Bd B (q i)) (hB:B≤1073741824) (hn:n≤1000) (K:Nat):∀(t i k:Nat),i+t=n→t<k→fZ K (mp q n) k (i:Int)=some (bif ng q t i then .ret true else .go ())
 |0,i,k,hi,hk=>by
  obtain⟨k',rfl,_⟩:=bD hk
  simp only [fZ,bO,dF (show¬(i:Int)<(n:Int) by omega),bU,ng]
 |t+1,i,k,hi,hk=>by
  obtain⟨k',rfl,_⟩:=bD hk
  have hin:i<n:=by omega
  simp only [fZ,bO,dT (show(i:Int)<(n:Int) by omega),cA,eD (f:=q) hin,oB,mF (hq i hin) hB,ng]
  by_cases h:(q i).num.sign<0
  ·simp only [dT h,cA]
  ·simp only [dF h,bU,oC (i:=i) (by omega),oB]
   exact aPz hq hB hn K t (i+1) k' (by omega) (by omega)
theorem aMS {q:Nat→Rat} {n B:Nat} (hq:∀i,i<n→Bd B (q i)) (hB:B≤1073741824) (hn:n≤1000) (K:Nat):∀(t i k:Nat),i+t=n→t<k→kL K (mp q n) k (i:Int)=some (bif ng q t i then .ret true else .go ())
 |0,i,k,hi,hk=>by
  obtain⟨k',rfl,_⟩:=bD hk
  simp only [kL,bO,dF (show¬(i:Int)<(n:Int) by omega),bU,ng]
 |t+1,i,k,hi,hk=>by
  obtain⟨k',rfl,_⟩:=bD hk
  have hin:i<n:=by omega
  simp only [kL,bO,dT (show(i:Int)<(n:Int) by omega),cA,eD (f:=q) hin,oB,mF (hq i hin) hB,ng]
  by_cases h:(q i).num.sign<0
  ·simp only [dT h,cA]
  ·simp only [dF h,bU,oC (i:=i) (by omega),oB]
   exact aMS hq hB hn K t (i+1) k' (by omega) (by omega)
theorem aS4 {q:Nat→Rat} {n B:Nat} (hq:∀i,i<n→Bd B (q i)) (hB:B≤1073741824) (hn:n≤1000) {K:Nat} (hK:n<K):nL K (mp q n)=some (ng q n 0)∧tM K (mp q n)=some (ng q n 0):=by
 have e1:=aPz hq hB hn K n 0 K (by omega) hK
 have e2:=aMS hq hB hn K n 0 K (by omega) hK
 simp only [Int.natCast_zero] at e1 e2
 constructor
 ·simp only [nL,e1,oB,oG]
  cases ng q n 0<;>rfl
 ·simp only [tM,e2,oB,vJ]
  cases ng q n 0<;>rfl
def rw1 (M:Nat→Nat→Rat) (n i k c:Nat):Rat:=if n≤c∧c<n+k then -(M i (c-n)) else iD z0 i 1 c
theorem aJF {M:Nat→Nat→Rat} {n i k:Nat} (hi:i<n):mp (iD (rw1 M n i k) (n+k) (-(M i k))) (2*n+2)=mp (rw1 M n i (k+1)) (2*n+2):=cJ fun c _=>by
 by_cases e:c=n+k
 ·subst e;rw [bA];unfold rw1;rw [if_pos ⟨by omega,by omega⟩,Nat.add_sub_cancel_left]
 ·rw [cG e];unfold rw1
  by_cases h:n≤c∧c<n+k
  ·rw [if_pos h,if_pos ⟨h.1,by omega⟩]
  ·rw [if_neg h,if_neg (by omega)]
theorem aMn {M:Nat→Nat→Rat} {q:Nat→Rat} {n i:Nat} (hi:i<n):mp (iD (iD (rw1 M n i n) (2*n) (-1)) (2*n+1) (q i)) (2*n+2)=mp (lX M q n i) (2*n+2):=cJ fun c hc=>by
 unfold lX
 by_cases e1:c=2*n+1
 ·subst e1;rw [bA,if_neg (by omega),if_neg (by omega),if_neg (by omega)]
 ·rw [cG e1]
  by_cases e2:c=2*n
  ·subst e2;rw [bA,if_neg (by omega),if_neg (by omega),if_pos rfl]
  ·rw [cG e2]
   unfold rw1
   by_cases h:c<n
   ·rw [if_neg (by omega),if_pos h]
    by_cases e3:c=i
    ·subst e3;rw [bA,if_pos rfl]
    ·rw [cG e3,if_neg (fun e=>e3 e.symm)];rfl
   ·rw [if_pos ⟨by omega,by omega⟩,if_neg h,if_pos (by omega)]
theorem aLK {M:Nat→Nat→Rat} {q:Nat→Rat} {n i B:Nat} (hM:Bdx n n B M) (hB:B≤1073741824) (hi:i<n) (hn:n≤1000) (K:Nat):∀(t k fu:Nat),k+t=n→t<fu→fB K (mx M n n) (mp q n) (i:Int) fu (mp (rw1 M n i k) (2*n+2)) (k:Int)=some (mp (rw1 M n i n) (2*n+2))
 |0,k,fu,hk,hf=>by
  obtain⟨fu',rfl,_⟩:=bD hf
  have e:k=n:=by omega
  subst e
  simp only [fB,bO,dF (show¬(k:Int)<(k:Int) by omega),bU]
 |t+1,k,fu,hk,hf=>by
  obtain⟨fu',rfl,_⟩:=bD hf
  have hkn:k<n:=by omega
  have c1:aT ((n:Int)+(k:Int))=some ((n+k:Nat):Int):=by rw [k5 (by omega)];rfl
  simp only [fB,bO,dT (show(k:Int)<(n:Int) by omega),cA,c1,oB,aDH (g:=M) (w:=n) hi,eD (f:=M i) hkn,aC8 (hM i k hi hkn) hB,eD (f:=rw1 M n i k) (n:=2*n+2) (i:=n+k) (by omega),t8 (f:=rw1 M n i k) (n:=2*n+2) (i:=n+k) (by omega),aJF hi,oC (i:=k) (by omega)]
  exact aLK hM hB hi hn K t (k+1) fu' (by omega) (by omega)
theorem aI8 {M:Nat→Nat→Rat} {q:Nat→Rat} {n i B:Nat} (hM:Bdx n n B M) (hB:B≤1073741824) (hi:i<n) (hn:n≤1000) (K:Nat):∀(t k fu:Nat),k+t=n→t<fu→k7 K (mx M n n) (mp q n) (i:Int) fu (mp (rw1 M n i k) (2*n+2)) (k:Int)=some (mp (rw1 M n i n) (2*n+2))
 |0,k,fu,hk,hf=>by
  obtain⟨fu',rfl,_⟩:=bD hf
  have e:k=n:=by omega
  subst e
  simp only [k7,bO,dF (show¬(k:Int)<(k:Int) by omega),bU]
 |t+1,k,fu,hk,hf=>by
  obtain⟨fu',rfl,_⟩:=bD hf
  have hkn:k<n:=by omega
  have c1:aT ((n:Int)+(k:Int))=some ((n+k:Nat):Int):=by rw [k5 (by omega)];rfl
  simp only [k7,bO,dT (show(k:Int)<(n:Int) by omega),cA,c1,oB,aDH (g:=M) (w:=n) hi,eD (f:=M i) hkn,aC8 (hM i k hi hkn) hB,eD (f:=rw1 M n i k) (n:=2*n+2) (i:=n+k) (by omega),t8 (f:=rw1 M n i k) (n:=2*n+2) (i:=n+k) (by omega),aJF hi,oC (i:=k) (by omega)]
  exact aI8 hM hB hi hn K t (k+1) fu' (by omega) (by omega)
theorem aUs:qof (-1) 1=some (-1):=by
 rw [aGa (by omega) (by omega)]
 exact congrArg some (by decide+kernel)
theorem aOL {M:Nat→Nat→Rat} {q:Nat→Rat} {n B:Nat} (hM:Bdx n n B M) (hB:B≤1073741824) (hn:n≤1000) {K:Nat} (hK:n<K):∀(t i fu:Nat),i+t=n→t<fu→eG K (mx M n n) (mp q n) fu (mp (fun j=>((j:Nat):Int)) i) (mp (fun j=>j) i) (mx (lX M q n) i (2*n+2)) (i:Int)=some (mp (fun j=>((j:Nat):Int)) n,mp (fun j=>j) n,mx (lX M q n) n (2*n+2))
 |0,i,fu,hi,hf=>by
  obtain⟨fu',rfl,_⟩:=bD hf
  have e:i=n:=by omega
  subst e
  simp only [eG,bO,dF (show¬(i:Int)<(i:Int) by omega),bU]
 |t+1,i,fu,hi,hf=>by
  obtain⟨fu',rfl,_⟩:=bD hf
  have hin:i<n:=by omega
  have c1:aT (2*(n:Int))=some ((2*n:Nat):Int):=by rw [k5 (by omega)];rfl
  have c2:aT (((2*n:Nat):Int)+2)=some ((2*n+2:Nat):Int):=by rw [k5 (by omega)];rfl
  have c3:aT (((2*n:Nat):Int)+1)=some ((2*n+1:Nat):Int):=by rw [k5 (by omega)];rfl
  have e116:=aLK (q:=q) hM hB hin hn K n 0 K (by omega) hK
  have e0:mp (rw1 M n i 0) (2*n+2)=mp (iD z0 i 1) (2*n+2):=cJ fun c _=>if_neg (by omega)
  rw [e0] at e116
  simp only [Int.natCast_zero] at e116
  have a1:qR (mp (fun j=>j) i) [i]=some (mp (fun j=>j) (i+1)):=apM (g:=fun j=>j) (by omega)
  have a2:qR (mp (fun j=>((j:Nat):Int)) i) [(i:Int)]=some (mp (fun j=>((j:Nat):Int)) (i+1)):=apM (g:=fun j=>((j:Nat):Int)) (by omega)
  have a3:mx (lX M q n) i (2*n+2)++[mp (lX M q n i) (2*n+2)]=mx (lX M q n) (i+1) (2*n+2):=(aFB (fun i=>mp (lX M q n i) (2*n+2)) i).symm
  simp only [eG,bO,dT (show(i:Int)<(n:Int) by omega),cA,c1,c2,aDi (z:=(0:Rat)) (n:=2*n+2) (by omega),aJx,oB,eD (f:=fun _=>(0:Rat)) (n:=2*n+2) (i:=i) (by omega),t8 (f:=fun _=>(0:Rat)) (n:=2*n+2) (i:=i) (by omega),show iD (fun _=>(0:Rat)) i 1=iD z0 i 1 from rfl,e116,mA,aUs,eD (f:=rw1 M n i n) (n:=2*n+2) (i:=2*n) (by omega),t8 (f:=rw1 M n i n) (n:=2*n+2) (i:=2*n) (by omega),c3,eD (f:=q) hin,eD (f:=iD (rw1 M n i n) (2*n) (-1)) (n:=2*n+2) (i:=2*n+1) (by omega),t8 (f:=iD (rw1 M n i n) (2*n) (-1)) (n:=2*n+2) (i:=2*n+1) (by omega),aMn hin,w9,a1,a2,a3,oC (i:=i) (by omega)]
  exact aOL hM hB hn hK t (i+1) fu' (by omega) (by omega)
theorem aL8 {M:Nat→Nat→Rat} {q:Nat→Rat} {n B:Nat} (hM:Bdx n n B M) (hB:B≤1073741824) (hn:n≤1000) {K:Nat} (hK:n<K):∀(t i fu:Nat),i+t=n→t<fu→lQ K (mx M n n) (mp q n) 1 fu (mp (fun j=>((j:Nat):Int)) i) (mx (lX M q n) i (2*n+2)) (i:Int)=some (mp (fun j=>((j:Nat):Int)) n,mx (lX M q n) n (2*n+2))
 |0,i,fu,hi,hf=>by
  obtain⟨fu',rfl,_⟩:=bD hf
  have e:i=n:=by omega
  subst e
  simp only [lQ,bO,dF (show¬(i:Int)<(i:Int) by omega),bU]
 |t+1,i,fu,hi,hf=>by
  obtain⟨fu',rfl,_⟩:=bD hf
  have hin:i<n:=by omega
  have c1:aT (2*(n:Int))=some ((2*n:Nat):Int):=by rw [k5 (by omega)];rfl
  have c2:aT (((2*n:Nat):Int)+2)=some ((2*n+2:Nat):Int):=by rw [k5 (by omega)];rfl
  have c3:aT (((2*n:Nat):Int)+1)=some ((2*n+1:Nat):Int):=by rw [k5 (by omega)];rfl
  have e318:=aI8 (q:=q) hM hB hin hn K n 0 K (by omega) hK
  have e0:mp (rw1 M n i 0) (2*n+2)=mp (iD z0 i 1) (2*n+2):=cJ fun c _=>if_neg (by omega)
  rw [e0] at e318
  simp only [Int.natCast_zero] at e318
  have a2:qR (mp (fun j=>((j:Nat):Int)) i) [(i:Int)]=some (mp (fun j=>((j:Nat):Int)) (i+1)):=apM (g:=fun j=>((j:Nat):Int)) (by omega)
  have a3:qR (mx (lX M q n) i (2*n+2)) [mp (lX M q n i) (2*n+2)]=some (mx (lX M q n) (i+1) (2*n+2)):=apM (g:=fun i=>mp (lX M q n i) (2*n+2)) (by omega)
  simp only [lQ,bO,dT (show(i:Int)<(n:Int) by omega),cA,c1,c2,aDi (z:=(0:Rat)) (n:=2*n+2) (by omega),oB,eD (f:=fun _=>(0:Rat)) (n:=2*n+2) (i:=i) (by omega),t8 (f:=fun _=>(0:Rat)) (n:=2*n+2) (i:=i) (by omega),show iD (fun _=>(0:Rat)) i 1=iD z0 i 1 from rfl,e318,wN,aUs,eD (f:=rw1 M n i n) (n:=2*n+2) (i:=2*n) (by omega),t8 (f:=rw1 M n i n) (n:=2*n+2) (i:=2*n) (by omega),c3,eD (f:=q) hin,eD (f:=iD (rw1 M n i n) (2*n) (-1)) (n:=2*n+2) (i:=2*n+1) (by omega),t8 (f:=iD (rw1 M n i n) (2*n) (-1)) (n:=2*n+2) (i:=2*n+1) (by omega),aMn hin,a2,a3,oC (i:=i) (by omega)]
  exact aL8 hM hB hn hK t (i+1) fu' (by omega) (by omega)
end Go.Proofs.YtldhbdgfpjoamaaGreat
set_option linter.unusedVariables false
namespace Go.Proofs.YtldhbdgfpjoamaaGreat
theorem aLG {T:Nat→Nat→Rat} {n i:Nat} {c:Rat}:∀t j,lx T n i c i c t j=false
 |0,_=>rfl
 |t+1,j=>by unfold lx;rw [decide_eq_true (rfl:T i (jY n j)/c=T i (jY n j)/c),cA];exact aLG t (j+1)
def xK (T:Nat→Nat→Rat) (n:Nat):Nat→Nat→Nat→Nat
 |0,_,r=>r
 |t+1,i,r=>bif les T n i 1 r 1 then xK T n t (i+1) i else xK T n t (i+1) r
theorem aB0 {T:Nat→Nat→Rat} {n:Nat}:∀t i r,r<n→i+t≤n→xK T n t i r<n
 |0,i,r,hr,_=>hr
 |t+1,i,r,hr,h=>by
  unfold xK
  cases les T n i 1 r 1
  ·exact aB0 t (i+1) r hr (by omega)
  ·exact aB0 t (i+1) i (by omega) (by omega)
theorem aPW {n B:Nat} {rs:List (List Rat)} {od:Nat→Nat} {T:Nat→Nat→Rat} {bs:List Int} (h:aBS n (2*n+2) rs od T) (hT:Bdx n (2*n+2) B T) (hB:B≤200000000) (hn:n≤1000) {K:Nat} (hK:2000≤K):∀(t i fu r:Nat),i+t=n→t<fu→r<n→fT K ((n:Int),mp od n,bs,rs) 1 fu (r:Int) (i:Int)=some ((xK T n t i r:Nat):Int)
 |0,i,fu,r,hi,hf,hr=>by
  obtain⟨fu',rfl,_⟩:=bD hf
  simp only [fT,dF (show¬(i:Int)<(n:Int) by omega),bU,xK]
 |t+1,i,fu,r,hi,hf,hr=>by
  obtain⟨fu',rfl,_⟩:=bD hf
  have hin:i<n:=by omega
  simp only [fT,dT (show(i:Int)<(n:Int) by omega),cA,aJp (a6:=bs) h hT hin hr aCG aCG (show B+8≤500000000 by omega) hn hK,oB,oC (i:=i) (by omega),xK]
  cases les T n i 1 r 1
  ·simp only [bU];exact aPW h hT hB hn hK t (i+1) fu' r (by omega) (by omega) hr
  ·simp only [cA];exact aPW h hT hB hn hK t (i+1) fu' i (by omega) (by omega) hin
theorem aOc {n B:Nat} {T:Nat→Nat→Rat} {a1:List Rat} (h1:a1.length=n) (hT:Bdx n (2*n+2) B T) (hB:B≤200000000) (hn:n≤1000) {K:Nat} (hK:2000≤K):∀(t i fu r:Nat),i+t=n→t<fu→r<n→jH K a1 1 (mx T n (2*n+2)) fu (r:Int) (i:Int)=some ((xK T n t i r:Nat):Int)
 |0,i,fu,r,hi,hf,hr=>by
  obtain⟨fu',rfl,_⟩:=bD hf
  simp only [jH,h1,dF (show¬(i:Int)<(n:Int) by omega),bU,xK]
 |t+1,i,fu,r,hi,hf,hr=>by
  obtain⟨fu',rfl,_⟩:=bD hf
  have hin:i<n:=by omega
  simp only [jH,h1,dT (show(i:Int)<(n:Int) by omega),cA,aDH (g:=T) (w:=2*n+2) hin,aDH (g:=T) (w:=2*n+2) hr,oB,aIh hT hin aCG (by omega) (by omega) hn hK,aIh hT hr aCG (by omega) (by omega) hn hK,aHK hT hin hr aCG aCG (show B+8≤500000000 by omega) hn hK,oC (i:=i) (by omega),xK]
  cases les T n i 1 r 1
  ·simp only [bU];exact aOc h1 hT hB hn hK t (i+1) fu' r (by omega) (by omega) hr
  ·simp only [cA];exact aOc h1 hT hB hn hK t (i+1) fu' i (by omega) (by omega) hin
theorem aC1 {q:Nat→Rat} {n:Nat} (h:ng q n 0=true):0<n:=by
 cases n with
 |zero=>exact absurd (show false=true from h) (by decide)
 |succ m=>exact Nat.succ_pos m
def u5 (M:Nat→Nat→Rat) (q:Nat→Rat) (n most:Nat):aW×Int:=
 bif ng q n 0 then lem n most (most+1) (lX M q n) (fun j=>j) (xK (lX M q n) n n 0 0) (2*n) 0 else(⟨mp z0 n,mp q n,0⟩,0)
theorem aIN {M:Nat→Nat→Rat} {q:Nat→Rat} {n r:Nat} (hr:r<n):LI n (lX M q n) (lX M q n) (fun j=>j) r (2*n):=by
 refine⟨aLj,hr,Nat.le_refl _,?_,fun j hj=>by omega,fun _=>by omega⟩
 unfold lX
 rw [if_neg (by omega),if_neg (by omega),if_pos rfl];decide
theorem aIX {T:Nat→Nat→Rat} {n w:Nat}:aBS n w (mx T n w) (fun j=>j) T:=
 ⟨fun i hi=>by rw [w9];exact hi,fun i j _ _ e=>e,fun i hi=>by unfold mx;rw [List.getD_eq_getElem?_getD,aBh hi];rfl⟩
theorem aP8 {M:Nat→Nat→Rat} {q:Nat→Rat} {n:Nat}:∀i,i≤n→swv (lX M q n) (fun j=>j) n i=(fun j=>if j<i then q j else 0)∧szv (lX M q n) (fun j=>j) n i=z0
 |0,_=>⟨funext fun j=>by show(0:Rat)=_;rw [if_neg (show¬j<0 by omega)],rfl⟩
 |i+1,h=>by
  obtain⟨e1,e2⟩:=aP8 (M:=M) (q:=q) (n:=n) i (by omega)
  have e3:lX M q n i (2*n+1)=q i:=by unfold lX;rw [if_neg (show¬2*n+1<n by omega),if_neg (show¬2*n+1<2*n by omega),if_neg (show¬2*n+1=2*n by omega)]
  unfold swv szv
  rw [if_pos (show i<n by omega),if_pos (show i<n by omega),e1,e2,e3]
  refine⟨funext fun j=>?_,rfl⟩
  by_cases e:j=i
  ·subst e;rw [bA,if_pos (by omega)]
  ·rw [cG e]
   by_cases e4:j<i
   ·rw [if_pos e4,if_pos (by omega)]
   ·rw [if_neg e4,if_neg (by omega)]
theorem aM6 {M:Nat→Nat→Rat} {q:Nat→Rat} {n B most:Nat} (hM:Bdx n n B M) (hq:∀i,i<n→Bd B (q i)) (hZ:Sm n B (lX M q n)) (hB:B≤200000000) (hn:n≤32) (hm:most≤100000) {K:Nat} (hK:5000≤K) (hK2:most<K):
  nZ K (mx M n n) (mp q n) (most:Int)=some (u5 M q n most)∧sK K (mx M n n) (mp q n) (most:Int)=some (u5 M q n most):=by
 have hng:=aS4 hq (by omega) (show n≤1000 by omega) (show n<K by omega)
 have hT:=hZ _ _ aLj
 have s1:=aOL (q:=q) hM (by omega) (show n≤1000 by omega) (show n<K by omega) n 0 K (by omega) (by omega)
 have s2:=aL8 (q:=q) hM (by omega) (show n≤1000 by omega) (show n<K by omega) n 0 K (by omega) (by omega)
 have z1:mp (fun j=>((j:Nat):Int)) 0=[]:=rfl
 have z2:mp (fun j:Nat=>j) 0=[]:=rfl
 have z3:mx (lX M q n) 0 (2*n+2)=[]:=rfl
 simp only [Int.natCast_zero,z1,z2,z3] at s1 s2
 have st:nB K (mx M n n) (mp q n)=some ((n:Int),mp (fun j=>j) n,mp (fun j=>((j:Nat):Int)) n,mx (lX M q n) n (2*n+2)):=by
  simp only [nB,s1,oB,mX,bO]
 have c1:aT (2*(n:Int))=some ((2*n:Nat):Int):=by rw [k5 (by omega)];rfl
 by_cases hneg:ng q n 0=true
 ·have hn0:=aC1 hneg
  have hr:=aB0 (T:=lX M q n) n 0 0 hn0 (by omega)
  have l1:=aPW (bs:=mp (fun j=>((j:Nat):Int)) n) (aIX (T:=lX M q n)) hT hB (show n≤1000 by omega) (show 2000≤K by omega) n 0 K 0 (by omega) (by omega) hn0
  have l2:=aOc (a1:=mp q n) (bO _ _) hT hB (show n≤1000 by omega) (show 2000≤K by omega) (n-1) 1 K 0 (by omega) (by omega) hn0
  have e0:xK (lX M q n) n (n-1) 1 0=xK (lX M q n) n n 0 0:=by
   obtain⟨m,rfl⟩:∃m,n=m+1:=⟨n-1,by omega⟩
   have e:les (lX M q (m+1)) (m+1) 0 1 0 1=false:=aLG _ _
   have e2:xK (lX M q (m+1)) (m+1) (m+1) 0 0=bif les (lX M q (m+1)) (m+1) 0 1 0 1 then xK (lX M q (m+1)) (m+1) m 1 0 else xK (lX M q (m+1)) (m+1) m 1 0:=rfl
   rw [e2,e,bU];rfl
  rw [e0] at l2
  simp only [Int.natCast_zero,Int.natCast_one] at l1 l2
  have r1:=aVh (v6:=((n:Int),mp (fun j=>j) n,mp (fun j=>((j:Nat):Int)) n,mx (lX M q n) n (2*n+2))) rfl hZ hB (show n≤1000 by omega) hm hK (most+1) 0 K _ _ _ _ _ _ (by omega) (by omega) (by omega) aIX (aIN (M:=M) (q:=q) hr)
  have r2:=aUB (a1:=mp q n) (bO _ _) hZ hB (show n≤1000 by omega) hm hK (most+1) 0 K _ _ _ _ (by omega) (by omega) (by omega) (aIN (M:=M) (q:=q) hr)
  simp only [Int.natCast_zero] at r1 r2
  constructor
  ·simp only [nZ,aHL hM hq (show B≤1073741824 by omega) hn (show 100≤K by omega),oB,Bool.not_true,bU,dF (show¬(most:Int)<0 by omega),st,hng.1,hneg,aJx,l1,pQ,c1,r1,u5,cA]
  ·simp only [sK,aGK hM hq (show B≤1073741824 by omega) hn (show 100≤K by omega),oB,Bool.not_true,bU,dF (show¬(most:Int)<0 by omega),hng.2,hneg,aJx,s2,xI,l2,xA,bO,c1,r2,u5,cA]
 ·have hneg':ng q n 0=false:=by cases h:ng q n 0 with|true=>exact absurd h hneg|false=>rfl
  obtain⟨e1,e2⟩:=aP8 (M:=M) (q:=q) (n:=n) n (Nat.le_refl _)
  have ps:=aMg (b:=fun j=>j) (aIX (T:=lX M q n) (n:=n) (w:=2*n+2)) (show n≤1000 by omega) (show 2000≤K by omega)
  rw [e1,e2,cJ (f:=fun j=>if j<n then q j else 0) (g:=q) fun i hi=>if_pos hi] at ps
  constructor
  ·simp only [nZ,aHL hM hq (show B≤1073741824 by omega) hn (show 100≤K by omega),oB,Bool.not_true,bU,dF (show¬(most:Int)<0 by omega),st,hng.1,hneg',Bool.not_false,cA,ps,u5]
  ·simp only [sK,aGK hM hq (show B≤1073741824 by omega) hn (show 100≤K by omega),oB,Bool.not_true,bU,dF (show¬(most:Int)<0 by omega),hng.2,hneg',Bool.not_false,cA,bO,aDi (z:=(0:Rat)) (n:=n) (by omega),u5]
   rfl
end Go.Proofs.YtldhbdgfpjoamaaGreat
set_option linter.unusedVariables false
namespace Go.Proofs.YtldhbdgfpjoamaaGreat
/-- What kills the tableau kills the first one. -/
def KE (n w:Nat) (Z T:Nat→Nat→Rat):Prop:=∀x:Nat→Rat,(∀i,i<n→sm (fun k=>T i k*x k) w=0)→∀i,i<n→sm (fun k=>Z i k*x k) w=0
theorem KE.pivot {n w r c:Nat} {Z T:Nat→Nat→Rat} (h:KE n w Z T) (hr:r<n) (hp:T r c≠0):KE n w Z (pA T r c):=fun x hx=>h x fun i hi=>by
 have e0:sm (fun k=>T r k*x k) w=0:=by
  have h1:=hx r hr
  have e:sm (fun k=>pA T r c r k*x k) w=(1/T r c)*sm (fun k=>T r k*x k) w:=by
   rw [←rG];exact bM fun k _=>by unfold pA;rw [if_pos rfl];grind
  rw [e] at h1
  grind
 by_cases e:i=r
 ·rw [e];exact e0
 ·have h1:=hx i hi
  have e1:sm (fun k=>pA T r c i k*x k) w=sm (fun k=>T i k*x k) w-(T i c/T r c)*sm (fun k=>T r k*x k) w:=by
   rw [←aD1];exact bM fun k _=>by unfold pA;rw [if_neg e];grind
  rw [e1,e0] at h1
  grind
def bx (T:Nat→Nat→Rat) (b:Nat→Nat) (n k:Nat):Rat:=if k=2*n+1 then -1 else sm (fun i=>if b i=k then T i (2*n+1) else 0) n
theorem aUl {n w:Nat} {Z T:Nat→Nat→Rat} {b:Nat→Nat} (h:TI n w Z T b) (hb:∀j,j<n→b j≤2*n) {j:Nat} (hj:j<n):bx T b n (b j)=T j (2*n+1):=by
 have:=hb j hj
 unfold bx
 rw [if_neg (by omega),tZ hj fun i hi hne=>if_neg fun e=>hne (h.inj hi hj e),if_pos rfl]
theorem aLs {n:Nat} {T:Nat→Nat→Rat} {b:Nat→Nat} {k:Nat} (hk:k≠2*n+1) (h:∀i,i<n→b i≠k):bx T b n k=0:=by
 unfold bx
 rw [if_neg hk]
 exact qO fun i hi=>if_neg (h i hi)
theorem aQS {n:Nat} {Z T:Nat→Nat→Rat} {b:Nat→Nat} (h:TI n (2*n+2) Z T b) (hb:∀j,j<n→b j≤2*n) {i:Nat} (hi:i<n):sm (fun k=>T i k*bx T b n k) (2*n+2)=0:=by
 show sm _ (2*n+1)+T i (2*n+1)*bx T b n (2*n+1)=0
 have e1:bx T b n (2*n+1)=-1:=if_pos rfl
 have e2:sm (fun k=>T i k*bx T b n k) (2*n+1)=sm (fun k=>sm (fun j=>if b j=k then T i k*T j (2*n+1) else 0) n) (2*n+1):=bM fun k hk=>by
  unfold bx
  rw [if_neg (by omega),←rG]
  refine bM fun j _=>?_
  by_cases e:b j=k
  ·rw [if_pos e,if_pos e]
  ·rw [if_neg e,if_neg e,Rat.mul_zero]
 have e3:sm (fun j=>sm (fun k=>if b j=k then T i k*T j (2*n+1) else 0) (2*n+1)) n=T i (2*n+1):=by
  have:sm (fun j=>sm (fun k=>if b j=k then T i k*T j (2*n+1) else 0) (2*n+1)) n=sm (fun j=>T i (b j)*T j (2*n+1)) n:=bM fun j hj=>by
   have:=hb j hj
   rw [tZ (p:=b j) (by omega) fun k _ hne=>if_neg fun e=>hne e.symm,if_pos rfl]
  rw [this,tZ hi fun j hj hne=>by rw [h.un i j hi hj,if_neg fun e=>hne e.symm,Rat.zero_mul],h.un i i hi hi,if_pos rfl,Rat.one_mul]
 rw [e2,aB8,e3,e1]
 grind
theorem aCR (f:Nat→Rat) (a:Nat):∀b,sm f (a+b)=sm f a+sm (fun j=>f (a+j)) b
 |0=>by show sm f a=sm f a+0;rw [Rat.add_zero]
 |b+1=>by
  show sm f (a+b)+f (a+b)=sm f a+(sm (fun j=>f (a+j)) b+f (a+b))
  rw [aCR f a b,Rat.add_assoc]
theorem aTD {M:Nat→Nat→Rat} {q x:Nat→Rat} {n i:Nat} (hi:i<n) (h:sm (fun k=>lX M q n i k*x k) (2*n+2)=0) (h1:x (2*n+1)=-1):x i=sm (fun j=>M i j*x (n+j)) n+x (2*n)+q i:=by
 have e:2*n+2=(n+n)+2:=by omega
 rw [e,aCR,aCR] at h
 have e1:sm (fun k=>lX M q n i k*x k) n=x i:=by
  have:lX M q n i i=1:=by unfold lX;rw [if_pos hi,if_pos rfl]
  rw [tZ hi fun k hk hne=>by unfold lX;rw [if_pos hk,if_neg fun e=>hne e.symm,Rat.zero_mul],this,Rat.one_mul]
 have e2:sm (fun j=>lX M q n i (n+j)*x (n+j)) n=-(sm (fun j=>M i j*x (n+j)) n):=by
  rw [←aBT]
  refine bM fun j hj=>?_
  unfold lX
  rw [if_neg (by omega),if_pos (by omega),show n+j-n=j by omega,Rat.neg_mul]
 have e3:sm (fun j=>lX M q n i (n+n+j)*x (n+n+j)) 2=-(x (2*n))-q i:=by
  show 0+lX M q n i (n+n+0)*x (n+n+0)+lX M q n i (n+n+1)*x (n+n+1)=_
  rw [show n+n+0=2*n by omega,show n+n+1=2*n+1 by omega,h1]
  unfold lX
  rw [if_neg (by omega),if_neg (by omega),if_pos rfl,if_neg (by omega),if_neg (by omega),if_neg (by omega)]
  grind
 rw [e1,e2,e3] at h
 grind
def nn (f:Nat→Rat):Nat→Nat→Prop
 |0,_=>True
 |t+1,j=>0<f j∨(f j=0∧nn f t (j+1))
theorem nn.congr {f g:Nat→Rat}:∀{t j:Nat},(∀k,f k=g k)→nn f t j→nn g t j
 |0,_,_,_=>trivial
 |t+1,j,e,h=>by
  unfold nn at h ⊢
  rw [←e j]
  exact h.imp id fun h=>⟨h.1,nn.congr e h.2⟩
theorem nn.add {f g:Nat→Rat}:∀{t j:Nat},nn f t j→nn g t j→nn (fun k=>f k+g k) t j
 |0,_,_,_=>trivial
 |t+1,j,h1,h2=>by
  unfold nn at h1 h2 ⊢
  rcases h1 with h1|⟨h1,k1⟩<;>rcases h2 with h2|⟨h2,k2⟩
  ·left;grind
  ·left;grind
  ·left;grind
  ·right;exact⟨by grind,nn.add k1 k2⟩
theorem nn.mul {f:Nat→Rat} {a:Rat} (ha:0≤a):∀{t j:Nat},nn f t j→nn (fun k=>a*f k) t j
 |0,_,_=>trivial
 |t+1,j,h=>by
  unfold nn at h ⊢
  by_cases e:a=0
  ·right
   refine⟨by rw [e,Rat.zero_mul],?_⟩
   have:∀t j,nn (fun k=>a*f k) t j:=fun t=>by
    induction t with
    |zero=>intro j;trivial
    |succ t ih=>intro j;exact Or.inr ⟨by show a*f j=0;rw [e,Rat.zero_mul],ih (j+1)⟩
   exact this t (j+1)
  ·rcases h with h|⟨h,k⟩
   ·left
    exact Rat.mul_pos (by grind) h
   ·right
    exact⟨by rw [h,Rat.mul_zero],nn.mul ha k⟩
theorem nn.head {f:Nat→Rat} {t j:Nat} (h:nn f (t+1) j):0≤f j:=by
 unfold nn at h
 rcases h with h|h
 ·exact Rat.le_of_lt h
 ·rw [h.1];exact Rat.le_refl
theorem aJl {T:Nat→Nat→Rat} {n i k:Nat} {c d:Rat}:∀t j,(lx T n i c k d t j=false→nn (fun j=>T i (jY n j)/c-T k (jY n j)/d) t j)∧(lx T n i c k d t j=true→nn (fun j=>T k (jY n j)/d-T i (jY n j)/c) t j)
 |0,j=>⟨fun _=>trivial,fun h=>absurd h (by unfold lx;decide)⟩
 |t+1,j=>by
  obtain⟨i1,i2⟩:=aJl (T:=T) (n:=n) (i:=i) (k:=k) (c:=c) (d:=d) t (j+1)
  unfold lx nn
  by_cases e:T i (jY n j)/c=T k (jY n j)/d
  ·rw [decide_eq_true e,cA]
   exact⟨fun h=>Or.inr ⟨by rw [e];grind,i1 h⟩,fun h=>Or.inr ⟨by rw [e];grind,i2 h⟩⟩
  ·rw [decide_eq_false e,bU]
   refine⟨fun h=>Or.inl ?_,fun h=>Or.inl ?_⟩
   ·have:=of_decide_eq_false h
    grind
   ·have:=of_decide_eq_true h
    grind
def aEU (T:Nat→Nat→Rat) (n c k r:Nat):Prop:=nn (fun j=>T k (jY n j)/T k c-T r (jY n j)/T r c) (n+1) 0
theorem aCX {T:Nat→Nat→Rat} {n c:Nat}:∀t i s r,(∀q,s=some q→∀k,k<i→0<(T k c).num.sign→aEU T n c k q)→(s=none→∀k,k<i→¬0<(T k c).num.sign)→sel T n c t i s=some r→∀k,k<i+t→0<(T k c).num.sign→aEU T n c k r
 |0,i,s,r,h1,h2,e,k,hk,hp=>h1 r e k (by omega) hp
 |t+1,i,s,r,h1,h2,e,k,hk,hp=>by
  unfold sel at e
  have refl:aEU T n c i i:=by
   have:∀t j,nn (fun j=>T i (jY n j)/T i c-T i (jY n j)/T i c) t j:=fun t=>by
    induction t with
    |zero=>intro j;trivial
    |succ t ih=>intro j;exact Or.inr ⟨by grind,ih (j+1)⟩
   exact this _ _
  by_cases hi:0<(T i c).num.sign
  ·rw [decide_eq_true hi,cA] at e
   cases s with
   |none=>
    refine aCX t (i+1) (some i) r (fun q hq k hk hp=>?_) (fun h=>by cases h) e k (by omega) hp
    cases hq
    by_cases e2:k=i
    ·rw [e2];exact refl
    ·exact absurd hp (h2 rfl k (by omega))
   |some p=>
    simp only at e
    cases hl:les T n i (T i c) p (T p c)
    ·rw [hl,bU] at e
     refine aCX t (i+1) (some p) r (fun q hq k hk hp=>?_) (fun h=>by cases h) e k (by omega) hp
     cases hq
     by_cases e2:k=i
     ·rw [e2];exact(aJl _ _).1 hl
     ·exact h1 p rfl k (by omega) hp
    ·rw [hl,cA] at e
     refine aCX t (i+1) (some i) r (fun q hq k hk hp=>?_) (fun h=>by cases h) e k (by omega) hp
     cases hq
     by_cases e2:k=i
     ·rw [e2];exact refl
     ·exact((h1 p rfl k (by omega) hp).add ((aJl _ _).2 hl)).congr fun j=>by grind
  ·rw [decide_eq_false hi,bU] at e
   refine aCX t (i+1) s r (fun q hq k hk hp=>?_) (fun h k hk=>?_) e k (by omega) hp
   ·by_cases e2:k=i
    ·rw [e2] at hp;exact absurd hp hi
    ·exact h1 q hq k (by omega) hp
   ·by_cases e2:k=i
    ·rw [e2];exact hi
    ·exact h2 h k (by omega)
theorem aKb {a:Rat}:0<a.num↔0<a:=by
 have h1:=Rat.num_nonneg (q:=a)
 have h2:=Rat.num_eq_zero (q:=a)
 constructor
 ·intro h
  have h3:0≤a:=h1.1 (by omega)
  have h4:a≠0:=fun e=>by have:=h2.2 e;omega
  grind
 ·intro h
  have h3:0≤a.num:=h1.2 (by grind)
  have h4:a.num≠0:=fun e=>by have:=h2.1 e;grind
  omega
theorem aM5 {x:Rat}:0<x.num.sign↔0<x:=by rw [Int.sign_pos_iff];exact aKb
def LX (n:Nat) (T:Nat→Nat→Rat):Prop:=∀i,i<n→nn (fun j=>T i (jY n j)) (n+1) 0
theorem LX.last {n i:Nat} {T:Nat→Nat→Rat} (h:LX n T) (hi:i<n):0≤T i (2*n+1):=(h i hi).head
theorem LX.pivot {n r c:Nat} {T:Nat→Nat→Rat} (h:LX n T) (hr:r<n) (hp:0<T r c) (hm:∀k,k<n→0<T k c→aEU T n c k r):LX n (pA T r c):=fun i hi=>by
 have hinv:(0:Rat)≤1/T r c:=by rw [Rat.div_def,Rat.one_mul];exact Rat.le_of_lt (Rat.inv_pos.2 hp)
 by_cases e:i=r
 ·exact((h r hr).mul hinv).congr fun j=>by unfold pA;rw [if_pos e];grind
 ·by_cases h2:0<T i c
  ·exact((hm i hi h2).mul (Rat.le_of_lt h2)).congr fun j=>by unfold pA;rw [if_neg e];grind
  ·have h3:0≤(-(T i c))*(1/T r c):=Rat.mul_nonneg (by grind) hinv
   exact((h i hi).add ((h r hr).mul h3)).congr fun j=>by unfold pA;rw [if_neg e];grind
theorem aEK {T:Nat→Nat→Rat} {n:Nat}:∀t i r,(∀k,k<i→nn (fun j=>T k (jY n j)-T r (jY n j)) (n+1) 0)→∀k,k<i+t→nn (fun j=>T k (jY n j)-T (xK T n t i r) (jY n j)) (n+1) 0
 |0,i,r,h,k,hk=>h k (by omega)
 |t+1,i,r,h,k,hk=>by
  unfold xK
  cases hl:les T n i 1 r 1
  ·rw [bU]
   refine aEK t (i+1) r (fun k hk=>?_) k (by omega)
   by_cases e:k=i
   ·rw [e];exact((aJl _ _).1 hl).congr fun j=>by grind
   ·exact h k (by omega)
  ·rw [cA]
   have h1:=(aJl _ _).2 hl
   refine aEK t (i+1) i (fun k hk=>?_) k (by omega)
   by_cases e:k=i
   ·rw [e]
    have:∀t j,nn (fun j=>T i (jY n j)-T i (jY n j)) t j:=fun t=>by
     induction t with
     |zero=>intro j;trivial
     |succ t ih=>intro j;exact Or.inr ⟨by grind,ih (j+1)⟩
    exact this _ _
   ·exact((h k (by omega)).add h1).congr fun j=>by grind
def wU (n x:Nat):Nat:=if x<n then x+n else x-n
theorem aIs {n x:Nat} (h:x<2*n):wU n x<2*n:=by unfold wU;split<;>omega
theorem aCT {n x:Nat} (h:x<2*n):wU n (wU n x)=x:=by
 unfold wU
 by_cases e:x<n
 ·rw [if_pos e,if_neg (by omega)];omega
 ·rw [if_neg e,if_pos (by omega)];omega
theorem aNV {n x:Nat} (hn:0<n):wU n x≠x∨2*n≤x:=by unfold wU;split<;>omega
structure CB (n:Nat) (b:Nat→Nat) (c:Nat):Prop where
 inj:∀i j,i<n→j<n→b i=b j→i=j
 nc:∀i,i<n→b i≠c
 np:c<2*n→∀i,i<n→b i≠wU n c
 pr:∀i j,i<n→j<n→b i<2*n→b j≠wU n (b i)
theorem CB.pr' {n r c:Nat} {b:Nat→Nat} (h:CB n b c) (hr:r<n) (hc:c≤2*n):∀i j,i<n→j<n→iD b r c i<2*n→iD b r c j≠wU n (iD b r c i):=fun i j hi hj hlt=>by
 by_cases e1:i=r
 ·subst e1
  rw [bA] at hlt ⊢
  by_cases e2:j=i
  ·subst e2;rw [bA]
   intro e
   rcases aNV (n:=n) (x:=c) (by omega) with h1|h1
   ·exact h1 e.symm
   ·omega
  ·rw [cG e2];exact h.np hlt j hj
 ·rw [cG e1] at hlt ⊢
  by_cases e2:j=r
  ·subst e2;rw [bA]
   intro e
   have h1:=aIs hlt
   have h2:b i=wU n c:=by rw [e,aCT hlt]
   exact h.np (by omega) i hi h2
  ·rw [cG e2];exact h.pr i j hi hj hlt
theorem CB.inj' {n r c:Nat} {b:Nat→Nat} (h:CB n b c):∀i j,i<n→j<n→iD b r c i=iD b r c j→i=j:=fun i j hi hj e=>by
 by_cases e1:i=r
 ·by_cases e2:j=r
  ·omega
  ·rw [e1,bA,cG e2] at e
   exact absurd e.symm (h.nc j hj)
 ·by_cases e2:j=r
  ·rw [e2,bA,cG e1] at e
   exact absurd e (h.nc i hi)
  ·rw [cG e1,cG e2] at e
   exact h.inj i j hi hj e
theorem CB.next {n r c:Nat} {b:Nat→Nat} (h:CB n b c) (hr:r<n) (hc:c≤2*n) (hl:b r<2*n):CB n (iD b r c) (wU n (b r)):=by
 refine⟨h.inj',fun i hi=>?_,fun _ i hi=>?_,h.pr' hr hc⟩
 ·by_cases e:i=r
  ·rw [e,bA]
   intro e2
   have h1:=aIs hl
   exact h.np (by omega) r hr (by rw [e2,aCT hl])
  ·rw [cG e];exact h.pr r i hr hi hl
 ·rw [aCT hl]
  by_cases e:i=r
  ·rw [e,bA];exact fun e2=>h.nc r hr e2.symm
  ·rw [cG e];exact fun e2=>e (h.inj i r hi hr e2)
structure Sol (M:Nat→Nat→Rat) (q:Nat→Rat) (n:Nat) (z w:Nat→Rat):Prop where
 z0:∀j,j<n→0≤z j
 w0:∀j,j<n→0≤w j
 eq:∀i,i<n→w i=sm (fun j=>M i j*z j) n+q i
 zw:∀j,j<n→z j=0∨w j=0
theorem aRf {n:Nat} {T:Nat→Nat→Rat} {b:Nat→Nat} (hi:∀i j,i<n→j<n→b i=b j→i=j):∀m,m≤n→(∀j,j<n→swv T b n m j=sm (fun i=>if b i=j then T i (2*n+1) else 0) m)∧(∀j,j<n→szv T b n m j=sm (fun i=>if b i=n+j then T i (2*n+1) else 0) m)
 |0,_=>⟨fun _ _=>rfl,fun _ _=>rfl⟩
 |m+1,hm=>by
  obtain⟨h1,h2⟩:=aRf (T:=T) hi m (by omega)
  have zero:sm (fun i=>if b i=b m then T i (2*n+1) else 0) m=0:=qO fun i h=>if_neg fun e=>by have:=hi i m (by omega) (by omega) e;omega
  refine⟨fun j hj=>?_,fun j hj=>?_⟩
  ·show swv T b n (m+1) j=sm _ m+(if b m=j then T m (2*n+1) else 0)
   rw [←h1 j hj]
   have w1:swv T b n (m+1)=if b m<n then iD (swv T b n m) (b m) (T m (2*n+1)) else swv T b n m:=rfl
   rw [w1]
   by_cases e:b m<n
   ·rw [if_pos e]
    by_cases e2:b m=j
    ·rw [if_pos e2,←e2,bA,h1 (b m) e,zero];grind
    ·rw [if_neg e2,cG (fun h=>e2 h.symm),Rat.add_zero]
   ·rw [if_neg e,if_neg (by omega),Rat.add_zero]
  ·show szv T b n (m+1) j=sm _ m+(if b m=n+j then T m (2*n+1) else 0)
   rw [←h2 j hj]
   have w1:szv T b n (m+1)=if b m<n then szv T b n m else if b m<2*n then iD (szv T b n m) (b m-n) (T m (2*n+1)) else szv T b n m:=rfl
   rw [w1]
   by_cases e:b m<n
   ·rw [if_pos e,if_neg (by omega),Rat.add_zero]
   ·rw [if_neg e]
    by_cases e1:b m<2*n
    ·rw [if_pos e1]
     by_cases e2:b m=n+j
     ·rw [if_pos e2,show b m-n=j by omega,bA,h2 j hj,←e2,zero];grind
     ·rw [if_neg e2,cG (by omega),Rat.add_zero]
    ·rw [if_neg e1,if_neg (by omega),Rat.add_zero]
theorem aQI {M T:Nat→Nat→Rat} {q:Nat→Rat} {n:Nat} {b:Nat→Nat} (ti:TI n (2*n+2) (lX M q n) T b) (ke:KE n (2*n+2) (lX M q n) T) (lx:LX n T) (hb:∀i,i<n→b i<2*n) (pr:∀i j,i<n→j<n→b i<2*n→b j≠wU n (b i)):Sol M q n (szv T b n n) (swv T b n n):=by
 have inj:∀i j,i<n→j<n→b i=b j→i=j:=fun i j hi hj e=>ti.inj hi hj e
 obtain⟨h1,h2⟩:=aRf (T:=T) inj n (Nat.le_refl n)
 have ew:∀j,j<n→swv T b n n j=bx T b n j:=fun j hj=>by rw [h1 j hj];unfold bx;rw [if_neg (by omega)]
 have ez:∀j,j<n→szv T b n n j=bx T b n (n+j):=fun j hj=>by rw [h2 j hj];unfold bx;rw [if_neg (by omega)]
 have hb':∀i,i<n→b i≤2*n:=fun i hi=>by have:=hb i hi;omega
 have nnb:∀k,k<2*n→0≤bx T b n k:=fun k hk=>by
  by_cases e:∃i,i<n∧b i=k
  ·obtain⟨i,hi,e⟩:=e
   rw [←e,aUl ti hb' hi];exact lx.last hi
  ·rw [aLs (by omega) fun i hi e2=>e ⟨i,hi,e2⟩];exact Rat.le_refl
 refine⟨fun j hj=>by rw [ez j hj];exact nnb _ (by omega),fun j hj=>by rw [ew j hj];exact nnb _ (by omega),fun i hi=>?_,fun j hj=>?_⟩
 ·have:=aTD hi (ke (bx T b n) (fun i hi=>aQS ti hb' hi) i hi) (if_pos rfl)
  rw [aLs (k:=2*n) (by omega) (fun i hi=>by have:=hb i hi;omega),Rat.add_zero] at this
  rw [ew i hi,this]
  congr 1
  exact bM fun j hj=>by rw [ez j hj]
 ·rw [ez j hj,ew j hj]
  by_cases e:∃i,i<n∧b i=n+j
  ·obtain⟨i,hi,e⟩:=e
   right
   refine aLs (by omega) fun i' hi' e2=>?_
   refine pr i i' hi hi' (by omega) ?_
   rw [e2,e];unfold wU;rw [if_neg (by omega)];omega
  ·left;exact aLs (by omega) fun i hi e2=>e ⟨i,hi,e2⟩
theorem aMu {M:Nat→Nat→Rat} {q:Nat→Rat} {n most:Nat}:∀f T b r c cnt,LI n (lX M q n) T b r c→KE n (2*n+2) (lX M q n) T→LX n (pA T r c)→CB n b c→(lem n most f T b r c cnt).2=0→∃z w,(lem n most f T b r c cnt).1.z=mp z n∧(lem n most f T b r c cnt).1.w=mp w n∧Sol M q n z w
 |0,T,b,r,c,cnt,li,ke,lx,cb,h0=>absurd h0 (by unfold lem;decide)
 |f+1,T,b,r,c,cnt,li,ke,lx,cb,h0=>by
  have hc:=li.hc
  have hr:=li.hr
  have ti':=li.ti.pivot hr (show c<2*n+2 by omega) li.hp
  have ke':=ke.pivot hr li.hp
  unfold lem at h0 ⊢
  by_cases e:cnt=most
  ·rw [if_pos e] at h0;exact absurd h0 (by decide)
  ·rw [if_neg e] at h0 ⊢
   by_cases e2:b r=2*n
   ·rw [if_pos e2]
    refine⟨_,_,rfl,rfl,aQI ti' ke' lx (fun i hi=>?_) (cb.pr' hr hc)⟩
    by_cases e3:i=r
    ·rw [e3,bA]
     have:=cb.nc r hr
     omega
    ·rw [cG e3]
     have h5:=li.hb i hi
     have h6:b i≠2*n:=fun h=>e3 (cb.inj i r hi hr (by rw [h,e2]))
     omega
   ·rw [if_neg e2] at h0 ⊢
    have hlt:b r<2*n:=by have:=li.hb r hr;omega
    cases hs:sel (pA T r c) n (if b r<n then b r+n else b r-n) n 0 none with
    |none=>rw [hs] at h0;exact absurd h0 (show¬(15:Int)=0 by decide)
    |some r'=>
     rw [hs] at h0
     obtain⟨s1,s2⟩:=aAD n 0 none r' (fun q hq=>by cases hq) hs
     have hm:=aCX n 0 none r' (fun q hq=>by cases hq) (fun _ k hk=>by omega) hs
     exact aMu f (pA T r c) (iD b r c) r' _ (cnt+1) (li.next e2 hs) ke' (lx.pivot (by omega) (aM5.1 s2) fun k hk hp=>hm k (by omega) (aM5.2 hp)) (cb.next hr hc hlt) h0
theorem aD4 {M:Nat→Nat→Rat} {q:Nat→Rat} {n i:Nat}:lX M q n i (2*n)=-1:=by
 unfold lX;rw [if_neg (by omega),if_neg (by omega),if_pos rfl]
theorem aCS {M:Nat→Nat→Rat} {q:Nat→Rat} {n i:Nat}:lX M q n i (2*n+1)=q i:=by
 unfold lX;rw [if_neg (by omega),if_neg (by omega),if_neg (by omega)]
theorem aRD {q:Nat→Rat}:∀t i,ng q t i=true→∃k,i≤k∧k<i+t∧q k<0
 |0,i,h=>absurd h (by unfold ng;decide)
 |t+1,i,h=>by
  unfold ng at h
  by_cases e:(q i).num.sign<0
  ·refine⟨i,by omega,by omega,?_⟩
   rw [Int.sign_neg_iff,←Int.not_le,Rat.num_nonneg,Rat.not_le] at e;exact e
  ·rw [decide_eq_false e,bU] at h
   obtain⟨k,h1,h2,h3⟩:=aRD t (i+1) h
   exact⟨k,by omega,by omega,h3⟩
theorem aPR {q:Nat→Rat}:∀t i,ng q t i=false→∀k,i≤k→k<i+t→0≤q k
 |0,i,h,k,h1,h2=>by omega
 |t+1,i,h,k,h1,h2=>by
  unfold ng at h
  by_cases e:(q i).num.sign<0
  ·rw [decide_eq_true e,cA] at h;cases h
  ·rw [decide_eq_false e,bU] at h
   by_cases e2:k=i
   ·rw [Int.sign_neg_iff,←Int.not_le,Rat.num_nonneg] at e
    rw [e2];exact Decidable.not_not.1 e
   ·exact aPR t (i+1) h k (by omega) (by omega)
theorem aOQ {M:Nat→Nat→Rat} {q:Nat→Rat} {n:Nat} (hneg:ng q n 0=true):LX n (pA (lX M q n) (xK (lX M q n) n n 0 0) (2*n)):=fun i hi=>by
 have hm:=aEK (n:=n) (T:=lX M q n) n 0 0 (fun k hk=>by omega)
 generalize hr:xK (lX M q n) n n 0 0=r at *
 have hrn:r<n:=by rw [←hr];exact aB0 n 0 0 (aC1 hneg) (by omega)
 by_cases e:i=r
 ·unfold nn
  left
  obtain⟨k,_,k2,k3⟩:=aRD n 0 hneg
  have h1:=(hm k k2).head
  have e1:jY n 0=2*n+1:=rfl
  simp only [e1,aCS] at h1
  show 0<pA (lX M q n) r (2*n) i (jY n 0)
  unfold pA
  rw [if_pos e,e1,aCS,aD4]
  grind
 ·refine(hm i (by omega)).congr fun j=>?_
  unfold pA
  rw [if_neg e,aD4,aD4]
  grind
theorem aPA {n:Nat}:CB n (fun j=>j) (2*n):=
 ⟨fun i j _ _ e=>e,fun i hi=>by show i≠2*n;omega,fun h=>absurd h (Nat.lt_irrefl _),fun i j hi hj _=>by show j≠wU n i;unfold wU;rw [if_pos hi];omega⟩
theorem aN0 {M:Nat→Nat→Rat} {q:Nat→Rat} {n most:Nat} (h0:(u5 M q n most).2=0):∃z w,(u5 M q n most).1.z=mp z n∧(u5 M q n most).1.w=mp w n∧Sol M q n z w:=by
 unfold u5 at h0 ⊢
 cases hneg:ng q n 0
 ·rw [hneg,bU] at h0
  rw [bU]
  refine⟨_,_,rfl,rfl,fun _ _=>Rat.le_refl,fun j hj=>aPR n 0 hneg j (by omega) (by omega),fun i hi=>?_,fun _ _=>Or.inl rfl⟩
  rw [qO fun j _=>show M i j*z0 j=0 from Rat.mul_zero _,Rat.zero_add]
 ·rw [hneg,cA] at h0
  rw [cA]
  exact aMu _ _ _ _ _ _ (aIN (aB0 n 0 0 (aC1 hneg) (by omega))) (fun x hx=>hx) (aOQ hneg) aPA h0
end Go.Proofs.YtldhbdgfpjoamaaGreat
set_option linter.unusedVariables false
namespace Go.Proofs.YtldhbdgfpjoamaaGreat
def psl (f:Nat→Rat):Nat→Nat→Prop
 |0,_=>False
 |t+1,j=>0<f j∨(f j=0∧psl f t (j+1))
theorem psl.congr {f g:Nat→Rat}:∀{t j:Nat},(∀k,f k=g k)→psl f t j→psl g t j
 |0,_,_,h=>h
 |t+1,j,e,h=>by
  unfold psl at h ⊢
  rw [←e j]
  exact h.imp id fun h=>⟨h.1,psl.congr e h.2⟩
theorem psl.add {f g:Nat→Rat}:∀{t j:Nat},psl f t j→nn g t j→psl (fun k=>f k+g k) t j
 |0,_,h,_=>h
 |t+1,j,h1,h2=>by
  unfold psl at h1 ⊢
  unfold nn at h2
  rcases h1 with h1|⟨h1,k1⟩<;>rcases h2 with h2|⟨h2,k2⟩
  ·left;grind
  ·left;grind
  ·left;grind
  ·right;exact⟨by grind,psl.add k1 k2⟩
theorem psl.mul {f:Nat→Rat} {a:Rat} (ha:0<a):∀{t j:Nat},psl f t j→psl (fun k=>a*f k) t j
 |0,_,h=>h
 |t+1,j,h=>by
  unfold psl at h ⊢
  rcases h with h|⟨h,k⟩
  ·left;exact Rat.mul_pos ha h
  ·right;exact⟨by rw [h,Rat.mul_zero],psl.mul ha k⟩
theorem psl.zero {f:Nat→Rat}:∀{t j:Nat},psl f t j→∃k,j≤k∧k<j+t∧f k≠0
 |0,_,h=>h.elim
 |t+1,j,h=>by
  unfold psl at h
  rcases h with h|⟨h,k⟩
  ·exact⟨j,by omega,by omega,by grind⟩
  ·obtain⟨k,h1,h2,h3⟩:=k.zero
   exact⟨k,by omega,by omega,h3⟩
theorem nn.strict {f:Nat→Rat}:∀{t j:Nat},nn f t j→(∃k,j≤k∧k<j+t∧f k≠0)→psl f t j
 |0,_,_,⟨k,h1,h2,_⟩=>by omega
 |t+1,j,h,⟨k,h1,h2,h3⟩=>by
  unfold nn at h
  unfold psl
  rcases h with h|⟨h,h'⟩
  ·exact Or.inl h
  ·refine Or.inr ⟨h,h'.strict ⟨k,?_,by omega,h3⟩⟩
   by_cases e:k=j
   ·subst e;exact absurd h h3
   ·omega
def mem (n:Nat) (b:Nat→Nat) (v:Nat):Prop:=∃i,i<n∧b i=v
structure SI (n:Nat) (Z T:Nat→Nat→Rat) (b:Nat→Nat) (c:Nat):Prop where
 ti:TI n (2*n+2) Z T b
 ke:KE n (2*n+2) Z T
 sp:∃F:Nat→Nat→Rat,∀i k,i<n→k<2*n+2→Z i k=sm (fun j=>F i j*T j k) n
 id:∀i j,i<n→j<n→Z i j=if i=j then 1 else 0
 lx:LX n T
 cb:CB n b c
 hb:∀i,i<n→b i≤2*n
 hc:c<2*n
theorem SI.inj {n:Nat} {Z T:Nat→Nat→Rat} {b:Nat→Nat} {c:Nat} (h:SI n Z T b c):∀i j,i<n→j<n→b i=b j→i=j:=h.cb.inj
theorem SI.pos {n:Nat} {Z T:Nat→Nat→Rat} {b:Nat→Nat} {c:Nat} (h:SI n Z T b c) {i:Nat} (hi:i<n):psl (fun j=>T i (jY n j)) (n+1) 0:=by
 refine(h.lx i hi).strict ?_
 refine Classical.byContradiction fun hno=>?_
 have zero:∀k,k<n→T i k=0:=fun k hk=>by
  refine Classical.byContradiction fun h1=>hno ⟨k+1,by omega,by omega,?_⟩
  unfold jY;rw [if_neg (by omega),show k+1-1=k by omega];exact h1
 obtain⟨E,hE⟩:=h.ti.ex
 have hE0:∀k,k<n→E i k=0:=fun k hk=>by
  have h1:=hE i k hi (by omega)
  rw [zero k hk,aAk,tZ hk fun j hj hne=>by rw [h.id j k hj hk,if_neg hne,Rat.zero_mul],h.id k k hk hk,if_pos rfl,Rat.one_mul] at h1
  exact h1.symm
 have h2:=hE i (b i) hi (h.ti.lt i hi)
 rw [h.ti.un i i hi hi,if_pos rfl,aAk,qO fun j hj=>by rw [hE0 j hj,Rat.mul_zero]] at h2
 exact absurd h2 (by decide)
theorem SI.row {n:Nat} {Z T T':Nat→Nat→Rat} {b b':Nat→Nat} {c c':Nat} (h:SI n Z T b c) (h':SI n Z T' b' c') (hm:∀v,mem n b v↔mem n b' v) {i j:Nat} (hi:i<n) (hj:j<n) (e:b i=b' j) {k:Nat} (hk:k<2*n+2):T i k=T' j k:=by
 obtain⟨E,hE⟩:=h'.ti.ex
 obtain⟨F,hF⟩:=h.sp
 let g:Nat→Rat:=fun m=>sm (fun l=>E j l*F l m) n
 have hg:∀k,k<2*n+2→T' j k=sm (fun m=>g m*T m k) n:=fun k hk=>by
  rw [hE j k hj hk,aAk]
  have e1:sm (fun l=>Z l k*E j l) n=sm (fun l=>sm (fun m=>E j l*F l m*T m k) n) n:=bM fun l hl=>by
   rw [hF l k hl hk,Rat.mul_comm,←rG]
   exact bM fun m _=>by grind
  rw [e1,aB8]
  refine bM fun m _=>?_
  show _=sm (fun l=>E j l*F l m) n*T m k
  rw [Rat.mul_comm,←rG]
  exact bM fun l _=>by grind
 have gd:∀m,m<n→g m=if m=i then 1 else 0:=fun m hmn=>by
  have h1:=hg (b m) (h.ti.lt m hmn)
  rw [tZ hmn fun m' hm' hne=>by rw [h.ti.un m' m hm' hmn,if_neg hne,Rat.mul_zero],h.ti.un m m hmn hmn,if_pos rfl,Rat.mul_one] at h1
  obtain⟨j',hj',e'⟩:=(hm (b m)).1 ⟨m,hmn,rfl⟩
  rw [←h1,←e',h'.ti.un j j' hj hj']
  by_cases e2:m=i
  ·subst e2
   rw [if_pos rfl,if_pos (h'.inj j j' hj hj' (by rw [←e,e']))]
  ·rw [if_neg e2,if_neg fun e3=>e2 (h.inj m i hmn hi (by rw [e,e3,e']))]
 rw [hg k hk,tZ hi fun m hmn hne=>by rw [gd m hmn,if_neg hne,Rat.zero_mul],gd i hi,if_pos rfl,Rat.one_mul]
def aA1 (n:Nat) (T:Nat→Nat→Rat) (x r:Nat):Prop:=0<T r x∧∀k,k<n→0<T k x→aEU T n x k r
theorem aJm {n w r c:Nat} {Z T:Nat→Nat→Rat} (h:∃F:Nat→Nat→Rat,∀i k,i<n→k<w→Z i k=sm (fun j=>F i j*T j k) n) (hr:r<n) (hp:T r c≠0):∃F:Nat→Nat→Rat,∀i k,i<n→k<w→Z i k=sm (fun j=>F i j*pA T r c j k) n:=by
 obtain⟨F,hF⟩:=h
 refine⟨fun i j=>if j=r then sm (fun l=>F i l*T l c) n else F i j,fun i k hi hk=>?_⟩
 rw [hF i k hi hk]
 have e:∀j,F i j*T j k=(if j=r then F i j*T j k-F i j*T j c*(T r k/T r c) else F i j*T j k-F i j*T j c*(T r k/T r c))+(T r k/T r c)*(F i j*T j c):=fun j=>by split<;>grind
 have e1:sm (fun j=>F i j*T j k) n=sm (fun j=>F i j*T j k-(T r k/T r c)*(F i j*T j c)) n+(T r k/T r c)*sm (fun l=>F i l*T l c) n:=by
  rw [aD1];grind
 have e2:sm (fun j=>(if j=r then sm (fun l=>F i l*T l c) n else F i j)*pA T r c j k) n=sm (fun j=>(F i j*T j k-(T r k/T r c)*(F i j*T j c))+(if j=r then(T r k/T r c)*sm (fun l=>F i l*T l c) n else 0)) n:=bM fun j hj=>by
  unfold pA
  by_cases e3:j=r
  ·subst e3
   rw [if_pos rfl,if_pos rfl,if_pos rfl];grind
  ·rw [if_neg e3,if_neg e3,if_neg e3];grind
 rw [e1,e2,aBJ]
 congr 1
 rw [tZ hr fun j hj hne=>if_neg hne,if_pos rfl]
theorem SI.next {n r c:Nat} {Z T:Nat→Nat→Rat} {b:Nat→Nat} (h:SI n Z T b c) (hr:r<n) (hl:aA1 n T c r) (hx:b r<2*n):SI n Z (pA T r c) (iD b r c) (wU n (b r)):=by
 have hc:=h.hc
 have hp:T r c≠0:=by have:=hl.1;grind
 exact⟨h.ti.pivot hr (by omega) hp,h.ke.pivot hr hp,aJm h.sp hr hp,h.id,h.lx.pivot hr hl.1 hl.2,h.cb.next hr (by omega) hx,fun i hi=>by
  by_cases e:i=r
  ·rw [e,bA];omega
  ·rw [cG e];exact h.hb i hi,aIs hx⟩
theorem aIG {n r c:Nat} {b:Nat→Nat} (hi:∀i j,i<n→j<n→b i=b j→i=j) (hr:r<n) (hc:∀i,i<n→b i≠c) (v:Nat):mem n (iD b r c) v↔(v=c∨(mem n b v∧v≠b r)):=by
 constructor
 ·rintro⟨i,h1,h2⟩
  by_cases e:i=r
  ·rw [e,bA] at h2;exact Or.inl h2.symm
  ·rw [cG e] at h2
   exact Or.inr ⟨⟨i,h1,h2⟩,fun h3=>e (hi i r h1 hr (by rw [h2,h3]))⟩
 ·rintro(h|⟨⟨i,h1,h2⟩,h3⟩)
  ·exact⟨r,hr,by rw [bA,h]⟩
  ·have e:i≠r:=fun e=>h3 (by rw [←h2,e])
   exact⟨i,h1,by rw [cG e,h2]⟩
theorem aUT {n r c:Nat} {Z T:Nat→Nat→Rat} {b:Nat→Nat} (h:SI n Z T b c) (hr:r<n) (hl:aA1 n T c r):0<pA T r c r (b r)∧∀r',r'<n→aA1 n (pA T r c) (b r) r'→r'=r:=by
 have hp:=hl.1
 have u:∀i,i<n→T i (b r)=if i=r then 1 else 0:=fun i hi=>h.ti.un i r hi hr
 have hrr:pA T r c r (b r)=1/T r c:=by unfold pA;rw [if_pos rfl,u r hr,if_pos rfl]
 have hpos:0<pA T r c r (b r):=by rw [hrr,Rat.div_def,Rat.one_mul];exact Rat.inv_pos.2 hp
 refine⟨hpos,fun r' hr' hl'=>Classical.byContradiction fun hne=>?_⟩
 have h1:pA T r c r' (b r)=-(T r' c)/T r c:=by
  unfold pA;rw [if_neg hne,u r' hr',if_neg hne,u r hr,if_pos rfl];grind
 have h2:=hl'.1
 have h3:T r' c<0:=by
  refine Rat.not_le.1 fun h4=>?_
  rw [h1] at h2
  have:0≤T r' c*(1/T r c):=Rat.mul_nonneg h4 (by rw [Rat.div_def,Rat.one_mul];exact Rat.le_of_lt (Rat.inv_pos.2 hp))
  grind
 have m:0<T r c/ -(T r' c):=by rw [Rat.div_def];exact Rat.mul_pos hp (Rat.inv_pos.2 (by grind))
 have s:=((h.pos hr').mul m).add (hl'.2 r hr hpos)
 obtain⟨k,_,_,hk⟩:=s.zero
 refine hk ?_
 rw [hrr,h1]
 unfold pA
 rw [if_pos rfl,if_neg hne]
 grind
end Go.Proofs.YtldhbdgfpjoamaaGreat
set_option linter.unusedVariables false
namespace Go.Proofs.YtldhbdgfpjoamaaGreat
theorem psl.nn {f:Nat→Rat}:∀{t j:Nat},psl f t j→nn f t j
 |0,_,h=>h.elim
 |t+1,j,h=>by
  unfold psl at h
  unfold Go.Proofs.YtldhbdgfpjoamaaGreat.nn
  exact h.imp id fun h=>⟨h.1,h.2.nn⟩
theorem nn.congr_le {f g:Nat→Rat}:∀{t j:Nat},(∀k,k<j+t→f k=g k)→nn f t j→nn g t j
 |0,_,_,_=>trivial
 |t+1,j,e,h=>by
  unfold Go.Proofs.YtldhbdgfpjoamaaGreat.nn at h ⊢
  rw [←e j (by omega)]
  exact h.imp id fun h=>⟨h.1,nn.congr_le (fun k hk=>e k (by omega)) h.2⟩
theorem aMf {f:Nat→Rat} (h:∀k,f k=0):∀t j,nn f t j
 |0,_=>trivial
 |t+1,j=>Or.inr ⟨h j,aMf h t (j+1)⟩
theorem aLa {n r c:Nat} {Z T:Nat→Nat→Rat} {b:Nat→Nat} (h:SI n Z T b c) (hr:r<n) (hl:aA1 n T c r):aA1 n (pA T r c) (b r) r:=by
 have hp:=hl.1
 have u:∀i,i<n→T i (b r)=if i=r then 1 else 0:=fun i hi=>h.ti.un i r hi hr
 have hrr:pA T r c r (b r)=1/T r c:=by unfold pA;rw [if_pos rfl,u r hr,if_pos rfl]
 refine⟨(aUT h hr hl).1,fun k hk hkp=>?_⟩
 unfold aEU
 by_cases e:k=r
 ·subst e;exact aMf (fun j=>by grind) _ _
 ·have h1:pA T r c k (b r)=-(T k c)/T r c:=by
   unfold pA;rw [if_neg e,u k hk,if_neg e,u r hr,if_pos rfl];grind
  have h3:T k c<0:=by
   refine Rat.not_le.1 fun h4=>?_
   rw [h1] at hkp
   have:0≤T k c*(1/T r c):=Rat.mul_nonneg h4 (by rw [Rat.div_def,Rat.one_mul];exact Rat.le_of_lt (Rat.inv_pos.2 hp))
   grind
  have m:0<T r c/ -(T k c):=by rw [Rat.div_def];exact Rat.mul_pos hp (Rat.inv_pos.2 (by grind))
  refine(((h.pos hk).mul m).nn).congr fun j=>?_
  rw [hrr,h1]
  unfold pA
  rw [if_pos rfl,if_neg e]
  grind
theorem aDZ {n:Nat} {Z T T':Nat→Nat→Rat} {b b':Nat→Nat} {c c' x r m:Nat} (h:SI n Z T b c) (h':SI n Z T' b' c') (hm:∀v,mem n b v↔mem n b' v) (hr:r<n) (hmn:m<n) (e:b' m=b r) (hx:x<2*n+2) (hl:aA1 n T x r):aA1 n T' x m:=by
 have row:∀i j,i<n→j<n→b i=b' j→∀k,k<2*n+2→T i k=T' j k:=fun i j hi hj e k hk=>h.row h' hm hi hj e hk
 refine⟨by rw [←row r m hr hmn e.symm x hx];exact hl.1,fun k hk hp=>?_⟩
 obtain⟨i,hi,e2⟩:=(hm (b' k)).2 ⟨k,hk,rfl⟩
 have hp2:0<T i x:=by rw [row i k hi hk e2 x hx];exact hp
 refine(hl.2 i hi hp2).congr_le fun j hj=>?_
 have hc:jY n j<2*n+2:=by unfold jY;split<;>omega
 rw [row i k hi hk e2 _ hc,row r m hr hmn e.symm _ hc,row i k hi hk e2 x hx,row r m hr hmn e.symm x hx]
structure Run (n:Nat) (Z:Nat→Nat→Rat) (TT:Nat→Nat→Nat→Rat) (BB:Nat→Nat→Nat) (CC:Nat→Nat) (N:Nat):Prop where
 si:∀k,k≤N→SI n Z (TT k) (BB k) (CC k)
 st:∀k,k<N→∃r,r<n∧aA1 n (TT k) (CC k) r∧BB k r<2*n∧TT (k+1)=pA (TT k) r (CC k)∧BB (k+1)=iD (BB k) r (CC k)∧CC (k+1)=wU n (BB k r)
 beg:∀i,i<n→TT 0 i (wU n (CC 0))≤0
section
variable {n N:Nat} {Z:Nat→Nat→Rat} {TT:Nat→Nat→Nat→Rat} {BB:Nat→Nat→Nat} {CC:Nat→Nat}
theorem Run.prev (h:Run n Z TT BB CC N) {k:Nat} (hk:k<N):∃r,r<n∧aA1 n (TT k) (CC k) r∧aA1 n (TT (k+1)) (wU n (CC (k+1))) r∧(∀r',r'<n→aA1 n (TT (k+1)) (wU n (CC (k+1))) r'→r'=r)∧BB (k+1) r=CC k∧BB k r=wU n (CC (k+1))∧wU n (CC (k+1))<2*n∧
  (∀v,mem n (BB k) v↔(v=wU n (CC (k+1))∨(mem n (BB (k+1)) v∧v≠CC k)))∧(∀v,mem n (BB (k+1)) v↔(v=CC k∨(mem n (BB k) v∧v≠wU n (CC (k+1))))):=by
 obtain⟨r,r1,r2,r3,r4,r5,r6⟩:=h.st k hk
 have hs:=h.si k (by omega)
 have e:wU n (CC (k+1))=BB k r:=by rw [r6,aCT r3]
 have hm:=aIG (v:=0) hs.inj r1 hs.cb.nc
 refine⟨r,r1,r2,?_,?_,by rw [r5,bA],e.symm,by rw [e];exact r3,fun v=>?_,fun v=>?_⟩
 ·rw [e,r4];exact aLa hs r1 r2
 ·rw [e,r4];exact(aUT hs r1 r2).2
 ·rw [r5,aIG hs.inj r1 hs.cb.nc,e]
  constructor
  ·intro hv
   by_cases e2:v=BB k r
   ·exact Or.inl e2
   ·refine Or.inr ⟨Or.inr ⟨hv,e2⟩,fun e3=>?_⟩
    obtain⟨i,hi,hi2⟩:=hv
    exact hs.cb.nc i hi (by rw [hi2,e3])
  ·rintro(hv|⟨hv|hv,hv2⟩)
   ·exact⟨r,r1,hv.symm⟩
   ·exact absurd hv hv2
   ·exact hv.1
 ·rw [r5,aIG hs.inj r1 hs.cb.nc,e]
theorem Run.key (h:Run n Z TT BB CC N):∀i j,i<j→j≤N→CC i=CC j→(∀v,mem n (BB i) v↔mem n (BB j) v)→False
 |i,0,hij,_,_,_=>by omega
 |0,j+1,hij,hj,hc,hs=>by
  obtain⟨r,r1,_,r3,_,r5,_,r7,_⟩:=h.prev (show j<N by omega)
  obtain⟨m,m1,m2⟩:=(hs (BB (j+1) r)).2 ⟨r,r1,rfl⟩
  have l:=aDZ (h.si (j+1) hj) (h.si 0 (by omega)) (fun v=>(hs v).symm) r1 m1 m2 (x:=wU n (CC (j+1))) (by omega) r3
  rw [←hc] at l
  exact absurd l.1 (Rat.not_lt.2 (h.beg m m1))
 |i+1,j+1,hij,hj,hc,hs=>by
  obtain⟨r,r1,_,r3,_,r5,_,r7,r8,_⟩:=h.prev (show j<N by omega)
  obtain⟨q,q1,_,q3,q4,q5,_,_,q8,_⟩:=h.prev (show i<N by omega)
  obtain⟨m,m1,m2⟩:=(hs (BB (j+1) r)).2 ⟨r,r1,rfl⟩
  have l:=aDZ (h.si (j+1) hj) (h.si (i+1) (by omega)) (fun v=>(hs v).symm) r1 m1 m2 (x:=wU n (CC (j+1))) (by omega) r3
  rw [←hc] at l
  have e:=q4 m m1 l
  rw [e,q5,r5] at m2
  refine h.key i j (by omega) (by omega) m2 fun v=>?_
  rw [r8,q8,hs v,hc,m2]
theorem Run.turn (h:Run n Z TT BB CC N):∀g i j,j=i+g→i<j→j≤N→CC j=wU n (CC i)→(∀v,mem n (BB i) v↔mem n (BB j) v)→False
 |0,i,j,hg,hij,_,_,_=>by omega
 |1,i,j,hg,hij,hj,hc,hs=>by
  subst hg
  obtain⟨r,r1,r2,r3,r4,r5,r6,r7,r8,r9⟩:=h.prev (show i<N by omega)
  have h1:=(hs (CC i)).2 ((r9 (CC i)).2 (Or.inl rfl))
  obtain⟨m,m1,m2⟩:=h1
  exact(h.si i (by omega)).cb.nc m m1 m2
 |g+2,i,j,hg,hij,hj,hc,hs=>by
  obtain⟨j',rfl⟩:∃j',j=j'+1:=⟨j-1,by omega⟩
  obtain⟨r,r1,r2,r3,r4,r5,r6,r7,r8,r9⟩:=h.prev (show j'<N by omega)
  obtain⟨q,q1,q2,q3,q4,q5,q6,q7,q8,q9⟩:=h.prev (show i<N by omega)
  have hci:=(h.si i (by omega)).hc
  have ex:wU n (CC (j'+1))=CC i:=by rw [hc,aCT hci]
  rw [ex] at r3 r4 r6 r7 r8 r9
  obtain⟨m,m1,m2⟩:=(hs (BB i q)).1 ⟨q,q1,rfl⟩
  have l:=aDZ (h.si i (by omega)) (h.si (j'+1) hj) hs q1 m1 m2 (x:=CC i) (by omega) q2
  have e:=r4 m m1 l
  rw [e,r5,q6] at m2
  have hci1:=(h.si (i+1) (by omega)).hc
  have s2:∀v,mem n (BB (i+1)) v↔mem n (BB j') v:=fun v=>by rw [q9,r8,hs v,m2]
  by_cases e2:i+1=j'
  ·subst e2
   rcases aNV (n:=n) (x:=CC (i+1)) (by omega) with h1|h1
   ·exact h1 m2.symm
   ·omega
  ·exact h.turn g (i+1) j' (by omega) (by omega) (by omega) m2 s2
end
theorem pig:∀(n m:Nat) (f:Nat→Nat),(∀i,i<n→f i<m)→(∀i j,i<n→j<n→f i=f j→i=j)→n≤m
 |0,m,f,_,_=>Nat.zero_le _
 |n+1,m,f,h1,h2=>by
  have h3:=h1 n (by omega)
  have:=pig n (m-1) (fun i=>if f i<f n then f i else f i-1) (fun i hi=>by
   have a:=h1 i (by omega)
   have b:f i≠f n:=fun e=>by have:=h2 i n (by omega) (by omega) e;omega
   show(if f i<f n then f i else f i-1)<m-1
   split<;>omega) (fun i j hi hj e=>by
   have b:f i≠f n:=fun e=>by have:=h2 i n (by omega) (by omega) e;omega
   have c:f j≠f n:=fun e=>by have:=h2 j n (by omega) (by omega) e;omega
   refine h2 i j (by omega) (by omega) ?_
   have e':(if f i<f n then f i else f i-1)=(if f j<f n then f j else f j-1):=e
   split at e'<;>split at e'<;>omega)
  omega
def idx (n v:Nat):Nat:=if v<n then v else v-n
theorem aD3 {n u v:Nat} (hu:u<2*n) (hv:v<2*n) (h:idx n u=idx n v):u=v∨u=wU n v:=by
 unfold idx at h;unfold wU
 split at h<;>split at h<;>split<;>omega
theorem aFf {n v:Nat} (h:v<2*n):idx n v<n:=by unfold idx;split<;>omega
theorem aOo {n:Nat} {Z T T':Nat→Nat→Rat} {b b':Nat→Nat} {c c':Nat} (h:SI n Z T b c) (h':SI n Z T' b' c') (hm:∀v,mem n b v↔mem n b' v):c'=c∨c'=wU n c:=by
 refine Classical.byContradiction fun hno=>?_
 have hc:=h.hc
 have hc':=h'.hc
 have hd:idx n c≠idx n c':=fun e=>hno (aD3 hc' hc e.symm)
 have no':∀i,i<n→b i≠c'∧b i≠wU n c':=fun i hi=>by
  obtain⟨j,hj,e⟩:=(hm (b i)).1 ⟨i,hi,rfl⟩
  exact⟨fun e2=>h'.cb.nc j hj (by rw [e,e2]),fun e2=>h'.cb.np hc' j hj (by rw [e,e2])⟩
 let f:Nat→Nat:=fun i=>if b i=2*n then idx n c else idx n (b i)
 have lt:∀i,i<n→b i≠2*n→b i<2*n:=fun i hi hne=>by have:=h.hb i hi;omega
 have f1:∀i,i<n→f i<n:=fun i hi=>by
  show(if b i=2*n then idx n c else idx n (b i))<n
  by_cases e:b i=2*n
  ·rw [if_pos e];exact aFf hc
  ·rw [if_neg e];exact aFf (lt i hi e)
 have f2:∀i,i<n→f i≠idx n c':=fun i hi=>by
  show(if b i=2*n then idx n c else idx n (b i))≠idx n c'
  by_cases e:b i=2*n
  ·rw [if_pos e];exact hd
  ·rw [if_neg e]
   intro e2
   rcases aD3 (lt i hi e) hc' e2 with h1|h1
   ·exact(no' i hi).1 h1
   ·exact(no' i hi).2 h1
 have f3:∀i j,i<n→j<n→f i=f j→i=j:=fun i j hi hj e=>by
  have e':(if b i=2*n then idx n c else idx n (b i))=(if b j=2*n then idx n c else idx n (b j)):=e
  by_cases e1:b i=2*n
  ·by_cases e2:b j=2*n
   ·exact h.inj i j hi hj (by rw [e1,e2])
   ·rw [if_pos e1,if_neg e2] at e'
    rcases aD3 (lt j hj e2) hc e'.symm with h1|h1
    ·exact absurd h1 (h.cb.nc j hj)
    ·exact absurd h1 (h.cb.np hc j hj)
  ·by_cases e2:b j=2*n
   ·rw [if_neg e1,if_pos e2] at e'
    rcases aD3 (lt i hi e1) hc e' with h1|h1
    ·exact absurd h1 (h.cb.nc i hi)
    ·exact absurd h1 (h.cb.np hc i hi)
   ·rw [if_neg e1,if_neg e2] at e'
    rcases aD3 (lt i hi e1) (lt j hj e2) e' with h1|h1
    ·exact h.inj i j hi hj h1
    ·exact absurd h1 (h.cb.pr j i hj hi (lt j hj e2))
 have hq:=aFf hc'
 have:=pig n (n-1) (fun i=>if f i<idx n c' then f i else f i-1) (fun i hi=>by
  have a:=f1 i hi
  have b:=f2 i hi
  show(if f i<idx n c' then f i else f i-1)<n-1
  split<;>omega) (fun i j hi hj e=>by
  have a:=f2 i hi
  have b:=f2 j hj
  refine f3 i j hi hj ?_
  have e':(if f i<idx n c' then f i else f i-1)=(if f j<idx n c' then f j else f j-1):=e
  split at e'<;>split at e'<;>omega)
 omega
theorem Run.distinct {n N:Nat} {Z:Nat→Nat→Rat} {TT:Nat→Nat→Nat→Rat} {BB:Nat→Nat→Nat} {CC:Nat→Nat} (h:Run n Z TT BB CC N) {i j:Nat} (hij:i<j) (hj:j≤N) (hs:∀v,mem n (BB i) v↔mem n (BB j) v):False:=by
 rcases aOo (h.si i (by omega)) (h.si j hj) hs with e|e
 ·exact h.key i j hij hj e.symm hs
 ·exact h.turn (j-i) i j (by omega) hij hj e hs
open Classical in
noncomputable def dg (n:Nat) (b:Nat→Nat) (j:Nat):Nat:=if mem n b j then 1 else if mem n b (n+j) then 2 else 0
noncomputable def cde (n:Nat) (b:Nat→Nat):Nat→Nat
 |0=>0
 |j+1=>3*cde n b j+dg n b j
theorem aMU {n:Nat} {b:Nat→Nat} {j:Nat}:dg n b j≤2:=by unfold dg;split;omega;split<;>omega
theorem aO4 {n:Nat} {b:Nat→Nat}:∀m,cde n b m<3^m
 |0=>Nat.one_pos
 |m+1=>by
  have:=aO4 (n:=n) (b:=b) m
  have:=aMU (n:=n) (b:=b) (j:=m)
  show 3*cde n b m+dg n b m<3^(m+1)
  rw [Nat.pow_succ];omega
theorem aMF {n:Nat} {b:Nat→Nat} {j:Nat} (h0:dg n b j=0):∀m,j<m→cde n b m+1<3^m
 |0,h=>by omega
 |m+1,h=>by
  have h1:=aO4 (n:=n) (b:=b) m
  have h2:=aMU (n:=n) (b:=b) (j:=m)
  show 3*cde n b m+dg n b m+1<3^(m+1)
  rw [Nat.pow_succ]
  by_cases e:j=m
  ·subst e;rw [h0];omega
  ·have:=aMF h0 m (by omega);omega
theorem aL3 {n:Nat} {b b':Nat→Nat}:∀m,cde n b m=cde n b' m→∀j,j<m→dg n b j=dg n b' j
 |0,_,j,hj=>by omega
 |m+1,h,j,hj=>by
  have h1:=aMU (n:=n) (b:=b) (j:=m)
  have h2:=aMU (n:=n) (b:=b') (j:=m)
  have h3:3*cde n b m+dg n b m=3*cde n b' m+dg n b' m:=h
  by_cases e:j=m
  ·subst e;omega
  ·exact aL3 m (by omega) j (by omega)
theorem SI.last {n:Nat} {Z T:Nat→Nat→Rat} {b:Nat→Nat} {c:Nat} (h:SI n Z T b c):mem n b (2*n):=by
 refine Classical.byContradiction fun hno=>?_
 have hc:=h.hc
 have lt:∀i,i<n→b i<2*n:=fun i hi=>by
  have:=h.hb i hi
  have:b i≠2*n:=fun e=>hno ⟨i,hi,e⟩
  omega
 have hq:=aFf hc
 have f2:∀i,i<n→idx n (b i)≠idx n c:=fun i hi e=>by
  rcases aD3 (lt i hi) hc e with h1|h1
  ·exact h.cb.nc i hi h1
  ·exact h.cb.np hc i hi h1
 have:=pig n (n-1) (fun i=>if idx n (b i)<idx n c then idx n (b i) else idx n (b i)-1) (fun i hi=>by
  have a:=aFf (lt i hi)
  have b:=f2 i hi
  show(if idx n (_)<idx n c then _ else _)<n-1
  split<;>omega) (fun i j hi hj e=>by
  have a:=f2 i hi
  have b':=f2 j hj
  have e':(if idx n (b i)<idx n c then idx n (b i) else idx n (b i)-1)=(if idx n (b j)<idx n c then idx n (b j) else idx n (b j)-1):=e
  have e3:idx n (b i)=idx n (b j):=by split at e'<;>split at e'<;>omega
  rcases aD3 (lt i hi) (lt j hj) e3 with h1|h1
  ·exact h.inj i j hi hj h1
  ·exact absurd h1 (h.cb.pr j i hj hi (lt j hj)))
 omega
theorem aTe {n:Nat} {b b':Nat→Nat} (hb:∀i,i<n→b i≤2*n) (hp:∀i j,i<n→j<n→b i<2*n→b j≠wU n (b i)) (hb':∀i,i<n→b' i≤2*n) (hp':∀i j,i<n→j<n→b' i<2*n→b' j≠wU n (b' i)) (h:∀j,j<n→dg n b j=dg n b' j) (hl:mem n b (2*n)↔mem n b' (2*n)) (v:Nat):mem n b v↔mem n b' v:=by
 have both:∀{b:Nat→Nat},(∀i j,i<n→j<n→b i<2*n→b j≠wU n (b i))→∀j,j<n→mem n b j→¬mem n b (n+j):=fun hp j hj h1 h2=>by
  obtain⟨i,i1,i2⟩:=h1
  obtain⟨k,k1,k2⟩:=h2
  refine hp i k i1 k1 (by omega) ?_
  rw [k2,i2];unfold wU;rw [if_pos hj];omega
 by_cases e1:v<n
 ·have:=h v e1
  unfold dg at this
  constructor
  ·intro h1;rw [if_pos h1] at this
   refine Classical.byContradiction fun h2=>?_
   rw [if_neg h2] at this;split at this<;>omega
  ·intro h1;rw [if_pos h1] at this
   refine Classical.byContradiction fun h2=>?_
   rw [if_neg h2] at this;split at this<;>omega
 ·by_cases e2:v<2*n
  ·obtain⟨j,rfl⟩:∃j,v=n+j:=⟨v-n,by omega⟩
   have hj:j<n:=by omega
   have:=h j hj
   unfold dg at this
   constructor
   ·intro h1
    rw [if_neg (fun h3=>both hp j hj h3 h1),if_pos h1] at this
    refine Classical.byContradiction fun h2=>?_
    rw [if_neg h2] at this;split at this<;>omega
   ·intro h1
    rw [if_neg (fun h3=>both hp' j hj h3 h1),if_pos h1] at this
    refine Classical.byContradiction fun h2=>?_
    rw [if_neg h2] at this;split at this<;>omega
  ·by_cases e3:v=2*n
   ·rw [e3];exact hl
   ·constructor
    ·rintro⟨i,i1,i2⟩;have:=hb i i1;omega
    ·rintro⟨i,i1,i2⟩;have:=hb' i i1;omega
theorem Run.short {n N:Nat} {Z:Nat→Nat→Rat} {TT:Nat→Nat→Nat→Rat} {BB:Nat→Nat→Nat} {CC:Nat→Nat} (h:Run n Z TT BB CC N):N+2≤3^n:=by
 have hc0:=(h.si 0 (by omega)).hc
 have lt:∀k,k<N+1→cde n (BB k) n<3^n-1:=fun k hk=>by
  have hs:=h.si k (by omega)
  have hc:=hs.hc
  have h0:dg n (BB k) (idx n (CC k))=0:=by
   have a1:¬mem n (BB k) (CC k):=fun⟨i,i1,i2⟩=>hs.cb.nc i i1 i2
   have a2:¬mem n (BB k) (wU n (CC k)):=fun⟨i,i1,i2⟩=>hs.cb.np hc i i1 i2
   unfold dg idx
   unfold wU at a2
   by_cases e:CC k<n
   ·rw [if_pos e] at a2 ⊢
    rw [if_neg a1,if_neg (by rw [Nat.add_comm];exact a2)]
   ·rw [if_neg e] at a2 ⊢
    rw [if_neg a2,if_neg (by rw [show n+(CC k-n)=CC k by omega];exact a1)]
  have:=aMF h0 n (aFf hc)
  omega
 have:=pig (N+1) (3^n-1) (fun k=>cde n (BB k) n) lt (fun i j hi hj e=>by
  have same:∀v,mem n (BB i) v↔mem n (BB j) v:=by
   have si:=h.si i (by omega)
   have sj:=h.si j (by omega)
   exact aTe si.hb si.cb.pr sj.hb sj.cb.pr (aL3 n e) ⟨fun _=>sj.last,fun _=>si.last⟩
  rcases Nat.lt_trichotomy i j with h1|h1|h1
  ·exact(h.distinct h1 (by omega) same).elim
  ·exact h1
  ·exact(h.distinct h1 (by omega) fun v=>(same v).symm).elim)
 omega
end Go.Proofs.YtldhbdgfpjoamaaGreat
set_option linter.unusedVariables false
namespace Go.Proofs.YtldhbdgfpjoamaaGreat
/-- A state of the run. -/
structure SS where
 t:Nat→Nat→Rat
 b:Nat→Nat
 c:Nat
def aGQ (n:Nat) (s:SS):SS:=
 match sel s.t n s.c n 0 none with
 |none=>s
 |some r=>⟨pA s.t r s.c,iD s.b r s.c,wU n (s.b r)⟩
def rJ (n:Nat) (s:SS):Nat→SS
 |0=>s
 |k+1=>aGQ n (rJ n s k)
theorem aFg {n:Nat} {s:SS}:∀k,rJ n (aGQ n s) k=rJ n s (k+1)
 |0=>rfl
 |k+1=>by
  show aGQ n (rJ n (aGQ n s) k)=aGQ n (rJ n s (k+1))
  rw [aFg k]
def aOI (n:Nat) (s:SS):Prop:=∃r,sel s.t n s.c n 0 none=some r∧s.b r≠2*n
theorem aJ7 {n most:Nat}:∀f T b r c cnt,cnt+f=most+1→sel T n c n 0 none=some r→(lem n most f T b r c cnt).2=16→∀k,k+cnt<most→aOI n (rJ n ⟨T,b,c⟩ k)
 |0,T,b,r,c,cnt,hf,hs,h,k,hk=>by omega
 |f+1,T,b,r,c,cnt,hf,hs,h,k,hk=>by
  unfold lem at h
  rw [if_neg (show¬cnt=most by omega)] at h
  by_cases e2:b r=2*n
  ·rw [if_pos e2] at h;exact absurd h (show¬(0:Int)=16 by decide)
  ·rw [if_neg e2] at h
   have e3:aGQ n ⟨T,b,c⟩=⟨pA T r c,iD b r c,wU n (b r)⟩:=by unfold aGQ;simp only [hs]
   cases k with
   |zero=>exact⟨r,hs,e2⟩
   |succ k=>
    rw [←aFg,e3]
    cases hs':sel (pA T r c) n (if b r<n then b r+n else b r-n) n 0 none with
    |none=>rw [hs'] at h;exact absurd h (show¬(15:Int)=16 by decide)
    |some r'=>
     rw [hs'] at h
     exact aJ7 f (pA T r c) (iD b r c) r' _ (cnt+1) (by omega) hs' h k (by omega)
theorem aM0 {n c r:Nat} {T:Nat→Nat→Rat} (h:sel T n c n 0 none=some r):r<n∧aA1 n T c r:=by
 obtain⟨s1,s2⟩:=aAD n 0 none r (fun q hq=>by cases hq) h
 have hm:=aCX n 0 none r (fun q hq=>by cases hq) (fun _ k hk=>by omega) h
 exact⟨by omega,aM5.1 s2,fun k hk hp=>hm k (by omega) (aM5.2 hp)⟩
theorem aJH {n N:Nat} {Z:Nat→Nat→Rat} {s:SS} (hs:SI n Z s.t s.b s.c) (hb:∀i,i<n→s.t i (wU n s.c)≤0) (hg:∀k,k<N→aOI n (rJ n s k)):Run n Z (fun k=>(rJ n s k).t) (fun k=>(rJ n s k).b) (fun k=>(rJ n s k).c) N:=by
 have step:∀k,k<N→SI n Z (rJ n s k).t (rJ n s k).b (rJ n s k).c→∃r,r<n∧aA1 n (rJ n s k).t (rJ n s k).c r∧(rJ n s k).b r<2*n∧(rJ n s (k+1)).t=pA (rJ n s k).t r (rJ n s k).c∧(rJ n s (k+1)).b=iD (rJ n s k).b r (rJ n s k).c∧(rJ n s (k+1)).c=wU n ((rJ n s k).b r):=fun k hk h=>by
  obtain⟨r,r1,r2⟩:=hg k hk
  obtain⟨l1,l2⟩:=aM0 r1
  have e:rJ n s (k+1)=⟨pA (rJ n s k).t r (rJ n s k).c,iD (rJ n s k).b r (rJ n s k).c,wU n ((rJ n s k).b r)⟩:=by
   show aGQ n (rJ n s k)=_
   unfold aGQ;simp only [r1]
  have:=h.hb r l1
  exact⟨r,l1,l2,by omega,by rw [e],by rw [e],by rw [e]⟩
 have si:∀k,k≤N→SI n Z (rJ n s k).t (rJ n s k).b (rJ n s k).c:=fun k=>by
  induction k with
  |zero=>intro _;exact hs
  |succ k ih=>
   intro hk
   have h:=ih (by omega)
   obtain⟨r,r1,r2,r3,r4,r5,r6⟩:=step k (by omega) h
   rw [r4,r5,r6]
   exact h.next r1 r2 r3
 exact⟨si,fun k hk=>step k hk (si k (by omega)),hb⟩
theorem aPM {M:Nat→Nat→Rat} {q:Nat→Rat} {n:Nat} (hneg:ng q n 0=true):SI n (lX M q n) (pA (lX M q n) (xK (lX M q n) n n 0 0) (2*n)) (iD (fun j=>j) (xK (lX M q n) n n 0 0) (2*n)) (wU n (xK (lX M q n) n n 0 0))∧xK (lX M q n) n n 0 0<n∧
  ∀i,i<n→pA (lX M q n) (xK (lX M q n) n n 0 0) (2*n) i (wU n (wU n (xK (lX M q n) n n 0 0)))≤0:=by
 have hlx:=aOQ (M:=M) hneg
 have hr:xK (lX M q n) n n 0 0<n:=aB0 n 0 0 (aC1 hneg) (by omega)
 generalize xK (lX M q n) n n 0 0=r at *
 have hp:lX M q n r (2*n)≠0:=by rw [aD4];decide
 have one:∀i j,i<n→j<n→lX M q n i j=if i=j then 1 else 0:=fun i j hi hj=>by unfold lX;rw [if_pos hj]
 refine⟨⟨aLj.pivot hr (by omega) hp,KE.pivot (fun x hx=>hx) hr hp,aJm ⟨fun i j=>if i=j then 1 else 0,fun i k hi hk=>?_⟩ hr hp,one,hlx,aPA.next hr (Nat.le_refl _) (by omega),fun i hi=>?_,aIs (by omega)⟩,hr,fun i hi=>?_⟩
 ·show lX M q n i k=sm (fun j=>(if i=j then 1 else 0)*lX M q n j k) n
  rw [tZ hi fun j hj hne=>by rw [if_neg fun e=>hne e.symm,Rat.zero_mul],if_pos rfl,Rat.one_mul]
 ·by_cases e:i=r
  ·rw [e,bA];exact Nat.le_refl _
  ·rw [cG e];omega
 ·rw [aCT (by omega)]
  unfold pA
  rw [aD4,aD4,one r r hr hr,if_pos rfl,one i r hi hr]
  by_cases e:i=r
  ·rw [if_pos e];grind
  ·rw [if_neg e,if_neg e];grind
theorem aNt {M:Nat→Nat→Rat} {q:Nat→Rat} {n most:Nat} (hm:3^n≤most):(u5 M q n most).2≠16:=by
 unfold u5
 cases hneg:ng q n 0
 ·rw [bU];exact show¬(0:Int)=16 by decide
 ·rw [cA]
  obtain⟨h1,h2,h3⟩:=aPM (M:=M) hneg
  have hn:=aC1 hneg
  have h3n:3≤3^n:=by
   calc 3=3^1:=rfl
    _≤3^n:=Nat.pow_le_pow_right (by decide) hn
  generalize hr:xK (lX M q n) n n 0 0=r at *
  intro h
  unfold lem at h
  rw [if_neg (show¬0=most by omega),if_neg (show¬r=2*n by omega)] at h
  cases hs:sel (pA (lX M q n) r (2*n)) n (if r<n then r+n else r-n) n 0 none with
  |none=>rw [hs] at h;exact absurd h (show¬(15:Int)=16 by decide)
  |some r'=>
   rw [hs] at h
   have hg:=aJ7 most (pA (lX M q n) r (2*n)) (iD (fun j=>j) r (2*n)) r' _ (0+1) (by omega) hs h
   have run:=aJH (N:=most-1) (s:=⟨pA (lX M q n) r (2*n),iD (fun j=>j) r (2*n),wU n r⟩) h1 h3 (fun k hk=>hg k (by omega))
   have:=run.short
   omega
end Go.Proofs.YtldhbdgfpjoamaaGreat
set_option linter.unusedVariables false
namespace Go.Proofs.YtldhbdgfpjoamaaGreat
theorem aCC {T:Nat→Nat→Rat} {n c:Nat}:∀t i s,sel T n c t i s=none→s=none∧∀k,i≤k→k<i+t→¬0<(T k c).num.sign
 |0,i,s,h=>⟨h,fun k h1 h2=>by omega⟩
 |t+1,i,s,h=>by
  unfold sel at h
  by_cases hp:0<(T i c).num.sign
  ·rw [decide_eq_true hp,cA] at h
   cases s with
   |none=>have:=(aCC t (i+1) (some i) h).1;cases this
   |some p=>
    simp only at h
    cases hl:les T n i (T i c) p (T p c)
    ·rw [hl,bU] at h;have:=(aCC t (i+1) (some p) h).1;cases this
    ·rw [hl,cA] at h;have:=(aCC t (i+1) (some i) h).1;cases this
  ·rw [decide_eq_false hp,bU] at h
   obtain⟨h1,h2⟩:=aCC t (i+1) s h
   refine⟨h1,fun k hk1 hk2=>?_⟩
   by_cases e:k=i
   ·rw [e];exact hp
   ·exact h2 k (by omega) (by omega)
theorem aLZ {n most:Nat}:∀f T b r c cnt,sel T n c n 0 none=some r→(lem n most f T b r c cnt).2=15→∃k,(∀j,j<k→aOI n (rJ n ⟨T,b,c⟩ j))∧sel (rJ n ⟨T,b,c⟩ k).t n (rJ n ⟨T,b,c⟩ k).c n 0 none=none
 |0,T,b,r,c,cnt,hs,h=>absurd h (show¬(16:Int)=15 by decide)
 |f+1,T,b,r,c,cnt,hs,h=>by
  unfold lem at h
  by_cases e:cnt=most
  ·rw [if_pos e] at h;exact absurd h (show¬(16:Int)=15 by decide)
  ·rw [if_neg e] at h
   by_cases e2:b r=2*n
   ·rw [if_pos e2] at h;exact absurd h (show¬(0:Int)=15 by decide)
   ·rw [if_neg e2] at h
    have e3:aGQ n ⟨T,b,c⟩=⟨pA T r c,iD b r c,wU n (b r)⟩:=by unfold aGQ;simp only [hs]
    have first:aOI n (rJ n ⟨T,b,c⟩ 0):=⟨r,hs,e2⟩
    cases hs':sel (pA T r c) n (if b r<n then b r+n else b r-n) n 0 none with
    |none=>
     refine⟨1,fun j hj=>by rw [show j=0 by omega];exact first,?_⟩
     have e4:rJ n ⟨T,b,c⟩ 1=⟨pA T r c,iD b r c,wU n (b r)⟩:=e3
     rw [e4];exact hs'
    |some r'=>
     rw [hs'] at h
     obtain⟨k,k1,k2⟩:=aLZ f (pA T r c) (iD b r c) r' _ (cnt+1) hs' h
     have e4:∀j,rJ n ⟨pA T r c,iD b r c,wU n (b r)⟩ j=rJ n ⟨T,b,c⟩ (j+1):=fun j=>by rw [←e3,aFg]
     refine⟨k+1,fun j hj=>?_,?_⟩
     ·cases j with
      |zero=>exact first
      |succ j=>rw [←e4];exact k1 j (by omega)
     ·rw [←e4];exact k2
def bX (T:Nat→Nat→Rat) (b:Nat→Nat) (n k m:Nat):Rat:=sm (fun i=>if b i=m then T i k else 0) n
theorem aPf {n:Nat} {Z T:Nat→Nat→Rat} {b:Nat→Nat} {c k:Nat} (h:SI n Z T b c) {i:Nat} (hi:i<n):bX T b n k (b i)=T i k:=by
 unfold bX
 rw [tZ hi fun j hj hne=>if_neg fun e=>hne (h.inj j i hj hi e),if_pos rfl]
theorem aFj {n:Nat} {T:Nat→Nat→Rat} {b:Nat→Nat} {k m:Nat} (h:¬mem n b m):bX T b n k m=0:=by
 unfold bX
 exact qO fun i hi=>if_neg fun e=>h ⟨i,hi,e⟩
theorem aLr {n:Nat} {Z T:Nat→Nat→Rat} {b:Nat→Nat} {c k:Nat} (h:SI n Z T b c) (hk:k<2*n+2) {i:Nat} (hi:i<n):sm (fun m=>T i m*(bX T b n k m-if m=k then 1 else 0)) (2*n+2)=0:=by
 have e1:sm (fun m=>T i m*(bX T b n k m-if m=k then 1 else 0)) (2*n+2)=sm (fun m=>T i m*bX T b n k m) (2*n+2)-1*sm (fun m=>if m=k then T i m else 0) (2*n+2):=by
  rw [←aD1]
  refine bM fun m _=>?_
  by_cases e:m=k
  ·rw [if_pos e,if_pos e];grind
  ·rw [if_neg e,if_neg e];grind
 have e2:sm (fun m=>if m=k then T i m else 0) (2*n+2)=T i k:=by
  rw [tZ hk fun m _ hne=>if_neg hne,if_pos rfl]
 have e3:sm (fun m=>T i m*bX T b n k m) (2*n+2)=sm (fun m=>sm (fun j=>if b j=m then T i m*T j k else 0) n) (2*n+2):=bM fun m _=>by
  unfold bX
  rw [←rG]
  refine bM fun j _=>?_
  by_cases e:b j=m
  ·rw [if_pos e,if_pos e]
  ·rw [if_neg e,if_neg e,Rat.mul_zero]
 have e4:sm (fun j=>sm (fun m=>if b j=m then T i m*T j k else 0) (2*n+2)) n=T i k:=by
  have:sm (fun j=>sm (fun m=>if b j=m then T i m*T j k else 0) (2*n+2)) n=sm (fun j=>T i (b j)*T j k) n:=bM fun j hj=>by
   have:=h.ti.lt j hj
   rw [tZ (p:=b j) (by omega) fun m _ hne=>if_neg fun e=>hne e.symm,if_pos rfl]
  rw [this,tZ hi fun j hj hne=>by rw [h.ti.un i j hi hj,if_neg fun e=>hne e.symm,Rat.zero_mul],h.ti.un i i hi hi,if_pos rfl,Rat.one_mul]
 rw [e1,e2,e3,aB8,e4];grind
theorem aLX {M:Nat→Nat→Rat} {q x:Nat→Rat} {n i:Nat} (hi:i<n) (h:sm (fun k=>lX M q n i k*x k) (2*n+2)=0):x i=sm (fun j=>M i j*x (n+j)) n+x (2*n)-q i*x (2*n+1):=by
 have e:2*n+2=(n+n)+2:=by omega
 rw [e,aCR,aCR] at h
 have e1:sm (fun k=>lX M q n i k*x k) n=x i:=by
  have:lX M q n i i=1:=by unfold lX;rw [if_pos hi,if_pos rfl]
  rw [tZ hi fun k hk hne=>by unfold lX;rw [if_pos hk,if_neg fun e=>hne e.symm,Rat.zero_mul],this,Rat.one_mul]
 have e2:sm (fun j=>lX M q n i (n+j)*x (n+j)) n=-(sm (fun j=>M i j*x (n+j)) n):=by
  rw [←aBT]
  refine bM fun j hj=>?_
  unfold lX
  rw [if_neg (by omega),if_pos (by omega),show n+j-n=j by omega,Rat.neg_mul]
 have e3:sm (fun j=>lX M q n i (n+n+j)*x (n+n+j)) 2=-(x (2*n))+q i*x (2*n+1):=by
  show 0+lX M q n i (n+n+0)*x (n+n+0)+lX M q n i (n+n+1)*x (n+n+1)=_
  rw [show n+n+0=2*n by omega,show n+n+1=2*n+1 by omega,aD4,aCS]
  grind
 rw [e1,e2,e3] at h
 grind
structure PSD (M:Nat→Nat→Rat) (q:Nat→Rat) (n:Nat):Prop where
 nn:∀z:Nat→Rat,0≤sm (fun i=>z i*sm (fun j=>M i j*z j) n) n
 ker:∀z:Nat→Rat,sm (fun i=>z i*sm (fun j=>M i j*z j) n) n=0→(∀x:Nat→Rat,sm (fun i=>z i*sm (fun j=>M i j*x j) n) n=0)∧sm (fun i=>z i*q i) n=0
theorem psl.congr_lt {f g:Nat→Rat}:∀{t j:Nat},psl f t j→(∀k,k<j+t→f k=g k)→psl g t j
 |0,_,h,_=>h
 |t+1,j,h,e=>by
  unfold psl at h ⊢
  rw [←e j (by omega)]
  exact h.imp _root_.id fun h=>⟨h.1,h.2.congr_lt fun k hk=>e k (by omega)⟩
theorem psl.ex {f:Nat→Rat}:∀{t j:Nat},psl f t j→∃k,j≤k∧k<j+t∧0<f k
 |0,_,h=>h.elim
 |t+1,j,h=>by
  unfold psl at h
  rcases h with h|⟨_,h⟩
  ·exact⟨j,by omega,by omega,h⟩
  ·obtain⟨k,h1,h2,h3⟩:=h.ex
   exact⟨k,by omega,by omega,h3⟩
theorem aKU {f:Nat→Rat}:∀{n:Nat},(∀i,i<n→0≤f i)→sm f n=0→∀i,i<n→f i=0
 |0,_,_,i,hi=>by omega
 |n+1,h,e,i,hi=>by
  have h1:=aBA (f:=f) (n:=n) fun i hi=>h i (by omega)
  have h2:=h n (by omega)
  have h3:sm f n+f n=0:=e
  by_cases e2:i=n
  ·rw [e2];grind
  ·exact aKU (f:=f) (n:=n) (fun i hi=>h i (by omega)) (by grind) i (by omega)
theorem aSG {M:Nat→Nat→Rat} {q:Nat→Rat} {n N:Nat} {TT:Nat→Nat→Nat→Rat} {BB:Nat→Nat→Nat} {CC:Nat→Nat} (hP:PSD M q n) (run:Run n (lX M q n) TT BB CC N) {r:Nat} (hr:r<n) (hb0:∀v,mem n (BB 0) v↔(v=2*n∨(v<n∧v≠r))) (hc0:CC 0=wU n r) (hmin:∀k,k<n→nn (fun j=>lX M q n k (jY n j)-lX M q n r (jY n j)) (n+1) 0) (hno:∀i,i<n→¬0<TT N i (CC N)):False:=by
 have hs:=run.si N (Nat.le_refl _)
 have hc:=hs.hc
 generalize hT:TT N=T at *
 generalize hB:BB N=b at *
 generalize hC:CC N=c at *
 have hcb:¬mem n b c:=fun⟨i,i1,i2⟩=>hs.cb.nc i i1 i2
 have hcp:¬mem n b (wU n c):=fun⟨i,i1,i2⟩=>hs.cb.np hc i i1 i2
 have hpair:∀j,j<n→mem n b j→¬mem n b (n+j):=fun j hj h1 h2=>by
  obtain⟨i,i1,i2⟩:=h1
  obtain⟨k,k1,k2⟩:=h2
  refine hs.cb.pr i k i1 k1 (by omega) ?_
  rw [k2,i2];unfold wU;rw [if_pos hj];omega
 let y:Nat→Rat:=fun m=>(if m=c then 1 else 0)-bX T b n c m
 have ey:∀m,y m=(if m=c then 1 else 0)-bX T b n c m:=fun m=>rfl
 have y0:∀m,0≤y m:=fun m=>by
  rw [ey]
  by_cases e:mem n b m
  ·obtain⟨i,i1,i2⟩:=e
   rw [←i2,aPf hs i1,if_neg (fun e=>hcb ⟨i,i1,e⟩)]
   have:=hno i i1
   grind
  ·rw [aFj e];split<;>grind
 have ysup:∀m,y m≠0→m=c∨mem n b m:=fun m h=>Classical.byContradiction fun h1=>h (by
  rw [ey,aFj (fun h2=>h1 (Or.inr h2)),if_neg (fun h2=>h1 (Or.inl h2))];grind)
 have yeq:∀i,i<n→y i=sm (fun j=>M i j*y (n+j)) n+y (2*n):=fun i hi=>by
  have h1:=aLX hi (hs.ke _ (fun i hi=>aLr hs (k:=c) (by omega) hi) i hi)
  have h2:sm (fun j=>M i j*(bX T b n c (n+j)-if n+j=c then 1 else 0)) n=-(sm (fun j=>M i j*y (n+j)) n):=by
   rw [←aBT];exact bM fun j _=>by rw [ey];grind
  have h3:bX T b n c (2*n+1)=0:=aFj (fun⟨i,i1,i2⟩=>by have:=hs.hb i i1;omega)
  rw [h2,h3,if_neg (show¬2*n+1=c by omega)] at h1
  rw [ey i,ey (2*n)]
  grind
 have X:∀k,k<2*n+2→(k<n∨k=2*n+1)→∀i,i<n→bX T b n k i=sm (fun j=>M i j*bX T b n k (n+j)) n+bX T b n k (2*n)+lX M q n i k:=fun k hk hk2 i hi=>by
  have h1:=aLX hi (hs.ke _ (fun i hi=>aLr hs hk hi) i hi)
  have h2:sm (fun j=>M i j*(bX T b n k (n+j)-if n+j=k then 1 else 0)) n=sm (fun j=>M i j*bX T b n k (n+j)) n:=bM fun j hj=>by
   rw [if_neg (show¬n+j=k by omega)];grind
  have h3:bX T b n k (2*n+1)=0:=aFj (fun⟨i,i1,i2⟩=>by have:=hs.hb i i1;omega)
  rw [h2,h3,if_neg (show¬2*n=k by omega)] at h1
  rcases hk2 with hk2|hk2
  ·rw [if_neg (show¬2*n+1=k by omega)] at h1
   have:lX M q n i k=if i=k then 1 else 0:=by unfold lX;rw [if_pos hk2]
   rw [this];grind
  ·subst hk2
   rw [if_pos rfl,if_neg (show¬i=2*n+1 by omega)] at h1
   rw [aCS];grind
 have cross:∀k,∀j,j<n→y (n+j)*bX T b n k j=0:=fun k j hj=>by
  by_cases e:mem n b j
  ·have:y (n+j)=0:=Classical.byContradiction fun h=>by
    rcases ysup _ h with h1|h1
    ·refine hcp ?_
     rw [←h1];unfold wU;rw [if_neg (by omega),show n+j-n=j by omega];exact e
    ·exact hpair j hj e h1
   rw [this,Rat.zero_mul]
  ·rw [aFj e,Rat.mul_zero]
 have yy:∀j,j<n→y (n+j)*y j=0:=fun j hj=>by
  by_cases e:y (n+j)=0
  ·rw [e,Rat.zero_mul]
  ·have:y j=0:=Classical.byContradiction fun h=>by
    rcases ysup _ e with h1|h1
    ·rcases ysup _ h with h2|h2
     ·omega
     ·refine hcp ?_
      rw [←h1];unfold wU;rw [if_neg (by omega),show n+j-n=j by omega];exact h2
    ·rcases ysup _ h with h2|h2
     ·refine hcp ?_
      rw [←h2];unfold wU;rw [if_pos hj,Nat.add_comm];exact h1
     ·exact hpair j hj h2 h1
   rw [this,Rat.mul_zero]
 let z:Nat→Rat:=fun j=>y (n+j)
 have sumM:∀x:Nat→Rat,∀s:Rat,∀g:Nat→Rat,sm (fun i=>z i*(sm (fun j=>M i j*x j) n+s+g i)) n=sm (fun i=>z i*sm (fun j=>M i j*x j) n) n+s*sm z n+sm (fun i=>z i*g i) n:=fun x s g=>by
  rw [←rG,←aBJ,←aBJ]
  exact bM fun i _=>by grind
 have s0:sm (fun i=>z i*sm (fun j=>M i j*z j) n) n+y (2*n)*sm z n=0:=by
  have h1:sm (fun i=>z i*y i) n=0:=qO fun j hj=>yy j hj
  have h2:sm (fun i=>z i*y i) n=sm (fun i=>z i*(sm (fun j=>M i j*z j) n+y (2*n)+(fun _=>(0:Rat)) i)) n:=bM fun i hi=>by
   rw [yeq i hi];show _=z i*(_+0);rw [Rat.add_zero]
  rw [h2,sumM,qO (f:=fun i=>z i*(fun _=>(0:Rat)) i) fun i _=>Rat.mul_zero _,Rat.add_zero] at h1
  exact h1
 have z0:∀j,0≤z j:=fun j=>y0 _
 have sz:0≤sm z n:=aBA fun i _=>z0 i
 have p1:=hP.nn z
 have p2:0≤y (2*n)*sm z n:=Rat.mul_nonneg (y0 _) sz
 have zero:sm (fun i=>z i*sm (fun j=>M i j*z j) n) n=0:=by grind
 obtain⟨k1,k2⟩:=hP.ker z zero
 obtain⟨i0,i01,i02⟩:=hs.last
 by_cases hσ:sm z n=0
 ·
  have hz:∀j,j<n→z j=0:=aKU (fun i _=>z0 i) hσ
  have yall:∀i,i<n→y i=y (2*n):=fun i hi=>by
   rw [yeq i hi,qO fun j hj=>by rw [show y (n+j)=0 from hz j hj,Rat.mul_zero],Rat.zero_add]
  have yc:y c=1:=by rw [ey,if_pos rfl,aFj hcb];grind
  have hcn:c<n:=Classical.byContradiction fun h=>by
   have:z (c-n)=0:=hz _ (by omega)
   have e:z (c-n)=y c:=by show y (n+(c-n))=y c;rw [show n+(c-n)=c by omega]
   rw [e,yc] at this;exact absurd this (by decide)
  have wb:∀i,i<n→i≠c→mem n b i:=fun i hi hne=>by
   rcases ysup i (by rw [yall i hi,←yall c hcn,yc];decide) with h|h
   ·exact absurd h hne
   ·exact h
  have zb:∀j,j<n→¬mem n b (n+j):=fun j hj h=>by
   by_cases e:j=c
   ·refine hcp ?_;unfold wU;rw [if_pos hcn,Nat.add_comm,←e];exact h
   ·exact hpair j hj (wb j hj e) h
  have same:∀v,mem n b v↔(v=2*n∨(v<n∧v≠c)):=fun v=>by
   constructor
   ·intro h
    by_cases e1:v<n
    ·exact Or.inr ⟨e1,fun e=>hcb (e▸h)⟩
    ·by_cases e2:v<2*n
     ·exact absurd (show mem n b (n+(v-n)) by rw [show n+(v-n)=v by omega];exact h) (zb (v-n) (by omega))
     ·obtain⟨i,i1,i2⟩:=h
      have:=hs.hb i i1
      exact Or.inl (by omega)
   ·rintro(h|⟨h1,h2⟩)
    ·rw [h];exact hs.last
    ·exact wb v h1 h2
  have diff:∀i,i<n→i≠c→psl (fun j=>lX M q n i (jY n j)-lX M q n c (jY n j)) (n+1) 0:=fun i hi hne=>by
   obtain⟨m,m1,m2⟩:=wb i hi hne
   refine(hs.pos m1).congr_lt fun j hj=>?_
   have hl:jY n j<n∨jY n j=2*n+1:=by unfold jY;split<;>omega
   have a1:=X (jY n j) (by omega) hl i hi
   have a2:=X (jY n j) (by omega) hl c hcn
   have zz:∀i',sm (fun j'=>M i' j'*bX T b n (jY n j) (n+j')) n=0:=fun i'=>qO fun j' hj'=>by rw [aFj (zb j' hj'),Rat.mul_zero]
   rw [zz,←m2,aPf hs m1] at a1
   rw [zz,aFj hcb] at a2
   rw [m2] at a1
   grind
  have hcr:c=r:=Classical.byContradiction fun hne=>by
   have h1:=(diff r hr (fun e=>hne e.symm)).add (hmin c hcn)
   obtain⟨k,_,_,h3⟩:=h1.zero
   exact h3 (by grind)
  by_cases hN:N=0
  ·subst hN
   rw [hC,hcr] at hc0
   unfold wU at hc0
   rw [if_pos hr] at hc0
   omega
  ·refine run.distinct (i:=0) (j:=N) (by omega) (Nat.le_refl _) fun v=>?_
   rw [hb0,hB,same,hcr]
 ·have hσ':0<sm z n:=by grind
  have h0:∀k,k<2*n+2→(k<n∨k=2*n+1)→T i0 k*sm z n+sm (fun i=>z i*lX M q n i k) n=0:=fun k hk hk2=>by
   have h1:sm (fun i=>z i*bX T b n k i) n=0:=qO fun j hj=>cross k j hj
   have h2:sm (fun i=>z i*bX T b n k i) n=sm (fun i=>z i*(sm (fun j=>M i j*bX T b n k (n+j)) n+bX T b n k (2*n)+lX M q n i k)) n:=bM fun i hi=>by rw [X k hk hk2 i hi]
   rw [h2,sumM (fun j=>bX T b n k (n+j)) (bX T b n k (2*n)) (fun i=>lX M q n i k),k1,Rat.zero_add,←i02,aPf hs i01] at h1
   exact h1
  obtain⟨j,_,j2,j3⟩:=(hs.pos i01).ex
  have hl:jY n j<n∨jY n j=2*n+1:=by unfold jY;split<;>omega
  have e:=h0 (jY n j) (by omega) hl
  rcases hl with hl|hl
  ·have e2:sm (fun i=>z i*lX M q n i (jY n j)) n=z (jY n j):=by
    rw [tZ hl fun i hi hne=>by unfold lX;rw [if_pos hl,if_neg hne,Rat.mul_zero]]
    unfold lX;rw [if_pos hl,if_pos rfl,Rat.mul_one]
   rw [e2] at e
   have:=Rat.mul_pos j3 hσ'
   have:=z0 (jY n j)
   grind
  ·rw [hl] at e j3
   have e2:sm (fun i=>z i*lX M q n i (2*n+1)) n=0:=by
    rw [←k2];exact bM fun i _=>by rw [aCS]
   rw [e2] at e
   have:=Rat.mul_pos j3 hσ'
   grind
end Go.Proofs.YtldhbdgfpjoamaaGreat
set_option linter.unusedVariables false
namespace Go.Proofs.YtldhbdgfpjoamaaGreat
/-- The first numbers, then zeros. -/
def tz (z:Nat→Rat) (k:Nat):Nat→Rat:=fun j=>if j<k then z j else 0
theorem aFk {z:Nat→Rat} {k j:Nat} (h:j≠k):tz z (k+1) j=tz z k j:=by
 unfold tz
 by_cases e:j<k
 ·rw [if_pos e,if_pos (by omega)]
 ·rw [if_neg e,if_neg (by omega)]
theorem aL7 {z:Nat→Rat} {k j:Nat} (h:j=k):tz z (k+1) j=z k:=by
 subst h;unfold tz;rw [if_pos (Nat.lt_succ_self _)]
theorem aEm {z:Nat→Rat} {k j:Nat} (h:k≤j):tz z k j=0:=by
 unfold tz;rw [if_neg (by omega)]
theorem aT1 {z:Nat→Rat} {k C:Nat} {n:Nat} (hC:1≤C) (h:∀j,j<n→Bd C (z j)):∀j,j<n→Bd C (tz z k j):=fun j hj=>by
 unfold tz;split
 ·exact h j hj
 ·exact Bd.zero.mono hC
theorem aFp {v:List Rat} {l:List aA} {z:Nat→Rat} {k r r' q:Nat} (hq:vq v l r q) (hk:k=off v l r+q) (ne:r'≠r):pz v l (tz z (k+1)) r'=pz v l (tz z k) r':=by
 have e:∀q',vq v l r' q'→tz z (k+1) (off v l r'+q')=tz z k (off v l r'+q'):=fun q' h'=>aFk fun e=>ne (aFA h' hq (by omega)).1
 have e0:tz z (k+1) (off v l r')=tz z k (off v l r'):=e 0 (.inl rfl)
 unfold pz
 rw [e0]
 by_cases ht:(hU l r').t.length=0
 ·rw [if_pos ht,if_pos ht]
 ·rw [if_neg ht,if_neg ht]
  by_cases hs:(rt (hU l r').t v).num.sign=0
  ·have hst:stk v (hU l r')=true:=by
    unfold stk;rw [decide_eq_true (show 0<(hU l r').t.length by omega),decide_eq_true hs];rfl
   rw [if_neg (fun h=>h hs),if_neg (fun h=>h hs),e 1 (.inr ⟨hst,by omega⟩),e 2 (.inr ⟨hst,by omega⟩)]
  ·rw [if_pos hs,if_pos hs]
theorem aTj {v:List Rat} {l:List aA} {z:Nat→Rat} {k r:Nat} (hk:k=off v l r):pz v l (tz z (k+1)) r=⟨z k,if(hU l r).t.length=0 then(pz v l (tz z k) r).f else(((-(rt (hU l r).t v).num.sign:Int):Rat)/((1:Int):Rat))*((hU l r).mu*z k)⟩:=by
 have e0:tz z (k+1) (off v l r)=z k:=aL7 hk.symm
 have e1:tz z (k+1) (off v l r+1)=0:=aEm (by omega)
 have e2:tz z (k+1) (off v l r+2)=0:=aEm (by omega)
 unfold pz
 rw [e0,e1,e2]
 by_cases ht:(hU l r).t.length=0
 ·simp only [if_pos ht]
 ·simp only [if_neg ht]
  by_cases hs:(rt (hU l r).t v).num.sign=0
  ·have z:((-(0:Int):Int):Rat)/((1:Int):Rat)=0:=by decide+kernel
   rw [if_neg (fun h=>h hs),hs,z,Rat.zero_mul,Rat.sub_self]
  ·rw [if_pos hs]
theorem aHI {v:List Rat} {l:List aA} {z:Nat→Rat} {r:Nat} (h:stk v (hU l r)=true):pz v l z r=⟨z (off v l r),z (off v l r+1)-z (off v l r+2)⟩:=by
 obtain⟨s1,s2⟩:=aK1 h
 unfold pz
 rw [if_neg s1,if_neg (fun h=>h s2)]
theorem aS1 {v:List Rat} {l:List aA} {z:Nat→Rat} {k r:Nat} (h:stk v (hU l r)=true) (hk:k=off v l r+1):pz v l (tz z (k+1)) r=⟨(pz v l (tz z k) r).n,(pz v l (tz z k) r).f+z k⟩:=by
 rw [aHI h,aHI h,aFk (show off v l r≠k by omega),aL7 (show off v l r+1=k by omega),aEm (show k+1≤off v l r+2 by omega),aEm (show k≤off v l r+1 by omega),aEm (show k≤off v l r+2 by omega)]
 simp [Rat.sub_eq_add_neg,Rat.add_zero,Rat.neg_zero,Rat.zero_add]
theorem aTE {v:List Rat} {l:List aA} {z:Nat→Rat} {k r:Nat} (h:stk v (hU l r)=true) (hk:k=off v l r+2):pz v l (tz z (k+1)) r=⟨(pz v l (tz z k) r).n,(pz v l (tz z k) r).f-z k⟩:=by
 rw [aHI h,aHI h,aFk (show off v l r≠k by omega),aFk (show off v l r+1≠k by omega),aL7 (show off v l r+2=k by omega),aEm (show k≤off v l r+2 by omega)]
 simp [Rat.sub_eq_add_neg,Rat.add_zero,Rat.neg_zero]
theorem aS0 {v:List Rat} {l:List aA} {z:Nat→Rat} {k r:Nat} (h:stk v (hU l r)=true) (hk:k=off v l r+3):pz v l (tz z (k+1)) r=pz v l (tz z k) r:=by
 rw [aHI h,aHI h,aFk (show off v l r≠k by omega),aFk (show off v l r+1≠k by omega),aFk (show off v l r+2≠k by omega)]
theorem aH6 {v:List Rat} {l:List aA} {z:Nat→Rat} {k r q:Nat} {P:Nat→aI} {x:aI} (hq:vq v l r q) (hk:k=off v l r+q) (hx:x=pz v l (tz z (k+1)) r) (hP:∀i,i≠r→P i=pz v l (tz z k) i):mp (iD P r x) l.length=mp (pz v l (tz z (k+1))) l.length:=cJ fun i _=>by
 by_cases e:i=r
 ·subst e;rw [bA,hx]
 ·rw [cG e,aFp hq hk e];exact hP i e
theorem aOz {d:List aD} {f v:List Rat} {l:List aA} {z:Nat→Rat} {C:Nat} {v10:aW×Int} (hv:sV 64 v) (hl:RsC l) (hll:l.length≤100) (hz:∀j,j<off v l l.length→Bd C (z j)) (hC1:1≤C) (hC:C≤100000000) (h10:v10.1.z=mp z (off v l l.length)) {K:Nat} (hK:5000≤K):∀(t k fu:Nat),k+t=off v l l.length→t<fu→dM K d f v l ((unk v l l.length).map pu) v10 fu (mp (pz v l (tz z k)) l.length) (k:Int)=some (mp (pz v l (tz z (off v l l.length))) l.length)
 |0,k,fu,hi,hk=>by
  obtain⟨k',rfl,_⟩:=bD hk
  have e:k=off v l l.length:=by omega
  rw [e]
  simp only [dM,vK,dF (show¬(off v l l.length:Int)<(off v l l.length:Int) by omega),bU]
 |t+1,k,fu,hi,hk=>by
  obtain⟨k',rfl,_⟩:=bD hk
  have hkl:k<off v l l.length:=by omega
  have h4:=tJ (v:=v) (l:=l) l.length
  obtain⟨r,q,h1,h2,h3⟩:=vR l.length k hkl
  have hq3:=vq3 h2
  have ih:=aOz (d:=d) (f:=f) hv hl hll hz hC1 hC h10 hK t (k+1) k' (by omega) (by omega)
  have hb:=aGx (aT1 (k:=k) hC1 hz) hl r h1
  have hc:=hz k hkl
  have rU:=rdU (v:=v) (l:=l) h2 h1
  rw [←h3] at rU
  have st:∀x,oO (mp (pz v l (tz z k)) l.length) (r:Int) x=some (mp (iD (pz v l (tz z k)) r x) l.length):=fun x=>t8 h1
  by_cases q0:q=0
  ·subst q0
   have hk0:k=off v l r:=h3
   have st2:∀x y,oO (mp (iD (pz v l (tz z k)) r x) l.length) (r:Int) y=some (mp (iD (iD (pz v l (tz z k)) r x) r y) l.length):=fun x y=>t8 h1
   have rd2:∀x,bL (mp (iD (pz v l (tz z k)) r x) l.length) (r:Int)=some x:=fun x=>by rw [eD h1,bA]
   have p0':=aTj (z:=z) hk0
   by_cases ht:(hU l r).t.length=0
   ·rw [if_pos ht] at p0'
    have cF:=aH6 (P:=pz v l (tz z k)) h2 h3 p0'.symm (fun i _=>rfl)
    simp only [dM,vK,dT (show(k:Int)<(off v l l.length:Int) by omega),cA,rU,oB,eD h1,Int.natCast_zero,qT (show(0:Int)=0 from rfl),h10,eD (f:=z) hkl,st,aDW h1,dF (show¬(0:Int)<((hU l r).t.length:Int) by omega),bU,oC (i:=k) (by omega),cF]
    exact ih
   ·rw [if_neg ht] at p0'
    have cF:=aH6 (P:=iD (pz v l (tz z k)) r ⟨z k,(pz v l (tz z k) r).f⟩) h2 h3 p0'.symm (fun i hi=>cG hi)
    simp only [dM,vK,dT (show(k:Int)<(off v l l.length:Int) by omega),cA,rU,oB,eD h1,Int.natCast_zero,qT (show(0:Int)=0 from rfl),h10,eD (f:=z) hkl,st,aDW h1,dT (show(0:Int)<((hU l r).t.length:Int) by omega),bA,aF1 hv (hl _ (lB h1)) hc (by omega) (show 13≤K by omega),st2,oC (i:=k) (by omega),cF]
    exact ih
  ·have hst:stk v (hU l r)=true:=by rcases h2 with h|h;exact absurd h q0;exact h.1
   by_cases q1:q=1
   ·subst q1
    have cF:=aH6 (P:=pz v l (tz z k)) h2 h3 (aS1 (z:=z) hst h3).symm (fun i _=>rfl)
    simp only [dM,vK,dT (show(k:Int)<(off v l l.length:Int) by omega),cA,rU,oB,eD h1,Int.natCast_one,qF (show(1:Int)≠0 by omega),qT (show(1:Int)=1 from rfl),bU,h10,eD (f:=z) hkl,s6 hb.2 hc (by omega) (by omega),st,oC (i:=k) (by omega),cF]
    exact ih
   ·by_cases q2:q=2
    ·subst q2
     have cF:=aH6 (P:=pz v l (tz z k)) h2 h3 (aTE (z:=z) hst h3).symm (fun i _=>rfl)
     simp only [dM,vK,dT (show(k:Int)<(off v l l.length:Int) by omega),cA,rU,oB,eD h1,qF (show((2:Nat):Int)≠0 by omega),qF (show((2:Nat):Int)≠1 by omega),qT (show((2:Nat):Int)=2 from rfl),bU,h10,eD (f:=z) hkl,zD hb.2 hc (by omega) (by omega),st,oC (i:=k) (by omega),cF]
     exact ih
    ·have q3:q=3:=by omega
     subst q3
     have cF:mp (pz v l (tz z k)) l.length=mp (pz v l (tz z (k+1))) l.length:=cJ fun i _=>by
      by_cases e:i=r
      ·subst e;exact(aS0 hst h3).symm
      ·exact(aFp h2 h3 e).symm
     simp only [dM,vK,dT (show(k:Int)<(off v l l.length:Int) by omega),cA,rU,oB,eD h1,qF (show((3:Nat):Int)≠0 by omega),qF (show((3:Nat):Int)≠1 by omega),qF (show((3:Nat):Int)≠2 by omega),bU,oC (i:=k) (by omega)]
     rw [cF]
     exact ih
end Go.Proofs.YtldhbdgfpjoamaaGreat
set_option linter.unusedVariables false
namespace Go.Proofs.YtldhbdgfpjoamaaGreat
theorem aTt.sbd {s:bH} (hs:aTt s):SB s.dofs s.load s.v s.rows:=by
 have hn1:=hs.n1
 have hn4:=hs.n4
 have hll:=hs.ll
 have hvl:=hs.vl
 have hrl:=hs.rl
 exact⟨fun x hx=>(hs.dofs x hx).1,by omega,fun x hx=>(hs.load x hx).mono (by omega),by omega,fun x hx=>(hs.v x hx).mono (by omega),by omega,hs.mus,by omega⟩
end Go.Proofs.YtldhbdgfpjoamaaGreat
set_option linter.unusedVariables false
namespace Go.Proofs.YtldhbdgfpjoamaaGreat
theorem aN2 {n B:Nat} {T:Nat→Nat→Rat} {b:Nat→Nat} (hT:Bdx n (2*n+2) B T) (hB:1≤B):∀i,i≤n→∀j,Bd B (szv T b n i j)
 |0,_,j=>Bd.zero.mono hB
 |i+1,h,j=>by
  have ih:=aN2 (b:=b) hT hB i (by omega)
  unfold szv
  split
  ·exact ih j
  ·split
   ·by_cases e:j=b i-n
    ·subst e;rw [bA];exact hT i _ (by omega) (by omega)
    ·rw [cG e];exact ih j
   ·exact ih j
theorem aRh {n most B:Nat} {Z:Nat→Nat→Rat} (hZ:Sm n B Z) (hB:1≤B):∀(f:Nat) (T:Nat→Nat→Rat) (b:Nat→Nat) (r c cnt:Nat),LI n Z T b r c→(lem n most f T b r c cnt).2=0→(lem n most f T b r c cnt).1.z.length=n∧sV B (lem n most f T b r c cnt).1.z
 |0,T,b,r,c,cnt,h,h0=>absurd (show(16:Int)=0 from h0) (by decide)
 |f+1,T,b,r,c,cnt,h,h0=>by
  unfold lem at h0 ⊢
  by_cases e:cnt=most
  ·rw [if_pos e] at h0;exact absurd h0 (by decide)
  ·rw [if_neg e] at h0 ⊢
   have hcw:=h.hc
   by_cases e2:b r=2*n
   ·rw [if_pos e2]
    have ti':=h.ti.pivot h.hr (show c<2*n+2 by omega) h.hp
    exact⟨bO _ _,z7 fun j _=>aN2 (hZ _ _ ti') hB n (Nat.le_refl _) j⟩
   ·rw [if_neg e2] at h0 ⊢
    cases hs:sel (pA T r c) n (if b r<n then b r+n else b r-n) n 0 none with
    |none=>rw [hs] at h0;exact absurd (show(15:Int)=0 from h0) (by decide)
    |some r'=>
     rw [hs] at h0
     exact aRh hZ hB f _ _ _ _ _ (h.next e2 hs) h0
theorem aLd {M:Nat→Nat→Rat} {q:Nat→Rat} {n B most:Nat} (hZ:Sm n B (lX M q n)) (hB:1≤B) (h0:(u5 M q n most).2=0):(u5 M q n most).1.z.length=n∧sV B (u5 M q n most).1.z:=by
 unfold u5 at h0 ⊢
 by_cases hneg:ng q n 0=true
 ·rw [hneg,cA] at h0 ⊢
  exact aRh hZ hB _ _ _ _ _ _ (aIN (aB0 n 0 0 (aC1 hneg) (by omega))) h0
 ·have hneg':ng q n 0=false:=by cases h:ng q n 0 with|true=>exact absurd h hneg|false=>rfl
  rw [hneg',bU]
  exact⟨bO _ _,z7 fun j _=>Bd.zero.mono hB⟩
theorem pw4 {D k m:Nat} (h:D≤2^k) (e:4*k+56=m):64*(2^50*(D*D*D*D))≤2^m:=by
 have e2:=Nat.mul_le_mul (Nat.mul_le_mul (Nat.mul_le_mul h h) h) h
 rw [←Nat.pow_add,←Nat.pow_add,←Nat.pow_add] at e2
 have e3:=Nat.mul_le_mul (Nat.le_refl (2^6)) (Nat.mul_le_mul (Nat.le_refl (2^50)) e2)
 rw [←Nat.pow_add,←Nat.pow_add] at e3
 rw [show m=6+(50+(k+k+k+k)) by omega]
 exact e3
theorem pw8 {D k m:Nat} (h:D≤256^k) (e:8*k=m):D≤2^m:=by
 rw [show(256:Nat)=2^8 from rfl,←Nat.pow_mul,e] at h;exact h
theorem pwn {x k m n:Nat} (h:x≤2^k) (e:k*n<m):x^n<2^m:=by
 refine Nat.lt_of_le_of_lt (Nat.pow_le_pow_left h n) ?_
 rw [←Nat.pow_mul]
 exact Nat.pow_lt_pow_right (by decide) e
theorem aTT {D n sz:Nat} (hs:sz=100000) (hD:D≤256^149) (hn:n≤20):(64*(2^50*(D*D*D*D)))^n<2^sz:=
 pwn (pw4 (pw8 hD (m:=1192) (by decide)) (m:=4824) (by decide)) (by omega)
theorem aKC {d:List aD} {f v:List Rat} {l:List aA} (h:ScB d f v l) (hm:l.length≤5) (h8:∀j,j<d.length→Bd 8 (kP f j)):Sm (off v l l.length) 100000 (lX (Mf d v l) (qf d (kP f) v l) (off v l l.length)):=fun T b hT=>by
 obtain⟨D,hD,hle⟩:=aVc (f:=kP f) h.sb.sd h.n8 h8 h.sb.sl hm
 have hrb:RsB l:=fun r hr=>(h.sb.sl r hr).1
 have h4:=tJ (v:=v) (l:=l) l.length
 have hp:(((D^4:Nat)):Rat)≠0:=by
  have:=Nat.pow_pos (n:=4) (show 0<D from hD.pos)
  intro e
  have e2:D^4=0:=by exact_mod_cast e
  omega
 obtain⟨k,hk⟩:∃k,k=100000:=⟨_,rfl⟩
 rw [←hk]
 exact hT.bd hp (fun i c hi _=>aS5 hD hrb hm hi) (by omega) (aTT hk hle (by omega))
def aBe (d:List aD) (f v:List Rat) (l:List aA):List Rat×List aI×Int:=
 bif(u5 (Mf d v l) (qf d (kP f) v l) (off v l l.length) 4096).2 != 0 then([],[],(u5 (Mf d v l) (qf d (kP f) v l) (off v l l.length) 4096).2)
 else(mp (acc d (kP f) l (pz v l (kP (u5 (Mf d v l) (qf d (kP f) v l) (off v l l.length) 4096).1.z))) d.length,mp (pz v l (kP (u5 (Mf d v l) (qf d (kP f) v l) (off v l l.length) 4096).1.z)) l.length,0)
theorem aSF {x:List Rat} {n:Nat} (h:x.length=n):tz (kP x) n=kP x:=funext fun j=>by
 unfold tz
 by_cases e:j<n
 ·rw [if_pos e]
 ·rw [if_neg e];unfold kP;rw [List.getD_eq_getElem?_getD,List.getElem?_eq_none (by omega)];rfl
theorem aCV {d:List aD} {f v:List Rat} {l:List aA} (h:ScB d f v l) (hf:z6 d f v l=true) (hm:l.length≤5) (h8:∀j,j<d.length→Bd 8 (kP f j)) {K:Nat} (hK:6000≤K):lZ K d f v l=some (aBe d f v l)∧vS K d f v l=some (aBe d f v l):=by
 have h4:=tJ (v:=v) (l:=l) l.length
 have hn:=h.n8
 have hrb:RsB l:=fun r hr=>(h.sb.sl r hr).1
 have e1:=aJD h (show 5000≤K by omega)
 have e2:=aKl h hf (show 5000≤K by omega)
 have hq1:∀i,i<off v l l.length→Bd 100000 (qf d (kP f) v l i):=fun i hi=>by rw [←aIl (n:=0)];exact h.vbd (z:=z0) (fun _=>Bd.zero) hi
 have hq:∀i,i<off v l l.length→Bd 300000 (qf d (kP f) v l i):=fun i hi=>(hq1 i hi).mono (by omega)
 have hM:Bdx (off v l l.length) (off v l l.length) 300000 (Mf d v l):=fun i c hi _=>by
  rw [←aN6 (f:=kP f)]
  exact((h.vbd (z:=ek c) (fun _=>aLI) hi).sub (hq1 i hi)).mono (by omega)
 have hZ:=aKC h hm h8
 have hZ3:Sm (off v l l.length) 300000 (lX (Mf d v l) (qf d (kP f) v l) (off v l l.length)):=fun T b hT i c hi hc=>(hZ T b hT i c hi hc).mono (by omega)
 obtain⟨c1,c2⟩:=aM6 (most:=4096) hM hq hZ3 (by omega) (show off v l l.length≤32 by omega) (by omega) (show 5000≤K by omega) (by omega)
 have u1:=aFi (d:=d) (f:=f) h.sb.sv hrb (show l.length≤1000 by omega) (show 2000≤K by omega)
 have u2:=aAm h.sb.sv hrb (show l.length≤1000 by omega) (show 2000≤K by omega)
 have t1:((4096:Nat):Int)=4096:=rfl
 rw [t1] at c1 c2
 by_cases h0:(u5 (Mf d v l) (qf d (kP f) v l) (off v l l.length) 4096).2=0
 ·obtain⟨z1,z2⟩:=aLd hZ (by omega) h0
  generalize hx:u5 (Mf d v l) (qf d (kP f) v l) (off v l l.length) 4096=X at *
  have zb:∀j,j<off v l l.length→Bd 100000 (kP X.1.z j):=fun j hj=>z2 _ (jV (by omega))
  have zm:X.1.z=mp (kP X.1.z) (off v l l.length):=by rw [←z1];exact aK0 _
  have pb:=aGx zb h.sb.sl
  have pl:=aOz (d:=d) (f:=f) (v10:=X) h.sb.sv h.sb.sl (show l.length≤100 by omega) zb (by omega) (by omega) zm (show 5000≤K by omega) (off v l l.length) 0 K (by omega) (by omega)
  rw [aSF z1] at pl
  have p00:mp (pz v l (tz (kP X.1.z) 0)) l.length=mp (fun _=>(⟨0,0⟩:aI)) l.length:=cJ fun i _=>by
   rw [show tz (kP X.1.z) 0=z0 from funext fun j=>aEm (Nat.zero_le _)];exact aLF
  rw [p00] at pl
  simp only [Int.natCast_zero] at pl
  have rp:=aHi h.sb.sv h.sb.sl zb (by omega) (show l.length≤1000 by omega) (show 5000≤K by omega)
  rw [←zm] at rp
  have hA:(2*100000+11+9)*24*l.length≤400000000:=Nat.le_trans (Nat.mul_le_mul_left _ hm) (by decide)
  have a1:=aIM (f0:=f) (v0:=v) h.sb.sd (by omega) h.fbd hrb h.ir (by omega) pb (by omega) hA (show 2000≤K by omega)
  have a2:=aMc h.sb.sd (by omega) h.fbd hrb h.ir (by omega) pb (by omega) hA (show 2000≤K by omega)
  rw [←h.fmp] at a1 a2
  unfold aBe
  rw [hx]
  constructor
  ·simp only [lZ,aLB h.sb (show 200≤K by omega),hf,oB,Bool.not_true,bU,u1,vK,dF (show¬(32:Int)<(off v l l.length:Int) by omega),e1,c1,nF h0,aDi (z:=(⟨0,0⟩:aI)) (n:=l.length) (by omega),pl,uL,a1]
  ·simp only [vS,aK2 h.sb (show 200≤K by omega),hf,oB,Bool.not_true,bU,u2,aCQ,dF (show¬(32:Int)<(off v l l.length:Int) by omega),e2,c2,nF h0,rp,a2]
 ·unfold aBe
  constructor
  ·simp only [lZ,aLB h.sb (show 200≤K by omega),hf,oB,Bool.not_true,bU,u1,vK,dF (show¬(32:Int)<(off v l l.length:Int) by omega),e1,c1,nT h0,cA]
  ·simp only [vS,aK2 h.sb (show 200≤K by omega),hf,oB,Bool.not_true,bU,u2,aCQ,dF (show¬(32:Int)<(off v l l.length:Int) by omega),e2,c2,nT h0,cA]
end Go.Proofs.YtldhbdgfpjoamaaGreat
set_option linter.unusedVariables false
namespace Go.Proofs.YtldhbdgfpjoamaaGreat
def zr:aA:=⟨0,0,0,0,0,[],[],0,0⟩
def more:Nat→List aA→List aA
 |0,l=>l
 |t+1,l=>more t (l++[zr])
end Go.Proofs.YtldhbdgfpjoamaaGreat
set_option linter.unusedVariables false
namespace Go.Proofs.YtldhbdgfpjoamaaGreat
end Go.Proofs.YtldhbdgfpjoamaaGreat
