/- Texts of the proof, part 6: YC YD LD LS XL XF XA XU XV XW XX XY YE YF YG YH YI YJ YK YL YV WA WB WC WG YM XZ YN WK WL MD WN WQ WR WS. -/
import Derived.Test.YtolfcbpgmfbgmaaGreatZ5
set_option linter.unusedSimpArgs false
set_option linter.unusedVariables false
namespace Go.Proofs.YtolfcbpgmfbgmaaGreat
/-- The unit matrix with one column replaced. -/
def aHV (i:Nat) (x:Nat→Rat) (r c:Nat):Rat:=if c=i then x r else if r=c then 1 else 0
theorem aNI {n i:Nat} (hi:i<n) (x:Nat→Rat):dt n (aHV i x)=x i:=by
 have a:=aEU n
 have e1:aHV i x=nY (aHV i x) i (fun c=>x i*xT i c):=by
  funext r c
  by_cases h:r=i
  ·subst h
   rw [bF]
   unfold aHV xT
   by_cases h2:c=r
   ·rw [if_pos h2,if_pos h2.symm,Rat.mul_one]
   ·rw [if_neg h2,if_neg (show¬r=c from fun e=>h2 e.symm),Rat.mul_zero]
  ·rw [cN h]
 have e2:dt n (nY (aHV i x) i (xT i))=1:=by
  rw [←a.elm0 (g:=nY (aHV i x) i (xT i)) (n:=i) (k:=i) hi n (Nat.le_refl n),←aDW n]
  refine uH fun r c hr hc=>?_
  unfold elm
  by_cases h:r=i
  ·subst h
   rw [if_neg (fun h2=>h2.2 rfl),bF]
  ·rw [if_pos ⟨hr,h⟩,cN h,bF]
   unfold aHV xT
   rw [if_pos rfl]
   by_cases h2:c=i
   ·rw [if_pos h2,if_pos h2.symm,Rat.mul_one,Rat.sub_self,if_neg (by omega)]
   ·rw [if_neg h2,if_neg (show¬i=c from fun e=>h2 e.symm),Rat.mul_zero,Rat.sub_eq_add_neg,Rat.neg_zero,Rat.add_zero]
 rw [e1,a.scale hi,e2,Rat.mul_one]
def aH4 (Z:Nat→Nat→Rat) (b:Nat→Nat) (r j:Nat):Rat:=Z r (b j)
def aFQ (Z:Nat→Nat→Rat) (b:Nat→Nat) (i k:Nat) (r j:Nat):Rat:=if j=i then Z r k else Z r (b j)
theorem aPK {n w:Nat} {E Z T:Nat→Nat→Rat} {b:Nat→Nat} (hT:∀i c,i<n→c<w→T i c=zC E Z n i c) (hb:∀j,j<n→b j<w) (hu:∀i j,i<n→j<n→T i (b j)=if i=j then 1 else 0) {i k:Nat} (hi:i<n) (hk:k<w):dt n (aH4 Z b)≠0∧T i k=dt n (aFQ Z b i k)/dt n (aH4 Z b):=by
 have h1:dt n E*dt n (aH4 Z b)=1:=by
  rw [←aLd,←aDW n]
  refine uH fun r c hr hc=>?_
  show zC E Z n r (b c)=_
  rw [←hT r (b c) hr (hb c hc),hu r c hr hc];rfl
 have h2:dt n E*dt n (aFQ Z b i k)=T i k:=by
  rw [←aLd,←aNI hi (fun r=>T r k)]
  refine uH fun r c hr hc=>?_
  unfold aHV
  by_cases h:c=i
  ·rw [if_pos h]
   show _=T r k
   rw [hT r k hr hk]
   unfold zC aHz tr aFQ
   simp [h]
  ·rw [if_neg h,←hu r c hr hc,hT r (b c) hr (hb c hc)]
   unfold zC aHz tr aFQ
   simp [h]
 have hne:dt n (aH4 Z b)≠0:=fun e=>by rw [e,Rat.mul_zero] at h1;exact absurd h1 (by decide)
 refine⟨hne,?_⟩
 rw [←h2,Rat.div_def]
 have:dt n E=(dt n (aH4 Z b))⁻¹:=by
  have h3:=congrArg (·*(dt n (aH4 Z b))⁻¹) h1
  simp only [Rat.mul_assoc,Rat.mul_inv_cancel _ hne,Rat.mul_one,Rat.one_mul] at h3
  exact h3
 rw [this,Rat.mul_comm]
def isZ (M:Nat) (x:Rat):Prop:=∃q:Int,x=(q:Rat)∧q.natAbs≤M
def fM (M:Nat):Nat→Nat
 |0=>1
 |n+1=>(n+1)*(M*fM M n)
theorem isZ.mono {M N:Nat} {x:Rat} (h:isZ M x) (hn:M≤N):isZ N x:=by
 obtain⟨q,h1,h2⟩:=h
 exact⟨q,h1,by omega⟩
theorem isZ.add {M N:Nat} {x y:Rat} (h:isZ M x) (k:isZ N y):isZ (M+N) (x+y):=by
 obtain⟨q,h1,h2⟩:=h
 obtain⟨p,k1,k2⟩:=k
 exact⟨q+p,by rw [h1,k1,Rat.intCast_add],by omega⟩
theorem isZ.mul {M N:Nat} {x y:Rat} (h:isZ M x) (k:isZ N y):isZ (M*N) (x*y):=by
 obtain⟨q,h1,h2⟩:=h
 obtain⟨p,k1,k2⟩:=k
 exact⟨q*p,by rw [h1,k1,Rat.intCast_mul],by rw [Int.natAbs_mul];exact Nat.mul_le_mul h2 k2⟩
theorem isZ.zero:isZ 0 0:=⟨0,rfl,Nat.le_refl _⟩
theorem aQG (k:Nat):isZ 1 (sgn k):=by
 unfold sgn
 split
 ·exact⟨1,rfl,by decide⟩
 ·exact⟨-1,rfl,by decide⟩
theorem aQ2 {f:Nat→Rat} {M:Nat}:∀n,(∀i,i<n→isZ M (f i))→isZ (n*M) (sm f n)
 |0,_=>by rw [Nat.zero_mul];exact isZ.zero
 |n+1,h=>by
  have:=(aQ2 n fun i hi=>h i (by omega)).add (h n (by omega))
  rw [Nat.succ_mul];exact this
theorem aO9 {M:Nat}:∀(n:Nat) (g:Nat→Nat→Rat),(∀i c,i<n→c<n→isZ M (g i c))→isZ (fM M n) (dt n g)
 |0,g,h=>⟨1,rfl,Nat.le_refl _⟩
 |n+1,g,h=>aQ2 (n+1) fun k hk=>by
  have h1:=aO9 n (mnr g k) fun i c hi hc=>h (i+1) (skp k c) (by omega) (aMf hc)
  have h2:=(aQG k).mul ((h 0 k (by omega) hk).mul h1)
  rw [Nat.one_mul] at h2
  first|exact h2|(rw [Rat.mul_assoc];exact h2)
theorem aKh {n w M k:Nat} {E Z T:Nat→Nat→Rat} {b:Nat→Nat} (hT:∀i c,i<n→c<w→T i c=zC E Z n i c) (hb:∀j,j<n→b j<w) (hu:∀i j,i<n→j<n→T i (b j)=if i=j then 1 else 0) (hZ:∀i c,i<n→c<w→isZ M (Z i c)) (hM:fM M n<2^k):zY n w k T:=fun i c hi hc=>by
 obtain⟨h1,h2⟩:=aPK hT hb hu hi hc
 obtain⟨p,p1,p2⟩:=aO9 n (aFQ Z b i c) fun r j hr hj=>by
  unfold aFQ
  split
  ·exact hZ r c hr hc
  ·exact hZ r (b j) hr (hb j hj)
 obtain⟨q,q1,q2⟩:=aO9 n (aH4 Z b) fun r j hr hj=>hZ r (b j) hr (hb j hj)
 rw [h2,p1,q1]
 refine Bd.of (fun e=>h1 (by rw [q1,e];rfl)) (Nat.lt_of_le_of_lt p2 hM) (Nat.lt_of_le_of_lt q2 hM)
end Go.Proofs.YtolfcbpgmfbgmaaGreat
set_option linter.unusedVariables false
namespace Go.Proofs.YtolfcbpgmfbgmaaGreat
/-- A tableau: its rows are combinations of those of Z, and the columns of the basic variables are those of the unit matrix. -/
structure TI (n w:Nat) (Z T:Nat→Nat→Rat) (b:Nat→Nat):Prop where
 ex:∃E:Nat→Nat→Rat,∀i c,i<n→c<w→T i c=zC E Z n i c
 lt:∀j,j<n→b j<w
 un:∀i j,i<n→j<n→T i (b j)=if i=j then 1 else 0
def sD (T:Nat→Nat→Rat) (r c i k:Nat):Rat:=if i=r then T r k/T r c else T i k-T i c*(T r k/T r c)
theorem xC {E Z:Nat→Nat→Rat} {n i k:Nat}:zC E Z n i k=sm (fun j=>Z j k*E i j) n:=by
 unfold zC aHz tr
 first|rfl|(refine d7 fun j _=>?_;first|rfl|exact Rat.mul_comm _ _)
theorem TI.pivot {n w:Nat} {Z T:Nat→Nat→Rat} {b:Nat→Nat} (h:TI n w Z T b) {r c:Nat} (hr:r<n) (hc:c<w) (hp:T r c≠0):TI n w Z (sD T r c) (nY b r c):=by
 obtain⟨⟨E,hE⟩,hb,hu⟩:=h
 refine⟨⟨fun i j=>if i=r then E r j/T r c else E i j-T i c*(E r j/T r c),fun i k hi hk=>?_⟩,fun j hj=>?_,fun i j hi hj=>?_⟩
 ·rw [xC]
  have e1:T r k/T r c=sm (fun j=>Z j k*(E r j/T r c)) n:=by
   rw [hE r k hr hk,xC,Rat.div_def,Rat.mul_comm,←xH]
   refine d7 fun j _=>?_
   rw [Rat.div_def,Rat.mul_comm,Rat.mul_assoc]
  unfold sD
  by_cases e:i=r
  ·rw [if_pos e,e1]
   exact d7 fun j _=>by rw [if_pos e]
  ·rw [if_neg e,hE i k hi hk,xC,e1,←xH,Rat.sub_eq_add_neg,←aEA,←aGr]
   refine d7 fun j _=>?_
   rw [if_neg e,Rat.sub_eq_add_neg,Rat.mul_add,Rat.mul_neg,←Rat.mul_assoc,←Rat.mul_assoc,Rat.mul_comm (T i c)]
 ·by_cases e:j=r
  ·rw [e,bF];exact hc
  ·rw [cN e];exact hb j hj
 ·unfold sD
  by_cases e:j=r
  ·rw [e,bF,Rat.div_def,Rat.mul_inv_cancel _ hp]
   by_cases e2:i=r
   ·rw [if_pos e2,if_pos e2]
   ·rw [if_neg e2,if_neg e2,Rat.mul_one,Rat.sub_self]
  ·have h0:T r (b j)=0:=by rw [hu r j hr hj,if_neg fun h=>e h.symm]
   rw [cN e,h0,Rat.div_def,Rat.zero_mul]
   by_cases e2:i=r
   ·rw [if_pos e2,if_neg (by omega)]
   ·rw [if_neg e2,Rat.mul_zero,Rat.sub_eq_add_neg,Rat.neg_zero,Rat.add_zero]
    exact hu i j hi hj
theorem TI.start {n w:Nat} {Z:Nat→Nat→Rat} (hw:n≤w) (hz:∀i j,i<n→j<n→Z i j=if i=j then 1 else 0):TI n w Z Z (fun j=>j):=
 ⟨⟨xT,fun i c hi hc=>by
  rw [xC]
  have:sm (fun j=>Z j c*xT i j) n=sm (fun j=>if j=i then Z i c else 0) n:=d7 fun j _=>by
   unfold xT
   by_cases e:j=i
   ·rw [if_pos e,e,if_pos rfl,Rat.mul_one]
   ·rw [if_neg e,if_neg (fun h=>e h.symm),Rat.mul_zero]
  rw [this]
  have key:∀m,m≤n→sm (fun j=>if j=i then Z i c else 0) m=if i<m then Z i c else 0:=by
   intro m
   induction m with
   |zero=>intro _;rw [if_neg (by omega)];rfl
   |succ m ih=>
    intro hm
    show sm _ m+(if m=i then Z i c else 0)=_
    rw [ih (by omega)]
    by_cases e:m=i
    ·rw [if_pos e,if_neg (by omega),if_pos (by omega),Rat.zero_add]
    ·rw [if_neg e,Rat.add_zero]
     by_cases e2:i<m
     ·rw [if_pos e2,if_pos (by omega)]
     ·rw [if_neg e2,if_neg (by omega)]
  rw [key n (Nat.le_refl n),if_pos hi]⟩,fun j hj=>by omega,fun i j hi hj=>hz i j hi hj⟩
theorem aOk {M:Nat}:∀n,n≤64→fM M n≤(64*M)^n
 |0,_=>Nat.le_refl _
 |n+1,h=>by
  show(n+1)*(M*fM M n)≤_
  rw [Nat.pow_succ,Nat.mul_comm ((64*M)^n),←Nat.mul_assoc]
  exact Nat.mul_le_mul (Nat.mul_le_mul_right M h) (aOk n (by omega))
theorem TI.scale {n w:Nat} {Z T:Nat→Nat→Rat} {b:Nat→Nat} (h:TI n w Z T b) {D:Rat} (hD:D≠0):TI n w (fun i c=>Z i c*D) T b:=by
 obtain⟨⟨E,hE⟩,hb,hu⟩:=h
 refine⟨⟨fun i j=>E i j/D,fun i c hi hc=>?_⟩,hb,hu⟩
 rw [hE i c hi hc,xC,xC]
 refine d7 fun j _=>?_
 rw [Rat.div_def,Rat.mul_comm (E i j),Rat.mul_assoc,←Rat.mul_assoc D,Rat.mul_inv_cancel _ hD,Rat.one_mul]
theorem TI.bd {n w M k:Nat} {Z T:Nat→Nat→Rat} {b:Nat→Nat} {D:Rat} (h:TI n w Z T b) (hD:D≠0) (hZ:∀i c,i<n→c<w→isZ M (Z i c*D)) (hn:n≤64) (hM:(64*M)^n<2^k):zY n w k T:=by
 obtain⟨⟨E,hE⟩,hb,hu⟩:=h.scale hD
 exact aKh hE hb hu hZ (Nat.lt_of_le_of_lt (aOk n hn) hM)
end Go.Proofs.YtolfcbpgmfbgmaaGreat
set_option linter.unusedVariables false
namespace Go.Proofs.YtolfcbpgmfbgmaaGreat
end Go.Proofs.YtolfcbpgmfbgmaaGreat
set_option linter.unusedVariables false
namespace Go.Proofs.YtolfcbpgmfbgmaaGreat
end Go.Proofs.YtolfcbpgmfbgmaaGreat
set_option linter.unusedVariables false
namespace Go.Proofs.YtolfcbpgmfbgmaaGreat
end Go.Proofs.YtolfcbpgmfbgmaaGreat
set_option linter.unusedVariables false
namespace Go.Proofs.YtolfcbpgmfbgmaaGreat
theorem aI6 {m:Nat} {a:Rat} (ha:Bd m a) (hm:m≤1073741824):aKq a=some true:=by unfold aKq;rw [ha.qs hm];rfl
end Go.Proofs.YtolfcbpgmfbgmaaGreat
set_option linter.unusedVariables false
namespace Go.Proofs.YtolfcbpgmfbgmaaGreat
end Go.Proofs.YtolfcbpgmfbgmaaGreat
set_option linter.unusedVariables false
namespace Go.Proofs.YtolfcbpgmfbgmaaGreat
end Go.Proofs.YtolfcbpgmfbgmaaGreat
set_option linter.unusedVariables false
namespace Go.Proofs.YtolfcbpgmfbgmaaGreat
end Go.Proofs.YtolfcbpgmfbgmaaGreat
set_option linter.unusedVariables false
namespace Go.Proofs.YtolfcbpgmfbgmaaGreat
def z0:Nat→Rat:=fun _=>0
theorem aMc:qof 1 1=some 1:=by rw [aF6 (by omega) (by omega),aLU]
end Go.Proofs.YtolfcbpgmfbgmaaGreat
set_option linter.unusedVariables false
namespace Go.Proofs.YtolfcbpgmfbgmaaGreat
def ord (N:Nat):List Nat:=mp (fun i=>i+1) N
end Go.Proofs.YtolfcbpgmfbgmaaGreat
set_option linter.unusedVariables false
namespace Go.Proofs.YtolfcbpgmfbgmaaGreat
theorem aC7:Bd 8 (1:Rat):=(show Bd 1 (1:Rat) by constructor<;>decide).mono (by omega)
end Go.Proofs.YtolfcbpgmfbgmaaGreat
set_option linter.unusedVariables false
namespace Go.Proofs.YtolfcbpgmfbgmaaGreat
/-- A number that is whole when it is multiplied so often. -/
def dn (D e M:Nat) (x:Rat):Prop:=isZ M (x*((D^e:Nat):Rat))
theorem dn.mono {D e M N:Nat} {x:Rat} (h:dn D e M x) (hn:M≤N):dn D e N x:=isZ.mono h hn
theorem dn.zero {D e M:Nat}:dn D e M 0:=⟨0,by rw [Rat.zero_mul];rfl,Nat.zero_le _⟩
theorem dn.add {D e M N:Nat} {x y:Rat} (h:dn D e M x) (k:dn D e N y):dn D e (M+N) (x+y):=by
 unfold dn;rw [Rat.add_mul];exact isZ.add h k
theorem dn.neg {D e M:Nat} {x:Rat} (h:dn D e M x):dn D e M (-x):=by
 obtain⟨q,h1,h2⟩:=h
 exact⟨-q,by rw [Rat.neg_mul,h1,Rat.intCast_neg],by omega⟩
theorem dn.mul {D e e' M N:Nat} {x y:Rat} (h:dn D e M x) (k:dn D e' N y):dn D (e+e') (M*N) (x*y):=by
 have:=isZ.mul h k
 unfold dn
 rw [Nat.pow_add,Rat.natCast_mul]
 have e2:x*y*(((D^e:Nat):Rat)*((D^e':Nat):Rat))=x*((D^e:Nat):Rat)*(y*((D^e':Nat):Rat)):=by
  rw [Rat.mul_assoc,←Rat.mul_assoc y,Rat.mul_comm y,Rat.mul_assoc ((D^e:Nat):Rat),←Rat.mul_assoc]
 rw [e2];exact this
theorem dn.up {D e M:Nat} {x:Rat} (h:dn D e M x):dn D (e+1) (M*D) x:=by
 have h1:dn D 1 D 1:=⟨(D:Int),by rw [Rat.one_mul,Nat.pow_one];rfl,by simp⟩
 have:=h.mul h1
 rwa [Rat.mul_one] at this
end Go.Proofs.YtolfcbpgmfbgmaaGreat
set_option linter.unusedVariables false
namespace Go.Proofs.YtolfcbpgmfbgmaaGreat
/-- The first tableau. -/
def t9 (M:Nat→Nat→Rat) (q:Nat→Rat) (n i c:Nat):Rat:=
 if c<n then(if i=c then 1 else 0) else if c<2*n then -(M i (c-n)) else if c=2*n then -1 else q i
theorem aLR {M:Nat→Nat→Rat} {q:Nat→Rat} {n:Nat}:TI n (2*n+2) (t9 M q n) (t9 M q n) (fun j=>j):=TI.start (by omega) fun i j hi hj=>if_pos hj
end Go.Proofs.YtolfcbpgmfbgmaaGreat
set_option linter.unusedVariables false
namespace Go.Proofs.YtolfcbpgmfbgmaaGreat
/-- The rows of a tableau as they lie. -/
structure aAr (n w:Nat) (rs:List (List Rat)) (od:Nat→Nat) (T:Nat→Nat→Rat):Prop where
 lt:∀i,i<n→od i<rs.length
 inj:∀i j,i<n→j<n→od i=od j→i=j
 row:∀i,i<n→rs.getD (od i) []=mp (T i) w
def nJ (n j:Nat):Nat:=if j=0 then 2*n+1 else j-1
def lx (T:Nat→Nat→Rat) (n i:Nat) (c:Rat) (k:Nat) (d:Rat):Nat→Nat→Bool
 |0,_=>false
 |t+1,j=>bif decide (T i (nJ n j)/c=T k (nJ n j)/d) then lx T n i c k d t (j+1) else decide (T i (nJ n j)/c<T k (nJ n j)/d)
def les (T:Nat→Nat→Rat) (n i:Nat) (c:Rat) (k:Nat) (d:Rat):Bool:=lx T n i c k d (n+1) 0
theorem aIX {m k:Nat} {a b:Rat} (ha:Bd m a) (hb:Bd k b) (hm:m≤1073741824) (hk:k≤1073741824):aID a b=some (if a<b then -1 else if b<a then 1 else 0):=by
 unfold aID;rw [ha.qs hm,hb.qs hk];rfl
theorem aDd {a b:Rat}:((if a<b then -1 else if b<a then 1 else 0:Int)=0↔a=b)∧decide ((if a<b then -1 else if b<a then 1 else 0:Int)<0)=decide (a<b):=by
 by_cases h:a<b
 ·rw [if_pos h]
  refine⟨⟨fun h2=>absurd h2 (by decide),fun h2=>?_⟩,by rw [decide_eq_true h];rfl⟩
  rw [h2] at h;exact absurd h (Rat.lt_irrefl)
 ·rw [if_neg h]
  by_cases h2:b<a
  ·rw [if_pos h2]
   refine⟨⟨fun h3=>absurd h3 (by decide),fun h3=>?_⟩,by rw [decide_eq_false h];rfl⟩
   rw [h3] at h2;exact absurd h2 (Rat.lt_irrefl)
  ·rw [if_neg h2]
   exact⟨⟨fun _=>Rat.le_antisymm (Rat.not_lt.1 h2) (Rat.not_lt.1 h),fun _=>rfl⟩,by rw [decide_eq_false h];rfl⟩
theorem aJe {n j:Nat} (h:j≤n):nJ n j<2*n+2:=by unfold nJ;split<;>omega
theorem aFk {n:Nat} {rs:List (List Rat)} {od:Nat→Nat} {T:Nat→Nat→Rat} (hr:aAr n (2*n+2) rs od T) {B C:Nat} (hT:zY n (2*n+2) B T) {i k:Nat} (hi:i<n) (hk:k<n) {c d:Rat} (hc:Bd C c) (hd:Bd C d) (hBC:B+C≤500000000) (hn:n≤1000) (K:Nat):
  ∀(t j fu:Nat),j+t=n+1→t<fu→aQ K (i:Int) c (k:Int) d (n:Int) (mp od n) rs fu ((j:Int)-1)=some (.ret (lx T n i c k d t j))∨(lx T n i c k d t j=false∧aQ K (i:Int) c (k:Int) d (n:Int) (mp od n) rs fu ((j:Int)-1)=some (.go ()))
 |0,j,fu,hj,hf=>by
  obtain⟨fu',rfl,_⟩:=bJ hf
  refine .inr ⟨rfl,?_⟩
  simp only [aQ,dF (show¬(j:Int)-1<(n:Int) by omega),bQ]
 |t+1,j,fu,hj,hf=>by
  obtain⟨fu',rfl,_⟩:=bJ hf
  have hl:=aJe (n:=n) (j:=j) (by omega)
  have b1:=(hT i _ hi hl).div hc
  have b2:=(hT k _ hk hl).div hd
  have ih:=aFk hr hT hi hk hc hd hBC hn K t (j+1) fu' (by omega) (by omega)
  have key:dO K (i:Int) c (k:Int) d (mp od n) rs ((j:Int)-1) (aQ K (i:Int) c (k:Int) d (n:Int) (mp od n) rs fu') ((nJ n j:Nat):Int)=bif decide (T i (nJ n j)/c=T k (nJ n j)/d) then aQ K (i:Int) c (k:Int) d (n:Int) (mp od n) rs fu' (((j+1:Nat):Int)-1) else some (.ret (decide (T i (nJ n j)/c<T k (nJ n j)/d))):=by
   simp only [dO,jP (f:=od) hi,jP (f:=od) hk,oB,hr.row i hi,hr.row k hk,jP (f:=T i) hl,jP (f:=T k) hl,aBw (hT i _ hi hl) hc (by omega) (by omega),aBw (hT k _ hk hl) hd (by omega) (by omega),aIX b1 b2 (by omega) (by omega)]
   by_cases h:T i (nJ n j)/c=T k (nJ n j)/d
   ·rw [nF (aDd.1.2 h),bQ,decide_eq_true h,bY,oR (by omega),oB]
    congr 1
    omega
   ·rw [nT (fun h2=>h (aDd.1.1 h2)),bY,decide_eq_false h,bQ,aDd.2]
  have main:aQ K (i:Int) c (k:Int) d (n:Int) (mp od n) rs (fu'+1) ((j:Int)-1)=bif decide (T i (nJ n j)/c=T k (nJ n j)/d) then aQ K (i:Int) c (k:Int) d (n:Int) (mp od n) rs fu' (((j+1:Nat):Int)-1) else some (.ret (decide (T i (nJ n j)/c<T k (nJ n j)/d))):=by
   rw [←key]
   by_cases h0:j=0
   ·subst h0
    have c1:aR (2*(n:Int))=some (2*(n:Int)):=oR (by omega)
    have c2:aR (2*(n:Int)+1)=some ((nJ n 0:Nat):Int):=by
     rw [oR (by omega)];congr 1
    simp only [aQ,dT (show((0:Nat):Int)-1<(n:Int) by omega),bY,dT (show((0:Nat):Int)-1<0 by omega),c1,c2,oB]
   ·have e:((nJ n j:Nat):Int)=(j:Int)-1:=by unfold nJ;rw [if_neg h0];omega
    rw [e]
    simp only [aQ,dT (show(j:Int)-1<(n:Int) by omega),bY,dF (show¬(j:Int)-1<0 by omega),bQ]
  rw [main]
  have el:lx T n i c k d (t+1) j=bif decide (T i (nJ n j)/c=T k (nJ n j)/d) then lx T n i c k d t (j+1) else decide (T i (nJ n j)/c<T k (nJ n j)/d):=rfl
  rw [el]
  by_cases h:T i (nJ n j)/c=T k (nJ n j)/d
  ·rw [decide_eq_true h,bY,bY];exact ih
  ·rw [decide_eq_false h,bQ,bQ];exact .inl rfl
theorem aHh {n:Nat} {rs:List (List Rat)} {od:Nat→Nat} {T:Nat→Nat→Rat} {a6:List Int} (hr:aAr n (2*n+2) rs od T) {B C:Nat} (hT:zY n (2*n+2) B T) {i k:Nat} (hi:i<n) (hk:k<n) {c d:Rat} (hc:Bd C c) (hd:Bd C d) (hBC:B+C≤500000000) (hn:n≤1000) {K:Nat} (hK:2000≤K):dU K (i:Int) c (k:Int) d (n:Int) (mp od n) a6 rs=some (les T n i c k d):=by
 have:=aFk hr hT hi hk hc hd hBC hn K (n+1) 0 K (by omega) (by omega)
 rw [show((0:Nat):Int)-1=-1 from rfl] at this
 rcases this with h|⟨h1,h2⟩
 ·simp only [dU,h,oB];rfl
 ·simp only [dU,h2,oB,jE]
  exact congrArg some h1.symm
def xP (T:Nat→Nat→Rat) (n i:Nat) (c:Rat) (j:Nat):Rat:=T i (nJ n j)/c
theorem aJ1 {n:Nat} {T:Nat→Nat→Rat} {B C i:Nat} {c:Rat} (hT:zY n (2*n+2) B T) (hi:i<n) (hc:Bd C c) (hB:B≤1073741824) (hC:C≤1073741824) (hn:n≤1000) (K:Nat):∀(t j fu:Nat),j+t=n→t<fu→jD K (mp (T i) (2*n+2)) (n:Int) c fu (mp (xP T n i c) (j+1)) (j:Int)=some (mp (xP T n i c) (n+1))
 |0,j,fu,hj,hf=>by
  obtain⟨fu',rfl,_⟩:=bJ hf
  have e:j=n:=by omega
  subst e
  simp only [jD,dF (show¬(j:Int)<(j:Int) by omega),bQ]
 |t+1,j,fu,hj,hf=>by
  obtain⟨fu',rfl,_⟩:=bJ hf
  have e:xP T n i c (j+1)=T i j/c:=by unfold xP nJ;rw [if_neg (by omega),Nat.add_sub_cancel]
  have ap:=apM (g:=xP T n i c) (i:=j+1) (by omega)
  rw [e] at ap
  simp only [jD,dT (show(j:Int)<(n:Int) by omega),bY,jP (f:=T i) (n:=2*n+2) (i:=j) (by omega),oB,aBw (hT i j hi (by omega)) hc hB hC,ap,uY (i:=j) (by omega)]
  exact aJ1 hT hi hc hB hC hn K t (j+1) fu' (by omega) (by omega)
theorem aGu {n:Nat} {T:Nat→Nat→Rat} {B C i:Nat} {c:Rat} (hT:zY n (2*n+2) B T) (hi:i<n) (hc:Bd C c) (hB:B≤1073741824) (hC:C≤1073741824) (hn:n≤1000) {K:Nat} (hK:2000≤K):kJ K (mp (T i) (2*n+2)) (n:Int) c=some (mp (xP T n i c) (n+1)):=by
 have:=aJ1 hT hi hc hB hC hn K n 0 K (by omega) (by omega)
 simp only [Int.natCast_zero] at this
 have c1:aR (2*(n:Int))=some (2*(n:Int)):=oR (by omega)
 have c2:aR (2*(n:Int)+1)=some ((2*n+1:Nat):Int):=by rw [oR (by omega)];congr 1
 have e:[T i (2*n+1)/c]=mp (xP T n i c) (0+1):=rfl
 simp only [kJ,c1,c2,oB,jP (f:=T i) (n:=2*n+2) (i:=2*n+1) (by omega),aBw (hT i (2*n+1) hi (by omega)) hc hB hC,e,this,pV]
theorem aFS {n:Nat} {T:Nat→Nat→Rat} {B C i k:Nat} {c d:Rat} (hT:zY n (2*n+2) B T) (hi:i<n) (hk:k<n) (hc:Bd C c) (hd:Bd C d) (hBC:B+C≤500000000) (hn:n≤1000) (K:Nat):∀(t j fu:Nat),j+t=n+1→t<fu→fF K (mp (xP T n i c) (n+1)) (mp (xP T n k d) (n+1)) fu (j:Int)=some (.ret (lx T n i c k d t j))∨(lx T n i c k d t j=false∧fF K (mp (xP T n i c) (n+1)) (mp (xP T n k d) (n+1)) fu (j:Int)=some (.go ()))
 |0,j,fu,hj,hf=>by
  obtain⟨fu',rfl,_⟩:=bJ hf
  refine .inr ⟨rfl,?_⟩
  simp only [fF,bC,dF (show¬(j:Int)<((n+1:Nat):Int) by omega),bQ]
 |t+1,j,fu,hj,hf=>by
  obtain⟨fu',rfl,_⟩:=bJ hf
  have hl:=aJe (n:=n) (j:=j) (by omega)
  have b1:Bd (B+C) (xP T n i c j):=(hT i _ hi hl).div hc
  have b2:Bd (B+C) (xP T n k d j):=(hT k _ hk hl).div hd
  have ih:=aFS hT hi hk hc hd hBC hn K t (j+1) fu' (by omega) (by omega)
  have el:lx T n i c k d (t+1) j=bif decide (xP T n i c j=xP T n k d j) then lx T n i c k d t (j+1) else decide (xP T n i c j<xP T n k d j):=rfl
  rw [el]
  simp only [fF,bC,dT (show(j:Int)<((n+1:Nat):Int) by omega),bY,jP (f:=xP T n i c) (n:=n+1) (i:=j) (by omega),jP (f:=xP T n k d) (n:=n+1) (i:=j) (by omega),oB,aIX b1 b2 (by omega) (by omega)]
  by_cases h:xP T n i c j=xP T n k d j
  ·rw [nF (aDd.1.2 h),bQ,decide_eq_true h,bY,uY (i:=j) (by omega),oB];exact ih
  ·rw [nT (fun h2=>h (aDd.1.1 h2)),bY,decide_eq_false h,bQ,aDd.2];exact .inl rfl
theorem aFp {n:Nat} {T:Nat→Nat→Rat} {B C i k:Nat} {c d:Rat} (hT:zY n (2*n+2) B T) (hi:i<n) (hk:k<n) (hc:Bd C c) (hd:Bd C d) (hBC:B+C≤500000000) (hn:n≤1000) {K:Nat} (hK:2000≤K):jU K (mp (xP T n i c) (n+1)) (mp (xP T n k d) (n+1))=some (les T n i c k d):=by
 have:=aFS hT hi hk hc hd hBC hn K (n+1) 0 K (by omega) (by omega)
 simp only [Int.natCast_zero] at this
 rcases this with h|⟨h1,h2⟩
 ·simp only [jU,h,oB];rfl
 ·simp only [jU,h2,oB,nX]
  exact congrArg some h1.symm
end Go.Proofs.YtolfcbpgmfbgmaaGreat
set_option linter.unusedVariables false
namespace Go.Proofs.YtolfcbpgmfbgmaaGreat
def yR (T:Nat→Nat→Rat) (r c k:Nat):Rat:=T r k/T r c
theorem aHj {n w r c B:Nat} {T:Nat→Nat→Rat} (hT:zY n w B T) (hr:r<n) (hc:c<w) (hB:B≤500000000) (hw:w≤100000) (K:Nat):∀(t k fu:Nat),k+t=w→t<fu→gZ K (mx T n w) (r:Int) (c:Int) fu (mp (yR T r c) k) (k:Int)=some (mp (yR T r c) w)
 |0,k,fu,hk,hf=>by
  obtain⟨fu',rfl,_⟩:=bJ hf
  have e:k=w:=by omega
  subst e
  simp only [gZ,aAl (g:=T) (w:=k) hr,oB,bC,dF (show¬(k:Int)<(k:Int) by omega),bQ]
 |t+1,k,fu,hk,hf=>by
  obtain⟨fu',rfl,_⟩:=bJ hf
  have hkw:k<w:=by omega
  have ap:=apM (g:=yR T r c) (i:=k) (by omega)
  simp only [gZ,aAl (g:=T) (w:=w) hr,oB,bC,dT (show(k:Int)<(w:Int) by omega),bY,jP (f:=T r) hkw,jP (f:=T r) hc,aBw (hT r k hr hkw) (hT r c hr hc) (by omega) (by omega),show T r k/T r c=yR T r c k from rfl,ap,uY (i:=k) (by omega)]
  exact aHj hT hr hc hB hw K t (k+1) fu' (by omega) (by omega)
theorem aIW {n w r c B k:Nat} {T:Nat→Nat→Rat} (hT:zY n w B T) (hr:r<n) (hc:c<w) (hk:k<w):Bd (B+B) (yR T r c k):=(hT r k hr hk).div (hT r c hr hc)
theorem aHN {n w r c i B:Nat} {T:Nat→Nat→Rat} (hT:zY n w B T) (hr:r<n) (hc:c<w) (hi:i<n) (hne:i≠r) (hB:B≤200000000) (hw:w≤100000) (K:Nat):∀(t k fu:Nat),k+t=w→t<fu→gV K (mx T n w) (c:Int) (mp (yR T r c) w) (i:Int) fu (mp (sD T r c i) k) (k:Int)=some (mp (sD T r c i) w)
 |0,k,fu,hk,hf=>by
  obtain⟨fu',rfl,_⟩:=bJ hf
  have e:k=w:=by omega
  subst e
  simp only [gV,bC,dF (show¬(k:Int)<(k:Int) by omega),bQ]
 |t+1,k,fu,hk,hf=>by
  obtain⟨fu',rfl,_⟩:=bJ hf
  have hkw:k<w:=by omega
  have ap:=apM (g:=sD T r c i) (i:=k) (by omega)
  have e:T i k-T i c*yR T r c k=sD T r c i k:=by unfold sD yR;rw [if_neg hne]
  have b:=aIW hT hr hc hkw
  have b2:=hT i c hi hc
  simp only [gV,bC,dT (show(k:Int)<(w:Int) by omega),bY,aAl (g:=T) (w:=w) hi,oB,jP (f:=T i) hkw,jP (f:=T i) hc,jP (f:=yR T r c) hkw,aDL b2 b (by omega) (by omega),aI2 (hT i k hi hkw) (b2.mul b) (by omega) (by omega),e,ap,uY (i:=k) (by omega)]
  exact aHN hT hr hc hi hne hB hw K t (k+1) fu' (by omega) (by omega)
theorem aHq {n w r c B:Nat} {T:Nat→Nat→Rat} (hT:zY n w B T) (hr:r<n) (hc:c<w) (hB:B≤200000000) (hw:w≤100000) (hn:n≤100000) {K:Nat} (hK:w<K):∀(t i fu:Nat),i+t=n→t<fu→cT K (mx T n w) (r:Int) (c:Int) (mp (yR T r c) w) fu (mx (sD T r c) i w) (i:Int)=some (mx (sD T r c) n w)
 |0,i,fu,hk,hf=>by
  obtain⟨fu',rfl,_⟩:=bJ hf
  have e:i=n:=by omega
  subst e
  simp only [cT,rM,dF (show¬(i:Int)<(i:Int) by omega),bQ]
 |t+1,i,fu,hk,hf=>by
  obtain⟨fu',rfl,_⟩:=bJ hf
  have hin:i<n:=by omega
  have ap:sF (mx (sD T r c) i w) [mp (sD T r c i) w]=some (mx (sD T r c) (i+1) w):=apM (g:=fun i=>mp (sD T r c i) w) (by omega)
  have ih:=aHq hT hr hc hB hw hn hK t (i+1) fu' (by omega) (by omega)
  by_cases e:i=r
  ·have e2:mp (yR T r c) w=mp (sD T r c i) w:=iD fun k _=>by unfold sD yR;rw [if_pos e]
   simp only [cT,rM,dT (show(i:Int)<(n:Int) by omega),bY,qT (show(i:Int)=(r:Int) by omega)]
   rw [e2] at ih ⊢
   simp only [ap,oB,uY (i:=i) (by omega)]
   exact ih
  ·have h82:=aHN hT hr hc hin e hB hw K w 0 K (by omega) hK
   simp only [Int.natCast_zero,yW] at h82
   simp only [cT,rM,dT (show(i:Int)<(n:Int) by omega),bY,qF (show(i:Int)≠(r:Int) by omega),bQ,h82,oB,nL,ap,uY (i:=i) (by omega)]
   exact ih
theorem aMZ {n w r c B:Nat} {T:Nat→Nat→Rat} (hT:zY n w B T) (hr:r<n) (hc:c<w) (hB:B≤200000000) (hw:w≤100000) (hn:n≤100000) {K:Nat} (hK:w+n<K):oG K (mx T n w) (r:Int) (c:Int)=some (mx (sD T r c) n w):=by
 have e1:=aHj hT hr hc (by omega) hw K w 0 K (by omega) (by omega)
 have e2:=aHq hT hr hc hB hw hn (K:=K) (by omega) n 0 K (by omega) (by omega)
 have e3:mx (sD T r c) 0 w=[]:=rfl
 rw [e3] at e2
 simp only [Int.natCast_zero,yW] at e1 e2
 simp only [oG,e1,oB,nP,e2,n4]
theorem aPz {xs ys:List Rat} (h:xs.length=ys.length):cpL xs ys=ys:=by
 unfold cpL
 rw [h,Nat.min_self,List.take_length,←h,List.drop_length,List.append_nil]
theorem aD8 {rs:List (List Rat)} {o p:Nat} {x:List Rat} (ho:o<rs.length):(rs.set o x).getD p []=if p=o then x else rs.getD p []:=by
 rw [List.getD_eq_getElem?_getD,List.getD_eq_getElem?_getD,List.getElem?_set]
 by_cases h:o=p
 ·subst h;rw [if_pos rfl,if_pos ho,if_pos rfl];rfl
 ·rw [if_neg h,if_neg (fun e=>h e.symm)]
theorem aAr.set {n w:Nat} {rs:List (List Rat)} {od:Nat→Nat} {T:Nat→Nat→Rat} (h:aAr n w rs od T) {i:Nat} (hi:i<n) (f:Nat→Rat):aAr n w (rs.set (od i) (mp f w)) od (nY T i f):=
 ⟨fun j hj=>by rw [List.length_set];exact h.lt j hj,h.inj,fun j hj=>by
  rw [aD8 (h.lt i hi)]
  by_cases e:j=i
  ·subst e;rw [if_pos rfl,bF]
  ·rw [if_neg (fun e2=>e (h.inj j i hj hi e2)),cN e]
   exact h.row j hj⟩
theorem aAr.congr {n w:Nat} {rs:List (List Rat)} {od:Nat→Nat} {T T':Nat→Nat→Rat} (h:aAr n w rs od T) (e:∀i k,i<n→k<w→T i k=T' i k):aAr n w rs od T':=
 ⟨h.lt,h.inj,fun i hi=>by rw [h.row i hi];exact iD fun k hk=>e i k hi hk⟩
theorem aHE {w v27 B:Nat} {a5:List (List Rat)} {x22:List Rat} {g:Nat→Rat} {p:Rat} (hx:cpL x22 (a5.getD v27 [])=mp g w) (hg:∀k,k<w→Bd B (g k)) (hp:Bd B p) (hB:B≤1073741824) (hw:w≤100000) (K:Nat):∀(t k fu:Nat),k+t=w→t<fu→cE K a5 x22 v27 p fu (mp (fun j=>if j<k then g j/p else g j) w) (k:Int)=some (mp (fun j=>g j/p) w)
 |0,k,fu,hk,hf=>by
  obtain⟨fu',rfl,_⟩:=bJ hf
  have e:k=w:=by omega
  subst e
  simp only [cE,hx,bC,dF (show¬(k:Int)<(k:Int) by omega),bQ]
  exact congrArg some (iD fun j hj=>if_pos hj)
 |t+1,k,fu,hk,hf=>by
  obtain⟨fu',rfl,_⟩:=bJ hf
  have hkw:k<w:=by omega
  have e1:(fun j=>if j<k then g j/p else g j) k=g k:=if_neg (by omega)
  have e2:mp (nY (fun j=>if j<k then g j/p else g j) k (g k/p)) w=mp (fun j=>if j<k+1 then g j/p else g j) w:=iD fun j _=>by
   by_cases e:j=k
   ·subst e;rw [bF,if_pos (by omega)]
   ·rw [cN e]
    by_cases hlt:j<k
    ·rw [if_pos hlt,if_pos (by omega)]
    ·rw [if_neg hlt,if_neg (by omega)]
  simp only [cE,hx,bC,dT (show(k:Int)<(w:Int) by omega),bY,jP (f:=fun j=>if j<k then g j/p else g j) hkw,e1,oB,aBw (hg k hkw) hp hB hB,zP (f:=fun j=>if j<k then g j/p else g j) hkw,e2,uY (i:=k) (by omega)]
  exact aHE hx hg hp hB hw K t (k+1) fu' (by omega) (by omega)
theorem aFo {w o B:Nat} {a5 x66:List (List Rat)} {g q:Nat→Rat} {x:Rat} (ho:o<x66.length) (hne:a5.length≠o) (h66:x66.getD o []=mp g w) (hq:x66.getD a5.length []=mp q w) (hg:∀k,k<w→Bd B (g k)) (hqb:∀k,k<w→Bd (B+B) (q k)) (hx:Bd B x) (hB:B≤200000000) (hw:w≤100000) (K:Nat):∀(t k fu:Nat),k+t=w→t<fu→cA K a5 x66 o x fu (x66.set o (mp (fun j=>if j<k then g j-x*q j else g j) w)) (k:Int)=some (x66.set o (mp (fun j=>g j-x*q j) w))
 |0,k,fu,hk,hf=>by
  obtain⟨fu',rfl,_⟩:=bJ hf
  have e:k=w:=by omega
  subst e
  simp only [cA,h66,bC,dF (show¬(k:Int)<(k:Int) by omega),bQ]
  exact congrArg (fun z=>some (x66.set o z)) (iD fun j hj=>if_pos hj)
 |t+1,k,fu,hk,hf=>by
  obtain⟨fu',rfl,_⟩:=bJ hf
  have hkw:k<w:=by omega
  have e1:(fun j=>if j<k then g j-x*q j else g j) k=g k:=if_neg (by omega)
  have e2:mp (nY (fun j=>if j<k then g j-x*q j else g j) k (g k-x*q k)) w=mp (fun j=>if j<k+1 then g j-x*q j else g j) w:=iD fun j _=>by
   by_cases e:j=k
   ·subst e;rw [bF,if_pos (by omega)]
   ·rw [cN e]
    by_cases hlt:j<k
    ·rw [if_pos hlt,if_pos (by omega)]
    ·rw [if_neg hlt,if_neg (by omega)]
  have r1:(x66.set o (mp (fun j=>if j<k then g j-x*q j else g j) w)).getD o []=mp (fun j=>if j<k then g j-x*q j else g j) w:=by rw [aD8 ho,if_pos rfl]
  have r2:(x66.set o (mp (fun j=>if j<k then g j-x*q j else g j) w)).getD a5.length []=mp q w:=by rw [aD8 ho,if_neg hne];exact hq
  simp only [cA,h66,bC,dT (show(k:Int)<(w:Int) by omega),bY,r1,r2,jP (f:=fun j=>if j<k then g j-x*q j else g j) hkw,jP (f:=q) hkw,e1,oB,aDL hx (hqb k hkw) (by omega) (by omega),aI2 (hg k hkw) (hx.mul (hqb k hkw)) (by omega) (by omega),zP (f:=fun j=>if j<k then g j-x*q j else g j) hkw,e2,List.set_set,uY (i:=k) (by omega)]
  exact aFo ho hne h66 hq hg hqb hx hB hw K t (k+1) fu' (by omega) (by omega)
def pst (T:Nat→Nat→Rat) (r c t i k:Nat):Rat:=if i<t∨i=r then sD T r c i k else T i k
theorem aK9 {T:Nat→Nat→Rat} {r c t:Nat}:∀i k,(nY (pst T r c t) t (sD T r c t)) i k=pst T r c (t+1) i k:=fun i k=>by
 by_cases e:i=t
 ·subst e;rw [bF];unfold pst;rw [if_pos (.inl (by omega))]
 ·rw [cN e];unfold pst
  by_cases h:i<t∨i=r
  ·rw [if_pos h,if_pos (by omega)]
  ·rw [if_neg h,if_neg (by omega)]
theorem aHt {T:Nat→Nat→Rat} {r c t:Nat} (h:t=r∨T t c=0):∀i k,pst T r c t i k=pst T r c (t+1) i k:=fun i k=>by
 unfold pst
 by_cases h1:i<t∨i=r
 ·rw [if_pos h1,if_pos (by omega)]
 ·rw [if_neg h1]
  by_cases e:i=t
  ·subst e
   have h2:T i c=0:=by rcases h with h|h;exact absurd (.inr h) h1;exact h
   rw [if_pos (.inl (by omega))]
   unfold sD
   rw [if_neg (fun e=>h1 (.inr e)),h2,Rat.zero_mul,Rat.sub_eq_add_neg,Rat.neg_zero,Rat.add_zero]
  ·rw [if_neg (by omega)]
theorem aCK {n w r c B:Nat} {a5:List (List Rat)} {od:Nat→Nat} {T:Nat→Nat→Rat} (hT:zY n w B T) (hr:r<n) (hc:c<w) (hor:od r=a5.length) (hB:B≤200000000) (hw:w≤100000) (hn:n≤100000) {K:Nat} (hK:w<K):∀(t i fu:Nat) (rs:List (List Rat)),i+t=n→t<fu→aAr n w rs od (pst T r c i)→∃rs',bA K (r:Int) (c:Int) a5 (mp od n) fu rs (i:Int)=some rs'∧aAr n w rs' od (sD T r c)
 |0,i,fu,rs,hk,hf,h=>by
  obtain⟨fu',rfl,_⟩:=bJ hf
  have e:i=n:=by omega
  subst e
  refine⟨rs,by simp only [bA,bC,dF (show¬(i:Int)<(i:Int) by omega),bQ],h.congr fun j k hj _=>if_pos (.inl hj)⟩
 |t+1,i,fu,rs,hk,hf,h=>by
  obtain⟨fu',rfl,_⟩:=bJ hf
  have hin:i<n:=by omega
  have hrow:=h.row i hin
  by_cases e:i=r
  ·obtain⟨rs',g1,g2⟩:=aCK hT hr hc hor hB hw hn hK t (i+1) fu' rs (by omega) (by omega) (h.congr fun j k _ _=>aHt (.inl e) j k)
   refine⟨rs',?_,g2⟩
   simp only [bA,bC,dT (show(i:Int)<(n:Int) by omega),bY,jP (f:=od) hin,oB,hrow,jP (f:=pst T r c i i) hc,qT (show(i:Int)=(r:Int) by omega),uY (i:=i) (by omega)]
   exact g1
  ·have ei:pst T r c i i=T i:=by funext k;unfold pst;rw [if_neg (by omega)]
   rw [ei] at hrow
   by_cases hz:T i c=0
   ·obtain⟨rs',g1,g2⟩:=aCK hT hr hc hor hB hw hn hK t (i+1) fu' rs (by omega) (by omega) (h.congr fun j k _ _=>aHt (.inr hz) j k)
    refine⟨rs',?_,g2⟩
    simp only [bA,bC,dT (show(i:Int)<(n:Int) by omega),bY,jP (f:=od) hin,oB,hrow,jP (f:=T i) hc,qF (show(i:Int)≠(r:Int) by omega),bQ,y0 (hT i c hin hc) (by omega),qT (aNw.2 hz),uY (i:=i) (by omega)]
    exact g1
   ·have hne:a5.length≠od i:=fun h2=>e (h.inj i r hin hr (by rw [←h2,hor]))
    have hq:rs.getD a5.length []=mp (yR T r c) w:=by
     rw [←hor,h.row r hr]
     exact iD fun k _=>by unfold pst sD yR;rw [if_pos (.inr rfl),if_pos rfl]
    have h112:=aFo (h.lt i hin) hne hrow hq (fun k hk=>hT i k hin hk) (fun k hk=>aIW hT hr hc hk) (hT i c hin hc) hB hw K w 0 K (by omega) hK
    have e0:rs.set (od i) (mp (fun j=>if j<0 then T i j-T i c*yR T r c j else T i j) w)=rs:=by
     have e9:mp (fun j=>if j<0 then T i j-T i c*yR T r c j else T i j) w=rs.getD (od i) []:=by
      rw [hrow];exact iD fun j _=>if_neg (by omega)
     rw [e9,List.getD_eq_getElem?_getD,List.getElem?_eq_getElem (h.lt i hin),Option.getD_some,List.set_getElem_self]
    rw [e0] at h112
    simp only [Int.natCast_zero] at h112
    have e1:mp (fun j=>T i j-T i c*yR T r c j) w=mp (sD T r c i) w:=iD fun j _=>by unfold sD yR;rw [if_neg e]
    rw [e1] at h112
    obtain⟨rs',g1,g2⟩:=aCK hT hr hc hor hB hw hn hK t (i+1) fu' _ (by omega) (by omega) ((h.set hin (sD T r c i)).congr fun j k _ _=>aK9 j k)
    refine⟨rs',?_,g2⟩
    simp only [bA,bC,dT (show(i:Int)<(n:Int) by omega),bY,jP (f:=od) hin,oB,hrow,jP (f:=T i) hc,qF (show(i:Int)≠(r:Int) by omega),bQ,y0 (hT i c hin hc) (by omega),qF (fun h2=>hz (aNw.1 h2)),h112,iK,uY (i:=i) (by omega)]
    exact g1
theorem aNi {n w r c B:Nat} {rs:List (List Rat)} {od b:Nat→Nat} {T:Nat→Nat→Rat} {a2:Int} (h:aAr n w rs od T) (hT:zY n w B T) (hr:r<n) (hc:c<w) (hB:B≤200000000) (hw:w≤100000) (hn:n≤100000) {K:Nat} (hK:w+n<K):∃rs' od',iE K (r:Int) (c:Int) a2 (mp od n) (mp (fun i=>((b i:Nat):Int)) n) rs=some (((b r:Nat):Int),mp od' n,mp (fun i=>((nY b r c i:Nat):Int)) n,rs')∧aAr n w rs' od' (sD T r c):=by
 have hrow:=h.row r hr
 have hcp:cpL (mp (fun _=>(0:Rat)) w) (rs.getD (od r) [])=mp (T r) w:=by rw [hrow];exact aPz (by rw [bC,bC])
 have h53:=aHE hcp (fun k hk=>hT r k hr hk) (hT r c hr hc) (by omega) hw K w 0 K (by omega) (by omega)
 have e0:mp (fun j=>if j<0 then T r j/T r c else T r j) w=mp (T r) w:=iD fun j _=>if_neg (by omega)
 rw [e0] at h53
 have h0:aAr n w (rs++[mp (yR T r c) w]) (nY od r rs.length) (pst T r c 0):=by
  refine⟨fun i hi=>?_,fun i j hi hj e=>?_,fun i hi=>?_⟩
  ·by_cases e:i=r
   ·rw [e,bF];simp
   ·rw [cN e];have:=h.lt i hi;simp;omega
  ·by_cases e1:i=r
   ·by_cases e2:j=r
    ·rw [e1,e2]
    ·rw [e1,bF,cN e2] at e;have:=h.lt j hj;omega
   ·by_cases e2:j=r
    ·rw [e2,bF,cN e1] at e;have:=h.lt i hi;omega
    ·rw [cN e1,cN e2] at e;exact h.inj i j hi hj e
  ·by_cases e:i=r
   ·rw [e,bF,List.getD_eq_getElem?_getD,List.getElem?_append_right (Nat.le_refl _),Nat.sub_self]
    show mp (yR T r c) w=_
    exact iD fun k _=>by unfold pst sD yR;rw [if_pos (.inr rfl),if_pos rfl]
   ·have hl:=h.lt i hi
    rw [cN e,List.getD_eq_getElem?_getD,List.getElem?_append_left hl,←List.getD_eq_getElem?_getD,h.row i hi]
    exact iD fun k _=>by unfold pst;rw [if_neg (by omega)]
 obtain⟨rs',g1,g2⟩:=aCK (a5:=rs) hT hr hc bF hB hw hn (K:=K) (by omega) n 0 K _ (by omega) (by omega) h0
 simp only [Int.natCast_zero] at h53 g1
 have e3:mp (fun j=>T r j/T r c) w=mp (yR T r c) w:=rfl
 rw [e3] at h53
 have e4:mp (nY (fun i=>((b i:Nat):Int)) r (c:Int)) n=mp (fun i=>((nY b r c i:Nat):Int)) n:=iD fun i _=>by
  by_cases e:i=r
  ·rw [e,bF,bF]
  ·rw [cN e,cN e]
 refine⟨rs',nY od r rs.length,?_,g2⟩
 simp only [iE,jP (f:=od) hr,oB,hrow,bC,aIv (z:=(0:Rat)) (n:=w) (by omega)]
 rw [←hrow,hcp]
 simp only [jP (f:=T r) hc,oB,h53,iR,jP (f:=od) hr,zP (f:=od) hr,g1,iS,jP (f:=fun i=>((b i:Nat):Int)) hr,zP (f:=fun i=>((b i:Nat):Int)) hr,e4]
end Go.Proofs.YtolfcbpgmfbgmaaGreat
set_option linter.unusedVariables false
namespace Go.Proofs.YtolfcbpgmfbgmaaGreat
def enc (s:Option Nat):Int:=match s with|none=>-1|some r=>(r:Int)
def sel (T:Nat→Nat→Rat) (n c:Nat):Nat→Nat→Option Nat→Option Nat
 |0,_,s=>s
 |t+1,i,s=>bif decide (0<(T i c).num.sign) then(match s with
  |none=>sel T n c t (i+1) (some i)
  |some r=>bif les T n i (T i c) r (T r c) then sel T n c t (i+1) (some i) else sel T n c t (i+1) (some r)) else sel T n c t (i+1) s
theorem zW {T:Nat→Nat→Rat} {n c:Nat}:∀t i s r,(∀q,s=some q→q<i∧0<(T q c).num.sign)→sel T n c t i s=some r→r<i+t∧0<(T r c).num.sign
 |0,i,s,r,h,e=>by have:=h r e;exact⟨by omega,this.2⟩
 |t+1,i,s,r,h,e=>by
  unfold sel at e
  by_cases hp:0<(T i c).num.sign
  ·rw [decide_eq_true hp,bY] at e
   have hi:∀q,some i=some q→q<i+1∧0<(T q c).num.sign:=fun q hq=>by cases hq;exact⟨by omega,hp⟩
   cases s with
   |none=>have:=zW t (i+1) (some i) r hi e;exact⟨by omega,this.2⟩
   |some p=>
    have hs:∀q,some p=some q→q<i+1∧0<(T q c).num.sign:=fun q hq=>by have:=h q hq;exact⟨by omega,this.2⟩
    simp only at e
    cases hl:les T n i (T i c) p (T p c)
    ·rw [hl,bQ] at e;have:=zW t (i+1) (some p) r hs e;exact⟨by omega,this.2⟩
    ·rw [hl,bY] at e;have:=zW t (i+1) (some i) r hi e;exact⟨by omega,this.2⟩
  ·rw [decide_eq_false hp,bQ] at e
   have:=zW t (i+1) s r (fun q hq=>by have:=h q hq;exact⟨by omega,this.2⟩) e
   exact⟨by omega,this.2⟩
theorem aFn {n c B:Nat} {rs:List (List Rat)} {od:Nat→Nat} {T:Nat→Nat→Rat} {v6:Int×(List Nat)×(List Int)×(List (List Rat))} {x:Int} {bs:List Int} (h6:v6.1=(n:Int)) (h:aAr n (2*n+2) rs od T) (hT:zY n (2*n+2) B T) (hc:c<2*n+2) (hB:B≤200000000) (hn:n≤1000) {K:Nat} (hK:2000≤K):∀(t i fu:Nat) (s:Option Nat),i+t=n→t<fu→(∀q,s=some q→q<i)→cU K v6 (x,mp od n,bs,rs) (c:Int) fu (enc s) (i:Int)=some (enc (sel T n c t i s))
 |0,i,fu,s,hi,hf,hs=>by
  obtain⟨fu',rfl,_⟩:=bJ hf
  simp only [cU,bC,dF (show¬(i:Int)<(n:Int) by omega),bQ,sel]
 |t+1,i,fu,s,hi,hf,hs=>by
  obtain⟨fu',rfl,_⟩:=bJ hf
  have hin:i<n:=by omega
  have hb:=hT i c hin hc
  have ih:=fun s hs=>aFn (x:=x) (bs:=bs) h6 h hT hc hB hn hK t (i+1) fu' s (by omega) (by omega) hs
  simp only [cU,bC,dT (show(i:Int)<(n:Int) by omega),bY,jP (f:=od) hin,oB,h.row i hin,jP (f:=T i) hc,y0 hb (by omega),sel]
  by_cases hp:0<(T i c).num.sign
  ·simp only [dT hp,bY]
   cases s with
   |none=>
    simp only [enc,dT (show(-1:Int)<0 by omega),bY,uY (i:=i) (by omega),oB]
    exact ih (some i) (fun q hq=>by cases hq;omega)
   |some p=>
    have hpn:p<n:=by have:=hs p rfl;omega
    have hl:=aHh (a6:=bs) h hT hin hpn hb (hT p c hpn hc) (by omega) hn hK
    simp only [enc,dF (show¬(p:Int)<0 by omega),bQ,jP (f:=od) hpn,h.row p hpn,jP (f:=T p) hc,oB,h6,hl]
    cases les T n i (T i c) p (T p c)
    ·simp only [bQ,uY (i:=i) (by omega),oB]
     exact ih (some p) (fun q hq=>by have:=hs q hq;omega)
    ·simp only [bY,uY (i:=i) (by omega),oB]
     exact ih (some i) (fun q hq=>by cases hq;omega)
  ·simp only [dF hp,bQ,uY (i:=i) (by omega),oB]
   exact ih s (fun q hq=>by have:=hs q hq;omega)
theorem aFf {n c B:Nat} {T:Nat→Nat→Rat} {a1:List Rat} (h1:a1.length=n) (hT:zY n (2*n+2) B T) (hc:c<2*n+2) (hB:B≤200000000) (hn:n≤1000) {K:Nat} (hK:2000≤K):∀(t i fu:Nat) (s:Option Nat),i+t=n→t<fu→(∀q,s=some q→q<i)→cK K a1 (mx T n (2*n+2)) (c:Int) fu (enc s) (i:Int)=some (enc (sel T n c t i s))
 |0,i,fu,s,hi,hf,hs=>by
  obtain⟨fu',rfl,_⟩:=bJ hf
  simp only [cK,h1,dF (show¬(i:Int)<(n:Int) by omega),bQ,sel]
 |t+1,i,fu,s,hi,hf,hs=>by
  obtain⟨fu',rfl,_⟩:=bJ hf
  have hin:i<n:=by omega
  have hb:=hT i c hin hc
  have ih:=fun s hs=>aFf h1 hT hc hB hn hK t (i+1) fu' s (by omega) (by omega) hs
  simp only [cK,h1,dT (show(i:Int)<(n:Int) by omega),bY,aAl (g:=T) (w:=2*n+2) hin,oB,jP (f:=T i) hc,y0 hb (by omega),sel]
  by_cases hp:0<(T i c).num.sign
  ·simp only [dT hp,dF (show¬(T i c).num.sign≤0 by omega),bY,bQ]
   cases s with
   |none=>
    simp only [enc,dT (show(-1:Int)<0 by omega),bY,uY (i:=i) (by omega),oB]
    exact ih (some i) (fun q hq=>by cases hq;omega)
   |some p=>
    have hpn:p<n:=by have:=hs p rfl;omega
    have hbp:=hT p c hpn hc
    have hl:=aFp hT hin hpn hb hbp (by omega) hn hK
    simp only [enc,dF (show¬(p:Int)<0 by omega),bQ,aGu hT hin hb (by omega) (by omega) hn hK,aAl (g:=T) (w:=2*n+2) hpn,jP (f:=T p) hc,oB,aGu hT hpn hbp (by omega) (by omega) hn hK,hl]
    cases les T n i (T i c) p (T p c)
    ·simp only [bQ,uY (i:=i) (by omega),oB]
     exact ih (some p) (fun q hq=>by have:=hs q hq;omega)
    ·simp only [bY,uY (i:=i) (by omega),oB]
     exact ih (some i) (fun q hq=>by cases hq;omega)
  ·simp only [dF hp,dT (show(T i c).num.sign≤0 by omega),bY,bQ,uY (i:=i) (by omega),oB]
   exact ih s (fun q hq=>by have:=hs q hq;omega)
def swv (T:Nat→Nat→Rat) (b:Nat→Nat) (n:Nat):Nat→Nat→Rat
 |0=>z0
 |i+1=>if b i<n then nY (swv T b n i) (b i) (T i (2*n+1)) else swv T b n i
def szv (T:Nat→Nat→Rat) (b:Nat→Nat) (n:Nat):Nat→Nat→Rat
 |0=>z0
 |i+1=>if b i<n then szv T b n i else if b i<2*n then nY (szv T b n i) (b i-n) (T i (2*n+1)) else szv T b n i
theorem aHH {n:Nat} {rs:List (List Rat)} {od b:Nat→Nat} {T:Nat→Nat→Rat} (h:aAr n (2*n+2) rs od T) (hn:n≤1000) (K:Nat):∀(t i fu:Nat),i+t=n→t<fu→bG K (n:Int) (mp od n) (mp (fun i=>((b i:Nat):Int)) n) rs fu (mp (swv T b n i) n) (mp (szv T b n i) n) (i:Int)=some (mp (swv T b n n) n,mp (szv T b n n) n)
 |0,i,fu,hi,hf=>by
  obtain⟨fu',rfl,_⟩:=bJ hf
  have e:i=n:=by omega
  subst e
  simp only [bG,bC,dF (show¬(i:Int)<(i:Int) by omega),bQ]
 |t+1,i,fu,hi,hf=>by
  obtain⟨fu',rfl,_⟩:=bJ hf
  have hin:i<n:=by omega
  have ih:=aHH (b:=b) h hn K t (i+1) fu' (by omega) (by omega)
  have c1:aR (2*(n:Int))=some (2*(n:Int)):=oR (by omega)
  have c2:aR (2*(n:Int)+1)=some ((2*n+1:Nat):Int):=by rw [oR (by omega)];congr 1
  simp only [bG,bC,dT (show(i:Int)<(n:Int) by omega),bY,jP (f:=fun i=>((b i:Nat):Int)) hin,jP (f:=od) hin,oB,c1,c2,h.row i hin,jP (f:=T i) (n:=2*n+2) (i:=2*n+1) (by omega)]
  by_cases h1:b i<n
  ·have e1:swv T b n (i+1)=nY (swv T b n i) (b i) (T i (2*n+1)):=if_pos h1
   have e2:szv T b n (i+1)=szv T b n i:=if_pos h1
   rw [e1,e2] at ih
   simp only [dT (show((b i:Nat):Int)<(n:Int) by omega),bY,jP (f:=swv T b n i) h1,zP (f:=swv T b n i) h1,oB,uY (i:=i) (by omega)]
   exact ih
  ·have e1:swv T b n (i+1)=swv T b n i:=if_neg h1
   by_cases h2:b i<2*n
   ·have e2:szv T b n (i+1)=nY (szv T b n i) (b i-n) (T i (2*n+1)):=by
     show(if b i<n then _ else _)=_
     rw [if_neg h1,if_pos h2]
    have c3:aR (((b i:Nat):Int)-(n:Int))=some ((b i-n:Nat):Int):=by rw [show((b i:Nat):Int)-(n:Int)=((b i-n:Nat):Int) by omega,oR (by omega)]
    rw [e1,e2] at ih
    simp only [dF (show¬((b i:Nat):Int)<(n:Int) by omega),bQ,dT (show((b i:Nat):Int)<2*(n:Int) by omega),bY,c3,oB,jP (f:=szv T b n i) (n:=n) (i:=b i-n) (by omega),zP (f:=szv T b n i) (n:=n) (i:=b i-n) (by omega),uY (i:=i) (by omega)]
    exact ih
   ·have e2:szv T b n (i+1)=szv T b n i:=by
     show(if b i<n then _ else _)=_
     rw [if_neg h1,if_neg h2]
    rw [e1,e2] at ih
    simp only [dF (show¬((b i:Nat):Int)<(n:Int) by omega),bQ,dF (show¬((b i:Nat):Int)<2*(n:Int) by omega),uY (i:=i) (by omega),oB]
    exact ih
theorem aJh {n:Nat} {rs:List (List Rat)} {od b:Nat→Nat} {T:Nat→Nat→Rat} (h:aAr n (2*n+2) rs od T) (hn:n≤1000) {K:Nat} (hK:2000≤K):eI K (n:Int) (mp od n) (mp (fun i=>((b i:Nat):Int)) n) rs=some ⟨mp (szv T b n n) n,mp (swv T b n n) n,0⟩:=by
 have:=aHH (b:=b) h hn K n 0 K (by omega) (by omega)
 simp only [Int.natCast_zero] at this
 have e:mp (fun _=>(0:Rat)) n=mp (swv T b n 0) n:=rfl
 have e2:mp (swv T b n 0) n=mp (szv T b n 0) n:=rfl
 simp only [eI,aIv (z:=(0:Rat)) (n:=n) (by omega),oB,e]
 rw [show bG K (n:Int) (mp od n) (mp (fun i=>((b i:Nat):Int)) n) rs K (mp (swv T b n 0) n) (mp (swv T b n 0) n) 0=_ from this]
 rfl
theorem aFO {n:Nat} {b:Nat→Nat} {T:Nat→Nat→Rat} {a1:List Rat} (h1:a1.length=n) (hb:∀i,i<n→b i<2*n) (hn:n≤1000) (K:Nat):∀(t i fu:Nat),i+t=n→t<fu→dJ K a1 (mx T n (2*n+2)) (mp (fun i=>((b i:Nat):Int)) n) fu (mp (swv T b n i) n) (mp (szv T b n i) n) (i:Int)=some (mp (swv T b n n) n,mp (szv T b n n) n)
 |0,i,fu,hi,hf=>by
  obtain⟨fu',rfl,_⟩:=bJ hf
  have e:i=n:=by omega
  subst e
  simp only [dJ,h1,dF (show¬(i:Int)<(i:Int) by omega),bQ]
 |t+1,i,fu,hi,hf=>by
  obtain⟨fu',rfl,_⟩:=bJ hf
  have hin:i<n:=by omega
  have ih:=aFO (T:=T) h1 hb hn K t (i+1) fu' (by omega) (by omega)
  have c1:aR (2*(n:Int))=some (2*(n:Int)):=oR (by omega)
  have c2:aR (2*(n:Int)+1)=some ((2*n+1:Nat):Int):=by rw [oR (by omega)];congr 1
  have h2:=hb i hin
  simp only [dJ,h1,dT (show(i:Int)<(n:Int) by omega),bY,jP (f:=fun i=>((b i:Nat):Int)) hin,oB]
  by_cases h3:b i<n
  ·have e1:swv T b n (i+1)=nY (swv T b n i) (b i) (T i (2*n+1)):=if_pos h3
   have e2:szv T b n (i+1)=szv T b n i:=if_pos h3
   rw [e1,e2] at ih
   simp only [dT (show((b i:Nat):Int)<(n:Int) by omega),bY,aAl (g:=T) (w:=2*n+2) hin,c1,c2,oB,jP (f:=T i) (n:=2*n+2) (i:=2*n+1) (by omega),jP (f:=swv T b n i) h3,zP (f:=swv T b n i) h3,uY (i:=i) (by omega)]
   exact ih
  ·have e1:swv T b n (i+1)=swv T b n i:=if_neg h3
   have e2:szv T b n (i+1)=nY (szv T b n i) (b i-n) (T i (2*n+1)):=by
    show(if b i<n then _ else _)=_
    rw [if_neg h3,if_pos h2]
   have c3:aR (((b i:Nat):Int)-(n:Int))=some ((b i-n:Nat):Int):=by rw [show((b i:Nat):Int)-(n:Int)=((b i-n:Nat):Int) by omega,oR (by omega)]
   rw [e1,e2] at ih
   simp only [dF (show¬((b i:Nat):Int)<(n:Int) by omega),bQ,c3,aAl (g:=T) (w:=2*n+2) hin,c1,c2,oB,jP (f:=T i) (n:=2*n+2) (i:=2*n+1) (by omega),jP (f:=szv T b n i) (n:=n) (i:=b i-n) (by omega),zP (f:=szv T b n i) (n:=n) (i:=b i-n) (by omega),uY (i:=i) (by omega)]
   exact ih
end Go.Proofs.YtolfcbpgmfbgmaaGreat
set_option linter.unusedVariables false
namespace Go.Proofs.YtolfcbpgmfbgmaaGreat
/-- The run from a tableau on. -/
def lem (n most:Nat):Nat→(Nat→Nat→Rat)→(Nat→Nat)→Nat→Nat→Nat→aF×Int
 |0,_,_,_,_,_=>(⟨[],[],0⟩,16)
 |f+1,T,b,r,c,cnt=>
  if cnt=most then(⟨[],[],0⟩,16)
  else if b r=2*n then(⟨mp (szv (sD T r c) (nY b r c) n n) n,mp (swv (sD T r c) (nY b r c) n n) n,((cnt+1:Nat):Int)⟩,0)
  else match sel (sD T r c) n (if b r<n then b r+n else b r-n) n 0 none with
   |none=>(⟨[],[],0⟩,15)
   |some r'=>lem n most f (sD T r c) (nY b r c) r' (if b r<n then b r+n else b r-n) (cnt+1)
structure LI (n:Nat) (Z T:Nat→Nat→Rat) (b:Nat→Nat) (r c:Nat):Prop where
 ti:TI n (2*n+2) Z T b
 hr:r<n
 hc:c≤2*n
 hp:T r c≠0
 hb:∀j,j<n→b j≤2*n
 fst:c=2*n→b r≠2*n
theorem TI.inj {n w:Nat} {Z T:Nat→Nat→Rat} {b:Nat→Nat} (h:TI n w Z T b) {i j:Nat} (hi:i<n) (hj:j<n) (e:b i=b j):i=j:=by
 by_cases h1:i=j
 ·exact h1
 ·have a:=h.un i i hi hi
  have c:=h.un i j hi hj
  rw [if_pos rfl,e] at a
  rw [if_neg h1,a] at c
  exact absurd c (by decide)
theorem aIl {n x:Nat} (hx:x≤2*n) (hne:x≠2*n):(if x<n then x+n else x-n)<2*n:=by split<;>omega
theorem LI.next {n:Nat} {Z T:Nat→Nat→Rat} {b:Nat→Nat} {r c r':Nat} (h:LI n Z T b r c) (hne:b r≠2*n) (hs:sel (sD T r c) n (if b r<n then b r+n else b r-n) n 0 none=some r'):LI n Z (sD T r c) (nY b r c) r' (if b r<n then b r+n else b r-n):=by
 have hlt:=aIl (h.hb r h.hr) hne
 obtain⟨s1,s2⟩:=zW n 0 none r' (fun q hq=>by cases hq) hs
 refine⟨h.ti.pivot h.hr (by have:=h.hc;omega) h.hp,by omega,by omega,fun e=>?_,fun j hj=>?_,fun e=>by omega⟩
 ·rw [e] at s2;exact absurd s2 (by decide)
 ·by_cases e:j=r
  ·rw [e,bF];exact h.hc
  ·rw [cN e];exact h.hb j hj
def Sm (n B:Nat) (Z:Nat→Nat→Rat):Prop:=∀T b,TI n (2*n+2) Z T b→zY n (2*n+2) B T
theorem aQ6 {n most B:Nat} {Z:Nat→Nat→Rat} {v6:Int×(List Nat)×(List Int)×(List (List Rat))} (h6:v6.1=(n:Int)) (hZ:Sm n B Z) (hB:B≤200000000) (hn:n≤1000) (hm:most≤100000) {K:Nat} (hK:5000≤K):∀(f cnt fu:Nat) (rs:List (List Rat)) (od:Nat→Nat) (T:Nat→Nat→Rat) (b:Nat→Nat) (r c:Nat),cnt+f=most+1→0<f→f≤fu→aAr n (2*n+2) rs od T→LI n Z T b r c→
  cL K (most:Int) v6 fu (mp od n) (mp (fun i=>((b i:Nat):Int)) n) rs (r:Int) (c:Int) (cnt:Int)=some (.ret (lem n most f T b r c cnt))
 |0,cnt,fu,rs,od,T,b,r,c,hc,h0,hf,hR,h=>by omega
 |f+1,cnt,fu,rs,od,T,b,r,c,hc,h0,hf,hR,h=>by
  obtain⟨fu',rfl,hf'⟩:=bJ (show f<fu by omega)
  unfold lem
  by_cases e:cnt=most
  ·rw [if_pos e]
   simp only [cL,qT (show(cnt:Int)=(most:Int) by omega),bY]
  ·rw [if_neg e]
   have hcw:=h.hc
   have hT:=hZ T b h.ti
   have ti':=h.ti.pivot h.hr (show c<2*n+2 by omega) h.hp
   have hT':=hZ _ _ ti'
   obtain⟨rs',od',p1,p2⟩:=aNi (b:=b) (a2:=v6.1) hR hT h.hr (show c<2*n+2 by omega) hB (by omega) (by omega) (K:=K) (by omega)
   have hbr:=h.hb r h.hr
   have c1:aR (2*(n:Int))=some (2*(n:Int)):=oR (by omega)
   rw [h6] at p1
   simp only [cL,qF (show(cnt:Int)≠(most:Int) by omega),bQ,h6,p1,oB,c1]
   by_cases e2:b r=2*n
   ·rw [if_pos e2]
    simp only [qT (show((b r:Nat):Int)=2*(n:Int) by omega),bY,aJh (b:=nY b r c) p2 hn (show 2000≤K by omega),oB,uY (i:=cnt) (by omega)]
   ·rw [if_neg e2]
    have hlt:=aIl hbr e2
    have c2:aR (((b r:Nat):Int)+(n:Int))=some ((b r+n:Nat):Int):=by rw [oR (by omega)];rfl
    have hsel:=aFn (v6:=v6) (x:=((b r:Nat):Int)) (bs:=mp (fun i=>((nY b r c i:Nat):Int)) n) h6 p2 hT' (show(if b r<n then b r+n else b r-n)<2*n+2 by omega) hB hn (show 2000≤K by omega) n 0 K none (by omega) (by omega) (fun q hq=>by cases hq)
    simp only [Int.natCast_zero,show enc none=(-1:Int) from rfl] at hsel
    have key:jK K v6 (cnt:Int) (((b r:Nat):Int),mp od' n,mp (fun i=>((nY b r c i:Nat):Int)) n,rs') (cL K (most:Int) v6 fu') (((if b r<n then b r+n else b r-n:Nat)):Int)=some (.ret (match sel (sD T r c) n (if b r<n then b r+n else b r-n) n 0 none with|none=>(⟨[],[],0⟩,15)|some r'=>lem n most f (sD T r c) (nY b r c) r' (if b r<n then b r+n else b r-n) (cnt+1))):=by
     simp only [jK,hsel,oB,nR]
     cases hs:sel (sD T r c) n (if b r<n then b r+n else b r-n) n 0 none with
     |none=>rfl
     |some r'=>
      simp only [enc,dF (show¬(r':Int)<0 by omega),bQ,uY (i:=cnt) (by omega),oB]
      exact aQ6 h6 hZ hB hn hm hK f (cnt+1) fu' rs' od' _ _ r' _ (by omega) (by omega) (by omega) p2 (h.next e2 hs)
    simp only [qF (show((b r:Nat):Int)≠2*(n:Int) by omega),bQ,c2,oB]
    by_cases h3:b r<n
    ·rw [if_pos h3] at key
     simp only [dF (show¬(n:Int)≤((b r:Nat):Int) by omega),bQ,if_pos h3]
     exact key
    ·rw [if_neg h3] at key
     have c3:aR (((b r:Nat):Int)-(n:Int))=some ((b r-n:Nat):Int):=by rw [show((b r:Nat):Int)-(n:Int)=((b r-n:Nat):Int) by omega,oR (by omega)]
     simp only [dT (show(n:Int)≤((b r:Nat):Int) by omega),bY,c3,oB,if_neg h3]
     exact key
theorem aQV {n most B:Nat} {Z:Nat→Nat→Rat} {a1:List Rat} (h1:a1.length=n) (hZ:Sm n B Z) (hB:B≤200000000) (hn:n≤1000) (hm:most≤100000) {K:Nat} (hK:5000≤K):∀(f cnt fu:Nat) (T:Nat→Nat→Rat) (b:Nat→Nat) (r c:Nat),cnt+f=most+1→0<f→f≤fu→LI n Z T b r c→
  fB K a1 (most:Int) fu (mp (fun i=>((b i:Nat):Int)) n) (mx T n (2*n+2)) (r:Int) (c:Int) (cnt:Int)=some (.ret (lem n most f T b r c cnt))
 |0,cnt,fu,T,b,r,c,hc,h0,hf,h=>by omega
 |f+1,cnt,fu,T,b,r,c,hc,h0,hf,h=>by
  obtain⟨fu',rfl,hf'⟩:=bJ (show f<fu by omega)
  unfold lem
  by_cases e:cnt=most
  ·rw [if_pos e]
   simp only [fB,qT (show(cnt:Int)=(most:Int) by omega),bY]
  ·rw [if_neg e]
   have hcw:=h.hc
   have hr:=h.hr
   have hT:=hZ T b h.ti
   have ti':=h.ti.pivot h.hr (show c<2*n+2 by omega) h.hp
   have hT':=hZ _ _ ti'
   have p1:=aMZ hT h.hr (show c<2*n+2 by omega) hB (by omega) (by omega) (K:=K) (by omega)
   have hbr:=h.hb r h.hr
   have c1:aR (2*(n:Int))=some (2*(n:Int)):=oR (by omega)
   have e4:mp (nY (fun i=>((b i:Nat):Int)) r (c:Int)) n=mp (fun i=>((nY b r c i:Nat):Int)) n:=iD fun i _=>by
    by_cases e:i=r
    ·rw [e,bF,bF]
    ·rw [cN e,cN e]
   simp only [fB,qF (show(cnt:Int)≠(most:Int) by omega),bQ,p1,oB,uY (i:=cnt) (by omega),jP (f:=fun i=>((b i:Nat):Int)) hr,zP (f:=fun i=>((b i:Nat):Int)) hr,e4,h1,c1]
   by_cases e2:b r=2*n
   ·rw [if_pos e2]
    have hb2:∀i,i<n→nY b r c i<2*n:=fun i hi=>by
     by_cases ei:i=r
     ·rw [ei,bF]
      have:=h.fst
      by_cases ec:c=2*n
      ·exact absurd e2 (this ec)
      ·omega
     ·rw [cN ei]
      have h5:=h.hb i hi
      by_cases e6:b i=2*n
      ·exact absurd (h.ti.inj hi hr (by rw [e6,e2])) ei
      ·omega
    have hs:=aFO (T:=sD T r c) h1 hb2 hn K n 0 K (by omega) (by omega)
    simp only [Int.natCast_zero] at hs
    have z1:mp (fun _=>(0:Rat)) n=mp (swv (sD T r c) (nY b r c) n 0) n:=rfl
    have hs':dJ K a1 (mx (sD T r c) n (2*n+2)) (mp (fun i=>((nY b r c i:Nat):Int)) n) K (mp (fun _=>(0:Rat)) n) (mp (fun _=>(0:Rat)) n) 0=some (mp (swv (sD T r c) (nY b r c) n n) n,mp (szv (sD T r c) (nY b r c) n n) n):=hs
    simp only [qT (show((b r:Nat):Int)=2*(n:Int) by omega),bY,aIv (z:=(0:Rat)) (n:=n) (by omega),oB,hs',nC]
   ·rw [if_neg e2]
    have hlt:=aIl hbr e2
    have c2:aR (((b r:Nat):Int)+(n:Int))=some ((b r+n:Nat):Int):=by rw [oR (by omega)];rfl
    have c3:y7 ((b r+n:Nat):Int) (2*(n:Int))=some (((if b r<n then b r+n else b r-n:Nat)):Int):=by
     rw [tB (by omega) (by omega)]
     congr 1
     by_cases h3:b r<n
     ·rw [if_pos h3,Int.emod_eq_of_lt (by omega) (by omega)]
     ·rw [if_neg h3,show((b r+n:Nat):Int)=((b r-n:Nat):Int)+2*(n:Int) by omega,Int.add_emod_right,Int.emod_eq_of_lt (by omega) (by omega)]
    have hsel:=aFf h1 hT' (show(if b r<n then b r+n else b r-n)<2*n+2 by omega) hB hn (show 2000≤K by omega) n 0 K none (by omega) (by omega) (fun q hq=>by cases hq)
    simp only [Int.natCast_zero,show enc none=(-1:Int) from rfl] at hsel
    simp only [qF (show((b r:Nat):Int)≠2*(n:Int) by omega),bQ,c2,oB,c3,hsel,m5]
    cases hs:sel (sD T r c) n (if b r<n then b r+n else b r-n) n 0 none with
    |none=>rfl
    |some r'=>
     simp only [enc,dF (show¬(r':Int)<0 by omega),bQ]
     exact aQV h1 hZ hB hn hm hK f (cnt+1) fu' _ _ r' _ (by omega) (by omega) (by omega) (h.next e2 hs)
end Go.Proofs.YtolfcbpgmfbgmaaGreat
set_option linter.unusedVariables false
namespace Go.Proofs.YtolfcbpgmfbgmaaGreat
theorem aHK {l:List Rat} {B:Nat} (hl:Bds B l) (hB:B≤1073741824) (hn:l.length≤1000) (K:Nat):∀(t i k:Nat),i+t=l.length→t<k→jO K l k (i:Int)=some (.go ())
 |0,i,k,hi,hk=>by
  obtain⟨k',rfl,_⟩:=bJ hk
  simp only [jO,dF (show¬(i:Int)<(l.length:Int) by omega),bQ]
 |t+1,i,k,hi,hk=>by
  obtain⟨k',rfl,_⟩:=bJ hk
  simp only [jO,dT (show(i:Int)<(l.length:Int) by omega),bY,aPJ (l:=l) (i:=i) (by omega),oB,aI6 (hl _ (aIB (l:=l) (i:=i) (by omega))) hB,Bool.not_true,bQ,uY (i:=i) (by omega)]
  exact aHK hl hB hn K t (i+1) k' (by omega) (by omega)
theorem aA5 {l:List Rat} {B:Nat} (hl:Bds B l) (hB:B≤1073741824) (hn:l.length≤1000) {K:Nat} (hK:l.length<K):kK K l=some true:=by
 have:=aHK hl hB hn K l.length 0 K (by omega) hK
 simp only [Int.natCast_zero] at this
 simp only [kK,this,oB,qN]
theorem aFh {l:List Rat} {B:Nat} (hl:Bds B l) (hB:B≤1073741824) (hn:l.length≤1000) (K:Nat):∀(t i k:Nat),i+t=l.length→t<k→jC K l k (i:Int)=some (.go ())
 |0,i,k,hi,hk=>by
  obtain⟨k',rfl,_⟩:=bJ hk
  simp only [jC,dF (show¬(i:Int)<(l.length:Int) by omega),bQ]
 |t+1,i,k,hi,hk=>by
  obtain⟨k',rfl,_⟩:=bJ hk
  simp only [jC,dT (show(i:Int)<(l.length:Int) by omega),bY,aPJ (l:=l) (i:=i) (by omega),oB,aI6 (hl _ (aIB (l:=l) (i:=i) (by omega))) hB,Bool.not_true,bQ,uY (i:=i) (by omega)]
  exact aFh hl hB hn K t (i+1) k' (by omega) (by omega)
theorem aBr {l:List Rat} {B:Nat} (hl:Bds B l) (hB:B≤1073741824) (hn:l.length≤1000) {K:Nat} (hK:l.length<K):mN K l=some true:=by
 have:=aFh hl hB hn K l.length 0 K (by omega) hK
 simp only [Int.natCast_zero] at this
 simp only [mN,this,oB,pN]
theorem aFK {M:Nat→Nat→Rat} {q:Nat→Rat} {n B:Nat} (hM:zY n n B M) (hB:B≤1073741824) (hn:n≤32) {K:Nat} (hK:100≤K):∀(t i k:Nat),i+t=n→t<k→dR K (mx M n n) (mp q n) k (i:Int)=some (.go ())
 |0,i,k,hi,hk=>by
  obtain⟨k',rfl,_⟩:=bJ hk
  simp only [dR,rM,dF (show¬(i:Int)<(n:Int) by omega),bQ]
 |t+1,i,k,hi,hk=>by
  obtain⟨k',rfl,_⟩:=bJ hk
  have hin:i<n:=by omega
  have g:=aA5 (l:=mp (M i) n) (wW fun c hc=>hM i c hin hc) hB (by rw [bC];omega) (K:=K) (by rw [bC];omega)
  simp only [dR,rM,dT (show(i:Int)<(n:Int) by omega),bY,aAl (g:=M) (w:=n) hin,oB,bC,nF (rfl:(n:Int)=(n:Int)),bQ,g,Bool.not_true,uY (i:=i) (by omega)]
  exact aFK hM hB hn hK t (i+1) k' (by omega) (by omega)
theorem aBx {M:Nat→Nat→Rat} {q:Nat→Rat} {n B:Nat} (hM:zY n n B M) (hq:∀i,i<n→Bd B (q i)) (hB:B≤1073741824) (hn:n≤32) {K:Nat} (hK:100≤K):dS K (mx M n n) (mp q n)=some true:=by
 have g:=aA5 (l:=mp q n) (wW hq) hB (by rw [bC];omega) (K:=K) (by rw [bC];omega)
 have e:=aFK (q:=q) hM hB hn hK n 0 K (by omega) (by omega)
 simp only [Int.natCast_zero] at e
 simp only [dS,rM,bC,nF (rfl:(n:Int)=(n:Int)),bQ,dF (show¬(32:Int)<(n:Int) by omega),g,oB,Bool.not_true,e,pU]
theorem aEn {M:Nat→Nat→Rat} {q:Nat→Rat} {n B:Nat} (hM:zY n n B M) (hB:B≤1073741824) (hn:n≤32) {K:Nat} (hK:100≤K):∀(t i k:Nat),i+t=n→t<k→dH K (mx M n n) (mp q n) k (i:Int)=some (.go ())
 |0,i,k,hi,hk=>by
  obtain⟨k',rfl,_⟩:=bJ hk
  simp only [dH,rM,dF (show¬(i:Int)<(n:Int) by omega),bQ]
 |t+1,i,k,hi,hk=>by
  obtain⟨k',rfl,_⟩:=bJ hk
  have hin:i<n:=by omega
  have g:=aBr (l:=mp (M i) n) (wW fun c hc=>hM i c hin hc) hB (by rw [bC];omega) (K:=K) (by rw [bC];omega)
  simp only [dH,rM,dT (show(i:Int)<(n:Int) by omega),bY,aAl (g:=M) (w:=n) hin,oB,bC,nF (rfl:(n:Int)=(n:Int)),bQ,g,Bool.not_true,uY (i:=i) (by omega)]
  exact aEn hM hB hn hK t (i+1) k' (by omega) (by omega)
theorem aCd {M:Nat→Nat→Rat} {q:Nat→Rat} {n B:Nat} (hM:zY n n B M) (hq:∀i,i<n→Bd B (q i)) (hB:B≤1073741824) (hn:n≤32) {K:Nat} (hK:100≤K):gQ K (mx M n n) (mp q n)=some true:=by
 have g:=aBr (l:=mp q n) (wW hq) hB (by rw [bC];omega) (K:=K) (by rw [bC];omega)
 have e:=aEn (q:=q) hM hB hn hK n 0 K (by omega) (by omega)
 simp only [Int.natCast_zero] at e
 simp only [gQ,rM,bC,nF (rfl:(n:Int)=(n:Int)),bQ,dF (show¬(32:Int)<(n:Int) by omega),g,oB,Bool.not_true,e,oV]
def ng (q:Nat→Rat):Nat→Nat→Bool
 |0,_=>false
 |t+1,i=>bif decide ((q i).num.sign<0) then true else ng q t (i+1)
theorem aLN {q:Nat→Rat} {n B:Nat} (hq:∀i,i<n→Bd B (q i)) (hB:B≤1073741824) (hn:n≤1000) (K:Nat):∀(t i k:Nat),i+t=n→t<k→gG K (mp q n) k (i:Int)=some (bif ng q t i then .ret true else .go ())
 |0,i,k,hi,hk=>by
  obtain⟨k',rfl,_⟩:=bJ hk
  simp only [gG,bC,dF (show¬(i:Int)<(n:Int) by omega),bQ,ng]
 |t+1,i,k,hi,hk=>by
  obtain⟨k',rfl,_⟩:=bJ hk
  have hin:i<n:=by omega
  simp only [gG,bC,dT (show(i:Int)<(n:Int) by omega),bY,jP (f:=q) hin,oB,y0 (hq i hin) hB,ng]
  by_cases h:(q i).num.sign<0
  ·simp only [dT h,bY]
  ·simp only [dF h,bQ,uY (i:=i) (by omega),oB]
   exact aLN hq hB hn K t (i+1) k' (by omega) (by omega)
theorem aJ2 {q:Nat→Rat} {n B:Nat} (hq:∀i,i<n→Bd B (q i)) (hB:B≤1073741824) (hn:n≤1000) (K:Nat):∀(t i k:Nat),i+t=n→t<k→fO K (mp q n) k (i:Int)=some (bif ng q t i then .ret true else .go ())
 |0,i,k,hi,hk=>by
  obtain⟨k',rfl,_⟩:=bJ hk
  simp only [fO,bC,dF (show¬(i:Int)<(n:Int) by omega),bQ,ng]
 |t+1,i,k,hi,hk=>by
  obtain⟨k',rfl,_⟩:=bJ hk
  have hin:i<n:=by omega
  simp only [fO,bC,dT (show(i:Int)<(n:Int) by omega),bY,jP (f:=q) hin,oB,y0 (hq i hin) hB,ng]
  by_cases h:(q i).num.sign<0
  ·simp only [dT h,bY]
  ·simp only [dF h,bQ,uY (i:=i) (by omega),oB]
   exact aJ2 hq hB hn K t (i+1) k' (by omega) (by omega)
theorem aH3 {q:Nat→Rat} {n B:Nat} (hq:∀i,i<n→Bd B (q i)) (hB:B≤1073741824) (hn:n≤1000) {K:Nat} (hK:n<K):gM K (mp q n)=some (ng q n 0)∧lJ K (mp q n)=some (ng q n 0):=by
 have e1:=aLN hq hB hn K n 0 K (by omega) hK
 have e2:=aJ2 hq hB hn K n 0 K (by omega) hK
 simp only [Int.natCast_zero] at e1 e2
 constructor
 ·simp only [gM,e1,oB,m6]
  cases ng q n 0<;>rfl
 ·simp only [lJ,e2,oB,mA]
  cases ng q n 0<;>rfl
def rw1 (M:Nat→Nat→Rat) (n i k c:Nat):Rat:=if n≤c∧c<n+k then -(M i (c-n)) else nY z0 i 1 c
theorem aHc {M:Nat→Nat→Rat} {n i k:Nat} (hi:i<n):mp (nY (rw1 M n i k) (n+k) (-(M i k))) (2*n+2)=mp (rw1 M n i (k+1)) (2*n+2):=iD fun c _=>by
 by_cases e:c=n+k
 ·subst e;rw [bF];unfold rw1;rw [if_pos ⟨by omega,by omega⟩,Nat.add_sub_cancel_left]
 ·rw [cN e];unfold rw1
  by_cases h:n≤c∧c<n+k
  ·rw [if_pos h,if_pos ⟨h.1,by omega⟩]
  ·rw [if_neg h,if_neg (by omega)]
theorem aJK {M:Nat→Nat→Rat} {q:Nat→Rat} {n i:Nat} (hi:i<n):mp (nY (nY (rw1 M n i n) (2*n) (-1)) (2*n+1) (q i)) (2*n+2)=mp (t9 M q n i) (2*n+2):=iD fun c hc=>by
 unfold t9
 by_cases e1:c=2*n+1
 ·subst e1;rw [bF,if_neg (by omega),if_neg (by omega),if_neg (by omega)]
 ·rw [cN e1]
  by_cases e2:c=2*n
  ·subst e2;rw [bF,if_neg (by omega),if_neg (by omega),if_pos rfl]
  ·rw [cN e2]
   unfold rw1
   by_cases h:c<n
   ·rw [if_neg (by omega),if_pos h]
    by_cases e3:c=i
    ·subst e3;rw [bF,if_pos rfl]
    ·rw [cN e3,if_neg (fun e=>e3 e.symm)];rfl
   ·rw [if_pos ⟨by omega,by omega⟩,if_neg h,if_pos (by omega)]
theorem aIL {M:Nat→Nat→Rat} {q:Nat→Rat} {n i B:Nat} (hM:zY n n B M) (hB:B≤1073741824) (hi:i<n) (hn:n≤1000) (K:Nat):∀(t k fu:Nat),k+t=n→t<fu→eY K (mx M n n) (mp q n) (i:Int) fu (mp (rw1 M n i k) (2*n+2)) (k:Int)=some (mp (rw1 M n i n) (2*n+2))
 |0,k,fu,hk,hf=>by
  obtain⟨fu',rfl,_⟩:=bJ hf
  have e:k=n:=by omega
  subst e
  simp only [eY,bC,dF (show¬(k:Int)<(k:Int) by omega),bQ]
 |t+1,k,fu,hk,hf=>by
  obtain⟨fu',rfl,_⟩:=bJ hf
  have hkn:k<n:=by omega
  have c1:aR ((n:Int)+(k:Int))=some ((n+k:Nat):Int):=by rw [oR (by omega)];rfl
  simp only [eY,bC,dT (show(k:Int)<(n:Int) by omega),bY,c1,oB,aAl (g:=M) (w:=n) hi,jP (f:=M i) hkn,aDQ (hM i k hi hkn) hB,jP (f:=rw1 M n i k) (n:=2*n+2) (i:=n+k) (by omega),zP (f:=rw1 M n i k) (n:=2*n+2) (i:=n+k) (by omega),aHc hi,uY (i:=k) (by omega)]
  exact aIL hM hB hi hn K t (k+1) fu' (by omega) (by omega)
theorem aHp {M:Nat→Nat→Rat} {q:Nat→Rat} {n i B:Nat} (hM:zY n n B M) (hB:B≤1073741824) (hi:i<n) (hn:n≤1000) (K:Nat):∀(t k fu:Nat),k+t=n→t<fu→gF K (mx M n n) (mp q n) (i:Int) fu (mp (rw1 M n i k) (2*n+2)) (k:Int)=some (mp (rw1 M n i n) (2*n+2))
 |0,k,fu,hk,hf=>by
  obtain⟨fu',rfl,_⟩:=bJ hf
  have e:k=n:=by omega
  subst e
  simp only [gF,bC,dF (show¬(k:Int)<(k:Int) by omega),bQ]
 |t+1,k,fu,hk,hf=>by
  obtain⟨fu',rfl,_⟩:=bJ hf
  have hkn:k<n:=by omega
  have c1:aR ((n:Int)+(k:Int))=some ((n+k:Nat):Int):=by rw [oR (by omega)];rfl
  simp only [gF,bC,dT (show(k:Int)<(n:Int) by omega),bY,c1,oB,aAl (g:=M) (w:=n) hi,jP (f:=M i) hkn,aDQ (hM i k hi hkn) hB,jP (f:=rw1 M n i k) (n:=2*n+2) (i:=n+k) (by omega),zP (f:=rw1 M n i k) (n:=2*n+2) (i:=n+k) (by omega),aHc hi,uY (i:=k) (by omega)]
  exact aHp hM hB hi hn K t (k+1) fu' (by omega) (by omega)
theorem aP2:qof (-1) 1=some (-1):=by
 rw [aF6 (by omega) (by omega)]
 exact congrArg some (by decide+kernel)
theorem aLq {M:Nat→Nat→Rat} {q:Nat→Rat} {n B:Nat} (hM:zY n n B M) (hB:B≤1073741824) (hn:n≤1000) {K:Nat} (hK:n<K):∀(t i fu:Nat),i+t=n→t<fu→dX K (mx M n n) (mp q n) fu (mp (fun j=>((j:Nat):Int)) i) (mp (fun j=>j) i) (mx (t9 M q n) i (2*n+2)) (i:Int)=some (mp (fun j=>((j:Nat):Int)) n,mp (fun j=>j) n,mx (t9 M q n) n (2*n+2))
 |0,i,fu,hi,hf=>by
  obtain⟨fu',rfl,_⟩:=bJ hf
  have e:i=n:=by omega
  subst e
  simp only [dX,bC,dF (show¬(i:Int)<(i:Int) by omega),bQ]
 |t+1,i,fu,hi,hf=>by
  obtain⟨fu',rfl,_⟩:=bJ hf
  have hin:i<n:=by omega
  have c1:aR (2*(n:Int))=some ((2*n:Nat):Int):=by rw [oR (by omega)];rfl
  have c2:aR (((2*n:Nat):Int)+2)=some ((2*n+2:Nat):Int):=by rw [oR (by omega)];rfl
  have c3:aR (((2*n:Nat):Int)+1)=some ((2*n+1:Nat):Int):=by rw [oR (by omega)];rfl
  have e116:=aIL (q:=q) hM hB hin hn K n 0 K (by omega) hK
  have e0:mp (rw1 M n i 0) (2*n+2)=mp (nY z0 i 1) (2*n+2):=iD fun c _=>if_neg (by omega)
  rw [e0] at e116
  simp only [Int.natCast_zero] at e116
  have a1:sF (mp (fun j=>j) i) [i]=some (mp (fun j=>j) (i+1)):=apM (g:=fun j=>j) (by omega)
  have a2:sF (mp (fun j=>((j:Nat):Int)) i) [(i:Int)]=some (mp (fun j=>((j:Nat):Int)) (i+1)):=apM (g:=fun j=>((j:Nat):Int)) (by omega)
  have a3:mx (t9 M q n) i (2*n+2)++[mp (t9 M q n i) (2*n+2)]=mx (t9 M q n) (i+1) (2*n+2):=(aDX (fun i=>mp (t9 M q n i) (2*n+2)) i).symm
  simp only [dX,bC,dT (show(i:Int)<(n:Int) by omega),bY,c1,c2,aIv (z:=(0:Rat)) (n:=2*n+2) (by omega),aMc,oB,jP (f:=fun _=>(0:Rat)) (n:=2*n+2) (i:=i) (by omega),zP (f:=fun _=>(0:Rat)) (n:=2*n+2) (i:=i) (by omega),show nY (fun _=>(0:Rat)) i 1=nY z0 i 1 from rfl,e116,lR,aP2,jP (f:=rw1 M n i n) (n:=2*n+2) (i:=2*n) (by omega),zP (f:=rw1 M n i n) (n:=2*n+2) (i:=2*n) (by omega),c3,jP (f:=q) hin,jP (f:=nY (rw1 M n i n) (2*n) (-1)) (n:=2*n+2) (i:=2*n+1) (by omega),zP (f:=nY (rw1 M n i n) (2*n) (-1)) (n:=2*n+2) (i:=2*n+1) (by omega),aJK hin,rM,a1,a2,a3,uY (i:=i) (by omega)]
  exact aLq hM hB hn hK t (i+1) fu' (by omega) (by omega)
theorem aJX {M:Nat→Nat→Rat} {q:Nat→Rat} {n B:Nat} (hM:zY n n B M) (hB:B≤1073741824) (hn:n≤1000) {K:Nat} (hK:n<K):∀(t i fu:Nat),i+t=n→t<fu→fD K (mx M n n) (mp q n) 1 fu (mp (fun j=>((j:Nat):Int)) i) (mx (t9 M q n) i (2*n+2)) (i:Int)=some (mp (fun j=>((j:Nat):Int)) n,mx (t9 M q n) n (2*n+2))
 |0,i,fu,hi,hf=>by
  obtain⟨fu',rfl,_⟩:=bJ hf
  have e:i=n:=by omega
  subst e
  simp only [fD,bC,dF (show¬(i:Int)<(i:Int) by omega),bQ]
 |t+1,i,fu,hi,hf=>by
  obtain⟨fu',rfl,_⟩:=bJ hf
  have hin:i<n:=by omega
  have c1:aR (2*(n:Int))=some ((2*n:Nat):Int):=by rw [oR (by omega)];rfl
  have c2:aR (((2*n:Nat):Int)+2)=some ((2*n+2:Nat):Int):=by rw [oR (by omega)];rfl
  have c3:aR (((2*n:Nat):Int)+1)=some ((2*n+1:Nat):Int):=by rw [oR (by omega)];rfl
  have e318:=aHp (q:=q) hM hB hin hn K n 0 K (by omega) hK
  have e0:mp (rw1 M n i 0) (2*n+2)=mp (nY z0 i 1) (2*n+2):=iD fun c _=>if_neg (by omega)
  rw [e0] at e318
  simp only [Int.natCast_zero] at e318
  have a2:sF (mp (fun j=>((j:Nat):Int)) i) [(i:Int)]=some (mp (fun j=>((j:Nat):Int)) (i+1)):=apM (g:=fun j=>((j:Nat):Int)) (by omega)
  have a3:sF (mx (t9 M q n) i (2*n+2)) [mp (t9 M q n i) (2*n+2)]=some (mx (t9 M q n) (i+1) (2*n+2)):=apM (g:=fun i=>mp (t9 M q n i) (2*n+2)) (by omega)
  simp only [fD,bC,dT (show(i:Int)<(n:Int) by omega),bY,c1,c2,aIv (z:=(0:Rat)) (n:=2*n+2) (by omega),oB,jP (f:=fun _=>(0:Rat)) (n:=2*n+2) (i:=i) (by omega),zP (f:=fun _=>(0:Rat)) (n:=2*n+2) (i:=i) (by omega),show nY (fun _=>(0:Rat)) i 1=nY z0 i 1 from rfl,e318,nE,aP2,jP (f:=rw1 M n i n) (n:=2*n+2) (i:=2*n) (by omega),zP (f:=rw1 M n i n) (n:=2*n+2) (i:=2*n) (by omega),c3,jP (f:=q) hin,jP (f:=nY (rw1 M n i n) (2*n) (-1)) (n:=2*n+2) (i:=2*n+1) (by omega),zP (f:=nY (rw1 M n i n) (2*n) (-1)) (n:=2*n+2) (i:=2*n+1) (by omega),aJK hin,a2,a3,uY (i:=i) (by omega)]
  exact aJX hM hB hn hK t (i+1) fu' (by omega) (by omega)
end Go.Proofs.YtolfcbpgmfbgmaaGreat
set_option linter.unusedVariables false
namespace Go.Proofs.YtolfcbpgmfbgmaaGreat
theorem aIZ {T:Nat→Nat→Rat} {n i:Nat} {c:Rat}:∀t j,lx T n i c i c t j=false
 |0,_=>rfl
 |t+1,j=>by unfold lx;rw [decide_eq_true (rfl:T i (nJ n j)/c=T i (nJ n j)/c),bY];exact aIZ t (j+1)
def yT (T:Nat→Nat→Rat) (n:Nat):Nat→Nat→Nat→Nat
 |0,_,r=>r
 |t+1,i,r=>bif les T n i 1 r 1 then yT T n t (i+1) i else yT T n t (i+1) r
theorem aBt {T:Nat→Nat→Rat} {n:Nat}:∀t i r,r<n→i+t≤n→yT T n t i r<n
 |0,i,r,hr,_=>hr
 |t+1,i,r,hr,h=>by
  unfold yT
  cases les T n i 1 r 1
  ·exact aBt t (i+1) r hr (by omega)
  ·exact aBt t (i+1) i (by omega) (by omega)
theorem aL3 {n B:Nat} {rs:List (List Rat)} {od:Nat→Nat} {T:Nat→Nat→Rat} {bs:List Int} (h:aAr n (2*n+2) rs od T) (hT:zY n (2*n+2) B T) (hB:B≤200000000) (hn:n≤1000) {K:Nat} (hK:2000≤K):∀(t i fu r:Nat),i+t=n→t<fu→r<n→fY K ((n:Int),mp od n,bs,rs) 1 fu (r:Int) (i:Int)=some ((yT T n t i r:Nat):Int)
 |0,i,fu,r,hi,hf,hr=>by
  obtain⟨fu',rfl,_⟩:=bJ hf
  simp only [fY,dF (show¬(i:Int)<(n:Int) by omega),bQ,yT]
 |t+1,i,fu,r,hi,hf,hr=>by
  obtain⟨fu',rfl,_⟩:=bJ hf
  have hin:i<n:=by omega
  simp only [fY,dT (show(i:Int)<(n:Int) by omega),bY,aHh (a6:=bs) h hT hin hr aC7 aC7 (show B+8≤500000000 by omega) hn hK,oB,uY (i:=i) (by omega),yT]
  cases les T n i 1 r 1
  ·simp only [bQ];exact aL3 h hT hB hn hK t (i+1) fu' r (by omega) (by omega) hr
  ·simp only [bY];exact aL3 h hT hB hn hK t (i+1) fu' i (by omega) (by omega) hin
theorem aLk {n B:Nat} {T:Nat→Nat→Rat} {a1:List Rat} (h1:a1.length=n) (hT:zY n (2*n+2) B T) (hB:B≤200000000) (hn:n≤1000) {K:Nat} (hK:2000≤K):∀(t i fu r:Nat),i+t=n→t<fu→r<n→fA K a1 1 (mx T n (2*n+2)) fu (r:Int) (i:Int)=some ((yT T n t i r:Nat):Int)
 |0,i,fu,r,hi,hf,hr=>by
  obtain⟨fu',rfl,_⟩:=bJ hf
  simp only [fA,h1,dF (show¬(i:Int)<(n:Int) by omega),bQ,yT]
 |t+1,i,fu,r,hi,hf,hr=>by
  obtain⟨fu',rfl,_⟩:=bJ hf
  have hin:i<n:=by omega
  simp only [fA,h1,dT (show(i:Int)<(n:Int) by omega),bY,aAl (g:=T) (w:=2*n+2) hin,aAl (g:=T) (w:=2*n+2) hr,oB,aGu hT hin aC7 (by omega) (by omega) hn hK,aGu hT hr aC7 (by omega) (by omega) hn hK,aFp hT hin hr aC7 aC7 (show B+8≤500000000 by omega) hn hK,uY (i:=i) (by omega),yT]
  cases les T n i 1 r 1
  ·simp only [bQ];exact aLk h1 hT hB hn hK t (i+1) fu' r (by omega) (by omega) hr
  ·simp only [bY];exact aLk h1 hT hB hn hK t (i+1) fu' i (by omega) (by omega) hin
theorem aDY {q:Nat→Rat} {n:Nat} (h:ng q n 0=true):0<n:=by
 cases n with
 |zero=>exact absurd (show false=true from h) (by decide)
 |succ m=>exact Nat.succ_pos m
def zN (M:Nat→Nat→Rat) (q:Nat→Rat) (n most:Nat):aF×Int:=
 bif ng q n 0 then lem n most (most+1) (t9 M q n) (fun j=>j) (yT (t9 M q n) n n 0 0) (2*n) 0 else(⟨mp z0 n,mp q n,0⟩,0)
theorem aGB {M:Nat→Nat→Rat} {q:Nat→Rat} {n r:Nat} (hr:r<n):LI n (t9 M q n) (t9 M q n) (fun j=>j) r (2*n):=by
 refine⟨aLR,hr,Nat.le_refl _,?_,fun j hj=>by omega,fun _=>by omega⟩
 unfold t9
 rw [if_neg (by omega),if_neg (by omega),if_pos rfl];decide
theorem aGy {T:Nat→Nat→Rat} {n w:Nat}:aAr n w (mx T n w) (fun j=>j) T:=
 ⟨fun i hi=>by rw [rM];exact hi,fun i j _ _ e=>e,fun i hi=>by unfold mx;rw [List.getD_eq_getElem?_getD,aAj hi];rfl⟩
theorem aKV {M:Nat→Nat→Rat} {q:Nat→Rat} {n:Nat}:∀i,i≤n→swv (t9 M q n) (fun j=>j) n i=(fun j=>if j<i then q j else 0)∧szv (t9 M q n) (fun j=>j) n i=z0
 |0,_=>⟨funext fun j=>by show(0:Rat)=_;rw [if_neg (show¬j<0 by omega)],rfl⟩
 |i+1,h=>by
  obtain⟨e1,e2⟩:=aKV (M:=M) (q:=q) (n:=n) i (by omega)
  have e3:t9 M q n i (2*n+1)=q i:=by unfold t9;rw [if_neg (show¬2*n+1<n by omega),if_neg (show¬2*n+1<2*n by omega),if_neg (show¬2*n+1=2*n by omega)]
  unfold swv szv
  rw [if_pos (show i<n by omega),if_pos (show i<n by omega),e1,e2,e3]
  refine⟨funext fun j=>?_,rfl⟩
  by_cases e:j=i
  ·subst e;rw [bF,if_pos (by omega)]
  ·rw [cN e]
   by_cases e4:j<i
   ·rw [if_pos e4,if_pos (by omega)]
   ·rw [if_neg e4,if_neg (by omega)]
theorem aKm {M:Nat→Nat→Rat} {q:Nat→Rat} {n B most:Nat} (hM:zY n n B M) (hq:∀i,i<n→Bd B (q i)) (hZ:Sm n B (t9 M q n)) (hB:B≤200000000) (hn:n≤32) (hm:most≤100000) {K:Nat} (hK:5000≤K) (hK2:most<K):
  cP K (mx M n n) (mp q n) (most:Int)=some (zN M q n most)∧eA K (mx M n n) (mp q n) (most:Int)=some (zN M q n most):=by
 have hng:=aH3 hq (by omega) (show n≤1000 by omega) (show n<K by omega)
 have hT:=hZ _ _ aLR
 have s1:=aLq (q:=q) hM (by omega) (show n≤1000 by omega) (show n<K by omega) n 0 K (by omega) (by omega)
 have s2:=aJX (q:=q) hM (by omega) (show n≤1000 by omega) (show n<K by omega) n 0 K (by omega) (by omega)
 have z1:mp (fun j=>((j:Nat):Int)) 0=[]:=rfl
 have z2:mp (fun j:Nat=>j) 0=[]:=rfl
 have z3:mx (t9 M q n) 0 (2*n+2)=[]:=rfl
 simp only [Int.natCast_zero,z1,z2,z3] at s1 s2
 have st:mG K (mx M n n) (mp q n)=some ((n:Int),mp (fun j=>j) n,mp (fun j=>((j:Nat):Int)) n,mx (t9 M q n) n (2*n+2)):=by
  simp only [mG,s1,oB,mB,bC]
 have c1:aR (2*(n:Int))=some ((2*n:Nat):Int):=by rw [oR (by omega)];rfl
 by_cases hneg:ng q n 0=true
 ·have hn0:=aDY hneg
  have hr:=aBt (T:=t9 M q n) n 0 0 hn0 (by omega)
  have l1:=aL3 (bs:=mp (fun j=>((j:Nat):Int)) n) (aGy (T:=t9 M q n)) hT hB (show n≤1000 by omega) (show 2000≤K by omega) n 0 K 0 (by omega) (by omega) hn0
  have l2:=aLk (a1:=mp q n) (bC _ _) hT hB (show n≤1000 by omega) (show 2000≤K by omega) (n-1) 1 K 0 (by omega) (by omega) hn0
  have e0:yT (t9 M q n) n (n-1) 1 0=yT (t9 M q n) n n 0 0:=by
   obtain⟨m,rfl⟩:∃m,n=m+1:=⟨n-1,by omega⟩
   have e:les (t9 M q (m+1)) (m+1) 0 1 0 1=false:=aIZ _ _
   have e2:yT (t9 M q (m+1)) (m+1) (m+1) 0 0=bif les (t9 M q (m+1)) (m+1) 0 1 0 1 then yT (t9 M q (m+1)) (m+1) m 1 0 else yT (t9 M q (m+1)) (m+1) m 1 0:=rfl
   rw [e2,e,bQ];rfl
  rw [e0] at l2
  simp only [Int.natCast_zero,Int.natCast_one] at l1 l2
  have r1:=aQ6 (v6:=((n:Int),mp (fun j=>j) n,mp (fun j=>((j:Nat):Int)) n,mx (t9 M q n) n (2*n+2))) rfl hZ hB (show n≤1000 by omega) hm hK (most+1) 0 K _ _ _ _ _ _ (by omega) (by omega) (by omega) aGy (aGB (M:=M) (q:=q) hr)
  have r2:=aQV (a1:=mp q n) (bC _ _) hZ hB (show n≤1000 by omega) hm hK (most+1) 0 K _ _ _ _ (by omega) (by omega) (by omega) (aGB (M:=M) (q:=q) hr)
  simp only [Int.natCast_zero] at r1 r2
  constructor
  ·simp only [cP,aBx hM hq (show B≤1073741824 by omega) hn (show 100≤K by omega),oB,Bool.not_true,bQ,dF (show¬(most:Int)<0 by omega),st,hng.1,hneg,aMc,l1,oS,c1,r1,zN,bY]
  ·simp only [eA,aCd hM hq (show B≤1073741824 by omega) hn (show 100≤K by omega),oB,Bool.not_true,bQ,dF (show¬(most:Int)<0 by omega),hng.2,hneg,aMc,s2,nM,l2,nQ,bC,c1,r2,zN,bY]
 ·have hneg':ng q n 0=false:=by cases h:ng q n 0 with|true=>exact absurd h hneg|false=>rfl
  obtain⟨e1,e2⟩:=aKV (M:=M) (q:=q) (n:=n) n (Nat.le_refl _)
  have ps:=aJh (b:=fun j=>j) (aGy (T:=t9 M q n) (n:=n) (w:=2*n+2)) (show n≤1000 by omega) (show 2000≤K by omega)
  rw [e1,e2,iD (f:=fun j=>if j<n then q j else 0) (g:=q) fun i hi=>if_pos hi] at ps
  constructor
  ·simp only [cP,aBx hM hq (show B≤1073741824 by omega) hn (show 100≤K by omega),oB,Bool.not_true,bQ,dF (show¬(most:Int)<0 by omega),st,hng.1,hneg',Bool.not_false,bY,ps,zN]
  ·simp only [eA,aCd hM hq (show B≤1073741824 by omega) hn (show 100≤K by omega),oB,Bool.not_true,bQ,dF (show¬(most:Int)<0 by omega),hng.2,hneg',Bool.not_false,bY,bC,aIv (z:=(0:Rat)) (n:=n) (by omega),zN]
   rfl
end Go.Proofs.YtolfcbpgmfbgmaaGreat
set_option linter.unusedVariables false
namespace Go.Proofs.YtolfcbpgmfbgmaaGreat
/-- What kills the tableau kills the first one. -/
def KE (n w:Nat) (Z T:Nat→Nat→Rat):Prop:=∀x:Nat→Rat,(∀i,i<n→sm (fun k=>T i k*x k) w=0)→∀i,i<n→sm (fun k=>Z i k*x k) w=0
theorem KE.pivot {n w r c:Nat} {Z T:Nat→Nat→Rat} (h:KE n w Z T) (hr:r<n) (hp:T r c≠0):KE n w Z (sD T r c):=fun x hx=>h x fun i hi=>by
 have e0:sm (fun k=>T r k*x k) w=0:=by
  have h1:=hx r hr
  have e:sm (fun k=>sD T r c r k*x k) w=(1/T r c)*sm (fun k=>T r k*x k) w:=by
   rw [←xH];exact d7 fun k _=>by unfold sD;rw [if_pos rfl];grind
  rw [e] at h1
  grind
 by_cases e:i=r
 ·rw [e];exact e0
 ·have h1:=hx i hi
  have e1:sm (fun k=>sD T r c i k*x k) w=sm (fun k=>T i k*x k) w-(T i c/T r c)*sm (fun k=>T r k*x k) w:=by
   rw [←aDk];exact d7 fun k _=>by unfold sD;rw [if_neg e];grind
  rw [e1,e0] at h1
  grind
def bx (T:Nat→Nat→Rat) (b:Nat→Nat) (n k:Nat):Rat:=if k=2*n+1 then -1 else sm (fun i=>if b i=k then T i (2*n+1) else 0) n
theorem aP3 {n w:Nat} {Z T:Nat→Nat→Rat} {b:Nat→Nat} (h:TI n w Z T b) (hb:∀j,j<n→b j≤2*n) {j:Nat} (hj:j<n):bx T b n (b j)=T j (2*n+1):=by
 have:=hb j hj
 unfold bx
 rw [if_neg (by omega),zG hj fun i hi hne=>if_neg fun e=>hne (h.inj hi hj e),if_pos rfl]
theorem aJc {n:Nat} {T:Nat→Nat→Rat} {b:Nat→Nat} {k:Nat} (hk:k≠2*n+1) (h:∀i,i<n→b i≠k):bx T b n k=0:=by
 unfold bx
 rw [if_neg hk]
 exact aAi fun i hi=>if_neg (h i hi)
theorem aMX {n:Nat} {Z T:Nat→Nat→Rat} {b:Nat→Nat} (h:TI n (2*n+2) Z T b) (hb:∀j,j<n→b j≤2*n) {i:Nat} (hi:i<n):sm (fun k=>T i k*bx T b n k) (2*n+2)=0:=by
 show sm _ (2*n+1)+T i (2*n+1)*bx T b n (2*n+1)=0
 have e1:bx T b n (2*n+1)=-1:=if_pos rfl
 have e2:sm (fun k=>T i k*bx T b n k) (2*n+1)=sm (fun k=>sm (fun j=>if b j=k then T i k*T j (2*n+1) else 0) n) (2*n+1):=d7 fun k hk=>by
  unfold bx
  rw [if_neg (by omega),←xH]
  refine d7 fun j _=>?_
  by_cases e:b j=k
  ·rw [if_pos e,if_pos e]
  ·rw [if_neg e,if_neg e,Rat.mul_zero]
 have e3:sm (fun j=>sm (fun k=>if b j=k then T i k*T j (2*n+1) else 0) (2*n+1)) n=T i (2*n+1):=by
  have:sm (fun j=>sm (fun k=>if b j=k then T i k*T j (2*n+1) else 0) (2*n+1)) n=sm (fun j=>T i (b j)*T j (2*n+1)) n:=d7 fun j hj=>by
   have:=hb j hj
   rw [zG (p:=b j) (by omega) fun k _ hne=>if_neg fun e=>hne e.symm,if_pos rfl]
  rw [this,zG hi fun j hj hne=>by rw [h.un i j hi hj,if_neg fun e=>hne e.symm,Rat.zero_mul],h.un i i hi hi,if_pos rfl,Rat.one_mul]
 rw [e2,aDZ,e3,e1]
 grind
theorem aEt (f:Nat→Rat) (a:Nat):∀b,sm f (a+b)=sm f a+sm (fun j=>f (a+j)) b
 |0=>by show sm f a=sm f a+0;rw [Rat.add_zero]
 |b+1=>by
  show sm f (a+b)+f (a+b)=sm f a+(sm (fun j=>f (a+j)) b+f (a+b))
  rw [aEt f a b,Rat.add_assoc]
theorem aOW {M:Nat→Nat→Rat} {q x:Nat→Rat} {n i:Nat} (hi:i<n) (h:sm (fun k=>t9 M q n i k*x k) (2*n+2)=0) (h1:x (2*n+1)=-1):x i=sm (fun j=>M i j*x (n+j)) n+x (2*n)+q i:=by
 have e:2*n+2=(n+n)+2:=by omega
 rw [e,aEt,aEt] at h
 have e1:sm (fun k=>t9 M q n i k*x k) n=x i:=by
  have:t9 M q n i i=1:=by unfold t9;rw [if_pos hi,if_pos rfl]
  rw [zG hi fun k hk hne=>by unfold t9;rw [if_pos hk,if_neg fun e=>hne e.symm,Rat.zero_mul],this,Rat.one_mul]
 have e2:sm (fun j=>t9 M q n i (n+j)*x (n+j)) n=-(sm (fun j=>M i j*x (n+j)) n):=by
  rw [←aEA]
  refine d7 fun j hj=>?_
  unfold t9
  rw [if_neg (by omega),if_pos (by omega),show n+j-n=j by omega,Rat.neg_mul]
 have e3:sm (fun j=>t9 M q n i (n+n+j)*x (n+n+j)) 2=-(x (2*n))-q i:=by
  show 0+t9 M q n i (n+n+0)*x (n+n+0)+t9 M q n i (n+n+1)*x (n+n+1)=_
  rw [show n+n+0=2*n by omega,show n+n+1=2*n+1 by omega,h1]
  unfold t9
  rw [if_neg (by omega),if_neg (by omega),if_pos rfl,if_neg (by omega),if_neg (by omega),if_neg (by omega)]
  grind
 rw [e1,e2,e3] at h
 grind
def nn (f:Nat→Rat):Nat→Nat→Prop
 |0,_=>True
 |t+1,j=>0<f j∨(f j=0∧nn f t (j+1))
theorem nn.congr {f g:Nat→Rat}:∀{t j:Nat},(∀k,f k=g k)→nn f t j→nn g t j
 |0,_,_,_=>trivial
 |t+1,j,e,h=>by
  unfold nn at h ⊢
  rw [←e j]
  exact h.imp id fun h=>⟨h.1,nn.congr e h.2⟩
theorem nn.add {f g:Nat→Rat}:∀{t j:Nat},nn f t j→nn g t j→nn (fun k=>f k+g k) t j
 |0,_,_,_=>trivial
 |t+1,j,h1,h2=>by
  unfold nn at h1 h2 ⊢
  rcases h1 with h1|⟨h1,k1⟩<;>rcases h2 with h2|⟨h2,k2⟩
  ·left;grind
  ·left;grind
  ·left;grind
  ·right;exact⟨by grind,nn.add k1 k2⟩
theorem nn.mul {f:Nat→Rat} {a:Rat} (ha:0≤a):∀{t j:Nat},nn f t j→nn (fun k=>a*f k) t j
 |0,_,_=>trivial
 |t+1,j,h=>by
  unfold nn at h ⊢
  by_cases e:a=0
  ·right
   refine⟨by rw [e,Rat.zero_mul],?_⟩
   have:∀t j,nn (fun k=>a*f k) t j:=fun t=>by
    induction t with
    |zero=>intro j;trivial
    |succ t ih=>intro j;exact Or.inr ⟨by show a*f j=0;rw [e,Rat.zero_mul],ih (j+1)⟩
   exact this t (j+1)
  ·rcases h with h|⟨h,k⟩
   ·left
    exact Rat.mul_pos (by grind) h
   ·right
    exact⟨by rw [h,Rat.mul_zero],nn.mul ha k⟩
theorem nn.head {f:Nat→Rat} {t j:Nat} (h:nn f (t+1) j):0≤f j:=by
 unfold nn at h
 rcases h with h|h
 ·exact Rat.le_of_lt h
 ·rw [h.1];exact Rat.le_refl
theorem aHw {T:Nat→Nat→Rat} {n i k:Nat} {c d:Rat}:∀t j,(lx T n i c k d t j=false→nn (fun j=>T i (nJ n j)/c-T k (nJ n j)/d) t j)∧(lx T n i c k d t j=true→nn (fun j=>T k (nJ n j)/d-T i (nJ n j)/c) t j)
 |0,j=>⟨fun _=>trivial,fun h=>absurd h (by unfold lx;decide)⟩
 |t+1,j=>by
  obtain⟨i1,i2⟩:=aHw (T:=T) (n:=n) (i:=i) (k:=k) (c:=c) (d:=d) t (j+1)
  unfold lx nn
  by_cases e:T i (nJ n j)/c=T k (nJ n j)/d
  ·rw [decide_eq_true e,bY]
   exact⟨fun h=>Or.inr ⟨by rw [e];grind,i1 h⟩,fun h=>Or.inr ⟨by rw [e];grind,i2 h⟩⟩
  ·rw [decide_eq_false e,bQ]
   refine⟨fun h=>Or.inl ?_,fun h=>Or.inl ?_⟩
   ·have:=of_decide_eq_false h
    grind
   ·have:=of_decide_eq_true h
    grind
def aDx (T:Nat→Nat→Rat) (n c k r:Nat):Prop:=nn (fun j=>T k (nJ n j)/T k c-T r (nJ n j)/T r c) (n+1) 0
theorem aCE {T:Nat→Nat→Rat} {n c:Nat}:∀t i s r,(∀q,s=some q→∀k,k<i→0<(T k c).num.sign→aDx T n c k q)→(s=none→∀k,k<i→¬0<(T k c).num.sign)→sel T n c t i s=some r→∀k,k<i+t→0<(T k c).num.sign→aDx T n c k r
 |0,i,s,r,h1,h2,e,k,hk,hp=>h1 r e k (by omega) hp
 |t+1,i,s,r,h1,h2,e,k,hk,hp=>by
  unfold sel at e
  have refl:aDx T n c i i:=by
   have:∀t j,nn (fun j=>T i (nJ n j)/T i c-T i (nJ n j)/T i c) t j:=fun t=>by
    induction t with
    |zero=>intro j;trivial
    |succ t ih=>intro j;exact Or.inr ⟨by grind,ih (j+1)⟩
   exact this _ _
  by_cases hi:0<(T i c).num.sign
  ·rw [decide_eq_true hi,bY] at e
   cases s with
   |none=>
    refine aCE t (i+1) (some i) r (fun q hq k hk hp=>?_) (fun h=>by cases h) e k (by omega) hp
    cases hq
    by_cases e2:k=i
    ·rw [e2];exact refl
    ·exact absurd hp (h2 rfl k (by omega))
   |some p=>
    simp only at e
    cases hl:les T n i (T i c) p (T p c)
    ·rw [hl,bQ] at e
     refine aCE t (i+1) (some p) r (fun q hq k hk hp=>?_) (fun h=>by cases h) e k (by omega) hp
     cases hq
     by_cases e2:k=i
     ·rw [e2];exact(aHw _ _).1 hl
     ·exact h1 p rfl k (by omega) hp
    ·rw [hl,bY] at e
     refine aCE t (i+1) (some i) r (fun q hq k hk hp=>?_) (fun h=>by cases h) e k (by omega) hp
     cases hq
     by_cases e2:k=i
     ·rw [e2];exact refl
     ·exact((h1 p rfl k (by omega) hp).add ((aHw _ _).2 hl)).congr fun j=>by grind
  ·rw [decide_eq_false hi,bQ] at e
   refine aCE t (i+1) s r (fun q hq k hk hp=>?_) (fun h k hk=>?_) e k (by omega) hp
   ·by_cases e2:k=i
    ·rw [e2] at hp;exact absurd hp hi
    ·exact h1 q hq k (by omega) hp
   ·by_cases e2:k=i
    ·rw [e2];exact hi
    ·exact h2 h k (by omega)
theorem aKX {a:Rat}:0<a.num↔0<a:=by
 have h1:=Rat.num_nonneg (q:=a)
 have h2:=Rat.num_eq_zero (q:=a)
 constructor
 ·intro h
  have h3:0≤a:=h1.1 (by omega)
  have h4:a≠0:=fun e=>by have:=h2.2 e;omega
  grind
 ·intro h
  have h3:0≤a.num:=h1.2 (by grind)
  have h4:a.num≠0:=fun e=>by have:=h2.1 e;grind
  omega
theorem aMS {x:Rat}:0<x.num.sign↔0<x:=by rw [Int.sign_pos_iff];exact aKX
def aGz (n:Nat) (T:Nat→Nat→Rat):Prop:=∀i,i<n→nn (fun j=>T i (nJ n j)) (n+1) 0
theorem aGz.last {n i:Nat} {T:Nat→Nat→Rat} (h:aGz n T) (hi:i<n):0≤T i (2*n+1):=(h i hi).head
theorem aGz.pivot {n r c:Nat} {T:Nat→Nat→Rat} (h:aGz n T) (hr:r<n) (hp:0<T r c) (hm:∀k,k<n→0<T k c→aDx T n c k r):aGz n (sD T r c):=fun i hi=>by
 have hinv:(0:Rat)≤1/T r c:=by rw [Rat.div_def,Rat.one_mul];exact Rat.le_of_lt (Rat.inv_pos.2 hp)
 by_cases e:i=r
 ·exact((h r hr).mul hinv).congr fun j=>by unfold sD;rw [if_pos e];grind
 ·by_cases h2:0<T i c
  ·exact((hm i hi h2).mul (Rat.le_of_lt h2)).congr fun j=>by unfold sD;rw [if_neg e];grind
  ·have h3:0≤(-(T i c))*(1/T r c):=Rat.mul_nonneg (by grind) hinv
   exact((h i hi).add ((h r hr).mul h3)).congr fun j=>by unfold sD;rw [if_neg e];grind
theorem aEy {T:Nat→Nat→Rat} {n:Nat}:∀t i r,(∀k,k<i→nn (fun j=>T k (nJ n j)-T r (nJ n j)) (n+1) 0)→∀k,k<i+t→nn (fun j=>T k (nJ n j)-T (yT T n t i r) (nJ n j)) (n+1) 0
 |0,i,r,h,k,hk=>h k (by omega)
 |t+1,i,r,h,k,hk=>by
  unfold yT
  cases hl:les T n i 1 r 1
  ·rw [bQ]
   refine aEy t (i+1) r (fun k hk=>?_) k (by omega)
   by_cases e:k=i
   ·rw [e];exact((aHw _ _).1 hl).congr fun j=>by grind
   ·exact h k (by omega)
  ·rw [bY]
   have h1:=(aHw _ _).2 hl
   refine aEy t (i+1) i (fun k hk=>?_) k (by omega)
   by_cases e:k=i
   ·rw [e]
    have:∀t j,nn (fun j=>T i (nJ n j)-T i (nJ n j)) t j:=fun t=>by
     induction t with
     |zero=>intro j;trivial
     |succ t ih=>intro j;exact Or.inr ⟨by grind,ih (j+1)⟩
    exact this _ _
   ·exact((h k (by omega)).add h1).congr fun j=>by grind
def cpl (n x:Nat):Nat:=if x<n then x+n else x-n
theorem aIx {n x:Nat} (h:x<2*n):cpl n x<2*n:=by unfold cpl;split<;>omega
theorem aCu {n x:Nat} (h:x<2*n):cpl n (cpl n x)=x:=by
 unfold cpl
 by_cases e:x<n
 ·rw [if_pos e,if_neg (by omega)];omega
 ·rw [if_neg e,if_pos (by omega)];omega
theorem aMe {n x:Nat} (hn:0<n):cpl n x≠x∨2*n≤x:=by unfold cpl;split<;>omega
structure CB (n:Nat) (b:Nat→Nat) (c:Nat):Prop where
 inj:∀i j,i<n→j<n→b i=b j→i=j
 nc:∀i,i<n→b i≠c
 np:c<2*n→∀i,i<n→b i≠cpl n c
 pr:∀i j,i<n→j<n→b i<2*n→b j≠cpl n (b i)
theorem CB.pr' {n r c:Nat} {b:Nat→Nat} (h:CB n b c) (hr:r<n) (hc:c≤2*n):∀i j,i<n→j<n→nY b r c i<2*n→nY b r c j≠cpl n (nY b r c i):=fun i j hi hj hlt=>by
 by_cases e1:i=r
 ·subst e1
  rw [bF] at hlt ⊢
  by_cases e2:j=i
  ·subst e2;rw [bF]
   intro e
   rcases aMe (n:=n) (x:=c) (by omega) with h1|h1
   ·exact h1 e.symm
   ·omega
  ·rw [cN e2];exact h.np hlt j hj
 ·rw [cN e1] at hlt ⊢
  by_cases e2:j=r
  ·subst e2;rw [bF]
   intro e
   have h1:=aIx hlt
   have h2:b i=cpl n c:=by rw [e,aCu hlt]
   exact h.np (by omega) i hi h2
  ·rw [cN e2];exact h.pr i j hi hj hlt
theorem CB.inj' {n r c:Nat} {b:Nat→Nat} (h:CB n b c):∀i j,i<n→j<n→nY b r c i=nY b r c j→i=j:=fun i j hi hj e=>by
 by_cases e1:i=r
 ·by_cases e2:j=r
  ·omega
  ·rw [e1,bF,cN e2] at e
   exact absurd e.symm (h.nc j hj)
 ·by_cases e2:j=r
  ·rw [e2,bF,cN e1] at e
   exact absurd e (h.nc i hi)
  ·rw [cN e1,cN e2] at e
   exact h.inj i j hi hj e
theorem CB.next {n r c:Nat} {b:Nat→Nat} (h:CB n b c) (hr:r<n) (hc:c≤2*n) (hl:b r<2*n):CB n (nY b r c) (cpl n (b r)):=by
 refine⟨h.inj',fun i hi=>?_,fun _ i hi=>?_,h.pr' hr hc⟩
 ·by_cases e:i=r
  ·rw [e,bF]
   intro e2
   have h1:=aIx hl
   exact h.np (by omega) r hr (by rw [e2,aCu hl])
  ·rw [cN e];exact h.pr r i hr hi hl
 ·rw [aCu hl]
  by_cases e:i=r
  ·rw [e,bF];exact fun e2=>h.nc r hr e2.symm
  ·rw [cN e];exact fun e2=>e (h.inj i r hi hr e2)
structure Sol (M:Nat→Nat→Rat) (q:Nat→Rat) (n:Nat) (z w:Nat→Rat):Prop where
 z0:∀j,j<n→0≤z j
 w0:∀j,j<n→0≤w j
 eq:∀i,i<n→w i=sm (fun j=>M i j*z j) n+q i
 zw:∀j,j<n→z j=0∨w j=0
theorem aN1 {n:Nat} {T:Nat→Nat→Rat} {b:Nat→Nat} (hi:∀i j,i<n→j<n→b i=b j→i=j):∀m,m≤n→(∀j,j<n→swv T b n m j=sm (fun i=>if b i=j then T i (2*n+1) else 0) m)∧(∀j,j<n→szv T b n m j=sm (fun i=>if b i=n+j then T i (2*n+1) else 0) m)
 |0,_=>⟨fun _ _=>rfl,fun _ _=>rfl⟩
 |m+1,hm=>by
  obtain⟨h1,h2⟩:=aN1 (T:=T) hi m (by omega)
  have zero:sm (fun i=>if b i=b m then T i (2*n+1) else 0) m=0:=aAi fun i h=>if_neg fun e=>by have:=hi i m (by omega) (by omega) e;omega
  refine⟨fun j hj=>?_,fun j hj=>?_⟩
  ·show swv T b n (m+1) j=sm _ m+(if b m=j then T m (2*n+1) else 0)
   rw [←h1 j hj]
   have w1:swv T b n (m+1)=if b m<n then nY (swv T b n m) (b m) (T m (2*n+1)) else swv T b n m:=rfl
   rw [w1]
   by_cases e:b m<n
   ·rw [if_pos e]
    by_cases e2:b m=j
    ·rw [if_pos e2,←e2,bF,h1 (b m) e,zero];grind
    ·rw [if_neg e2,cN (fun h=>e2 h.symm),Rat.add_zero]
   ·rw [if_neg e,if_neg (by omega),Rat.add_zero]
  ·show szv T b n (m+1) j=sm _ m+(if b m=n+j then T m (2*n+1) else 0)
   rw [←h2 j hj]
   have w1:szv T b n (m+1)=if b m<n then szv T b n m else if b m<2*n then nY (szv T b n m) (b m-n) (T m (2*n+1)) else szv T b n m:=rfl
   rw [w1]
   by_cases e:b m<n
   ·rw [if_pos e,if_neg (by omega),Rat.add_zero]
   ·rw [if_neg e]
    by_cases e1:b m<2*n
    ·rw [if_pos e1]
     by_cases e2:b m=n+j
     ·rw [if_pos e2,show b m-n=j by omega,bF,h2 j hj,←e2,zero];grind
     ·rw [if_neg e2,cN (by omega),Rat.add_zero]
    ·rw [if_neg e1,if_neg (by omega),Rat.add_zero]
theorem aNl {M T:Nat→Nat→Rat} {q:Nat→Rat} {n:Nat} {b:Nat→Nat} (ti:TI n (2*n+2) (t9 M q n) T b) (ke:KE n (2*n+2) (t9 M q n) T) (lx:aGz n T) (hb:∀i,i<n→b i<2*n) (pr:∀i j,i<n→j<n→b i<2*n→b j≠cpl n (b i)):Sol M q n (szv T b n n) (swv T b n n):=by
 have inj:∀i j,i<n→j<n→b i=b j→i=j:=fun i j hi hj e=>ti.inj hi hj e
 obtain⟨h1,h2⟩:=aN1 (T:=T) inj n (Nat.le_refl n)
 have ew:∀j,j<n→swv T b n n j=bx T b n j:=fun j hj=>by rw [h1 j hj];unfold bx;rw [if_neg (by omega)]
 have ez:∀j,j<n→szv T b n n j=bx T b n (n+j):=fun j hj=>by rw [h2 j hj];unfold bx;rw [if_neg (by omega)]
 have hb':∀i,i<n→b i≤2*n:=fun i hi=>by have:=hb i hi;omega
 have nnb:∀k,k<2*n→0≤bx T b n k:=fun k hk=>by
  by_cases e:∃i,i<n∧b i=k
  ·obtain⟨i,hi,e⟩:=e
   rw [←e,aP3 ti hb' hi];exact lx.last hi
  ·rw [aJc (by omega) fun i hi e2=>e ⟨i,hi,e2⟩];exact Rat.le_refl
 refine⟨fun j hj=>by rw [ez j hj];exact nnb _ (by omega),fun j hj=>by rw [ew j hj];exact nnb _ (by omega),fun i hi=>?_,fun j hj=>?_⟩
 ·have:=aOW hi (ke (bx T b n) (fun i hi=>aMX ti hb' hi) i hi) (if_pos rfl)
  rw [aJc (k:=2*n) (by omega) (fun i hi=>by have:=hb i hi;omega),Rat.add_zero] at this
  rw [ew i hi,this]
  congr 1
  exact d7 fun j hj=>by rw [ez j hj]
 ·rw [ez j hj,ew j hj]
  by_cases e:∃i,i<n∧b i=n+j
  ·obtain⟨i,hi,e⟩:=e
   right
   refine aJc (by omega) fun i' hi' e2=>?_
   refine pr i i' hi hi' (by omega) ?_
   rw [e2,e];unfold cpl;rw [if_neg (by omega)];omega
  ·left;exact aJc (by omega) fun i hi e2=>e ⟨i,hi,e2⟩
theorem aJE {M:Nat→Nat→Rat} {q:Nat→Rat} {n most:Nat}:∀f T b r c cnt,LI n (t9 M q n) T b r c→KE n (2*n+2) (t9 M q n) T→aGz n (sD T r c)→CB n b c→(lem n most f T b r c cnt).2=0→∃z w,(lem n most f T b r c cnt).1.z=mp z n∧(lem n most f T b r c cnt).1.w=mp w n∧Sol M q n z w
 |0,T,b,r,c,cnt,li,ke,lx,cb,h0=>absurd h0 (by unfold lem;decide)
 |f+1,T,b,r,c,cnt,li,ke,lx,cb,h0=>by
  have hc:=li.hc
  have hr:=li.hr
  have ti':=li.ti.pivot hr (show c<2*n+2 by omega) li.hp
  have ke':=ke.pivot hr li.hp
  unfold lem at h0 ⊢
  by_cases e:cnt=most
  ·rw [if_pos e] at h0;exact absurd h0 (by decide)
  ·rw [if_neg e] at h0 ⊢
   by_cases e2:b r=2*n
   ·rw [if_pos e2]
    refine⟨_,_,rfl,rfl,aNl ti' ke' lx (fun i hi=>?_) (cb.pr' hr hc)⟩
    by_cases e3:i=r
    ·rw [e3,bF]
     have:=cb.nc r hr
     omega
    ·rw [cN e3]
     have h5:=li.hb i hi
     have h6:b i≠2*n:=fun h=>e3 (cb.inj i r hi hr (by rw [h,e2]))
     omega
   ·rw [if_neg e2] at h0 ⊢
    have hlt:b r<2*n:=by have:=li.hb r hr;omega
    cases hs:sel (sD T r c) n (if b r<n then b r+n else b r-n) n 0 none with
    |none=>rw [hs] at h0;exact absurd h0 (show¬(15:Int)=0 by decide)
    |some r'=>
     rw [hs] at h0
     obtain⟨s1,s2⟩:=zW n 0 none r' (fun q hq=>by cases hq) hs
     have hm:=aCE n 0 none r' (fun q hq=>by cases hq) (fun _ k hk=>by omega) hs
     exact aJE f (sD T r c) (nY b r c) r' _ (cnt+1) (li.next e2 hs) ke' (lx.pivot (by omega) (aMS.1 s2) fun k hk hp=>hm k (by omega) (aMS.2 hp)) (cb.next hr hc hlt) h0
theorem aIy {M:Nat→Nat→Rat} {q:Nat→Rat} {n i:Nat}:t9 M q n i (2*n)=-1:=by
 unfold t9;rw [if_neg (by omega),if_neg (by omega),if_pos rfl]
theorem aG8 {M:Nat→Nat→Rat} {q:Nat→Rat} {n i:Nat}:t9 M q n i (2*n+1)=q i:=by
 unfold t9;rw [if_neg (by omega),if_neg (by omega),if_neg (by omega)]
theorem aLt {q:Nat→Rat}:∀t i,ng q t i=true→∃k,i≤k∧k<i+t∧q k<0
 |0,i,h=>absurd h (by unfold ng;decide)
 |t+1,i,h=>by
  unfold ng at h
  by_cases e:(q i).num.sign<0
  ·refine⟨i,by omega,by omega,?_⟩
   rw [Int.sign_neg_iff,←Int.not_le,Rat.num_nonneg,Rat.not_le] at e;exact e
  ·rw [decide_eq_false e,bQ] at h
   obtain⟨k,h1,h2,h3⟩:=aLt t (i+1) h
   exact⟨k,by omega,by omega,h3⟩
theorem aGl {q:Nat→Rat}:∀t i,ng q t i=false→∀k,i≤k→k<i+t→0≤q k
 |0,i,h,k,h1,h2=>by omega
 |t+1,i,h,k,h1,h2=>by
  unfold ng at h
  by_cases e:(q i).num.sign<0
  ·rw [decide_eq_true e,bY] at h;cases h
  ·rw [decide_eq_false e,bQ] at h
   by_cases e2:k=i
   ·rw [Int.sign_neg_iff,←Int.not_le,Rat.num_nonneg] at e
    rw [e2];exact Decidable.not_not.1 e
   ·exact aGl t (i+1) h k (by omega) (by omega)
theorem aPF {M:Nat→Nat→Rat} {q:Nat→Rat} {n:Nat} (hneg:ng q n 0=true):aGz n (sD (t9 M q n) (yT (t9 M q n) n n 0 0) (2*n)):=fun i hi=>by
 have hm:=aEy (n:=n) (T:=t9 M q n) n 0 0 (fun k hk=>by omega)
 generalize hr:yT (t9 M q n) n n 0 0=r at *
 have hrn:r<n:=by rw [←hr];exact aBt n 0 0 (aDY hneg) (by omega)
 by_cases e:i=r
 ·unfold nn
  left
  obtain⟨k,_,k2,k3⟩:=aLt n 0 hneg
  have h1:=(hm k k2).head
  have e1:nJ n 0=2*n+1:=rfl
  simp only [e1,aG8] at h1
  show 0<sD (t9 M q n) r (2*n) i (nJ n 0)
  unfold sD
  rw [if_pos e,e1,aG8,aIy]
  grind
 ·refine(hm i (by omega)).congr fun j=>?_
  unfold sD
  rw [if_neg e,aIy,aIy]
  grind
theorem aPi {n:Nat}:CB n (fun j=>j) (2*n):=
 ⟨fun i j _ _ e=>e,fun i hi=>by show i≠2*n;omega,fun h=>absurd h (Nat.lt_irrefl _),fun i j hi hj _=>by show j≠cpl n i;unfold cpl;rw [if_pos hi];omega⟩
theorem aKU {M:Nat→Nat→Rat} {q:Nat→Rat} {n most:Nat} (h0:(zN M q n most).2=0):∃z w,(zN M q n most).1.z=mp z n∧(zN M q n most).1.w=mp w n∧Sol M q n z w:=by
 unfold zN at h0 ⊢
 cases hneg:ng q n 0
 ·rw [hneg,bQ] at h0
  rw [bQ]
  refine⟨_,_,rfl,rfl,fun _ _=>Rat.le_refl,fun j hj=>aGl n 0 hneg j (by omega) (by omega),fun i hi=>?_,fun _ _=>Or.inl rfl⟩
  rw [aAi fun j _=>show M i j*z0 j=0 from Rat.mul_zero _,Rat.zero_add]
 ·rw [hneg,bY] at h0
  rw [bY]
  exact aJE _ _ _ _ _ _ (aGB (aBt n 0 0 (aDY hneg) (by omega))) (fun x hx=>hx) (aPF hneg) aPi h0
end Go.Proofs.YtolfcbpgmfbgmaaGreat
set_option linter.unusedVariables false
namespace Go.Proofs.YtolfcbpgmfbgmaaGreat
def psl (f:Nat→Rat):Nat→Nat→Prop
 |0,_=>False
 |t+1,j=>0<f j∨(f j=0∧psl f t (j+1))
theorem psl.congr {f g:Nat→Rat}:∀{t j:Nat},(∀k,f k=g k)→psl f t j→psl g t j
 |0,_,_,h=>h
 |t+1,j,e,h=>by
  unfold psl at h ⊢
  rw [←e j]
  exact h.imp id fun h=>⟨h.1,psl.congr e h.2⟩
theorem psl.add {f g:Nat→Rat}:∀{t j:Nat},psl f t j→nn g t j→psl (fun k=>f k+g k) t j
 |0,_,h,_=>h
 |t+1,j,h1,h2=>by
  unfold psl at h1 ⊢
  unfold nn at h2
  rcases h1 with h1|⟨h1,k1⟩<;>rcases h2 with h2|⟨h2,k2⟩
  ·left;grind
  ·left;grind
  ·left;grind
  ·right;exact⟨by grind,psl.add k1 k2⟩
theorem psl.mul {f:Nat→Rat} {a:Rat} (ha:0<a):∀{t j:Nat},psl f t j→psl (fun k=>a*f k) t j
 |0,_,h=>h
 |t+1,j,h=>by
  unfold psl at h ⊢
  rcases h with h|⟨h,k⟩
  ·left;exact Rat.mul_pos ha h
  ·right;exact⟨by rw [h,Rat.mul_zero],psl.mul ha k⟩
theorem psl.zero {f:Nat→Rat}:∀{t j:Nat},psl f t j→∃k,j≤k∧k<j+t∧f k≠0
 |0,_,h=>h.elim
 |t+1,j,h=>by
  unfold psl at h
  rcases h with h|⟨h,k⟩
  ·exact⟨j,by omega,by omega,by grind⟩
  ·obtain⟨k,h1,h2,h3⟩:=k.zero
   exact⟨k,by omega,by omega,h3⟩
theorem nn.strict {f:Nat→Rat}:∀{t j:Nat},nn f t j→(∃k,j≤k∧k<j+t∧f k≠0)→psl f t j
 |0,_,_,⟨k,h1,h2,_⟩=>by omega
 |t+1,j,h,⟨k,h1,h2,h3⟩=>by
  unfold nn at h
  unfold psl
  rcases h with h|⟨h,h'⟩
  ·exact Or.inl h
  ·refine Or.inr ⟨h,h'.strict ⟨k,?_,by omega,h3⟩⟩
   by_cases e:k=j
   ·subst e;exact absurd h h3
   ·omega
def mem (n:Nat) (b:Nat→Nat) (v:Nat):Prop:=∃i,i<n∧b i=v
structure SI (n:Nat) (Z T:Nat→Nat→Rat) (b:Nat→Nat) (c:Nat):Prop where
 ti:TI n (2*n+2) Z T b
 ke:KE n (2*n+2) Z T
 sp:∃F:Nat→Nat→Rat,∀i k,i<n→k<2*n+2→Z i k=sm (fun j=>F i j*T j k) n
 id:∀i j,i<n→j<n→Z i j=if i=j then 1 else 0
 lx:aGz n T
 cb:CB n b c
 hb:∀i,i<n→b i≤2*n
 hc:c<2*n
theorem SI.inj {n:Nat} {Z T:Nat→Nat→Rat} {b:Nat→Nat} {c:Nat} (h:SI n Z T b c):∀i j,i<n→j<n→b i=b j→i=j:=h.cb.inj
theorem SI.pos {n:Nat} {Z T:Nat→Nat→Rat} {b:Nat→Nat} {c:Nat} (h:SI n Z T b c) {i:Nat} (hi:i<n):psl (fun j=>T i (nJ n j)) (n+1) 0:=by
 refine(h.lx i hi).strict ?_
 refine Classical.byContradiction fun hno=>?_
 have zero:∀k,k<n→T i k=0:=fun k hk=>by
  refine Classical.byContradiction fun h1=>hno ⟨k+1,by omega,by omega,?_⟩
  unfold nJ;rw [if_neg (by omega),show k+1-1=k by omega];exact h1
 obtain⟨E,hE⟩:=h.ti.ex
 have hE0:∀k,k<n→E i k=0:=fun k hk=>by
  have h1:=hE i k hi (by omega)
  rw [zero k hk,xC,zG hk fun j hj hne=>by rw [h.id j k hj hk,if_neg hne,Rat.zero_mul],h.id k k hk hk,if_pos rfl,Rat.one_mul] at h1
  exact h1.symm
 have h2:=hE i (b i) hi (h.ti.lt i hi)
 rw [h.ti.un i i hi hi,if_pos rfl,xC,aAi fun j hj=>by rw [hE0 j hj,Rat.mul_zero]] at h2
 exact absurd h2 (by decide)
theorem SI.row {n:Nat} {Z T T':Nat→Nat→Rat} {b b':Nat→Nat} {c c':Nat} (h:SI n Z T b c) (h':SI n Z T' b' c') (hm:∀v,mem n b v↔mem n b' v) {i j:Nat} (hi:i<n) (hj:j<n) (e:b i=b' j) {k:Nat} (hk:k<2*n+2):T i k=T' j k:=by
 obtain⟨E,hE⟩:=h'.ti.ex
 obtain⟨F,hF⟩:=h.sp
 let g:Nat→Rat:=fun m=>sm (fun l=>E j l*F l m) n
 have hg:∀k,k<2*n+2→T' j k=sm (fun m=>g m*T m k) n:=fun k hk=>by
  rw [hE j k hj hk,xC]
  have e1:sm (fun l=>Z l k*E j l) n=sm (fun l=>sm (fun m=>E j l*F l m*T m k) n) n:=d7 fun l hl=>by
   rw [hF l k hl hk,Rat.mul_comm,←xH]
   exact d7 fun m _=>by grind
  rw [e1,aDZ]
  refine d7 fun m _=>?_
  show _=sm (fun l=>E j l*F l m) n*T m k
  rw [Rat.mul_comm,←xH]
  exact d7 fun l _=>by grind
 have gd:∀m,m<n→g m=if m=i then 1 else 0:=fun m hmn=>by
  have h1:=hg (b m) (h.ti.lt m hmn)
  rw [zG hmn fun m' hm' hne=>by rw [h.ti.un m' m hm' hmn,if_neg hne,Rat.mul_zero],h.ti.un m m hmn hmn,if_pos rfl,Rat.mul_one] at h1
  obtain⟨j',hj',e'⟩:=(hm (b m)).1 ⟨m,hmn,rfl⟩
  rw [←h1,←e',h'.ti.un j j' hj hj']
  by_cases e2:m=i
  ·subst e2
   rw [if_pos rfl,if_pos (h'.inj j j' hj hj' (by rw [←e,e']))]
  ·rw [if_neg e2,if_neg fun e3=>e2 (h.inj m i hmn hi (by rw [e,e3,e']))]
 rw [hg k hk,zG hi fun m hmn hne=>by rw [gd m hmn,if_neg hne,Rat.zero_mul],gd i hi,if_pos rfl,Rat.one_mul]
def aAI (n:Nat) (T:Nat→Nat→Rat) (x r:Nat):Prop:=0<T r x∧∀k,k<n→0<T k x→aDx T n x k r
theorem aMA {n w r c:Nat} {Z T:Nat→Nat→Rat} (h:∃F:Nat→Nat→Rat,∀i k,i<n→k<w→Z i k=sm (fun j=>F i j*T j k) n) (hr:r<n) (hp:T r c≠0):∃F:Nat→Nat→Rat,∀i k,i<n→k<w→Z i k=sm (fun j=>F i j*sD T r c j k) n:=by
 obtain⟨F,hF⟩:=h
 refine⟨fun i j=>if j=r then sm (fun l=>F i l*T l c) n else F i j,fun i k hi hk=>?_⟩
 rw [hF i k hi hk]
 have e:∀j,F i j*T j k=(if j=r then F i j*T j k-F i j*T j c*(T r k/T r c) else F i j*T j k-F i j*T j c*(T r k/T r c))+(T r k/T r c)*(F i j*T j c):=fun j=>by split<;>grind
 have e1:sm (fun j=>F i j*T j k) n=sm (fun j=>F i j*T j k-(T r k/T r c)*(F i j*T j c)) n+(T r k/T r c)*sm (fun l=>F i l*T l c) n:=by
  rw [aDk];grind
 have e2:sm (fun j=>(if j=r then sm (fun l=>F i l*T l c) n else F i j)*sD T r c j k) n=sm (fun j=>(F i j*T j k-(T r k/T r c)*(F i j*T j c))+(if j=r then(T r k/T r c)*sm (fun l=>F i l*T l c) n else 0)) n:=d7 fun j hj=>by
  unfold sD
  by_cases e3:j=r
  ·subst e3
   rw [if_pos rfl,if_pos rfl,if_pos rfl];grind
  ·rw [if_neg e3,if_neg e3,if_neg e3];grind
 rw [e1,e2,aGr]
 congr 1
 rw [zG hr fun j hj hne=>if_neg hne,if_pos rfl]
theorem SI.next {n r c:Nat} {Z T:Nat→Nat→Rat} {b:Nat→Nat} (h:SI n Z T b c) (hr:r<n) (hl:aAI n T c r) (hx:b r<2*n):SI n Z (sD T r c) (nY b r c) (cpl n (b r)):=by
 have hc:=h.hc
 have hp:T r c≠0:=by have:=hl.1;grind
 exact⟨h.ti.pivot hr (by omega) hp,h.ke.pivot hr hp,aMA h.sp hr hp,h.id,h.lx.pivot hr hl.1 hl.2,h.cb.next hr (by omega) hx,fun i hi=>by
  by_cases e:i=r
  ·rw [e,bF];omega
  ·rw [cN e];exact h.hb i hi,aIx hx⟩
theorem aGi {n r c:Nat} {b:Nat→Nat} (hi:∀i j,i<n→j<n→b i=b j→i=j) (hr:r<n) (hc:∀i,i<n→b i≠c) (v:Nat):mem n (nY b r c) v↔(v=c∨(mem n b v∧v≠b r)):=by
 constructor
 ·rintro⟨i,h1,h2⟩
  by_cases e:i=r
  ·rw [e,bF] at h2;exact Or.inl h2.symm
  ·rw [cN e] at h2
   exact Or.inr ⟨⟨i,h1,h2⟩,fun h3=>e (hi i r h1 hr (by rw [h2,h3]))⟩
 ·rintro(h|⟨⟨i,h1,h2⟩,h3⟩)
  ·exact⟨r,hr,by rw [bF,h]⟩
  ·have e:i≠r:=fun e=>h3 (by rw [←h2,e])
   exact⟨i,h1,by rw [cN e,h2]⟩
theorem aQj {n r c:Nat} {Z T:Nat→Nat→Rat} {b:Nat→Nat} (h:SI n Z T b c) (hr:r<n) (hl:aAI n T c r):0<sD T r c r (b r)∧∀r',r'<n→aAI n (sD T r c) (b r) r'→r'=r:=by
 have hp:=hl.1
 have u:∀i,i<n→T i (b r)=if i=r then 1 else 0:=fun i hi=>h.ti.un i r hi hr
 have hrr:sD T r c r (b r)=1/T r c:=by unfold sD;rw [if_pos rfl,u r hr,if_pos rfl]
 have hpos:0<sD T r c r (b r):=by rw [hrr,Rat.div_def,Rat.one_mul];exact Rat.inv_pos.2 hp
 refine⟨hpos,fun r' hr' hl'=>Classical.byContradiction fun hne=>?_⟩
 have h1:sD T r c r' (b r)=-(T r' c)/T r c:=by
  unfold sD;rw [if_neg hne,u r' hr',if_neg hne,u r hr,if_pos rfl];grind
 have h2:=hl'.1
 have h3:T r' c<0:=by
  refine Rat.not_le.1 fun h4=>?_
  rw [h1] at h2
  have:0≤T r' c*(1/T r c):=Rat.mul_nonneg h4 (by rw [Rat.div_def,Rat.one_mul];exact Rat.le_of_lt (Rat.inv_pos.2 hp))
  grind
 have m:0<T r c/ -(T r' c):=by rw [Rat.div_def];exact Rat.mul_pos hp (Rat.inv_pos.2 (by grind))
 have s:=((h.pos hr').mul m).add (hl'.2 r hr hpos)
 obtain⟨k,_,_,hk⟩:=s.zero
 refine hk ?_
 rw [hrr,h1]
 unfold sD
 rw [if_pos rfl,if_neg hne]
 grind
end Go.Proofs.YtolfcbpgmfbgmaaGreat
set_option linter.unusedVariables false
namespace Go.Proofs.YtolfcbpgmfbgmaaGreat
theorem psl.nn {f:Nat→Rat}:∀{t j:Nat},psl f t j→nn f t j
 |0,_,h=>h.elim
 |t+1,j,h=>by
  unfold psl at h
  unfold Go.Proofs.YtolfcbpgmfbgmaaGreat.nn
  exact h.imp id fun h=>⟨h.1,h.2.nn⟩
theorem nn.congr_le {f g:Nat→Rat}:∀{t j:Nat},(∀k,k<j+t→f k=g k)→nn f t j→nn g t j
 |0,_,_,_=>trivial
 |t+1,j,e,h=>by
  unfold Go.Proofs.YtolfcbpgmfbgmaaGreat.nn at h ⊢
  rw [←e j (by omega)]
  exact h.imp id fun h=>⟨h.1,nn.congr_le (fun k hk=>e k (by omega)) h.2⟩
theorem aJl {f:Nat→Rat} (h:∀k,f k=0):∀t j,nn f t j
 |0,_=>trivial
 |t+1,j=>Or.inr ⟨h j,aJl h t (j+1)⟩
theorem aII {n r c:Nat} {Z T:Nat→Nat→Rat} {b:Nat→Nat} (h:SI n Z T b c) (hr:r<n) (hl:aAI n T c r):aAI n (sD T r c) (b r) r:=by
 have hp:=hl.1
 have u:∀i,i<n→T i (b r)=if i=r then 1 else 0:=fun i hi=>h.ti.un i r hi hr
 have hrr:sD T r c r (b r)=1/T r c:=by unfold sD;rw [if_pos rfl,u r hr,if_pos rfl]
 refine⟨(aQj h hr hl).1,fun k hk hkp=>?_⟩
 unfold aDx
 by_cases e:k=r
 ·subst e;exact aJl (fun j=>by grind) _ _
 ·have h1:sD T r c k (b r)=-(T k c)/T r c:=by
   unfold sD;rw [if_neg e,u k hk,if_neg e,u r hr,if_pos rfl];grind
  have h3:T k c<0:=by
   refine Rat.not_le.1 fun h4=>?_
   rw [h1] at hkp
   have:0≤T k c*(1/T r c):=Rat.mul_nonneg h4 (by rw [Rat.div_def,Rat.one_mul];exact Rat.le_of_lt (Rat.inv_pos.2 hp))
   grind
  have m:0<T r c/ -(T k c):=by rw [Rat.div_def];exact Rat.mul_pos hp (Rat.inv_pos.2 (by grind))
  refine(((h.pos hk).mul m).nn).congr fun j=>?_
  rw [hrr,h1]
  unfold sD
  rw [if_pos rfl,if_neg e]
  grind
theorem aB2 {n:Nat} {Z T T':Nat→Nat→Rat} {b b':Nat→Nat} {c c' x r m:Nat} (h:SI n Z T b c) (h':SI n Z T' b' c') (hm:∀v,mem n b v↔mem n b' v) (hr:r<n) (hmn:m<n) (e:b' m=b r) (hx:x<2*n+2) (hl:aAI n T x r):aAI n T' x m:=by
 have row:∀i j,i<n→j<n→b i=b' j→∀k,k<2*n+2→T i k=T' j k:=fun i j hi hj e k hk=>h.row h' hm hi hj e hk
 refine⟨by rw [←row r m hr hmn e.symm x hx];exact hl.1,fun k hk hp=>?_⟩
 obtain⟨i,hi,e2⟩:=(hm (b' k)).2 ⟨k,hk,rfl⟩
 have hp2:0<T i x:=by rw [row i k hi hk e2 x hx];exact hp
 refine(hl.2 i hi hp2).congr_le fun j hj=>?_
 have hc:nJ n j<2*n+2:=by unfold nJ;split<;>omega
 rw [row i k hi hk e2 _ hc,row r m hr hmn e.symm _ hc,row i k hi hk e2 x hx,row r m hr hmn e.symm x hx]
structure Run (n:Nat) (Z:Nat→Nat→Rat) (TT:Nat→Nat→Nat→Rat) (BB:Nat→Nat→Nat) (CC:Nat→Nat) (N:Nat):Prop where
 si:∀k,k≤N→SI n Z (TT k) (BB k) (CC k)
 st:∀k,k<N→∃r,r<n∧aAI n (TT k) (CC k) r∧BB k r<2*n∧TT (k+1)=sD (TT k) r (CC k)∧BB (k+1)=nY (BB k) r (CC k)∧CC (k+1)=cpl n (BB k r)
 beg:∀i,i<n→TT 0 i (cpl n (CC 0))≤0
section
variable {n N:Nat} {Z:Nat→Nat→Rat} {TT:Nat→Nat→Nat→Rat} {BB:Nat→Nat→Nat} {CC:Nat→Nat}
theorem Run.prev (h:Run n Z TT BB CC N) {k:Nat} (hk:k<N):∃r,r<n∧aAI n (TT k) (CC k) r∧aAI n (TT (k+1)) (cpl n (CC (k+1))) r∧(∀r',r'<n→aAI n (TT (k+1)) (cpl n (CC (k+1))) r'→r'=r)∧BB (k+1) r=CC k∧BB k r=cpl n (CC (k+1))∧cpl n (CC (k+1))<2*n∧
  (∀v,mem n (BB k) v↔(v=cpl n (CC (k+1))∨(mem n (BB (k+1)) v∧v≠CC k)))∧(∀v,mem n (BB (k+1)) v↔(v=CC k∨(mem n (BB k) v∧v≠cpl n (CC (k+1))))):=by
 obtain⟨r,r1,r2,r3,r4,r5,r6⟩:=h.st k hk
 have hs:=h.si k (by omega)
 have e:cpl n (CC (k+1))=BB k r:=by rw [r6,aCu r3]
 have hm:=aGi (v:=0) hs.inj r1 hs.cb.nc
 refine⟨r,r1,r2,?_,?_,by rw [r5,bF],e.symm,by rw [e];exact r3,fun v=>?_,fun v=>?_⟩
 ·rw [e,r4];exact aII hs r1 r2
 ·rw [e,r4];exact(aQj hs r1 r2).2
 ·rw [r5,aGi hs.inj r1 hs.cb.nc,e]
  constructor
  ·intro hv
   by_cases e2:v=BB k r
   ·exact Or.inl e2
   ·refine Or.inr ⟨Or.inr ⟨hv,e2⟩,fun e3=>?_⟩
    obtain⟨i,hi,hi2⟩:=hv
    exact hs.cb.nc i hi (by rw [hi2,e3])
  ·rintro(hv|⟨hv|hv,hv2⟩)
   ·exact⟨r,r1,hv.symm⟩
   ·exact absurd hv hv2
   ·exact hv.1
 ·rw [r5,aGi hs.inj r1 hs.cb.nc,e]
theorem Run.key (h:Run n Z TT BB CC N):∀i j,i<j→j≤N→CC i=CC j→(∀v,mem n (BB i) v↔mem n (BB j) v)→False
 |i,0,hij,_,_,_=>by omega
 |0,j+1,hij,hj,hc,hs=>by
  obtain⟨r,r1,_,r3,_,r5,_,r7,_⟩:=h.prev (show j<N by omega)
  obtain⟨m,m1,m2⟩:=(hs (BB (j+1) r)).2 ⟨r,r1,rfl⟩
  have l:=aB2 (h.si (j+1) hj) (h.si 0 (by omega)) (fun v=>(hs v).symm) r1 m1 m2 (x:=cpl n (CC (j+1))) (by omega) r3
  rw [←hc] at l
  exact absurd l.1 (Rat.not_lt.2 (h.beg m m1))
 |i+1,j+1,hij,hj,hc,hs=>by
  obtain⟨r,r1,_,r3,_,r5,_,r7,r8,_⟩:=h.prev (show j<N by omega)
  obtain⟨q,q1,_,q3,q4,q5,_,_,q8,_⟩:=h.prev (show i<N by omega)
  obtain⟨m,m1,m2⟩:=(hs (BB (j+1) r)).2 ⟨r,r1,rfl⟩
  have l:=aB2 (h.si (j+1) hj) (h.si (i+1) (by omega)) (fun v=>(hs v).symm) r1 m1 m2 (x:=cpl n (CC (j+1))) (by omega) r3
  rw [←hc] at l
  have e:=q4 m m1 l
  rw [e,q5,r5] at m2
  refine h.key i j (by omega) (by omega) m2 fun v=>?_
  rw [r8,q8,hs v,hc,m2]
theorem Run.turn (h:Run n Z TT BB CC N):∀g i j,j=i+g→i<j→j≤N→CC j=cpl n (CC i)→(∀v,mem n (BB i) v↔mem n (BB j) v)→False
 |0,i,j,hg,hij,_,_,_=>by omega
 |1,i,j,hg,hij,hj,hc,hs=>by
  subst hg
  obtain⟨r,r1,r2,r3,r4,r5,r6,r7,r8,r9⟩:=h.prev (show i<N by omega)
  have h1:=(hs (CC i)).2 ((r9 (CC i)).2 (Or.inl rfl))
  obtain⟨m,m1,m2⟩:=h1
  exact(h.si i (by omega)).cb.nc m m1 m2
 |g+2,i,j,hg,hij,hj,hc,hs=>by
  obtain⟨j',rfl⟩:∃j',j=j'+1:=⟨j-1,by omega⟩
  obtain⟨r,r1,r2,r3,r4,r5,r6,r7,r8,r9⟩:=h.prev (show j'<N by omega)
  obtain⟨q,q1,q2,q3,q4,q5,q6,q7,q8,q9⟩:=h.prev (show i<N by omega)
  have hci:=(h.si i (by omega)).hc
  have ex:cpl n (CC (j'+1))=CC i:=by rw [hc,aCu hci]
  rw [ex] at r3 r4 r6 r7 r8 r9
  obtain⟨m,m1,m2⟩:=(hs (BB i q)).1 ⟨q,q1,rfl⟩
  have l:=aB2 (h.si i (by omega)) (h.si (j'+1) hj) hs q1 m1 m2 (x:=CC i) (by omega) q2
  have e:=r4 m m1 l
  rw [e,r5,q6] at m2
  have hci1:=(h.si (i+1) (by omega)).hc
  have s2:∀v,mem n (BB (i+1)) v↔mem n (BB j') v:=fun v=>by rw [q9,r8,hs v,m2]
  by_cases e2:i+1=j'
  ·subst e2
   rcases aMe (n:=n) (x:=CC (i+1)) (by omega) with h1|h1
   ·exact h1 m2.symm
   ·omega
  ·exact h.turn g (i+1) j' (by omega) (by omega) (by omega) m2 s2
end
theorem pig:∀(n m:Nat) (f:Nat→Nat),(∀i,i<n→f i<m)→(∀i j,i<n→j<n→f i=f j→i=j)→n≤m
 |0,m,f,_,_=>Nat.zero_le _
 |n+1,m,f,h1,h2=>by
  have h3:=h1 n (by omega)
  have:=pig n (m-1) (fun i=>if f i<f n then f i else f i-1) (fun i hi=>by
   have a:=h1 i (by omega)
   have b:f i≠f n:=fun e=>by have:=h2 i n (by omega) (by omega) e;omega
   show(if f i<f n then f i else f i-1)<m-1
   split<;>omega) (fun i j hi hj e=>by
   have b:f i≠f n:=fun e=>by have:=h2 i n (by omega) (by omega) e;omega
   have c:f j≠f n:=fun e=>by have:=h2 j n (by omega) (by omega) e;omega
   refine h2 i j (by omega) (by omega) ?_
   have e':(if f i<f n then f i else f i-1)=(if f j<f n then f j else f j-1):=e
   split at e'<;>split at e'<;>omega)
  omega
def zK (n v:Nat):Nat:=if v<n then v else v-n
theorem aCk {n u v:Nat} (hu:u<2*n) (hv:v<2*n) (h:zK n u=zK n v):u=v∨u=cpl n v:=by
 unfold zK at h;unfold cpl
 split at h<;>split at h<;>split<;>omega
theorem aDs {n v:Nat} (h:v<2*n):zK n v<n:=by unfold zK;split<;>omega
theorem aLA {n:Nat} {Z T T':Nat→Nat→Rat} {b b':Nat→Nat} {c c':Nat} (h:SI n Z T b c) (h':SI n Z T' b' c') (hm:∀v,mem n b v↔mem n b' v):c'=c∨c'=cpl n c:=by
 refine Classical.byContradiction fun hno=>?_
 have hc:=h.hc
 have hc':=h'.hc
 have hd:zK n c≠zK n c':=fun e=>hno (aCk hc' hc e.symm)
 have no':∀i,i<n→b i≠c'∧b i≠cpl n c':=fun i hi=>by
  obtain⟨j,hj,e⟩:=(hm (b i)).1 ⟨i,hi,rfl⟩
  exact⟨fun e2=>h'.cb.nc j hj (by rw [e,e2]),fun e2=>h'.cb.np hc' j hj (by rw [e,e2])⟩
 let f:Nat→Nat:=fun i=>if b i=2*n then zK n c else zK n (b i)
 have lt:∀i,i<n→b i≠2*n→b i<2*n:=fun i hi hne=>by have:=h.hb i hi;omega
 have f1:∀i,i<n→f i<n:=fun i hi=>by
  show(if b i=2*n then zK n c else zK n (b i))<n
  by_cases e:b i=2*n
  ·rw [if_pos e];exact aDs hc
  ·rw [if_neg e];exact aDs (lt i hi e)
 have f2:∀i,i<n→f i≠zK n c':=fun i hi=>by
  show(if b i=2*n then zK n c else zK n (b i))≠zK n c'
  by_cases e:b i=2*n
  ·rw [if_pos e];exact hd
  ·rw [if_neg e]
   intro e2
   rcases aCk (lt i hi e) hc' e2 with h1|h1
   ·exact(no' i hi).1 h1
   ·exact(no' i hi).2 h1
 have f3:∀i j,i<n→j<n→f i=f j→i=j:=fun i j hi hj e=>by
  have e':(if b i=2*n then zK n c else zK n (b i))=(if b j=2*n then zK n c else zK n (b j)):=e
  by_cases e1:b i=2*n
  ·by_cases e2:b j=2*n
   ·exact h.inj i j hi hj (by rw [e1,e2])
   ·rw [if_pos e1,if_neg e2] at e'
    rcases aCk (lt j hj e2) hc e'.symm with h1|h1
    ·exact absurd h1 (h.cb.nc j hj)
    ·exact absurd h1 (h.cb.np hc j hj)
  ·by_cases e2:b j=2*n
   ·rw [if_neg e1,if_pos e2] at e'
    rcases aCk (lt i hi e1) hc e' with h1|h1
    ·exact absurd h1 (h.cb.nc i hi)
    ·exact absurd h1 (h.cb.np hc i hi)
   ·rw [if_neg e1,if_neg e2] at e'
    rcases aCk (lt i hi e1) (lt j hj e2) e' with h1|h1
    ·exact h.inj i j hi hj h1
    ·exact absurd h1 (h.cb.pr j i hj hi (lt j hj e2))
 have hq:=aDs hc'
 have:=pig n (n-1) (fun i=>if f i<zK n c' then f i else f i-1) (fun i hi=>by
  have a:=f1 i hi
  have b:=f2 i hi
  show(if f i<zK n c' then f i else f i-1)<n-1
  split<;>omega) (fun i j hi hj e=>by
  have a:=f2 i hi
  have b:=f2 j hj
  refine f3 i j hi hj ?_
  have e':(if f i<zK n c' then f i else f i-1)=(if f j<zK n c' then f j else f j-1):=e
  split at e'<;>split at e'<;>omega)
 omega
theorem Run.distinct {n N:Nat} {Z:Nat→Nat→Rat} {TT:Nat→Nat→Nat→Rat} {BB:Nat→Nat→Nat} {CC:Nat→Nat} (h:Run n Z TT BB CC N) {i j:Nat} (hij:i<j) (hj:j≤N) (hs:∀v,mem n (BB i) v↔mem n (BB j) v):False:=by
 rcases aLA (h.si i (by omega)) (h.si j hj) hs with e|e
 ·exact h.key i j hij hj e.symm hs
 ·exact h.turn (j-i) i j (by omega) hij hj e hs
open Classical in
noncomputable def dg (n:Nat) (b:Nat→Nat) (j:Nat):Nat:=if mem n b j then 1 else if mem n b (n+j) then 2 else 0
noncomputable def cde (n:Nat) (b:Nat→Nat):Nat→Nat
 |0=>0
 |j+1=>3*cde n b j+dg n b j
theorem aJO {n:Nat} {b:Nat→Nat} {j:Nat}:dg n b j≤2:=by unfold dg;split;omega;split<;>omega
theorem aLn {n:Nat} {b:Nat→Nat}:∀m,cde n b m<3^m
 |0=>Nat.one_pos
 |m+1=>by
  have:=aLn (n:=n) (b:=b) m
  have:=aJO (n:=n) (b:=b) (j:=m)
  show 3*cde n b m+dg n b m<3^(m+1)
  rw [Nat.pow_succ];omega
theorem aJ3 {n:Nat} {b:Nat→Nat} {j:Nat} (h0:dg n b j=0):∀m,j<m→cde n b m+1<3^m
 |0,h=>by omega
 |m+1,h=>by
  have h1:=aLn (n:=n) (b:=b) m
  have h2:=aJO (n:=n) (b:=b) (j:=m)
  show 3*cde n b m+dg n b m+1<3^(m+1)
  rw [Nat.pow_succ]
  by_cases e:j=m
  ·subst e;rw [h0];omega
  ·have:=aJ3 h0 m (by omega);omega
theorem aJf {n:Nat} {b b':Nat→Nat}:∀m,cde n b m=cde n b' m→∀j,j<m→dg n b j=dg n b' j
 |0,_,j,hj=>by omega
 |m+1,h,j,hj=>by
  have h1:=aJO (n:=n) (b:=b) (j:=m)
  have h2:=aJO (n:=n) (b:=b') (j:=m)
  have h3:3*cde n b m+dg n b m=3*cde n b' m+dg n b' m:=h
  by_cases e:j=m
  ·subst e;omega
  ·exact aJf m (by omega) j (by omega)
theorem SI.last {n:Nat} {Z T:Nat→Nat→Rat} {b:Nat→Nat} {c:Nat} (h:SI n Z T b c):mem n b (2*n):=by
 refine Classical.byContradiction fun hno=>?_
 have hc:=h.hc
 have lt:∀i,i<n→b i<2*n:=fun i hi=>by
  have:=h.hb i hi
  have:b i≠2*n:=fun e=>hno ⟨i,hi,e⟩
  omega
 have hq:=aDs hc
 have f2:∀i,i<n→zK n (b i)≠zK n c:=fun i hi e=>by
  rcases aCk (lt i hi) hc e with h1|h1
  ·exact h.cb.nc i hi h1
  ·exact h.cb.np hc i hi h1
 have:=pig n (n-1) (fun i=>if zK n (b i)<zK n c then zK n (b i) else zK n (b i)-1) (fun i hi=>by
  have a:=aDs (lt i hi)
  have b:=f2 i hi
  show(if zK n (_)<zK n c then _ else _)<n-1
  split<;>omega) (fun i j hi hj e=>by
  have a:=f2 i hi
  have b':=f2 j hj
  have e':(if zK n (b i)<zK n c then zK n (b i) else zK n (b i)-1)=(if zK n (b j)<zK n c then zK n (b j) else zK n (b j)-1):=e
  have e3:zK n (b i)=zK n (b j):=by split at e'<;>split at e'<;>omega
  rcases aCk (lt i hi) (lt j hj) e3 with h1|h1
  ·exact h.inj i j hi hj h1
  ·exact absurd h1 (h.cb.pr j i hj hi (lt j hj)))
 omega
theorem aPH {n:Nat} {b b':Nat→Nat} (hb:∀i,i<n→b i≤2*n) (hp:∀i j,i<n→j<n→b i<2*n→b j≠cpl n (b i)) (hb':∀i,i<n→b' i≤2*n) (hp':∀i j,i<n→j<n→b' i<2*n→b' j≠cpl n (b' i)) (h:∀j,j<n→dg n b j=dg n b' j) (hl:mem n b (2*n)↔mem n b' (2*n)) (v:Nat):mem n b v↔mem n b' v:=by
 have both:∀{b:Nat→Nat},(∀i j,i<n→j<n→b i<2*n→b j≠cpl n (b i))→∀j,j<n→mem n b j→¬mem n b (n+j):=fun hp j hj h1 h2=>by
  obtain⟨i,i1,i2⟩:=h1
  obtain⟨k,k1,k2⟩:=h2
  refine hp i k i1 k1 (by omega) ?_
  rw [k2,i2];unfold cpl;rw [if_pos hj];omega
 by_cases e1:v<n
 ·have:=h v e1
  unfold dg at this
  constructor
  ·intro h1;rw [if_pos h1] at this
   refine Classical.byContradiction fun h2=>?_
   rw [if_neg h2] at this;split at this<;>omega
  ·intro h1;rw [if_pos h1] at this
   refine Classical.byContradiction fun h2=>?_
   rw [if_neg h2] at this;split at this<;>omega
 ·by_cases e2:v<2*n
  ·obtain⟨j,rfl⟩:∃j,v=n+j:=⟨v-n,by omega⟩
   have hj:j<n:=by omega
   have:=h j hj
   unfold dg at this
   constructor
   ·intro h1
    rw [if_neg (fun h3=>both hp j hj h3 h1),if_pos h1] at this
    refine Classical.byContradiction fun h2=>?_
    rw [if_neg h2] at this;split at this<;>omega
   ·intro h1
    rw [if_neg (fun h3=>both hp' j hj h3 h1),if_pos h1] at this
    refine Classical.byContradiction fun h2=>?_
    rw [if_neg h2] at this;split at this<;>omega
  ·by_cases e3:v=2*n
   ·rw [e3];exact hl
   ·constructor
    ·rintro⟨i,i1,i2⟩;have:=hb i i1;omega
    ·rintro⟨i,i1,i2⟩;have:=hb' i i1;omega
theorem Run.short {n N:Nat} {Z:Nat→Nat→Rat} {TT:Nat→Nat→Nat→Rat} {BB:Nat→Nat→Nat} {CC:Nat→Nat} (h:Run n Z TT BB CC N):N+2≤3^n:=by
 have hc0:=(h.si 0 (by omega)).hc
 have lt:∀k,k<N+1→cde n (BB k) n<3^n-1:=fun k hk=>by
  have hs:=h.si k (by omega)
  have hc:=hs.hc
  have h0:dg n (BB k) (zK n (CC k))=0:=by
   have a1:¬mem n (BB k) (CC k):=fun⟨i,i1,i2⟩=>hs.cb.nc i i1 i2
   have a2:¬mem n (BB k) (cpl n (CC k)):=fun⟨i,i1,i2⟩=>hs.cb.np hc i i1 i2
   unfold dg zK
   unfold cpl at a2
   by_cases e:CC k<n
   ·rw [if_pos e] at a2 ⊢
    rw [if_neg a1,if_neg (by rw [Nat.add_comm];exact a2)]
   ·rw [if_neg e] at a2 ⊢
    rw [if_neg a2,if_neg (by rw [show n+(CC k-n)=CC k by omega];exact a1)]
  have:=aJ3 h0 n (aDs hc)
  omega
 have:=pig (N+1) (3^n-1) (fun k=>cde n (BB k) n) lt (fun i j hi hj e=>by
  have same:∀v,mem n (BB i) v↔mem n (BB j) v:=by
   have si:=h.si i (by omega)
   have sj:=h.si j (by omega)
   exact aPH si.hb si.cb.pr sj.hb sj.cb.pr (aJf n e) ⟨fun _=>sj.last,fun _=>si.last⟩
  rcases Nat.lt_trichotomy i j with h1|h1|h1
  ·exact(h.distinct h1 (by omega) same).elim
  ·exact h1
  ·exact(h.distinct h1 (by omega) fun v=>(same v).symm).elim)
 omega
end Go.Proofs.YtolfcbpgmfbgmaaGreat
set_option linter.unusedVariables false
namespace Go.Proofs.YtolfcbpgmfbgmaaGreat
end Go.Proofs.YtolfcbpgmfbgmaaGreat
set_option linter.unusedVariables false
namespace Go.Proofs.YtolfcbpgmfbgmaaGreat
end Go.Proofs.YtolfcbpgmfbgmaaGreat
set_option linter.unusedVariables false
namespace Go.Proofs.YtolfcbpgmfbgmaaGreat
end Go.Proofs.YtolfcbpgmfbgmaaGreat
set_option linter.unusedVariables false
namespace Go.Proofs.YtolfcbpgmfbgmaaGreat
end Go.Proofs.YtolfcbpgmfbgmaaGreat
set_option linter.unusedVariables false
namespace Go.Proofs.YtolfcbpgmfbgmaaGreat
theorem aLj {n B:Nat} {T:Nat→Nat→Rat} {b:Nat→Nat} (hT:zY n (2*n+2) B T) (hB:1≤B):∀i,i≤n→∀j,Bd B (szv T b n i j)
 |0,_,j=>Bd.zero.mono hB
 |i+1,h,j=>by
  have ih:=aLj (b:=b) hT hB i (by omega)
  unfold szv
  split
  ·exact ih j
  ·split
   ·by_cases e:j=b i-n
    ·subst e;rw [bF];exact hT i _ (by omega) (by omega)
    ·rw [cN e];exact ih j
   ·exact ih j
theorem aOu {n most B:Nat} {Z:Nat→Nat→Rat} (hZ:Sm n B Z) (hB:1≤B):∀(f:Nat) (T:Nat→Nat→Rat) (b:Nat→Nat) (r c cnt:Nat),LI n Z T b r c→(lem n most f T b r c cnt).2=0→(lem n most f T b r c cnt).1.z.length=n∧Bds B (lem n most f T b r c cnt).1.z
 |0,T,b,r,c,cnt,h,h0=>absurd (show(16:Int)=0 from h0) (by decide)
 |f+1,T,b,r,c,cnt,h,h0=>by
  unfold lem at h0 ⊢
  by_cases e:cnt=most
  ·rw [if_pos e] at h0;exact absurd h0 (by decide)
  ·rw [if_neg e] at h0 ⊢
   have hcw:=h.hc
   by_cases e2:b r=2*n
   ·rw [if_pos e2]
    have ti':=h.ti.pivot h.hr (show c<2*n+2 by omega) h.hp
    exact⟨bC _ _,wW fun j _=>aLj (hZ _ _ ti') hB n (Nat.le_refl _) j⟩
   ·rw [if_neg e2] at h0 ⊢
    cases hs:sel (sD T r c) n (if b r<n then b r+n else b r-n) n 0 none with
    |none=>rw [hs] at h0;exact absurd (show(15:Int)=0 from h0) (by decide)
    |some r'=>
     rw [hs] at h0
     exact aOu hZ hB f _ _ _ _ _ (h.next e2 hs) h0
theorem aPg {M:Nat→Nat→Rat} {q:Nat→Rat} {n B most:Nat} (hZ:Sm n B (t9 M q n)) (hB:1≤B) (h0:(zN M q n most).2=0):(zN M q n most).1.z.length=n∧Bds B (zN M q n most).1.z:=by
 unfold zN at h0 ⊢
 by_cases hneg:ng q n 0=true
 ·rw [hneg,bY] at h0 ⊢
  exact aOu hZ hB _ _ _ _ _ _ (aGB (aBt n 0 0 (aDY hneg) (by omega))) h0
 ·have hneg':ng q n 0=false:=by cases h:ng q n 0 with|true=>exact absurd h hneg|false=>rfl
  rw [hneg',bQ]
  exact⟨bC _ _,wW fun j _=>Bd.zero.mono hB⟩
theorem pw4 {D k m:Nat} (h:D≤2^k) (e:4*k+56=m):64*(2^50*(D*D*D*D))≤2^m:=by
 have e2:=Nat.mul_le_mul (Nat.mul_le_mul (Nat.mul_le_mul h h) h) h
 rw [←Nat.pow_add,←Nat.pow_add,←Nat.pow_add] at e2
 have e3:=Nat.mul_le_mul (Nat.le_refl (2^6)) (Nat.mul_le_mul (Nat.le_refl (2^50)) e2)
 rw [←Nat.pow_add,←Nat.pow_add] at e3
 rw [show m=6+(50+(k+k+k+k)) by omega]
 exact e3
theorem pw8 {D k m:Nat} (h:D≤256^k) (e:8*k=m):D≤2^m:=by
 rw [show(256:Nat)=2^8 from rfl,←Nat.pow_mul,e] at h;exact h
theorem pwn {x k m n:Nat} (h:x≤2^k) (e:k*n<m):x^n<2^m:=by
 refine Nat.lt_of_le_of_lt (Nat.pow_le_pow_left h n) ?_
 rw [←Nat.pow_mul]
 exact Nat.pow_lt_pow_right (by decide) e
theorem sizes {D n sz:Nat} (hs:sz=100000) (hD:D≤256^149) (hn:n≤20):(64*(2^50*(D*D*D*D)))^n<2^sz:=
 pwn (pw4 (pw8 hD (m:=1192) (by decide)) (m:=4824) (by decide)) (by omega)
end Go.Proofs.YtolfcbpgmfbgmaaGreat
set_option linter.unusedVariables false
namespace Go.Proofs.YtolfcbpgmfbgmaaGreat
theorem dn_q {p q:Int} {m:Nat} (hp:p.natAbs≤m) (h1:1≤q) (h3:q≤3):dn 6 1 (6*m) ((p:Rat)/q):=by
 have key:∀k:Int,((q:Rat)⁻¹)*6=(k:Rat)→k.natAbs≤6→dn 6 1 (6*m) ((p:Rat)/q):=fun k hk hk6=>
  ⟨p*k,by
   have e:((6^1:Nat):Rat)=6:=rfl
   rw [Rat.div_def,Rat.intCast_mul,←hk,e,Rat.mul_assoc],by rw [Int.natAbs_mul,Nat.mul_comm];exact Nat.mul_le_mul hk6 hp⟩
 obtain rfl|rfl|rfl:q=1∨q=2∨q=3:=by omega
 ·exact key 6 (by decide+kernel) (by decide)
 ·exact key 3 (by decide+kernel) (by decide)
 ·exact key 2 (by decide+kernel) (by decide)
theorem aB1 {p q:Int} {m:Nat} (hp:p.natAbs≤m) (h1:1≤q) (h3:q≤3) (hm:m≤100):∃r,qof p q=some r∧dn 6 1 (6*m) r:=by
 obtain⟨r,r1,r2,_⟩:=aPx (k:=8) (p:=p) (q:=q) (by omega) (by omega) (by omega) (by omega)
 exact⟨r,r1,by rw [r2];exact dn_q hp h1 h3⟩
theorem xW {x:Rat} (h:dn 6 2 4000 x):Bd 12 x:=by
 obtain⟨z,h1,h2⟩:=h
 have e:((6^2:Nat):Rat)=36:=rfl
 have h36:((36:Int):Rat)≠0:=by decide+kernel
 have e2:((36:Int):Rat)=36:=rfl
 have:x=(z:Rat)/((36:Int):Rat):=by
  rw [←h1,e,e2,Rat.div_def,Rat.mul_assoc,Rat.mul_inv_cancel _ (by rw [←e2];exact h36),Rat.mul_one]
 rw [this]
 exact Bd.of (by omega) (by omega) (by decide)
theorem aHW {m:Nat} {x:Rat} (h:dn 6 1 m x) (hm:m*6≤4000):dn 6 2 4000 x:=h.up.mono hm
theorem aKL {x:Int} (hx:0≤x∧x<60):∃r,jS x=some r∧dn 6 1 24 r:=by
 obtain⟨v,v1,v2,v3⟩:=u7 (x:=x) (by omega) (m:=60) (by omega)
 unfold jS
 rw [v1,oB]
 by_cases h:v<24
 ·exact⟨0,by rw [dT h,bY],dn.zero⟩
 ·have m9:=aL9 (a:=v) (m:=9) v2 (by omega)
  have m3:=aL9 (a:=v/9) (m:=3) (by omega) (by omega)
  obtain⟨r,r1,r2⟩:=aB1 (p:=v%9-4) (q:=1+v/9%3) (m:=4) (by omega) (by omega) (by omega) (by omega)
  exact⟨r,by rw [dF h,bQ,tB v2 (by omega),oB,oR (by omega),oB,u9 v2 (by omega) (by omega),oB,tB (by omega) (by omega),oB,oR (by omega),oB,r1,oB],r2⟩
def vn (l:List Int) (j:Nat):Rat:=((cD l (j:Int) 60).bind jS).getD 0
def mvn (l:List Int) (r c:Nat):Rat:=vn l (3+6*r+c)
def vw (l:List Int) (i:Nat):Rat:=((cD l ((40+i:Nat):Int) 13).bind fun a=>(cD l ((47+i:Nat):Int) 2).bind fun b=>qof (a-8) (1+b)).getD 0
theorem aLZ {l:List Int} (hl:aAU l) (r c:Nat):∃v,cD l ((3+6*r+c:Nat):Int) 60=some v∧jS v=some (mvn l r c)∧dn 6 1 24 (mvn l r c):=by
 obtain⟨v,v1,v2,v3⟩:=aEw hl ((3+6*r+c:Nat):Int) (m:=60) (by omega)
 obtain⟨x,x1,x2⟩:=aKL ⟨v2,v3⟩
 have e:mvn l r c=x:=by unfold mvn vn;rw [v1,oB,x1];rfl
 exact⟨v,v1,by rw [e];exact x1,by rw [e];exact x2⟩
theorem aOI {l:List Int} (hl:aAU l) (i:Nat):∃a b,cD l ((40+i:Nat):Int) 13=some a∧aR (a-8)=some (a-8)∧cD l ((47+i:Nat):Int) 2=some b∧aR (1+b)=some (1+b)∧qof (a-8) (1+b)=some (vw l i)∧dn 6 1 48 (vw l i):=by
 obtain⟨a,a1,a2,a3⟩:=aEw hl ((40+i:Nat):Int) (m:=13) (by omega)
 obtain⟨b,b1,b2,b3⟩:=aEw hl ((47+i:Nat):Int) (m:=2) (by omega)
 obtain⟨r,r1,r2⟩:=aB1 (p:=a-8) (q:=1+b) (m:=8) (by omega) (by omega) (by omega) (by omega)
 have e:vw l i=r:=by unfold vw;rw [a1,oB,b1,oB,r1];rfl
 exact⟨a,b,a1,oR (by omega),b1,oR (by omega),by rw [e];exact r1,by rw [e];exact r2⟩
theorem aGE {l:List Int} (hl:aAU l) (r c:Nat):dn 6 1 24 (mvn l r c):=by
 obtain⟨_,_,_,h⟩:=aLZ hl r c
 exact h
theorem aPQ {l:List Int} (hl:aAU l) (i:Nat):dn 6 1 48 (vw l i):=by
 obtain⟨_,_,_,_,_,_,_,h⟩:=aOI hl i
 exact h
theorem aMp {l:List Int} (hl:aAU l) (r c:Nat):Bd 12 (mvn l r c):=xW (aHW (aGE hl r c) (by omega))
theorem aJ7 {l:List Int} (hl:aAU l) {n r:Nat} (hr:r≤10) (hn:n≤10) (K:Nat):∀(t i k:Nat),i+t=n→t<k→eV K l (n:Int) (r:Int) k (mp (mvn l r) i) (i:Int)=some (mp (mvn l r) n)
 |0,i,k,hi,hk=>by
  have:i=n:=by omega
  subst this
  obtain⟨k',rfl,_⟩:=bJ hk
  simp only [eV,dF (show¬(i:Int)<(i:Int) by omega),bQ]
 |t+1,i,k,hi,hk=>by
  obtain⟨k',rfl,hk'⟩:=bJ hk
  have e1:aR (6*(r:Int))=some ((6*r:Nat):Int):=zE (m:=0) (by omega) (by omega)
  have e2:aR (3+((6*r:Nat):Int))=some ((3+6*r:Nat):Int):=zE (m:=0) (by omega) (by omega)
  have e3:aR (((3+6*r:Nat):Int)+(i:Int))=some ((3+6*r+i:Nat):Int):=zE (m:=0) (by omega) (by omega)
  obtain⟨v,v1,v2,_⟩:=aLZ hl r i
  simp only [eV,dT (show(i:Int)<(n:Int) by omega),bY,e1,e2,e3,oB,v1,v2,apM (g:=mvn l r) (i:=i) (by omega),uY (i:=i) (by omega)]
  exact aJ7 hl hr hn K t (i+1) k' (by omega) (by omega)
theorem aMM {l:List Int} (hl:aAU l) {n:Nat} (hn:n≤10) {K:Nat} (hK:n<K):∀(t i k:Nat),i+t=n→t<k→dV K l (n:Int) k (mp (vw l) i) (mx (mvn l) i n) (i:Int)=some (mp (vw l) n,mx (mvn l) n n)
 |0,i,k,hi,hk=>by
  have:i=n:=by omega
  subst this
  obtain⟨k',rfl,_⟩:=bJ hk
  simp only [dV,dF (show¬(i:Int)<(i:Int) by omega),bQ]
 |t+1,i,k,hi,hk=>by
  obtain⟨k',rfl,hk'⟩:=bJ hk
  have h1:=aJ7 hl (n:=n) (r:=i) (by omega) hn K n 0 K (by omega) hK
  simp only [Int.natCast_zero,yW] at h1
  have e1:aR (40+(i:Int))=some ((40+i:Nat):Int):=zE (m:=0) (by omega) (by omega)
  have e2:aR (47+(i:Int))=some ((47+i:Nat):Int):=zE (m:=0) (by omega) (by omega)
  have e3:sF (mx (mvn l) i n) [mp (mvn l i) n]=some (mx (mvn l) (i+1) n):=apM (g:=fun r=>mp (mvn l r) n) (by omega)
  obtain⟨a,b,a1,a2,b1,b2,c1,_⟩:=aOI hl i
  simp only [dV,dT (show(i:Int)<(n:Int) by omega),bY,h1,oB,lT,e3,e1,a1,a2,e2,b1,b2,c1,apM (g:=vw l) (i:=i) (by omega),uY (i:=i) (by omega)]
  exact aMM hl hn hK t (i+1) k' (by omega) (by omega)
def gm (l:List Int) (n i k:Nat):Rat:=sm (fun c=>mvn l i c*mvn l k c) n
def gmd (d:Bool) (l:List Int) (n i k:Nat):Rat:=if d=true∧k=i then gm l n i i+1 else gm l n i k
theorem aOB {f:Nat→Rat} {D e M:Nat}:∀n,(∀c,c<n→dn D e M (f c))→dn D e (n*M) (sm f n)
 |0,_=>dn.zero
 |n+1,h=>by
  rw [Nat.succ_mul]
  exact(aOB n fun c hc=>h c (by omega)).add (h n (by omega))
theorem aJo {l:List Int} (hl:aAU l) {n:Nat} (hn:n≤6) (i k:Nat):dn 6 2 3500 (gm l n i k):=
 (aOB (M:=576) n fun c _=>(aGE hl i c).mul (aGE hl k c)).mono (by omega)
theorem aGv:dn 6 2 36 (1:Rat):=⟨36,by decide+kernel,by decide⟩
theorem aLH {d:Bool} {l:List Int} (hl:aAU l) {n:Nat} (hn:n≤6) (i k:Nat):dn 6 2 4000 (gmd d l n i k):=by
 unfold gmd
 split
 ·exact((aJo hl hn i i).add aGv).mono (by omega)
 ·exact(aJo hl hn i k).mono (by omega)
theorem aLu {l:List Int} (hl:aAU l) {n:Nat} (hn:n≤6) {K:Nat} (hK:n<K) (i k:Nat):kM K (mp (mvn l i) n) (mp (mvn l k) n)=some (gm l n i k):=
 (aLf (fun c _=>aMp hl i c) (fun c _=>aMp hl k c) (by omega) (by omega) hK).2
theorem aJB {l:List Int} (hl:aAU l) {n i:Nat} (hi:i<n) (hn:n≤6) {K:Nat} (hK:n<K):∀(t c k:Nat),c+t=n→t<k→eW K (n:Int) (mx (mvn l) n n) (i:Int) k (mp (gm l n i) c) (c:Int)=some (mp (gm l n i) n)
 |0,c,k,hc,hk=>by
  have:c=n:=by omega
  subst this
  obtain⟨k',rfl,_⟩:=bJ hk
  simp only [eW,dF (show¬(c:Int)<(c:Int) by omega),bQ]
 |t+1,c,k,hc,hk=>by
  obtain⟨k',rfl,hk'⟩:=bJ hk
  simp only [eW,dT (show(c:Int)<(n:Int) by omega),bY,aAl (g:=mvn l) (w:=n) hi,aAl (g:=mvn l) (w:=n) (show c<n by omega),oB,aLu hl hn hK i c,apM (g:=gm l n i) (i:=c) (by omega),uY (i:=c) (by omega)]
  exact aJB hl hi hn hK t (c+1) k' (by omega) (by omega)
theorem aJD {l:List Int} (hl:aAU l) {n i:Nat} (hi:i<n) (hn:n≤6) {K:Nat} (hK:n<K):∀(t c k:Nat),c+t=n→t<k→eS K (n:Int) (mx (mvn l) n n) (i:Int) k (mp (gm l n i) c) (c:Int)=some (mp (gm l n i) n)
 |0,c,k,hc,hk=>by
  have:c=n:=by omega
  subst this
  obtain⟨k',rfl,_⟩:=bJ hk
  simp only [eS,dF (show¬(c:Int)<(c:Int) by omega),bQ]
 |t+1,c,k,hc,hk=>by
  obtain⟨k',rfl,hk'⟩:=bJ hk
  simp only [eS,dT (show(c:Int)<(n:Int) by omega),bY,aAl (g:=mvn l) (w:=n) hi,aAl (g:=mvn l) (w:=n) (show c<n by omega),oB,aLu hl hn hK i c,apM (g:=gm l n i) (i:=c) (by omega),uY (i:=c) (by omega)]
  exact aJD hl hi hn hK t (c+1) k' (by omega) (by omega)
theorem aQc:Bd 12 (1:Rat):=xW (aGv.mono (by omega))
theorem aJq {d:Bool} {l:List Int} {n i:Nat} (hi:i<n):(if d=true then mp (nY (gm l n i) i (gm l n i i+1)) n else mp (gm l n i) n)=mp (gmd d l n i) n:=by
 cases d with
 |true=>
  rw [if_pos rfl]
  refine iD fun j hj=>?_
  unfold gmd
  by_cases e:j=i
  ·subst e;rw [bF,if_pos ⟨rfl,rfl⟩]
  ·rw [cN e,if_neg (fun h=>e h.2)]
 |false=>
  rw [if_neg (by decide)]
  exact iD fun j hj=>by unfold gmd;rw [if_neg (fun h=>absurd h.1 (by decide))]
theorem aJp {l:List Int} (hl:aAU l) {n:Nat} {v5:Int} (hn:n≤6) {K:Nat} (hK:n<K):∀(t i k:Nat),i+t=n→t<k→cM K (n:Int) v5 (mx (mvn l) n n) k (mx (gmd (v5==2) l n) i n) (i:Int)=some (mx (gmd (v5==2) l n) n n)
 |0,i,k,hi,hk=>by
  have:i=n:=by omega
  subst this
  obtain⟨k',rfl,_⟩:=bJ hk
  simp only [cM,dF (show¬(i:Int)<(i:Int) by omega),bQ]
 |t+1,i,k,hi,hk=>by
  obtain⟨k',rfl,hk'⟩:=bJ hk
  have h1:=aJB hl (n:=n) (i:=i) (by omega) hn hK n 0 K (by omega) hK
  simp only [Int.natCast_zero,yW] at h1
  have e3:sF (mx (gmd (v5==2) l n) i n) [mp (gmd (v5==2) l n i) n]=some (mx (gmd (v5==2) l n) (i+1) n):=apM (g:=fun r=>mp (gmd (v5==2) l n r) n) (by omega)
  have e4:=aJq (d:=v5==2) (l:=l) (show i<n by omega)
  have b1:Bd 12 (gm l n i i):=xW ((aJo hl hn i i).mono (by omega))
  have ih:=aJp hl (v5:=v5) hn hK t (i+1) k' (by omega) (by omega)
  simp only [cM,dT (show(i:Int)<(n:Int) by omega),bY,h1,oB,lY]
  cases hd:(v5==2) with
  |true=>
   rw [hd] at e3 e4 ih
   rw [if_pos rfl] at e4
   simp only [bY,jP (f:=gm l n i) (show i<n by omega),oB,aMq,aBn b1 aQc (by omega) (by omega),zP (f:=gm l n i) (show i<n by omega),e4,e3,uY (i:=i) (by omega)]
   exact ih
  |false=>
   rw [hd] at e3 e4 ih
   rw [if_neg (by decide)] at e4
   simp only [bQ,e4,e3,oB,uY (i:=i) (by omega)]
   exact ih
theorem aJt {l:List Int} (hl:aAU l) {n:Nat} {v5:Int} (hn:n≤6) {K:Nat} (hK:n<K):∀(t i k:Nat),i+t=n→t<k→cO K (n:Int) v5 (mx (mvn l) n n) k (mx (gmd (v5==2) l n) i n) (i:Int)=some (mx (gmd (v5==2) l n) n n)
 |0,i,k,hi,hk=>by
  have:i=n:=by omega
  subst this
  obtain⟨k',rfl,_⟩:=bJ hk
  simp only [cO,dF (show¬(i:Int)<(i:Int) by omega),bQ]
 |t+1,i,k,hi,hk=>by
  obtain⟨k',rfl,hk'⟩:=bJ hk
  have h1:=aJD hl (n:=n) (i:=i) (by omega) hn hK n 0 K (by omega) hK
  simp only [Int.natCast_zero,yW] at h1
  have e3:sF (mx (gmd (v5==2) l n) i n) [mp (gmd (v5==2) l n i) n]=some (mx (gmd (v5==2) l n) (i+1) n):=apM (g:=fun r=>mp (gmd (v5==2) l n r) n) (by omega)
  have e4:=aJq (d:=v5==2) (l:=l) (show i<n by omega)
  have b1:Bd 12 (gm l n i i):=xW ((aJo hl hn i i).mono (by omega))
  have ih:=aJt hl (v5:=v5) hn hK t (i+1) k' (by omega) (by omega)
  simp only [cO,dT (show(i:Int)<(n:Int) by omega),bY,h1,oB,lV]
  cases hd:(v5==2) with
  |true=>
   rw [hd] at e3 e4 ih
   rw [if_pos rfl] at e4
   simp only [bY,jP (f:=gm l n i) (show i<n by omega),oB,aMq,aBn b1 aQc (by omega) (by omega),zP (f:=gm l n i) (show i<n by omega),e4,e3,uY (i:=i) (by omega)]
   exact ih
  |false=>
   rw [hd] at e3 e4 ih
   rw [if_neg (by decide)] at e4
   simp only [bQ,e4,e3,oB,uY (i:=i) (by omega)]
   exact ih
theorem aQ3 {α:Type} {f:Nat→α} {n m:Nat} (h:m≤n):slL (mp f n) 0 (m:Int)=some (mp f m):=by
 unfold slL
 rw [if_pos ⟨by omega,by omega,by rw [bC];omega⟩]
 congr 1
 apply List.ext_getElem?
 intro j
 have e0:(0:Int).toNat=0:=rfl
 rw [e0,List.drop_zero,List.getElem?_take,Int.toNat_natCast,Nat.sub_zero]
 by_cases hj:j<m
 ·rw [if_pos hj,aAj (by omega),aAj hj]
 ·rw [if_neg hj,List.getElem?_eq_none (by rw [bC];omega)]
def PB6 (n:Nat) (M:Nat→Nat→Rat) (q:Nat→Rat):Prop:=(∀i c,i<n→c<n→dn 6 2 4000 (M i c))∧∀i,i<n→dn 6 2 4000 (q i)
theorem aIj {l:List Int} (hl:aAU l) {most:Nat} (hm:most≤6) (hm1:4≤most):∃(n:Nat) (M:Nat→Nat→Rat) (q:Nat→Rat),n≤most∧PB6 n M q∧∀K,100≤K→kR K l (most:Int)=some (mx M n n,mp q n):=by
 obtain⟨v,v1,v2,v3⟩:=aEw hl 0 (m:=((most+1:Nat):Int)) (by omega)
 obtain⟨w,w1,w2,w3⟩:=aEw hl 1 (m:=5) (by omega)
 obtain⟨n,rfl⟩:∃n:Nat,v=n:=⟨v.toNat,by omega⟩
 have e0:aR ((most:Int)+1)=some ((most+1:Nat):Int):=uY (by omega)
 have hq:∀i,dn 6 2 4000 (vw l i):=fun i=>aHW (aPQ hl i) (by omega)
 have hM:∀i c,dn 6 2 4000 (mvn l i c):=fun i c=>aHW (aGE hl i c) (by omega)
 have hF:∀K,100≤K→kR K l (most:Int)=cV K l (n:Int) w (mp (vw l) n) (mx (mvn l) n n):=fun K hK=>by
  have h1:=aMM hl (n:=n) (by omega) (K:=K) (by omega) n 0 K (by omega) (by omega)
  have z:mx (mvn l) 0 n=[]:=rfl
  simp only [Int.natCast_zero,yW,z] at h1
  simp only [kR,e0,oB,v1,w1,h1]
 have hG:∀K,100≤K→cM K (n:Int) w (mx (mvn l) n n) K [] 0=some (mx (gmd (w==2) l n) n n):=fun K hK=>by
  have h1:=aJp hl (n:=n) (v5:=w) (by omega) (K:=K) (by omega) n 0 K (by omega) (by omega)
  have z:mx (gmd (w==2) l n) 0 n=[]:=rfl
  simpa only [Int.natCast_zero,z] using h1
 have hG':∀K,100≤K→cO K (n:Int) w (mx (mvn l) n n) K [] 0=some (mx (gmd (w==2) l n) n n):=fun K hK=>by
  have h1:=aJt hl (n:=n) (v5:=w) (by omega) (K:=K) (by omega) n 0 K (by omega) (by omega)
  have z:mx (gmd (w==2) l n) 0 n=[]:=rfl
  simpa only [Int.natCast_zero,z] using h1
 by_cases c0:w=0
 ·exact⟨n,mvn l,vw l,by omega,⟨fun i c _ _=>hM i c,fun i _=>hq i⟩,fun K hK=>by rw [hF K hK];unfold cV;rw [qT c0,bY]⟩
 by_cases c1:n=0
 ·exact⟨n,mvn l,vw l,by omega,⟨fun i c _ _=>hM i c,fun i _=>hq i⟩,fun K hK=>by rw [hF K hK];unfold cV;rw [qF c0,bQ,qT (show(n:Int)=0 by omega),bY]⟩
 by_cases c4:w=4
 ·by_cases cn:4≤n
  ·obtain⟨m1,a1,a2,a3⟩:=aEw hl 2 (m:=4) (by omega)
   obtain⟨m2,b1,b2,b3⟩:=aEw hl 3 (m:=5) (by omega)
   obtain⟨mu,p1,p2⟩:=aB1 (p:=m1) (q:=2) (m:=3) (by omega) (by omega) (by omega) (by omega)
   obtain⟨c,r1,r2⟩:=aB1 (p:=m2-2) (q:=2) (m:=2) (by omega) (by omega) (by omega) (by omega)
   obtain⟨two,s1,s2⟩:=aB1 (p:=2) (q:=1) (m:=2) (by omega) (by omega) (by omega) (by omega)
   obtain⟨mi,t1,t2⟩:=aB1 (p:=-1) (q:=1) (m:=1) (by omega) (by omega) (by omega) (by omega)
   have d2:=aHW p2 (by omega)
   have d3:=aHW r2 (by omega)
   have d4:=aHW s2 (by omega)
   have d5:=aHW t2 (by omega)
   have d6:dn 6 2 4000 (1:Rat):=aGv.mono (by omega)
   have n1:=aDQ (xW d3) (by omega)
   have n2:=aDQ (xW d4) (by omega)
   have sl:slL (mp (vw l) n) 0 3=some (mp (vw l) 3):=aQ3 (m:=3) (by omega)
   have ap1:sF ([]:List Rat) (mp (vw l) 3)=some (mp (vw l) 3):=aAz (by rw [bC];simp)
   have ap2:sF (mp (vw l) 3) [(0:Rat)]=some (mp (nY (vw l) 3 0) 4):=by
    rw [apS (by rw [bC];omega),aDX (nY (vw l) 3 0) 3,bF,iD (f:=vw l) (g:=nY (vw l) 3 0) fun j hj=>(cN (by omega)).symm]
   refine⟨4,fun i j=>at' (([[two,c,-c,0],[c,two,-two,1],[-c,-two,two,1],[mu,mi,mi,0]]:List (List Rat)).getD i []) j,nY (vw l) 3 0,by omega,⟨fun i j hi hj=>?_,fun i hi=>?_⟩,fun K hK=>?_⟩
   ·obtain rfl|rfl|rfl|rfl:i=0∨i=1∨i=2∨i=3:=by omega
    all_goals
     obtain rfl|rfl|rfl|rfl:j=0∨j=1∨j=2∨j=3:=by omega
     all_goals first|exact d2|exact d3|exact d4|exact d5|exact d6|exact d3.neg|exact d4.neg|exact dn.zero
   ·by_cases e:i=3
    ·subst e;rw [bF];exact dn.zero
    ·rw [cN e];exact hq i
   ·rw [hF K hK]
    unfold cV
    rw [qF c0,bQ,qF (show¬(n:Int)=0 by omega),bQ,qT c4,bY,dT (show(4:Int)≤(n:Int) by omega),bY]
    simp only [aMq,oB,a1,p1,b1,oR (show -9223372036854775808≤m2-2∧m2-2≤9223372036854775807 by omega),r1,s1,t1,n1,n2,sl,ap1,ap2]
    rfl
  ·refine⟨n,gmd (w==2) l n,vw l,by omega,⟨fun i c _ _=>aLH hl (by omega) i c,fun i _=>hq i⟩,fun K hK=>?_⟩
   rw [hF K hK]
   unfold cV
   rw [qF c0,bQ,qF (show¬(n:Int)=0 by omega),bQ,qT c4,bY,dF (show¬(4:Int)≤(n:Int) by omega),bQ,hG' K hK,oB,lS]
 ·refine⟨n,gmd (w==2) l n,vw l,by omega,⟨fun i c _ _=>aLH hl (by omega) i c,fun i _=>hq i⟩,fun K hK=>?_⟩
  rw [hF K hK]
  unfold cV
  rw [qF c0,bQ,qF (show¬(n:Int)=0 by omega),bQ,qF c4,bQ,hG K hK,oB,lO]
theorem aIO {n:Nat} {M:Nat→Nat→Rat} {q:Nat→Rat} (h:PB6 n M q) (hn:n≤6):Sm n 200 (t9 M q n):=fun T b hT=>by
 have e:((6^2:Nat):Rat)=36:=rfl
 refine(hT.bd (D:=36) (M:=4000) (k:=200) (by decide+kernel) (fun i c hi hc=>?_) (by omega) ?_)
 ·have one:isZ 4000 ((1:Rat)*36):=⟨36,by decide+kernel,by decide⟩
  have neg:isZ 4000 ((-1:Rat)*36):=⟨-36,by decide+kernel,by decide⟩
  unfold t9
  split
  ·split
   ·exact one
   ·exact⟨0,by decide+kernel,by decide⟩
  ·split
   ·rw [←e];exact(h.1 i (c-n) hi (by omega)).neg
   ·split
    ·exact neg
    ·rw [←e];exact h.2 i hi
 ·exact Nat.lt_of_le_of_lt (Nat.pow_le_pow_right (by decide) hn) (by decide)
theorem aHU {n most:Nat}:∀(f:Nat) (T:Nat→Nat→Rat) (b:Nat→Nat) (r c cnt:Nat),(lem n most f T b r c cnt).2≠0→(lem n most f T b r c cnt).1=⟨[],[],0⟩∧((lem n most f T b r c cnt).2=15∨(lem n most f T b r c cnt).2=16)
 |0,T,b,r,c,cnt,h=>⟨rfl,Or.inr rfl⟩
 |f+1,T,b,r,c,cnt,h=>by
  unfold lem at h ⊢
  split at h
  ·rename_i h1;rw [if_pos h1];exact⟨rfl,Or.inr rfl⟩
  ·rename_i h1
   rw [if_neg h1]
   split at h
   ·exact absurd rfl h
   ·rename_i h2
    rw [if_neg h2]
    split at h
    ·exact⟨rfl,Or.inl rfl⟩
    ·exact aHU f _ _ _ _ _ h
theorem aKI {n most:Nat} {M:Nat→Nat→Rat} {q:Nat→Rat} (h:(zN M q n most).2≠0):(zN M q n most).1=⟨[],[],0⟩∧((zN M q n most).2=15∨(zN M q n most).2=16):=by
 unfold zN at h ⊢
 cases hneg:ng q n 0
 ·rw [hneg,bQ] at h;exact absurd rfl h
 ·rw [hneg,bY] at h;rw [bY];exact aHU _ _ _ _ _ _ h
theorem aFr {l:List Rat} {b:Nat} (hb:Bds b l) (hB:b≤1000000) (hl:l.length≤1000000) (K:Nat):∀(t i k:Nat),i+t=l.length→t<k→jB K l l k (i:Int)=some (.go ())
 |0,i,k,hi,hk=>by
  obtain⟨k',rfl,_⟩:=bJ hk
  simp only [jB,dF (show¬(i:Int)<(l.length:Int) by omega),bQ]
 |t+1,i,k,hi,hk=>by
  obtain⟨k',rfl,hk'⟩:=bJ hk
  have h1:=hb _ (aIB (l:=l) (i:=i) (by omega))
  simp only [jB,dT (show(i:Int)<(l.length:Int) by omega),bY,aPJ (l:=l) (i:=i) (by omega),oB,aL8 h1 h1 (by omega) (by omega),decide_true,Bool.not_true,bQ,uY (i:=i) (by omega)]
  exact aFr hb hB hl K t (i+1) k' (by omega) (by omega)
theorem aGo {l:List Rat} {b:Nat} (hb:Bds b l) (hB:b≤1000000) (hl:l.length≤1000000) {K:Nat} (hK:l.length<K):bX K l l=some true:=by
 have h1:=aFr hb hB hl K l.length 0 K (by omega) hK
 simp only [Int.natCast_zero] at h1
 simp only [bX,nF (rfl:(l.length:Int)=(l.length:Int)),bQ,h1,oB,pW]
end Go.Proofs.YtolfcbpgmfbgmaaGreat
set_option linter.unusedVariables false
namespace Go.Proofs.YtolfcbpgmfbgmaaGreat
set_option maxRecDepth 100000 in
theorem aNe (K:Nat):l4 (K+60)=some true:=by kernel_rfl
theorem aIt {K:Nat} (hK:60≤K):l4 K=some true:=by
 obtain⟨k,rfl⟩:=Nat.exists_eq_add_of_le hK
 rw [Nat.add_comm];exact aNe k
end Go.Proofs.YtolfcbpgmfbgmaaGreat
set_option linter.unusedVariables false
namespace Go.Proofs.YtolfcbpgmfbgmaaGreat
theorem aCT {w b B:Nat} (h:w*(b+1)≤B) (hw:0<w):b+1≤B:=Nat.le_trans (Nat.le_mul_of_pos_left (b+1) hw) h
theorem aMa {f:Nat→Rat} {w b:Nat} (hf:∀c,c<w→Bd b (f c)) (hB:w*(b+1)≤1000000000) (hw:w≤1000) (K:Nat):∀(t i k:Nat),i+t=w→t<k→Bd (1+i*(b+1)) (sm f i)→sU K (mp f w) k (sm f i) (i:Int)=some (sm f w)
 |0,i,k,hi,hk,ha=>by
  obtain⟨k',rfl,_⟩:=bJ hk
  have:i=w:=by omega
  subst this
  simp only [sU,bC,dF (show¬(i:Int)<(i:Int) by omega),bQ]
 |t+1,i,k,hi,hk,ha=>by
  obtain⟨k',rfl,_⟩:=bJ hk
  have hx:=hf i (by omega)
  have hb:=aCT hB (by omega)
  have hib:i*(b+1)≤w*(b+1):=Nat.mul_le_mul_right _ (by omega)
  have hs:1+i*(b+1)+b+1=1+(i+1)*(b+1):=by rw [Nat.add_mul];omega
  simp only [sU,bC,dT (show(i:Int)<(w:Int) by omega),bY,jP (f:=f) (show i<w by omega),oB,aBn ha hx (by omega) (by omega),uY (i:=i) (by omega)]
  exact aMa hf hB hw K t (i+1) k' (by omega) (by omega) (by simp only [sm];exact(ha.add hx).mono (by omega))
theorem aFw {f e:Nat→Rat} {w b b':Nat} (hf:∀c,c<w→Bd b (f c)) (he:∀c,c<w→Bd b' (e c)) (hB:w*(b+b'+1)≤1000000000) (hw:w≤1000) (K:Nat):∀(t i k:Nat),i+t=w→t<k→qY K (mp f w) (mp e w) k (mp (fun c=>f c*e c) i) (i:Int)=some (mp (fun c=>f c*e c) w)
 |0,i,k,hi,hk=>by
  obtain⟨k',rfl,_⟩:=bJ hk
  have:i=w:=by omega
  subst this
  simp only [qY,bC,Int.min_self,dF (show¬(i:Int)<(i:Int) by omega),bQ]
 |t+1,i,k,hi,hk=>by
  obtain⟨k',rfl,_⟩:=bJ hk
  have hb:=aCT hB (by omega)
  simp only [qY,bC,Int.min_self,dT (show(i:Int)<(w:Int) by omega),bY,jP (f:=f) (show i<w by omega),jP (f:=e) (show i<w by omega),oB,aDL (hf i (by omega)) (he i (by omega)) (by omega) (by omega),apM (g:=fun c=>f c*e c) (i:=i) (by omega),uY (i:=i) (by omega)]
  exact aFw hf he hB hw K t (i+1) k' (by omega) (by omega)
theorem aLQ {f e:Nat→Rat} {w b b':Nat} (hf:∀c,c<w→Bd b (f c)) (he:∀c,c<w→Bd b' (e c)) (hB:w*(b+b'+1)≤1000000000) (hw:w≤1000) {K:Nat} (hK:w<K):wD K (mp f w) (mp e w)=some (sm (fun c=>f c*e c) w):=by
 have h1:=aFw hf he hB hw K w 0 K (by omega) hK
 have h2:=aMa (f:=fun c=>f c*e c) (b:=b+b') (fun c hc=>(hf c hc).mul (he c hc)) hB hw K w 0 K (by omega) hK (Bd.zero.mono (by omega))
 simp only [Int.natCast_zero,yW,sm] at h1 h2
 simp only [wD,h1,oB,wG,aBD,h2,xG]
end Go.Proofs.YtolfcbpgmfbgmaaGreat
set_option linter.unusedVariables false
namespace Go.Proofs.YtolfcbpgmfbgmaaGreat
def wvl (M:Nat→Nat→Rat) (q z:Nat→Rat) (n i:Nat):Rat:=sm (fun c=>M i c*z c) n+q i
def aEH (z w:Nat→Rat):Nat→Nat→Bool
 |0,_=>true
 |t+1,i=>bif decide (0<(z i).num.sign) then(bif((w i).num.sign != 0) then false else aEH z w t (i+1)) else aEH z w t (i+1)
def ckb (M:Nat→Nat→Rat) (q z:Nat→Rat) (n:Nat):Bool:=bif ng z n 0 then false else(bif aEH z (wvl M q z n) n 0 then !(ng (wvl M q z n) n 0) else false)
theorem aIK {M:Nat→Nat→Rat} {q z:Nat→Rat} {n B B':Nat} (hM:zY n n B M) (hq:∀i,i<n→Bd B (q i)) (hz:∀i,i<n→Bd B' (z i)) (hn:n≤8) (hB:8*(B+B'+1)≤1000000000) {K:Nat} (hK:100≤K):∀(t i k:Nat) (f:Nat→Rat),i+t=n→t<k→(∀j,j<i→f j=wvl M q z n j)→gX K (mx M n n) (mp q n) (mp z n) k (mp f n) (i:Int)=some (mp (wvl M q z n) n)
 |0,i,k,f,hi,hk,hf=>by
  obtain⟨k',rfl,_⟩:=bJ hk
  simp only [gX,rM,dF (show¬(i:Int)<(n:Int) by omega),bQ]
  rw [iD fun j hj=>hf j (by omega)]
 |t+1,i,k,f,hi,hk,hf=>by
  obtain⟨k',rfl,_⟩:=bJ hk
  have hnB:n*(B+B'+1)≤1000000000:=Nat.le_trans (Nat.mul_le_mul_right _ hn) hB
  have d:=aLQ (f:=M i) (e:=z) (w:=n) (fun c hc=>hM i c (by omega) hc) hz hnB (by omega) (show n<K by omega)
  have db:=aJV (f:=M i) (e:=z) (w:=n) (fun c hc=>hM i c (by omega) hc) hz n (Nat.le_refl n)
  simp only [gX,rM,dT (show(i:Int)<(n:Int) by omega),bY,aAl (g:=M) (w:=n) (show i<n by omega),oB,d,jP (f:=q) (show i<n by omega),aBn db (hq i (by omega)) (by omega) (by omega),jP (f:=f) (show i<n by omega),zP (f:=f) (show i<n by omega),uY (i:=i) (by omega)]
  exact aIK hM hq hz hn hB hK t (i+1) k' _ (by omega) (by omega) (fun j hj=>by
   by_cases e:j=i
   ·rw [e,bF];rfl
   ·rw [cN e];exact hf j (by omega))
theorem aJa {z w:Nat→Rat} {n B B':Nat} (hz:∀i,i<n→Bd B (z i)) (hw:∀i,i<n→Bd B' (w i)) (hB:B≤1073741824) (hB':B'≤1073741824) (hn:n≤1000) (K:Nat):∀(t i k:Nat),i+t=n→t<k→f8 K (mp z n) (mp w n) k (i:Int)=some (bif aEH z w t i then .go () else .ret false)
 |0,i,k,hi,hk=>by
  obtain⟨k',rfl,_⟩:=bJ hk
  simp only [f8,bC,dF (show¬(i:Int)<(n:Int) by omega),bQ,aEH,bY]
 |t+1,i,k,hi,hk=>by
  obtain⟨k',rfl,_⟩:=bJ hk
  have ih:=aJa hz hw hB hB' hn K t (i+1) k' (by omega) (by omega)
  simp only [f8,bC,dT (show(i:Int)<(n:Int) by omega),bY,jP (f:=z) (show i<n by omega),jP (f:=w) (show i<n by omega),oB,y0 (hz i (by omega)) hB,y0 (hw i (by omega)) hB',uY (i:=i) (by omega),aEH]
  cases decide (0<(z i).num.sign) with
  |true=>
   simp only [bY]
   cases((w i).num.sign != 0) with
   |true=>simp only [bY,bQ]
   |false=>simp only [bQ];exact ih
  |false=>simp only [bQ];exact ih
theorem aIn {M:Nat→Nat→Rat} {q z:Nat→Rat} {n B B':Nat} (hM:zY n n B M) (hq:∀i,i<n→Bd B (q i)) (hz:∀i,i<n→Bd B' (z i)) (hn:n≤8) (hB:8*(B+B'+1)≤100000000) {K:Nat} (hK:100≤K):mR K (mx M n n) (mp q n) (mp z n)=some (ckb M q z n):=by
 have v:=aBx hM hq (by omega) (by omega) hK
 have g:=aA5 (wW hz) (by omega) (show(mp z n).length≤1000 by rw [bC];omega) (show(mp z n).length<K by rw [bC];omega)
 have ngz:=(aH3 hz (by omega) (show n≤1000 by omega) (show n<K by omega)).1
 have hw:∀i,i<n→Bd (200000000+B) (wvl M q z n i):=fun i hi=>by
  have hnB:n*(B+B'+1)≤100000000:=Nat.le_trans (Nat.mul_le_mul_right _ hn) hB
  have db:=aJV (f:=M i) (e:=z) (w:=n) (fun c hc=>hM i c (by omega) hc) hz n (Nat.le_refl n)
  exact(db.add (hq i hi)).mono (by omega)
 have ngw:=(aH3 hw (by omega) (show n≤1000 by omega) (show n<K by omega)).1
 have l26:=aIK hM hq hz hn (by omega) hK n 0 K (fun _=>0) (by omega) (by omega) (fun j hj=>absurd hj (by omega))
 have l15:=aJa hz hw (by omega) (by omega) (show n≤1000 by omega) K n 0 K (by omega) (by omega)
 simp only [Int.natCast_zero] at l26 l15
 simp only [mR,v,oB,Bool.not_true,bQ,bC,nF (rfl:(n:Int)=(n:Int)),g,ngz,ckb]
 cases ng z n 0 with
 |true=>simp only [bY]
 |false=>
  simp only [bQ,rH,bC,aIv (n:=n) (z:=(0:Rat)) (by omega),oB,l26,nZ,l15]
  cases aEH z (wvl M q z n) n 0 with
  |true=>simp only [bY,oQ,ngw,oB]
  |false=>simp only [bQ]
end Go.Proofs.YtolfcbpgmfbgmaaGreat
set_option linter.unusedVariables false
namespace Go.Proofs.YtolfcbpgmfbgmaaGreat
theorem aLV {X:List (List aE)} (hX:X.length≤1000) (hr:∀r∈X,r.length≤1000) (K:Nat):∀(t i k:Nat),i+t=X.length→t<k→cS K X k (mp id i) (X.take i) (i:Int)=some (mp id X.length,X)
 |0,i,k,hi,hk=>by
  obtain⟨k',rfl,_⟩:=bJ hk
  have:i=X.length:=by omega
  subst this
  simp only [cS,dF (show¬(X.length:Int)<(X.length:Int) by omega),bQ,List.take_length]
 |t+1,i,k,hi,hk=>by
  obtain⟨k',rfl,_⟩:=bJ hk
  have hi':i<X.length:=by omega
  have r1:bN X (i:Int)=some X[i]:=rdG (List.getElem?_eq_getElem hi')
  have hl:=hr _ (List.getElem_mem hi')
  have a1:sF ([]:List aE) X[i]=some X[i]:=aAz (by simp;omega)
  have tl:(X.take i).length=i:=by rw [List.length_take];omega
  have a2:sF (mp id i) [i]=some (mp id (i+1)):=apM (g:=id) (by omega)
  have e:X.take i++[X[i]]=X.take (i+1):=by rw [List.take_append_getElem hi']
  simp only [cS,dT (show(i:Int)<(X.length:Int) by omega),bY,r1,oB,a1,tl,a2,uY (i:=i) (by omega),e]
  exact aLV hX hr K t (i+1) k' (by omega) (by omega)
theorem aPG {X:List (List aE)}:yP X (mp id X.length)=X:=by
 unfold yP mp
 apply List.ext_getElem?
 intro j
 simp only [List.map_map,List.getElem?_map]
 by_cases hj:j<X.length
 ·simp [hj]
 ·rw [List.getElem?_eq_none (by simp;omega),List.getElem?_eq_none (by omega)];rfl
theorem aG1 {vld:aE→Bool} {l:List aE} {K:Nat} (h:∀x∈l,iY K x=some (vld x)) (hl:l.length≤1000):∀(t i k:Nat),i+t=l.length→t<k→gE K l k (i:Int)=some (if(l.drop i).all vld=true then .go () else .ret false)
 |0,i,k,hi,hk=>by
  obtain⟨k',rfl,_⟩:=bJ hk
  simp only [gE,dF (show¬(i:Int)<(l.length:Int) by omega),bQ]
  rw [List.drop_eq_nil_of_le (by omega)];rfl
 |t+1,i,k,hi,hk=>by
  obtain⟨k',rfl,_⟩:=bJ hk
  have hi':i<l.length:=by omega
  have ih:=aG1 h hl t (i+1) k' (by omega) (by omega)
  have d1:l.drop i=l[i]::l.drop (i+1):=List.drop_eq_getElem_cons hi'
  have r1:bN l (i:Int)=some l[i]:=rdG (List.getElem?_eq_getElem hi')
  simp only [gE,dT (show(i:Int)<(l.length:Int) by omega),bY,r1,oB,h _ (List.getElem_mem hi'),uY (i:=i) (by omega)]
  rw [d1,List.all_cons]
  cases vld l[i] with
  |true=>simp only [Bool.not_true,bQ,Bool.true_and];exact ih
  |false=>simp only [Bool.not_false,bY,Bool.false_and,Bool.false_eq_true,if_false]
theorem aHu {vld:aE→Bool} {l:List aE} {K:Nat} (h:∀x∈l,iY K x=some (vld x)) (hl:l.length≤1000) (hK:l.length<K):kQ K l=some (l.all vld):=by
 have e:=aG1 h hl l.length 0 K (by omega) hK
 simp only [Int.natCast_zero,List.drop_zero] at e
 simp only [kQ,e,oB]
 cases l.all vld with
 |true=>simp only [if_true,mX]
 |false=>simp only [Bool.false_eq_true,if_false]
theorem aFP {vld:aE→Bool} {l:List aE} {K:Nat} (h:∀x∈l,bT K x=some (vld x)) (hl:l.length≤1000):∀(t i k:Nat),i+t=l.length→t<k→fP K l k (i:Int)=some (if(l.drop i).all vld=true then .go () else .ret false)
 |0,i,k,hi,hk=>by
  obtain⟨k',rfl,_⟩:=bJ hk
  simp only [fP,dF (show¬(i:Int)<(l.length:Int) by omega),bQ]
  rw [List.drop_eq_nil_of_le (by omega)];rfl
 |t+1,i,k,hi,hk=>by
  obtain⟨k',rfl,_⟩:=bJ hk
  have hi':i<l.length:=by omega
  have ih:=aFP h hl t (i+1) k' (by omega) (by omega)
  have d1:l.drop i=l[i]::l.drop (i+1):=List.drop_eq_getElem_cons hi'
  have r1:bN l (i:Int)=some l[i]:=rdG (List.getElem?_eq_getElem hi')
  simp only [fP,dT (show(i:Int)<(l.length:Int) by omega),bY,r1,oB,h _ (List.getElem_mem hi'),uY (i:=i) (by omega)]
  rw [d1,List.all_cons]
  cases vld l[i] with
  |true=>simp only [Bool.not_true,bQ,Bool.true_and];exact ih
  |false=>simp only [Bool.not_false,bY,Bool.false_and,Bool.false_eq_true,if_false]
theorem aFe {vld:aE→Bool} {l:List aE} {K:Nat} (h:∀x∈l,bT K x=some (vld x)) (hl:l.length≤1000) (hK:l.length<K):jZ K l=some (l.all vld):=by
 have e:=aFP h hl l.length 0 K (by omega) hK
 simp only [Int.natCast_zero,List.drop_zero] at e
 simp only [jZ,e,oB]
 cases l.all vld with
 |true=>simp only [if_true,l9]
 |false=>simp only [Bool.false_eq_true,if_false]
theorem aFH {vld:aE→Bool} {X:List (List aE)} {Y:List aE} {n K:Nat} (h:∀r∈X,∀x∈r,iY K x=some (vld x)) (hr:∀r∈X,r.length=n) (hY:Y.length=n) (hX:X.length≤1000) (hn:n≤1000) (hK:n<K):∀(t i k:Nat),i+t=X.length→t<k→fT K X Y k (i:Int)=some (if(X.drop i).all (fun r=>r.all vld)=true then .go () else .ret false)
 |0,i,k,hi,hk=>by
  obtain⟨k',rfl,_⟩:=bJ hk
  simp only [fT,dF (show¬(i:Int)<(X.length:Int) by omega),bQ]
  rw [List.drop_eq_nil_of_le (by omega)];rfl
 |t+1,i,k,hi,hk=>by
  obtain⟨k',rfl,_⟩:=bJ hk
  have hi':i<X.length:=by omega
  have ih:=aFH h hr hY hX hn hK t (i+1) k' (by omega) (by omega)
  have d1:X.drop i=X[i]::X.drop (i+1):=List.drop_eq_getElem_cons hi'
  have r1:bN X (i:Int)=some X[i]:=rdG (List.getElem?_eq_getElem hi')
  have hm:=List.getElem_mem hi'
  have hl:=hr _ hm
  have g:=aHu (h _ hm) (show X[i].length≤1000 by omega) (show X[i].length<K by omega)
  simp only [fT,dT (show(i:Int)<(X.length:Int) by omega),bY,r1,oB,hl,hY,nF (rfl:(n:Int)=(n:Int)),bQ,g,uY (i:=i) (by omega)]
  rw [d1,List.all_cons]
  cases X[i].all vld with
  |true=>simp only [Bool.not_true,bQ,Bool.true_and];exact ih
  |false=>simp only [Bool.not_false,bY,Bool.false_and,Bool.false_eq_true,if_false]
theorem aKr {vld:aE→Bool} {X:List (List aE)} {Y:List aE} {n K:Nat} (h:∀r∈X,∀x∈r,iY K x=some (vld x)) (hy:∀x∈Y,iY K x=some (vld x)) (hr:∀r∈X,r.length=n) (hX:X.length=n) (hY:Y.length=n) (hn:n≤32) (hK:n<K):fX K X Y=some (Y.all vld&&X.all (fun r=>r.all vld)):=by
 have l8:=aFH h hr hY (by omega) (by omega) hK X.length 0 K (by omega) (by omega)
 have g:=aHu hy (show Y.length≤1000 by omega) (show Y.length<K by omega)
 simp only [Int.natCast_zero,List.drop_zero] at l8
 simp only [fX,hX,hY,nF (rfl:(n:Int)=(n:Int)),bQ,dF (show¬(32:Int)<(n:Int) by omega),g,oB]
 cases Y.all vld with
 |false=>simp only [Bool.not_false,bY,Bool.false_and]
 |true=>
  simp only [Bool.not_true,bQ,l8,oB,Bool.true_and]
  cases X.all (fun r=>r.all vld) with
  |true=>simp only [if_true,mE]
  |false=>simp only [Bool.false_eq_true,if_false]
theorem aFB {vld:aE→Bool} {X:List (List aE)} {Y:List aE} {n K:Nat} (h:∀r∈X,∀x∈r,bT K x=some (vld x)) (hr:∀r∈X,r.length=n) (hY:Y.length=n) (hX:X.length≤1000) (hn:n≤1000) (hK:n<K):∀(t i k:Nat),i+t=X.length→t<k→eN K X Y k (i:Int)=some (if(X.drop i).all (fun r=>r.all vld)=true then .go () else .ret false)
 |0,i,k,hi,hk=>by
  obtain⟨k',rfl,_⟩:=bJ hk
  simp only [eN,dF (show¬(i:Int)<(X.length:Int) by omega),bQ]
  rw [List.drop_eq_nil_of_le (by omega)];rfl
 |t+1,i,k,hi,hk=>by
  obtain⟨k',rfl,_⟩:=bJ hk
  have hi':i<X.length:=by omega
  have ih:=aFB h hr hY hX hn hK t (i+1) k' (by omega) (by omega)
  have d1:X.drop i=X[i]::X.drop (i+1):=List.drop_eq_getElem_cons hi'
  have r1:bN X (i:Int)=some X[i]:=rdG (List.getElem?_eq_getElem hi')
  have hm:=List.getElem_mem hi'
  have hl:=hr _ hm
  have g:=aFe (h _ hm) (show X[i].length≤1000 by omega) (show X[i].length<K by omega)
  simp only [eN,dT (show(i:Int)<(X.length:Int) by omega),bY,r1,oB,hl,hY,nF (rfl:(n:Int)=(n:Int)),bQ,g,uY (i:=i) (by omega)]
  rw [d1,List.all_cons]
  cases X[i].all vld with
  |true=>simp only [Bool.not_true,bQ,Bool.true_and];exact ih
  |false=>simp only [Bool.not_false,bY,Bool.false_and,Bool.false_eq_true,if_false]
theorem aKg {vld:aE→Bool} {X:List (List aE)} {Y:List aE} {n K:Nat} (h:∀r∈X,∀x∈r,bT K x=some (vld x)) (hy:∀x∈Y,bT K x=some (vld x)) (hr:∀r∈X,r.length=n) (hX:X.length=n) (hY:Y.length=n) (hn:n≤32) (hK:n<K):fC K X Y=some (Y.all vld&&X.all (fun r=>r.all vld)):=by
 have l8:=aFB h hr hY (by omega) (by omega) hK X.length 0 K (by omega) (by omega)
 have g:=aFe hy (show Y.length≤1000 by omega) (show Y.length<K by omega)
 simp only [Int.natCast_zero,List.drop_zero] at l8
 simp only [fC,hX,hY,nF (rfl:(n:Int)=(n:Int)),bQ,dF (show¬(32:Int)<(n:Int) by omega),g,oB]
 cases Y.all vld with
 |false=>simp only [Bool.not_false,bY,Bool.false_and]
 |true=>
  simp only [Bool.not_true,bQ,l8,oB,Bool.true_and]
  cases X.all (fun r=>r.all vld) with
  |true=>simp only [if_true,lL]
  |false=>simp only [Bool.false_eq_true,if_false]
theorem aBS {X:List (List aE)} {Y:List aE} {n:Int} {K:Nat} (hu:aDH X=none∨aDK Y=none) (hv:fX K X Y=some false):eG K X Y n=some (⟨[],[],0⟩,1):=by
 have hr:kA K X Y n=some (⟨[],[],0⟩,1):=by
  simp only [kA,hv,oB,Bool.not_false,bY]
 unfold eG
 split
 ·rename_i M q h1 h2
  rcases hu with h|h
  ·rw [h] at h1;cases h1
  ·rw [h] at h2;cases h2
 ·rw [hr,oB,if_pos rfl]
theorem aA7 {X:List (List aE)} {Y:List aE} {n:Int} {K:Nat} (hu:aDH X=none∨aDK Y=none) (hv:fC K X Y=some false):dQ K X Y n=some (⟨[],[],0⟩,1):=by
 have hr:jL K X Y n=some (⟨[],[],0⟩,1):=by
  simp only [jL,hv,oB,Bool.not_false,bY]
 unfold dQ
 split
 ·rename_i M q h1 h2
  rcases hu with h|h
  ·rw [h] at h1;cases h1
  ·rw [h] at h2;cases h2
 ·rw [hr,oB,if_pos rfl]
theorem wO {M:List (List Rat)} {q:List Rat} {n:Int} {K:Nat}:eG K (M.map (List.map Qr)) (q.map Qr) n=cP K M q n:=by
 unfold eG
 rw [aHF,aHJ]
theorem vX {M:List (List Rat)} {q:List Rat} {n:Int} {K:Nat}:dQ K (M.map (List.map Qr)) (q.map Qr) n=eA K M q n:=by
 unfold dQ
 rw [aHF,aHJ]
theorem aIc {α β:Type} {f:α→Nat→Option β} {v:α→β}:∀(l:List α),(∀x∈l,Ev (f x) (v x))→∃K0,∀K,K0≤K→∀x∈l,f x K=some (v x)
 |[],_=>⟨0,fun K _ x hx=>absurd hx List.not_mem_nil⟩
 |y::l,h=>by
  obtain⟨k1,h1⟩:=h y List.mem_cons_self
  obtain⟨k2,h2⟩:=aIc l fun x hx=>h x (List.mem_cons_of_mem _ hx)
  refine⟨k1+k2,fun K hK x hx=>?_⟩
  rcases List.mem_cons.1 hx with rfl|hx
  ·exact h1 K (by omega)
  ·exact h2 K (by omega) x hx
open Classical in
noncomputable def aBX (x:aE):Bool:=decide (∃a:Rat,x=Qr a)
open Classical in
theorem aG9 (a:Rat):aBX (Qr a)=true:=decide_eq_true ⟨a,rfl⟩
open Classical in
theorem aDp {x:aE} (h:∀a:Rat,x≠Qr a):aBX x=false:=decide_eq_false fun⟨a,e⟩=>h a e
end Go.Proofs.YtolfcbpgmfbgmaaGreat
set_option linter.unusedVariables false
namespace Go.Proofs.YtolfcbpgmfbgmaaGreat
theorem aGN {α:Type} {g:Nat→α} {n:Nat} {x:α} (h:x∈mp g n):∃i,i<n∧x=g i:=by
 obtain⟨i,hi,he⟩:=List.mem_map.1 h
 exact⟨i,List.mem_range.1 hi,he.symm⟩
def lnB (X:List (List Rat)) (n:Nat):Bool:=X.all fun r=>decide (r.length=n)
theorem aFj {X:List (List Rat)} {Y:List Rat} {B:Nat} (hX:∀r∈X,Bds B r∧r.length≤1000) (hB:B≤1073741824) (hl:X.length≤1000) {K:Nat} (hK:1001≤K):∀(t i k:Nat),i+t=X.length→t<k→dR K X Y k (i:Int)=some (if lnB (X.drop i) Y.length=true then .go () else .ret false)
 |0,i,k,hi,hk=>by
  obtain⟨k',rfl,_⟩:=bJ hk
  simp only [dR,dF (show¬(i:Int)<(X.length:Int) by omega),bQ]
  rw [List.drop_eq_nil_of_le (by omega)];rfl
 |t+1,i,k,hi,hk=>by
  obtain⟨k',rfl,_⟩:=bJ hk
  have hi':i<X.length:=by omega
  have ih:=aFj (Y:=Y) hX hB hl hK t (i+1) k' (by omega) (by omega)
  have d1:X.drop i=X[i]::X.drop (i+1):=List.drop_eq_getElem_cons hi'
  have r1:bN X (i:Int)=some X[i]:=rdG (List.getElem?_eq_getElem hi')
  obtain⟨o1,o2⟩:=hX _ (List.getElem_mem hi')
  have g:=aA5 o1 hB o2 (show X[i].length<K by omega)
  simp only [dR,dT (show(i:Int)<(X.length:Int) by omega),bY,r1,oB,g,Bool.not_true,bQ,uY (i:=i) (by omega)]
  rw [d1]
  unfold lnB at ih ⊢
  rw [List.all_cons]
  by_cases e:X[i].length=Y.length
  ·rw [decide_eq_true e,Bool.true_and,nF (by omega),bQ];exact ih
  ·rw [decide_eq_false e,Bool.false_and,nT (by omega),bY];rfl
theorem aEQ {X:List (List Rat)} {Y:List Rat} {B:Nat} (hX:∀r∈X,Bds B r∧r.length≤1000) (hB:B≤1073741824) (hl:X.length≤1000) {K:Nat} (hK:1001≤K):∀(t i k:Nat),i+t=X.length→t<k→dH K X Y k (i:Int)=some (if lnB (X.drop i) Y.length=true then .go () else .ret false)
 |0,i,k,hi,hk=>by
  obtain⟨k',rfl,_⟩:=bJ hk
  simp only [dH,dF (show¬(i:Int)<(X.length:Int) by omega),bQ]
  rw [List.drop_eq_nil_of_le (by omega)];rfl
 |t+1,i,k,hi,hk=>by
  obtain⟨k',rfl,_⟩:=bJ hk
  have hi':i<X.length:=by omega
  have ih:=aEQ (Y:=Y) hX hB hl hK t (i+1) k' (by omega) (by omega)
  have d1:X.drop i=X[i]::X.drop (i+1):=List.drop_eq_getElem_cons hi'
  have r1:bN X (i:Int)=some X[i]:=rdG (List.getElem?_eq_getElem hi')
  obtain⟨o1,o2⟩:=hX _ (List.getElem_mem hi')
  have g:=aBr o1 hB o2 (show X[i].length<K by omega)
  simp only [dH,dT (show(i:Int)<(X.length:Int) by omega),bY,r1,oB,g,Bool.not_true,bQ,uY (i:=i) (by omega)]
  rw [d1]
  unfold lnB at ih ⊢
  rw [List.all_cons]
  by_cases e:X[i].length=Y.length
  ·rw [decide_eq_true e,Bool.true_and,nF (by omega),bQ];exact ih
  ·rw [decide_eq_false e,Bool.false_and,nT (by omega),bY];rfl
theorem aBE {X:List (List Rat)} {Y:List Rat} {B:Nat} (hX:∀r∈X,Bds B r∧r.length≤1000) (hY:Bds B Y) (hB:B≤1073741824) (hl:X.length≤30) (hl2:Y.length≤30) (hbad:X.length≠Y.length∨∃r∈X,r.length≠Y.length) {K:Nat} (hK:1001≤K):dS K X Y=some false∧gQ K X Y=some false:=by
 by_cases e:X.length=Y.length
 ·have hb:lnB X Y.length=false:=by
   rcases hbad with h|⟨r,h1,h2⟩
   ·exact absurd e h
   ·cases hc:lnB X Y.length with
    |false=>rfl
    |true=>exact absurd (of_decide_eq_true (List.all_eq_true.1 hc r h1)) h2
  have l1:=aFj (Y:=Y) hX hB (by omega) hK X.length 0 K (by omega) (by omega)
  have l2:=aEQ (Y:=Y) hX hB (by omega) hK X.length 0 K (by omega) (by omega)
  have g1:=aA5 hY hB (show Y.length≤1000 by omega) (show Y.length<K by omega)
  have g2:=aBr hY hB (show Y.length≤1000 by omega) (show Y.length<K by omega)
  rw [List.drop_zero,hb,if_neg (by decide),Int.natCast_zero] at l1 l2
  constructor
  ·simp only [dS,nF (show(X.length:Int)=(Y.length:Int) by omega),bQ,dF (show¬(32:Int)<(X.length:Int) by omega),g1,oB,Bool.not_true,l1]
  ·simp only [gQ,nF (show(X.length:Int)=(Y.length:Int) by omega),bQ,dF (show¬(32:Int)<(Y.length:Int) by omega),g2,oB,Bool.not_true,l2]
 ·constructor
  ·simp only [dS,nT (show(X.length:Int)≠(Y.length:Int) by omega),bY]
  ·simp only [gQ,nT (show(X.length:Int)≠(Y.length:Int) by omega),bY]
theorem aIT {X:List (List aE)} {Y:List aE} {n:Nat} (hr:∀r∈X,r.length=n) (hX:X.length=n) (hY:Y.length=n) (hn:n≤32) (ok:∀x,x∈X.flatten++Y→(∃a,x=Qr a∧qs a=true)∨(Ev (fun K=>iY K x) false∧Ev (fun K=>bT K x) false∧∀a,x≠Qr a)) (hb:∃x,x∈X.flatten++Y∧∀a,x≠Qr a):(aDH X=none∨aDK Y=none)∧∃K0,∀K,K0≤K→fX K X Y=some false∧fC K X Y=some false:=by
 obtain⟨x,x1,x2⟩:=hb
 have hx:=List.mem_append.1 x1
 constructor
 ·rcases hx with h|h
  ·refine Or.inl (aKN fun l hl=>?_)
   obtain⟨r,r1,r2⟩:=List.mem_flatten.1 h
   rw [hl] at r1
   obtain⟨r0,_,rfl⟩:=List.mem_map.1 r1
   obtain⟨a,_,ha⟩:=List.mem_map.1 r2
   exact x2 a ha.symm
  ·refine Or.inr (aKe fun l hl=>?_)
   rw [hl] at h
   obtain⟨a,_,ha⟩:=List.mem_map.1 h
   exact x2 a ha.symm
 ·obtain⟨k1,h1⟩:=aIc (f:=fun x K=>iY K x) (v:=aBX) (X.flatten++Y) fun x hx=>by
   rcases ok x hx with⟨a,rfl,ha⟩|⟨e1,_,e3⟩
   ·rw [aG9];exact aFx ha
   ·rw [aDp e3];exact e1
  obtain⟨k2,h2⟩:=aIc (f:=fun x K=>bT K x) (v:=aBX) (X.flatten++Y) fun x hx=>by
   rcases ok x hx with⟨a,rfl,ha⟩|⟨_,e2,e3⟩
   ·rw [aG9];exact aD3 ha
   ·rw [aDp e3];exact e2
  have hall:(Y.all aBX&&X.all (fun r=>r.all aBX))=false:=by
   have hf:=aDp x2
   cases hc:(Y.all aBX&&X.all (fun r=>r.all aBX)) with
   |false=>rfl
   |true=>
    rw [Bool.and_eq_true,List.all_eq_true,List.all_eq_true] at hc
    rcases hx with h|h
    ·obtain⟨r,r1,r2⟩:=List.mem_flatten.1 h
     have:=List.all_eq_true.1 (hc.2 r r1) x r2
     rw [hf] at this;cases this
    ·have:=hc.1 x h
     rw [hf] at this;cases this
  refine⟨k1+k2+n+1,fun K hK=>?_⟩
  have m1:∀r∈X,∀x∈r,x∈X.flatten++Y:=fun r hr x hx=>List.mem_append_left _ (List.mem_flatten.2 ⟨r,hr,hx⟩)
  have m2:∀x∈Y,x∈X.flatten++Y:=fun x hx=>List.mem_append_right _ hx
  rw [aKr (vld:=aBX) (fun r hr x hx=>h1 K (by omega) x (m1 r hr x hx)) (fun x hx=>h1 K (by omega) x (m2 x hx)) hr hX hY hn (by omega),aKg (vld:=aBX) (fun r hr x hx=>h2 K (by omega) x (m1 r hr x hx)) (fun x hx=>h2 K (by omega) x (m2 x hx)) hr hX hY hn (by omega),hall]
  exact⟨rfl,rfl⟩
def aQB (K:Nat) (X:List (List aE)) (Y:List aE):Prop:=
 (∃(M:List (List Rat)) (q:List Rat),X=M.map (List.map Qr)∧Y=q.map Qr∧dS K M q=some false∧gQ K M q=some false)∨
 ((aDH X=none∨aDK Y=none)∧fX K X Y=some false∧fC K X Y=some false)
noncomputable def rwX (M:Nat→Nat→Rat) (n:Nat):List (List aE):=(mx M n n).map (List.map Qr)
theorem uK {M:Nat→Nat→Rat} {n:Nat}:(rwX M n).length=n:=by unfold rwX;rw [List.length_map,rM]
theorem aDP {M:Nat→Nat→Rat} {n:Nat} {r:List aE} (h:r∈rwX M n):r.length=n∧∀x∈r,∃i c,i<n∧c<n∧x=Qr (M i c):=by
 obtain⟨r0,h1,rfl⟩:=List.mem_map.1 h
 unfold mx at h1
 obtain⟨i,hi,rfl⟩:=aGN h1
 refine⟨by rw [List.length_map,bC],fun x hx=>?_⟩
 obtain⟨a,ha,rfl⟩:=List.mem_map.1 hx
 obtain⟨c,hc,rfl⟩:=aGN ha
 exact⟨i,c,hi,hc,rfl⟩
theorem aGA {M:Nat→Nat→Rat} {n i:Nat} (hi:i<n):(rwX M n).getD i []=(mp (M i) n).map Qr:=by
 unfold rwX mx
 rw [List.getD_eq_getElem?_getD,List.getElem?_map,aAj hi];rfl
theorem aFT {x:Rat} (h:dn 6 2 4000 x):qs x=true:=(xW h).qs (by decide)
theorem aJd {X:List (List aE)} {n:Nat} (h:X.length=n):yP X (mp id n)=X:=by rw [←h];exact aPG
theorem rdQ {l:List Rat} {i:Nat} (h:i<l.length):bN (l.map Qr) (i:Int)=some (Qr (at' l i)):=by
 refine rdG ?_
 rw [List.getElem?_map,List.getElem?_eq_getElem h]
 show some (Qr l[i])=some (Qr (at' l i))
 unfold at';rw [List.getD_eq_getElem?_getD,List.getElem?_eq_getElem h];rfl
theorem stQ {α:Type} {l:List α} {i:Nat} {v:α} (h:i<l.length):pT l (i:Int) v=some (l.set i v):=stG h
theorem slQ {α:Type} {l:List α} {i:Nat} (h:i≤l.length):slL l 0 (i:Int)=some (l.take i):=by
 unfold slL
 rw [if_pos ⟨by omega,by omega,by omega⟩]
 show some ((l.drop 0).take ((i:Int).toNat-0))=_
 rw [List.drop_zero];rfl
theorem aKK {M:Nat→Nat→Rat} {q:Nat→Rat} {n:Nat} {how b:Int} (hP:PB6 n M q) (hn:n≤6) (h1:I64 how) (h2:I64 b):∃X Y K0,(∀K,K0≤K→mY K (mx M n n) (mp q n) how b=some (X,Y))∧((∃M',PB6 n M' q∧X=(mx M' n n).map (List.map Qr)∧Y=(mp q n).map Qr)∨∀K,K0≤K→aQB K X Y):=by
 have hMb:∀i c,i<n→c<n→Bd 12 (M i c):=fun i c hi hc=>xW (hP.1 i c hi hc)
 have hqb:∀i,i<n→Bd 12 (q i):=fun i hi=>xW (hP.2 i hi)
 have l43:∀K,n<K→cS K (rwX M n) K ([]:List Nat) ([]:List (List aE)) 0=some (mp id n,rwX M n):=fun K hK=>by
  have:=aLV (X:=rwX M n) (by rw [uK];omega) (fun r hr=>by rw [(aDP hr).1];omega) K n 0 K (by rw [uK];omega) hK
  rw [uK] at this
  exact this
 have qlen:((mp q n).map Qr).length=n:=by rw [List.length_map,bC]
 have a1:sF ([]:List aE) ((mp q n).map Qr)=some ((mp q n).map Qr):=aAz (by rw [qlen];simp;omega)
 have hX0:∀r∈mx M n n,Bds 12 r∧r.length=n:=fun r hr=>by
  unfold mx at hr
  obtain⟨i,hi,rfl⟩:=aGN hr
  exact⟨wW fun c hc=>hMb i c hi hc,bC _ _⟩
 have hY0:Bds 12 (mp q n):=wW hqb
 by_cases h0:n=0
 ·subst h0
  refine⟨[[]],[],1001,fun K hK=>?_,Or.inr fun K hK=>Or.inl ⟨[[]],[],rfl,rfl,aBE (B:=12) (fun r hr=>?_) (fun x hx=>absurd hx List.not_mem_nil) (by omega) (by simp) (by simp) (Or.inl (by simp)) hK⟩⟩
  ·show gD K (rwX M 0) _ _ _=_
   have e0:yP (rwX M 0) (mp id 0)=[]:=rfl
   have e1:((mp id 0:List Nat).length:Int)=0:=rfl
   simp only [gD,l43 K (by omega),oB,iL,a1,e1,qT (rfl:(0:Int)=0),bY,e0]
   rfl
  ·rw [List.mem_singleton.1 hr];exact⟨fun x hx=>absurd hx List.not_mem_nil,by simp⟩
 obtain⟨i,i1,i2,i3⟩:=u7 (x:=b) h2 (m:=(n:Int)) (by omega)
 obtain⟨i,rfl⟩:∃k:Nat,i=k:=⟨i.toNat,by omega⟩
 obtain⟨b7,b71,b72⟩:=aJk h2 (show(2:Int)≤7 by omega)
 obtain⟨c,c1,c2,c3⟩:=u7 (x:=b7) b72 (m:=(n:Int)) (by omega)
 obtain⟨c,rfl⟩:∃k:Nat,c=k:=⟨c.toNat,by omega⟩
 obtain⟨w,w1,w2,w3⟩:=u7 (x:=how) h1 (m:=6) (by omega)
 have hi:i<n:=by omega
 have hc:c<n:=by omega
 have rowl:((mp (M i) n).map Qr).length=n:=by rw [List.length_map,bC]
 have yT:yP (rwX M n) (mp id n)=rwX M n:=aJd uK
 have hF:∀K,n<K→mY K (mx M n n) (mp q n) how b=bif(w==0) then((slL (rwX M n) 0 (i:Int)).bind fun x76=>some (x76,(mp q n).map Qr)) else(bif(w==1) then((bN (rwX M n) (i:Int)).bind fun v80=>(slL v80 0 (c:Int)).bind fun x82=>(bN (rwX M n) (i:Int)).bind fun v84=>(pT (rwX M n) (i:Int) x82).bind fun x86=>some (x86,(mp q n).map Qr)) else(bif(w==2) then((sF ((mp q n).map Qr) [(⟨(⟨false,([]:List Int)⟩:aB),(⟨false,([]:List Int)⟩:aB)⟩:aE)]).bind fun x90=>some (rwX M n,x90)) else(bif(w==3) then some ((rwX M n).set i (((mp (M i) n).map Qr).set c ⟨(Qr (M i c)).p,⟨true,(Qr (M i c)).q.d⟩⟩),(mp q n).map Qr) else(bif(w==4) then some (rwX M n,((mp q n).map Qr).set i ⟨⟨(Qr (q i)).p.neg,(Qr (q i)).p.d++[0]⟩,(Qr (q i)).q⟩) else((cC b 9).bind fun v137=>(aR (v137-4)).bind fun v139=>(mL K v139 1).bind fun v141=>some ((rwX M n).set i (((mp (M i) n).map Qr).set c v141),(mp q n).map Qr)))))):=fun K hK=>by
  have e0:bN (mp id n) (i:Int)=some i:=jP (f:=id) hi
  have e1:at' (mp (M i) n) c=M i c:=aNW hc
  have e2:at' (mp q n) i=q i:=aNW hi
  have r1:=rdQ (l:=mp (M i) n) (i:=c) (by rw [bC];exact hc)
  have r2:=rdQ (l:=mp q n) (i:=i) (by rw [bC];exact hi)
  rw [e1] at r1
  rw [e2] at r2
  have dl8:(Qr (q i)).p.d.length≤9000000000000:=(aOd (aFT (hP.2 i hi))).1
  have dl9:(Qr (q i)).p.d.length≤40000000:=by rw [Qp,Z_d];exact(rE (aFT (hP.2 i hi))).1
  have ad:sF ([]:List Int) (Qr (q i)).p.d=some (Qr (q i)).p.d:=aAz (by simp;omega)
  have ad0:sF (Qr (q i)).p.d [0]=some ((Qr (q i)).p.d++[0]):=aAz (by simp;omega)
  have sl:∀v,((rwX M n).set i v).length=n:=fun v=>by rw [List.length_set,uK]
  show gD K (rwX M n) _ _ _=_
  simp only [gD,l43 K hK,oB,iL,a1,bC,qF (show¬(n:Int)=0 by omega),bQ,i1,b71,e0,aGA hi,rowl,c1,w1,yT,r1,stQ (l:=(mp (M i) n).map Qr) (i:=c) (by rw [rowl];exact hc),aJd (sl _),r2,ad,ad0,stQ (l:=(mp q n).map Qr) (i:=i) (by rw [qlen];exact hi)]
 have rdi:bN (rwX M n) (i:Int)=some ((mp (M i) n).map Qr):=by
  refine rdG ?_
  have:=aGA (M:=M) hi
  rw [List.getD_eq_getElem?_getD] at this
  have hlt:i<(rwX M n).length:=by rw [uK];exact hi
  rw [List.getElem?_eq_getElem hlt] at this ⊢
  exact congrArg some this
 have okX:∀r∈rwX M n,∀x∈r,∃a,x=Qr a∧qs a=true:=fun r hr x hx=>by
  obtain⟨i,c,hi,hc,rfl⟩:=(aDP hr).2 x hx
  exact⟨_,rfl,aFT (hP.1 i c hi hc)⟩
 have okY:∀x∈(mp q n).map Qr,∃a,x=Qr a∧qs a=true:=fun x hx=>by
  obtain⟨a,ha,rfl⟩:=List.mem_map.1 hx
  obtain⟨j,hj,rfl⟩:=aGN ha
  exact⟨_,rfl,aFT (hP.2 j hj)⟩
 by_cases w0:w=0
 ·refine⟨(rwX M n).take i,(mp q n).map Qr,1001,fun K hK=>?_,Or.inr fun K hK=>Or.inl ⟨(mx M n n).take i,mp q n,?_,rfl,aBE (B:=12) (fun r hr=>?_) hY0 (by omega) ?_ ?_ (Or.inl ?_) hK⟩⟩
  ·rw [hF K (by omega),qT w0,bY,slQ (by rw [uK];omega),oB]
  ·unfold rwX;rw [List.map_take]
  ·have:=hX0 r (List.mem_of_mem_take hr);exact⟨this.1,by omega⟩
  ·rw [List.length_take,rM];omega
  ·rw [bC];omega
  ·rw [List.length_take,rM,bC];omega
 by_cases w1':w=1
 ·refine⟨(rwX M n).set i (((mp (M i) n).map Qr).take c),(mp q n).map Qr,1001,fun K hK=>?_,Or.inr fun K hK=>Or.inl ⟨(mx M n n).set i ((mp (M i) n).take c),mp q n,?_,rfl,aBE (B:=12) (fun r hr=>?_) hY0 (by omega) ?_ ?_ (Or.inr ⟨(mp (M i) n).take c,?_,?_⟩) hK⟩⟩
  ·rw [hF K (by omega),qF w0,bQ,qT w1',bY,rdi,oB,slQ (by rw [rowl];omega),oB,oB,stQ (by rw [uK];exact hi),oB]
  ·unfold rwX;rw [List.map_set,List.map_take]
  ·rcases List.mem_or_eq_of_mem_set hr with h|h
   ·have:=hX0 r h;exact⟨this.1,by omega⟩
   ·rw [h];exact⟨fun x hx=>(wW fun c hc=>hMb i c hi hc) x (List.mem_of_mem_take hx),by rw [List.length_take,bC];omega⟩
  ·rw [List.length_set,rM];omega
  ·rw [bC];omega
  ·exact List.mem_set (by rw [rM];exact hi) _
  ·rw [List.length_take,bC,bC];omega
 by_cases w2':w=2
 ·refine⟨rwX M n,(mp q n++[0]).map Qr,1001,fun K hK=>?_,Or.inr fun K hK=>Or.inl ⟨mx M n n,mp q n++[0],rfl,rfl,aBE (B:=12) (fun r hr=>?_) (hY0.snoc (Bd.zero.mono (by omega))) (by omega) ?_ ?_ (Or.inl ?_) hK⟩⟩
  ·rw [hF K (by omega),qF w0,bQ,qF w1',bQ,qT w2',bY,aAz (by rw [qlen];simp;omega),oB,List.map_append,←Qr0];rfl
  ·have:=hX0 r hr;exact⟨this.1,by omega⟩
  ·rw [rM];omega
  ·rw [List.length_append,bC];simp;omega
  ·rw [rM,List.length_append,bC];simp
 by_cases w3':w=3
 ·have nf:∀a,(⟨(Qr (M i c)).p,⟨true,(Qr (M i c)).q.d⟩⟩:aE)≠Qr a:=fun a=>aKZ
  have qa:=aFT (hP.1 i c hi hc)
  have v1:=aKk qa
  have v2:=aIG qa
  generalize hbad:(⟨(Qr (M i c)).p,⟨true,(Qr (M i c)).q.d⟩⟩:aE)=bad at *
  have hb:=aIT (X:=(rwX M n).set i (((mp (M i) n).map Qr).set c bad)) (Y:=(mp q n).map Qr) (n:=n) (fun r hr=>by
    rcases List.mem_or_eq_of_mem_set hr with h|h
    ·exact(aDP h).1
    ·rw [h,List.length_set,rowl]) (by rw [List.length_set,uK]) qlen (by omega) (fun x hx=>by
    rcases List.mem_append.1 hx with h|h
    ·obtain⟨r,r1,r2⟩:=List.mem_flatten.1 h
     rcases List.mem_or_eq_of_mem_set r1 with h|h
     ·exact Or.inl (okX r h x r2)
     ·rw [h] at r2
      rcases List.mem_or_eq_of_mem_set r2 with h|h
      ·refine Or.inl (okX _ ?_ x h)
       have:=aGA (M:=M) hi
       rw [←this,List.getD_eq_getElem?_getD,List.getElem?_eq_getElem (by rw [uK];exact hi)]
       exact List.getElem_mem _
      ·rw [h];exact Or.inr ⟨v1,v2,nf⟩
    ·exact Or.inl (okY x h)) ⟨bad,List.mem_append_left _ (List.mem_flatten.2 ⟨_,List.mem_set (by rw [uK];exact hi) _,List.mem_set (by rw [rowl];exact hc) _⟩),nf⟩
  obtain⟨u,K0,hv⟩:=hb
  refine⟨(rwX M n).set i (((mp (M i) n).map Qr).set c bad),(mp q n).map Qr,K0+1001,fun K hK=>?_,Or.inr fun K hK=>Or.inr ⟨u,hv K (by omega)⟩⟩
  rw [hF K (by omega),qF w0,bQ,qF w1',bQ,qF w2',bQ,qT w3',bY]
 by_cases w4':w=4
 ·have nf:∀a,(⟨⟨(Qr (q i)).p.neg,(Qr (q i)).p.d++[0]⟩,(Qr (q i)).q⟩:aE)≠Qr a:=fun a=>aKy
  have qa:=aFT (hP.2 i hi)
  have v1:=aIf qa
  have v2:=aHX qa
  generalize hbad:(⟨⟨(Qr (q i)).p.neg,(Qr (q i)).p.d++[0]⟩,(Qr (q i)).q⟩:aE)=bad at *
  have hb:=aIT (X:=rwX M n) (Y:=((mp q n).map Qr).set i bad) (n:=n) (fun r hr=>(aDP hr).1) uK (by rw [List.length_set,qlen]) (by omega) (fun x hx=>by
    rcases List.mem_append.1 hx with h|h
    ·obtain⟨r,r1,r2⟩:=List.mem_flatten.1 h
     exact Or.inl (okX r r1 x r2)
    ·rcases List.mem_or_eq_of_mem_set h with h|h
     ·exact Or.inl (okY x h)
     ·rw [h];exact Or.inr ⟨v1,v2,nf⟩) ⟨bad,List.mem_append_right _ (List.mem_set (by rw [qlen];exact hi) _),nf⟩
  obtain⟨u,K0,hv⟩:=hb
  refine⟨rwX M n,((mp q n).map Qr).set i bad,K0+1001,fun K hK=>?_,Or.inr fun K hK=>Or.inr ⟨u,hv K (by omega)⟩⟩
  rw [hF K (by omega),qF w0,bQ,qF w1',bQ,qF w2',bQ,qF w3',bQ,qT w4',bY]
 ·obtain⟨v,y1,y2,y3⟩:=u7 (x:=b) h2 (m:=9) (by omega)
  obtain⟨r,r1,r2⟩:=aB1 (p:=v-4) (q:=1) (m:=4) (by omega) (by omega) (by omega) (by omega)
  obtain⟨_,_,r3⟩:=aMw r1
  obtain⟨K0,hK0⟩:=aJZ (p:=v-4) (q:=1) (by omega) (by omega)
  refine⟨(rwX M n).set i (((mp (M i) n).map Qr).set c (Qr r)),(mp q n).map Qr,K0+1001,fun K hK=>?_,Or.inl ⟨fun a=>if a=i then nY (M i) c r else M a,⟨fun a d ha hd=>?_,hP.2⟩,?_,rfl⟩⟩
  ·have hz:=hK0 K (by omega)
   rw [hF K (by omega),qF w0,bQ,qF w1',bQ,qF w2',bQ,qF w3',bQ,qF w4',bQ,y1,oB,oR (by omega),oB]
   have:mL K (v-4) 1=some (Qr r):=by rw [r3];exact hz
   rw [this,oB]
  ·by_cases e:a=i
   ·simp only [e,if_true]
    by_cases e2:d=c
    ·rw [e2,bF];exact aHW r2 (by omega)
    ·rw [cN e2];exact hP.1 i d hi hd
   ·simp only [e,if_false];exact hP.1 a d ha hd
  ·have e1:((mp (M i) n).map Qr).set c (Qr r)=(mp (nY (M i) c r) n).map Qr:=by rw [←List.map_set,aIq]
   have e2:mx (fun a=>if a=i then nY (M i) c r else M a) n n=(mx M n n).set i (mp (nY (M i) c r) n):=by
    show mp (fun a=>mp ((fun a=>if a=i then nY (M i) c r else M a) a) n) n=(mp (fun a=>mp (M a) n) n).set i (mp (nY (M i) c r) n)
    rw [aIq]
    refine iD fun a _=>?_
    by_cases e:a=i
    ·rw [e,bF];simp only [if_true]
    ·rw [cN e];simp only [e,if_false]
   rw [e1,e2,List.map_set];rfl
end Go.Proofs.YtolfcbpgmfbgmaaGreat
set_option linter.unusedVariables false
namespace Go.Proofs.YtolfcbpgmfbgmaaGreat
theorem aKo {X:List (List aE)} {Y:List aE} {K:Nat} (h:aQB K X Y) (m:Int):eG K X Y m=some (⟨[],[],0⟩,1)∧dQ K X Y m=some (⟨[],[],0⟩,1):=by
 rcases h with⟨M,q,rfl,rfl,h1,h2⟩|⟨h0,h1,h2⟩
 ·rw [wO,vX]
  constructor
  ·simp only [cP,h1,oB,Bool.not_false,bY]
  ·simp only [eA,h2,oB,Bool.not_false,bY]
 ·exact⟨aBS h0 h1,aA7 h0 h2⟩
theorem aLW {f:Nat→Rat} {n:Nat} (h:∀i,i<n→0≤f i):ng f n 0=false:=by
 cases hc:ng f n 0 with
 |false=>rfl
 |true=>
  obtain⟨k,_,k2,k3⟩:=aLt n 0 hc
  exact absurd (h k (by omega)) (Rat.not_le.2 k3)
theorem aE1 {z w:Nat→Rat}:∀t i,aEH z w t i=true↔∀k,i≤k→k<i+t→¬0<z k∨w k=0
 |0,i=>⟨fun _ k h1 h2=>by omega,fun _=>rfl⟩
 |t+1,i=>by
  unfold aEH
  have ih:=aE1 (z:=z) (w:=w) t (i+1)
  have key:∀(p:Prop),(p→(aEH z w t (i+1)=true↔∀k,i≤k→k<i+(t+1)→¬0<z k∨w k=0))→True:=fun _ _=>trivial
  by_cases hz:0<z i
  ·rw [decide_eq_true (aMS.2 hz),bY]
   by_cases hw:w i=0
   ·rw [nF (aNw.2 hw),bQ,ih]
    constructor
    ·intro h k k1 k2
     by_cases e:k=i
     ·rw [e];exact Or.inr hw
     ·exact h k (by omega) (by omega)
    ·intro h k k1 k2;exact h k (by omega) (by omega)
   ·rw [nT (fun h=>hw (aNw.1 h)),bY]
    constructor
    ·intro h;cases h
    ·intro h
     rcases h i (Nat.le_refl _) (by omega) with h|h
     ·exact absurd hz h
     ·exact absurd h hw
  ·rw [decide_eq_false (fun h=>hz (aMS.1 h)),bQ,ih]
   constructor
   ·intro h k k1 k2
    by_cases e:k=i
    ·rw [e];exact Or.inl hz
    ·exact h k (by omega) (by omega)
   ·intro h k k1 k2;exact h k (by omega) (by omega)
theorem aM4 {M:Nat→Nat→Rat} {q z:Nat→Rat} {n:Nat}:ckb M q z n=true↔Sol M q n z (wvl M q z n):=by
 unfold ckb
 constructor
 ·intro h
  cases h1:ng z n 0 with
  |true=>rw [h1,bY] at h;cases h
  |false=>
   rw [h1,bQ] at h
   cases h2:aEH z (wvl M q z n) n 0 with
   |false=>rw [h2,bQ] at h;cases h
   |true=>
    rw [h2,bY] at h
    cases h3:ng (wvl M q z n) n 0 with
    |true=>rw [h3] at h;cases h
    |false=>
     have z1:∀j,j<n→0≤z j:=fun j hj=>aGl n 0 h1 j (Nat.zero_le _) (by omega)
     refine⟨z1,fun j hj=>aGl n 0 h3 j (Nat.zero_le _) (by omega),fun i hi=>rfl,fun j hj=>?_⟩
     rcases(aE1 n 0).1 h2 j (Nat.zero_le _) (by omega) with h|h
     ·left
      have:=z1 j hj
      have h':=Rat.not_lt.1 h
      exact Rat.le_antisymm h' this
     ·right;exact h
 ·intro h
  rw [aLW h.z0,bQ,(aE1 n 0).2 fun k _ k2=>?_,bY,aLW h.w0];rfl
  rcases h.zw k (by omega) with h|h
  ·left;rw [h];exact Rat.lt_irrefl
  ·right;exact h
theorem Sol.wis {M:Nat→Nat→Rat} {q z w:Nat→Rat} {n:Nat} (h:Sol M q n z w):Sol M q n z (wvl M q z n):=
 ⟨h.z0,fun j hj=>by have:=h.w0 j hj;rw [h.eq j hj] at this;exact this,fun i hi=>rfl,fun j hj=>by
  rcases h.zw j hj with e|e
  ·exact Or.inl e
  ·rw [h.eq j hj] at e;exact Or.inr e⟩
theorem aNo {M:Nat→Nat→Rat} {q z w:Nat→Rat} {n:Nat} (h:Sol M q n z w):ckb M q z n=true:=aM4.2 h.wis
theorem aPD {M:Nat→Nat→Rat} {q z:Nat→Rat} {n B B' m:Nat} (hM:zY n n B M) (hq:∀i,i<n→Bd B (q i)) (hz:∀i,i<n→Bd B' (z i)) (hm:1+n*(B+B'+1)+B+1≤m):∀i,i<n→Bd m (wvl M q z n i):=fun i hi=>
 ((aJV (f:=M i) (e:=z) (w:=n) (fun c hc=>hM i c hi hc) hz n (Nat.le_refl n)).add (hq i hi)).mono (by omega)
theorem aOz {M:Nat→Nat→Rat} {q z:Nat→Rat} {n B:Nat} (hM:zY n n B M) (hq:∀i,i<n→Bd B (q i)) (hz:∀i,i<n→Bd B (z i)) (hn:n≤8) (hB:B≤1000000) {K:Nat} (hK:100≤K):∀(t i k:Nat),i+t=n→t<k→kE K (mx M n n) (mp q n) (mp z n) k (mp (wvl M q z n) i) (i:Int)=some (mp (wvl M q z n) n)
 |0,i,k,hi,hk=>by
  obtain⟨k',rfl,_⟩:=bJ hk
  have:i=n:=by omega
  subst this
  simp only [kE,bC,dF (show¬(i:Int)<(i:Int) by omega),bQ]
 |t+1,i,k,hi,hk=>by
  obtain⟨k',rfl,_⟩:=bJ hk
  obtain⟨d1,d2⟩:=aLf (f:=M i) (e:=z) (w:=n) (fun c hc=>hM i c (by omega) hc) hz hB (by omega) (show n<K by omega)
  have hnB:n*(B+B+1)≤8*2000001:=Nat.mul_le_mul hn (by omega)
  have e1:q i+sm (fun c=>M i c*z c) n=wvl M q z n i:=by unfold wvl;rw [Rat.add_comm]
  simp only [kE,bC,dT (show(i:Int)<(n:Int) by omega),bY,aAl (g:=M) (w:=n) (show i<n by omega),oB,d2,jP (f:=q) (show i<n by omega),aBn (hq i (by omega)) d1 (by omega) (by omega),e1,apM (g:=wvl M q z n) (show i≤1000000 by omega),uY (i:=i) (by omega)]
  exact aOz hM hq hz hn hB hK t (i+1) k' (by omega) (by omega)
theorem W_ok {M:Nat→Nat→Rat} {q z:Nat→Rat} {n B:Nat} (hM:zY n n B M) (hq:∀i,i<n→Bd B (q i)) (hz:∀i,i<n→Bd B (z i)) (hn:n≤8) (hB:B≤1000000) {K:Nat} (hK:100≤K):sV K (mx M n n) (mp q n) (mp z n)=some (mp (wvl M q z n) n):=by
 have h:=aOz hM hq hz hn hB hK n 0 K (by omega) (by omega)
 simp only [Int.natCast_zero,yW] at h
 simp only [sV,h,oB,rJ]
def aBN (M:Nat→Nat→Rat) (q:Nat→Rat) (n:Nat) (N:Int):aF×Int:=if N<0 then(⟨[],[],0⟩,1) else zN M q n N.toNat
theorem aI5 {M:Nat→Nat→Rat} {q:Nat→Rat} {n:Nat} (hP:PB6 n M q) (hn:n≤6) {N:Int} (h1:-1≤N) (h2:N≤800) {K:Nat} (hK:6000≤K):cP K (mx M n n) (mp q n) N=some (aBN M q n N)∧eA K (mx M n n) (mp q n) N=some (aBN M q n N):=by
 have hM:zY n n 200 M:=fun i c hi hc=>(xW (hP.1 i c hi hc)).mono (by omega)
 have hq:∀i,i<n→Bd 200 (q i):=fun i hi=>(xW (hP.2 i hi)).mono (by omega)
 unfold aBN
 by_cases hN:N<0
 ·rw [if_pos hN]
  constructor
  ·simp only [cP,aBx hM hq (by omega) (show n≤32 by omega) (show 100≤K by omega),oB,Bool.not_true,bQ,dT hN,bY]
  ·simp only [eA,aCd hM hq (by omega) (show n≤32 by omega) (show 100≤K by omega),oB,Bool.not_true,bQ,dT hN,bY]
 ·rw [if_neg hN]
  obtain⟨m,rfl⟩:∃m:Nat,N=m:=⟨N.toNat,by omega⟩
  exact aKm (most:=m) hM hq (aIO hP hn) (by omega) (by omega) (by omega) (by omega) (by omega)
theorem aI4 {M:Nat→Nat→Rat} {q:Nat→Rat} {n:Nat} (hP:PB6 n M q) (hn:n≤6) (N:Int):((aBN M q n N).2≠0∧(aBN M q n N).1=⟨[],[],0⟩)∨((aBN M q n N).2=0∧∃z w,(aBN M q n N).1.z=mp z n∧(aBN M q n N).1.w=mp w n∧Sol M q n z w∧(∀i,i<n→Bd 200 (z i))∧(∀i,i<n→Bd 3000 (w i))):=by
 have hM:zY n n 200 M:=fun i c hi hc=>(xW (hP.1 i c hi hc)).mono (by omega)
 have hq:∀i,i<n→Bd 200 (q i):=fun i hi=>(xW (hP.2 i hi)).mono (by omega)
 unfold aBN
 by_cases hN:N<0
 ·rw [if_pos hN];exact Or.inl ⟨by decide,rfl⟩
 ·rw [if_neg hN]
  by_cases h0:(zN M q n N.toNat).2=0
  ·right
   refine⟨h0,?_⟩
   obtain⟨z,w,e1,e2,hs⟩:=aKU h0
   obtain⟨z1,z2⟩:=aPg (aIO hP hn) (by omega) h0
   have zb:∀i,i<n→Bd 200 (z i):=fun i hi=>by
    have h:=z2 (z i) (by rw [e1];exact List.mem_map.2 ⟨i,List.mem_range.2 hi,rfl⟩)
    exact h
   have h6:n*(200+200+1)≤6*401:=Nat.mul_le_mul hn (by omega)
   have wb:=aPD (m:=3000) hM hq zb (by omega)
   exact⟨z,w,e1,e2,hs,zb,fun i hi=>by rw [hs.eq i hi];exact wb i hi⟩
  ·exact Or.inl ⟨h0,(aKI h0).1⟩
theorem aFc {M:Nat→Nat→Rat} {q:Nat→Rat} {n:Nat} (hP:PB6 n M q) (hn:n≤6) (N:Int) {K:Nat} (hK:100≤K):bX K (aBN M q n N).1.z (aBN M q n N).1.z=some true∧bX K (aBN M q n N).1.w (aBN M q n N).1.w=some true:=by
 rcases aI4 hP hn N with⟨_,h⟩|⟨_,z,w,e1,e2,_,zb,wb⟩
 ·rw [h]
  have:=aGo (l:=[]) (b:=1) (fun x hx=>absurd hx List.not_mem_nil) (by omega) (by simp) (K:=K) (by show 0<K;omega)
  exact⟨this,this⟩
 ·rw [e1,e2]
  exact⟨aGo (wW zb) (by omega) (by rw [bC];omega) (by rw [bC];omega),aGo (wW wb) (by omega) (by rw [bC];omega) (by rw [bC];omega)⟩
theorem aAP {a0:List Int} {a1 a2 a3:Int} (h0:aAU a0) (h1:I64 a1) (h2:I64 a2) (h3:I64 a3):∃K,jY K a0 a1 a2 a3=some true:=by
 obtain⟨n,M,q,hn,hP,hF⟩:=aIj h0 (most:=6) (by omega) (by omega)
 obtain⟨X,Y,K0,hS,hXY⟩:=aKK hP hn h2 h3
 refine⟨K0+6000,?_⟩
 have hF':=hF (K0+6000) (by omega)
 have s6:((6:Nat):Int)=6:=rfl
 rw [s6] at hF'
 obtain⟨r,r1,r2,r3⟩:=u7 (x:=a1) h1 (m:=8) (by omega)
 obtain⟨s,s1,s2⟩:=aJk h1 (show(2:Int)≤8 by omega)
 obtain⟨u,u1,u2,u3⟩:=u7 (x:=s) s2 (m:=3) (by omega)
 obtain⟨N,N1,N2,N3⟩:∃N:Int,bN [800,800,r-1] u=some N∧-1≤N∧N≤800:=by
  obtain rfl|rfl|rfl:u=0∨u=1∨u=2:=by omega
  ·exact⟨800,rfl,by omega,by omega⟩
  ·exact⟨800,rfl,by omega,by omega⟩
  ·exact⟨r-1,rfl,by omega,by omega⟩
 have hb:=aI5 hP hn N2 N3 (show 6000≤K0+6000 by omega)
 have hs:=aFc hP hn N (show 100≤K0+6000 by omega)
 have hL:=aIt (K:=K0+6000) (by omega)
 obtain⟨R,R1,R2,R3,R4⟩:∃R,eG (K0+6000) X Y N=some R∧dQ (K0+6000) X Y N=some R∧bX (K0+6000) R.1.z R.1.z=some true∧bX (K0+6000) R.1.w R.1.w=some true:=by
  rcases hXY with⟨M',hP',rfl,rfl⟩|hbad
  ·have hb':=aI5 hP' hn N2 N3 (show 6000≤K0+6000 by omega)
   have hs':=aFc hP' hn N (show 100≤K0+6000 by omega)
   exact⟨aBN M' q n N,by rw [wO];exact hb'.1,by rw [vX];exact hb'.2,hs'.1,hs'.2⟩
  ·obtain⟨b1,b2⟩:=aKo (hbad (K0+6000) (by omega)) N
   have:=aGo (l:=[]) (b:=1) (fun x hx=>absurd hx List.not_mem_nil) (by omega) (by simp) (K:=K0+6000) (by show 0<K0+6000;omega)
   exact⟨_,b1,b2,this,this⟩
 simp only [jY,hF',oB,hS _ (show K0≤K0+6000 by omega),r1,oR (show -9223372036854775808≤r-1∧r-1≤9223372036854775807 by omega),s1,u1,N1,hb.1,hb.2,R1,R2,nF (rfl:(aBN M q n N).2=_),nF (rfl:R.2=_),bQ,hs.1,hs.2,R3,R4,Bool.not_true,nF (rfl:(aBN M q n N).1.pivots=_),nF (rfl:R.1.pivots=_)]
 rcases aI4 hP hn N with⟨h,_⟩|⟨h,z,w,e1,e2,hsol,zb,wb⟩
 ·simp only [nT h,bY,hL,oB]
 ·have hM:zY n n 200 M:=fun i c hi hc=>(xW (hP.1 i c hi hc)).mono (by omega)
  have hq:∀i,i<n→Bd 200 (q i):=fun i hi=>(xW (hP.2 i hi)).mono (by omega)
  have ck:=aIn (K:=K0+6000) hM hq zb (show n≤8 by omega) (by omega) (by omega)
  have hw:=W_ok (K:=K0+6000) hM hq zb (show n≤8 by omega) (by omega) (by omega)
  have e3:mp (wvl M q z n) n=mp w n:=iD fun i hi=>(hsol.eq i hi).symm
  have hs2:=hs.2
  rw [e2] at hs2
  simp only [nF h,bQ,e1,e2,ck,aNo hsol,oB,bY,hw,e3,hs2,hL]
end Go.Proofs.YtolfcbpgmfbgmaaGreat
