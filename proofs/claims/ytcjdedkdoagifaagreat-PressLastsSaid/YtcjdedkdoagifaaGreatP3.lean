/- What the program's functions on digits compute: minus, compare, two, unsigned, Of, Add. -/
import Derived.Test.YtcjdedkdoagifaaGreatP2
import Derived.IntWalk
set_option linter.unusedVariables false
namespace Go.Proofs.YtcjdedkdoagifaaGreat
theorem dT {p:Prop} [Decidable p] (h:p):decide p=true:=decide_eq_true h
theorem dF {p:Prop} [Decidable p] (h:¬p):decide p=false:=decide_eq_false h
theorem nT {x y:Int} (h:x≠y):(x != y)=true:=bne_iff_ne.2 h
theorem nF {x y:Int} (h:x=y):(x != y)=false:=by subst h;exact bne_self_eq_false x
theorem qT {x y:Int} (h:x=y):(x==y)=true:=beq_iff_eq.2 h
theorem qF {x y:Int} (h:x≠y):(x==y)=false:=beq_false_of_ne h
theorem aEf {u:List Int} {k n:Nat} {v:Int} (h:k<n) (hl:k<u.length):W (u.set k v) 0 n=W u 0 n+(v-u.getD k 0)*PB k:=by
 obtain⟨c,rfl⟩:=Nat.exists_eq_add_of_le h
 rw [rO,rO,dS,dS,Nat.zero_add,d8 hl,sF (.inr (by omega)),sF (.inl (by omega))]
 grind
theorem aFl {n:Nat} {a:List Int} (h:n=a.length):zC (List.replicate n 0) a=a:=by
 subst h;simp [zC]
theorem yK {a b x1:List Int} (ha:jB a) (hb:jB b) (hbl:b.length≤a.length) (hv:vD b≤vD a) (hL:a.length≤9000000000000) (hx:(zC x1 a).length=a.length):∀(t i:Nat) (out:List Int),i+t=a.length→out.length=a.length→Dr out 0 i→
  (∀s,i<s→out.getD s 0=a.getD s 0)→a.getD i 0-1≤out.getD i 0→out.getD i 0≤a.getD i 0→W out 0 a.length+W b 0 i=vD a→
  ∃r,r.length=a.length∧jB r∧vD r=vD a-vD b∧∀K k,t<k→eA K a b x1 k out (i:Int)=some r
 |0,i,out,hi,ho,hD,hs,h1,h2,hW=>by
  have:i=a.length:=by omega
  subst this
  refine⟨out,ho,Dr.ok (by rwa [ho]),?_,fun K k hk=>?_⟩
  ·unfold vD
   rw [ho]
   rw [uO hbl] at hW
   have e1:vD b=W b 0 b.length:=rfl
   have e2:vD a=W a 0 a.length:=rfl
   omega
  ·obtain⟨k',rfl,_⟩:=eC hk
   simp [eA,hx]
 |t+1,i,out,hi,ho,hD,hs,h1,h2,hW=>by
  have ha':=ha i
  have hb':=hb i
  have e1:decide ((i:Int)<((zC x1 a).length:Int))=true:=dT (by omega)
  have e3:bQ ((i:Int)+1)=some ((i+1:Nat):Int):=uB (m:=0) (by omega) (by omega)
  have key:∀o:List Int,o.length=a.length→Dr o 0 i→(∀s,i<s→o.getD s 0=a.getD s 0)→o.getD i 0=out.getD i 0-b.getD i 0→W o 0 a.length+W b 0 (i+1)=vD a→
    ∃r,r.length=a.length∧jB r∧vD r=vD a-vD b∧∀K k,t≤k→t<k→iD K (i:Int) (eA K a b x1 k) o=some r:=by
   intro o hlo hDo hso hoi hWo
   have e2:=dC (xs:=o) (i:=i) (by omega)
   by_cases hneg:o.getD i 0<0
   ·have e4:bQ (o.getD i 0+1000000000)=some (o.getD i 0+1000000000):=mM (by omega)
    have hlt:i+1<a.length:=by
     rcases Nat.lt_or_ge (i+1) a.length with h|h
     ·exact h
     ·exfalso
      have hia:a.length=i+1:=by omega
      have w1:=(uP hDo).2
      rw [hia] at hWo
      rw [dS,Nat.zero_add] at hWo
      have w2:vD b=W b 0 (i+1):=by rw [uO (n:=i+1) (by omega)]
      have hp:=nZ i
      have:o.getD i 0*PB i≤(-1)*PB i:=Int.mul_le_mul_of_nonneg_right (by omega) (by omega)
      have hbn:=hb.nonneg
      omega
    have e5:n8 o (i:Int) (o.getD i 0+1000000000)=some (o.set i (o.getD i 0+1000000000)):=o5 (by omega)
    have e6:dO (o.set i (o.getD i 0+1000000000)) ((i+1:Nat):Int)=some (a.getD (i+1) 0):=by
     rw [dC (by simp;omega),eR (by omega),hso _ (by omega)]
    have ha2:=ha (i+1)
    have e7:bQ (a.getD (i+1) 0-1)=some (a.getD (i+1) 0-1):=mM (by omega)
    have e8:n8 (o.set i (o.getD i 0+1000000000)) ((i+1:Nat):Int) (a.getD (i+1) 0-1)=some ((o.set i (o.getD i 0+1000000000)).set (i+1) (a.getD (i+1) 0-1)):=o5 (by simp;omega)
    obtain⟨r,g1,g2,g3,g4⟩:=yK ha hb hbl hv hL hx t (i+1) ((o.set i (o.getD i 0+1000000000)).set (i+1) (a.getD (i+1) 0-1)) (by omega) (by simpa using hlo)
     (fun s hs'=>by
      rw [eR (by omega)]
      exact vE hDo (by omega) (by omega) (by omega) s hs')
     (fun s hs'=>by rw [eR (by omega),eR (by omega),hso s (by omega)])
     (by rw [d8 (by simp;omega)];omega) (by rw [d8 (by simp;omega)];omega)
     (by
      rw [aEf (k:=i+1) (by omega) (by simp;omega),aEf (k:=i) (by omega) (by omega),eR (by omega),hso (i+1) (by omega)]
      simp only [PB] at *
      have:o.getD i 0+1000000000-o.getD i 0=1000000000:=by omega
      rw [this]
      have:a.getD (i+1) 0-1-a.getD (i+1) 0=-1:=by omega
      rw [this]
      omega)
    refine⟨r,g1,g2,g3,fun K k hk hk'=>?_⟩
    simp only [iD,e2,e3,e4,e5,e6,e7,e8,dT hneg,gL,oB]
    exact g4 K k hk'
   ·obtain⟨r,g1,g2,g3,g4⟩:=yK ha hb hbl hv hL hx t (i+1) o (by omega) hlo (fun s hs'=>by
      by_cases e:s=i
      ·subst e;rw [Nat.zero_add];omega
      ·exact hDo s (by omega)) (fun s hs'=>hso s (by omega)) (by rw [hso _ (by omega)];omega) (by rw [hso _ (by omega)];omega) hWo
    refine⟨r,g1,g2,g3,fun K k hk hk'=>?_⟩
    simp only [iD,e2,e3,dF hneg,gT,oB]
    exact g4 K k hk'
  by_cases hib:i<b.length
  ·have f1:decide ((i:Int)<(b.length:Int))=true:=dT (by omega)
   have f2:=dC (xs:=b) (i:=i) hib
   have f3:=dC (xs:=out) (i:=i) (by omega)
   have f4:bQ (out.getD i 0-b.getD i 0)=some (out.getD i 0-b.getD i 0):=mM (by omega)
   have f5:n8 out (i:Int) (out.getD i 0-b.getD i 0)=some (out.set i (out.getD i 0-b.getD i 0)):=o5 (by omega)
   obtain⟨r,g1,g2,g3,g4⟩:=key (out.set i (out.getD i 0-b.getD i 0)) (by simpa using ho) (fun s hs'=>by rw [eR (by omega)];exact hD s hs') (fun s hs'=>by rw [eR (by omega)];exact hs s hs') (d8 (by omega)) (by
    rw [aEf (by omega) (by omega),dS,Nat.zero_add]
    have:(out.getD i 0-b.getD i 0-out.getD i 0)=- b.getD i 0:=by omega
    rw [this,Int.neg_mul]
    omega)
   refine⟨r,g1,g2,g3,fun K k hk=>?_⟩
   obtain⟨k',rfl,_⟩:=eC hk
   simp only [eA,e1,f1,f2,f3,f4,f5,gL,oB]
   exact g4 K k' (by omega) (by omega)
  ·have f1:decide ((i:Int)<(b.length:Int))=false:=dF (by omega)
   have f2:b.getD i 0=0:=qJ (by omega)
   obtain⟨r,g1,g2,g3,g4⟩:=key out ho hD hs (by omega) (by rw [dS,Nat.zero_add,f2];omega)
   refine⟨r,g1,g2,g3,fun K k hk=>?_⟩
   obtain⟨k',rfl,_⟩:=eC hk
   simp only [eA,e1,f1,gL,gT]
   exact g4 K k' (by omega) (by omega)
theorem yW {a b:List Int} (ha:jB a) (hb:jB b) (hbl:b.length≤a.length) (hv:vD b≤vD a) (hL:a.length≤60000000000):
  ∃r,r.length=a.length∧jB r∧vD r=vD a-vD b∧Ev (fun K=>jY K a b) r:=by
 have e1:s6 (a.length:Int) (0:Int)=some (List.replicate a.length 0):=vM (by omega)
 have e2:zC (List.replicate a.length 0) a=a:=aFl rfl
 obtain⟨r,g1,g2,g3,g4⟩:=yK (x1:=List.replicate a.length 0) ha hb hbl hv (by omega) (by rw [e2]) a.length 0 a (by omega) rfl (fun s h=>by omega) (fun s h=>rfl) (by omega) (by omega) (by simp [W])
 refine⟨r,g1,g2,g3,⟨a.length+1,fun K hK=>?_⟩⟩
 have h:=g4 K K (by omega)
 simp only [Int.natCast_zero] at h
 simp only [jY,e1,e2,oB,h,nU]
theorem aBE (x y:Int):fY x y=some (if x<y then -1 else if y<x then 1 else 0):=by
 unfold fY kI
 have e1:(x != x)=false:=by simp
 have e2:(y != y)=false:=by simp
 simp only [e1,e2,oB,gT]
 by_cases h:x<y
 ·rw [dT h,gL,if_pos h]
 ·rw [dF h,gT,if_neg h]
  by_cases h2:y<x
  ·rw [dT h2,gL,if_pos h2]
  ·rw [dF h2,gT,if_neg h2]
theorem aDq {u v:List Int} {n:Nat} (hu:jB u) (hv:jB v) (h:u.getD n 0<v.getD n 0):W u 0 (n+1)<W v 0 (n+1):=by
 rw [dS,dS,Nat.zero_add]
 have h1:=(uP (hu.dr 0 n)).2
 have h2:=(uP (hv.dr 0 n)).1
 have hp:=nZ n
 have:(u.getD n 0+1)*PB n≤v.getD n 0*PB n:=Int.mul_le_mul_of_nonneg_right (by omega) (by omega)
 rw [Int.add_mul] at this
 omega
def qP (x y:Int):Int:=if x<y then -1 else if y<x then 1 else 0
theorem aAl {u v:List Int} (hu:jB u) (hv:jB v) (hl:u.length=v.length) (hL:u.length≤9000000000000):∀(j:Nat),j≤u.length→∀K k,j<k→
  fG K u v k ((j:Int)-1)=some (if W u 0 j<W v 0 j then .ret (-1) else if W v 0 j<W u 0 j then .ret 1 else .go ())
 |0,_,K,k,hk=>by
  obtain⟨k',rfl,_⟩:=eC hk
  simp [fG,W]
 |j+1,hj,K,k,hk=>by
  obtain⟨k',rfl,hk'⟩:=eC hk
  have e0:((j+1:Nat):Int)-1=(j:Int):=by omega
  have e1:decide (0≤(j:Int))=true:=dT (by omega)
  have e2:=dC (xs:=u) (i:=j) (by omega)
  have e3:=dC (xs:=v) (i:=j) (by omega)
  rw [e0]
  rcases Int.lt_trichotomy (u.getD j 0) (v.getD j 0) with h|h|h
  ·have:=aDq hu hv h
   have e4:(u.getD j 0 != v.getD j 0)=true:=nT (by omega)
   simp only [fG,e1,e2,e3,e4,gL,oB,aBE]
   rw [if_pos h,if_pos this]
  ·have e4:(u.getD j 0 != v.getD j 0)=false:=nF h
   have e5:bQ ((j:Int)-1)=some ((j:Int)-1):=mM (by omega)
   have ih:=aAl hu hv hl hL j (by omega) K k' (by omega)
   have c1:(W u 0 (j+1)<W v 0 (j+1))↔(W u 0 j<W v 0 j):=by rw [dS,dS,Nat.zero_add,h];omega
   have c2:(W v 0 (j+1)<W u 0 (j+1))↔(W v 0 j<W u 0 j):=by rw [dS,dS,Nat.zero_add,h];omega
   simp only [fG,e1,e2,e3,e4,e5,gL,gT,oB,c1,c2]
   exact ih
  ·have:=aDq hv hu h
   have e4:(u.getD j 0 != v.getD j 0)=true:=nT (by omega)
   simp only [fG,e1,e2,e3,e4,gL,oB,aBE]
   rw [if_neg (by omega),if_pos h,if_neg (by omega),if_pos this]
theorem aBs {u v:List Int} (hu:jB u) (hv:jB v) (tv:Top v) (h:u.length<v.length):vD u<vD v:=by
 have h1:=hu.lt
 have h2:=tv.pos hv (by intro e;subst e;simp at h)
 have h3:=yB (a:=u.length) (b:=v.length-1) (by omega)
 omega
theorem tD {u v:List Int} (hu:jB u) (hv:jB v) (tu:Top u) (tv:Top v) (hL:u.length≤9000000000000):Ev (fun K=>fF K u v) (qP (vD u) (vD v)):=by
 refine⟨u.length+1,fun K hK=>?_⟩
 by_cases h:u.length=v.length
 ·have e1:((u.length:Int) != (v.length:Int))=false:=nF (by omega)
  have e2:bQ ((u.length:Int)-1)=some ((u.length:Int)-1):=mM (by omega)
  have e3:=aAl hu hv h hL u.length (Nat.le_refl _) K K (by omega)
  simp only [fF,e1,e2,e3,gT,oB]
  unfold qP vD
  rw [←h]
  by_cases h1:W u 0 u.length<W v 0 u.length
  ·rw [if_pos h1,if_pos h1]
  ·rw [if_neg h1,if_neg h1]
   by_cases h2:W v 0 u.length<W u 0 u.length
   ·rw [if_pos h2,if_pos h2]
   ·rw [if_neg h2,if_neg h2];rfl
 ·have e1:((u.length:Int) != (v.length:Int))=true:=nT (by omega)
  simp only [fF,e1,gL,oB,aBE]
  unfold qP
  rcases Nat.lt_or_ge u.length v.length with h1|h1
  ·have:=aBs hu hv tv h1
   rw [if_pos (by omega),if_pos this]
  ·have:=aBs hv hu tu (by omega)
   rw [if_neg (by omega),if_pos (by omega),if_neg (by omega),if_pos this]
theorem aAa {x y:Int} (h1:0≤x) (h2:x<1000000000) (h3:0≤y) (h4:y<1000000000):0≤x*y∧x*y≤999999998000000001:=by
 refine⟨Int.mul_nonneg h1 h3,?_⟩
 have:x*y≤999999999*999999999:=Int.mul_le_mul (by omega) (by omega) h3 (by omega)
 omega
theorem W1 (u:List Int) (j:Nat):W u j 1=u.getD j 0:=by simp [W,PB]
theorem W2 (u:List Int) (j:Nat):W u j 2=u.getD j 0+u.getD (j+1) 0*1000000000:=by simp [W,PB]
theorem vD0:vD []=0:=rfl
theorem vD1 (a:Int):vD [a]=a:=by show W _ 0 1=a;rw [W1];rfl
theorem vD2 (a b:Int):vD [a,b]=a+b*1000000000:=by show W _ 0 2=_;rw [W2];rfl
theorem wA {u:List Int} (hu:jB u):lX u=some (if u.length≤2 then(vD u,true) else(0,false)):=by
 unfold lX
 have h0:=hu 0
 have h1:=hu 1
 match u,hu with
 |[],_=>simp [vD0]
 |[a],_=>
  have e:=dC (xs:=[a]) (i:=0) (by simp)
  simp only [Int.natCast_zero] at e
  simp [e,vD1]
 |[a,b],_=>
  simp at h0 h1
  have e:=dC (xs:=[a,b]) (i:=0) (by simp)
  have e':=dC (xs:=[a,b]) (i:=1) (by simp)
  simp only [Int.natCast_zero,Int.natCast_one] at e e'
  have f1:bQ (b*1000000000)=some (b*1000000000):=mM (by omega)
  have f2:bQ (b*1000000000+a)=some (b*1000000000+a):=mM (by omega)
  simp [e,e',vD2,f1,f2]
  omega
 |a::b::c::t,_=>
  have e1:(((a::b::c::t).length:Int)==0)=false:=qF (by simp;omega)
  have e2:(((a::b::c::t).length:Int)==1)=false:=qF (by simp;omega)
  have e3:(((a::b::c::t).length:Int)==2)=false:=qF (by simp;omega)
  simp only [e1,e2,e3,gT]
  rw [if_neg (by simp)]
theorem aFN {x:Int} (h0:0≤x) (h1:x≤18446744073709551615):wu x=x:=IntWalk.u64_in x ⟨h0,h1⟩
theorem aFM {x y:Int} (h0:0≤x) (h1:0<y) (h2:x≤18446744073709551615):uq x y=some (x/y):=by
 unfold uq
 rw [if_neg (by omega),Int.tdiv_eq_ediv_of_nonneg h0]
 have a:=Int.ediv_nonneg h0 (Int.le_of_lt h1)
 have b:=Int.ediv_le_self y h0
 rw [aFN a (by omega)]
theorem aC3 {n:Nat} (h0:n≠0) (h:n<1000000000):cJ n=[(n:Int)]:=by
 rw [rA h0,show n/1000000000=0 by omega,s9,show n%1000000000=n by omega]
theorem oJ (neg:Bool) {n:Nat} (h:n≤18446744073709551615):eN neg (n:Int)=some (mkG neg n):=by
 unfold eN mkG
 have i64:∀x:Int,0≤x→x≤9223372036854775807→IntKind.i64.wrap x=x:=fun x a b=>IntWalk.i64_in x ⟨by omega,b⟩
 by_cases h0:n=0
 ·subst h0;simp
 ·have e0:((n:Int)==0)=false:=qF (by omega)
  rw [e0,gT,if_neg h0]
  by_cases h1:n<1000000000
  ·rw [dT (by omega),gL,aC3 h0 h1,i64 _ (by omega) (by omega)]
  ·rw [dF (by omega),gT,rA h0]
   have q1:uq (n:Int) 1000000000=some ((n:Int)/1000000000):=aFM (by omega) (by omega) (by omega)
   have r1:r6 (n:Int) 1000000000=some ((n:Int)%1000000000):=kL (by omega) (by omega)
   by_cases h2:n<1000000000000000000
   ·rw [dT (by omega),gL]
    simp only [q1,r1,oB]
    rw [aC3 (n:=n/1000000000) (by omega) (by omega),i64 _ (by omega) (by omega),i64 _ (by omega) (by omega)]
    simp
   ·rw [dF (by omega),gT]
    have q2:uq ((n:Int)/1000000000) 1000000000=some ((n:Int)/1000000000/1000000000):=aFM (by omega) (by omega) (by omega)
    have r2:r6 ((n:Int)/1000000000) 1000000000=some ((n:Int)/1000000000%1000000000):=kL (by omega) (by omega)
    simp only [q1,r1,q2,r2,oB]
    rw [rA (n:=n/1000000000) (by omega),aC3 (n:=n/1000000000/1000000000) (by omega) (by omega),i64 _ (by omega) (by omega),i64 _ (by omega) (by omega),i64 _ (by omega) (by omega)]
    simp
theorem aAz {n:Int} (h:-9223372036854775808≤n∧n≤9223372036854775807):jJ n=some (Z n):=by
 unfold jJ
 by_cases h0:n<0
 ·rw [dT h0,gL]
  have e1:wu (-(IntKind.u64.wrap n))=((-n).toNat:Int):=by
   show IntKind.u64.wrap (-(IntKind.u64.wrap n))=_
   simp only [IntKind.wrap,IntKind.bits,IntKind.signed]
   simp
   omega
  rw [e1,oJ _ (by omega),oB,aC7]
  congr 2;omega
 ·rw [dF h0,gT]
  have e1:IntKind.u64.wrap n=((n.toNat:Nat):Int):=by rw [IntWalk.u64_in n (by omega)];omega
  rw [e1,oJ _ (by omega),oB,kW]
  congr 2;omega
theorem Z_d (x:Int):(Z x).d=cJ x.natAbs:=rfl
theorem qE (x:Int):(Z x).neg=decide (x<0):=rfl
theorem oE (x:Int):(Z x).d.length=dl x.natAbs:=rfl
theorem aEB (x:Int):pT (Z x)=some x.sign:=by
 unfold pT
 rw [qE,oE]
 by_cases h:x<0
 ·rw [dT h,gL,Int.sign_eq_neg_one_of_neg h]
 ·rw [dF h,gT]
  by_cases h0:x=0
  ·subst h0;rw [show Int.natAbs 0=0 from rfl,rD];rfl
  ·have:dl x.natAbs≠0:=by rw [Ne,rH];omega
   have e:((dl x.natAbs:Int)==0)=false:=qF (by omega)
   rw [e,gT,Int.sign_eq_one_of_pos (by omega)]
theorem aDg (x:Int):nM (Z x)=some (Z (-x)):=by
 unfold nM
 rw [qE,oE,Z_d]
 unfold Z
 rw [Int.natAbs_neg]
 by_cases h:x<0
 ·have:dl x.natAbs≠0:=by rw [Ne,rH];omega
  rw [dT h,dF (p:=-x<0) (by omega)];rfl
 ·rw [dF h]
  simp only [Bool.not_false,gL]
  congr 2
  by_cases h0:x=0
  ·subst h0;rw [show Int.natAbs 0=0 from rfl,rD];rfl
  ·have:dl x.natAbs≠0:=by rw [Ne,rH];omega
   rw [dT (by omega),dT (by omega)]
theorem aDr {x y:Int} (hx:dl x.natAbs≤50000000000) (hy:dl y.natAbs≤50000000000):Ev (fun K=>kX K (Z x) (Z y)) (Z (x+y)):=by
 have dx:=cG x.natAbs
 have dy:=cG y.natAbs
 have vx:=dN x.natAbs
 have vy:=dN y.natAbs
 have tx:=k6 x.natAbs
 have ty:=k6 y.natAbs
 have lx:(cJ x.natAbs).length≤50000000000:=hx
 have ly:(cJ y.natAbs).length≤50000000000:=hy
 unfold kX
 simp only [Z_d,qE]
 by_cases hs:(decide (x<0)==decide (y<0))=true
 ·simp only [hs,gL]
  obtain⟨r,h1,h2,h3,h4⟩:=aBN dx dy (by omega) (by omega)
  have h5:=r8 (decide (x<0)) h1 (by omega)
  refine Ev.bind h4 (Ev.bind h5 ?_)
  rw [p6]
  have hs':(x<0)↔(y<0):=by simpa using hs
  have:(if decide (x<0)=true then -(((vD r).toNat:Nat):Int) else(((vD r).toNat:Nat):Int))=x+y:=by
   by_cases h:x<0
   ·rw [if_pos (by simpa using h)];omega
   ·rw [if_neg (by simpa using h)];omega
  rw [this]
  exact Ev.pure _
 ·simp only [Bool.not_eq_true] at hs
  simp only [hs,gT]
  have hs':¬((x<0)↔(y<0)):=by simpa using hs
  refine Ev.bind (tD dx dy tx ty (by omega)) ?_
  rw [vx,vy]
  unfold qP
  by_cases hlt:x.natAbs<y.natAbs
  ·have hle:(cJ x.natAbs).length≤(cJ y.natAbs).length:=nH (by omega)
   obtain⟨r,h1,h2,h3,h4⟩:=yW dy dx hle (by omega) (by omega)
   have h5:=r8 (decide (y<0)) h2 (by omega)
   rw [if_pos (by omega)]
   refine Ev.congr (g:=fun K=>(jY K (cJ y.natAbs) (cJ x.natAbs)).bind fun v16=>(eF K (decide (y<0)) v16).bind fun v18=>some v18) ?_ (fun K=>rfl)
   refine Ev.bind h4 (Ev.bind h5 ?_)
   rw [p6]
   have:(if decide (y<0)=true then -(((vD r).toNat:Nat):Int) else(((vD r).toNat:Nat):Int))=x+y:=by
    by_cases h:y<0
    ·rw [if_pos (by simpa using h)];omega
    ·rw [if_neg (by simpa using h)];omega
   rw [this]
   exact Ev.pure _
  ·have hle:(cJ y.natAbs).length≤(cJ x.natAbs).length:=nH (by omega)
   obtain⟨r,h1,h2,h3,h4⟩:=yW dx dy hle (by omega) (by omega)
   have h5:=r8 (decide (x<0)) h2 (by omega)
   have hc:decide ((if(x.natAbs:Int)<y.natAbs then(-1:Int) else if(y.natAbs:Int)<x.natAbs then 1 else 0)<0)=false:=by
    rw [if_neg (by omega)]
    split<;>rfl
   simp only [hc,gT]
   refine Ev.bind h4 (Ev.bind h5 ?_)
   rw [p6]
   have:(if decide (x<0)=true then -(((vD r).toNat:Nat):Int) else(((vD r).toNat:Nat):Int))=x+y:=by
    by_cases h:x<0
    ·rw [if_pos (by simpa using h)];omega
    ·rw [if_neg (by simpa using h)];omega
   rw [this]
   exact Ev.pure _
end Go.Proofs.YtcjdedkdoagifaaGreat
