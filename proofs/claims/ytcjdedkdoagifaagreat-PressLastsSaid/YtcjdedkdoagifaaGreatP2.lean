/- What the program's functions on digits compute: of, plus, minus, compare, scaled, short, Mul. -/
import Derived.Test.YtcjdedkdoagifaaGreatP1
import Derived.Test.YtcjdedkdoagifaaGreatIZ
set_option linter.unusedVariables false
namespace Go.Proofs.YtcjdedkdoagifaaGreat
theorem uB {n m:Nat} {x:Int} (h:x=n) (hn:n≤9000000000000000000):bQ x=some (n:Int):=by
 subst h;exact mM ⟨by omega,by omega⟩
theorem eC {k n:Nat} (h:n<k):∃k',k=k'+1∧n≤k':=⟨k-1,by omega,by omega⟩
theorem vE {u:List Int} {i:Nat} {v:Int} (h:Dr u 0 i) (hl:i<u.length) (h0:0≤v) (h1:v<1000000000):Dr (u.set i v) 0 (i+1):=fun t ht=>by
 by_cases e:t=i
 ·subst e;rw [Nat.zero_add,d8 hl];exact⟨h0,h1⟩
 ·rw [eR (by omega)];exact h t (by omega)
def mkG (neg:Bool) (n:Nat):aP:=if n=0 then⟨false,[]⟩ else⟨neg,cJ n⟩
theorem kW (n:Nat):mkG false n=Z n:=by
 unfold mkG Z
 by_cases h:n=0
 ·subst h;simp [s9]
 ·rw [if_neg h];simp
theorem aC7 (n:Nat):mkG true n=Z (-n):=by
 unfold mkG Z
 by_cases h:n=0
 ·subst h;simp [s9]
 ·rw [if_neg h];simp;omega
theorem p6 (b:Bool) (n:Nat):mkG b n=Z (if b then -(n:Int) else n):=by
 cases b
 ·simpa using kW n
 ·simpa using aC7 n
theorem aFV (u:List Int):∀(n:Nat),n≤u.length→n≤9000000000000→∃m:Nat,m≤n∧(∀i,m≤i→i<n→u.getD i 0=0)∧(m=0∨u.getD (m-1) 0≠0)∧∀K k,n<k→jX K u k n=some (m:Int)
 |0,_,_=>⟨0,Nat.le_refl _,fun i _ h=>by omega,.inl rfl,fun K k hk=>by
   obtain⟨k',rfl,_⟩:=eC hk
   simp [jX]⟩
 |n+1,h,hL=>by
  have e1:bQ (((n+1:Nat):Int)-1)=some (n:Int):=uB (m:=0) (by omega) (by omega)
  have e2:decide (0<((n+1:Nat):Int))=true:=decide_eq_true (by omega)
  have e3:=dC (xs:=u) (i:=n) (by omega)
  by_cases h0:u.getD n 0=0
  ·obtain⟨m,h1,h2,h3,h4⟩:=aFV u n (by omega) (by omega)
   refine⟨m,by omega,fun i a b=>?_,h3,fun K k hk=>?_⟩
   ·by_cases e:i=n
    ·subst e;exact h0
    ·exact h2 i a (by omega)
   ·obtain⟨k',rfl,hk'⟩:=eC hk
    simp only [jX,e1,e2,e3,h0,gL,oB,beq_self_eq_true]
    exact h4 K k' (by omega)
  ·refine⟨n+1,by omega,fun i a b=>by omega,.inr (by simpa using h0),fun K k hk=>?_⟩
   obtain⟨k',rfl,hk'⟩:=eC hk
   have e4:(u.getD n 0==0)=false:=by simpa using h0
   simp only [jX,e1,e2,e3,e4,gL,gT,oB]
theorem aGK {u:List Int} (hd:jB u) {m:Nat} (h1:m≤u.length) (h2:∀i,m≤i→i<u.length→u.getD i 0=0) (h3:m=0∨u.getD (m-1) 0≠0):u.take m=cJ (vD u).toNat∧(m=0↔vD u=0):=by
 have hg:∀i,i<m→(u.take m).getD i 0=u.getD i 0:=fun i hi=>by
  simp only [List.getD_eq_getElem?_getD,List.getElem?_take];rw [if_pos hi]
 have hl:(u.take m).length=m:=by simp;omega
 have hok:jB (u.take m):=fun i=>by
  rcases Nat.lt_or_ge i m with h|h
  ·rw [hg i h];exact hd i
  ·rw [qJ (by omega)];omega
 have hv:vD (u.take m)=vD u:=by
  unfold vD
  rw [hl]
  obtain⟨c,hc⟩:=Nat.exists_eq_add_of_le h1
  rw [hc,rO,zI (j:=0+m) (fun i hi=>h2 _ (by omega) (by omega))]
  rw [xU (v:=u) (k:=0) (fun i hi=>by rw [Nat.zero_add];exact hg i hi)]
  simp
 have ht:Top (u.take m):=by
  rcases h3 with h|h
  ·subst h;exact .inl (by simp)
  ·by_cases h0:m=0
   ·subst h0;exact .inl (by simp)
   ·refine .inr ?_
    rw [hl,hg _ (by omega)];exact h
 have:=aFC hok ht
 rw [hv] at this
 refine⟨this.symm,fun h=>?_,fun h=>?_⟩
 ·subst h
  rw [←hv];simp;rfl
 ·rw [h] at this
  simp only [Int.toNat_zero,s9] at this
  have:(u.take m).length=0:=by rw [←this];rfl
  omega
theorem r8 (neg:Bool) {u:List Int} (hd:jB u) (hL:u.length≤9000000000000):Ev (fun K=>eF K neg u) (mkG neg (vD u).toNat):=by
 obtain⟨m,h1,h2,h3,h4⟩:=aFV u u.length (Nat.le_refl _) hL
 obtain⟨h5,h6⟩:=aGK hd h1 h2 h3
 have hn:=hd.nonneg
 refine⟨u.length+1,fun K hK=>?_⟩
 simp only [eF,h4 K K (by omega),oB,qN]
 unfold mkG
 by_cases h0:m=0
 ·have e:((m:Int)==0)=true:=by simp [h0]
  rw [e,gL,if_pos (by have:=h6.1 h0;omega)]
 ·have e:((m:Int)==0)=false:=by simp [h0]
  rw [e,gT,aBA h1,oB,if_neg (by intro h;exact h0 (h6.2 (by omega))),h5]
theorem wE {out a b:List Int} {i:Nat} {c c' v:Int} (hl:i<out.length) (hI:W out 0 i+c*PB i=W a 0 i+W b 0 i) (hv:v+1000000000*c'=a.getD i 0+b.getD i 0+c):
  W (out.set i v) 0 (i+1)+c'*PB (i+1)=W a 0 (i+1)+W b 0 (i+1):=by
 rw [dS,dS,dS,Nat.zero_add,d8 hl,sF (.inr (by omega))]
 simp only [PB]
 grind
theorem vF {a b:List Int} (ha:jB a) (hb:jB b) (hab:b.length≤a.length) (hL:a.length≤9000000000000):∀(t i:Nat) (out:List Int) (c:Int),i+t=a.length→out.length=a.length+1→Dr out 0 i→0≤c→c≤1→W out 0 i+c*PB i=W a 0 i+W b 0 i→
  ∃out' c',out'.length=a.length+1∧Dr out' 0 a.length∧0≤c'∧c'≤1∧W out' 0 a.length+c'*PB a.length=W a 0 a.length+W b 0 a.length∧∀K k,t<k→dL K a b k out c (i:Int)=some (out',c')
 |0,i,out,c,hi,ho,hD,hc0,hc1,hI=>by
  have:i=a.length:=by omega
  subst this
  refine⟨out,c,ho,hD,hc0,hc1,hI,fun K k hk=>?_⟩
  obtain⟨k',rfl,_⟩:=eC hk
  simp [dL]
 |t+1,i,out,c,hi,ho,hD,hc0,hc1,hI=>by
  have ha':=ha i
  have hb':=hb i
  have e1:decide ((i:Int)<(a.length:Int))=true:=decide_eq_true (by omega)
  have e2:=dC (xs:=a) (i:=i) (by omega)
  have e3:bQ ((i:Int)+1)=some ((i+1:Nat):Int):=uB (m:=0) (by omega) (by omega)
  have e4:=dC (xs:=out) (i:=i) (by omega)
  have e5:∀v,n8 out (i:Int) v=some (out.set i v):=fun v=>o5 (by omega)
  have e6:bQ (a.getD i 0+c)=some (a.getD i 0+c):=mM (by omega)
  have e7:bQ (a.getD i 0+c+b.getD i 0)=some (a.getD i 0+c+b.getD i 0):=mM (by omega)
  have e8:bQ (a.getD i 0+c+b.getD i 0-1000000000)=some (a.getD i 0+c+b.getD i 0-1000000000):=mM (by omega)
  have e9:bQ (a.getD i 0+c-1000000000)=some (a.getD i 0+c-1000000000):=mM (by omega)
  by_cases hbl:i<b.length
  ·have f1:decide ((i:Int)<(b.length:Int))=true:=decide_eq_true (by omega)
   have f2:=dC (xs:=b) (i:=i) hbl
   by_cases hs:1000000000≤a.getD i 0+c+b.getD i 0
   ·obtain⟨o,d,h1,h2,h3,h4,h5,h6⟩:=vF ha hb hab hL t (i+1) (out.set i (a.getD i 0+c+b.getD i 0-1000000000)) 1 (by omega) (by simpa using ho) (vE hD (by omega) (by omega) (by omega)) (by omega) (by omega) (wE (by omega) hI (by omega))
    refine⟨o,d,h1,h2,h3,h4,h5,fun K k hk=>?_⟩
    obtain⟨k',rfl,_⟩:=eC hk
    simp only [dL,e1,e2,e3,e4,e5,e6,e7,e8,f1,f2,decide_eq_true hs,gL,oB]
    exact h6 K k' (by omega)
   ·obtain⟨o,d,h1,h2,h3,h4,h5,h6⟩:=vF ha hb hab hL t (i+1) (out.set i (a.getD i 0+c+b.getD i 0)) 0 (by omega) (by simpa using ho) (vE hD (by omega) (by omega) (by omega)) (by omega) (by omega) (wE (by omega) hI (by omega))
    refine⟨o,d,h1,h2,h3,h4,h5,fun K k hk=>?_⟩
    obtain⟨k',rfl,_⟩:=eC hk
    simp only [dL,e1,e2,e3,e4,e5,e6,e7,f1,f2,decide_eq_false hs,gL,gT,oB]
    exact h6 K k' (by omega)
  ·have f1:decide ((i:Int)<(b.length:Int))=false:=decide_eq_false (by omega)
   have f2:b.getD i 0=0:=qJ (by omega)
   by_cases hs:1000000000≤a.getD i 0+c
   ·obtain⟨o,d,h1,h2,h3,h4,h5,h6⟩:=vF ha hb hab hL t (i+1) (out.set i (a.getD i 0+c-1000000000)) 1 (by omega) (by simpa using ho) (vE hD (by omega) (by omega) (by omega)) (by omega) (by omega) (wE (by omega) hI (by omega))
    refine⟨o,d,h1,h2,h3,h4,h5,fun K k hk=>?_⟩
    obtain⟨k',rfl,_⟩:=eC hk
    simp only [dL,e1,e2,e3,e4,e5,e6,e9,f1,decide_eq_true hs,gL,gT,oB]
    exact h6 K k' (by omega)
   ·obtain⟨o,d,h1,h2,h3,h4,h5,h6⟩:=vF ha hb hab hL t (i+1) (out.set i (a.getD i 0+c)) 0 (by omega) (by simpa using ho) (vE hD (by omega) (by omega) (by omega)) (by omega) (by omega) (wE (by omega) hI (by omega))
    refine⟨o,d,h1,h2,h3,h4,h5,fun K k hk=>?_⟩
    obtain⟨k',rfl,_⟩:=eC hk
    simp only [dL,e1,e2,e3,e4,e5,e6,f1,decide_eq_false hs,gL,gT,oB]
    exact h6 K k' (by omega)
theorem aBq (n j m:Nat):Dr (List.replicate n 0) j m:=fun i _=>by
 simp only [List.getD_eq_getElem?_getD,List.getElem?_replicate];split<;>simp
theorem aCU {a b:List Int} (ha:jB a) (hb:jB b) (hab:b.length≤a.length) (hL:a.length≤60000000000):∃r,jB r∧r.length=a.length+1∧vD r=vD a+vD b∧Ev (fun K=>lC K a b) r:=by
 obtain⟨o,c,h1,h2,h3,h4,h5,h6⟩:=vF ha hb hab (by omega) a.length 0 (List.replicate (a.length+1) 0) 0 (by omega) (by simp) (aBq _ _ _) (by omega) (by omega) (by simp [W])
 have e1:bQ ((a.length:Int)+1)=some ((a.length+1:Nat):Int):=uB (m:=0) (by omega) (by omega)
 have e2:s6 ((a.length+1:Nat):Int) (0:Int)=some (List.replicate (a.length+1) 0):=vM (by omega)
 refine⟨o.set a.length c,Dr.ok ?_,by simpa using h1,?_,⟨a.length+1,fun K hK=>?_⟩⟩
 ·rw [show(o.set a.length c).length=a.length+1 by simpa using h1]
  exact vE h2 (by omega) (by omega) (by omega)
 ·unfold vD
  rw [show(o.set a.length c).length=a.length+1 by simpa using h1,dS,Nat.zero_add,d8 (by omega),sF (.inr (by omega)),h5,uO hab]
 ·have h6':=h6 K K (by omega)
  simp only [Int.natCast_zero] at h6'
  simp only [lC,e1,e2,oB,h6',oG,dC (xs:=o) (i:=a.length) (by omega),o5 (xs:=o) (i:=a.length) (v:=c) (by omega)]
theorem aBN {a b:List Int} (ha:jB a) (hb:jB b) (hL:a.length≤60000000000) (hM:b.length≤60000000000):∃r,jB r∧r.length≤max a.length b.length+1∧vD r=vD a+vD b∧Ev (fun K=>mC K a b) r:=by
 by_cases h:a.length<b.length
 ·obtain⟨r,h1,h2,h3,h4⟩:=aCU hb ha (by omega) hM
  refine⟨r,h1,by omega,by omega,h4.congr fun K=>?_⟩
  simp only [mC,show decide ((a.length:Int)<(b.length:Int))=true from decide_eq_true (by omega),gL]
 ·obtain⟨r,h1,h2,h3,h4⟩:=aCU ha hb (by omega) hL
  refine⟨r,h1,by omega,by omega,h4.congr fun K=>?_⟩
  simp only [mC,show decide ((a.length:Int)<(b.length:Int))=false from decide_eq_false (by omega),gT]
end Go.Proofs.YtcjdedkdoagifaaGreat
