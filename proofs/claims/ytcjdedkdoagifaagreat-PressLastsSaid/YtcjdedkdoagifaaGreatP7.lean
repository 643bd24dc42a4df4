/- What the reference's functions on integers compute. -/
import Derived.Test.YtcjdedkdoagifaaGreatP6
set_option linter.unusedVariables false
namespace Go.Proofs.YtcjdedkdoagifaaGreat
theorem aAt (u:List Int):∀(n:Nat),n≤u.length→n≤9000000000000→∃m:Nat,m≤n∧(∀i,m≤i→i<n→u.getD i 0=0)∧(m=0∨u.getD (m-1) 0≠0)∧∀K k,n<k→eS K u k n=some (m:Int)
 |0,_,_=>⟨0,Nat.le_refl _,fun i _ h=>by omega,.inl rfl,fun K k hk=>by
   obtain⟨k',rfl,_⟩:=eC hk
   simp [eS]⟩
 |n+1,h,hL=>by
  have e1:bQ (((n+1:Nat):Int)-1)=some (n:Int):=uB (m:=0) (by omega) (by omega)
  have e2:decide (0<((n+1:Nat):Int))=true:=dT (by omega)
  have e0:max (n:Int) 0=(n:Int):=by omega
  have e3:=dC (xs:=u) (i:=n) (by omega)
  by_cases h0:u.getD n 0=0
  ·obtain⟨m,h1,h2,h3,h4⟩:=aAt u n (by omega) (by omega)
   refine⟨m,by omega,fun i a b=>?_,h3,fun K k hk=>?_⟩
   ·by_cases e:i=n
    ·subst e;exact h0
    ·exact h2 i a (by omega)
   ·obtain⟨k',rfl,hk'⟩:=eC hk
    simp only [eS,e0,e1,e2,e3,qT h0,gL,oB]
    exact h4 K k' (by omega)
  ·refine⟨n+1,by omega,fun i a b=>by omega,.inr (by simpa using h0),fun K k hk=>?_⟩
   obtain⟨k',rfl,hk'⟩:=eC hk
   simp only [eS,e0,e1,e2,e3,qF h0,gL,gT,oB]
theorem gS (neg:Bool) {u:List Int} (hd:jB u) (hL:u.length≤9000000000000):Ev (fun K=>bT K neg u) (mkG neg (vD u).toNat):=by
 obtain⟨m,h1,h2,h3,h4⟩:=aAt u u.length (Nat.le_refl _) hL
 obtain⟨h5,h6⟩:=aGK hd h1 h2 h3
 have hn:=hd.nonneg
 refine⟨u.length+1,fun K hK=>?_⟩
 simp only [bT,h4 K K (by omega),oB,k9]
 unfold mkG
 by_cases h0:m=0
 ·rw [qT (by omega),gL,if_pos (by have:=h6.1 h0;omega)]
 ·rw [qF (by omega),gT,aBA h1,oB,if_neg (by intro h;exact h0 (h6.2 (by omega))),h5]
theorem aF9 {u:List Int} {x:Int} (h:u.length≤60000000000):tB u [x]=some (u++[x]):=aCS (by simp;omega)
theorem jB.snoc {u:List Int} {x:Int} (h:jB u) (h0:0≤x) (h1:x<1000000000):jB (u++[x]):=fun i=>by
 rcases Nat.lt_trichotomy i u.length with h2|h2|h2
 ·rw [aCb h2];exact h i
 ·subst h2;rw [aAX];exact⟨h0,h1⟩
 ·rw [qJ (by simp;omega)];omega
theorem aFA:∀(n:Nat) (neg:Bool) (u:List Int),n≤9223372036854775808→(neg=false→n≤9223372036854775807)→jB u→u.length+n≤30000000000000000000→u.length+dl n≤50→∃r,jB r∧r.length≤u.length+dl n∧vD r=vD u+n*PB u.length∧∀K k,n<k→dR K k u (if neg then -(n:Int) else n)=some r:=by
 intro n
 induction n using Nat.strongRecOn with
 |_ n ih=>
  intro neg u h1 h2 hu h3 h4
  by_cases h0:n=0
  ·subst h0
   refine⟨u,hu,by omega,by simp,fun K k hk=>?_⟩
   obtain⟨k',rfl,_⟩:=eC hk
   cases neg<;>simp [dR]
  ·have hdl:dl n=dl (n/1000000000)+1:=by unfold dl;rw [rA h0];rfl
   obtain⟨r,g1,g2,g3,g4⟩:=ih (n/1000000000) (by omega) neg (u++[((n%1000000000:Nat):Int)]) (by omega) (fun e=>by have:=h2 e;omega) (hu.snoc (by omega) (by omega)) (by simp;omega) (by simp;omega)
   have hul:(u++[((n%1000000000:Nat):Int)]).length=u.length+1:=by simp
   rw [hul] at g2 g3
   refine⟨r,g1,by omega,?_,fun K k hk=>?_⟩
   ·rw [g3]
    unfold vD
    rw [hul,aEo]
    simp only [PB]
    have:(n:Int)=(n%1000000000:Nat)+((n/1000000000:Nat):Int)*1000000000:=by omega
    rw [show(n:Int)*PB u.length=((n%1000000000:Nat)+((n/1000000000:Nat):Int)*1000000000)*PB u.length by rw [←this]]
    grind
   ·obtain⟨k',rfl,_⟩:=eC hk
    have a1:∀x:Int,tB u [x]=some (u++[x]):=fun x=>aF9 (by omega)
    cases neg with
    |false=>
     have g4':=g4 K k' (by omega)
     simp only [Bool.false_eq_true,if_false] at g4' ⊢
     have:=h2 rfl
     have e1:((n:Int) != 0)=true:=nT (by omega)
     have e2:r6 (n:Int) 1000000000=some ((n%1000000000:Nat):Int):=by rw [kL (by omega) (by omega)];simp
     have e3:r4 (n:Int) 1000000000=some ((n/1000000000:Nat):Int):=by rw [oM (by omega) (by omega) (by omega)];simp
     have e4:decide (((n%1000000000:Nat):Int)<0)=false:=dF (by omega)
     simp only [dR,e1,e2,e3,e4,a1,gL,gT,oB]
     exact g4'
    |true=>
     have g4':=g4 K k' (by omega)
     simp only [if_true] at g4' ⊢
     have e1:(-(n:Int) != 0)=true:=nT (by omega)
     have e2:r6 (-(n:Int)) 1000000000=some (-((n%1000000000:Nat):Int)):=by
      unfold r6
      rw [if_neg (by omega),Int.neg_tmod,Int.tmod_eq_emod_of_nonneg (by omega)];simp
     have e3:r4 (-(n:Int)) 1000000000=some (-((n/1000000000:Nat):Int)):=by
      unfold r4
      rw [if_neg (by omega),Int.neg_tdiv,Int.tdiv_eq_ediv_of_nonneg (by omega),show(n:Int)/1000000000=((n/1000000000:Nat):Int) by simp]
      exact mM (by omega)
     by_cases hz:n%1000000000=0
     ·have e4:decide (-((n%1000000000:Nat):Int)<0)=false:=dF (by omega)
      simp only [dR,e1,e2,e3,e4,a1,gL,gT,oB]
      rw [hz] at g4' ⊢
      exact g4'
     ·have e4:decide (-((n%1000000000:Nat):Int)<0)=true:=dT (by omega)
      have e5:bQ (- -((n%1000000000:Nat):Int))=some ((n%1000000000:Nat):Int):=by rw [Int.neg_neg];exact mM (by omega)
      simp only [dR,e1,e2,e3,e4,e5,a1,gL,oB]
      exact g4'
theorem uD {n:Int} (h:-9223372036854775808≤n∧n≤9223372036854775807):Ev (fun K=>fO K n) (Z n):=by
 have hl:dl n.natAbs≤3:=wR (by
  have:PB 3=1000000000000000000000000000:=by decide
  omega)
 obtain⟨r,h1,h2,h3,h4⟩:=aFA n.natAbs (decide (n<0)) [] (by omega) (by simp;omega) jB.nil (by simp;omega) (by simp;omega)
 have e:(if decide (n<0)=true then -(n.natAbs:Int) else(n.natAbs:Int))=n:=by
  by_cases h0:n<0
  ·rw [if_pos (by simpa using h0)];omega
  ·rw [if_neg (by simpa using h0)];omega
 rw [e] at h4
 have h5:=gS (decide (n<0)) h1 (by simp at h2;omega)
 rw [h3,vD0] at h5
 simp only [List.length_nil,PB,Int.mul_one,Int.zero_add,Int.toNat_natCast] at h5
 rw [p6,e] at h5
 unfold fO
 refine Ev.bind (f:=fun K=>dR K K [] n) ⟨n.natAbs+1,fun K hK=>h4 K K (by omega)⟩ ?_
 simp only [nI]
 exact Ev.bind h5 (Ev.pure _)
theorem qU (u:List Int) (i:Nat):cZ u (i:Int)=some (u.getD i 0):=by
 unfold cZ
 by_cases h:i<u.length
 ·rw [dT (by omega),gL,dC h,oB]
 ·rw [dF (by omega),gT,qJ (by omega)]
theorem aF8 {u:List Int} {x:Int} {i:Nat} (h:u.length=i):W (u++[x]) 0 (i+1)=W u 0 i+x*PB i:=by subst h;exact aEo
theorem aD2 {a b:List Int} (ha:jB a) (hb:jB b) {M:Nat} (hL:a.length≤M) (hM:b.length≤M) (hMM:M≤50000000000):∀(t i:Nat) (out:List Int) (c:Int),M+1-i=t→i≤M+1→out.length=i→jB out→0≤c→c≤1→(i=M+1→c=0)→W out 0 i+c*PB i=W a 0 i+W b 0 i→
  ∃r,r.length≤M+1∧jB r∧vD r=vD a+vD b∧∀K k,t<k→cN K a b k out c (i:Int)=some r:=by
 intro t
 induction t with
 |zero=>
  intro i out c ht hi ho hD hc0 hc1 hc hI
  have hii:i=M+1:=by omega
  have:=hc hii
  subst this
  refine⟨out,by omega,hD,?_,fun K k hk=>?_⟩
  ·rw [uO (u:=a) (by omega),uO (u:=b) (by omega)] at hI
   unfold vD
   rw [ho];omega
  ·obtain⟨k',rfl,_⟩:=eC hk
   have e1:decide ((i:Int)<(a.length:Int))=false:=dF (by omega)
   have e2:decide ((i:Int)<(b.length:Int))=false:=dF (by omega)
   have e3:decide ((0:Int)<0)=false:=dF (by omega)
   simp only [cN,e1,e2,e3,gT]
 |succ t ih=>
  intro i out c ht hi ho hD hc0 hc1 hc hI
  have ha':=ha i
  have hb':=hb i
  have f1:bQ (a.getD i 0+b.getD i 0)=some (a.getD i 0+b.getD i 0):=mM (by omega)
  have f2:bQ (a.getD i 0+b.getD i 0+c)=some (a.getD i 0+b.getD i 0+c):=mM (by omega)
  have f3:r6 (a.getD i 0+b.getD i 0+c) 1000000000=some ((a.getD i 0+b.getD i 0+c)%1000000000):=kL (by omega) (by omega)
  have f4:r4 (a.getD i 0+b.getD i 0+c) 1000000000=some ((a.getD i 0+b.getD i 0+c)/1000000000):=oM (by omega) (by omega) (by omega)
  have f5:bQ ((i:Int)+1)=some ((i+1:Nat):Int):=uB (m:=0) (by omega) (by omega)
  have f6:∀x:Int,tB out [x]=some (out++[x]):=fun x=>aF9 (by omega)
  have go:(i=M→a.getD i 0=0∧b.getD i 0=0)→i≤M→∃r,r.length≤M+1∧jB r∧vD r=vD a+vD b∧∀K k,t<k→cN K a b k (out++[(a.getD i 0+b.getD i 0+c)%1000000000]) ((a.getD i 0+b.getD i 0+c)/1000000000) ((i+1:Nat):Int)=some r:=by
   intro hlast hile
   refine ih (i+1) _ _ (by omega) (by omega) (by simp;omega) (hD.snoc (by omega) (by omega)) (by omega) (by omega) (fun e=>?_) ?_
   ·have:=hlast (by omega);omega
   ·rw [aF8 ho,dS,dS,Nat.zero_add]
    simp only [PB]
    have hd:(a.getD i 0+b.getD i 0+c)%1000000000+1000000000*((a.getD i 0+b.getD i 0+c)/1000000000)=a.getD i 0+b.getD i 0+c:=by omega
    grind
  by_cases h1:i<a.length
  ·obtain⟨r,g1,g2,g3,g4⟩:=go (fun e=>by omega) (by omega)
   refine⟨r,g1,g2,g3,fun K k hk=>?_⟩
   obtain⟨k',rfl,_⟩:=eC hk
   simp only [cN,dT (show(i:Int)<(a.length:Int) by omega),qU,f1,f2,f3,f4,f5,f6,gL,oB]
   exact g4 K k' (Nat.lt_of_succ_lt_succ hk)
  ·by_cases h2:i<b.length
   ·obtain⟨r,g1,g2,g3,g4⟩:=go (fun e=>by omega) (by omega)
    refine⟨r,g1,g2,g3,fun K k hk=>?_⟩
    obtain⟨k',rfl,_⟩:=eC hk
    simp only [cN,dF (show¬(i:Int)<(a.length:Int) by omega),dT (show(i:Int)<(b.length:Int) by omega),qU,f1,f2,f3,f4,f5,f6,gL,gT,oB]
    exact g4 K k' (Nat.lt_of_succ_lt_succ hk)
   ·by_cases h3:0<c
    ·obtain⟨r,g1,g2,g3,g4⟩:=go (fun e=>⟨qJ (by omega),qJ (by omega)⟩) (by
      rcases Nat.lt_or_ge (M) i with h|h
      ·have:=hc (by omega);omega
      ·exact h)
     refine⟨r,g1,g2,g3,fun K k hk=>?_⟩
     obtain⟨k',rfl,_⟩:=eC hk
     simp only [cN,dF (show¬(i:Int)<(a.length:Int) by omega),dF (show¬(i:Int)<(b.length:Int) by omega),dT h3,qU,f1,f2,f3,f4,f5,f6,gL,gT,oB]
     exact g4 K k' (Nat.lt_of_succ_lt_succ hk)
    ·refine⟨out,by omega,hD,?_,fun K k hk=>?_⟩
     ·rw [uO (u:=a) (by omega),uO (u:=b) (by omega)] at hI
      have:c=0:=by omega
      subst this
      unfold vD
      rw [ho];omega
     ·obtain⟨k',rfl,_⟩:=eC hk
      simp only [cN,dF (show¬(i:Int)<(a.length:Int) by omega),dF (show¬(i:Int)<(b.length:Int) by omega),dF h3,gT]
theorem aDK {a b:List Int} (ha:jB a) (hb:jB b) (hL:a.length≤50000000000) (hM:b.length≤50000000000):∃r,jB r∧r.length≤max a.length b.length+1∧vD r=vD a+vD b∧Ev (fun K=>lY K a b) r:=by
 obtain⟨r,h1,h2,h3,h4⟩:=aD2 (M:=max a.length b.length) ha hb (by omega) (by omega) (by omega) _ 0 [] 0 rfl (by omega) rfl jB.nil (by omega) (by omega) (by omega) (by simp [W])
 refine⟨r,h2,h1,h3,⟨max a.length b.length+2,fun K hK=>?_⟩⟩
 have:=h4 K K (by omega)
 simp only [Int.natCast_zero] at this
 simp only [lY,this,oB,lQ]
theorem xA {a b:List Int} (ha:jB a) (hb:jB b) (hbl:b.length≤a.length) (hv:vD b≤vD a) (hL:a.length≤50000000000):∀(t i:Nat) (out:List Int) (c:Int),i+t=a.length→out.length=i→jB out→0≤c→c≤1→W out 0 i-c*PB i=W a 0 i-W b 0 i→
  ∃r,r.length=a.length∧jB r∧vD r=vD a-vD b∧∀K k,t<k→dW K a b k out c (i:Int)=some r
 |0,i,out,c,hi,ho,hD,hc0,hc1,hI=>by
  have:i=a.length:=by omega
  subst this
  refine⟨out,ho,hD,?_,fun K k hk=>?_⟩
  ·rw [uO (u:=b) hbl] at hI
   have hlt:=hD.lt
   unfold vD at *
   rw [ho] at hlt ⊢
   have:c=0:=by
    rcases Int.lt_or_le 0 c with h|h
    ·have:c=1:=by omega
     subst this
     omega
    ·omega
   subst this
   omega
  ·obtain⟨k',rfl,_⟩:=eC hk
   simp [dW]
 |t+1,i,out,c,hi,ho,hD,hc0,hc1,hI=>by
  have ha':=ha i
  have hb':=hb i
  have e1:decide ((i:Int)<(a.length:Int))=true:=dT (by omega)
  have e2:=dC (xs:=a) (i:=i) (by omega)
  have f1:bQ (a.getD i 0-b.getD i 0)=some (a.getD i 0-b.getD i 0):=mM (by omega)
  have f2:bQ (a.getD i 0-b.getD i 0-c)=some (a.getD i 0-b.getD i 0-c):=mM (by omega)
  have f5:bQ ((i:Int)+1)=some ((i+1:Nat):Int):=uB (m:=0) (by omega) (by omega)
  have f6:∀x:Int,tB out [x]=some (out++[x]):=fun x=>aF9 (by omega)
  by_cases hn:a.getD i 0-b.getD i 0-c<0
  ·have f3:bQ (a.getD i 0-b.getD i 0-c+1000000000)=some (a.getD i 0-b.getD i 0-c+1000000000):=mM (by omega)
   obtain⟨r,g1,g2,g3,g4⟩:=xA ha hb hbl hv hL t (i+1) (out++[a.getD i 0-b.getD i 0-c+1000000000]) 1 (by omega) (by simp;omega) (hD.snoc (by omega) (by omega)) (by omega) (by omega) (by
    rw [aF8 ho,dS,dS,Nat.zero_add]
    simp only [PB]
    grind)
   refine⟨r,g1,g2,g3,fun K k hk=>?_⟩
   obtain⟨k',rfl,_⟩:=eC hk
   simp only [dW,e1,e2,qU,f1,f2,f3,f5,f6,dT hn,gL,oB]
   exact g4 K k' (by omega)
  ·obtain⟨r,g1,g2,g3,g4⟩:=xA ha hb hbl hv hL t (i+1) (out++[a.getD i 0-b.getD i 0-c]) 0 (by omega) (by simp;omega) (hD.snoc (by omega) (by omega)) (by omega) (by omega) (by
    rw [aF8 ho,dS,dS,Nat.zero_add]
    simp only [PB]
    grind)
   refine⟨r,g1,g2,g3,fun K k hk=>?_⟩
   obtain⟨k',rfl,_⟩:=eC hk
   simp only [dW,e1,e2,qU,f1,f2,f5,f6,dF hn,gL,gT,oB]
   exact g4 K k' (by omega)
theorem uH {a b:List Int} (ha:jB a) (hb:jB b) (hbl:b.length≤a.length) (hv:vD b≤vD a) (hL:a.length≤50000000000):
  ∃r,r.length=a.length∧jB r∧vD r=vD a-vD b∧Ev (fun K=>eW K a b) r:=by
 obtain⟨r,g1,g2,g3,g4⟩:=xA ha hb hbl hv hL a.length 0 [] 0 (by omega) rfl jB.nil (by omega) (by omega) (by simp [W])
 refine⟨r,g1,g2,g3,⟨a.length+1,fun K hK=>?_⟩⟩
 have h:=g4 K K (by omega)
 simp only [Int.natCast_zero] at h
 simp only [eW,oB,h,lD]
theorem xK {u v:List Int} (hu:jB u) (hv:jB v) (hl:u.length=v.length) (hL:u.length≤9000000000000):∀(j:Nat),j≤u.length→∀K k,j<k→
  dG K u v k ((j:Int)-1)=some (if W u 0 j<W v 0 j then .ret (-1) else if W v 0 j<W u 0 j then .ret 1 else .go ())
 |0,_,K,k,hk=>by
  obtain⟨k',rfl,_⟩:=eC hk
  simp [dG,W]
 |j+1,hj,K,k,hk=>by
  obtain⟨k',rfl,hk'⟩:=eC hk
  have e0:((j+1:Nat):Int)-1=(j:Int):=by omega
  have e1:decide (0≤(j:Int))=true:=dT (by omega)
  have e2:=dC (xs:=u) (i:=j) (by omega)
  have e3:=dC (xs:=v) (i:=j) (by omega)
  rw [e0]
  rcases Int.lt_trichotomy (u.getD j 0) (v.getD j 0) with h|h|h
  ·have:=aDq hu hv h
   simp only [dG,e1,e2,e3,dT h,gL,oB]
   rw [if_pos this]
  ·have e5:bQ ((j:Int)-1)=some ((j:Int)-1):=mM (by omega)
   have ih:=xK hu hv hl hL j (by omega) K k' (by omega)
   have c1:(W u 0 (j+1)<W v 0 (j+1))↔(W u 0 j<W v 0 j):=by rw [dS,dS,Nat.zero_add,h];omega
   have c2:(W v 0 (j+1)<W u 0 (j+1))↔(W v 0 j<W u 0 j):=by rw [dS,dS,Nat.zero_add,h];omega
   simp only [dG,e1,e2,e3,dF (show¬u.getD j 0<v.getD j 0 by omega),dF (show¬v.getD j 0<u.getD j 0 by omega),e5,gL,gT,oB,c1,c2]
   exact ih
  ·have:=aDq hv hu h
   simp only [dG,e1,e2,e3,dF (show¬u.getD j 0<v.getD j 0 by omega),dT h,gL,gT,oB]
   rw [if_neg (by omega),if_pos this]
theorem qI {u v:List Int} (hu:jB u) (hv:jB v) (tu:Top u) (tv:Top v) (hL:u.length≤9000000000000):Ev (fun K=>cM K u v) (qP (vD u) (vD v)):=by
 refine⟨u.length+1,fun K hK=>?_⟩
 unfold qP
 rcases Nat.lt_trichotomy u.length v.length with h|h|h
 ·have:=aBs hu hv tv h
  simp only [cM,dT (show(u.length:Int)<(v.length:Int) by omega),gL]
  rw [if_pos this]
 ·have e2:bQ ((u.length:Int)-1)=some ((u.length:Int)-1):=mM (by omega)
  have e3:=xK hu hv h hL u.length (Nat.le_refl _) K K (by omega)
  simp only [cM,dF (show¬(u.length:Int)<(v.length:Int) by omega),dF (show¬(v.length:Int)<(u.length:Int) by omega),e2,e3,gT,oB]
  unfold vD
  rw [←h]
  by_cases h1:W u 0 u.length<W v 0 u.length
  ·rw [if_pos h1,if_pos h1]
  ·rw [if_neg h1,if_neg h1]
   by_cases h2:W v 0 u.length<W u 0 u.length
   ·rw [if_pos h2,if_pos h2]
   ·rw [if_neg h2,if_neg h2];rfl
 ·have:=aBs hv hu tu h
  simp only [cM,dF (show¬(u.length:Int)<(v.length:Int) by omega),dT (show(v.length:Int)<(u.length:Int) by omega),gL,gT]
  rw [if_neg (by omega),if_pos this]
theorem aCq (x:Int) (hL:dl x.natAbs≤60000000000):Ev (fun K=>k8 K (Z x)) (Z (-x)):=by
 unfold k8
 have h:=gS (!decide (x<0)) (cG x.natAbs) (by show dl _≤_;omega)
 rw [dN,Int.toNat_natCast,p6] at h
 have e:(if(!decide (x<0))=true then -(x.natAbs:Int) else(x.natAbs:Int))=-x:=by
  by_cases h0:x<0
  ·rw [dT h0];simp;omega
  ·rw [dF h0];simp;omega
 rw [e] at h
 exact Ev.bind h (Ev.pure _)
theorem aBM {x y:Int} (hx:dl x.natAbs≤40000000000) (hy:dl y.natAbs≤40000000000):Ev (fun K=>k7 K (Z x) (Z y)) (Z (x+y)):=by
 have dx:=cG x.natAbs
 have dy:=cG y.natAbs
 have vx:=dN x.natAbs
 have vy:=dN y.natAbs
 have tx:=k6 x.natAbs
 have ty:=k6 y.natAbs
 have lx:(cJ x.natAbs).length≤40000000000:=hx
 have ly:(cJ y.natAbs).length≤40000000000:=hy
 unfold k7
 simp only [Z_d,qE]
 by_cases hs:(decide (x<0)==decide (y<0))=true
 ·simp only [hs,gL]
  obtain⟨r,h1,h2,h3,h4⟩:=aDK dx dy (by omega) (by omega)
  have h5:=gS (decide (x<0)) h1 (by omega)
  refine Ev.bind h4 (Ev.bind h5 ?_)
  rw [p6]
  have hs':(x<0)↔(y<0):=by simpa using hs
  have:(if decide (x<0)=true then -(((vD r).toNat:Nat):Int) else(((vD r).toNat:Nat):Int))=x+y:=by
   by_cases h:x<0
   ·rw [if_pos (by simpa using h)];omega
   ·rw [if_neg (by simpa using h)];omega
  rw [this]
  exact Ev.pure _
 ·simp only [Bool.not_eq_true] at hs
  simp only [hs,gT]
  have hs':¬((x<0)↔(y<0)):=by simpa using hs
  refine Ev.bind (qI dx dy tx ty (by omega)) ?_
  rw [vx,vy]
  unfold qP
  by_cases hlt:x.natAbs<y.natAbs
  ·have hle:(cJ x.natAbs).length≤(cJ y.natAbs).length:=nH (by omega)
   obtain⟨r,h1,h2,h3,h4⟩:=uH dy dx hle (by omega) (by omega)
   have h5:=gS (decide (y<0)) h2 (by omega)
   rw [if_pos (by omega)]
   refine Ev.congr (g:=fun K=>(eW K (cJ y.natAbs) (cJ x.natAbs)).bind fun v16=>(bT K (decide (y<0)) v16).bind fun v18=>some v18) ?_ (fun K=>rfl)
   refine Ev.bind h4 (Ev.bind h5 ?_)
   rw [p6]
   have:(if decide (y<0)=true then -(((vD r).toNat:Nat):Int) else(((vD r).toNat:Nat):Int))=x+y:=by
    by_cases h:y<0
    ·rw [if_pos (by simpa using h)];omega
    ·rw [if_neg (by simpa using h)];omega
   rw [this]
   exact Ev.pure _
  ·have hle:(cJ y.natAbs).length≤(cJ x.natAbs).length:=nH (by omega)
   obtain⟨r,h1,h2,h3,h4⟩:=uH dx dy hle (by omega) (by omega)
   have h5:=gS (decide (x<0)) h2 (by omega)
   have hc:decide ((if(x.natAbs:Int)<y.natAbs then(-1:Int) else if(y.natAbs:Int)<x.natAbs then 1 else 0)<0)=false:=by
    rw [if_neg (by omega)]
    split<;>rfl
   simp only [hc,gT]
   refine Ev.bind h4 (Ev.bind h5 ?_)
   rw [p6]
   have:(if decide (x<0)=true then -(((vD r).toNat:Nat):Int) else(((vD r).toNat:Nat):Int))=x+y:=by
    by_cases h:x<0
    ·rw [if_pos (by simpa using h)];omega
    ·rw [if_neg (by simpa using h)];omega
   rw [this]
   exact Ev.pure _
theorem aB1 {o0:List Int} {x y:aP} {i:Nat} (ha:jB x.d) (hb:jB y.d) (hi:i<x.d.length) (hl:i+y.d.length≤o0.length) (hL:o0.length≤9000000000000):∀(t k:Nat) (out:List Int) (c:Int),k+t=y.d.length→aBk o0 y.d i (x.d.getD i 0) out c k→
  ∃out' c',aBk o0 y.d i (x.d.getD i 0) out' c' y.d.length∧∀K n,t<n→fJ K x y (i:Int) n out c (k:Int)=some (out',c')
 |0,k,out,c,hk,hP=>by
  have:k=y.d.length:=by omega
  subst this
  refine⟨out,c,hP,fun K n hn=>?_⟩
  obtain⟨n',rfl,_⟩:=eC hn
  simp [fJ]
 |t+1,k,out,c,hk,hP=>by
  have hf:=ha i
  obtain⟨g1,g2,g3,g4,g5,g6,g7⟩:=hP.step (by omega) hf.1 hf.2 hb
  have c0:=hP.c0
  have c1:=hP.c1
  have hlo:=hP.len
  have e0:=dC (xs:=x.d) (i:=i) hi
  have e1:decide ((k:Int)<(y.d.length:Int))=true:=dT (by omega)
  have e2:=dC (xs:=y.d) (i:=k) (by omega)
  have e3:bQ ((k:Int)+1)=some ((k+1:Nat):Int):=uB (m:=0) (by omega) (by omega)
  have e4:bQ ((i:Int)+(k:Int))=some ((i+k:Nat):Int):=uB (m:=0) (by omega) (by omega)
  have e5:=dC (xs:=out) (i:=i+k) (by omega)
  have e6:bQ (x.d.getD i 0*y.d.getD k 0)=some (x.d.getD i 0*y.d.getD k 0):=mM (by omega)
  have e7:bQ (out.getD (i+k) 0+x.d.getD i 0*y.d.getD k 0)=some (out.getD (i+k) 0+x.d.getD i 0*y.d.getD k 0):=mM (by omega)
  have e8:bQ (out.getD (i+k) 0+x.d.getD i 0*y.d.getD k 0+c)=some (out.getD (i+k) 0+x.d.getD i 0*y.d.getD k 0+c):=mM (by omega)
  have e9:r4 (out.getD (i+k) 0+x.d.getD i 0*y.d.getD k 0+c) 1000000000=some ((out.getD (i+k) 0+x.d.getD i 0*y.d.getD k 0+c)/1000000000):=oM (by omega) (by omega) (by omega)
  have e10:r6 (out.getD (i+k) 0+x.d.getD i 0*y.d.getD k 0+c) 1000000000=some ((out.getD (i+k) 0+x.d.getD i 0*y.d.getD k 0+c)%1000000000):=kL (by omega) (by omega)
  have e12:∀z,n8 out ((i+k:Nat):Int) z=some (out.set (i+k) z):=fun z=>o5 (by omega)
  obtain⟨o,d,h1,h2⟩:=aB1 ha hb hi hl hL t (k+1) _ _ (by omega) g7
  refine⟨o,d,h1,fun K n hn=>?_⟩
  obtain⟨n',rfl,_⟩:=eC hn
  simp only [fJ,e0,e1,e2,e3,e4,e5,e6,e7,e8,e9,e10,e12,gL,oB]
  exact h2 K n' (by omega)
theorem aB0 {x y:aP} (ha:jB x.d) (hb:jB y.d) (hL:x.d.length+y.d.length≤9000000000000):∀(t i:Nat) (out:List Int),i+t=x.d.length→yL x.d y.d out i→
  ∃out',yL x.d y.d out' x.d.length∧qK (fun K k=>fM K x y k out (i:Int)) out'
 |0,i,out,hi,hP=>by
  have:i=x.d.length:=by omega
  subst this
  refine⟨out,hP,qK.of 1 fun K n hn=>?_⟩
  obtain⟨n',rfl,_⟩:=eC (n:=0) hn
  simp [fM]
 |t+1,i,out,hi,hP=>by
  have hlo:=hP.len
  obtain⟨o,c,h1,h2⟩:=aB1 ha hb (by omega) (by omega) (by omega) y.d.length 0 out 0 (by omega) hP.row
  have hlo2:=h1.len
  obtain⟨r,h3,h4⟩:=aB0 ha hb hL t (i+1) _ (by omega) (hP.next (by omega) h1)
  refine⟨r,h3,qK.step ?_⟩
  have e1:decide ((i:Int)<(x.d.length:Int))=true:=dT (by omega)
  have e3:bQ ((i:Int)+1)=some ((i+1:Nat):Int):=uB (m:=0) (by omega) (by omega)
  have e4:bQ ((i:Int)+(y.d.length:Int))=some ((i+y.d.length:Nat):Int):=uB (m:=0) (by omega) (by omega)
  have e5:=dC (xs:=o) (i:=i+y.d.length) (by omega)
  have e6:n8 o ((i+y.d.length:Nat):Int) c=some (o.set (i+y.d.length) c):=o5 (by omega)
  simp only [fM,e1,gL]
  refine qK.bind (x:=(o,c)) (f:=fun K=>fJ K x y (i:Int) K out 0 0) ⟨y.d.length+1,fun K hK=>h2 K K (by omega)⟩ ?_
  simp only [mG,e3,e4,e5,e6,oB]
  exact h4
theorem tY {x y:Int} (hL:dl x.natAbs+dl y.natAbs≤60000000000):Ev (fun K=>fV K (Z x) (Z y)) (Z (x*y)):=by
 have dx:=cG x.natAbs
 have dy:=cG y.natAbs
 have lx:(cJ x.natAbs).length=dl x.natAbs:=rfl
 have ly:(cJ y.natAbs).length=dl y.natAbs:=rfl
 obtain⟨r,h1,h2⟩:=aB0 (x:=Z x) (y:=Z y) dx dy (by rw [oE,oE];omega) (Z x).d.length 0 _ (by omega) (yL.start _ _)
 have e1:bQ (((Z x).d.length:Int)+((Z y).d.length:Int))=some (((Z x).d.length+(Z y).d.length:Nat):Int):=uB (m:=0) (by omega) (by rw [oE,oE];omega)
 have e2:s6 (((Z x).d.length+(Z y).d.length:Nat):Int) (0:Int)=some (List.replicate ((Z x).d.length+(Z y).d.length) 0):=vM (by rw [oE,oE];omega)
 unfold fV
 simp only [e1,e2,oB]
 refine Ev.bind h2.ev ?_
 have h3:=gS ((Z x).neg != (Z y).neg) h1.ok (by rw [h1.len,oE,oE];omega)
 unfold mK
 refine Ev.bind h3 ?_
 have hv:vD r=x.natAbs*y.natAbs:=by
  have:=h1.val
  rw [←h1.len] at this
  have vx:=dN x.natAbs
  have vy:=dN y.natAbs
  unfold vD at *
  rw [this]
  show W (cJ x.natAbs) 0 (cJ x.natAbs).length*W (cJ y.natAbs) 0 (cJ y.natAbs).length=_
  rw [vx,vy]
 rw [p6,qE,qE,hv]
 have:(if(decide (x<0) != decide (y<0))=true then -((((x.natAbs:Int)*y.natAbs).toNat:Nat):Int) else((((x.natAbs:Int)*y.natAbs).toNat:Nat):Int))=x*y:=by
  have h0:0≤(x.natAbs:Int)*y.natAbs:=Int.mul_nonneg (by omega) (by omega)
  rw [Int.toNat_of_nonneg h0]
  exact aBd x y
 rw [this]
 exact Ev.pure _
end Go.Proofs.YtcjdedkdoagifaaGreat
