/- Texts of the proof, part 6: SN. -/
import Derived.Test.YtnmdhmfofbfkjaaGreatZ5
set_option linter.unusedSimpArgs false
set_option linter.unusedVariables false
namespace Go.Proofs.YtnmdhmfofbfkjaaGreat
theorem aGA{a b:Rat}:((if a<b then -1 else if b<a then 1 else 0:Int)≤0)↔a≤b:=by
 by_cases h:a<b
 ·rw[if_pos h];exact⟨fun _=>Rat.le_of_lt h,fun _=>by decide⟩
 ·rw[if_neg h];by_cases e:b<a
  ·rw[if_pos e];exact⟨fun h=>by omega,fun f=>(Rat.not_lt.2 f e).elim⟩
  ·rw[if_neg e];exact⟨fun _=>Rat.not_lt.1 e,fun _=>by decide⟩
theorem aBl{v s:Nat}{u:Nat→Nat→Rat}{β2 X:Nat→Rat}(y:∀i k,i<s→k<v→Bd 110 (u i k))(hβ:∀i,i<s→Bd 110 (β2 i))(z:∀k,k<v→Bd 221 (X k))(hv:v≤3)(O:s≤100){g:List Rat}{a:aL}(I:a.x=mp X v)(e:Int){K:Nat}(U:10≤K):∀(t i k:Nat) (b:Bool),i+t=s→t<k→∃b',bO K ⟨v,mp (zF v u β2) s,g⟩ (a,e) k b (i:Int)=some b'∧(b'=true↔b=true∧∀j,i≤j→j<s→sm (fun k=>u j k*X k) v≤β2 j)
 |0,i,k,b,V,J=>by
  obtain⟨L,rfl,_⟩:=cF J;exact⟨b,by simp only[bO,fF,dF (show¬(i:Int)<(s:Int) by omega),eD],⟨fun h=>⟨h,fun j F G=>by omega⟩,fun h=>h.1⟩⟩
 |t+1,i,k,b,V,J=>by
  obtain⟨L,rfl,_⟩:=cF J;have q:i<s:=by omega
  cases b with
  |false=>
   obtain⟨b',F,G⟩:=aBl y hβ z hv O (g:=g) I e U t (i+1) L false (by omega) (by omega);refine⟨b',by simp only[bO,fF,dT (show(i:Int)<(s:Int) by omega),d9,eD,ckS (i:=i) (by omega),oB,F],?_⟩;rw[G];exact⟨fun h=>(by cases h.1),fun h=>(by cases h.1)⟩
  |true=>
   have hd:kX K (mp (u i) v) (mp X v)=some (sm (fun k=>u i k*X k) v):=aEO (fun c hc=>y i c q hc) z (Nat.le_trans (Nat.mul_le_mul_right _ hv) (by decide)) (by omega) (by omega);have hs:Bd 1000 (sm (fun k=>u i k*X k) v):=(aI6 (fun c hc=>y i c q hc) z v (Nat.le_refl _)).mono (by omega);obtain⟨b',F,G⟩:=aBl y hβ z hv O (g:=g) I e U t (i+1) L (decide ((if sm (fun k=>u i k*X k) v<β2 i then -1 else if β2 i<sm (fun k=>u i k*X k) v then 1 else 0:Int)≤0)) (by omega) (by omega);refine⟨b',by simp only[bO,fF,dT (show(i:Int)<(s:Int) by omega),d9,nM (f:=zF v u β2) q,oB,zF,I,hd,aDH hs (hβ i q) (by omega) (by omega),ckS (i:=i) (by omega),F],?_⟩;rw[G,decide_eq_true_iff,aGA];refine⟨fun h=>⟨rfl,fun j j1 j2=>?_⟩,fun h=>⟨h.2 i (Nat.le_refl _) q,fun j j1 j2=>h.2 j (by omega) j2⟩⟩;by_cases hj:j=i
   ·subst hj;exact h.1
   ·exact h.2 j (by omega) j2
theorem aLr{x y:List aA}{i k:Nat}(h:i<x.length):lnA (x++y) i k=lnA x i k:=by
 have e:(x++y).getD i (⟨[],0⟩:aA)=x.getD i ⟨[],0⟩:=by
  rw[List.getD_eq_getElem?_getD,List.getD_eq_getElem?_getD,List.getElem?_append_left h]
 unfold lnA;rw[e]
theorem aKI{x y:List aA}{i:Nat}(h:i<x.length):lnB (x++y) i=lnB x i:=by
 unfold lnB;rw[List.getD_eq_getElem?_getD,List.getD_eq_getElem?_getD,List.getElem?_append_left h]
theorem aER{v:Nat}{x y:List aA}{X:Nat→Rat}:aAS v (x++y).length (lnA (x++y)) (lnB (x++y)) X↔aAS v x.length (lnA x) (lnB x) X∧aAS v y.length (lnA y) (lnB y) X:=by
 have f:∀j,(x++y).getD (x.length+j) (⟨[],0⟩:aA)=y.getD j ⟨[],0⟩:=fun j=>by
  rw[List.getD_eq_getElem?_getD,List.getD_eq_getElem?_getD,List.getElem?_append_right (by omega)];congr 2;omega
 have rA:∀j,lnA (x++y) (x.length+j)=lnA y j:=fun j=>by funext k;unfold lnA;rw[f]
 have rB:∀j,lnB (x++y) (x.length+j)=lnB y j:=fun j=>by unfold lnB;rw[f]
 constructor
 ·intro h;refine⟨fun i e=>?_,fun j t=>?_⟩
  ·have:=h i (by rw[List.length_append];omega);rw[aKI e,show lnA (x++y) i=lnA x i from funext fun k=>aLr e]at this;exact this
  ·have:=h (x.length+j) (by rw[List.length_append];omega);rw[rA,rB]at this;exact this
 ·rintro⟨q,s⟩ i e;rw[List.length_append]at e;by_cases h:i<x.length
  ·rw[aKI h,show lnA (x++y) i=lnA x i from funext fun k=>aLr h];exact q i h
  ·obtain⟨j,rfl⟩:∃j,i=x.length+j:=⟨i-x.length,by omega⟩;rw[rA,rB];exact s j (by omega)
theorem aIl.bv{v m B:Nat}{A:Nat→Nat→Rat}{β γ:Nat→Rat}{a:aL}(h:aIl v m B A β γ a)(hγ:∀k,k<v→Bd B (γ k))(hv:v≤3):Bd (1+3*(B+(2*B+1)+1)) a.value:=by
 rcases h.is with⟨_,_,e,_⟩|⟨_,e,_⟩|⟨_,X,Y,_,_,e,_,f,_⟩
 ·rw[e];exact Bd.zero.mono (by omega)
 ·rw[e];exact Bd.zero.mono (by omega)
 ·rw[e];exact(aI6 hγ f v (Nat.le_refl _)).mono (Nat.add_le_add_left (Nat.mul_le_mul_right _ hv) _)
theorem aE4{v:Nat}{ls:List aA}{g:List Rat}(h:∀y∈ls,GLn v y)(f:g.length=v):(⟨v,ls,g⟩:aB)=rI v ls.length (lnA ls) (lnB ls) (fun k=>g.getD k 0):=by
 have j:=aIu h;have e:=aIN (0:Rat) g;rw[f]at e;unfold rI;rw[←j,←e]
theorem aBn{a0 a1:List Int}(h0:aFg a0)(h1:aFg a1)(hl:a1.length≤1048576):∃K,k7 K a0 a1=some true:=by
 obtain⟨w,w1,G,L⟩:=aK5 h0 0 (m:=3) (by omega);obtain⟨v,ls,g,v1,z,l1,I,g1,O,hF⟩:=aDq h0 (most:=6) (by omega) w1 G L;have hx:aFg (w::a1):=fun y t=>by
  rcases List.mem_cons.1 t with rfl|t
  ·omega
  ·exact h1 y t
 have hw:gQ (w::a1) 0 3=some w:=by
  have hr:cT (w::a1) 0=some w:=rfl;have hA:gE w 3=some w:=by
   rw[gE,dF (show¬w<0 by omega),eD,oV G (by omega),oB,Int.emod_eq_of_lt G L]
  have hlen:((w::a1).length:Int)=(a1.length:Int)+1:=by simp
  simp only[gQ,dF (show¬(0:Int)<0 by omega),eD,hlen,dF (show¬(a1.length:Int)+1≤0 by omega),hr,oB,hA]
 obtain⟨q,e,g',v1',v3',l1',u,g1',g2',U⟩:=aDq hx (most:=2) (by omega) hw G L;have hvv:q=v:=by omega
 subst hvv;have lB:∀y∈ls++e,GLn q y:=fun y t=>by
  rcases List.mem_append.1 t with t|t
  ·exact I y t
  ·exact u y t
 have S1:=aF0 (v:=q) (m:=ls.length) (γ:=fun k=>g.getD k 0) z (by omega) (aHG I) (aIT I) (G6.getD O);have S2:=aF0 (v:=q) (m:=(ls++e).length) (γ:=fun k=>g.getD k 0) z (by rw[List.length_append];omega) (aHG lB) (aIT lB) (G6.getD O);have S3:=aF0 (v:=q) (m:=e.length) (γ:=fun k=>g.getD k 0) z (by omega) (aHG u) (aIT u) (G6.getD O);obtain⟨a,V,A2⟩:=aC6 S1;obtain⟨b,B1,B2⟩:=aC6 S2;obtain⟨m1,m2,m3⟩:=V.kd.more B1.kd (fun X hX=>(aER.1 hX).1);have av:=V.bv S1.bγ z;have bv:=B1.bv S2.bγ z;obtain⟨K,hK⟩:∃K,(2*q+2*ls.length)^ls.length+1000≤K∧(2*q+2*(ls++e).length)^(ls++e).length+1000≤K:=⟨_,Nat.le_max_left _ _,Nat.le_max_right _ _⟩;refine⟨K,?_⟩;have s:=aFz (K:=K) (by omega);have f1:=hF K (by omega);have f2:=U K (by omega);have s1:=A2 K hK.1;have s2:=B2 K hK.2;rw[←aE4 I g1]at s1;rw[←aE4 lB g1]at s2;have e6:((6:Nat):Int)=6:=rfl;have e2:((2:Nat):Int)=2:=rfl;rw[e6]at f1;rw[e2]at f2;have ap1:uK [w] a1=some (w::a1):=aAp (by simp;omega);have ap2:uK ([]:List aA) ls=some ls:=aAp (by simp;omega);have ap3:uK ls e=some (ls++e):=aAp (by omega);simp only[k7,f1,oB,w1,ap1,f2,s1,ap2,ap3,s2,nF (rfl:(0:Int)=0),eD];have hka:a.kind=1∨a.kind=2∨∃X Y,a.kind=0∧a.x=mp X q∧a.value=sm (fun k=>g.getD k 0*X k) q∧aH4 q ls.length (lnA ls) (lnB ls) (fun k=>g.getD k 0) X Y∧∀i,i<q→Bd 221 (X i):=by
  rcases V.is with⟨f,_⟩|⟨f,_⟩|⟨f,X,Y,x1,_,x2,x3,x4,_⟩
  ·exact .inl f
  ·exact .inr (.inl f)
  ·exact .inr (.inr ⟨X,Y,f,x1,x2,x3,x4⟩)
 rcases hka with f|f|⟨X,Y,f,x1,x2,x3,x4⟩
 ·simp only[qT f,d9,nF (m1 f),eD,qF (show a.kind≠0 by omega),nT (show a.kind≠0 by omega),s,oB]
 ·simp only[qF (show a.kind≠1 by omega),eD,qF (show a.kind≠0 by omega),nT (show a.kind≠0 by omega),d9,s,oB]
 ·have e1:=aIu u;obtain⟨b',c1,c2⟩:=aBl (X:=X) S3.bA S3.bβ x4 z (show e.length≤100 by omega) (g:=g') x1 0 (K:=K) (by omega) e.length 0 K true (by omega) (by omega);rw[←e1]at c1;simp only[Int.natCast_zero]at c1;simp only[qF (show a.kind≠1 by omega),eD,qT f,d9,qF (m2 f),nF f,c1,oB,iV];cases hb:b' with
  |true=>
   rw[hb]at c2;have hX:aAS q e.length (lnA e) (lnB e) X:=fun j hj=>(c2.1 rfl).2 j (Nat.zero_le _) hj
   have F:=aER.2 ⟨x3.fe,hX⟩;have h:b.kind=0∧a.value=b.value:=by
    rcases B1.kd with⟨_,_,b3⟩|⟨J,_⟩|⟨J,_,b4⟩
    ·exact(b3 X F).elim
    ·exact(m2 f J).elim
    ·refine⟨J,Rat.le_antisymm ?_ (m3 f J)⟩;rw[x2];exact b4 X F
   simp only[d9,qT h.1,aJq av bv (by decide) (by decide),oB,decide_eq_true h.2,s]
  |false=>
   by_cases h:b.kind=0
   ·simp only[eD,nF h,aDH bv av (by decide) (by decide),oB,decide_eq_true (aGA.2 (m3 f h)),d9,s]
   ·simp only[eD,nT h,d9,s,oB]
end Go.Proofs.YtnmdhmfofbfkjaaGreat
