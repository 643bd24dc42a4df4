/- Texts of the proof, part 7: WR WS WT WV MX4 WU WX WW. -/
import Derived.Test.YtolfcbpgmfbgmaaGreatZ6
set_option linter.unusedSimpArgs false
set_option linter.unusedVariables false
namespace Go.Proofs.YtolfcbpgmfbgmaaGreat
theorem aIY{α:Type}{g:Nat→α}{n:Nat}{x:α}(h:x∈mp g n):∃i,i<n∧x=g i:=by
 obtain⟨i,e,he⟩:=List.mem_map.1 h;exact⟨i,List.mem_range.1 e,he.symm⟩
def lnB(X:List (List Rat))(n:Nat):Bool:=X.all fun r=>decide (r.length=n)
theorem aH0{X:List (List Rat)}{Y:List Rat}{B:Nat}(j:∀r∈X,Bds B r∧r.length≤1000)(hB:B≤1073741824)(s:X.length≤1000){K:Nat}(u:1001≤K):∀(t i k:Nat),i+t=X.length→t<k→fC K X Y k (i:Int)=some (if lnB (X.drop i) Y.length=true then .go () else .ret false)
 |0,i,k,x,h=>by
  obtain⟨q,rfl,_⟩:=aT h;simp only[fC,dF (show¬(i:Int)<(X.length:Int) by omega),bE];rw[List.drop_eq_nil_of_le (by omega)];rfl
 |t+1,i,k,x,h=>by
  obtain⟨q,rfl,_⟩:=aT h;have f:i<X.length:=by omega
  have ih:=aH0 (Y:=Y) j hB s u t (i+1) q (by omega) (by omega);have d1:X.drop i=X[i]::X.drop (i+1):=List.drop_eq_getElem_cons f;have y:bR X (i:Int)=some X[i]:=rdG (List.getElem?_eq_getElem f);obtain⟨z,F⟩:=j _ (List.getElem_mem f);have g:=aBV z hB F (show X[i].length<K by omega);simp only[fC,dT (show(i:Int)<(X.length:Int) by omega),bJ,y,oB,g,Bool.not_true,bE,rO (i:=i) (by omega)];rw[d1];unfold lnB at ih ⊢;rw[List.all_cons];by_cases e:X[i].length=Y.length
  ·rw[decide_eq_true e,Bool.true_and,nF (by omega),bE];exact ih
  ·rw[decide_eq_false e,Bool.false_and,nT (by omega),bJ];rfl
theorem aHx{X:List (List Rat)}{Y:List Rat}{B:Nat}(j:∀r∈X,Bds B r∧r.length≤1000)(hB:B≤1073741824)(s:X.length≤1000){K:Nat}(u:1001≤K):∀(t i k:Nat),i+t=X.length→t<k→eM K X Y k (i:Int)=some (if lnB (X.drop i) Y.length=true then .go () else .ret false)
 |0,i,k,x,h=>by
  obtain⟨q,rfl,_⟩:=aT h;simp only[eM,dF (show¬(i:Int)<(X.length:Int) by omega),bE];rw[List.drop_eq_nil_of_le (by omega)];rfl
 |t+1,i,k,x,h=>by
  obtain⟨q,rfl,_⟩:=aT h;have f:i<X.length:=by omega
  have ih:=aHx (Y:=Y) j hB s u t (i+1) q (by omega) (by omega);have d1:X.drop i=X[i]::X.drop (i+1):=List.drop_eq_getElem_cons f;have y:bR X (i:Int)=some X[i]:=rdG (List.getElem?_eq_getElem f);obtain⟨z,F⟩:=j _ (List.getElem_mem f);have g:=aB0 z hB F (show X[i].length<K by omega);simp only[eM,dT (show(i:Int)<(X.length:Int) by omega),bJ,y,oB,g,Bool.not_true,bE,rO (i:=i) (by omega)];rw[d1];unfold lnB at ih ⊢;rw[List.all_cons];by_cases e:X[i].length=Y.length
  ·rw[decide_eq_true e,Bool.true_and,nF (by omega),bE];exact ih
  ·rw[decide_eq_false e,Bool.false_and,nT (by omega),bJ];rfl
theorem aBL{X:List (List Rat)}{Y:List Rat}{B:Nat}(f:∀r∈X,Bds B r∧r.length≤1000)(j:Bds B Y)(hB:B≤1073741824)(z:X.length≤30)(t:Y.length≤30)(hbad:X.length≠Y.length∨∃r∈X,r.length≠Y.length){K:Nat}(k:1001≤K):eI K X Y=some false∧fU K X Y=some false:=by
 by_cases e:X.length=Y.length
 ·have hb:lnB X Y.length=false:=by
   rcases hbad with h|⟨r,u,x⟩
   ·exact absurd e h
   ·cases hc:lnB X Y.length with
    |false=>rfl
    |true=>exact absurd (of_decide_eq_true (List.all_eq_true.1 hc r u)) x
  have q:=aH0 (Y:=Y) f hB (by omega) k X.length 0 K (by omega) (by omega);have s:=aHx (Y:=Y) f hB (by omega) k X.length 0 K (by omega) (by omega);have g1:=aBV j hB (show Y.length≤1000 by omega) (show Y.length<K by omega);have y:=aB0 j hB (show Y.length≤1000 by omega) (show Y.length<K by omega);rw[List.drop_zero,hb,if_neg (by decide),Int.natCast_zero]at q s;constructor
  ·simp only[eI,nF (show(X.length:Int)=(Y.length:Int) by omega),bE,dF (show¬(32:Int)<(X.length:Int) by omega),g1,oB,Bool.not_true,q]
  ·simp only[fU,nF (show(X.length:Int)=(Y.length:Int) by omega),bE,dF (show¬(32:Int)<(Y.length:Int) by omega),y,oB,Bool.not_true,s]
 ·constructor
  ·simp only[eI,nT (show(X.length:Int)≠(Y.length:Int) by omega),bJ]
  ·simp only[fU,nT (show(X.length:Int)≠(Y.length:Int) by omega),bJ]
theorem aM4{X:List (List aF)}{Y:List aF}{n:Nat}(hr:∀r∈X,r.length=n)(y:X.length=n)(z:Y.length=n)(F:n≤32)(ok:∀x,x∈X.flatten++Y→(∃a,x=Qr a∧qs a=true)∨(Ev (fun K=>lC K x) false∧Ev (fun K=>cJ K x) false∧∀a,x≠Qr a))(hb:∃x,x∈X.flatten++Y∧∀a,x≠Qr a):(aFV X=none∨aF1 Y=none)∧∃U,∀K,U≤K→jC K X Y=some false∧iA K X Y=some false:=by
 obtain⟨x,x1,q⟩:=hb;have e:=List.mem_append.1 x1;constructor
 ·rcases e with h|h
  ·refine Or.inl (aOt fun l s=>?_);obtain⟨r,k,t⟩:=List.mem_flatten.1 h;rw[s]at k;obtain⟨r0,_,rfl⟩:=List.mem_map.1 k;obtain⟨a,_,j⟩:=List.mem_map.1 t;exact q a j.symm
  ·refine Or.inr (aN1 fun l s=>?_);rw[s]at h;obtain⟨a,_,j⟩:=List.mem_map.1 h;exact q a j.symm
 ·obtain⟨V,G⟩:=aLD (f:=fun x K=>lC K x) (v:=aDT) (X.flatten++Y) fun x e=>by
   rcases ok x e with⟨a,rfl,j⟩|⟨e1,_,u⟩
   ·rw[aLa];exact aIy j
   ·rw[aFG u];exact e1
  obtain⟨k2,I⟩:=aLD (f:=fun x K=>cJ K x) (v:=aDT) (X.flatten++Y) fun x e=>by
   rcases ok x e with⟨a,rfl,j⟩|⟨_,e2,u⟩
   ·rw[aLa];exact aGr j
   ·rw[aFG u];exact e2
  have hall:(Y.all aDT&&X.all (fun r=>r.all aDT))=false:=by
   have J:=aFG q;cases hc:(Y.all aDT&&X.all (fun r=>r.all aDT)) with
   |false=>rfl
   |true=>
    rw[Bool.and_eq_true,List.all_eq_true,List.all_eq_true]at hc;rcases e with h|h
    ·obtain⟨r,k,t⟩:=List.mem_flatten.1 h;have:=List.all_eq_true.1 (hc.2 r k) x t;rw[J]at this;cases this
    ·have:=hc.1 x h;rw[J]at this;cases this
  refine⟨V+k2+n+1,fun K hK=>?_⟩;have L:∀r∈X,∀x∈r,x∈X.flatten++Y:=fun r hr x e=>List.mem_append_left _ (List.mem_flatten.2 ⟨r,hr,e⟩)
  have O:∀x∈Y,x∈X.flatten++Y:=fun x e=>List.mem_append_right _ e
  rw[aOw (vld:=aDT) (fun r hr x e=>G K (by omega) x (L r hr x e)) (fun x e=>G K (by omega) x (O x e)) hr y z F (by omega),aNX (vld:=aDT) (fun r hr x e=>I K (by omega) x (L r hr x e)) (fun x e=>I K (by omega) x (O x e)) hr y z F (by omega),hall];exact⟨rfl,rfl⟩
def aSh(K:Nat)(X:List (List aF))(Y:List aF):Prop:=
 (∃(M:List (List Rat)) (q:List Rat),X=M.map (List.map Qr)∧Y=q.map Qr∧eI K M q=some false∧fU K M q=some false)∨
 ((aFV X=none∨aF1 Y=none)∧jC K X Y=some false∧iA K X Y=some false)
noncomputable def rwX(M:Nat→Nat→Rat)(n:Nat):List (List aF):=(mx M n n).map (List.map Qr)
theorem vF{M:Nat→Nat→Rat}{n:Nat}:(rwX M n).length=n:=by unfold rwX;rw[List.length_map,oD]
theorem aEQ{M:Nat→Nat→Rat}{n:Nat}{r:List aF}(h:r∈rwX M n):r.length=n∧∀x∈r,∃i c,i<n∧c<n∧x=Qr (M i c):=by
 obtain⟨q,e,rfl⟩:=List.mem_map.1 h;unfold mx at e;obtain⟨i,f,rfl⟩:=aIY e;refine⟨by rw[List.length_map,aO],fun x j=>?_⟩;obtain⟨a,k,rfl⟩:=List.mem_map.1 j;obtain⟨c,hc,rfl⟩:=aIY k;exact⟨i,c,f,hc,rfl⟩
theorem aI3{M:Nat→Nat→Rat}{n i:Nat}(e:i<n):(rwX M n).getD i []=(mp (M i) n).map Qr:=by
 unfold rwX mx;rw[List.getD_eq_getElem?_getD,List.getElem?_map,w8 e];rfl
theorem aHR{x:Rat}(h:dn 6 2 4000 x):qs x=true:=(sH h).qs (by decide)
theorem aNo{X:List (List aF)}{n:Nat}(h:X.length=n):wW X (mp id n)=X:=by rw[←h];exact aTO
theorem rdQ{l:List Rat}{i:Nat}(h:i<l.length):bR (l.map Qr) (i:Int)=some (Qr (at' l i)):=by
 refine rdG ?_;rw[List.getElem?_map,List.getElem?_eq_getElem h];show some (Qr l[i])=some (Qr (at' l i));unfold at';rw[List.getD_eq_getElem?_getD,List.getElem?_eq_getElem h];rfl
theorem stQ{α:Type}{l:List α}{i:Nat}{v:α}(h:i<l.length):rZ l (i:Int) v=some (l.set i v):=stG h
theorem slQ{α:Type}{l:List α}{i:Nat}(h:i≤l.length):slL l 0 (i:Int)=some (l.take i):=by
 unfold slL;rw[if_pos ⟨by omega,by omega,by omega⟩];show some ((l.drop 0).take ((i:Int).toNat-0))=_;rw[List.drop_zero];rfl
theorem aN9{M:Nat→Nat→Rat}{q:Nat→Rat}{n:Nat}{how b:Int}(z:PB6 n M q)(hn:n≤6)(h1:I64 how)(h2:I64 b):∃X Y J,(∀K,J≤K→nD K (mx M n n) (mp q n) how b=some (X,Y))∧((∃M',PB6 n M' q∧X=(mx M' n n).map (List.map Qr)∧Y=(mp q n).map Qr)∨∀K,J≤K→aSh K X Y):=by
 have hMb:∀i c,i<n→c<n→Bd 12 (M i c):=fun i c s hc=>sH (z.1 i c s hc)
 have hqb:∀i,i<n→Bd 12 (q i):=fun i s=>sH (z.2 i s)
 have l43:∀K,n<K→dD K (rwX M n) K ([]:List Nat) ([]:List (List aF)) 0=some (mp id n,rwX M n):=fun K t=>by
  have:=aLw (X:=rwX M n) (by rw[vF];omega) (fun r hr=>by rw[(aEQ hr).1];omega) K n 0 K (by rw[vF];omega) t;rw[vF]at this;exact this
 have qlen:((mp q n).map Qr).length=n:=by rw[List.length_map,aO]
 have a1:rQ ([]:List aF) ((mp q n).map Qr)=some ((mp q n).map Qr):=xV (by rw[qlen];simp;omega);have O:∀r∈mx M n n,Bds 12 r∧r.length=n:=fun r hr=>by
  unfold mx at hr;obtain⟨i,s,rfl⟩:=aIY hr;exact⟨w6 fun c hc=>hMb i c s hc,aO _ _⟩
 have U:Bds 12 (mp q n):=w6 hqb;by_cases h0:n=0
 ·subst h0;refine⟨[[]],[],1001,fun K t=>?_,Or.inr fun K t=>Or.inl ⟨[[]],[],rfl,rfl,aBL (B:=12) (fun r hr=>?_) (fun x y=>absurd y List.not_mem_nil) (by omega) (by simp) (by simp) (Or.inl (by simp)) t⟩⟩
  ·show eJ K (rwX M 0) _ _ _=_;have e0:wW (rwX M 0) (mp id 0)=[]:=rfl;have e1:((mp id 0:List Nat).length:Int)=0:=rfl;simp only[eJ,l43 K (by omega),oB,iS,a1,e1,qT (rfl:(0:Int)=0),bJ,e0];rfl
  ·rw[List.mem_singleton.1 hr];exact⟨fun x y=>absurd y List.not_mem_nil,by simp⟩
 obtain⟨i,i1,i2,i3⟩:=yE (x:=b) h2 (m:=(n:Int)) (by omega);obtain⟨i,rfl⟩:∃k:Nat,i=k:=⟨i.toNat,by omega⟩;obtain⟨b7,b71,b72⟩:=aRG h2 (show(2:Int)≤7 by omega);obtain⟨c,c1,c2,c3⟩:=yE (x:=b7) b72 (m:=(n:Int)) (by omega);obtain⟨c,rfl⟩:∃k:Nat,c=k:=⟨c.toNat,by omega⟩;obtain⟨w,w1,w2,w3⟩:=yE (x:=how) h1 (m:=6) (by omega);have s:i<n:=by omega
 have hc:c<n:=by omega
 have rowl:((mp (M i) n).map Qr).length=n:=by rw[List.length_map,aO]
 have aE2:wW (rwX M n) (mp id n)=rwX M n:=aNo vF;have hF:∀K,n<K→nD K (mx M n n) (mp q n) how b=bif(w==0) then((slL (rwX M n) 0 (i:Int)).bind fun x76=>some (x76,(mp q n).map Qr)) else(bif(w==1) then((bR (rwX M n) (i:Int)).bind fun v80=>(slL v80 0 (c:Int)).bind fun x82=>(bR (rwX M n) (i:Int)).bind fun v84=>(rZ (rwX M n) (i:Int) x82).bind fun x86=>some (x86,(mp q n).map Qr)) else(bif(w==2) then((rQ ((mp q n).map Qr) [(⟨(⟨false,([]:List Int)⟩:aD),(⟨false,([]:List Int)⟩:aD)⟩:aF)]).bind fun x90=>some (rwX M n,x90)) else(bif(w==3) then some ((rwX M n).set i (((mp (M i) n).map Qr).set c ⟨(Qr (M i c)).p,⟨true,(Qr (M i c)).q.d⟩⟩),(mp q n).map Qr) else(bif(w==4) then some (rwX M n,((mp q n).map Qr).set i ⟨⟨(Qr (q i)).p.neg,(Qr (q i)).p.d++[0]⟩,(Qr (q i)).q⟩) else((bS b 9).bind fun v137=>(aW (v137-4)).bind fun v139=>(qC K v139 1).bind fun v141=>some ((rwX M n).set i (((mp (M i) n).map Qr).set c v141),(mp q n).map Qr)))))):=fun K t=>by
  have e0:bR (mp id n) (i:Int)=some i:=cZ (f:=id) s;have e1:at' (mp (M i) n) c=M i c:=aTo hc;have e2:at' (mp q n) i=q i:=aTo s;have L:=rdQ (l:=mp (M i) n) (i:=c) (by rw[aO];exact hc);have G:=rdQ (l:=mp q n) (i:=i) (by rw[aO];exact s);rw[e1]at L;rw[e2]at G;have dl8:(Qr (q i)).p.d.length≤9000000000000:=(aPQ (aHR (z.2 i s))).1;have dl9:(Qr (q i)).p.d.length≤40000000:=by rw[Qp,Z_d];exact(wB (aHR (z.2 i s))).1
  have ad:rQ ([]:List Int) (Qr (q i)).p.d=some (Qr (q i)).p.d:=xV (by simp;omega);have ad0:rQ (Qr (q i)).p.d [0]=some ((Qr (q i)).p.d++[0]):=xV (by simp;omega);have sl:∀v,((rwX M n).set i v).length=n:=fun v=>by rw[List.length_set,vF]
  show eJ K (rwX M n) _ _ _=_;simp only[eJ,l43 K t,oB,iS,a1,aO,qF (show¬(n:Int)=0 by omega),bE,i1,b71,e0,aI3 s,rowl,c1,w1,aE2,L,stQ (l:=(mp (M i) n).map Qr) (i:=c) (by rw[rowl];exact hc),aNo (sl _),G,ad,ad0,stQ (l:=(mp q n).map Qr) (i:=i) (by rw[qlen];exact s)]
 have rdi:bR (rwX M n) (i:Int)=some ((mp (M i) n).map Qr):=by
  refine rdG ?_;have:=aI3 (M:=M) s;rw[List.getD_eq_getElem?_getD]at this;have hlt:i<(rwX M n).length:=by rw[vF];exact s
  rw[List.getElem?_eq_getElem hlt]at this ⊢;exact congrArg some this
 have okX:∀r∈rwX M n,∀x∈r,∃a,x=Qr a∧qs a=true:=fun r hr x y=>by
  obtain⟨i,c,s,hc,rfl⟩:=(aEQ hr).2 x y;exact⟨_,rfl,aHR (z.1 i c s hc)⟩
 have okY:∀x∈(mp q n).map Qr,∃a,x=Qr a∧qs a=true:=fun x y=>by
  obtain⟨a,ha,rfl⟩:=List.mem_map.1 y;obtain⟨j,hj,rfl⟩:=aIY ha;exact⟨_,rfl,aHR (z.2 j hj)⟩
 by_cases w0:w=0
 ·refine⟨(rwX M n).take i,(mp q n).map Qr,1001,fun K t=>?_,Or.inr fun K t=>Or.inl ⟨(mx M n n).take i,mp q n,?_,rfl,aBL (B:=12) (fun r hr=>?_) U (by omega) ?_ ?_ (Or.inl ?_) t⟩⟩
  ·rw[hF K (by omega),qT w0,bJ,slQ (by rw[vF];omega),oB]
  ·unfold rwX;rw[List.map_take]
  ·have:=O r (List.mem_of_mem_take hr);exact⟨this.1,by omega⟩
  ·rw[List.length_take,oD];omega
  ·rw[aO];omega
  ·rw[List.length_take,oD,aO];omega
 by_cases F:w=1
 ·refine⟨(rwX M n).set i (((mp (M i) n).map Qr).take c),(mp q n).map Qr,1001,fun K t=>?_,Or.inr fun K t=>Or.inl ⟨(mx M n n).set i ((mp (M i) n).take c),mp q n,?_,rfl,aBL (B:=12) (fun r hr=>?_) U (by omega) ?_ ?_ (Or.inr ⟨(mp (M i) n).take c,?_,?_⟩) t⟩⟩
  ·rw[hF K (by omega),qF w0,bE,qT F,bJ,rdi,oB,slQ (by rw[rowl];omega),oB,oB,stQ (by rw[vF];exact s),oB]
  ·unfold rwX;rw[List.map_set,List.map_take]
  ·rcases List.mem_or_eq_of_mem_set hr with h|h
   ·have:=O r h;exact⟨this.1,by omega⟩
   ·rw[h];exact⟨fun x y=>(w6 fun c hc=>hMb i c s hc) x (List.mem_of_mem_take y),by rw[List.length_take,aO];omega⟩
  ·rw[List.length_set,oD];omega
  ·rw[aO];omega
  ·exact List.mem_set (by rw[oD];exact s) _
  ·rw[List.length_take,aO,aO];omega
 by_cases I:w=2
 ·refine⟨rwX M n,(mp q n++[0]).map Qr,1001,fun K t=>?_,Or.inr fun K t=>Or.inl ⟨mx M n n,mp q n++[0],rfl,rfl,aBL (B:=12) (fun r hr=>?_) (U.snoc (Bd.zero.mono (by omega))) (by omega) ?_ ?_ (Or.inl ?_) t⟩⟩
  ·rw[hF K (by omega),qF w0,bE,qF F,bE,qT I,bJ,xV (by rw[qlen];simp;omega),oB,List.map_append,←Qr0];rfl
  ·have:=O r hr;exact⟨this.1,by omega⟩
  ·rw[oD];omega
  ·rw[List.length_append,aO];simp;omega
  ·rw[oD,List.length_append,aO];simp
 by_cases V:w=3
 ·have nf:∀a,(⟨(Qr (M i c)).p,⟨true,(Qr (M i c)).q.d⟩⟩:aF)≠Qr a:=fun a=>aP9
  have qa:=aHR (z.1 i c s hc);have v1:=aN3 qa;have v2:=aLI qa;generalize hbad:(⟨(Qr (M i c)).p,⟨true,(Qr (M i c)).q.d⟩⟩:aF)=bad at *;have hb:=aM4 (X:=(rwX M n).set i (((mp (M i) n).map Qr).set c bad)) (Y:=(mp q n).map Qr) (n:=n) (fun r hr=>by
    rcases List.mem_or_eq_of_mem_set hr with h|h
    ·exact(aEQ h).1
    ·rw[h,List.length_set,rowl]) (by rw[List.length_set,vF]) qlen (by omega) (fun x y=>by
    rcases List.mem_append.1 y with h|h
    ·obtain⟨r,L,G⟩:=List.mem_flatten.1 h;rcases List.mem_or_eq_of_mem_set L with h|h
     ·exact Or.inl (okX r h x G)
     ·rw[h]at G;rcases List.mem_or_eq_of_mem_set G with h|h
      ·refine Or.inl (okX _ ?_ x h);have:=aI3 (M:=M) s;rw[←this,List.getD_eq_getElem?_getD,List.getElem?_eq_getElem (by rw[vF];exact s)];exact List.getElem_mem _
      ·rw[h];exact Or.inr ⟨v1,v2,nf⟩
    ·exact Or.inl (okY x h)) ⟨bad,List.mem_append_left _ (List.mem_flatten.2 ⟨_,List.mem_set (by rw[vF];exact s) _,List.mem_set (by rw[rowl];exact hc) _⟩),nf⟩
  obtain⟨u,J,hv⟩:=hb;refine⟨(rwX M n).set i (((mp (M i) n).map Qr).set c bad),(mp q n).map Qr,J+1001,fun K t=>?_,Or.inr fun K t=>Or.inr ⟨u,hv K (by omega)⟩⟩;rw[hF K (by omega),qF w0,bE,qF F,bE,qF I,bE,qT V,bJ]
 by_cases w4':w=4
 ·have nf:∀a,(⟨⟨(Qr (q i)).p.neg,(Qr (q i)).p.d++[0]⟩,(Qr (q i)).q⟩:aF)≠Qr a:=fun a=>aOq
  have qa:=aHR (z.2 i s);have v1:=aLR qa;have v2:=aJW qa;generalize hbad:(⟨⟨(Qr (q i)).p.neg,(Qr (q i)).p.d++[0]⟩,(Qr (q i)).q⟩:aF)=bad at *;have hb:=aM4 (X:=rwX M n) (Y:=((mp q n).map Qr).set i bad) (n:=n) (fun r hr=>(aEQ hr).1) vF (by rw[List.length_set,qlen]) (by omega) (fun x y=>by
    rcases List.mem_append.1 y with h|h
    ·obtain⟨r,L,G⟩:=List.mem_flatten.1 h;exact Or.inl (okX r L x G)
    ·rcases List.mem_or_eq_of_mem_set h with h|h
     ·exact Or.inl (okY x h)
     ·rw[h];exact Or.inr ⟨v1,v2,nf⟩) ⟨bad,List.mem_append_right _ (List.mem_set (by rw[qlen];exact s) _),nf⟩
  obtain⟨u,J,hv⟩:=hb;refine⟨rwX M n,((mp q n).map Qr).set i bad,J+1001,fun K t=>?_,Or.inr fun K t=>Or.inr ⟨u,hv K (by omega)⟩⟩;rw[hF K (by omega),qF w0,bE,qF F,bE,qF I,bE,qF V,bE,qT w4',bJ]
 ·obtain⟨v,y1,y2,y3⟩:=yE (x:=b) h2 (m:=9) (by omega);obtain⟨r,L,G⟩:=aCV (p:=v-4) (q:=1) (m:=4) (by omega) (by omega) (by omega) (by omega);obtain⟨_,_,r3⟩:=aQ8 L;obtain⟨J,hK0⟩:=aMN (p:=v-4) (q:=1) (by omega) (by omega);refine⟨(rwX M n).set i (((mp (M i) n).map Qr).set c (Qr r)),(mp q n).map Qr,J+1001,fun K t=>?_,Or.inl ⟨fun a=>if a=i then k9 (M i) c r else M a,⟨fun a d ha hd=>?_,z.2⟩,?_,rfl⟩⟩
  ·have hz:=hK0 K (by omega);rw[hF K (by omega),qF w0,bE,qF F,bE,qF I,bE,qF V,bE,qF w4',bE,y1,oB,t9 (by omega),oB];have:qC K (v-4) 1=some (Qr r):=by rw[r3];exact hz
   rw[this,oB]
  ·by_cases e:a=i
   ·simp only[e,if_true];by_cases e2:d=c
    ·rw[e2,aR];exact aJu G (by omega)
    ·rw[bN e2];exact z.1 i d s hd
   ·simp only[e,if_false];exact z.1 a d ha hd
  ·have e1:((mp (M i) n).map Qr).set c (Qr r)=(mp (k9 (M i) c r) n).map Qr:=by rw[←List.map_set,aLZ]
   have e2:mx (fun a=>if a=i then k9 (M i) c r else M a) n n=(mx M n n).set i (mp (k9 (M i) c r) n):=by
    show mp (fun a=>mp ((fun a=>if a=i then k9 (M i) c r else M a) a) n) n=(mp (fun a=>mp (M a) n) n).set i (mp (k9 (M i) c r) n);rw[aLZ];refine cV fun a _=>?_
    by_cases e:a=i
    ·rw[e,aR];simp only[if_true]
    ·rw[bN e];simp only[e,if_false]
   rw[e1,e2,List.map_set];rfl
theorem aD4{f:Nat→Rat}{n:Nat}(h:∀i,i<n→0≤f i):ng f n 0=false:=by
 cases hc:ng f n 0 with
 |false=>rfl
 |true=>
  obtain⟨k,_,j,e⟩:=aOX n 0 hc;exact absurd (h k (by omega)) (Rat.not_le.2 e)
theorem aHz{z w:Nat→Rat}:∀t i,aHd z w t i=true↔∀k,i≤k→k<i+t→¬0<z k∨w k=0
 |0,i=>⟨fun _ k s u=>by omega,fun _=>rfl⟩
 |t+1,i=>by
  unfold aHd;have ih:=aHz (z:=z) (w:=w) t (i+1);have key:∀(p:Prop),(p→(aHd z w t (i+1)=true↔∀k,i≤k→k<i+(t+1)→¬0<z k∨w k=0))→True:=fun _ _=>trivial
  by_cases f:0<z i
  ·rw[decide_eq_true (aGB.2 f),bJ];by_cases hw:w i=0
   ·rw[nF (aAw.2 hw),bE,ih];constructor
    ·intro h k j q;by_cases e:k=i
     ·rw[e];exact Or.inr hw
     ·exact h k (by omega) (by omega)
    ·intro h k j q;exact h k (by omega) (by omega)
   ·rw[nT (fun h=>hw (aAw.1 h)),bJ];constructor
    ·intro h;cases h
    ·intro h;rcases h i (Nat.le_refl _) (by omega) with h|h
     ·exact absurd f h
     ·exact absurd h hw
  ·rw[decide_eq_false (fun h=>f (aGB.1 h)),bE,ih];constructor
   ·intro h k j q;by_cases e:k=i
    ·rw[e];exact Or.inl f
    ·exact h k (by omega) (by omega)
   ·intro h k j q;exact h k (by omega) (by omega)
theorem aR7{M:Nat→Nat→Rat}{q z:Nat→Rat}{n:Nat}:ckb M q z n=true↔Sol M q n z (wvl M q z n):=by
 unfold ckb;constructor
 ·intro h;cases e:ng z n 0 with
  |true=>rw[e,bJ]at h;cases h
  |false=>
   rw[e,bE]at h;cases f:aHd z (wvl M q z n) n 0 with
   |false=>rw[f,bE]at h;cases h
   |true=>
    rw[f,bJ]at h;cases t:ng (wvl M q z n) n 0 with
    |true=>rw[t]at h;cases h
    |false=>
     have z1:∀j,j<n→0≤z j:=fun j s=>aJG n 0 e j (Nat.zero_le _) (by omega)
     refine⟨z1,fun j s=>aJG n 0 t j (Nat.zero_le _) (by omega),fun i x=>rfl,fun j s=>?_⟩;rcases(aHz n 0).1 f j (Nat.zero_le _) (by omega) with h|h
     ·left;have:=z1 j s;have u:=Rat.not_lt.1 h;exact Rat.le_antisymm u this
     ·right;exact h
 ·intro h;rw[aD4 h.z0,bE,(aHz n 0).2 fun k _ y=>?_,bJ,aD4 h.w0];rfl;rcases h.zw k (by omega) with h|h
  ·left;rw[h];exact Rat.lt_irrefl
  ·right;exact h
theorem Sol.wis{M:Nat→Nat→Rat}{q z w:Nat→Rat}{n:Nat}(h:Sol M q n z w):Sol M q n z (wvl M q z n):=
 ⟨h.z0,fun j f=>by have:=h.w0 j f;rw[h.eq j f]at this;exact this,fun i k=>rfl,fun j f=>by
  rcases h.zw j f with e|e
  ·exact Or.inl e
  ·rw[h.eq j f]at e;exact Or.inr e⟩
theorem aLC{M:Nat→Nat→Rat}{q z:Nat→Rat}{n B B' m:Nat}(hM:uF n n B M)(hq:∀i,i<n→Bd B (q i))(j:∀i,i<n→Bd B' (z i))(hm:1+n*(B+B'+1)+B+1≤m):∀i,i<n→Bd m (wvl M q z n i):=fun i h=>
 ((aDO (f:=M i) (e:=z) (w:=n) (fun c hc=>hM i c h hc) j n (Nat.le_refl n)).add (hq i h)).mono (by omega)
theorem aTu{M:Nat→Nat→Rat}{q z:Nat→Rat}{n B:Nat}(hM:uF n n B M)(hq:∀i,i<n→Bd B (q i))(j:∀i,i<n→Bd B (z i))(s:n≤8)(hB:B≤1000000){K:Nat}(x:100≤K):∀(t i k:Nat),i+t=n→t<k→mM K (mx M n n) (mp q n) (mp z n) k (mp (wvl M q z n) i) (i:Int)=some (mp (wvl M q z n) n)
 |0,i,k,y,h=>by
  obtain⟨u,rfl,_⟩:=aT h;have:i=n:=by omega
  subst this;simp only[mM,aO,dF (show¬(i:Int)<(i:Int) by omega),bE]
 |t+1,i,k,y,h=>by
  obtain⟨u,rfl,_⟩:=aT h;obtain⟨d1,d2⟩:=aLx (f:=M i) (e:=z) (w:=n) (fun c hc=>hM i c (by omega) hc) j hB (by omega) (show n<K by omega);have hnB:n*(B+B+1)≤8*2000001:=Nat.mul_le_mul s (by omega);have F:q i+sm (fun c=>M i c*z c) n=wvl M q z n i:=by unfold wvl;rw[Rat.add_comm]
  simp only[mM,aO,dT (show(i:Int)<(n:Int) by omega),bJ,aB6 (g:=M) (w:=n) (show i<n by omega),oB,d2,cZ (f:=q) (show i<n by omega),aBf (hq i (by omega)) d1 (by omega) (by omega),F,apM (g:=wvl M q z n) (show i≤1000000 by omega),rO (i:=i) (by omega)];exact aTu hM hq j s hB x t (i+1) u (by omega) (by omega)
theorem aV4{M:Nat→Nat→Rat}{q z:Nat→Rat}{n B:Nat}(hM:uF n n B M)(hq:∀i,i<n→Bd B (q i))(e:∀i,i<n→Bd B (z i))(f:n≤8)(hB:B≤1000000){K:Nat}(j:100≤K):tD K (mx M n n) (mp q n) (mp z n)=some (mp (wvl M q z n) n):=by
 have h:=aTu hM hq e f hB j n 0 K (by omega) (by omega);simp only[Int.natCast_zero,vZ]at h;simp only[tD,h,oB,uG]
def aHJ(M:Nat→Nat→Rat)(q:Nat→Rat)(n:Nat)(N:Int):cA×Int:=if N<0 then(⟨[],[],0⟩,1) else aCE M q n N.toNat
theorem aMo{M:Nat→Nat→Rat}{q:Nat→Rat}{n:Nat}(j:PB6 n M q)(k:n≤6)(N:Int):((aHJ M q n N).2≠0∧(aHJ M q n N).1=⟨[],[],0⟩)∨((aHJ M q n N).2=0∧∃z w,(aHJ M q n N).1.z=mp z n∧(aHJ M q n N).1.w=mp w n∧Sol M q n z w∧(∀i,i<n→Bd 200 (z i))∧(∀i,i<n→Bd 3000 (w i))):=by
 have hM:uF n n 200 M:=fun i c e hc=>(sH (j.1 i c e hc)).mono (by omega)
 have hq:∀i,i<n→Bd 200 (q i):=fun i e=>(sH (j.2 i e)).mono (by omega)
 unfold aHJ;by_cases s:N<0
 ·rw[if_pos s];exact Or.inl ⟨by decide,rfl⟩
 ·rw[if_neg s];by_cases f:(aCE M q n N.toNat).2=0
  ·right;refine⟨f,?_⟩;obtain⟨z,w,t,u,hs⟩:=aQI f;obtain⟨z1,z2⟩:=aTU (aNp j k) (by omega) f;have zb:∀i,i<n→Bd 200 (z i):=fun i e=>by
    have h:=z2 (z i) (by rw[t];exact List.mem_map.2 ⟨i,List.mem_range.2 e,rfl⟩);exact h
   have x:n*(200+200+1)≤6*401:=Nat.mul_le_mul k (by omega);have wb:=aLC (m:=3000) hM hq zb (by omega);exact⟨z,w,t,u,hs,zb,fun i e=>by rw[hs.eq i e];exact wb i e⟩
  ·exact Or.inl ⟨f,(aNQ f).1⟩
theorem aT9{l:List Rat}{B:Nat}(h:Bds B l):∀i,i<l.length→Bd B (at' l i):=fun i e=>h _ (aD1 e)
theorem aMx{l:List Int}(e:zI l){m:Nat}:∃r,lY l (m:Int)=some r∧zI r∧r.length≤m∨60000000000<m:=by
 by_cases hm:60000000000<m
 ·exact⟨[],Or.inr hm⟩
 ·refine⟨l.take (min l.length m),Or.inl ⟨?_,fun x f=>e x (List.mem_of_mem_take f),by rw[List.length_take];omega⟩⟩;have h:min (l.length:Int) (m:Int)=((min l.length m:Nat):Int):=by omega
  have j:(l.take (min l.length m)).length=min l.length m:=by rw[List.length_take];omega
  simp only[lY,h,slQ (show min l.length m≤l.length by omega),oB,xV (show([]:List Int).length+(l.take (min l.length m)).length≤68719476736 by rw[j];show 0+_≤_;omega),List.nil_append]
theorem aPc{l:List Int}(h:zI l)(q:l.length≤1000)(K:Nat):∀(t i k:Nat) (o:List Rat),i+t=l.length→t<k→o.length=i→Bds 64 o→∃r,lQ K l k o (i:Int)=some r∧Bds 64 r∧r.length=l.length
 |0,i,k,o,s,f,u,hb=>by
  obtain⟨j,rfl,_⟩:=aT f;exact⟨o,by simp only[lQ,dF (show¬(i:Int)<(l.length:Int) by omega),bE],hb,by omega⟩
 |t+1,i,k,o,s,f,u,hb=>by
  obtain⟨j,rfl,_⟩:=aT f;have e:i<l.length:=by omega
  have y:bR l (i:Int)=some l[i]:=rdG (List.getElem?_eq_getElem e);have z:=h _ (List.getElem_mem e);have F:qof l[i] 1=some ((l[i]:Rat)/(1:Int)):=aGK z (by omega);have G:Bd 64 ((l[i]:Rat)/(1:Int)):=Bd.of (by omega) (by omega) (by decide);obtain⟨r,I,J,L⟩:=aPc h q K t (i+1) j (o++[(l[i]:Rat)/(1:Int)]) (by omega) (by omega) (by simp;omega) (hb.snoc G);exact⟨r,by simp only[lQ,dT (show(i:Int)<(l.length:Int) by omega),bJ,y,oB,F,apS (xs:=o) (x:=(l[i]:Rat)/(1:Int)) (by omega),rO (i:=i) (by omega),I],J,L⟩
theorem aSo{l:List Int}(f:zI l)(h:l.length≤1000){K:Nat}(j:l.length<K):∃r,cS K l=some r∧Bds 64 r∧r.length=l.length:=by
 obtain⟨r,e,k,q⟩:=aPc f h K l.length 0 K [] (by omega) j rfl (fun x s=>absurd s List.not_mem_nil);rw[Int.natCast_zero]at e;exact⟨r,by simp only[cS,e,oB,tR],k,q⟩
theorem Bds.mono'{m k:Nat}{l:List Rat}(h:Bds m l)(e:m≤k):Bds k l:=fun x f=>(h x f).mono e
/-- A refutation. -/
structure Rfd (M:Nat→Nat→Rat) (q:Nat→Rat) (n:Nat) (y:Nat→Rat):Prop where
 y0:∀i,i<n→0≤y i
 le:∀k,k<n→sm (fun i=>y i*M i k) n≤0
 lt:sm (fun i=>q i*y i) n<0
structure Fsb (M:Nat→Nat→Rat) (q:Nat→Rat) (n:Nat) (z:Nat→Rat):Prop where
 z0:∀i,i<n→0≤z i
 w0:∀i,i<n→0≤wvl M q z n i
theorem aNc{f g:Nat→Rat}:∀{n:Nat},(∀i,i<n→f i≤g i)→sm f n≤sm g n
 |0,_=>Rat.le_refl
 |n+1,h=>by
  have e:=aNc (f:=f) (g:=g) (n:=n) fun i j=>h i (by omega)
  have k:=h n (by omega);show sm f n+f n≤sm g n+g n;grind
theorem aGg{M:Nat→Nat→Rat}{q y z:Nat→Rat}{n:Nat}(h:Rfd M q n y)(j:Fsb M q n z):False:=by
 have F:0≤sm (fun i=>y i*wvl M q z n i) n:=wY fun i s=>Rat.mul_nonneg (h.y0 i s) (j.w0 i s)
 have e:sm (fun i=>y i*wvl M q z n i) n=sm (fun k=>z k*sm (fun i=>y i*M i k) n) n+sm (fun i=>q i*y i) n:=by
  have u:sm (fun k=>z k*sm (fun i=>y i*M i k) n) n=sm (fun i=>sm (fun k=>y i*(M i k*z k)) n) n:=by
   rw[aBe];refine bC fun k _=>?_
   rw[←tH];exact bC fun i _=>by grind
  rw[u,←aD3];refine bC fun i _=>?_
  unfold wvl;rw[tH];grind
 have x:sm (fun k=>z k*sm (fun i=>y i*M i k) n) n≤sm (fun _=>0) n:=aNc fun k t=>by
  have:=Rat.mul_nonneg (j.z0 k t) (show 0≤-(sm (fun i=>y i*M i k) n) by have:=h.le k t;grind);grind
 rw[mD (f:=fun _=>(0:Rat)) fun _ _=>rfl]at x;have:=h.lt;grind
theorem Sol.fsb{M:Nat→Nat→Rat}{q z w:Nat→Rat}{n:Nat}(h:Sol M q n z w):Fsb M q n z:=⟨h.z0,h.wis.w0⟩
def rfA(M:Nat→Nat→Rat)(n j i:Nat):Rat:=if j<n then(if i=j then -1 else 0) else if j=n then 1 else M i (j-n-1)
def rfB(n j:Nat):Rat:=if j=n then 1 else 0
def rfG(q:Nat→Rat)(i:Nat):Rat:=-(q i)
theorem aUd:(64*4000)^12<2^220:=by decide
theorem aSG:yY 4000 ((1:Rat)*36):=⟨36,by decide+kernel,by decide⟩
theorem aO3:yY 4000 ((-1:Rat)*36):=⟨-36,by decide+kernel,by decide⟩
theorem aKx:yY 4000 ((0:Rat)*36):=⟨0,by decide+kernel,by decide⟩
theorem aSn{m:Nat}(hm:m≤11):(64*4000)^(m+1)<2^220:=Nat.lt_of_le_of_lt (Nat.pow_le_pow_right (by decide) (by omega)) aUd
theorem aUv{M:Nat→Nat→Rat}{q:Nat→Rat}{n:Nat}(f:PB6 n M q)(k:n≤5):SPk n (2*n+1) 4000 220 (rfA M n) (rfB n) (rfG q) 36:=
 ⟨by decide,⟨36,by decide+kernel,by decide⟩,fun j i h e=>by
  unfold rfA;split
  ·split;exact aO3;exact aKx
  ·split;exact aSG;exact f.1 i _ e (by omega),fun j h=>by unfold rfB;split;exact aSG;exact aKx,fun i e=>by unfold rfG;rw[Rat.neg_mul];exact(show yY 4000 (q i*36) from f.2 i e).sg,by omega,by omega,aSn (by omega),by omega,by omega⟩
theorem aUh{M:Nat→Nat→Rat}{n:Nat}{Y x:Nat→Rat}:sm (fun j=>Y j*sm (fun i=>rfA M n j i*x i) n) (2*n+1)=sm (fun j=>Y j*(-(x j))) n+Y n*sm x n+sm (fun k=>Y (n+1+k)*sm (fun i=>x i*M i k) n) n:=by
 rw[show 2*n+1=n+1+n by omega,xG];show sm _ n+Y n*sm (fun i=>rfA M n n i*x i) n+_=_;congr 1
 ·congr 1
  ·refine bC fun j e=>?_
   congr 1;rw[uC e fun i f hne=>by unfold rfA;rw[if_pos e,if_neg hne,Rat.zero_mul]];unfold rfA;rw[if_pos e,if_pos rfl];grind
  ·congr 1;refine bC fun i _=>?_
   unfold rfA;rw[if_neg (Nat.lt_irrefl n),if_pos rfl,Rat.one_mul]
 ·refine bC fun k _=>?_
  congr 1;refine bC fun i _=>?_
  unfold rfA;rw[if_neg (by omega),if_neg (by omega),show n+1+k-n-1=k by omega,Rat.mul_comm]
theorem aPb{A:Nat→Nat→Rat}{Y x γ:Nat→Rat}{v m:Nat}(h:∀k,k<v→sm (fun i=>Y i*A i k) m=γ k):sm (fun k=>γ k*x k) v=sm (fun i=>Y i*sm (fun k=>A i k*x k) v) m:=by
 have e:sm (fun k=>γ k*x k) v=sm (fun k=>sm (fun i=>Y i*(A i k*x k)) m) v:=bC fun k f=>by
  rw[←h k f,←aCW];exact bC fun i _=>by grind
 rw[e,aBe];exact bC fun i _=>by rw[tH]
theorem aMg{n:Nat}{Y:Nat→Rat}:sm (fun j=>Y j*rfB n j) (2*n+1)=Y n:=by
 rw[uC (p:=n) (by omega) fun j e hne=>by unfold rfB;rw[if_neg hne,Rat.mul_zero]];unfold rfB;rw[if_pos rfl,Rat.mul_one]
theorem aRU{M:Nat→Nat→Rat}{n:Nat}{x:Nat→Rat}(h:∀j,j<2*n+1→sm (fun i=>rfA M n j i*x i) n≤rfB n j):(∀i,i<n→0≤x i)∧sm x n≤1∧∀k,k<n→sm (fun i=>x i*M i k) n≤0:=by
 refine⟨fun i q=>?_,?_,fun k s=>?_⟩
 ·have f:=h i (by omega);rw[uC q fun j t hne=>by unfold rfA;rw[if_pos q,if_neg hne,Rat.zero_mul]]at f;unfold rfA rfB at f;rw[if_pos q,if_pos rfl,if_neg (by omega)]at f;grind
 ·have f:=h n (by omega);have e:sm (fun i=>rfA M n n i*x i) n=sm x n:=bC fun i _=>by unfold rfA;rw[if_neg (Nat.lt_irrefl n),if_pos rfl,Rat.one_mul]
  rw[e]at f;unfold rfB at f;rw[if_pos rfl]at f;exact f
 ·have f:=h (n+1+k) (by omega);have e:sm (fun i=>rfA M n (n+1+k) i*x i) n=sm (fun i=>x i*M i k) n:=bC fun i _=>by
   unfold rfA;rw[if_neg (by omega),if_neg (by omega),show n+1+k-n-1=k by omega,Rat.mul_comm]
  rw[e]at f;unfold rfB at f;rw[if_neg (by omega)]at f;exact f
theorem aU4{q X:Nat→Rat}{n:Nat}:sm (fun k=>rfG q k*X k) n=-(sm (fun i=>q i*X i) n):=by
 rw[←wJ];exact bC fun i _=>by unfold rfG;grind
structure aQV (M:Nat→Nat→Rat) (q:Nat→Rat) (n:Nat) (r:List Rat×Int):Prop where
 is:(r.2=0∧∃X,r.1=mp X n∧Rfd M q n X∧∀i,i<n→Bd 500 (X i))∨(r.2=6∧r.1=[]∧∀y,¬Rfd M q n y)
theorem aRP{M:Nat→Nat→Rat}{q:Nat→Rat}{n:Nat}{a:lV}(h:aWm n (2*n+1) 220 (rfA M n) (rfB n) (rfG q) a):∃X Y,a.kind=0∧a.x=mp X n∧a.value=sm (fun k=>rfG q k*X k) n∧aSe n (2*n+1) (rfA M n) (rfB n) (rfG q) X Y∧∀i,i<n→Bd 441 (X i):=by
 rcases h.is with⟨_,_,_,Y,_,s,_⟩|⟨_,_,X,Y,_,_,s,_,_⟩|⟨f,X,Y,y,_,z,u,G,_⟩
 ·have f:=s.lt;rw[aMg]at f;have:=s.y0 n (by omega);grind
 ·exfalso;have F:∀i,i<n→0≤Y i:=fun i t=>by
   have f:=s.ra i (by omega);rw[uC t fun j I hne=>by unfold rfA;rw[if_pos t,if_neg hne,Rat.zero_mul]]at f;unfold rfA at f;rw[if_pos t,if_pos rfl]at f;grind
  have f:=s.ra n (by omega);have e:sm (fun i=>rfA M n n i*Y i) n=sm Y n:=bC fun i _=>by unfold rfA;rw[if_neg (Nat.lt_irrefl n),if_pos rfl,Rat.one_mul]
  rw[e]at f;have y:sm Y n=0:=Rat.le_antisymm f (wY F);have z:=aLU F y;have u:=s.up;rw[mD fun i t=>by rw[z i t,Rat.mul_zero]]at u;exact absurd u Rat.lt_irrefl
 ·exact⟨X,Y,f,y,z,u,G⟩
theorem aRZ{M:Nat→Nat→Rat}{q:Nat→Rat}{n:Nat}{X Y:Nat→Rat}(h:aSe n (2*n+1) (rfA M n) (rfB n) (rfG q) X Y)(hv:sm (fun k=>rfG q k*X k) n≤0)(y:Nat→Rat):¬Rfd M q n y:=fun e=>by
 have s:=h.va;rw[aMg]at s;have t:=h.y0 n (by omega);have u:Y n=0:=by rw[s]at t ⊢;exact Rat.le_antisymm hv t
 have z:=aPb (x:=y) h.eq;rw[aUh,u,aU4]at z;have F:sm (fun j=>Y j*(-(y j))) n≤sm (fun _=>0) n:=aNc fun j G=>by
  have:=Rat.mul_nonneg (h.y0 j (by omega)) (e.y0 j G);grind
 have I:sm (fun k=>Y (n+1+k)*sm (fun i=>y i*M i k) n) n≤sm (fun _=>0) n:=aNc fun k J=>by
  have:=Rat.mul_nonneg (h.y0 (n+1+k) (by omega)) (show 0≤-(sm (fun i=>y i*M i k) n) by have:=e.le k J;grind);grind
 rw[mD (f:=fun _=>(0:Rat)) fun _ _=>rfl]at F I;have:=e.lt;grind
theorem aMr{M:Nat→Nat→Rat}{a1:List Rat}{n j:Nat}(h:a1.length=n)(y:n≤1000)(u:j<n)(K:Nat):∀(t i k:Nat) (f:Nat→Rat),i+t=n→t<k→(∀l,l<i→f l=M l j)→jG K (mx M n n) a1 (j:Int) k (mp f n) (i:Int)=some (mp (fun l=>M l j) n)
 |0,i,k,f,z,q,s=>by
  obtain⟨x,rfl,_⟩:=aT q;simp only[jG,h,dF (show¬(i:Int)<(n:Int) by omega),bE];exact congrArg some (cV fun l F=>s l (by omega))
 |t+1,i,k,f,z,q,s=>by
  obtain⟨x,rfl,_⟩:=aT q;have hin:i<n:=by omega
  simp only[jG,h,dT (show(i:Int)<(n:Int) by omega),bJ,aB6 (g:=M) (w:=n) hin,cZ (f:=M i) u,cZ (f:=f) hin,wT (f:=f) hin,oB,rO (i:=i) (by omega)];exact aMr h y u K t (i+1) x (k9 f i (M i j)) (by omega) (by omega) (fun l F=>by
   by_cases e:l=i
   ·rw[e,aR]
   ·rw[bN e];exact s l (by omega))
theorem aNl{M:Nat→Nat→Rat}{a1:List Rat}{n:Nat}(h:a1.length=n)(q:n≤1000){K:Nat}(s:n<K):∀(t i k:Nat),i+t=n→t<k→gD K (mx M n n) a1 k (mp (s6 n (rfA M n) (rfB n)) (n+1+i)) (i:Int)=some (mp (s6 n (rfA M n) (rfB n)) (2*n+1))
 |0,i,k,x,j=>by
  obtain⟨u,rfl,_⟩:=aT j;simp only[gD,h,dF (show¬(i:Int)<(n:Int) by omega),bE];rw[show n+1+i=2*n+1 by omega]
 |t+1,i,k,x,j=>by
  obtain⟨u,rfl,_⟩:=aT j;have hin:i<n:=by omega
  have f:=aMr (M:=M) h q hin K n 0 K (fun _=>0) (by omega) s (fun l G=>by omega);rw[Int.natCast_zero]at f;have e:(⟨mp (fun l=>M l i) n,0⟩:aM)=s6 n (rfA M n) (rfB n) (n+1+i):=by
   unfold s6;have y:mp (rfA M n (n+1+i)) n=mp (fun l=>M l i) n:=cV fun l _=>by unfold rfA;rw[if_neg (by omega),if_neg (by omega),show n+1+i-n-1=i by omega]
   have F:rfB n (n+1+i)=0:=by unfold rfB;rw[if_neg (by omega)]
   rw[y,F]
  have ap:rQ (mp (s6 n (rfA M n) (rfB n)) (n+1+i)) [s6 n (rfA M n) (rfB n) (n+1+i)]=some (mp (s6 n (rfA M n) (rfB n)) (n+1+(i+1))):=apM (g:=s6 n (rfA M n) (rfB n)) (i:=n+1+i) (by omega);simp only[gD,h,dT (show(i:Int)<(n:Int) by omega),bJ,aDD (n:=n) (z:=(0:Rat)) (by omega),oB,f,qR,e,ap,rO (i:=i) (by omega)];exact aNl h q s t (i+1) u (by omega) (by omega)
theorem aPR{a1:List Rat}{n:Nat}(e:a1.length=n)(j:n≤1000)(K:Nat):∀(t i k:Nat),i+t=n→t<k→kE K a1 k (mp (fun _=>(1:Rat)) i) (i:Int)=some (mp (fun _=>(1:Rat)) n)
 |0,i,k,q,f=>by
  obtain⟨h,rfl,_⟩:=aT f;have:i=n:=by omega
  subst this;simp only[kE,e,dF (show¬(i:Int)<(i:Int) by omega),bE]
 |t+1,i,k,q,f=>by
  obtain⟨h,rfl,_⟩:=aT f;have ap:rQ (mp (fun _=>(1:Rat)) i) [1]=some (mp (fun _=>(1:Rat)) (i+1)):=apM (g:=fun _=>(1:Rat)) (by omega);simp only[kE,e,dT (show(i:Int)<(n:Int) by omega),bJ,aEI,oB,ap,rO (i:=i) (by omega)];exact aPR e j K t (i+1) h (by omega) (by omega)
theorem aQ3{M:Nat→Nat→Rat}{q:Nat→Rat}{n B:Nat}(hq:∀i,i<n→Bd B (q i))(hB:B≤1073741824)(x:n≤1000)(K:Nat):∀(t i k:Nat) (f:Nat→Rat),i+t=n→t<k→(∀l,l<i→f l=rfG q l)→kB K (mp q n) k (mp (s6 n (rfA M n) (rfB n)) i) (mp f n) (i:Int)=some (mp (s6 n (rfA M n) (rfB n)) n,mp (rfG q) n)
 |0,i,k,f,y,h,j=>by
  obtain⟨s,rfl,_⟩:=aT h;have:i=n:=by omega
  subst this;simp only[kB,aO,dF (show¬(i:Int)<(i:Int) by omega),bE];rw[cV fun l u=>j l u]
 |t+1,i,k,f,y,h,j=>by
  obtain⟨s,rfl,_⟩:=aT h;have hin:i<n:=by omega
  have e:(⟨mp (k9 (fun _=>(0:Rat)) i (-1)) n,0⟩:aM)=s6 n (rfA M n) (rfB n) i:=by
   unfold s6;have F:mp (rfA M n i) n=mp (k9 (fun _=>(0:Rat)) i (-1)) n:=cV fun l _=>by unfold rfA k9;rw[if_pos hin]
   have G:rfB n i=0:=by unfold rfB;rw[if_neg (by omega)]
   rw[F,G]
  have ap:rQ (mp (s6 n (rfA M n) (rfB n)) i) [s6 n (rfA M n) (rfB n) i]=some (mp (s6 n (rfA M n) (rfB n)) (i+1)):=apM (g:=s6 n (rfA M n) (rfB n)) (by omega);simp only[kB,aO,dT (show(i:Int)<(n:Int) by omega),bJ,cZ (f:=q) hin,yW (hq i hin) hB,cZ (f:=f) hin,wT (f:=f) hin,aDD (n:=n) (z:=(0:Rat)) (by omega),aUC,cZ (f:=fun _=>(0:Rat)) hin,wT (f:=fun _=>(0:Rat)) (v:=(-1:Rat)) hin,oB,e,ap,rO (i:=i) (by omega)];exact aQ3 hq hB x K t (i+1) s (k9 f i (-(q i))) (by omega) (by omega) (fun l u=>by
   by_cases e:l=i
   ·rw[e,aR];rfl
   ·rw[bN e];exact j l (by omega))
theorem aIz{M:Nat→Nat→Rat}{q:Nat→Rat}{n:Nat}(u:PB6 n M q)(F:n≤5)(h0:0<n):∃r,aQV M q n r∧∀K,(2*n+2*(2*n+1))^(2*n+1)+1000≤K→fV K (mx M n n) (mp q n)=some r:=by
 have hM:uF n n 12 M:=fun i c j hc=>sH (u.1 i c j hc)
 have hq:∀i,i<n→Bd 12 (q i):=fun i j=>sH (u.2 i j)
 obtain⟨a,J,L⟩:=aH2 (aUv u F);obtain⟨X,Y,k0,O,y,G,I⟩:=aRP J;have hd:n*(12+441+1)≤5*454:=Nat.mul_le_mul F (by omega);have vb:Bd 3000 a.value:=by
  rw[y];exact(aDO (f:=rfG q) (e:=X) (w:=n) (fun c hc=>(hq c hc).neg) I n (Nat.le_refl n)).mono (by omega)
 have main:∀K,(2*n+2*(2*n+1))^(2*n+1)+1000≤K→fV K (mx M n n) (mp q n)=bif(decide (a.value.num.sign≤0)) then some ([],6) else some (a.x,0):=fun K k=>by
  have v:=zK hM hq (by omega) (show n≤32 by omega) (show 100≤K by omega);have s:=aQ3 (M:=M) hq (by omega) (show n≤1000 by omega) K n 0 K (fun _=>0) (by omega) (by omega) (fun l hl=>by omega);have t:=aPR (aO q n) (show n≤1000 by omega) K n 0 K (by omega) (by omega);have h:=aNl (M:=M) (aO q n) (show n≤1000 by omega) (show n<K by omega) n 0 K (by omega) (by omega);rw[vZ,Int.natCast_zero]at s t;rw[Int.natCast_zero,Nat.add_zero]at h;have e:(⟨mp (fun _=>(1:Rat)) n,1⟩:aM)=s6 n (rfA M n) (rfB n) n:=by
   unfold s6;have U:mp (rfA M n n) n=mp (fun _=>(1:Rat)) n:=cV fun l _=>by unfold rfA;rw[if_neg (Nat.lt_irrefl n),if_pos rfl]
   have V:rfB n n=1:=by unfold rfB;rw[if_pos rfl]
   rw[U,V]
  have ap:rQ (mp (s6 n (rfA M n) (rfB n)) n) [s6 n (rfA M n) (rfB n) n]=some (mp (s6 n (rfA M n) (rfB n)) (n+1)):=apM (g:=s6 n (rfA M n) (rfB n)) (by omega);have hS:mC K (⟨(n:Int),mp (s6 n (rfA M n) (rfB n)) (2*n+1),mp (rfG q) n⟩:aU)=some (a,0):=L K k;simp only[fV,v,oB,Bool.not_true,bE,aO,qF (show¬(n:Int)=0 by omega),aDD (n:=n) (z:=(0:Rat)) (by omega),s,rF,aEI,t,q9,e,ap,h,qO,hS,nF (rfl:(0:Int)=0),nF k0,mZ vb (show 3000≤1073741824 by omega)]
 by_cases hv:0<a.value
 ·refine⟨(a.x,0),⟨Or.inl ⟨rfl,X,O,?_,fun i j=>(I i j).mono (by omega)⟩⟩,fun K k=>?_⟩
  ·obtain⟨l1,l2,l3⟩:=aRU G.fe;refine⟨l1,l3,?_⟩;rw[y,aU4]at hv;grind
  ·rw[main K k,decide_eq_false (fun hle=>absurd (aGB.2 hv) (Int.not_lt.2 hle)),bE]
 ·refine⟨([],6),⟨Or.inr ⟨rfl,rfl,aRZ G (by rw[←y];exact Rat.not_lt.1 hv)⟩⟩,fun K k=>?_⟩;rw[main K k,decide_eq_true (aGc hv),bJ]
def fsA(M:Nat→Nat→Rat)(j k:Nat):Rat:=if j%2=0 then(if k=j/2 then -1 else 0) else -(M (j/2) k)
def fsB(q:Nat→Rat)(j:Nat):Rat:=if j%2=0 then 0 else q (j/2)
theorem aLv{M:Nat→Nat→Rat}{q:Nat→Rat}{i k:Nat}:fsA M (2*i) k=(if k=i then -1 else 0)∧fsB q (2*i)=0:=by
 unfold fsA fsB;have h:2*i%2=0:=by omega
 exact⟨by rw[if_pos h,show 2*i/2=i by omega],if_pos h⟩
theorem aOg{M:Nat→Nat→Rat}{q:Nat→Rat}{i k:Nat}:fsA M (2*i+1) k=-(M i k)∧fsB q (2*i+1)=q i:=by
 unfold fsA fsB;have h:¬(2*i+1)%2=0:=by omega
 exact⟨by rw[if_neg h,show(2*i+1)/2=i by omega],by rw[if_neg h,show(2*i+1)/2=i by omega]⟩
theorem aGW(f:Nat→Rat):∀n,sm f (2*n)=sm (fun i=>f (2*i)+f (2*i+1)) n
 |0=>rfl
 |n+1=>by
  show sm f (2*n)+f (2*n)+f (2*n+1)=sm (fun i=>f (2*i)+f (2*i+1)) n+(f (2*n)+f (2*n+1));rw[aGW f n];grind
theorem aUO{M:Nat→Nat→Rat}{q:Nat→Rat}{n:Nat}(e:PB6 n M q)(k:n≤5):SPk n (2*n) 4000 220 (fsA M) (fsB q) (fun _=>0) 36:=
 ⟨by decide,⟨36,by decide+kernel,by decide⟩,fun j i h f=>by
  unfold fsA;split
  ·split;exact aO3;exact aKx
  ·rw[Rat.neg_mul];exact(show yY 4000 (M (j/2) i*36) from e.1 _ i (by omega) f).sg,fun j h=>by
  unfold fsB;split
  ·exact aKx
  ·exact e.2 _ (by omega),fun i f=>aKx,by omega,by omega,aSn (by omega),by omega,by omega⟩
theorem aOO{M:Nat→Nat→Rat}{a1:List Rat}{n i B:Nat}(h:a1.length=n)(hM:uF n n B M)(hB:B≤1073741824)(j:i<n)(x:n≤1000)(K:Nat):∀(t c k:Nat),c+t=n→t<k→gL K (mx M n n) a1 (i:Int) k (mp (fsA M (2*i+1)) c) (c:Int)=some (mp (fsA M (2*i+1)) n)
 |0,c,k,hc,s=>by
  obtain⟨u,rfl,_⟩:=aT s;have:c=n:=by omega
  subst this;simp only[gL,h,dF (show¬(c:Int)<(c:Int) by omega),bE]
 |t+1,c,k,hc,s=>by
  obtain⟨u,rfl,_⟩:=aT s;have e:-(M i c)=fsA M (2*i+1) c:=(aOg (q:=fun _=>0)).1.symm;simp only[gL,h,dT (show(c:Int)<(n:Int) by omega),bJ,aB6 (g:=M) (w:=n) j,cZ (f:=M i) (show c<n by omega),yW (hM i c j (by omega)) hB,oB,e,apM (g:=fsA M (2*i+1)) (i:=c) (by omega),rO (i:=c) (by omega)];exact aOO h hM hB j x K t (c+1) u (by omega) (by omega)
theorem aQ2{M:Nat→Nat→Rat}{q:Nat→Rat}{n B:Nat}(hM:uF n n B M)(hB:B≤1073741824)(j:n≤1000){K:Nat}(s:n<K):∀(t i k:Nat),i+t=n→t<k→eU K (mx M n n) (mp q n) k (mp (s6 n (fsA M) (fsB q)) (2*i)) (i:Int)=some (mp (s6 n (fsA M) (fsB q)) (2*n))
 |0,i,k,x,h=>by
  obtain⟨u,rfl,_⟩:=aT h;have:i=n:=by omega
  subst this;simp only[eU,aO,dF (show¬(i:Int)<(i:Int) by omega),bE]
 |t+1,i,k,x,h=>by
  obtain⟨u,rfl,_⟩:=aT h;have hin:i<n:=by omega
  have e:=aOO (M:=M) (aO q n) hM hB hin j K n 0 K (by omega) s;rw[vZ,Int.natCast_zero]at e;have y:(⟨mp (k9 (fun _=>(0:Rat)) i (-1)) n,0⟩:aM)=s6 n (fsA M) (fsB q) (2*i):=by
   unfold s6;rw[(aLv (M:=M) (q:=q) (i:=i) (k:=0)).2,cV (f:=fsA M (2*i)) (g:=k9 (fun _=>(0:Rat)) i (-1)) fun l _=>(aLv (q:=q)).1]
  have F:(⟨mp (fsA M (2*i+1)) n,q i⟩:aM)=s6 n (fsA M) (fsB q) (2*i+1):=by
   unfold s6;rw[(aOg (M:=M) (q:=q) (i:=i) (k:=0)).2]
  have ap:rQ (mp (s6 n (fsA M) (fsB q)) (2*i)) [s6 n (fsA M) (fsB q) (2*i),s6 n (fsA M) (fsB q) (2*i+1)]=some (mp (s6 n (fsA M) (fsB q)) (2*(i+1))):=by
   rw[xV (by rw[aO];show 2*i+2≤_;omega),show 2*(i+1)=2*i+1+1 by omega,aAs,aAs,List.append_assoc];rfl
  simp only[eU,aO,dT (show(i:Int)<(n:Int) by omega),bJ,aDD (n:=n) (z:=(0:Rat)) (by omega),aUC,cZ (f:=fun _=>(0:Rat)) hin,wT (f:=fun _=>(0:Rat)) (v:=(-1:Rat)) hin,cZ (f:=q) hin,oB,e,o8,y,F,ap,rO (i:=i) (by omega)];exact aQ2 hM hB j s t (i+1) u (by omega) (by omega)
structure aO9 (M:Nat→Nat→Rat) (q:Nat→Rat) (n:Nat) (r:List Rat×Bool):Prop where
 is:(r.2=true∧∃z,r.1=mp z n∧Fsb M q n z∧∀i,i<n→Bd 441 (z i))∨(r.2=false∧∃y,Rfd M q n y)
theorem aKn{M:Nat→Nat→Rat}{q:Nat→Rat}{n:Nat}(u:PB6 n M q)(y:n≤5):∃r,aO9 M q n r∧∀K,(2*n+2*(2*n))^(2*n)+1000≤K→mH K (mx M n n) (mp q n)=some r:=by
 have hM:uF n n 12 M:=fun i c j hc=>sH (u.1 i c j hc)
 obtain⟨a,F,G⟩:=aH2 (aUO u y);refine⟨(a.x,a.kind==0),⟨?_⟩,fun K I=>?_⟩
 ·rcases F.is with⟨k0,_,_,Y,_,h,_⟩|⟨_,_,X,Y,_,_,h,_,_⟩|⟨k0,X,Y,J,_,_,h,L,_⟩
  ·right;refine⟨qF (by omega),fun i=>Y (2*i+1),fun i j=>h.y0 _ (by omega),fun k t=>?_,?_⟩
   ·have f:=h.eq k t;rw[aGW]at f;have O:sm (fun i=>if k=i then -(Y (2*i)) else 0) n=-(Y (2*k)):=by
     rw[uC t fun i j hne=>if_neg fun e=>hne e.symm,if_pos rfl]
    have e:sm (fun i=>Y (2*i)*fsA M (2*i) k+Y (2*i+1)*fsA M (2*i+1) k) n=sm (fun i=>(if k=i then -(Y (2*i)) else 0)-1*(Y (2*i+1)*M i k)) n:=bC fun i _=>by
     rw[(aLv (q:=q)).1,(aOg (q:=q)).1];split<;>grind
    rw[e,aCe,O]at f;have:=h.y0 (2*k) (by omega);grind
   ·have f:=h.lt;rw[aGW]at f;have e:sm (fun i=>Y (2*i)*fsB q (2*i)+Y (2*i+1)*fsB q (2*i+1)) n=sm (fun i=>q i*Y (2*i+1)) n:=bC fun i _=>by
     rw[(aLv (M:=M) (k:=0)).2,(aOg (M:=M) (k:=0)).2];grind
    rw[e]at f;exact f
  ·exfalso;have:=h.up;rw[mD fun k _=>Rat.zero_mul _]at this;exact absurd this Rat.lt_irrefl
  ·left;refine⟨qT k0,X,J,⟨fun i j=>?_,fun i j=>?_⟩,L⟩
   ·have f:=h.fe (2*i) (by omega);rw[uC j fun k t hne=>by rw[(aLv (q:=q)).1,if_neg hne,Rat.zero_mul],(aLv (q:=q)).1,if_pos rfl,(aLv (M:=M) (k:=0)).2]at f;grind
   ·have f:=h.fe (2*i+1) (by omega);have e:sm (fun k=>fsA M (2*i+1) k*X k) n=-(sm (fun k=>M i k*X k) n):=by
     rw[←wJ];exact bC fun k _=>by rw[(aOg (q:=q)).1];grind
    rw[e,(aOg (M:=M) (k:=0)).2]at f;unfold wvl;grind
 ·have s:=aQ2 (q:=q) hM (by omega) (show n≤1000 by omega) (show n<K by omega) n 0 K (by omega) (by omega);rw[Nat.mul_zero,vZ,Int.natCast_zero]at s;have U:mC K (⟨(n:Int),mp (s6 n (fsA M) (fsB q)) (2*n),mp (fun _=>0) n⟩:aU)=some (a,0):=G K I;simp only[mH,aO,aDD (n:=n) (z:=(0:Rat)) (by omega),oB,s,oW,U,qT (rfl:(0:Int)=0),bJ]
theorem aNw{M:Nat→Nat→Rat}{q:Nat→Rat}{n:Nat}(hM:uF n n 12 M)(hq:∀i,i<n→Bd 12 (q i))(s:n≤6):∀c x,x∈aAL M q n c→∃z,x=mp z n∧ckb M q z n=true∧∀j,Bd (5^6*12) (z j)
 |0,x,k=>absurd k List.not_mem_nil
 |c+1,x,k=>by
  have ih:=aNw hM hq s c x;have zbd:=(aLq (b:=btc c) hM hq s (by omega) (by omega) (K:=100) (Nat.le_refl _)).2;have e:x∈aJS M q n c (aAL M q n c):=k;unfold aJS at e;cases hcn:cnd M q (atl (btc c) n) with
  |none=>rw[hcn]at e;exact ih e
  |some z=>
   rw[hcn]at e;have f:x∈(if ckb M q z n=true then(if mp z n∈aAL M q n c then aAL M q n c else aAL M q n c++[mp z n]) else aAL M q n c):=e;split at f
   ·rename_i hck;split at f
    ·exact ih f
    ·rcases List.mem_append.1 f with h|h
     ·exact ih h
     ·exact⟨z,List.mem_singleton.1 h,hck,zbd z hcn⟩
   ·exact ih f
theorem aLG{M:Nat→Nat→Rat}{q:Nat→Rat}{n B most:Nat}(hM:uF n n B M)(hq:∀i,i<n→Bd B (q i))(k:Sm n B (z6 M q n))(hB:B≤200000000)(s:n≤32)(hm:most≤100000){K:Nat}(x:5000≤K)(y:most<K):
  gS K (mx M n n) (mp q n) (most:Int)=some (aCE M q n most):=by
 have hng:=aCO hq (by omega) (show n≤1000 by omega) (show n<K by omega);have z:=k _ _ aQo;have s1:=aQ4 (q:=q) hM (by omega) (show n≤1000 by omega) (show n<K by omega) n 0 K (by omega) (by omega);have z1:mp (fun j=>((j:Nat):Int)) 0=[]:=rfl;have z2:mp (fun j:Nat=>j) 0=[]:=rfl;have F:mx (z6 M q n) 0 (2*n+2)=[]:=rfl;simp only[Int.natCast_zero,z1,z2,F]at s1;have st:pX K (mx M n n) (mp q n)=some ((n:Int),mp (fun j=>j) n,mp (fun j=>((j:Nat):Int)) n,mx (z6 M q n) n (2*n+2)):=by
  simp only[pX,s1,oB,pQ,aO]
 have c1:aW (2*(n:Int))=some ((2*n:Nat):Int):=by rw[t9 (by omega)];rfl
 by_cases hneg:ng q n 0=true
 ·have e:=aGb hneg;have hr:=aDt (T:=z6 M q n) n 0 0 e (by omega);have t:=aQq (bs:=mp (fun j=>((j:Nat):Int)) n) (aJq (T:=z6 M q n)) z hB (show n≤1000 by omega) (show 2000≤K by omega) n 0 K 0 (by omega) (by omega) e;simp only[Int.natCast_zero]at t;have u:=aVK (v6:=((n:Int),mp (fun j=>j) n,mp (fun j=>((j:Nat):Int)) n,mx (z6 M q n) n (2*n+2))) rfl k hB (show n≤1000 by omega) hm x (most+1) 0 K _ _ _ _ _ _ (by omega) (by omega) (by omega) aJq (aLo (M:=M) (q:=q) hr);simp only[Int.natCast_zero]at u;simp only[gS,zK hM hq (show B≤1073741824 by omega) s (show 100≤K by omega),oB,Bool.not_true,bE,dF (show¬(most:Int)<0 by omega),st,hng.1,hneg,aSs,t,rV,c1,u,aCE,bJ]
 ·have hneg':ng q n 0=false:=by cases h:ng q n 0 with|true=>exact absurd h hneg|false=>rfl
  obtain⟨G,I⟩:=aO5 (M:=M) (q:=q) (n:=n) n (Nat.le_refl _);have ps:=aMM (b:=fun j=>j) (aJq (T:=z6 M q n) (n:=n) (w:=2*n+2)) (show n≤1000 by omega) (show 2000≤K by omega);rw[G,I,cV (f:=fun j=>if j<n then q j else 0) (g:=q) fun i J=>if_pos J]at ps;simp only[gS,zK hM hq (show B≤1073741824 by omega) s (show 100≤K by omega),oB,Bool.not_true,bE,dF (show¬(most:Int)<0 by omega),st,hng.1,hneg',Bool.not_false,bJ,ps,aCE]
def rsB(M:Nat→Nat→Rat)(n:Nat)(y:Nat→Rat):Nat→Nat→Bool
 |0,_=>true
 |t+1,k=>bif decide (0<(sm (fun i=>y i*M i k) n).num.sign) then false else rsB M n y t (k+1)
def rfb(M:Nat→Nat→Rat)(q:Nat→Rat)(n:Nat)(y:Nat→Rat):Bool:=bif ng y n 0 then false else bif rsB M n y n 0 then decide ((sm (fun i=>q i*y i) n).num.sign<0) else false
theorem aJR{M:Nat→Nat→Rat}{n:Nat}{y:Nat→Rat}:∀t k,(∀j,k≤j→j<k+t→sm (fun i=>y i*M i j) n≤0)→rsB M n y t k=true
 |0,_,_=>rfl
 |t+1,k,h=>by
  unfold rsB;rw[decide_eq_false (fun hp=>absurd (aGB.1 hp) (Rat.not_lt.2 (h k (Nat.le_refl _) (by omega)))),bE];exact aJR t (k+1) fun j e f=>h j (by omega) (by omega)
theorem aKf{M:Nat→Nat→Rat}{q:Nat→Rat}{n:Nat}{y:Nat→Rat}(h:Rfd M q n y):rfb M q n y=true:=by
 unfold rfb;rw[aD4 h.y0,bE,aJR n 0 fun j _ e=>h.le j (by omega),bJ,decide_eq_true (aFf.2 h.lt)]
theorem aO7{M:Nat→Nat→Rat}{y:Nat→Rat}{a1:List Rat}{n j B:Nat}(s:a1.length=n)(hM:uF n n B M)(q:∀i,i<n→Bd B (y i))(F:n≤8)(hB:B≤10000)(h:j<n)(K:Nat):∀(t i k:Nat),i+t=n→t<k→jL K (mx M n n) a1 (mp y n) (j:Int) k (sm (fun i=>y i*M i j) i) (i:Int)=some (sm (fun i=>y i*M i j) n)
 |0,i,k,u,x=>by
  obtain⟨z,rfl,_⟩:=aT x;have:i=n:=by omega
  subst this;simp only[jL,s,dF (show¬(i:Int)<(i:Int) by omega),bE]
 |t+1,i,k,u,x=>by
  obtain⟨z,rfl,_⟩:=aT x;have hin:i<n:=by omega
  have sb:=aDO (f:=y) (e:=fun i=>M i j) (w:=n) q (fun i u=>hM i j u h) i (by omega);have G:i*(B+B+1)≤8*20001:=Nat.mul_le_mul (by omega) (by omega);have e:sm (fun i=>y i*M i j) i+y i*M i j=sm (fun i=>y i*M i j) (i+1):=rfl;simp only[jL,s,dT (show(i:Int)<(n:Int) by omega),bJ,cZ (f:=y) hin,aB6 (g:=M) (w:=n) hin,cZ (f:=M i) h,oB,aAD (q i hin) (hM i j hin h) (by omega) (by omega),aBf sb ((q i hin).mul (hM i j hin h)) (by omega) (by omega),e,rO (i:=i) (by omega)];exact aO7 s hM q F hB h K t (i+1) z (by omega) (by omega)
theorem aPj{M:Nat→Nat→Rat}{y:Nat→Rat}{a1:List Rat}{n B:Nat}(q:a1.length=n)(hM:uF n n B M)(s:∀i,i<n→Bd B (y i))(u:n≤8)(hB:B≤10000){K:Nat}(F:n<K):∀(t j k:Nat),j+t=n→t<k→f9 K (mx M n n) a1 (mp y n) k (j:Int)=some (bif rsB M n y t j then .go () else .ret false)
 |0,j,k,I,x=>by
  obtain⟨G,rfl,_⟩:=aT x;simp only[f9,q,dF (show¬(j:Int)<(n:Int) by omega),bE,rsB,bJ]
 |t+1,j,k,I,x=>by
  obtain⟨G,rfl,_⟩:=aT x;have hjn:j<n:=by omega
  have h:=aO7 q hM s u hB hjn K n 0 K (by omega) F;have z:sm (fun i=>y i*M i j) 0=0:=rfl;rw[z,Int.natCast_zero]at h;have sb:=aDO (f:=y) (e:=fun i=>M i j) (w:=n) s (fun i J=>hM i j J hjn) n (Nat.le_refl _);have L:n*(B+B+1)≤8*20001:=Nat.mul_le_mul u (by omega);have ih:=aPj q hM s u hB F t (j+1) G (by omega) (by omega);simp only[f9,q,dT (show(j:Int)<(n:Int) by omega),bJ,h,oB,qJ,mZ sb (by omega),rO (i:=j) (by omega),rsB];cases decide (0<(sm (fun i=>y i*M i j) n).num.sign) with
  |true=>simp only[bJ,bE]
  |false=>simp only[bE];exact ih
theorem aOH{M:Nat→Nat→Rat}{y:Nat→Rat}{a1:List Rat}{n j B:Nat}(s:a1.length=n)(hM:uF n n B M)(q:∀i,i<n→Bd B (y i))(F:n≤8)(hB:B≤10000)(h:j<n)(K:Nat):∀(t i k:Nat),i+t=n→t<k→iN K (mx M n n) a1 (mp y n) (j:Int) k (sm (fun i=>y i*M i j) i) (i:Int)=some (sm (fun i=>y i*M i j) n)
 |0,i,k,u,x=>by
  obtain⟨z,rfl,_⟩:=aT x;have:i=n:=by omega
  subst this;simp only[iN,s,dF (show¬(i:Int)<(i:Int) by omega),bE]
 |t+1,i,k,u,x=>by
  obtain⟨z,rfl,_⟩:=aT x;have hin:i<n:=by omega
  have sb:=aDO (f:=y) (e:=fun i=>M i j) (w:=n) q (fun i u=>hM i j u h) i (by omega);have G:i*(B+B+1)≤8*20001:=Nat.mul_le_mul (by omega) (by omega);have e:sm (fun i=>y i*M i j) i+y i*M i j=sm (fun i=>y i*M i j) (i+1):=rfl;simp only[iN,s,dT (show(i:Int)<(n:Int) by omega),bJ,cZ (f:=y) hin,aB6 (g:=M) (w:=n) hin,cZ (f:=M i) h,oB,aAD (q i hin) (hM i j hin h) (by omega) (by omega),aBf sb ((q i hin).mul (hM i j hin h)) (by omega) (by omega),e,rO (i:=i) (by omega)];exact aOH s hM q F hB h K t (i+1) z (by omega) (by omega)
theorem aPV{M:Nat→Nat→Rat}{y:Nat→Rat}{a1:List Rat}{n B:Nat}(q:a1.length=n)(hM:uF n n B M)(s:∀i,i<n→Bd B (y i))(u:n≤8)(hB:B≤10000){K:Nat}(F:n<K):∀(t j k:Nat),j+t=n→t<k→fK K (mx M n n) a1 (mp y n) k (j:Int)=some (bif rsB M n y t j then .go () else .ret false)
 |0,j,k,I,x=>by
  obtain⟨G,rfl,_⟩:=aT x;simp only[fK,q,dF (show¬(j:Int)<(n:Int) by omega),bE,rsB,bJ]
 |t+1,j,k,I,x=>by
  obtain⟨G,rfl,_⟩:=aT x;have hjn:j<n:=by omega
  have h:=aOH q hM s u hB hjn K n 0 K (by omega) F;have z:sm (fun i=>y i*M i j) 0=0:=rfl;rw[z,Int.natCast_zero]at h;have sb:=aDO (f:=y) (e:=fun i=>M i j) (w:=n) s (fun i J=>hM i j J hjn) n (Nat.le_refl _);have L:n*(B+B+1)≤8*20001:=Nat.mul_le_mul u (by omega);have ih:=aPV q hM s u hB F t (j+1) G (by omega) (by omega);simp only[fK,q,dT (show(j:Int)<(n:Int) by omega),bJ,h,oB,pL,mZ sb (by omega),rO (i:=j) (by omega),rsB];cases decide (0<(sm (fun i=>y i*M i j) n).num.sign) with
  |true=>simp only[bJ,bE]
  |false=>simp only[bE];exact ih
theorem aD2{M:Nat→Nat→Rat}{q y:Nat→Rat}{n B:Nat}(hM:uF n n B M)(hq:∀i,i<n→Bd B (q i))(h:∀i,i<n→Bd B (y i))(j:n≤8)(hB:B≤10000){K:Nat}(k:100≤K):cF K (mx M n n) (mp q n) (mp y n)=some (rfb M q n y)∧cR K (mx M n n) (mp q n) (mp y n)=some (rfb M q n y):=by
 have v1:=zK hM hq (by omega) (show n≤32 by omega) k;have v2:=aEi hM hq (by omega) (show n≤32 by omega) k;have g1:=aBV (w6 h) (by omega) (show(mp y n).length≤1000 by rw[aO];omega) (show(mp y n).length<K by rw[aO];omega);have u:=aB0 (w6 h) (by omega) (show(mp y n).length≤1000 by rw[aO];omega) (show(mp y n).length<K by rw[aO];omega);have ngy:=aCO h (by omega) (show n≤1000 by omega) (show n<K by omega);have s:=aPj (aO q n) hM h j hB (show n<K by omega) n 0 K (by omega) (by omega);have t:=aPV (aO q n) hM h j hB (show n<K by omega) n 0 K (by omega) (by omega);rw[Int.natCast_zero]at s t;have x:n*(B+B+1)≤8*20001:=Nat.mul_le_mul j (by omega);have d1:=aHv (f:=q) (e:=y) (w:=n) hq h (by omega) (by omega) (show n<K by omega);have d2:=(aLx (f:=q) (e:=y) (w:=n) hq h (by omega) (by omega) (show n<K by omega)).2;have sb:=aDO (f:=q) (e:=y) (w:=n) hq h n (Nat.le_refl _);unfold rfb;constructor
 ·simp only[cF,v1,oB,Bool.not_true,bE,aO,nF (rfl:(n:Int)=(n:Int)),g1,ngy.1];cases ng y n 0 with
  |true=>simp only[bJ]
  |false=>
   simp only[bE,s,oB];cases rsB M n y n 0 with
   |true=>simp only[bJ,qP,d1,oB,mZ sb (show 1+n*(B+B+1)≤1073741824 by omega)]
   |false=>simp only[bE]
 ·simp only[cR,v2,oB,Bool.not_true,bE,aO,nF (rfl:(n:Int)=(n:Int)),u,ngy.2];cases ng y n 0 with
  |true=>simp only[bJ]
  |false=>
   simp only[bE,t,oB];cases rsB M n y n 0 with
   |true=>simp only[bJ,pN,d2,oB,mZ sb (show 1+n*(B+B+1)≤1073741824 by omega)]
   |false=>simp only[bE]
theorem aIQ{M:Nat→Nat→Rat}{q:Nat→Rat}{n:Nat}{z:List Rat}(k:PB6 n M q)(u:n≤6)(s:Bds 1000 z){K:Nat}(h:100≤K):∃b,cF K (mx M n n) (mp q n) z=some b∧cR K (mx M n n) (mp q n) z=some b:=by
 have hM:uF n n 1000 M:=fun i c f hc=>(sH (k.1 i c f hc)).mono (by omega)
 have hq:∀i,i<n→Bd 1000 (q i):=fun i f=>(sH (k.2 i f)).mono (by omega)
 by_cases e:z.length=n
 ·have j:∀i,i<n→Bd 1000 (at' z i):=fun i f=>aT9 s i (by omega)
  have t:z=mp (at' z) n:=by rw[←e];exact aUb z
  rw[t];exact⟨_,aD2 hM hq j (by omega) (by omega) h⟩
 ·refine⟨false,?_,?_⟩
  ·simp only[cF,zK hM hq (by omega) (show n≤32 by omega) h,oB,Bool.not_true,bE,aO,nT (show(z.length:Int)≠(n:Int) by omega),bJ]
  ·simp only[cR,aEi hM hq (by omega) (show n≤32 by omega) h,oB,Bool.not_true,bE,aO,nT (show(z.length:Int)≠(n:Int) by omega),bJ]
theorem z9{M:List (List Rat)}{q z:List Rat}{K:Nat}:cC K (M.map (List.map Qr)) (q.map Qr) z=cF K M q z:=by
 unfold cC;rw[aEN,aEA]
theorem y8{M:List (List Rat)}{q z:List Rat}{K:Nat}:bU K (M.map (List.map Qr)) (q.map Qr) z=cR K M q z:=by
 unfold bU;rw[aEN,aEA]
theorem aIf{M:List (List Rat)}{q:List Rat}{K:Nat}:gX K (M.map (List.map Qr)) (q.map Qr)=fV K M q:=by
 unfold gX;rw[aEN,aEA]
theorem aIA{M:List (List Rat)}{q:List Rat}{K:Nat}:iB K (M.map (List.map Qr)) (q.map Qr)=fU K M q:=by
 unfold iB;rw[aEN,aEA]
theorem aKz{X:List (List aF)}{Y:List aF}{K:Nat}(h:aSh K X Y)(z:List Rat):cC K X Y z=some false∧bU K X Y z=some false:=by
 rcases h with⟨M,q,rfl,rfl,j,k⟩|⟨s,j,k⟩
 ·rw[z9,y8];constructor
  ·simp only[cF,j,oB,Bool.not_false,bJ]
  ·simp only[cR,k,oB,Bool.not_false,bJ]
 ·constructor
  ·have hr:nE K X Y (z.map Qr)=some false:=by simp only[nE,j,oB,Bool.not_false,bJ]
   unfold cC;split
   ·rename_i M q e f;rcases s with h|h
    ·rw[h]at e;cases e
    ·rw[h]at f;cases f
   ·exact hr
  ·have hr:mJ K X Y (z.map Qr)=some false:=by simp only[mJ,k,oB,Bool.not_false,bJ]
   unfold bU;split
   ·rename_i M q e f;rcases s with h|h
    ·rw[h]at e;cases e
    ·rw[h]at f;cases f
   ·exact hr
theorem aGn{X:List (List aF)}{Y:List aF}{K:Nat}(h:aSh K X Y):gX K X Y=some ([],1)∧iB K X Y=some false:=by
 rcases h with⟨M,q,rfl,rfl,j,k⟩|⟨s,j,k⟩
 ·rw[aIf,aIA];exact⟨by simp only[fV,j,oB,Bool.not_false,bJ],k⟩
 ·constructor
  ·have hr:lN K X Y=some ([],1):=by simp only[lN,j,oB,Bool.not_false,bJ]
   unfold gX;split
   ·rename_i M q e f;rcases s with h|h
    ·rw[h]at e;cases e
    ·rw[h]at f;cases f
   ·rw[hr,oB,if_pos rfl]
  ·unfold iB;split
   ·rename_i M q e f;rcases s with h|h
    ·rw[h]at e;cases e
    ·rw[h]at f;cases f
   ·exact k
theorem aPX{M:Nat→Nat→Rat}{q:Nat→Rat}{how b:Int}{K:Nat}(j:1001≤K):nD K (mx M 0 0) (mp q 0) how b=some ([[]],[])∧aSh K [[]] []:=by
 refine⟨?_,Or.inl ⟨[[]],[],rfl,rfl,aBL (B:=12) (fun r hr=>?_) (fun x h=>absurd h List.not_mem_nil) (by omega) (by simp) (by simp) (Or.inl (by simp)) j⟩⟩
 ·have e:=aLw (X:=rwX M 0) (by rw[vF];omega) (fun r hr=>by rw[(aEQ hr).1];omega) K 0 0 K (by rw[vF]) (by omega);rw[vF]at e;have f:dD K (rwX M 0) K ([]:List Nat) ([]:List (List aF)) 0=some (mp id 0,rwX M 0):=e;have a1:rQ ([]:List aF) ((mp q 0).map Qr)=some []:=rfl;have k:wW (rwX M 0) (mp id 0)=[]:=rfl;have s:((mp id 0:List Nat).length:Int)=0:=rfl;show eJ K (rwX M 0) _ _ _=_;simp only[eJ,f,oB,iS,a1,s,qT (rfl:(0:Int)=0),bJ,k];rfl
 ·rw[List.mem_singleton.1 hr];exact⟨fun x h=>absurd h List.not_mem_nil,by simp⟩
theorem aLg{M:Nat→Nat→Rat}{q:Nat→Rat}{n:Nat}(e:PB6 n M q)(h:n≤6){m:Nat}(j:m≤800){K:Nat}(k:6000≤K):gS K (mx M n n) (mp q n) (m:Int)=some (aHJ M q n m):=by
 have hM:uF n n 200 M:=fun i c f hc=>(sH (e.1 i c f hc)).mono (by omega)
 have hq:∀i,i<n→Bd 200 (q i):=fun i f=>(sH (e.2 i f)).mono (by omega)
 unfold aHJ;rw[if_neg (by omega)];exact aLG (most:=m) hM hq (aNp e h) (by omega) (by omega) (by omega) (by omega) (by omega)
theorem aKL{M:Nat→Nat→Rat}{q:Nat→Rat}{n:Nat}(f:PB6 n M q)(k:n≤5)(h:∀z,¬Fsb M q n z)(c:Nat):aAL M q n c=[]:=by
 have hM:uF n n 12 M:=fun i c e hc=>sH (f.1 i c e hc)
 have hq:∀i,i<n→Bd 12 (q i):=fun i e=>sH (f.2 i e)
 cases j:aAL M q n c with
 |nil=>rfl
 |cons x l=>
  obtain⟨z,_,z2,_⟩:=aNw hM hq (show n≤6 by omega) c x (by rw[j];exact List.mem_cons_self);exact(h z (aR7.1 z2).fsb).elim
theorem aMJ{v1:(List (List Rat))×(List Rat)}{v3:(List (List aF))×(List aF)}{v18:(List Rat)×Int}{x33 v42:List Rat}{K:Nat}(h:∀z,z∈[v18.1,x33,v42,[]]→(∃b,cF K v1.1 v1.2 z=some b∧cR K v1.1 v1.2 z=some b)∧∃b,cC K v3.1 v3.2 z=some b∧bU K v3.1 v3.2 z=some b):∀(t i k:Nat),i+t=4→t<k→cX K v1 v3 v18 x33 v42 k (i:Int)=some (.go ())
 |0,i,k,q,f=>by
  obtain⟨j,rfl,_⟩:=aT f;have e:[v18.1,x33,v42,[]].length=4:=rfl;simp only[cX,e,dF (show¬(i:Int)<((4:Nat):Int) by omega),bE]
 |t+1,i,k,q,f=>by
  obtain⟨j,rfl,_⟩:=aT f;have e:[v18.1,x33,v42,[]].length=4:=rfl;obtain⟨z,z1,_,s⟩:=rdM (xs:=[v18.1,x33,v42,[]]) (i:=i) (by rw[e];omega);obtain⟨⟨b,u,b2⟩,b',x,y⟩:=h z z1;simp only[cX,e,dT (show(i:Int)<((4:Nat):Int) by omega),bJ,s,oB,u,b2,x,y,bne_self_eq_false,bE,rO (i:=i) (by omega)];exact aMJ h t (i+1) j (by omega) (by omega)
theorem aRL{M:Nat→Nat→Rat}{q:Nat→Rat}{n K:Nat}{r:List Rat×Int}{fz:List Rat×Bool}(f:PB6 n M q)(s:n≤5)(hr:aQV M q n r)(I:aO9 M q n fz)(J:6000≤K):gA K (mx M n n,mp q n) r fz=some true:=by
 have hM:uF n n 1000 M:=fun i c e hc=>(sH (f.1 i c e hc)).mono (by omega)
 have hq:∀i,i<n→Bd 1000 (q i):=fun i e=>(sH (f.2 i e)).mono (by omega)
 have t:=aD7 (K:=K) (by omega);unfold gA;rcases I.is with⟨f1,z,f2,f3,f4⟩|⟨f1,y,f2⟩
 ·have L:r.2=6:=by
   rcases hr.is with⟨_,X,_,j,_⟩|⟨h,_,_⟩
   ·exact(aGg j f3).elim
   ·exact h
  have zb:∀i,i<n→Bd 1000 (z i):=fun i e=>(f4 i e).mono (by omega)
  have O:=aV4 (K:=K) hM hq zb (by omega) (by omega) (by omega);have h8:n*(1000+1000+1)≤5*2001:=Nat.mul_le_mul s (by omega);have hw:=aLC (m:=100000) hM hq zb (by omega);have u:=(aCO zb (by omega) (show n≤1000 by omega) (show n<K by omega)).2;have x:=(aCO hw (by omega) (show n≤1000 by omega) (show n<K by omega)).2;rw[aD4 f3.z0]at u;rw[aD4 f3.w0]at x;simp only[f1,bJ,qT L,f2,aO,qT (rfl:(n:Int)=(n:Int)),u,oB,Bool.not_false,O,x,t]
 ·have U:∃X,r.2=0∧r.1=mp X n∧Rfd M q n X∧∀i,i<n→Bd 500 (X i):=by
   rcases hr.is with⟨h,X,V,j,hb⟩|⟨_,_,h⟩
   ·exact⟨X,h,V,j,hb⟩
   ·exact(h y f2).elim
  obtain⟨X,x1,Y,x3,x4⟩:=U;have nof:∀z,¬Fsb M q n z:=fun z hz=>aGg f2 hz
  have F:=aJ6 (K:=K) (B:=12) (fun i c e hc=>sH (f.1 i c e hc)) (fun i e=>sH (f.2 i e)) (show n≤6 by omega) (by omega) (by omega) (by omega);rw[aKL f s nof]at F;have G:=aLg (m:=800) f (show n≤6 by omega) (by omega) J;have e8:((800:Nat):Int)=800:=rfl;rw[e8]at G;have k:(aHJ M q n 800).2≠0:=by
   rcases aMo f (show n≤6 by omega) 800 with⟨h,_⟩|⟨_,z,w,_,_,hs,_⟩
   ·exact h
   ·exact(nof z hs.fsb).elim
  have hR:=(aD2 (K:=K) hM hq (fun i e=>(x4 i e).mono (by omega)) (by omega) (by omega) (by omega)).1;have e0:((([]:List (List Rat)).length:Nat):Int)=0:=rfl;simp only[f1,bE,F,oB,G,qT x1,bJ,Y,hR,aKf x3,qT (rfl:(0:Int)=0),e0,nT k,t]
theorem aRM{M:Nat→Nat→Rat}{q:Nat→Rat}{n K:Nat}{r:List Rat×Int}{fz:List Rat×Bool}{X:List (List aF)}{Y:List aF}{a3:List Int}{x33:List Rat}(k:PB6 n M q)(s:n≤5)(hr:aQV M q n r)(t:aO9 M q n fz)(u:zI a3)(hb:Bds 1000 r.1)(j:Bds 1000 x33)(hm:∀z,Bds 1000 z→∃b,cC K X Y z=some b∧bU K X Y z=some b)(y:6000≤K):dY K a3 (mx M n n,mp q n) (X,Y) r fz x33=some true:=by
 obtain⟨tkn,e⟩:=aMx u (m:=5);obtain⟨t1,t2,t3⟩:lY a3 5=some tkn∧zI tkn∧tkn.length≤5:=by
  rcases e with h|h
  ·exact h
  ·omega
 obtain⟨o,F,G,I⟩:=aSo t2 (by omega) (show tkn.length<K by omega);have f:=aMJ (K:=K) (v1:=(mx M n n,mp q n)) (v3:=(X,Y)) (v18:=r) (x33:=x33) (v42:=o) (fun z hzm=>by
  have zb:Bds 1000 z:=by
   simp only[List.mem_cons,List.not_mem_nil,or_false]at hzm;rcases hzm with rfl|rfl|rfl|rfl
   ·exact hb
   ·exact j
   ·exact G.mono' (by omega)
   ·exact fun x j=>absurd j List.not_mem_nil
  exact⟨aIQ k (by omega) zb (by omega),hm z zb⟩) 4 0 K (by omega) (by omega)
 rw[Int.natCast_zero]at f;simp only[dY,t1,oB,F,f,aRL k s hr t y]
theorem aKF{v1:(List (List Rat))×(List Rat)}{v3:(List (List aF))×(List aF)}{v18:(List Rat)×Int}{x33 v42:List Rat}{K:Nat}(h:∀z,z∈[v18.1,x33,v42,[]]→(∃b,cF K v1.1 v1.2 z=some b∧cR K v1.1 v1.2 z=some b)∧∃b,cC K v3.1 v3.2 z=some b∧bU K v3.1 v3.2 z=some b):∀(t i k:Nat),i+t=4→t<k→cO K v1 v3 v18 x33 v42 k (i:Int)=some (.go ())
 |0,i,k,q,f=>by
  obtain⟨j,rfl,_⟩:=aT f;have e:[v18.1,x33,v42,[]].length=4:=rfl;simp only[cO,e,dF (show¬(i:Int)<((4:Nat):Int) by omega),bE]
 |t+1,i,k,q,f=>by
  obtain⟨j,rfl,_⟩:=aT f;have e:[v18.1,x33,v42,[]].length=4:=rfl;obtain⟨z,z1,_,s⟩:=rdM (xs:=[v18.1,x33,v42,[]]) (i:=i) (by rw[e];omega);obtain⟨⟨b,u,b2⟩,b',x,y⟩:=h z z1;simp only[cO,e,dT (show(i:Int)<((4:Nat):Int) by omega),bJ,s,oB,u,b2,x,y,bne_self_eq_false,bE,rO (i:=i) (by omega)];exact aKF h t (i+1) j (by omega) (by omega)
theorem aPL{M:Nat→Nat→Rat}{q:Nat→Rat}{n K:Nat}{r:List Rat×Int}{fz:List Rat×Bool}(f:PB6 n M q)(s:n≤5)(hr:aQV M q n r)(I:aO9 M q n fz)(J:6000≤K):fT K (mx M n n,mp q n) r fz=some true:=by
 have hM:uF n n 1000 M:=fun i c e hc=>(sH (f.1 i c e hc)).mono (by omega)
 have hq:∀i,i<n→Bd 1000 (q i):=fun i e=>(sH (f.2 i e)).mono (by omega)
 have t:=aD7 (K:=K) (by omega);unfold fT;rcases I.is with⟨f1,z,f2,f3,f4⟩|⟨f1,y,f2⟩
 ·have L:r.2=6:=by
   rcases hr.is with⟨_,X,_,j,_⟩|⟨h,_,_⟩
   ·exact(aGg j f3).elim
   ·exact h
  have zb:∀i,i<n→Bd 1000 (z i):=fun i e=>(f4 i e).mono (by omega)
  have O:=aV4 (K:=K) hM hq zb (by omega) (by omega) (by omega);have h8:n*(1000+1000+1)≤5*2001:=Nat.mul_le_mul s (by omega);have hw:=aLC (m:=100000) hM hq zb (by omega);have u:=(aCO zb (by omega) (show n≤1000 by omega) (show n<K by omega)).2;have x:=(aCO hw (by omega) (show n≤1000 by omega) (show n<K by omega)).2;rw[aD4 f3.z0]at u;rw[aD4 f3.w0]at x;simp only[f1,bJ,qT L,f2,aO,qT (rfl:(n:Int)=(n:Int)),u,oB,Bool.not_false,O,x,t]
 ·have U:∃X,r.2=0∧r.1=mp X n∧Rfd M q n X∧∀i,i<n→Bd 500 (X i):=by
   rcases hr.is with⟨h,X,V,j,hb⟩|⟨_,_,h⟩
   ·exact⟨X,h,V,j,hb⟩
   ·exact(h y f2).elim
  obtain⟨X,x1,Y,x3,x4⟩:=U;have nof:∀z,¬Fsb M q n z:=fun z hz=>aGg f2 hz
  have F:=aJ6 (K:=K) (B:=12) (fun i c e hc=>sH (f.1 i c e hc)) (fun i e=>sH (f.2 i e)) (show n≤6 by omega) (by omega) (by omega) (by omega);rw[aKL f s nof]at F;have G:=aLg (m:=800) f (show n≤6 by omega) (by omega) J;have e8:((800:Nat):Int)=800:=rfl;rw[e8]at G;have k:(aHJ M q n 800).2≠0:=by
   rcases aMo f (show n≤6 by omega) 800 with⟨h,_⟩|⟨_,z,w,_,_,hs,_⟩
   ·exact h
   ·exact(nof z hs.fsb).elim
  have hR:=(aD2 (K:=K) hM hq (fun i e=>(x4 i e).mono (by omega)) (by omega) (by omega) (by omega)).1;have e0:((([]:List (List Rat)).length:Nat):Int)=0:=rfl;simp only[f1,bE,F,oB,G,qT x1,bJ,Y,hR,aKf x3,qT (rfl:(0:Int)=0),e0,nT k,t]
theorem aPN{M:Nat→Nat→Rat}{q:Nat→Rat}{n K:Nat}{r:List Rat×Int}{fz:List Rat×Bool}{X:List (List aF)}{Y:List aF}{a3:List Int}{x33:List Rat}(k:PB6 n M q)(s:n≤5)(hr:aQV M q n r)(t:aO9 M q n fz)(u:zI a3)(hb:Bds 1000 r.1)(j:Bds 1000 x33)(hm:∀z,Bds 1000 z→∃b,cC K X Y z=some b∧bU K X Y z=some b)(y:6000≤K):dU K a3 (mx M n n,mp q n) (X,Y) r fz x33=some true:=by
 obtain⟨tkn,e⟩:=aMx u (m:=5);obtain⟨t1,t2,t3⟩:lY a3 5=some tkn∧zI tkn∧tkn.length≤5:=by
  rcases e with h|h
  ·exact h
  ·omega
 obtain⟨o,F,G,I⟩:=aSo t2 (by omega) (show tkn.length<K by omega);have f:=aKF (K:=K) (v1:=(mx M n n,mp q n)) (v3:=(X,Y)) (v18:=r) (x33:=x33) (v42:=o) (fun z hzm=>by
  have zb:Bds 1000 z:=by
   simp only[List.mem_cons,List.not_mem_nil,or_false]at hzm;rcases hzm with rfl|rfl|rfl|rfl
   ·exact hb
   ·exact j
   ·exact G.mono' (by omega)
   ·exact fun x j=>absurd j List.not_mem_nil
  exact⟨aIQ k (by omega) zb (by omega),hm z zb⟩) 4 0 K (by omega) (by omega)
 rw[Int.natCast_zero]at f;simp only[dU,t1,oB,F,f,aPL k s hr t y]
theorem aCi{a0:List Int}{a1 a2:Int}{a3:List Int}(h0:zI a0)(h1:I64 a1)(h2:I64 a2)(h3:zI a3):∃K,jP K a0 a1 a2 a3=some true:=by
 obtain⟨n,M,q,u,t,hF⟩:=aL9 h0 (most:=5) (by omega) (by omega);have s5:((5:Nat):Int)=5:=rfl;by_cases hn0:n=0
 ·subst hn0;refine⟨6000,?_⟩;have f:=hF 6000 (by omega);rw[s5]at f;obtain⟨hS,hbad⟩:=aPX (M:=M) (q:=q) (how:=a1) (b:=a2) (show 1001≤6000 by omega);obtain⟨y,b2⟩:=aGn hbad;simp only[jP,f,oB,hS,y,b2,Bool.not_false,bJ,nF (rfl:(1:Int)=1),bE,aO,qT (show((0:Nat):Int)=0 from rfl),qT (rfl:(1:Int)=1),aD7 (K:=6000) (by omega)]
 obtain⟨X,Y,K0,hS,hXY⟩:=aN9 t (by omega) h1 h2;obtain⟨r,hr,hR⟩:=aIz t u (by omega);obtain⟨fz,hf,F⟩:=aKn t u;generalize hP1:(2*n+2*(2*n+1))^(2*n+1)=P1 at hR;generalize hP2:(2*n+2*(2*n))^(2*n)=P2 at F;refine⟨K0+P1+P2+6000,?_⟩;generalize hK:K0+P1+P2+6000=K;have f:=hF K (by omega);rw[s5]at f;have rb:Bds 500 r.1∧r.1.length≤n:=by
  rcases hr.is with⟨_,X,h,_,hb⟩|⟨_,h,_⟩
  ·rw[h];exact⟨w6 hb,by rw[aO];exact Nat.le_refl _⟩
  ·rw[h];exact⟨fun x hx=>absurd hx List.not_mem_nil,Nat.zero_le _⟩
 have ap:rQ ([]:List Rat) r.1=some r.1:=xV (by show 0+_≤_;omega);obtain⟨bl,G,bl2⟩:∃bl:List Rat,Bds 1000 bl∧∀(c:List Rat→Option Bool),(bif(decide (0<(r.1.length:Int))) then((bS a2 (r.1.length:Int)).bind fun j=>(bR r.1 j).bind fun I=>(bS a1 3).bind fun J=>(qof J 2).bind fun L=>(aFs I L).bind fun O=>(bR r.1 j).bind fun v111=>(rZ r.1 j O).bind fun U=>c U) else c r.1)=c bl:=by
  by_cases hl:0<r.1.length
  ·obtain⟨i,i1,i2,i3⟩:=yE (x:=a2) h2 (m:=(r.1.length:Int)) (by omega);obtain⟨i,rfl⟩:∃k:Nat,i=k:=⟨i.toNat,by omega⟩;obtain⟨v,v1,v2,v3⟩:=yE (x:=a1) h1 (m:=3) (by omega);obtain⟨w,w1,w2⟩:=aCV (p:=v) (q:=2) (m:=4) (by omega) (by omega) (by omega) (by omega);have wb:Bd 12 w:=sH (aJu w2 (by omega));have zi:=rb.1 _ (aD1 (l:=r.1) (i:=i) (by omega));refine⟨r.1.set i (at' r.1 i-w),fun x hx=>?_,fun c=>?_⟩
   ·rcases List.mem_or_eq_of_mem_set hx with h|h
    ·exact(rb.1 x h).mono (by omega)
    ·rw[h];exact(zi.sub wb).mono (by omega)
   ·simp only[dT (show(0:Int)<(r.1.length:Int) by omega),bJ,i1,oB,aOB (l:=r.1) (i:=i) (by omega),v1,w1,aCu zi wb (by omega) (by omega),stG (xs:=r.1) (i:=i) (v:=at' r.1 i-w) (by omega)]
  ·exact⟨r.1,rb.1.mono' (by omega),fun c=>by rw[dF (show¬(0:Int)<(r.1.length:Int) by omega),bE]⟩
 have hm:(∃b,iB K X Y=some b∧∃e:List Rat×Int,gX K X Y=some e∧(b=false→e.2=1))∧∀z,Bds 1000 z→∃b,cC K X Y z=some b∧bU K X Y z=some b:=by
  rcases hXY with⟨M',s,rfl,rfl⟩|hbad
  ·obtain⟨e,_,he⟩:=aIz s u (by omega);rw[hP1]at he;have hM':uF n n 12 M':=fun i c hi hc=>sH (s.1 i c hi hc)
   have hq:∀i,i<n→Bd 12 (q i):=fun i hi=>sH (t.2 i hi)
   refine⟨⟨true,by rw[aIA];exact aEi hM' hq (by omega) (by omega) (by omega),e,by rw[aIf];exact he K (by omega),fun h=>(by cases h)⟩,fun z hz=>?_⟩;rw[z9,y8];exact aIQ s (by omega) hz (by omega)
  ·have hb:=hbad K (by omega);obtain⟨y,b2⟩:=aGn hb;exact⟨⟨false,b2,_,y,fun _=>rfl⟩,fun z _=>⟨false,aKz hb z⟩⟩
 obtain⟨⟨b,y,e,e1,e2⟩,V⟩:=hm;have r1:=hR K (by omega);have f1:=F K (by omega);have m1:=aRM (X:=X) (Y:=Y) (x33:=bl) t u hr hf h3 (rb.1.mono' (by omega)) G V (show 6000≤K by omega);have m2:=aPN (X:=X) (Y:=Y) (x33:=bl) t u hr hf h3 (rb.1.mono' (by omega)) G V (show 6000≤K by omega);simp only[jP,f,oB,hS K (by omega),e1,y,aO,qF (show¬(n:Int)=0 by omega),bE,r1,f1,ap,bl2,m1,m2];cases hbb:b with
 |true=>simp only[Bool.not_true,bE]
 |false=>simp only[Bool.not_false,bJ,nF (e2 hbb),bE]
end Go.Proofs.YtolfcbpgmfbgmaaGreat
