/- Texts of the proof, part 5: Q2 QZ LB MA MB MC MR MT LG LV MS MN MP MU YC YD LD LS XL XF XA XU XV XW XX XY YE YF YG YH YI YJ YK YL YV WA WB WC SA SC WD SD SE SF SG MD SH SJ SL SM. -/
import Derived.Test.YtnmdhmfofbfkjaaGreatZ4
set_option linter.unusedSimpArgs false
set_option linter.unusedVariables false
set_option maxRecDepth 100000
namespace Go.Proofs.YtnmdhmfofbfkjaaGreat
def iW(K:Nat):Option Bool:=
 some false
def iX(K:Nat)(f:Int)(h:Int)(e:(List Int)→Int→Int→Option (LR Bool Unit))(j:List Int):Option (LR Bool Unit):=
 (aV (f+1)).bind fun k=>e j h k
def dL(K:Nat)(a2:Int):Nat→(List Int)→Int→Option (List Int)
 |0,_,_=>none
 |k+1,f,e=>bif(decide (e<a2)) then((cT f e).bind fun G=>(aV (e-1)).bind fun q=>(cT f q).bind fun s=>(gW G s).bind fun t=>bif(!t) then(some f) else((aV (e-1)).bind fun h=>(aV (e-1)).bind fun u=>(cT f u).bind fun x=>(cT f e).bind fun y=>(cT f e).bind fun I=>(oZ f e x).bind fun j=>(cT j h).bind fun J=>(oZ j h y).bind fun z=>(aV (e+1)).bind fun F=>dL K a2 k z F)) else(some f)
def dK(K:Nat)(a2:Int)(h:Int)(f:Int)(e:(List Int)→Int→Int→Option (LR Bool Unit))(j:List Int):Option (LR Bool Unit):=
 (aV (a2-f)).bind fun q=>bif(decide (2≤q)) then((aV (f+1)).bind fun s=>(dL K a2 K j s).bind fun t=>iX K h f e t) else((aV (h+1)).bind fun k=>e j f k)
def iP(K:Nat)(a2:Int)(h:Int)(j:Int)(e:(List Int)→Int→Int→Option (LR Bool Unit))(f:List Int):Option (LR Bool Unit):=
 dK K a2 h j e f
def dE(K:Nat):Nat→(List Int)→Int→Option (List Int)
 |0,_,_=>none
 |k+1,f,e=>bif(decide (1≤e)) then((cT f e).bind fun q=>(aV (e-1)).bind fun s=>(cT f s).bind fun t=>(gW q t).bind fun u=>bif(!u) then(some f) else((aV (e-1)).bind fun h=>(aV (e-1)).bind fun x=>(cT f x).bind fun y=>(cT f e).bind fun z=>(cT f e).bind fun I=>(oZ f e y).bind fun j=>(cT j h).bind fun J=>(oZ j h z).bind fun F=>(aV (e-1)).bind fun G=>dE K k F G)) else(some f)
def iU(K:Nat)(a1:Int)(a2:Int)(h:List Int)(j:Int)(f:(List Int)→Int→Int→Option (LR Bool Unit))(e:Int):Option (LR Bool Unit):=
 bif(e==a2) then(some (.ret true)) else((aV (a2-a1)).bind fun y=>bif(decide (y<50)) then(some (.ret false)) else((aV (e-1)).bind fun k=>(aV (e-1)).bind fun z=>(cT h z).bind fun F=>(cT h e).bind fun G=>(cT h e).bind fun I=>(oZ h e F).bind fun q=>(cT q k).bind fun J=>(oZ q k G).bind fun s=>(aV (e-a1)).bind fun t=>bif(decide (2≤t)) then((aV (e-1)).bind fun u=>(dE K K s u).bind fun x=>iP K a2 j e f x) else(dK K a2 j e f s)))
def dI(K:Nat)(a2:Int)(f:List Int):Nat→Int→Option Int
 |0,_=>none
 |k+1,e=>bif(decide (e<a2)) then((cT f e).bind fun h=>(aV (e-1)).bind fun j=>(cT f j).bind fun q=>(gW h q).bind fun s=>bif(!s) then((aV (e+1)).bind fun t=>dI K a2 f k t) else(some e)) else(some e)
def dH(K:Nat)(a1:Int)(a2:Int):Nat→(List Int)→Int→Int→Option (LR Bool Unit)
 |0,_,_,_=>none
 |k+1,e,h,f=>bif(decide (f<5)) then((dI K a2 e K h).bind fun j=>iU K a1 a2 e f (dH K a1 a2 k) j) else(some (.go ()))
def rS(K:Nat)(e:List Int)(a1:Int)(a2:Int):Option Bool:=
 (aV (a1+1)).bind fun f=>(dH K a1 a2 K e f 0).bind fun o=>match o with| .ret r=>some r| .go _=>iW K
def mX(K:Nat)(a1:Int)(e:List Int)(f:Int):Option (Int×Bool):=
 (cT e a1).bind fun j=>(cT e f).bind fun k=>(cT e f).bind fun q=>(oZ e f j).bind fun h=>(cT h a1).bind fun s=>(oZ h a1 k).bind fun t=>some (f,false)
def mW(K:Nat)(h:List Int)(f:Int)(j:(List Int)→Int→Int→Option ((List Int)×Int))(e:Int):Option ((List Int)×Int):=
 bif(decide (e<f)) then(some (h,e)) else((cT h e).bind fun q=>(cT h f).bind fun s=>(cT h f).bind fun y=>(oZ h f q).bind fun k=>(cT k e).bind fun z=>(oZ k e s).bind fun t=>(aV (f+1)).bind fun u=>(aV (e-1)).bind fun x=>j t u x)
def iB(K:Nat)(a1:Int)(h:List Int)(f:Int):Nat→Int→Option Int
 |0,_=>none
 |k+1,e=>bif(decide (f≤e)) then((cT h e).bind fun j=>(cT h a1).bind fun q=>(gW j q).bind fun s=>bif(!s) then((aV (e-1)).bind fun t=>iB K a1 h f k t) else(some e)) else(some e)
def mV(K:Nat)(a1:Int)(h:List Int)(k:Int)(e:(List Int)→Int→Int→Option ((List Int)×Int))(f:Int):Option ((List Int)×Int):=
 (iB K a1 h f K k).bind fun j=>mW K h f e j
def iC(K:Nat)(a1:Int)(f:List Int)(h:Int):Nat→Int→Option Int
 |0,_=>none
 |k+1,e=>bif(decide (e≤h)) then((cT f e).bind fun j=>(cT f a1).bind fun q=>(gW j q).bind fun s=>bif s then((aV (e+1)).bind fun t=>iC K a1 f h k t) else(some e)) else(some e)
def iD(K:Nat)(a1:Int):Nat→(List Int)→Int→Int→Option ((List Int)×Int)
 |0,_,_,_=>none
 |k+1,e,j,f=>(iC K a1 e f K j).bind fun h=>mV K a1 e f (iD K a1 k) h
def uT(K:Nat)(a1:Int)(f:List Int)(h:Int)(e:Int):Option (Int×Bool):=
 bif(decide (e<h)) then((cT f a1).bind fun q=>(cT f e).bind fun s=>(cT f e).bind fun I=>(oZ f e q).bind fun j=>(cT j a1).bind fun J=>(oZ j a1 s).bind fun L=>some (e,true)) else((cT f e).bind fun t=>(cT f h).bind fun u=>(cT f h).bind fun O=>(oZ f h t).bind fun k=>(cT k e).bind fun U=>(oZ k e u).bind fun x=>(aV (h+1)).bind fun y=>(aV (e-1)).bind fun z=>(iD K a1 K x y z).bind fun(F,G)=>mX K a1 F G)
def cR(K:Nat)(e:List Int):Option (List Int):=
 some e
def cS(K:Nat)(f:Int)(e:(List Int)→Int→Option (List Int))(h:List Int):Option (List Int):=
 (aV (f+1)).bind fun j=>e h j
def bJ(K:Nat)(I:Int):Nat→(List Int)→Int→Option (List Int)
 |0,_,_=>none
 |k+1,f,e=>bif(decide (I<e)) then((cT f e).bind fun q=>(aV (e-1)).bind fun s=>(cT f s).bind fun t=>(gW q t).bind fun u=>bif u then((aV (e-1)).bind fun h=>(aV (e-1)).bind fun x=>(cT f x).bind fun y=>(cT f e).bind fun z=>(cT f e).bind fun J=>(oZ f e y).bind fun j=>(cT j h).bind fun L=>(oZ j h z).bind fun F=>(aV (e-1)).bind fun G=>bJ K I k F G) else(some f)) else(some f)
def aY(K:Nat)(j:Int)(a1:Int):Nat→(List Int)→Int→Option (List Int)
 |0,_,_=>none
 |k+1,f,e=>bif(decide (e<a1)) then((bJ K j K f e).bind fun h=>cS K e (aY K j a1 k) h) else(some f)
def dA(K:Nat)(f:Int)(a1:Int)(a2:List Int):Option (List Int):=
 (aV (f+1)).bind fun h=>(aY K f a1 K a2 h).bind fun e=>cR K e
theorem lF{K:Nat}{U:Int}{a1:Int}{a2:List Int}{r:List Int}(e:dA K U a1 a2=some r){b2:Option Nat}{u h:Nat}(q5:a2.length=h):xD Tryz.prog 152 [hO cI b2 u 3 h a2] [.vc (pO b2 h u),vI U,vI a1] (fun Ho q=>r.length=h∧Ho=[hO cI b2 u 3 h r]∧q=.any):=by
 unfold dA at e;refine aD Tryz.func152 rfl (by kernel_rfl) Tryz.ntmps152 rfl (fun w0 M0=>?_);obtain⟨v7,h8,e⟩:=aR e;refine go ?_ ?_;refine aO (bM (fun H E=>∃(V:List Int),cR K V=some r∧V.length=h∧H=[hO cI b2 u 3 h V]∧E=[]) ?_ (fun Jj30=>?_))
 ·rintro _ _ ⟨V,e,q27,rfl,rfl⟩;unfold cR at e;obtain rfl:=f8 e;exact oL (.inr rfl) Tryz.results152 .nil rfl [0] rfl (by decide) ⟨q27,rfl,rfl⟩
 obtain⟨x23',hL,hRl29⟩:=aR e;refine iO (fun k a w=>∃(F:List Int),∃(x:Int),aY K U a1 k F x=some x23'∧F.length=h∧hs _ [hO cI b2 u 3 h F] [(0,.vc (pO b2 h u)),(1,vI U),(2,vI a1),(6,vI x)] a w) K (fun a w ⟨_,_,e,_,_⟩=>by cases e) (fun k a w ⟨F,x,e,q20,hh⟩=>iR ?_ hh) (fun a w hh=>⟨a2,v7,hL,q5,kK [0] hh⟩);rw[aY.eq_2]at e;refine go ?_ ?_;refine aI e rfl (fun h31 e=>?_) (fun h31 e=>?_)
 ·refine go ?_ ?_;refine aO (go ?_ ?_);refine aO (bM (fun H E=>∃(I:List Int),cS K x (aY K U a1 k) I=some x23'∧I.length=h∧H=[hO cI b2 u 3 h I]∧E=[(0,.vc (pO b2 h u)),(1,vI U),(2,vI a1),(6,vI x)]) ?_ (fun Jj53=>?_))
  ·rintro _ _ ⟨I,e,q50,rfl,rfl⟩;unfold cS at e;obtain⟨v54,h55,e⟩:=aR e;refine go ?_ ?_;exact aN (fun a w hh=>⟨I,v54,e,q50,kK [0] hh⟩)
  obtain⟨x46',hL,J⟩:=aR e;refine iO (fun k a w=>∃(y:List Int),∃(j:Int),bJ K U k y j=some x46'∧y.length=h∧hs _ [hO cI b2 u 3 h y] [(0,.vc (pO b2 h u)),(1,vI U),(2,vI a1),(6,vI x),(7,vI j)] a w) K (fun a w ⟨_,_,e,_,_⟩=>by cases e) (fun k a w ⟨y,j,e,z,hh⟩=>iR ?_ hh) (fun a w hh=>⟨F,x,hL,q20,kK [0] hh⟩);rw[bJ.eq_2]at e;refine aG (aG ?_);rcases Bool.eq_false_or_eq_true (decide (U<j)) with h58|h58
  ·have e:=eG h58 e;obtain⟨v59,t,e⟩:=aR e;obtain⟨O,G,e⟩:=aR e;obtain⟨v63,h64,e⟩:=aR e;obtain⟨v65,h66,e⟩:=bQ e yM;refine drb [0,0,3,7,15,15,63,127,15,15,527,1807,3855,8191,16383] 15 0 ?_ (fun bs57 G56=>?_);refine aJ (aC (aI e rfl (fun h67 e=>?_) (fun h67 e=>?_)))
   ·refine go ?_ ?_;refine aO ?_;have e:=sQ G e;have e:=sQ G e;have e:=sQ h64 e;have e:=sQ t e;have e:=sQ t e;obtain⟨x80,h81,e⟩:=aR e;obtain⟨v83,h84,e⟩:=aR e;refine p9 (HsM [(0,fun f=>[hO cI b2 u 3 h y]),(1,fun f=>[hO cI b2 u 3 h x80])]) [15] [0,0,0,0,8,0,0,64,224,480,0,0,3072,7168,16355,32739,65535,131071] 17 1 [.v (.vc (pO b2 h u)),.v (vI j),.v (.vc (pO b2 h u)),.v (vI j),.v (vI O),.v (.vc (pO b2 h u)),.v (vI j),.v (vI O),.v (.vc (pE b2 O cI.n 0)),.v (vI v63),.v (.vc (pO b2 h u)),.v (vI j),.v (.vc (pE b2 j cI.n 0)),.v (vI v59),.v (.vc (pE b2 j cI.n 0)),.g (fun _ _=>.any),.v (.vc (pE b2 O cI.n 0))] aS ⟨d1 0 (aK (.inl rfl)) zU1,d1 0 (aK (.inl rfl)) zU1,⟨rfl,.run (L:=[0,1]) ⟨fun f A=>aK (.inl rfl),fun f A=>aK (.inl rfl),zT⟩ (fun f=>zU1)⟩,⟨rfl,.run (L:=[0,1]) ⟨fun f A=>aK (.inl rfl),fun f A=>aK (.inl rfl),zT⟩ (fun f=>zU1)⟩,⟨rfl,.run (L:=[0,1]) ⟨fun f A=>aBX rfl G,fun f A=>aBX rfl G,zT⟩ (fun f=>⟨rfl,hU _ _,zT⟩)⟩,d1 0 (aK (.inl rfl)) zU1,d1 0 (aK (.inl rfl)) zU1,d1 0 (aBX rfl G) ⟨rfl,hU _ _,zT⟩,d1 0 (pV (C:=cI) 0 rfl tyS22 rfl z (bD h64).1 (bD h64).2.1) zU2,d1 0 (sP (k:=1) 0 rfl rfl h64 rfl (.one tyO3) rfl) zU1,d1 0 (aK (.inl rfl)) zU1,d1 0 (aK (.inl rfl)) zU1,d1 0 (pV (C:=cI) 0 rfl tyS22 rfl z (bD t).1 (bD t).2.1) zU2,d1 0 (sP (k:=1) 0 rfl rfl t rfl (.one tyO3) rfl) zU1,d1 0 (pV (C:=cI) 0 rfl tyS22 rfl z (bD t).1 (bD t).2.1) zU2,⟨rfl,.hvy [0] ⟨fun f A=>aAQ (aCa 0 rfl rfl t h81 tyO3.s),zT⟩ (fun f=>zU2)⟩,d1 1 (pV (C:=cI) 0 rfl tyS22 rfl (cC h81 z) (bD h84).1 (bD h84).2.1) zU2,zT⟩ (fun bs69 f=>?_);obtain⟨x86,h87,e⟩:=aR e;have e:=sQ G e;refine go ?_ ?_;exact aN (fun a w hh=>⟨x86,O,e,(cC h87 (cC h81 z)),kK [0] hh⟩)
   refine cO ?_;obtain rfl:=f8 e;exact qG Jj53 ⟨y,J,z,rfl,rfl⟩ [0]
  have e:=dY h58 e;refine drb [0,0,3,7,15,15,63,127,15,15,527,1807,3855,8191,16383] 15 0 ?_ (fun bs57 G56=>?_);refine aJ (aC (r9 rfl ?_));refine cO ?_;obtain rfl:=f8 e;exact qG Jj53 ⟨y,J,z,rfl,rfl⟩ [0]
 refine cO ?_;obtain rfl:=f8 e;exact qG Jj30 ⟨F,hRl29,q20,rfl,rfl⟩ [0]
def eS(K:Nat):Option (List Int):=
 none
def eR(K:Nat)(a3:List Int):Nat→Int→Int→Int→Bool→Bool→Option (LR (List Int) Unit)
 |0,_,_,_,_,_=>none
 |k+1,e,f,q,s,t=>(aV (f-e)).bind fun h=>bif(decide (h≤12)) then((dA K e f a3).bind fun j=>some (.ret j)) else(none)
def fN(K:Nat)(e:Int)(a1:Int)(a2:Int)(a3:List Int):Option (List Int):=
 (eR K a3 K e a1 a2 true true).bind fun o=>match o with| .ret r=>some r| .go _=>eS K
theorem oC{K:Nat}{F:Int}{a1:Int}{a2:Int}{a3:List Int}{r:List Int}(e:fN K F a1 a2 a3=some r){b2:Option Nat}{y f:Nat}(O:a3.length=f):xD Tryz.prog 126 [hO cI b2 y 3 f a3] [.vc (pO b2 f y),vI F,vI a1,vI a2] (fun Ho q=>r.length=f∧Ho=[hO cI b2 y 3 f r]∧q=.any):=by
 unfold fN at e;refine aD Tryz.func126 rfl (by kernel_rfl) Tryz.ntmps126 rfl (fun w0 M0=>?_);refine go ?_ ?_;refine aO (bM (fun H E=>eS K=some r∧H=[]∧E=[]) ?_ (fun L=>?_))
 ·rintro _ _ ⟨e,rfl,rfl⟩;unfold eS at e;cases e
 obtain⟨z,U,h⟩:=aR e;refine iO (fun k a w=>∃(j:Int),∃(s:Int),∃(t:Int),∃(u:Bool),∃(x:Bool),eR K a3 k j s t u x=some z∧hs _ [hO cI b2 y 3 f a3] [(0,.vc (pO b2 f y)),(1,vI j),(2,vI s),(3,vI t),(8,.vc (pB u)),(9,.vc (pB x))] a w) K (fun a w ⟨_,_,_,_,_,e,_⟩=>by cases e) (fun k a w ⟨j,s,t,u,x,e,hh⟩=>iR ?_ hh) (fun a w hh=>⟨F,a1,a2,true,true,U,kK [0] hh⟩);rw[eR.eq_2]at e;refine aO ?_;obtain⟨V,h20,e⟩:=aR e;refine go ?_ ?_;refine aI e rfl (fun G e=>?_) (fun G e=>?_)
 ·obtain⟨v22,I,e⟩:=aR e;refine go ?_ ?_;refine rV [0] [] rfl (lF I O) ⟨rfl,rfl,rfl,zT⟩ rfl rfl (by decide) ?_;rintro _ _ ⟨J,rfl,rfl⟩;refine aJ (aC (bW (bV ?_)));obtain rfl:=f8 e;obtain rfl:=f8 h;exact oL (.inl rfl) Tryz.results126 .nil rfl [0] rfl (by decide) ⟨J,rfl,rfl⟩
 cases e
def oP(K:Nat)(e:List Int):Option (List Int):=
 some e
def lP(K:Nat)(f:List Int):Nat→Int→Option (LR (List Int) Unit)
 |0,_=>none
 |k+1,e=>bif(decide (e<(f.length:Int))) then((cT f e).bind fun h=>(aV (e-1)).bind fun j=>(cT f j).bind fun q=>bif(h==q) then(none) else((aV (e+1)).bind fun s=>lP K f k s)) else(some (.go ()))
def qH(K:Nat)(e:List Int):Option (List Int):=
 bif(decide ((e.length:Int)<2)) then(some e) else((lP K e K 1).bind fun o=>match o with| .ret r=>some r| .go _=>oP K e)
theorem xA{K:Nat}{s:List Int}{r:List Int}(e:qH K s=some r){h:Option Nat}{j f:Nat}(O:s.length=f):xD Tryz.prog 82 [hO cI h j 3 f s] [.vc (pO h f j)] (fun Ho q=>∃y z t,r.length=t∧Ho=[hO cI y z 3 t r]∧q=.vc (pO y t z)):=by
 unfold qH at e;refine aD Tryz.func82 rfl (by kernel_rfl) Tryz.ntmps82 rfl (fun w0 M0=>?_);refine aG (aH (tS cI 3 rfl ?_));refine go ?_ ?_;refine aI e rfl (fun V e=>?_) (fun V e=>?_)
 ·refine go ?_ ?_;refine bW (bV ?_);obtain rfl:=f8 e;exact oL (.inl rfl) Tryz.results82 (.tmp rfl .nil) rfl [1] rfl (by decide) ⟨h,j,f,O,rfl,rfl⟩
 refine go ?_ ?_;refine aO (bM (fun H E=>oP K s=some r∧H=[hO cI h j 3 f s]∧E=[(0,.vc (pO h f j))]) ?_ (fun F=>?_))
 ·rintro _ _ ⟨e,rfl,rfl⟩;unfold oP at e;refine go ?_ ?_;refine bW (bV ?_);obtain rfl:=f8 e;exact oL (.inl rfl) Tryz.results82 (.tmp rfl .nil) rfl [0] rfl (by decide) ⟨h,j,f,O,rfl,rfl⟩
 obtain⟨G,hL,u⟩:=aR e;refine iO (fun k a w=>∃(x:Int),lP K s k x=some G∧hs _ [hO cI h j 3 f s] [(0,.vc (pO h f j)),(3,vI x)] a w) K (fun a w ⟨_,e,_⟩=>by cases e) (fun k a w ⟨x,e,hh⟩=>iR ?_ hh) (fun a w hh=>⟨1,hL,kK [1] hh⟩);rw[lP.eq_2]at e;refine go ?_ ?_;refine aI e rfl (fun I e=>?_) (fun I e=>?_)
 ·refine go ?_ ?_;refine aO (aG ?_);obtain⟨v17,h18,e⟩:=aR e;obtain⟨v19,h20,e⟩:=aR e;obtain⟨v21,h22,e⟩:=aR e;refine dr [0,0,3,7,0,0,32,112,240,511] 10 0 ?_ (fun U G15=>?_);refine aJ (aC (aI e rfl (fun J e=>?_) (fun J e=>?_)))
  ·cases e
  obtain⟨L,h36,e⟩:=aR e;refine go ?_ ?_;exact aN (fun a w hh=>⟨L,e,kK [0] hh⟩)
 refine cO ?_;obtain rfl:=f8 e;exact qG F ⟨u,rfl,rfl⟩ [0]
def p6(K:Nat)(e:List Int)(a1:Int):Option Bool:=
 (kC K e a1).bind fun v1=>some (decide (0≤v1))
theorem w6{K:Nat}{f:List Int}{a1:Int}{r:Bool}(e:p6 K f a1=some r):Ct Tryz.prog 128 [.vc (pS cI f),vI a1] (.vc (pB r)):=by
 unfold p6 at e;refine aD Tryz.func128 rfl (by kernel_rfl) Tryz.ntmps128 rfl (fun w0 M0=>?_);obtain⟨v1,h,e⟩:=bQ e rL;exact cX
def mR(K:Nat)(j:aB)(e:List Rat)(f:List aA):Option Bool:=
 (fU K (⟨j.vars,f,e⟩:aB)).bind fun h=>some (h.1.kind==1)
def fL(K:Nat)(h:aB)(a1:List Int)(a2:List Int):Nat→(List aA)→Int→Option (List aA)
 |0,_,_=>none
 |k+1,f,e=>bif(decide (e<(h.lines.length:Int))) then((cT h.lines e).bind fun j=>(cT a1 e).bind fun q=>bif(decide (q<0)) then((uK f [j]).bind fun s=>(aV (e+1)).bind fun t=>fL K h a1 a2 k s t) else((cT a1 e).bind fun u=>(p6 K a2 u).bind fun x=>bif x then((uK f [j]).bind fun y=>(aV (e+1)).bind fun z=>fL K h a1 a2 k y z) else((aV (e+1)).bind fun F=>fL K h a1 a2 k f F))) else(some f)
def l6(K:Nat)(e:aB)(a1:List Int)(a2:List Int):Option Bool:=
 (xU e.vars 0).bind fun f=>(fL K e a1 a2 K ([]:List aA) 0).bind fun h=>mR K e f h
theorem rR{K:Nat}{t:aB}{a1:List Int}{a2:List Int}{r:Bool}(e:l6 K t a1 a2=some r):Ct Tryz.prog 83 [.va (aB.enc t),.vc (pS cI a1),.vc (pS cI a2)] (.vc (pB r)):=by
 unfold l6 at e;refine aD Tryz.func83 rfl (by kernel_rfl) Tryz.ntmps83 rfl (fun w0 M0=>?_);refine aG (aH (dC rfl rfl zT (fun b1=>?_)));refine aE (aK (.inr rfl)) ⟨lU _,zT⟩ ?_;refine aJ (aC (aG (aMD aA.cod 66 ?_)));obtain⟨h,h11,e⟩:=aR e;refine gJ [0,1,0,4,12,31,0,127] 7 1 [.v (.vc (pP (some b1) 0)),.v (vI t.vars),.v (.vc (pP (some b1) 0)),.v (vI t.vars),.v (.vc (pS cQ h)),.v (.va ([vJ t.vars]++[pO none 0 0]++[pS cQ h])),.a 26 ([vJ 0]++[pS aA.cod ([]:List aA)]++[pS cQ ([]:List Rat)])] aS ⟨d0 (eZ (off:=0) (k:=0) rfl tyF26_0) zU1,d0 (iN 1 1 rfl rfl rfl rfl (.one tyO3)) zU1,d0 (eZ (off:=0) (k:=0) rfl tyF26_0) zU1,d0 (iN 1 1 rfl rfl rfl rfl (.one tyO3)) zU1,d0 (aFM 0 (aBC (C:=cQ) rfl tyS24 rfl tyZ32q h11) (fun _ _=>rfl) rfl (fun _ _=>rfl)) zU1,d0 (gP (is:=[0,2]) (xs:=[.tmp 13,.tmp 16]) (ps:=[vI t.vars,.vc (pS cQ h)]) rfl tyB26_o1q rfl rfl ⟨zT,zT,zT⟩ rfl) zU2,⟨rfl,.alc tyZ26q⟩,zT⟩ (fun y G8=>?_);refine go ?_ ?_;refine aO (bM (fun H E=>∃(z:List aA),∃(G:Option Nat),∃(I:Nat),∃(F:Nat),mR K t h z=some r∧z.length=F∧H=[⟨some (y 6),1,26,3,1,([vJ t.vars]++[pO G F I]++[pS cQ h])⟩,hO aA.cod G I 66 F z]∧E=[(7,.vc (pP (some (y 6)) 0))]) ?_ (fun O=>?_))
 ·rintro _ _ ⟨z,G,I,F,e,q30,rfl,rfl⟩;unfold mR at e;refine aC (aG (aH (aGN 1 0 1 rfl q30 rfl rfl rfl rfl rfl ?_)));obtain⟨v34,h35,e⟩:=bQ e lG;refine go ?_ ?_;refine aM rfl tyZ34q (fun b36=>?_);exact cX
 obtain⟨U,hL,J⟩:=aR e;refine iO (fun k a w=>∃(j:List aA),∃(L:Int),∃(u:Option Nat),∃(x:Nat),∃(f:Nat),fL K t a1 a2 k j L=some U∧j.length=f∧hs _ [⟨some (y 6),1,26,3,1,([vJ t.vars]++[pO u f x]++[pS cQ h])⟩,hO aA.cod u x 66 f j] [(1,.vc (pS cI a1)),(2,.vc (pS cI a2)),(7,.vc (pP (some (y 6)) 0)),(19,.vc (pS aA.cod t.lines)),(20,vI (t.lines.length:Int)),(21,vI L)] a w) K (fun a w ⟨_,_,_,_,_,e,_,_⟩=>by cases e) (fun k a w ⟨j,L,u,x,f,e,q,hh⟩=>iR ?_ hh) (fun a w hh=>⟨([]:List aA),0,none,0,0,hL,rfl,kK [0,1] hh⟩);rw[fL.eq_2]at e;refine go ?_ ?_;refine aI e rfl (fun h37 e=>?_) (fun h37 e=>?_)
 ·refine go ?_ ?_;refine aO ?_;obtain⟨s,h39,e⟩:=aR e;refine go ?_ ?_;refine aM rfl tyZ66q (fun b40=>?_);obtain⟨v41,h42,e⟩:=aR e;refine go ?_ ?_;refine jW e (fun h43 e=>?_) (fun h43 e=>?_)
  ·refine go ?_ ?_;refine rK rfl ?_;refine go ?_ ?_;refine aE (qP (C:=aA.cod) (xs:=[.tmp 41]) (ps:=[.va (aA.enc s)]) (zs:=[s]) rfl tyS23 rfl ⟨⟨zT,rfl⟩,zT⟩ rfl) zU1 ?_;obtain⟨x44,V,e⟩:=aR e;refine rJ 2 rfl tyS23 rfl rfl q rfl rfl V (fun b46 c47 H48 e49=>?_);cases e49;obtain⟨v51,h52,e⟩:=aR e;refine go ?_ ?_;exact aN (fun a w hh=>⟨x44,v51,b46,c47,(f+[s].length),e,(jE V q),kK [1,2] hh⟩)
  have e:=sQ h42 e;obtain⟨v55,h56,e⟩:=bQ e w6;refine go ?_ ?_;refine aI e rfl (fun h57 e=>?_) (fun h57 e=>?_)
  ·refine go ?_ ?_;refine aE (qP (C:=aA.cod) (xs:=[.tmp 41]) (ps:=[.va (aA.enc s)]) (zs:=[s]) rfl tyS23 rfl ⟨⟨zT,rfl⟩,zT⟩ rfl) zU1 ?_;obtain⟨x58,h59,e⟩:=aR e;refine rJ 2 rfl tyS23 rfl rfl q rfl rfl h59 (fun b60 c61 H62 e63=>?_);cases e63;obtain⟨v65,h66,e⟩:=aR e;refine go ?_ ?_;exact aN (fun a w hh=>⟨x58,v65,b60,c61,(f+[s].length),e,(jE h59 q),kK [1,2] hh⟩)
  obtain⟨v67,h68,e⟩:=aR e;refine go ?_ ?_;exact aN (fun a w hh=>⟨j,v67,u,x,f,e,q,kK [1,2] hh⟩)
 refine cO ?_;obtain rfl:=f8 e;exact qG O ⟨j,u,x,f,J,q,rfl,rfl⟩ [0,1]
def rD(c0:Int)(e:Int):Option Bool:=
 some (e==c0)
theorem aA3{c0:Int}{f:Int}{r:Bool}(h:rD c0 f=some r):Ct Tryz.prog 84 [vI f,.vc (pM (cI.e c0))] (.vc (pB r)):=by
 unfold rD at h;refine aD Tryz.func84 rfl (by kernel_rfl) Tryz.ntmps84 rfl (fun w0 M0=>?_);exact cX
def l4(K:Nat):Option Int:=
 some (-1)
def jU(K:Nat)(f:List Int):Nat→Int→Option (LR Int Unit)
 |0,_=>none
 |k+1,e=>bif(decide (e<(f.length:Int))) then((cT f e).bind fun h=>(qZ h).bind fun j=>bif j then(some (.ret e)) else((aV (e+1)).bind fun q=>jU K f k q)) else(some (.go ()))
def nR(K:Nat)(e:List Int):Option Int:=
 (jU K e K 0).bind fun o=>match o with| .ret r=>some r| .go _=>l4 K
theorem uF{K:Nat}{f:List Int}{r:Int}(e:nR K f=some r){b2:Option Nat}{s j:Nat}(V:f.length=j):xD Tryz.prog 125 [hO cI b2 s 3 j f] [.vc (pO b2 j s),.vc (pF 80 [])] (fun Ho q=>Ho=[hO cI b2 s 3 j f]∧q=vI r):=by
 unfold nR at e;refine aD Tryz.func125 rfl (by kernel_rfl) Tryz.ntmps125 rfl (fun w0 M0=>?_);refine go ?_ ?_;refine aO (bM (fun H E=>l4 K=some r∧H=[hO cI b2 s 3 j f]∧E=[]) ?_ (fun t=>?_))
 ·rintro _ _ ⟨e,rfl,rfl⟩;unfold l4 at e;refine go ?_ ?_;refine bW (bV ?_);obtain rfl:=f8 e;exact oL (.inl rfl) Tryz.results125 (.tmp rfl .nil) rfl [0] rfl (by decide) ⟨rfl,rfl⟩
 obtain⟨u,J,h⟩:=aR e;refine iO (fun k a w=>∃(x:Int),jU K f k x=some u∧hs _ [hO cI b2 s 3 j f] [(0,.vc (pO b2 j s)),(1,.vc (pF 80 [])),(7,vI (f.length:Int)),(8,vI x)] a w) K (fun a w ⟨_,e,_⟩=>by cases e) (fun k a w ⟨x,e,hh⟩=>iR ?_ hh) (fun a w hh=>⟨0,J,kK [0] hh⟩);rw[jU.eq_2]at e;refine go ?_ ?_;refine aI e rfl (fun y e=>?_) (fun y e=>?_)
 ·refine go ?_ ?_;refine aO ?_;obtain⟨z,L,e⟩:=aR e;obtain⟨O,F,e⟩:=bQ e vN;refine go ?_ ?_;refine aE (aAx (cs:=[]) (pre:=[vI z]) rfl F rfl) zU2 ?_;refine aJ (aC (aI e rfl (fun G e=>?_) (fun G e=>?_)))
  ·refine go ?_ ?_;refine bW (bV ?_);obtain rfl:=f8 e;obtain rfl:=f8 h;exact oL (.inl rfl) Tryz.results125 (.tmp rfl .nil) rfl [0] rfl (by decide) ⟨rfl,rfl⟩
  obtain⟨I,U,e⟩:=aR e;refine go ?_ ?_;exact aN (fun a w hh=>⟨I,e,kK [0] hh⟩)
 refine cO ?_;obtain rfl:=f8 e;exact qG t ⟨h,rfl,rfl⟩ [0]
def lH(K:Nat)(e:List Int)(f:Int):Option (List Int):=
 (xN e f (e.length:Int)).bind fun j=>(xN (aHe e f) 0 f).bind fun h=>some h
def f0(K:Nat):Nat→(List Int)→Int→Int→Option ((List Int)×Int)
 |0,_,_,_=>none
 |k+1,e,f,h=>bif(decide (h<(e.length:Int))) then((cT e h).bind fun j=>(qZ j).bind fun q=>bif(!q) then((cT e f).bind fun y=>(oZ e f j).bind fun s=>(aV (f+1)).bind fun t=>(aV (h+1)).bind fun u=>f0 K k s t u) else((aV (h+1)).bind fun x=>f0 K k e f x)) else(some (e,f))
def m7(K:Nat)(e:List Int):Option (List Int):=
 (nR K e).bind fun f=>bif(f==(-1)) then(some e) else((aV (f+1)).bind fun h=>(f0 K K e f h).bind fun(j,k)=>lH K j k)
theorem tU{K:Nat}{a0:List Int}{r:List Int}(e:m7 K a0=some r){b2:Option Nat}{z u:Nat}(q5:a0.length=u):xD Tryz.prog 78 [hO cI b2 z 3 u a0] [.vc (pO b2 u z),.vc (pF 80 [])] (fun Ho q=>∃j s f,r.length=f∧Ho=[hO cI j s 3 f r]∧q=.vc (pO j f s)):=by
 unfold m7 at e;refine aD Tryz.func78 rfl (by kernel_rfl) Tryz.ntmps78 rfl (fun w0 M0=>?_);refine aG (aH (tS cI 3 rfl ?_));obtain⟨v9,h10,e⟩:=aR e;refine go ?_ ?_;refine rV [1] [0] rfl (uF h10 q5) zU2 rfl rfl (by decide) ?_;rintro _ _ ⟨rfl,rfl⟩;refine go ?_ ?_;refine aI e rfl (fun h11 e=>?_) (fun h11 e=>?_)
 ·refine go ?_ ?_;refine bW (bV ?_);obtain rfl:=f8 e;exact oL (.inl rfl) Tryz.results78 (.tmp rfl .nil) rfl [0] rfl (by decide) ⟨b2,z,u,q5,rfl,rfl⟩
 obtain⟨v12,h13,e⟩:=aR e;refine go ?_ ?_;refine aO (bM (fun H E=>∃(x:List Int),∃(F:Int),lH K x F=some r∧x.length=u∧H=[hO cI b2 z 3 u x]∧E=[(0,.vc (pO b2 u z)),(5,vI F)]) ?_ (fun O=>?_))
 ·rintro _ _ ⟨x,F,e,y,rfl,rfl⟩;unfold lH at e;obtain⟨x39,G,e⟩:=aR e;refine go ?_ ?_;refine aE (aIJ (i:=0) rfl tyS22 rfl rfl rfl rfl (qW G).2.1 (aFq G y)) zU2 ?_;refine mU (aIt 0 rfl tyS22 tyZ3q rfl y rfl) zU1 ?_;obtain⟨x42,h43,e⟩:=aR e;refine go ?_ ?_;refine aE (aIq (C:=cI) 0 rfl tyS22 rfl (aFj y (aH1 G y)) h43 rfl) zU2 ?_;refine go ?_ ?_;refine bW (bV ?_);obtain rfl:=f8 e;exact oL (.inl rfl) Tryz.results78 (.tmp rfl .nil) rfl [0] rfl (by decide) ⟨b2,z,x42.length,rfl,rfl,rfl⟩
 obtain⟨⟨U,V⟩,hL,I⟩:=aR e;refine iO (fun k a w=>∃(h:List Int),∃(t:Int),∃(J:Int),f0 K k h t J=some (U,V)∧h.length=u∧hs _ [hO cI b2 z 3 u h] [(0,.vc (pO b2 u z)),(1,.vc (pF 80 [])),(5,vI t),(6,vI J)] a w) K (fun a w ⟨_,_,_,e,_,_⟩=>by cases e) (fun k a w ⟨h,t,J,e,L,hh⟩=>iR ?_ hh) (fun a w hh=>⟨a0,v9,v12,hL,q5,kK [0] hh⟩);rw[f0.eq_2]at e;refine go ?_ ?_;refine aI e rfl (fun h45 e=>?_) (fun h45 e=>?_)
 ·refine go ?_ ?_;refine aO ?_;obtain⟨v46,h47,e⟩:=aR e;obtain⟨v48,h49,e⟩:=bQ e vN;refine go ?_ ?_;refine aE (aAx (cs:=[]) (pre:=[vI v46]) rfl h49 rfl) zU2 ?_;refine go ?_ ?_;refine aI e rfl (fun h50 e=>?_) (fun h50 e=>?_)
  ·obtain⟨v51,h52,x53,h54,v56,h57,v58,h59,e⟩:=bn4 e;refine go ?_ ?_;exact aN (fun a w hh=>⟨x53,v56,v58,e,(cC h54 L),kK [0] hh⟩)
  obtain⟨v60,h61,e⟩:=aR e;refine go ?_ ?_;exact aN (fun a w hh=>⟨h,t,v60,e,L,kK [0] hh⟩)
 refine cO ?_;obtain⟨rfl,rfl⟩:=sm2 e;exact qG O ⟨h,t,I,L,rfl,rfl⟩ [0]
def qN(K:Nat)(e:List Int):Option (List Int):=
 (z8 (IntKind.u64.wrap (e.length:Int))).bind fun f=>(fN K 0 (e.length:Int) f e).bind fun h=>some h
theorem xF{K:Nat}{h:List Int}{r:List Int}(e:qN K h=some r){b2:Option Nat}{j f:Nat}(t:h.length=f):xD Tryz.prog 81 [hO cI b2 j 3 f h] [.vc (pO b2 f j)] (fun Ho q=>r.length=f∧Ho=[hO cI b2 j 3 f r]∧q=.any):=by
 unfold qN at e;refine aD Tryz.func81 rfl (by kernel_rfl) Tryz.ntmps81 rfl (fun w0 M0=>?_);refine go ?_ ?_;refine aE (zP rfl ⟨_,Tryz.underlying3⟩ Tryz.underlying132) zU1 ?_;obtain⟨x,u,e⟩:=bQ e aFc;refine aE (aT rfl u rfl) zU1 ?_;obtain⟨y,k,e⟩:=aR e;refine rV [0] [] rfl (oC k t) ⟨rfl,hU _ _,rfl,rfl,zT⟩ rfl rfl (by decide) ?_;rintro _ _ ⟨s,rfl,rfl⟩;refine aJ ?_;obtain rfl:=f8 e;exact oL (.inr rfl) Tryz.results81 .nil rfl [0] rfl (by decide) ⟨s,rfl,rfl⟩
def rZ(K:Nat)(e:List Int):Option ((List Int)×Int):=
 some (e,0)
def nA(K:Nat)(q:aB)(a1:List Int)(e:List Int):Nat→(List Int)→Int→Option (List Int)
 |0,_,_=>none
 |k+1,h,f=>bif(decide (f<(e.length:Int))) then((cT e f).bind fun s=>(lI h).bind fun t=>(oT K t (rD s)).bind fun j=>(l6 K q a1 j).bind fun u=>bif u then((aV (f+1)).bind fun x=>nA K q a1 e k j x) else((aV (f+1)).bind fun y=>nA K q a1 e k h y)) else(some h)
def uV(K:Nat)(f:aB)(a1:List Int):Option ((List Int)×Int):=
 (mJ K f).bind fun v2=>bif(v2 != 0) then(some ([],v2)) else(bif((a1.length:Int) != (f.lines.length:Int)) then(some ([],1)) else((nU K a1 (qY)).bind fun v6=>bif v6 then(some ([],1)) else((lI a1).bind fun t=>(m7 K t).bind fun h=>(qN K h).bind fun j=>(qH K j).bind fun e=>(l6 K f a1 e).bind fun k=>bif(!k) then(some ([],6)) else((lI e).bind fun q=>(nA K f a1 q K e 0).bind fun s=>rZ K s))))
theorem aBA{K:Nat}{G:aB}{a1:List Int}{r:(List Int)×Int}(f:uV K G a1=some r):Ct Tryz.prog 26 [.va (aB.enc G),.vc (pS cI a1)] (.t2 (.vc (pS cI r.1)) (vI r.2)):=by
 unfold uV at f;refine aD Tryz.func26 rfl (by kernel_rfl) Tryz.ntmps26 rfl (fun w0 M0=>?_);refine aG (aH (dC rfl rfl zT (fun b1=>?_)));refine aE (aK (.inr rfl)) ⟨jV cI,zT⟩ ?_;obtain⟨v2,h3,f⟩:=bQ f tC;refine go ?_ ?_;refine aI f rfl (fun h4 f=>?_) (fun h4 f=>?_)
 ·refine go ?_ ?_;refine aE (aK (.inr rfl)) ⟨jV cI,zT⟩ ?_;exact cX
 refine go ?_ ?_;refine jW f (fun h5 f=>?_) (fun h5 f=>?_)
 ·refine go ?_ ?_;refine rK rfl ?_;refine aG (aH (aE (aK (.inr rfl)) ⟨jV cI,zT⟩ ?_));exact cX
 refine aZ (aK (.inl rfl)) zU1 ?_;obtain⟨v6,h7,f⟩:=bQ f uY;refine aZ (aT rfl h7 rfl) ⟨rfl,(aKa (P:=Tryz.prog) (φ:=(qY)) (pre:=fun x:Int=>[vI x]) (post:=fun r:Bool=>.vc (pB r)) (fun x r h=>aAV h)),zT⟩ ?_;refine go ?_ ?_;refine aI f rfl (fun h8 f=>?_) (fun h8 f=>?_)
 ·refine aG (aH (aE (aK (.inr rfl)) ⟨jV cI,zT⟩ ?_));exact cX
 obtain⟨v9,I,f⟩:=aR f;refine go ?_ ?_;refine rV [] [0] rfl (qM I) zU1 rfl rfl (by decide) ?_;rintro _ _ ⟨b12,c13,n14,J,rfl,rfl⟩;obtain⟨v17,L,f⟩:=aR f;refine rV [0] [1] rfl (tU L J) ⟨rfl,k_F _,zT⟩ rfl rfl (by decide) ?_;rintro _ _ ⟨b19,c20,n21,O,rfl,rfl⟩;obtain⟨v24,U,f⟩:=aR f;refine go ?_ ?_;refine rV [0] [1] rfl (xF U O) zU1 rfl rfl (by decide) ?_;rintro _ _ ⟨V,rfl,rfl⟩;obtain⟨v28,h29,f⟩:=aR f;refine go ?_ ?_;refine rV [0] [1] rfl (xA h29 V) zU1 rfl rfl (by decide) ?_;rintro _ _ ⟨b32,c33,n31,q34,rfl,rfl⟩;refine kL ?_;refine aJ (aC (aG (aG (aH (aE (iN 1 3 rfl rfl rfl rfl (.agg tyA26)) zU1 ?_)))));refine cK ?_;refine cK ?_;refine xI 0 [7,32,35] rfl q34 ⟨rfl,rfl,rfl,zT⟩ rfl ?_;obtain⟨v36,h37,f⟩:=bQ f rR;refine go ?_ ?_;refine aI f rfl (fun h38 f=>?_) (fun h38 f=>?_)
 ·refine aG (aH (aE (aK (.inr rfl)) ⟨jV cI,zT⟩ ?_));exact cX
 obtain⟨q,h40,f⟩:=bQ f zQ;refine go ?_ ?_;refine aO (bM (fun H E=>∃(s:List Int),rZ K s=some r∧H=[]∧E=[(7,.vc (pS cI s))]) ?_ (fun y=>?_))
 ·rintro _ _ ⟨s,f,rfl,rfl⟩;unfold rZ at f;exact cX
 obtain⟨z,hL,t⟩:=aR f;refine iO (fun k a w=>∃(j:List Int),∃(u:Int),nA K G a1 q k j u=some z∧hs _ [⟨some b1,1,26,3,1,(aB.enc G)⟩] [(1,.vc (pS cI a1)),(2,.vc (pP (some b1) 0)),(7,.vc (pS cI j)),(39,.vc (pS cI q)),(40,vI (q.length:Int)),(41,vI u)] a w) K (fun a w ⟨_,_,f,_⟩=>by cases f) (fun k a w ⟨j,u,f,hh⟩=>iR ?_ hh) (fun a w hh=>⟨v28,0,hL,kK [0] hh⟩);rw[nA.eq_2]at f;refine go ?_ ?_;refine aI f rfl (fun h48 f=>?_) (fun h48 f=>?_)
 ·refine go ?_ ?_;refine aO ?_;obtain⟨F,h50,f⟩:=aR f;refine go ?_ ?_;refine aM rfl tyZ3q (fun b51=>?_);obtain⟨v52,h53,f⟩:=aR f;refine go ?_ ?_;refine rV [] [0,1] rfl (qM h53) zU1 rfl rfl (by decide) ?_;rintro _ _ ⟨b55,c56,n57,q58,rfl,rfl⟩;refine aAG 1 [(9,0)] rfl zU1 rfl ?_;refine aE (aBT (φ:=(rD F)) (pre:=fun x:Int=>[vI x]) (post:=fun r:Bool=>.vc (pB r)) (xs:=[.tmp 9]) (cs:=[pM (cI.e F)]) rfl rfl (fun x r h=>aA3 h)) zU1 ?_;obtain⟨v60,h61,f⟩:=aR f;refine rV [0] [1] rfl (vE h61 q58) zU2 rfl rfl (by decide) ?_;rintro _ _ ⟨b64,c65,n63,q66,rfl,rfl⟩;refine kL ?_;refine aJ (aC (aG (aH (aE (iN 1 3 rfl rfl rfl rfl (.agg tyA26)) zU1 ?_))));refine cK ?_;refine cK ?_;refine xI 0 [10,48,51] rfl q66 ⟨rfl,rfl,rfl,zT⟩ rfl ?_;obtain⟨v68,h69,f⟩:=bQ f rR;refine go ?_ ?_;refine aI f rfl (fun h70 f=>?_) (fun h70 f=>?_)
  ·obtain⟨v71,h72,f⟩:=aR f;refine go ?_ ?_;exact aN (fun a w hh=>⟨v60,v71,f,kK [0] hh⟩)
  obtain⟨v73,h74,f⟩:=aR f;refine go ?_ ?_;exact aN (fun a w hh=>⟨j,v73,f,kK [0] hh⟩)
 refine cO ?_;obtain rfl:=f8 f;exact qG y ⟨j,t,rfl,rfl⟩ []
def nO(K:Nat):Option Bool:=
 some true
def k8(K:Nat)(f:List Int)(a1:List Int):Nat→Int→Option (LR Bool Unit)
 |0,_=>none
 |k+1,e=>bif(decide (e<(f.length:Int))) then((cT f e).bind fun j=>(cT a1 e).bind fun v11=>bif(j != v11) then(some (.ret false)) else((aV (e+1)).bind fun h=>k8 K f a1 k h)) else(some (.go ()))
def pR(K:Nat)(e:List Int)(a1:List Int):Option Bool:=
 bif((e.length:Int) != (a1.length:Int)) then(some false) else((k8 K e a1 K 0).bind fun o=>match o with| .ret r=>some r| .go _=>nO K)
theorem oY{K:Nat}{h:List Int}{a1:List Int}{r:Bool}(e:pR K h a1=some r):Ct Tryz.prog 29 [.vc (pS cI h),.vc (pS cI a1)] (.vc (pB r)):=by
 unfold pR at e;refine aD Tryz.func29 rfl (by kernel_rfl) Tryz.ntmps29 rfl (fun w0 M0=>?_);refine go ?_ ?_;refine aI e rfl (fun x e=>?_) (fun x e=>?_)
 ·exact cX
 refine go ?_ ?_;refine aO (bM (fun H E=>nO K=some r∧H=[]∧E=[]) ?_ (fun j=>?_))
 ·rintro _ _ ⟨e,rfl,rfl⟩;unfold nO at e;exact cX
 obtain⟨q,y,f⟩:=aR e;refine iO (fun k a w=>∃(s:Int),k8 K h a1 k s=some q∧hs _ [] [(0,.vc (pS cI h)),(1,.vc (pS cI a1)),(5,vI s)] a w) K (fun a w ⟨_,e,_⟩=>by cases e) (fun k a w ⟨s,e,hh⟩=>iR ?_ hh) (fun a w hh=>⟨0,y,kK [] hh⟩);rw[k8.eq_2]at e;refine go ?_ ?_;refine aI e rfl (fun z e=>?_) (fun z e=>?_)
 ·refine go ?_ ?_;refine aO (aG ?_);obtain⟨L,F,e⟩:=aR e;obtain⟨v11,G,e⟩:=aR e;refine dr [0,0,3,7,0,0,48,112,255] 9 0 ?_ (fun I O=>?_);refine aJ (aC (aI e rfl (fun t e=>?_) (fun t e=>?_)))
  ·exact cX
  obtain⟨u,J,e⟩:=aR e;refine go ?_ ?_;exact aN (fun a w hh=>⟨u,e,kK [] hh⟩)
 refine cO ?_;obtain rfl:=f8 e;exact qG j ⟨f,rfl,rfl⟩ []
def kD(e:Int)(a1:Int)(a2:Int):Option aA:=
 (qof e 1).bind fun v2=>(qof a1 1).bind fun v4=>(qof a2 1).bind fun v6=>some (⟨[v2,v4],v6⟩:aA)
theorem kZ{f:Int}{a1:Int}{a2:Int}{r:aA}(e:kD f a1 a2=some r):Ct Tryz.prog 63 [vI f,vI a1,vI a2] (.va (aA.enc r)):=by
 unfold kD at e;refine aD Tryz.func63 rfl (by kernel_rfl) Tryz.ntmps63 rfl (fun w0 M0=>?_);refine aG (aH (aM rfl tyZ66q (fun j=>?_)));obtain⟨v2,k,e⟩:=bQ e dM;obtain⟨v4,q,e⟩:=bQ e dM;refine go ?_ ?_;refine aE (qP (C:=cQ) (xs:=[.tmp 8,.tmp 10]) (ps:=[.va (eQ v2),.va (eQ v4)]) (zs:=[v2,v4]) rfl tyS24 rfl ⟨⟨zT,rfl⟩,⟨zT,rfl⟩,zT⟩ rfl) zU2 ?_;refine cK ?_;obtain⟨v6,h,e⟩:=bQ e dM;refine aE (aT rfl h rfl) ⟨rfl,hU _ _,zT⟩ ?_;refine aE (gP (is:=[0,1]) (xs:=[.tmp 11,.tmp 13]) (ps:=[.vc (pS cQ [v2,v4]),.va (eQ v6)]) rfl tyB66q rfl rfl ⟨zT,zT,zT⟩ rfl) zU2 ?_;exact cX
def aX(K:Nat):Option Bool:=
 (qof 1 1).bind fun v1=>(kD 1 0 2).bind fun v6=>(kD 0 1 3).bind fun q=>(kD 1 1 4).bind fun v10=>(fU K (⟨2,[v6,q,v10],[v1,v1]⟩:aB)).bind fun e=>(uK ([]:List aA) [v6,q,v10]).bind fun s=>(kD (-1) 0 (-3)).bind fun t=>(uK s [t]).bind fun f=>(fU K (⟨2,f,[v1,v1]⟩:aB)).bind fun h=>(uV K (⟨2,f,[v1,v1]⟩:aB) [4,5,6,1]).bind fun j=>(kD 0 1 3).bind fun u=>(qof (-1) 1).bind fun x=>(fU K (⟨2,[u],[v1,x]⟩:aB)).bind fun k=>bif(e.2==0) then(bif(h.2==0) then(bif(j.2==0) then(bif(k.2==0) then(bif(e.1.kind==0) then(bif(h.1.kind==1) then(bif(k.1.kind==2) then((qof 4 1).bind fun y=>(xR e.1.value y).bind fun z=>bif z then((pR K j.1 [1,4]).bind fun F=>bif F then((rU K (⟨2,[v6,q,v10],[v1,v1]⟩:aB) e.1).bind fun G=>bif(G==0) then((rU K (⟨2,f,[v1,v1]⟩:aB) e.1).bind fun I=>some (I != 0)) else(some false)) else(some false)) else(some false)) else(some false)) else(some false)) else(some false)) else(some false)) else(some false)) else(some false)) else(some false)
theorem bI{K:Nat}{r:Bool}(e:aX K=some r):Ct Tryz.prog 20 [] (.vc (pB r)):=by
 unfold aX at e;refine aD Tryz.func20 rfl (by kernel_rfl) Tryz.ntmps20 rfl (fun w0 M0=>?_);refine aG (aH (aE (aK (.inr rfl)) ⟨lU _,zT⟩ ?_));refine aJ (aC (aG (aH ?_)));obtain⟨v1,h2,e⟩:=aR e;refine aE (aT rfl (dM h2) rfl) ⟨hU _ _,hU _ _,zT⟩ ?_;refine aM rfl tyZ32q (fun b3=>?_);refine mU (xY 0 rfl rfl rfl tyA32.s) zU2 ?_;refine aJ (aC (aG ?_));obtain⟨v6,h7,e⟩:=aR e;obtain⟨O,h9,e⟩:=aR e;obtain⟨v10,h11,e⟩:=aR e;refine gJ [0,1,3,7,0,0,48,127,0,511] 9 1 [.v (.va (aA.enc v6)),.v (.va (aA.enc O)),.v (.va (aA.enc v10)),.v (.vc (pS aA.cod [v6,O,v10])),.v (.va (eQ v1)),.v (.va (eQ v1)),.v (.vc (pS cQ [v1,v1])),.v (.va ([vJ 2]++[pS aA.cod [v6,O,v10]]++[pS cQ [v1,v1]])),.a 26 ([vJ 0]++[pS aA.cod ([]:List aA)]++[pS cQ ([]:List Rat)])] aS ⟨d0 (aT rfl (kZ h7) rfl) ⟨hU _ _,hU _ _,hU _ _,zT⟩,d0 (aT rfl (kZ h9) rfl) ⟨hU _ _,hU _ _,hU _ _,zT⟩,d0 (aT rfl (kZ h11) rfl) ⟨hU _ _,hU _ _,hU _ _,zT⟩,d0 (qP (C:=aA.cod) (xs:=[.tmp 14,.tmp 15,.tmp 16]) (ps:=[.va (aA.enc v6),.va (aA.enc O),.va (aA.enc v10)]) (zs:=[v6,O,v10]) rfl tyS23 rfl ⟨⟨zT,rfl⟩,⟨zT,rfl⟩,⟨zT,rfl⟩,zT⟩ rfl) ⟨rfl,rfl,rfl,zT⟩,d0 (iN 0 4 rfl rfl rfl rfl (.agg tyA32)) zU1,d0 (iN 0 4 rfl rfl rfl rfl (.agg tyA32)) zU1,d0 (qP (C:=cQ) (xs:=[.tmp 18,.tmp 19]) (ps:=[.va (eQ v1),.va (eQ v1)]) (zs:=[v1,v1]) rfl tyS24 rfl ⟨⟨zT,rfl⟩,⟨zT,rfl⟩,zT⟩ rfl) zU2,d0 (gP (is:=[0,1,2]) (xs:=[.const (.int .i64 (2)),.tmp 17,.tmp 20]) (ps:=[vI 2,.vc (pS aA.cod [v6,O,v10]),.vc (pS cQ [v1,v1])]) rfl tyB26q rfl rfl ⟨zT,zT,zT,zT⟩ rfl) ⟨hU _ _,rfl,rfl,zT⟩,⟨rfl,.alc tyZ26q⟩,zT⟩ (fun bs5 G4=>?_);refine mU (xY 0 rfl rfl rfl tyA26.s) zU2 ?_;refine aJ (aC (aG (aH (aE (iN 0 3 rfl rfl rfl rfl (.agg tyA26)) zU1 ?_))));obtain⟨j,h13,e⟩:=aR e;refine aE (aT rfl (lG h13) rfl) zU1 ?_;refine cK ?_;refine aE (sG rfl) zU1 ?_;refine aE (rE rfl) zU1 ?_;refine aM rfl tyZ34q (fun y=>?_);refine mU (xY 0 rfl rfl rfl tyA34.s) zU2 ?_;refine kL ?_;refine aJ (aC (aG (aH (aE (iN 1 3 rfl rfl rfl rfl (.agg tyA26)) zU1 ?_))));refine aM rfl tyZ26q (fun b15=>?_);refine mU (xY 0 rfl rfl rfl tyA26.s) zU2 ?_;refine aJ (aC (aG (aH (aDM (aCy (C:=aA.cod) (xs:=[]) (ps:=[]) (zs:=([]:List aA)) rfl tyS23 rfl zT rfl) zT (fun b16 _=>?_)))));refine aE (eZ (off:=0) (k:=1) rfl tyF26_1) zU1 ?_;refine aE (iN 3 1 rfl rfl rfl rfl (.one tyO23)) zU1 ?_;obtain⟨x19,h20,e⟩:=aR e;refine rJ 0 rfl tyS23 rfl rfl rfl rfl rfl h20 (fun b21 c22 H23 e24=>?_);cases e24;obtain⟨v26,h27,e⟩:=aR e;refine aE (aT rfl (kZ h27) rfl) ⟨hU _ _,hU _ _,hU _ _,zT⟩ ?_;refine aE (qP (C:=aA.cod) (xs:=[.tmp 32]) (ps:=[.va (aA.enc v26)]) (zs:=[v26]) rfl tyS23 rfl ⟨⟨zT,rfl⟩,zT⟩ rfl) zU1 ?_;obtain⟨V,h29,e⟩:=aR e;refine rJ 0 rfl tyS23 rfl rfl (jE h20 rfl) rfl rfl h29 (fun b30 c31 H32 e33=>?_);cases e33;refine aE (eZ (off:=0) (k:=1) rfl tyF26_1) zU1 ?_;refine mU (xY 1 rfl rfl rfl tyO23.s) zU2 ?_;refine aJ (aC (aG (aH (aIy 0 1 1 [34] rfl (jE h29 (jE h20 rfl)) rfl rfl rfl rfl rfl zU1 ?_))));refine aE (iN 0 3 rfl rfl rfl rfl (.agg tyA26)) zU1 ?_;obtain⟨v35,h36,e⟩:=aR e;refine aE (aT rfl (lG h36) rfl) zU1 ?_;refine cK ?_;refine aE (sG rfl) zU1 ?_;refine aE (rE rfl) zU1 ?_;refine aM rfl tyZ34q (fun b37=>?_);refine mU (xY 0 rfl rfl rfl tyA34.s) zU2 ?_;refine kL ?_;refine aJ (aC (aG (aH (aE (iN 1 3 rfl rfl rfl rfl (.agg tyA26)) zU1 ?_))));refine aE (qP (C:=cI) (xs:=[.const (.int .i64 (4)),.const (.int .i64 (5)),.const (.int .i64 (6)),.const (.int .i64 (1))]) (ps:=[vI 4,vI 5,vI 6,vI 1]) (zs:=[4,5,6,1]) rfl tyS22 rfl ⟨⟨zT,rfl⟩,⟨zT,rfl⟩,⟨zT,rfl⟩,⟨zT,rfl⟩,zT⟩ rfl) ⟨hU _ _,hU _ _,hU _ _,hU _ _,zT⟩ ?_;obtain⟨v38,h39,e⟩:=aR e;refine aE (aT rfl (aBA h39) rfl) zU2 ?_;refine cK ?_;refine aE (sG rfl) zU1 ?_;refine aE (rE rfl) zU1 ?_;refine kL ?_;refine kL ?_;refine aJ (aC (aG ?_));obtain⟨q,h43,e⟩:=aR e;obtain⟨t,h45,e⟩:=aR e;obtain⟨h,h47,e⟩:=aR e;refine p9 (HsM [(0,fun f=>[⟨some b37,1,34,7,1,(aL.enc v35.1)⟩,⟨some b15,1,26,3,1,([vJ 2]++[pS aA.cod V]++[pS cQ [v1,v1]])⟩,⟨some y,1,34,7,1,(aL.enc j.1)⟩,⟨some (bs5 8),1,26,3,1,([vJ 2]++[pS aA.cod [v6,O,v10]]++[pS cQ [v1,v1]])⟩,⟨some b3,1,32,4,1,(eQ v1)⟩]),(1,fun f=>[⟨some ((f 10).1.getD 0),1,34,7,1,([vJ 0]++[pS cQ ([]:List Rat)]++[pS cQ ([]:List Rat)]++(eQ 0))⟩,⟨some b37,1,34,7,1,(aL.enc v35.1)⟩,⟨some b15,1,26,3,1,([vJ 2]++[pS aA.cod V]++[pS cQ [v1,v1]])⟩,⟨some y,1,34,7,1,(aL.enc j.1)⟩,⟨some (bs5 8),1,26,3,1,([vJ 2]++[pS aA.cod [v6,O,v10]]++[pS cQ [v1,v1]])⟩,⟨some b3,1,32,4,1,(eQ v1)⟩]),(3,fun f=>[⟨some ((f 10).1.getD 0),1,34,7,1,(aL.enc h.1)⟩,⟨some b37,1,34,7,1,(aL.enc v35.1)⟩,⟨some b15,1,26,3,1,([vJ 2]++[pS aA.cod V]++[pS cQ [v1,v1]])⟩,⟨some y,1,34,7,1,(aL.enc j.1)⟩,⟨some (bs5 8),1,26,3,1,([vJ 2]++[pS aA.cod [v6,O,v10]]++[pS cQ [v1,v1]])⟩,⟨some b3,1,32,4,1,(eQ v1)⟩])]) [10,11] [0,1,0,1,13,31,63,127,255,255,0,1535,4095] 13 0 [.v (.va (aA.enc q)),.v (.vc (pS aA.cod [q])),.v (.va (eQ v1)),.v (.va (eQ t)),.v (.vc (pS cQ [v1,t])),.v (.va ([vJ 2]++[pS aA.cod [q]]++[pS cQ [v1,t]])),.v ((.t2 (.va (aL.enc h.1)) (vI h.2))),.v ((.t2 (.va (aL.enc h.1)) (vI h.2))),.v (.va (aL.enc h.1)),.v (vI h.2),.g (fun b _=>.vc (pP (some (b.getD 0)) 0)),.g (fun _ _=>.any),.v (vI h.2)] aS ⟨⟨rfl,.run (L:=[0,1]) ⟨fun f A=>aT rfl (kZ h43) rfl,fun f A=>aT rfl (kZ h43) rfl,zT⟩ (fun f=>⟨hU _ _,hU _ _,hU _ _,zT⟩)⟩,⟨rfl,.run (L:=[0,1]) ⟨fun f A=>qP (C:=aA.cod) (xs:=[.tmp 48]) (ps:=[.va (aA.enc q)]) (zs:=[q]) rfl tyS23 rfl ⟨⟨zT,rfl⟩,zT⟩ rfl,fun f A=>qP (C:=aA.cod) (xs:=[.tmp 48]) (ps:=[.va (aA.enc q)]) (zs:=[q]) rfl tyS23 rfl ⟨⟨zT,rfl⟩,zT⟩ rfl,zT⟩ (fun f=>zU1)⟩,⟨rfl,.run (L:=[0,1]) ⟨fun f A=>iN 4 4 rfl rfl rfl rfl (.agg tyA32),fun f A=>iN 5 4 rfl rfl rfl rfl (.agg tyA32),zT⟩ (fun f=>zU1)⟩,⟨rfl,.run (L:=[0,1]) ⟨fun f A=>aT rfl (dM h45) rfl,fun f A=>aT rfl (dM h45) rfl,zT⟩ (fun f=>⟨hU _ _,hU _ _,zT⟩)⟩,⟨rfl,.run (L:=[0,1]) ⟨fun f A=>qP (C:=cQ) (xs:=[.tmp 50,.tmp 51]) (ps:=[.va (eQ v1),.va (eQ t)]) (zs:=[v1,t]) rfl tyS24 rfl ⟨⟨zT,rfl⟩,⟨zT,rfl⟩,zT⟩ rfl,fun f A=>qP (C:=cQ) (xs:=[.tmp 50,.tmp 51]) (ps:=[.va (eQ v1),.va (eQ t)]) (zs:=[v1,t]) rfl tyS24 rfl ⟨⟨zT,rfl⟩,⟨zT,rfl⟩,zT⟩ rfl,zT⟩ (fun f=>zU2)⟩,⟨rfl,.run (L:=[0,1]) ⟨fun f A=>gP (is:=[0,1,2]) (xs:=[.const (.int .i64 (2)),.tmp 49,.tmp 52]) (ps:=[vI 2,.vc (pS aA.cod [q]),.vc (pS cQ [v1,t])]) rfl tyB26q rfl rfl ⟨zT,zT,zT,zT⟩ rfl,fun f A=>gP (is:=[0,1,2]) (xs:=[.const (.int .i64 (2)),.tmp 49,.tmp 52]) (ps:=[vI 2,.vc (pS aA.cod [q]),.vc (pS cQ [v1,t])]) rfl tyB26q rfl rfl ⟨zT,zT,zT,zT⟩ rfl,zT⟩ (fun f=>⟨hU _ _,rfl,rfl,zT⟩)⟩,⟨rfl,.run (L:=[0,1]) ⟨fun f A=>aT rfl (lG h47) rfl,fun f A=>aT rfl (lG h47) rfl,zT⟩ (fun f=>zU1)⟩,⟨rfl,.run (L:=[0,1]) ⟨fun f A=>aK (.inl rfl),fun f A=>aK (.inl rfl),zT⟩ (fun f=>zU1)⟩,⟨rfl,.run (L:=[0,1]) ⟨fun f A=>sG rfl,fun f A=>sG rfl,zT⟩ (fun f=>zU1)⟩,⟨rfl,.run (L:=[0,1,3]) ⟨fun f A=>rE rfl,fun f A=>rE rfl,fun f A=>rE rfl,zT⟩ (fun f=>zU1)⟩,⟨rfl,.hvy (ins:=fun _=>[]) [0] ⟨fun f A=>aEU (T:=34) (zs:=([vJ 0]++[pS cQ ([]:List Rat)]++[pS cQ ([]:List Rat)]++(eQ 0))) rfl tyZ34q,zT⟩ (fun f=>zT)⟩,⟨rfl,.hvy [1] ⟨fun f A=>aML (xY 0 rfl rfl rfl tyA34.s),zT⟩ (fun f=>zU2)⟩,d1 3 (aK (.inr rfl)) zU1,zT⟩ (fun bs41 f=>?_);refine aJ (aC (aG (aH (cK ?_))));refine aE (vY rfl) ⟨rfl,hU _ _,zT⟩ ?_;refine cK ?_;refine kR (fun h48=>?_) (fun h48=>?_)
 ·have e:=eG h48 e;refine aZ (aK (.inl rfl)) zU1 ?_;refine aZ (vY rfl) ⟨rfl,hU _ _,zT⟩ ?_;refine aE (cE rfl) zU2 ?_;refine cK ?_;refine kR (fun h49=>?_) (fun h49=>?_)
  ·have e:=eG h49 e;refine aZ (aK (.inl rfl)) zU1 ?_;refine aZ (vY rfl) ⟨rfl,hU _ _,zT⟩ ?_;refine aE (cE rfl) zU2 ?_;refine cK ?_;refine kR (fun h50=>?_) (fun h50=>?_)
   ·have e:=eG h50 e;refine aZ (aK (.inl rfl)) zU1 ?_;refine aZ (vY rfl) ⟨rfl,hU _ _,zT⟩ ?_;refine aE (cE rfl) zU2 ?_;refine cK ?_;refine kR (fun h51=>?_) (fun h51=>?_)
    ·have e:=eG h51 e;refine aZ (eZ (off:=0) (k:=0) rfl tyF34_0) zU1 ?_;refine aZ (iN 3 1 rfl rfl rfl rfl (.one tyO3)) zU1 ?_;refine aZ (vY rfl) ⟨rfl,hU _ _,zT⟩ ?_;refine aE (cE rfl) zU2 ?_;refine cK ?_;refine kR (fun h52=>?_) (fun h52=>?_)
     ·have e:=eG h52 e;refine aZ (eZ (off:=0) (k:=0) rfl tyF34_0) zU1 ?_;refine aZ (iN 1 1 rfl rfl rfl rfl (.one tyO3)) zU1 ?_;refine aZ (vY rfl) ⟨rfl,hU _ _,zT⟩ ?_;refine aE (cE rfl) zU2 ?_;refine cK ?_;refine kR (fun h53=>?_) (fun h53=>?_)
      ·have e:=eG h53 e;refine aZ (eZ (off:=0) (k:=0) rfl tyF34_0) zU1 ?_;refine aZ (iN 0 1 rfl rfl rfl rfl (.one tyO3)) zU1 ?_;refine aZ (vY rfl) ⟨rfl,hU _ _,zT⟩ ?_;refine aE (cE rfl) zU2 ?_;refine kL ?_;refine aJ (aC (aG ?_));rcases Bool.eq_false_or_eq_true (h.1.kind==2) with x|x
       ·have e:=eG x e;obtain⟨v57,h58,e⟩:=aR e;obtain⟨u,h60,e⟩:=aR e;rcases Bool.eq_false_or_eq_true u with z|z
        ·have e:=eG z e;obtain⟨F,h63,e⟩:=aR e;rcases Bool.eq_false_or_eq_true F with J|J
         ·have e:=eG J e;obtain⟨G,h66,e⟩:=aR e;rcases Bool.eq_false_or_eq_true (G==0) with U|U
          ·have e:=eG U e;obtain⟨v68,h69,e⟩:=aR e;refine gJ (0::1::3::7::3::31::63::127::255::255::1023::2047::4095::8191::8191::32767::65535::131071::262143::524287::524287::2097151::4194303::8388607::16777215::[]) 25 0 (.v (.vc (pB (h.1.kind==2)))::.v (.vc (pB true))::.v (.vc (pP (some y) 3))::.v (.va (eQ j.1.value))::.v (.va (eQ v57))::.v (.vc (pB u))::.v (.vc (pB u))::.v (.vc (pB true))::.v (.vc (pS cI v38.1))::.v (.vc (pS cI [1,4]))::.v (.vc (pB F))::.v (.vc (pB F))::.v (.vc (pB true))::.v (.va ([vJ 2]++[pS aA.cod [v6,O,v10]]++[pS cQ [v1,v1]]))::.v (.va (aL.enc j.1))::.v (vI G)::.v (.vc (pB (G==0)))::.v (.vc (pB (G==0)))::.v (.vc (pB true))::.v (.va ([vJ 2]++[pS aA.cod V]++[pS cQ [v1,v1]]))::.v (.va (aL.enc j.1))::.v (vI v68)::.v (.vc (pB (v68 != 0)))::.v (.vc (pB (v68 != 0)))::.v (.vc (pB (v68 != 0)))::[]) aS ⟨d0 (aK (.inl rfl)) zU1,d0 (gN (aK (.inl rfl)) x) zU1,g0 (eZ (off:=0) (k:=3) rfl tyF34_3) zU1,g0 (iN 3 4 rfl rfl rfl rfl (.agg tyA32)) zU1,g0 (aT rfl (dM h58) rfl) ⟨hU _ _,hU _ _,zT⟩,g0 (aT rfl (lZ h60) rfl) zU2,d0 (cE rfl) zU2,d0 (gN (aK (.inl rfl)) z) zU1,g0 (aK (.inl rfl)) zU1,g0 (qP (C:=cI) (xs:=[.const (.int .i64 (1)),.const (.int .i64 (4))]) (ps:=[vI 1,vI 4]) (zs:=[1,4]) rfl tyS22 rfl ⟨⟨zT,rfl⟩,⟨zT,rfl⟩,zT⟩ rfl) ⟨hU _ _,hU _ _,zT⟩,g0 (aT rfl (oY h63) rfl) zU2,d0 (cE rfl) zU2,d0 (gN (aK (.inl rfl)) J) zU1,g0 (iN 4 3 rfl rfl rfl rfl (.agg tyA26)) zU1,g0 (iN 3 7 rfl rfl rfl rfl (.agg tyA34)) zU1,g0 (aT rfl (s7 h66) rfl) zU2,g0 (vY rfl) ⟨rfl,hU _ _,zT⟩,d0 (cE rfl) zU2,d0 (gN (aK (.inl rfl)) U) zU1,g0 (iN 2 3 rfl rfl rfl rfl (.agg tyA26)) zU1,g0 (iN 3 7 rfl rfl rfl rfl (.agg tyA34)) zU1,g0 (aT rfl (s7 h69) rfl) zU2,g0 (z6 rfl) ⟨rfl,hU _ _,zT⟩,d0 (cE rfl) zU2,d0 (aK (.inr rfl)) zU1,zT⟩ (fun I G54=>?_);refine aJ (aC (bW (bV ?_)));obtain rfl:=f8 e;exact bS (.inl rfl) Tryz.results20 (.tmp rfl .nil) rfl rfl
          have e:=dY U e;refine gJ (0::1::3::7::3::31::63::127::255::255::1023::2047::4095::8191::8191::32767::65535::131071::262143::524287::524287::2097151::4194303::8388607::16777215::[]) 25 0 (.v (.vc (pB (h.1.kind==2)))::.v (.vc (pB true))::.v (.vc (pP (some y) 3))::.v (.va (eQ j.1.value))::.v (.va (eQ v57))::.v (.vc (pB u))::.v (.vc (pB u))::.v (.vc (pB true))::.v (.vc (pS cI v38.1))::.v (.vc (pS cI [1,4]))::.v (.vc (pB F))::.v (.vc (pB F))::.v (.vc (pB true))::.v (.va ([vJ 2]++[pS aA.cod [v6,O,v10]]++[pS cQ [v1,v1]]))::.v (.va (aL.enc j.1))::.v (vI G)::.v (.vc (pB (G==0)))::.v (.vc (pB (G==0)))::.v (.vc (pB false))::.v .un::.v .un::.v .un::.v .un::.v (.vc (pB false))::.v (.vc (pB false))::[]) aS ⟨d0 (aK (.inl rfl)) zU1,d0 (gN (aK (.inl rfl)) x) zU1,g0 (eZ (off:=0) (k:=3) rfl tyF34_3) zU1,g0 (iN 3 4 rfl rfl rfl rfl (.agg tyA32)) zU1,g0 (aT rfl (dM h58) rfl) ⟨hU _ _,hU _ _,zT⟩,g0 (aT rfl (lZ h60) rfl) zU2,d0 (cE rfl) zU2,d0 (gN (aK (.inl rfl)) z) zU1,g0 (aK (.inl rfl)) zU1,g0 (qP (C:=cI) (xs:=[.const (.int .i64 (1)),.const (.int .i64 (4))]) (ps:=[vI 1,vI 4]) (zs:=[1,4]) rfl tyS22 rfl ⟨⟨zT,rfl⟩,⟨zT,rfl⟩,zT⟩ rfl) ⟨hU _ _,hU _ _,zT⟩,g0 (aT rfl (oY h63) rfl) zU2,d0 (cE rfl) zU2,d0 (gN (aK (.inl rfl)) J) zU1,g0 (iN 4 3 rfl rfl rfl rfl (.agg tyA26)) zU1,g0 (iN 3 7 rfl rfl rfl rfl (.agg tyA34)) zU1,g0 (aT rfl (s7 h66) rfl) zU2,g0 (vY rfl) ⟨rfl,hU _ _,zT⟩,d0 (cE rfl) zU2,d0 (gN (aK (.inl rfl)) U) zU1,⟨rfl,.skipN⟩,⟨rfl,.skipN⟩,⟨rfl,.skipN⟩,⟨rfl,.skipN⟩,d0 (aP rfl) ⟨rfl,lU _,zT⟩,d0 (aK (.inr rfl)) zU1,zT⟩ (fun I G54=>?_);refine aJ (aC (bW (bV ?_)));obtain rfl:=f8 e;exact bS (.inl rfl) Tryz.results20 (.tmp rfl .nil) rfl rfl
         have e:=dY J e;refine gJ (0::1::3::7::3::31::63::127::255::255::1023::2047::4095::8191::8191::32767::65535::131071::262143::524287::524287::2097151::4194303::8388607::16777215::[]) 25 0 (.v (.vc (pB (h.1.kind==2)))::.v (.vc (pB true))::.v (.vc (pP (some y) 3))::.v (.va (eQ j.1.value))::.v (.va (eQ v57))::.v (.vc (pB u))::.v (.vc (pB u))::.v (.vc (pB true))::.v (.vc (pS cI v38.1))::.v (.vc (pS cI [1,4]))::.v (.vc (pB F))::.v (.vc (pB F))::.v (.vc (pB false))::.v .un::.v .un::.v .un::.v .un::.v (.vc (pB false))::.v (.vc (pB false))::.v .un::.v .un::.v .un::.v .un::.v (.vc (pB false))::.v (.vc (pB false))::[]) aS ⟨d0 (aK (.inl rfl)) zU1,d0 (gN (aK (.inl rfl)) x) zU1,g0 (eZ (off:=0) (k:=3) rfl tyF34_3) zU1,g0 (iN 3 4 rfl rfl rfl rfl (.agg tyA32)) zU1,g0 (aT rfl (dM h58) rfl) ⟨hU _ _,hU _ _,zT⟩,g0 (aT rfl (lZ h60) rfl) zU2,d0 (cE rfl) zU2,d0 (gN (aK (.inl rfl)) z) zU1,g0 (aK (.inl rfl)) zU1,g0 (qP (C:=cI) (xs:=[.const (.int .i64 (1)),.const (.int .i64 (4))]) (ps:=[vI 1,vI 4]) (zs:=[1,4]) rfl tyS22 rfl ⟨⟨zT,rfl⟩,⟨zT,rfl⟩,zT⟩ rfl) ⟨hU _ _,hU _ _,zT⟩,g0 (aT rfl (oY h63) rfl) zU2,d0 (cE rfl) zU2,d0 (gN (aK (.inl rfl)) J) zU1,⟨rfl,.skipN⟩,⟨rfl,.skipN⟩,⟨rfl,.skipN⟩,⟨rfl,.skipN⟩,d0 (aP rfl) ⟨rfl,lU _,zT⟩,d0 (aK (.inl rfl)) zU1,⟨rfl,.skipN⟩,⟨rfl,.skipN⟩,⟨rfl,.skipN⟩,⟨rfl,.skipN⟩,d0 (aP rfl) ⟨rfl,lU _,zT⟩,d0 (aK (.inr rfl)) zU1,zT⟩ (fun I G54=>?_);refine aJ (aC (bW (bV ?_)));obtain rfl:=f8 e;exact bS (.inl rfl) Tryz.results20 (.tmp rfl .nil) rfl rfl
        have e:=dY z e;refine gJ (0::1::3::7::3::31::63::127::255::255::1023::2047::4095::8191::8191::32767::65535::131071::262143::524287::524287::2097151::4194303::8388607::16777215::[]) 25 0 (.v (.vc (pB (h.1.kind==2)))::.v (.vc (pB true))::.v (.vc (pP (some y) 3))::.v (.va (eQ j.1.value))::.v (.va (eQ v57))::.v (.vc (pB u))::.v (.vc (pB u))::.v (.vc (pB false))::.v .un::.v .un::.v .un::.v (.vc (pB false))::.v (.vc (pB false))::.v .un::.v .un::.v .un::.v .un::.v (.vc (pB false))::.v (.vc (pB false))::.v .un::.v .un::.v .un::.v .un::.v (.vc (pB false))::.v (.vc (pB false))::[]) aS ⟨d0 (aK (.inl rfl)) zU1,d0 (gN (aK (.inl rfl)) x) zU1,g0 (eZ (off:=0) (k:=3) rfl tyF34_3) zU1,g0 (iN 3 4 rfl rfl rfl rfl (.agg tyA32)) zU1,g0 (aT rfl (dM h58) rfl) ⟨hU _ _,hU _ _,zT⟩,g0 (aT rfl (lZ h60) rfl) zU2,d0 (cE rfl) zU2,d0 (gN (aK (.inl rfl)) z) zU1,⟨rfl,.skipN⟩,⟨rfl,.skipN⟩,⟨rfl,.skipN⟩,d0 (aP rfl) ⟨rfl,lU _,zT⟩,d0 (aK (.inl rfl)) zU1,⟨rfl,.skipN⟩,⟨rfl,.skipN⟩,⟨rfl,.skipN⟩,⟨rfl,.skipN⟩,d0 (aP rfl) ⟨rfl,lU _,zT⟩,d0 (aK (.inl rfl)) zU1,⟨rfl,.skipN⟩,⟨rfl,.skipN⟩,⟨rfl,.skipN⟩,⟨rfl,.skipN⟩,d0 (aP rfl) ⟨rfl,lU _,zT⟩,d0 (aK (.inr rfl)) zU1,zT⟩ (fun I G54=>?_);refine aJ (aC (bW (bV ?_)));obtain rfl:=f8 e;exact bS (.inl rfl) Tryz.results20 (.tmp rfl .nil) rfl rfl
       have e:=dY x e;refine gJ (0::1::3::7::3::31::63::127::255::255::1023::2047::4095::8191::8191::32767::65535::131071::262143::524287::524287::2097151::4194303::8388607::16777215::[]) 25 0 (.v (.vc (pB (h.1.kind==2)))::.v (.vc (pB false))::.v .un::.v .un::.v .un::.v .un::.v (.vc (pB false))::.v (.vc (pB false))::.v .un::.v .un::.v .un::.v (.vc (pB false))::.v (.vc (pB false))::.v .un::.v .un::.v .un::.v .un::.v (.vc (pB false))::.v (.vc (pB false))::.v .un::.v .un::.v .un::.v .un::.v (.vc (pB false))::.v (.vc (pB false))::[]) aS ⟨d0 (aK (.inl rfl)) zU1,d0 (gN (aK (.inl rfl)) x) zU1,⟨rfl,.skipN⟩,⟨rfl,.skipN⟩,⟨rfl,.skipN⟩,⟨rfl,.skipN⟩,d0 (aP rfl) ⟨rfl,lU _,zT⟩,d0 (aK (.inl rfl)) zU1,⟨rfl,.skipN⟩,⟨rfl,.skipN⟩,⟨rfl,.skipN⟩,d0 (aP rfl) ⟨rfl,lU _,zT⟩,d0 (aK (.inl rfl)) zU1,⟨rfl,.skipN⟩,⟨rfl,.skipN⟩,⟨rfl,.skipN⟩,⟨rfl,.skipN⟩,d0 (aP rfl) ⟨rfl,lU _,zT⟩,d0 (aK (.inl rfl)) zU1,⟨rfl,.skipN⟩,⟨rfl,.skipN⟩,⟨rfl,.skipN⟩,⟨rfl,.skipN⟩,d0 (aP rfl) ⟨rfl,lU _,zT⟩,d0 (aK (.inr rfl)) zU1,zT⟩ (fun I G54=>?_);refine aJ (aC (bW (bV ?_)));obtain rfl:=f8 e;exact bS (.inl rfl) Tryz.results20 (.tmp rfl .nil) rfl rfl
      have e:=dY h53 e;refine aQ ?_;refine aQ ?_;refine aQ ?_;refine aE (aP rfl) ⟨rfl,lU _,zT⟩ ?_;refine kL ?_;refine aJ (aC (aG (gJ (0::1::3::7::3::31::63::127::255::255::1023::2047::4095::8191::8191::32767::65535::131071::262143::524287::524287::2097151::4194303::8388607::16777215::[]) 25 0 (.v (.vc (pB false))::.v (.vc (pB false))::.v .un::.v .un::.v .un::.v .un::.v (.vc (pB false))::.v (.vc (pB false))::.v .un::.v .un::.v .un::.v (.vc (pB false))::.v (.vc (pB false))::.v .un::.v .un::.v .un::.v .un::.v (.vc (pB false))::.v (.vc (pB false))::.v .un::.v .un::.v .un::.v .un::.v (.vc (pB false))::.v (.vc (pB false))::[]) aS ⟨d0 (aK (.inl rfl)) zU1,d0 (aK (.inl rfl)) zU1,⟨rfl,.skipN⟩,⟨rfl,.skipN⟩,⟨rfl,.skipN⟩,⟨rfl,.skipN⟩,d0 (aP rfl) ⟨rfl,lU _,zT⟩,d0 (aK (.inl rfl)) zU1,⟨rfl,.skipN⟩,⟨rfl,.skipN⟩,⟨rfl,.skipN⟩,d0 (aP rfl) ⟨rfl,lU _,zT⟩,d0 (aK (.inl rfl)) zU1,⟨rfl,.skipN⟩,⟨rfl,.skipN⟩,⟨rfl,.skipN⟩,⟨rfl,.skipN⟩,d0 (aP rfl) ⟨rfl,lU _,zT⟩,d0 (aK (.inl rfl)) zU1,⟨rfl,.skipN⟩,⟨rfl,.skipN⟩,⟨rfl,.skipN⟩,⟨rfl,.skipN⟩,d0 (aP rfl) ⟨rfl,lU _,zT⟩,d0 (aK (.inr rfl)) zU1,zT⟩ (fun bs71 G70=>?_))));refine aJ (aC (bW (bV ?_)));obtain rfl:=f8 e;exact bS (.inl rfl) Tryz.results20 (.tmp rfl .nil) rfl rfl
     have e:=dY h52 e;refine aQ ?_;refine aQ ?_;refine aQ ?_;refine aE (aP rfl) ⟨rfl,lU _,zT⟩ ?_;refine cK ?_;refine aQ ?_;refine aQ ?_;refine aQ ?_;refine aE (aP rfl) ⟨rfl,lU _,zT⟩ ?_;refine kL ?_;refine aJ (aC (aG (gJ (0::1::3::7::3::31::63::127::255::255::1023::2047::4095::8191::8191::32767::65535::131071::262143::524287::524287::2097151::4194303::8388607::16777215::[]) 25 0 (.v (.vc (pB false))::.v (.vc (pB false))::.v .un::.v .un::.v .un::.v .un::.v (.vc (pB false))::.v (.vc (pB false))::.v .un::.v .un::.v .un::.v (.vc (pB false))::.v (.vc (pB false))::.v .un::.v .un::.v .un::.v .un::.v (.vc (pB false))::.v (.vc (pB false))::.v .un::.v .un::.v .un::.v .un::.v (.vc (pB false))::.v (.vc (pB false))::[]) aS ⟨d0 (aK (.inl rfl)) zU1,d0 (aK (.inl rfl)) zU1,⟨rfl,.skipN⟩,⟨rfl,.skipN⟩,⟨rfl,.skipN⟩,⟨rfl,.skipN⟩,d0 (aP rfl) ⟨rfl,lU _,zT⟩,d0 (aK (.inl rfl)) zU1,⟨rfl,.skipN⟩,⟨rfl,.skipN⟩,⟨rfl,.skipN⟩,d0 (aP rfl) ⟨rfl,lU _,zT⟩,d0 (aK (.inl rfl)) zU1,⟨rfl,.skipN⟩,⟨rfl,.skipN⟩,⟨rfl,.skipN⟩,⟨rfl,.skipN⟩,d0 (aP rfl) ⟨rfl,lU _,zT⟩,d0 (aK (.inl rfl)) zU1,⟨rfl,.skipN⟩,⟨rfl,.skipN⟩,⟨rfl,.skipN⟩,⟨rfl,.skipN⟩,d0 (aP rfl) ⟨rfl,lU _,zT⟩,d0 (aK (.inr rfl)) zU1,zT⟩ (fun bs73 G72=>?_))));refine aJ (aC (bW (bV ?_)));obtain rfl:=f8 e;exact bS (.inl rfl) Tryz.results20 (.tmp rfl .nil) rfl rfl
    have e:=dY h51 e;refine aQ ?_;refine aQ ?_;refine aQ ?_;refine aE (aP rfl) ⟨rfl,lU _,zT⟩ ?_;refine cK ?_;refine aQ ?_;refine aQ ?_;refine aQ ?_;refine aE (aP rfl) ⟨rfl,lU _,zT⟩ ?_;refine cK ?_;refine aQ ?_;refine aQ ?_;refine aQ ?_;refine aE (aP rfl) ⟨rfl,lU _,zT⟩ ?_;refine kL ?_;refine aJ (aC (aG (gJ (0::1::3::7::3::31::63::127::255::255::1023::2047::4095::8191::8191::32767::65535::131071::262143::524287::524287::2097151::4194303::8388607::16777215::[]) 25 0 (.v (.vc (pB false))::.v (.vc (pB false))::.v .un::.v .un::.v .un::.v .un::.v (.vc (pB false))::.v (.vc (pB false))::.v .un::.v .un::.v .un::.v (.vc (pB false))::.v (.vc (pB false))::.v .un::.v .un::.v .un::.v .un::.v (.vc (pB false))::.v (.vc (pB false))::.v .un::.v .un::.v .un::.v .un::.v (.vc (pB false))::.v (.vc (pB false))::[]) aS ⟨d0 (aK (.inl rfl)) zU1,d0 (aK (.inl rfl)) zU1,⟨rfl,.skipN⟩,⟨rfl,.skipN⟩,⟨rfl,.skipN⟩,⟨rfl,.skipN⟩,d0 (aP rfl) ⟨rfl,lU _,zT⟩,d0 (aK (.inl rfl)) zU1,⟨rfl,.skipN⟩,⟨rfl,.skipN⟩,⟨rfl,.skipN⟩,d0 (aP rfl) ⟨rfl,lU _,zT⟩,d0 (aK (.inl rfl)) zU1,⟨rfl,.skipN⟩,⟨rfl,.skipN⟩,⟨rfl,.skipN⟩,⟨rfl,.skipN⟩,d0 (aP rfl) ⟨rfl,lU _,zT⟩,d0 (aK (.inl rfl)) zU1,⟨rfl,.skipN⟩,⟨rfl,.skipN⟩,⟨rfl,.skipN⟩,⟨rfl,.skipN⟩,d0 (aP rfl) ⟨rfl,lU _,zT⟩,d0 (aK (.inr rfl)) zU1,zT⟩ (fun bs75 G74=>?_))));refine aJ (aC (bW (bV ?_)));obtain rfl:=f8 e;exact bS (.inl rfl) Tryz.results20 (.tmp rfl .nil) rfl rfl
   have e:=dY h50 e;refine aQ ?_;refine aQ ?_;refine aE (aP rfl) ⟨rfl,lU _,zT⟩ ?_;refine cK ?_;refine aQ ?_;refine aQ ?_;refine aQ ?_;refine aE (aP rfl) ⟨rfl,lU _,zT⟩ ?_;refine cK ?_;refine aQ ?_;refine aQ ?_;refine aQ ?_;refine aE (aP rfl) ⟨rfl,lU _,zT⟩ ?_;refine cK ?_;refine aQ ?_;refine aQ ?_;refine aQ ?_;refine aE (aP rfl) ⟨rfl,lU _,zT⟩ ?_;refine kL ?_;refine aJ (aC (aG (gJ (0::1::3::7::3::31::63::127::255::255::1023::2047::4095::8191::8191::32767::65535::131071::262143::524287::524287::2097151::4194303::8388607::16777215::[]) 25 0 (.v (.vc (pB false))::.v (.vc (pB false))::.v .un::.v .un::.v .un::.v .un::.v (.vc (pB false))::.v (.vc (pB false))::.v .un::.v .un::.v .un::.v (.vc (pB false))::.v (.vc (pB false))::.v .un::.v .un::.v .un::.v .un::.v (.vc (pB false))::.v (.vc (pB false))::.v .un::.v .un::.v .un::.v .un::.v (.vc (pB false))::.v (.vc (pB false))::[]) aS ⟨d0 (aK (.inl rfl)) zU1,d0 (aK (.inl rfl)) zU1,⟨rfl,.skipN⟩,⟨rfl,.skipN⟩,⟨rfl,.skipN⟩,⟨rfl,.skipN⟩,d0 (aP rfl) ⟨rfl,lU _,zT⟩,d0 (aK (.inl rfl)) zU1,⟨rfl,.skipN⟩,⟨rfl,.skipN⟩,⟨rfl,.skipN⟩,d0 (aP rfl) ⟨rfl,lU _,zT⟩,d0 (aK (.inl rfl)) zU1,⟨rfl,.skipN⟩,⟨rfl,.skipN⟩,⟨rfl,.skipN⟩,⟨rfl,.skipN⟩,d0 (aP rfl) ⟨rfl,lU _,zT⟩,d0 (aK (.inl rfl)) zU1,⟨rfl,.skipN⟩,⟨rfl,.skipN⟩,⟨rfl,.skipN⟩,⟨rfl,.skipN⟩,d0 (aP rfl) ⟨rfl,lU _,zT⟩,d0 (aK (.inr rfl)) zU1,zT⟩ (fun bs77 G76=>?_))));refine aJ (aC (bW (bV ?_)));obtain rfl:=f8 e;exact bS (.inl rfl) Tryz.results20 (.tmp rfl .nil) rfl rfl
  have e:=dY h49 e;refine aQ ?_;refine aQ ?_;refine aE (aP rfl) ⟨rfl,lU _,zT⟩ ?_;refine cK ?_;refine aQ ?_;refine aQ ?_;refine aE (aP rfl) ⟨rfl,lU _,zT⟩ ?_;refine cK ?_;refine aQ ?_;refine aQ ?_;refine aQ ?_;refine aE (aP rfl) ⟨rfl,lU _,zT⟩ ?_;refine cK ?_;refine aQ ?_;refine aQ ?_;refine aQ ?_;refine aE (aP rfl) ⟨rfl,lU _,zT⟩ ?_;refine cK ?_;refine aQ ?_;refine aQ ?_;refine aQ ?_;refine aE (aP rfl) ⟨rfl,lU _,zT⟩ ?_;refine kL ?_;refine aJ (aC (aG (gJ (0::1::3::7::3::31::63::127::255::255::1023::2047::4095::8191::8191::32767::65535::131071::262143::524287::524287::2097151::4194303::8388607::16777215::[]) 25 0 (.v (.vc (pB false))::.v (.vc (pB false))::.v .un::.v .un::.v .un::.v .un::.v (.vc (pB false))::.v (.vc (pB false))::.v .un::.v .un::.v .un::.v (.vc (pB false))::.v (.vc (pB false))::.v .un::.v .un::.v .un::.v .un::.v (.vc (pB false))::.v (.vc (pB false))::.v .un::.v .un::.v .un::.v .un::.v (.vc (pB false))::.v (.vc (pB false))::[]) aS ⟨d0 (aK (.inl rfl)) zU1,d0 (aK (.inl rfl)) zU1,⟨rfl,.skipN⟩,⟨rfl,.skipN⟩,⟨rfl,.skipN⟩,⟨rfl,.skipN⟩,d0 (aP rfl) ⟨rfl,lU _,zT⟩,d0 (aK (.inl rfl)) zU1,⟨rfl,.skipN⟩,⟨rfl,.skipN⟩,⟨rfl,.skipN⟩,d0 (aP rfl) ⟨rfl,lU _,zT⟩,d0 (aK (.inl rfl)) zU1,⟨rfl,.skipN⟩,⟨rfl,.skipN⟩,⟨rfl,.skipN⟩,⟨rfl,.skipN⟩,d0 (aP rfl) ⟨rfl,lU _,zT⟩,d0 (aK (.inl rfl)) zU1,⟨rfl,.skipN⟩,⟨rfl,.skipN⟩,⟨rfl,.skipN⟩,⟨rfl,.skipN⟩,d0 (aP rfl) ⟨rfl,lU _,zT⟩,d0 (aK (.inr rfl)) zU1,zT⟩ (fun bs79 G78=>?_))));refine aJ (aC (bW (bV ?_)));obtain rfl:=f8 e;exact bS (.inl rfl) Tryz.results20 (.tmp rfl .nil) rfl rfl
 have e:=dY h48 e;refine aQ ?_;refine aQ ?_;refine aE (aP rfl) ⟨rfl,lU _,zT⟩ ?_;refine cK ?_;refine aQ ?_;refine aQ ?_;refine aE (aP rfl) ⟨rfl,lU _,zT⟩ ?_;refine cK ?_;refine aQ ?_;refine aQ ?_;refine aE (aP rfl) ⟨rfl,lU _,zT⟩ ?_;refine cK ?_;refine aQ ?_;refine aQ ?_;refine aQ ?_;refine aE (aP rfl) ⟨rfl,lU _,zT⟩ ?_;refine cK ?_;refine aQ ?_;refine aQ ?_;refine aQ ?_;refine aE (aP rfl) ⟨rfl,lU _,zT⟩ ?_;refine cK ?_;refine aQ ?_;refine aQ ?_;refine aQ ?_;refine aE (aP rfl) ⟨rfl,lU _,zT⟩ ?_;refine kL ?_;refine aJ (aC (aG (gJ (0::1::3::7::3::31::63::127::255::255::1023::2047::4095::8191::8191::32767::65535::131071::262143::524287::524287::2097151::4194303::8388607::16777215::[]) 25 0 (.v (.vc (pB false))::.v (.vc (pB false))::.v .un::.v .un::.v .un::.v .un::.v (.vc (pB false))::.v (.vc (pB false))::.v .un::.v .un::.v .un::.v (.vc (pB false))::.v (.vc (pB false))::.v .un::.v .un::.v .un::.v .un::.v (.vc (pB false))::.v (.vc (pB false))::.v .un::.v .un::.v .un::.v .un::.v (.vc (pB false))::.v (.vc (pB false))::[]) aS ⟨d0 (aK (.inl rfl)) zU1,d0 (aK (.inl rfl)) zU1,⟨rfl,.skipN⟩,⟨rfl,.skipN⟩,⟨rfl,.skipN⟩,⟨rfl,.skipN⟩,d0 (aP rfl) ⟨rfl,lU _,zT⟩,d0 (aK (.inl rfl)) zU1,⟨rfl,.skipN⟩,⟨rfl,.skipN⟩,⟨rfl,.skipN⟩,d0 (aP rfl) ⟨rfl,lU _,zT⟩,d0 (aK (.inl rfl)) zU1,⟨rfl,.skipN⟩,⟨rfl,.skipN⟩,⟨rfl,.skipN⟩,⟨rfl,.skipN⟩,d0 (aP rfl) ⟨rfl,lU _,zT⟩,d0 (aK (.inl rfl)) zU1,⟨rfl,.skipN⟩,⟨rfl,.skipN⟩,⟨rfl,.skipN⟩,⟨rfl,.skipN⟩,d0 (aP rfl) ⟨rfl,lU _,zT⟩,d0 (aK (.inr rfl)) zU1,zT⟩ (fun bs81 G80=>?_))));refine aJ (aC (bW (bV ?_)));obtain rfl:=f8 e;exact bS (.inl rfl) Tryz.results20 (.tmp rfl .nil) rfl rfl
def lW(K:Nat)(f:aL×Int)(e:aL×Int)(h:Bool):Option Bool:=
 bif h then(bif(e.1.kind==0) then((xR f.1.value e.1.value).bind fun j=>bif j then((aX K).bind fun k=>some k) else(some false)) else(some false)) else(bif(e.1.kind != 0) then((aX K).bind fun q=>some q) else((aAO e.1.value f.1.value).bind fun s=>bif(decide (s≤0)) then((aX K).bind fun t=>some t) else(some false)))
def gC(K:Nat)(e:aB)(h:aL×Int):Nat→Bool→Int→Option Bool
 |0,_,_=>none
 |k+1,j,f=>bif(decide (f<(e.lines.length:Int))) then(bif j then((cT e.lines f).bind fun q=>(kX K q.a h.1.x).bind fun s=>(cT e.lines f).bind fun t=>(aAO s t.b).bind fun u=>(aV (f+1)).bind fun y=>gC K e h k (decide (u≤0)) y) else((aV (f+1)).bind fun z=>gC K e h k false z)) else(some j)
def lY(K:Nat)(f:aL×Int)(e:aL×Int)(t:Bool):Option Bool:=
 bif t then(bif(e.1.kind==0) then((xR f.1.value e.1.value).bind fun h=>bif h then((aX K).bind fun j=>some j) else(some false)) else(some false)) else(bif(e.1.kind != 0) then((aX K).bind fun k=>some k) else((aAO e.1.value f.1.value).bind fun q=>bif(decide (q≤0)) then((aX K).bind fun s=>some s) else(some false)))
def gB(K:Nat)(e:aB)(h:aL×Int):Nat→Bool→Int→Option Bool
 |0,_,_=>none
 |k+1,j,f=>bif(decide (f<(e.lines.length:Int))) then(bif j then((cT e.lines f).bind fun q=>(kX K q.a h.1.x).bind fun s=>(cT e.lines f).bind fun t=>(aAO s t.b).bind fun u=>(aV (f+1)).bind fun y=>gB K e h k (decide (u≤0)) y) else((aV (f+1)).bind fun z=>gB K e h k false z)) else(some j)
def iV(K:Nat)(f:aL×Int)(e:aL×Int)(h:Bool):Option Bool:=
 bif h then(bif(e.1.kind==0) then((xR f.1.value e.1.value).bind fun j=>bif j then((aX K).bind fun k=>some k) else(some false)) else(some false)) else(bif(e.1.kind != 0) then((aX K).bind fun q=>some q) else((aAO e.1.value f.1.value).bind fun s=>bif(decide (s≤0)) then((aX K).bind fun t=>some t) else(some false)))
def bO(K:Nat)(f:aB)(j:aL×Int):Nat→Bool→Int→Option Bool
 |0,_,_=>none
 |k+1,h,e=>bif(decide (e<(f.lines.length:Int))) then(bif h then((cT f.lines e).bind fun q=>(kX K q.a j.1.x).bind fun s=>(cT f.lines e).bind fun t=>(aAO s t.b).bind fun u=>(aV (e+1)).bind fun y=>bO K f j k (decide (u≤0)) y) else((aV (e+1)).bind fun z=>bO K f j k false z)) else(some h)
def lO(K:Nat)(f:aL×Int)(e:aL×Int)(h:Bool):Option Bool:=
 bif h then(bif(e.1.kind==0) then((xR f.1.value e.1.value).bind fun j=>bif j then((aX K).bind fun k=>some k) else(some false)) else(some false)) else(bif(e.1.kind != 0) then((aX K).bind fun q=>some q) else((aAO e.1.value f.1.value).bind fun s=>bif(decide (s≤0)) then((aX K).bind fun t=>some t) else(some false)))
def fV(K:Nat)(f:aB)(j:aL×Int):Nat→Bool→Int→Option Bool
 |0,_,_=>none
 |k+1,h,e=>bif(decide (e<(f.lines.length:Int))) then(bif h then((cT f.lines e).bind fun q=>(kX K q.a j.1.x).bind fun s=>(cT f.lines e).bind fun t=>(aAO s t.b).bind fun u=>(aV (e+1)).bind fun y=>fV K f j k (decide (u≤0)) y) else((aV (e+1)).bind fun z=>fV K f j k false z)) else(some h)
def k7(K:Nat)(G:List Int)(a1:List Int):Option Bool:=
 (lJ K G 6).bind fun v1=>(gQ G 0 3).bind fun v4=>(uK [v4] a1).bind fun I=>(lJ K I 2).bind fun h=>(fU K v1).bind fun e=>(uK ([]:List aA) v1.lines).bind fun t=>(uK t h.lines).bind fun u=>(fU K (⟨v1.vars,u,v1.goal⟩:aB)).bind fun f=>bif(e.2 != 0) then(some false) else(bif(f.2 != 0) then(some false) else(bif(e.1.kind==1) then(bif(f.1.kind != 1) then(some false) else(bif(e.1.kind==0) then(bif(f.1.kind==2) then(some false) else(bif(e.1.kind != 0) then((aX K).bind fun x=>some x) else((gC K h e K true 0).bind fun y=>lW K e f y))) else(bif(e.1.kind != 0) then((aX K).bind fun z=>some z) else((gB K h e K true 0).bind fun F=>lY K e f F)))) else(bif(e.1.kind==0) then(bif(f.1.kind==2) then(some false) else(bif(e.1.kind != 0) then((aX K).bind fun j=>some j) else((bO K h e K true 0).bind fun k=>iV K e f k))) else(bif(e.1.kind != 0) then((aX K).bind fun q=>some q) else((fV K h e K true 0).bind fun s=>lO K e f s)))))
theorem uS{K:Nat}{a0:List Int}{a1:List Int}{r:Bool}(f:k7 K a0 a1=some r):Ct Tryz.prog 9 [.vc (pS cI a0),.vc (pS cI a1)] (.vc (pB r)):=by
 unfold k7 at f;refine aD Tryz.func9 rfl (by kernel_rfl) Tryz.ntmps9 rfl (fun w0 M0=>?_);refine aG (aH (aE (aK (.inr rfl)) ⟨lU _,zT⟩ ?_));refine aJ (aC (aG (aH (cK ?_))));obtain⟨v1,h2,f⟩:=aR f;refine aE (aT rfl (tW h2) rfl) ⟨rfl,hU _ _,zT⟩ ?_;refine aM rfl tyZ26q (fun b3=>?_);refine mU (xY 0 rfl rfl rfl tyA26.s) zU2 ?_;refine aJ (aC (aG (aH (cK ?_))));obtain⟨v4,h5,f⟩:=aR f;refine aE (aT rfl (sO h5) rfl) ⟨rfl,hU _ _,hU _ _,zT⟩ ?_;refine aDM (aCy (C:=cI) (xs:=[.tmp 17]) (ps:=[vI v4]) (zs:=[v4]) rfl tyS22 rfl ⟨⟨zT,rfl⟩,zT⟩ rfl) zU1 (fun b6 _=>?_);refine cK ?_;obtain⟨x9,h10,f⟩:=aR f;refine rJ 0 rfl tyS22 rfl rfl rfl rfl rfl h10 (fun b11 c12 H13 e14=>?_);cases e14;refine xI 0 [20] rfl (jE h10 rfl) zU1 rfl ?_;obtain⟨q,h17,f⟩:=aR f;refine aE (aT rfl (tW h17) rfl) ⟨rfl,hU _ _,zT⟩ ?_;refine aE (aNP (off:=1) (p:=pS aA.cod q.lines) rfl tyG26_1 rfl) zU1 ?_;refine kL ?_;refine aJ (aC (aG (aH (aE (iN 0 3 rfl rfl rfl rfl (.agg tyA26)) zU1 ?_))));obtain⟨h,h19,f⟩:=aR f;refine aE (aT rfl (lG h19) rfl) zU1 ?_;refine cK ?_;refine aE (sG rfl) zU1 ?_;refine aE (rE rfl) zU1 ?_;refine aM rfl tyZ34q (fun j=>?_);refine mU (xY 0 rfl rfl rfl tyA34.s) zU2 ?_;refine kL ?_;refine aJ (aC (aG (aH (aE (iN 1 3 rfl rfl rfl rfl (.agg tyA26)) zU1 ?_))));refine aM rfl tyZ26q (fun b21=>?_);refine mU (xY 0 rfl rfl rfl tyA26.s) zU2 ?_;refine aJ (aC (aG (aH (aDM (aCy (C:=aA.cod) (xs:=[]) (ps:=[]) (zs:=([]:List aA)) rfl tyS23 rfl zT rfl) zT (fun b22 _=>?_)))));refine aE (eZ (off:=0) (k:=1) rfl tyF26_1) zU1 ?_;refine aE (iN 3 1 rfl rfl rfl rfl (.one tyO23)) zU1 ?_;obtain⟨x25,h26,f⟩:=aR f;refine rJ 0 rfl tyS23 rfl rfl rfl rfl rfl h26 (fun b27 c28 H29 e30=>?_);cases e30;refine cK ?_;obtain⟨x32,h33,f⟩:=aR f;refine rJ 0 rfl tyS23 rfl rfl (jE h26 rfl) rfl rfl h33 (fun b34 c35 H36 e37=>?_);cases e37;refine aE (eZ (off:=0) (k:=1) rfl tyF26_1) zU1 ?_;refine mU (xY 1 rfl rfl rfl tyO23.s) zU2 ?_;refine aJ (aC (aG (aH (aIy 0 1 1 [34] rfl (jE h33 (jE h26 rfl)) rfl rfl rfl rfl rfl zU1 ?_))));refine aE (iN 0 3 rfl rfl rfl rfl (.agg tyA26)) zU1 ?_;obtain⟨u,h40,f⟩:=aR f;refine aE (aT rfl (lG h40) rfl) zU1 ?_;refine cK ?_;refine aE (sG rfl) zU1 ?_;refine aE (rE rfl) zU1 ?_;refine aM rfl tyZ34q (fun t=>?_);refine mU (xY 0 rfl rfl rfl tyA34.s) zU2 ?_;refine kL ?_;refine aJ (aC (aG (aG (aH (cK ?_)))));refine aE (z6 rfl) ⟨rfl,hU _ _,zT⟩ ?_;refine cK ?_;refine kR (fun h42=>?_) (fun h42=>?_)
 ·have f:=eG h42 f;refine aQ ?_;refine aQ ?_;refine aE (cE rfl) ⟨rfl,lU _,zT⟩ ?_;refine cK ?_;refine aQ ?_;refine aQ ?_;refine aQ ?_;refine aQ ?_;refine tY ?_;refine tY ?_;refine tY ?_;refine aQ ?_;refine aE (cE rfl) ⟨rfl,lU _,zT⟩ ?_;refine cK ?_;refine aQ ?_;refine aQ ?_;refine aQ ?_;refine aQ ?_;refine tY ?_;refine tY ?_;refine tY ?_;refine aQ ?_;refine aE (cE rfl) ⟨rfl,lU _,zT⟩ ?_;refine aJ (aC (rK rfl ?_));refine aG (aH (aE (aK (.inr rfl)) ⟨lU _,zT⟩ ?_));refine aJ (aC (bW (bV ?_)));obtain rfl:=f8 f;exact bS (.inl rfl) Tryz.results9 (.tmp rfl .nil) rfl rfl
 have f:=dY h42 f;refine aZ (aK (.inl rfl)) zU1 ?_;refine aZ (z6 rfl) ⟨rfl,hU _ _,zT⟩ ?_;refine aE (aP rfl) zU2 ?_;refine cK ?_;refine kR (fun h43=>?_) (fun h43=>?_)
 ·have f:=eG h43 f;refine aQ ?_;refine aQ ?_;refine aQ ?_;refine aQ ?_;refine tY ?_;refine tY ?_;refine tY ?_;refine aQ ?_;refine aE (cE rfl) ⟨rfl,lU _,zT⟩ ?_;refine cK ?_;refine aQ ?_;refine aQ ?_;refine aQ ?_;refine aQ ?_;refine tY ?_;refine tY ?_;refine tY ?_;refine aQ ?_;refine aE (cE rfl) ⟨rfl,lU _,zT⟩ ?_;refine aJ (aC (rK rfl ?_));refine aG (aH (aE (aK (.inr rfl)) ⟨lU _,zT⟩ ?_));refine aJ (aC (bW (bV ?_)));obtain rfl:=f8 f;exact bS (.inl rfl) Tryz.results9 (.tmp rfl .nil) rfl rfl
 have f:=dY h43 f;refine aZ (eZ (off:=0) (k:=0) rfl tyF34_0) zU1 ?_;refine aZ (iN 2 1 rfl rfl rfl rfl (.one tyO3)) zU1 ?_;refine aZ (vY rfl) ⟨rfl,hU _ _,zT⟩ ?_;refine aZ (aK (.inl rfl)) zU1 ?_;refine kR (fun h44=>?_) (fun h44=>?_)
 ·have f:=eG h44 f;refine aZ (eZ (off:=0) (k:=0) rfl tyF34_0) zU1 ?_;refine aZ (iN 0 1 rfl rfl rfl rfl (.one tyO3)) zU1 ?_;refine aZ (z6 rfl) ⟨rfl,hU _ _,zT⟩ ?_;refine aZ (cE rfl) zU2 ?_;refine aE (aP rfl) zU2 ?_;refine cK ?_;refine kR (fun h45=>?_) (fun h45=>?_)
  ·have f:=eG h45 f;refine aQ ?_;refine aQ ?_;refine aQ ?_;refine aQ ?_;refine tY ?_;refine tY ?_;refine tY ?_;refine aQ ?_;refine aE (cE rfl) ⟨rfl,lU _,zT⟩ ?_;refine aJ (aC (rK rfl ?_));refine aG (aH (aE (aK (.inr rfl)) ⟨lU _,zT⟩ ?_));refine aJ (aC (bW (bV ?_)));obtain rfl:=f8 f;exact bS (.inl rfl) Tryz.results9 (.tmp rfl .nil) rfl rfl
  have f:=dY h45 f;refine aZ (eZ (off:=0) (k:=0) rfl tyF34_0) zU1 ?_;refine aZ (iN 2 1 rfl rfl rfl rfl (.one tyO3)) zU1 ?_;refine aZ (vY rfl) ⟨rfl,hU _ _,zT⟩ ?_;refine aZ (aK (.inl rfl)) zU1 ?_;refine kR (fun h46=>?_) (fun h46=>?_)
  ·have f:=eG h46 f;refine aZ (eZ (off:=0) (k:=0) rfl tyF34_0) zU1 ?_;refine aZ (iN 0 1 rfl rfl rfl rfl (.one tyO3)) zU1 ?_;refine aZ (vY rfl) ⟨rfl,hU _ _,zT⟩ ?_;refine aZ (cE rfl) zU2 ?_;refine aE (aP rfl) zU2 ?_;refine aJ (aC (xZ rfl (fun h47=>?_) (fun h47=>?_)))
   ·have f:=eG h47 f;refine aG (aH (aE (aK (.inr rfl)) ⟨lU _,zT⟩ ?_));refine aJ (aC (bW (bV ?_)));obtain rfl:=f8 f;exact bS (.inl rfl) Tryz.results9 (.tmp rfl .nil) rfl rfl
   have f:=dY h47 f;refine fG (aC (aG (aG (aH (aE (eZ (off:=0) (k:=0) rfl tyF34_0) zU1 ?_)))));refine aE (iN 2 1 rfl rfl rfl rfl (.one tyO3)) zU1 ?_;refine aE (z6 rfl) ⟨rfl,hU _ _,zT⟩ ?_;refine aJ (aC (xZ rfl (fun h48=>?_) (fun h48=>?_)))
   ·have f:=eG h48 f;refine aG (aH ?_);obtain⟨v49,h50,f⟩:=aR f;refine aE (aT rfl (bI h50) rfl) zT ?_;refine kL ?_;refine aJ (aC (bW (bV ?_)));obtain rfl:=f8 f;exact bS (.inl rfl) Tryz.results9 (.tmp rfl .nil) rfl rfl
   have f:=dY h48 f;refine fG (aC (aG (aH (aE (aK (.inr rfl)) ⟨lU _,zT⟩ ?_))));refine aJ (aC (aG (aG (aH (aE (aK (.inr rfl)) ⟨hU _ _,zT⟩ ?_)))));refine aJ (aC (aO (bM (fun H E=>∃(x55:Bool),lW K h u x55=some r∧H=[⟨some t,1,34,7,1,(aL.enc u.1)⟩,⟨some j,1,34,7,1,(aL.enc h.1)⟩]∧E=[(7,.vc (pP (some j) 0)),(10,.vc (pP (some t) 0)),(12,.vc (pB x55))]) ?_ (fun Jj57=>?_))))
   ·rintro _ _ ⟨x55,f,rfl,rfl⟩;unfold lW at f;refine aC (aG (aG (aH (cK ?_))));refine aJ (aC (xZ rfl (fun h58=>?_) (fun h58=>?_)))
    ·have f:=eG h58 f;refine aG (aH (aE (eZ (off:=0) (k:=0) rfl tyF34_0) zU1 ?_));refine aE (iN 0 1 rfl rfl rfl rfl (.one tyO3)) zU1 ?_;refine aE (vY rfl) ⟨rfl,hU _ _,zT⟩ ?_;refine cK ?_;refine kR (fun h59=>?_) (fun h59=>?_)
     ·have f:=eG h59 f;refine aZ (eZ (off:=0) (k:=3) rfl tyF34_3) zU1 ?_;refine aZ (iN 1 4 rfl rfl rfl rfl (.agg tyA32)) zU1 ?_;refine aZ (eZ (off:=0) (k:=3) rfl tyF34_3) zU1 ?_;refine aZ (iN 0 4 rfl rfl rfl rfl (.agg tyA32)) zU1 ?_;obtain⟨v60,h61,f⟩:=aR f;refine aZ (aT rfl (lZ h61) rfl) zU2 ?_;refine aE (cE rfl) zU2 ?_;refine cK ?_;refine kR (fun h62=>?_) (fun h62=>?_)
      ·have f:=eG h62 f;obtain⟨v63,h64,f⟩:=aR f;refine aZ (aT rfl (bI h64) rfl) zT ?_;refine aE (cE rfl) zU2 ?_;refine kL ?_;refine aJ (aC (bW (bV ?_)));obtain rfl:=f8 f;exact bS (.inl rfl) Tryz.results9 (.tmp rfl .nil) rfl rfl
      have f:=dY h62 f;refine aQ ?_;refine aE (aP rfl) ⟨rfl,lU _,zT⟩ ?_;refine kL ?_;refine aJ (aC (bW (bV ?_)));obtain rfl:=f8 f;exact bS (.inl rfl) Tryz.results9 (.tmp rfl .nil) rfl rfl
     have f:=dY h59 f;refine aQ ?_;refine aQ ?_;refine aQ ?_;refine aQ ?_;refine aQ ?_;refine aE (aP rfl) ⟨rfl,lU _,zT⟩ ?_;refine cK ?_;refine aQ ?_;refine aE (aP rfl) ⟨rfl,lU _,zT⟩ ?_;refine kL ?_;refine aJ (aC (bW (bV ?_)));obtain rfl:=f8 f;exact bS (.inl rfl) Tryz.results9 (.tmp rfl .nil) rfl rfl
    have f:=dY h58 f;refine fG (aC (aG (aH (aE (eZ (off:=0) (k:=0) rfl tyF34_0) zU1 ?_))));refine aE (iN 0 1 rfl rfl rfl rfl (.one tyO3)) zU1 ?_;refine aE (z6 rfl) ⟨rfl,hU _ _,zT⟩ ?_;refine cK ?_;refine kR (fun h65=>?_) (fun h65=>?_)
    ·have f:=eG h65 f;refine aQ ?_;refine aQ ?_;refine aQ ?_;refine aQ ?_;refine aQ ?_;refine aQ ?_;refine aE (cE rfl) ⟨rfl,lU _,zT⟩ ?_;refine cK ?_;obtain⟨v66,h67,f⟩:=aR f;refine aZ (aT rfl (bI h67) rfl) zT ?_;refine aE (cE rfl) zU2 ?_;refine kL ?_;refine aJ (aC (bW (bV ?_)));obtain rfl:=f8 f;exact bS (.inl rfl) Tryz.results9 (.tmp rfl .nil) rfl rfl
    have f:=dY h65 f;refine aZ (eZ (off:=0) (k:=3) rfl tyF34_3) zU1 ?_;refine aZ (iN 0 4 rfl rfl rfl rfl (.agg tyA32)) zU1 ?_;refine aZ (eZ (off:=0) (k:=3) rfl tyF34_3) zU1 ?_;refine aZ (iN 1 4 rfl rfl rfl rfl (.agg tyA32)) zU1 ?_;obtain⟨v68,h69,f⟩:=aR f;refine aZ (aT rfl (iJ h69) rfl) zU2 ?_;refine aZ (aBU rfl) ⟨rfl,hU _ _,zT⟩ ?_;refine aE (aP rfl) zU2 ?_;refine cK ?_;refine kR (fun h70=>?_) (fun h70=>?_)
    ·have f:=eG h70 f;obtain⟨v71,h72,f⟩:=aR f;refine aZ (aT rfl (bI h72) rfl) zT ?_;refine aE (cE rfl) zU2 ?_;refine kL ?_;refine aJ (aC (bW (bV ?_)));obtain rfl:=f8 f;exact bS (.inl rfl) Tryz.results9 (.tmp rfl .nil) rfl rfl
    have f:=dY h70 f;refine aQ ?_;refine aE (aP rfl) ⟨rfl,lU _,zT⟩ ?_;refine kL ?_;refine aJ (aC (bW (bV ?_)));obtain rfl:=f8 f;exact bS (.inl rfl) Tryz.results9 (.tmp rfl .nil) rfl rfl
   obtain⟨x55',hL,hRl56⟩:=aR f;refine iO (fun k a w=>∃(x53:Bool),∃(x54:Int),gC K q h k x53 x54=some x55'∧hs _ [⟨some t,1,34,7,1,(aL.enc u.1)⟩,⟨some j,1,34,7,1,(aL.enc h.1)⟩] [(6,.vc (pS aA.cod q.lines)),(7,.vc (pP (some j) 0)),(10,.vc (pP (some t) 0)),(12,.vc (pB x53)),(13,vI x54)] a w) K (fun a w ⟨_,_,f,_⟩=>by cases f) (fun k a w ⟨x53,x54,f,hh⟩=>iR ?_ hh) (fun a w hh=>⟨true,0,hL,qA [0,2] rfl (by decide) (by exact⟨rfl,rfl,rfl,rfl,rfl,zT⟩) hh⟩);rw[gC.eq_2]at f;refine aG (aG (aH (cK ?_)));refine cK ?_;refine aE (aCV rfl tyS23) zU1 ?_;refine aE (aFI rfl) zU2 ?_;refine aJ (aC (xZ rfl (fun h73=>?_) (fun h73=>?_)))
   ·have f:=eG h73 f;refine fG (aC (aG (aO ?_)));rcases Bool.eq_false_or_eq_true x53 with h76|h76
    ·have f:=eG h76 f;obtain⟨v77,h78,f⟩:=aR f;obtain⟨v79,h80,f⟩:=aR f;obtain⟨v81,h82,f⟩:=aR f;obtain⟨v83,h84,f⟩:=aR f;refine gJ [0,1,3,3,15,31,63,3,131,511,3,3,3075,7171,15363,32767,65535,131071,262143] 19 0 [.v (.vc (pB x53)),.v (.vc (pB true)),.v (.vc (pS aA.cod q.lines)),.v (vI x54),.v (.vc (pM (aA.cod.e v77))),.v (.vc (pM (aA.cod.e v77))),.v (.vc (pS cQ v77.a)),.v (.vc (pP (some j) 1)),.v (.vc (pS cQ h.1.x)),.v (.va (eQ v79)),.v (.vc (pS aA.cod q.lines)),.v (vI x54),.v (.vc (pM (aA.cod.e v81))),.v (.vc (pM ((aA.cod.e v81).drop 1))),.v (.va (eQ v81.b)),.v (vI v83),.v (.vc (pB (decide (v83≤0)))),.v (.vc (pB (decide (v83≤0)))),.v (.vc (pB (decide (v83≤0))))] aS ⟨d0 (aK (.inl rfl)) zU1,d0 (gN (aK (.inl rfl)) h76) zU1,g0 (aK (.inl rfl)) zU1,g0 (aK (.inl rfl)) zU1,g0 (xT rfl tyS23 h78) zU2,g0 (yJ (ps:=(aA.cod.e v77)) (k:=0) rfl tyF66_0) zU1,g0 (vF 1 rfl rfl (.one tyO24)) zU1,g0 (eZ (off:=0) (k:=1) rfl tyF34_1) zU1,g0 (iN 1 1 rfl rfl rfl rfl (.one tyO24)) zU1,g0 (aT rfl (oN h80) rfl) zU2,g0 (aK (.inl rfl)) zU1,g0 (aK (.inl rfl)) zU1,g0 (xT rfl tyS23 h82) zU2,g0 (yJ (ps:=(aA.cod.e v81)) (k:=1) rfl tyF66_1) zU1,g0 (vF 4 rfl rfl (.agg tyA32)) zU1,g0 (aT rfl (iJ h84) rfl) zU2,g0 (aBU rfl) ⟨rfl,hU _ _,zT⟩,d0 (cE rfl) zU2,d0 (aK (.inr rfl)) zU1,zT⟩ (fun bs75 G74=>?_);refine aJ (tR (aC (aH (cK ?_))));obtain⟨v85,h86,f⟩:=aR f;refine aE (sS rfl h86) ⟨rfl,hU _ _,zT⟩ ?_;refine kL ?_;refine aJ ?_;exact aN (fun a w hh=>⟨(decide (v83≤0)),v85,f,qA [0,1] rfl (by decide) (by exact⟨rfl,rfl,rfl,rfl,rfl,zT⟩) hh⟩)
    have f:=dY h76 f;refine gJ [0,1,3,3,15,31,63,3,131,511,3,3,3075,7171,15363,32767,65535,131071,262143] 19 0 [.v (.vc (pB x53)),.v (.vc (pB false)),.v .un,.v .un,.v .un,.v .un,.v .un,.v .un,.v .un,.v .un,.v .un,.v .un,.v .un,.v .un,.v .un,.v .un,.v .un,.v (.vc (pB false)),.v (.vc (pB false))] aS ⟨d0 (aK (.inl rfl)) zU1,d0 (gN (aK (.inl rfl)) h76) zU1,⟨rfl,.skipN⟩,⟨rfl,.skipN⟩,⟨rfl,.skipN⟩,⟨rfl,.skipN⟩,⟨rfl,.skipN⟩,⟨rfl,.skipN⟩,⟨rfl,.skipN⟩,⟨rfl,.skipN⟩,⟨rfl,.skipN⟩,⟨rfl,.skipN⟩,⟨rfl,.skipN⟩,⟨rfl,.skipN⟩,⟨rfl,.skipN⟩,⟨rfl,.skipN⟩,⟨rfl,.skipN⟩,d0 (aP rfl) ⟨rfl,lU _,zT⟩,d0 (aK (.inr rfl)) zU1,zT⟩ (fun bs75 G74=>?_);refine aJ (tR (aC (aH (cK ?_))));obtain⟨v87,h88,f⟩:=aR f;refine aE (sS rfl h88) ⟨rfl,hU _ _,zT⟩ ?_;refine kL ?_;refine aJ ?_;exact aN (fun a w hh=>⟨false,v87,f,qA [0,1] rfl (by decide) (by exact⟨rfl,rfl,rfl,rfl,rfl,zT⟩) hh⟩)
   have f:=dY h73 f;refine cO ?_;obtain rfl:=f8 f;exact aA7 Jj57 ⟨x53,hRl56,rfl,rfl⟩ [0,1] rfl ⟨rfl,rfl,rfl,zT⟩
  have f:=dY h46 f;refine aQ ?_;refine aQ ?_;refine aQ ?_;refine aZ (aP rfl) ⟨rfl,lU _,zT⟩ ?_;refine aE (aP rfl) zU2 ?_;refine aJ (aC (r9 rfl ?_));refine fG (aC (aG (aG (aH (aE (eZ (off:=0) (k:=0) rfl tyF34_0) zU1 ?_)))));refine aE (iN 2 1 rfl rfl rfl rfl (.one tyO3)) zU1 ?_;refine aE (z6 rfl) ⟨rfl,hU _ _,zT⟩ ?_;refine aJ (aC (xZ rfl (fun h89=>?_) (fun h89=>?_)))
  ·have f:=eG h89 f;refine aG (aH ?_);obtain⟨v90,h91,f⟩:=aR f;refine aE (aT rfl (bI h91) rfl) zT ?_;refine kL ?_;refine aJ (aC (bW (bV ?_)));obtain rfl:=f8 f;exact bS (.inl rfl) Tryz.results9 (.tmp rfl .nil) rfl rfl
  have f:=dY h89 f;refine fG (aC (aG (aH (aE (aK (.inr rfl)) ⟨lU _,zT⟩ ?_))));refine aJ (aC (aG (aG (aH (aE (aK (.inr rfl)) ⟨hU _ _,zT⟩ ?_)))));refine aJ (aC (aO (bM (fun H E=>∃(x96:Bool),lY K h u x96=some r∧H=[⟨some t,1,34,7,1,(aL.enc u.1)⟩,⟨some j,1,34,7,1,(aL.enc h.1)⟩]∧E=[(7,.vc (pP (some j) 0)),(10,.vc (pP (some t) 0)),(12,.vc (pB x96))]) ?_ (fun Jj98=>?_))))
  ·rintro _ _ ⟨x96,f,rfl,rfl⟩;unfold lY at f;refine aC (aG (aG (aH (cK ?_))));refine aJ (aC (xZ rfl (fun h99=>?_) (fun h99=>?_)))
   ·have f:=eG h99 f;refine aG (aH (aE (eZ (off:=0) (k:=0) rfl tyF34_0) zU1 ?_));refine aE (iN 0 1 rfl rfl rfl rfl (.one tyO3)) zU1 ?_;refine aE (vY rfl) ⟨rfl,hU _ _,zT⟩ ?_;refine cK ?_;refine kR (fun h100=>?_) (fun h100=>?_)
    ·have f:=eG h100 f;refine aZ (eZ (off:=0) (k:=3) rfl tyF34_3) zU1 ?_;refine aZ (iN 1 4 rfl rfl rfl rfl (.agg tyA32)) zU1 ?_;refine aZ (eZ (off:=0) (k:=3) rfl tyF34_3) zU1 ?_;refine aZ (iN 0 4 rfl rfl rfl rfl (.agg tyA32)) zU1 ?_;obtain⟨v101,h102,f⟩:=aR f;refine aZ (aT rfl (lZ h102) rfl) zU2 ?_;refine aE (cE rfl) zU2 ?_;refine cK ?_;refine kR (fun h103=>?_) (fun h103=>?_)
     ·have f:=eG h103 f;obtain⟨v104,h105,f⟩:=aR f;refine aZ (aT rfl (bI h105) rfl) zT ?_;refine aE (cE rfl) zU2 ?_;refine kL ?_;refine aJ (aC (bW (bV ?_)));obtain rfl:=f8 f;exact bS (.inl rfl) Tryz.results9 (.tmp rfl .nil) rfl rfl
     have f:=dY h103 f;refine aQ ?_;refine aE (aP rfl) ⟨rfl,lU _,zT⟩ ?_;refine kL ?_;refine aJ (aC (bW (bV ?_)));obtain rfl:=f8 f;exact bS (.inl rfl) Tryz.results9 (.tmp rfl .nil) rfl rfl
    have f:=dY h100 f;refine aQ ?_;refine aQ ?_;refine aQ ?_;refine aQ ?_;refine aQ ?_;refine aE (aP rfl) ⟨rfl,lU _,zT⟩ ?_;refine cK ?_;refine aQ ?_;refine aE (aP rfl) ⟨rfl,lU _,zT⟩ ?_;refine kL ?_;refine aJ (aC (bW (bV ?_)));obtain rfl:=f8 f;exact bS (.inl rfl) Tryz.results9 (.tmp rfl .nil) rfl rfl
   have f:=dY h99 f;refine fG (aC (aG (aH (aE (eZ (off:=0) (k:=0) rfl tyF34_0) zU1 ?_))));refine aE (iN 0 1 rfl rfl rfl rfl (.one tyO3)) zU1 ?_;refine aE (z6 rfl) ⟨rfl,hU _ _,zT⟩ ?_;refine cK ?_;refine kR (fun h106=>?_) (fun h106=>?_)
   ·have f:=eG h106 f;refine aQ ?_;refine aQ ?_;refine aQ ?_;refine aQ ?_;refine aQ ?_;refine aQ ?_;refine aE (cE rfl) ⟨rfl,lU _,zT⟩ ?_;refine cK ?_;obtain⟨v107,h108,f⟩:=aR f;refine aZ (aT rfl (bI h108) rfl) zT ?_;refine aE (cE rfl) zU2 ?_;refine kL ?_;refine aJ (aC (bW (bV ?_)));obtain rfl:=f8 f;exact bS (.inl rfl) Tryz.results9 (.tmp rfl .nil) rfl rfl
   have f:=dY h106 f;refine aZ (eZ (off:=0) (k:=3) rfl tyF34_3) zU1 ?_;refine aZ (iN 0 4 rfl rfl rfl rfl (.agg tyA32)) zU1 ?_;refine aZ (eZ (off:=0) (k:=3) rfl tyF34_3) zU1 ?_;refine aZ (iN 1 4 rfl rfl rfl rfl (.agg tyA32)) zU1 ?_;obtain⟨v109,h110,f⟩:=aR f;refine aZ (aT rfl (iJ h110) rfl) zU2 ?_;refine aZ (aBU rfl) ⟨rfl,hU _ _,zT⟩ ?_;refine aE (aP rfl) zU2 ?_;refine cK ?_;refine kR (fun h111=>?_) (fun h111=>?_)
   ·have f:=eG h111 f;obtain⟨v112,h113,f⟩:=aR f;refine aZ (aT rfl (bI h113) rfl) zT ?_;refine aE (cE rfl) zU2 ?_;refine kL ?_;refine aJ (aC (bW (bV ?_)));obtain rfl:=f8 f;exact bS (.inl rfl) Tryz.results9 (.tmp rfl .nil) rfl rfl
   have f:=dY h111 f;refine aQ ?_;refine aE (aP rfl) ⟨rfl,lU _,zT⟩ ?_;refine kL ?_;refine aJ (aC (bW (bV ?_)));obtain rfl:=f8 f;exact bS (.inl rfl) Tryz.results9 (.tmp rfl .nil) rfl rfl
  obtain⟨x96',hL,hRl97⟩:=aR f;refine iO (fun k a w=>∃(x94:Bool),∃(x95:Int),gB K q h k x94 x95=some x96'∧hs _ [⟨some t,1,34,7,1,(aL.enc u.1)⟩,⟨some j,1,34,7,1,(aL.enc h.1)⟩] [(6,.vc (pS aA.cod q.lines)),(7,.vc (pP (some j) 0)),(10,.vc (pP (some t) 0)),(12,.vc (pB x94)),(13,vI x95)] a w) K (fun a w ⟨_,_,f,_⟩=>by cases f) (fun k a w ⟨x94,x95,f,hh⟩=>iR ?_ hh) (fun a w hh=>⟨true,0,hL,qA [0,2] rfl (by decide) (by exact⟨rfl,rfl,rfl,rfl,rfl,zT⟩) hh⟩);rw[gB.eq_2]at f;refine aG (aG (aH (cK ?_)));refine cK ?_;refine aE (aCV rfl tyS23) zU1 ?_;refine aE (aFI rfl) zU2 ?_;refine aJ (aC (xZ rfl (fun h114=>?_) (fun h114=>?_)))
  ·have f:=eG h114 f;refine fG (aC (aG (aO ?_)));rcases Bool.eq_false_or_eq_true x94 with F|F
   ·have f:=eG F f;obtain⟨v118,h119,f⟩:=aR f;obtain⟨v120,h121,f⟩:=aR f;obtain⟨v122,h123,f⟩:=aR f;obtain⟨G,h125,f⟩:=aR f;refine gJ [0,1,3,3,15,31,63,3,131,511,3,3,3075,7171,15363,32767,65535,131071,262143] 19 0 [.v (.vc (pB x94)),.v (.vc (pB true)),.v (.vc (pS aA.cod q.lines)),.v (vI x95),.v (.vc (pM (aA.cod.e v118))),.v (.vc (pM (aA.cod.e v118))),.v (.vc (pS cQ v118.a)),.v (.vc (pP (some j) 1)),.v (.vc (pS cQ h.1.x)),.v (.va (eQ v120)),.v (.vc (pS aA.cod q.lines)),.v (vI x95),.v (.vc (pM (aA.cod.e v122))),.v (.vc (pM ((aA.cod.e v122).drop 1))),.v (.va (eQ v122.b)),.v (vI G),.v (.vc (pB (decide (G≤0)))),.v (.vc (pB (decide (G≤0)))),.v (.vc (pB (decide (G≤0))))] aS ⟨d0 (aK (.inl rfl)) zU1,d0 (gN (aK (.inl rfl)) F) zU1,g0 (aK (.inl rfl)) zU1,g0 (aK (.inl rfl)) zU1,g0 (xT rfl tyS23 h119) zU2,g0 (yJ (ps:=(aA.cod.e v118)) (k:=0) rfl tyF66_0) zU1,g0 (vF 1 rfl rfl (.one tyO24)) zU1,g0 (eZ (off:=0) (k:=1) rfl tyF34_1) zU1,g0 (iN 1 1 rfl rfl rfl rfl (.one tyO24)) zU1,g0 (aT rfl (oN h121) rfl) zU2,g0 (aK (.inl rfl)) zU1,g0 (aK (.inl rfl)) zU1,g0 (xT rfl tyS23 h123) zU2,g0 (yJ (ps:=(aA.cod.e v122)) (k:=1) rfl tyF66_1) zU1,g0 (vF 4 rfl rfl (.agg tyA32)) zU1,g0 (aT rfl (iJ h125) rfl) zU2,g0 (aBU rfl) ⟨rfl,hU _ _,zT⟩,d0 (cE rfl) zU2,d0 (aK (.inr rfl)) zU1,zT⟩ (fun bs116 G115=>?_);refine aJ (tR (aC (aH (cK ?_))));obtain⟨v126,h127,f⟩:=aR f;refine aE (sS rfl h127) ⟨rfl,hU _ _,zT⟩ ?_;refine kL ?_;refine aJ ?_;exact aN (fun a w hh=>⟨(decide (G≤0)),v126,f,qA [0,1] rfl (by decide) (by exact⟨rfl,rfl,rfl,rfl,rfl,zT⟩) hh⟩)
   have f:=dY F f;refine gJ [0,1,3,3,15,31,63,3,131,511,3,3,3075,7171,15363,32767,65535,131071,262143] 19 0 [.v (.vc (pB x94)),.v (.vc (pB false)),.v .un,.v .un,.v .un,.v .un,.v .un,.v .un,.v .un,.v .un,.v .un,.v .un,.v .un,.v .un,.v .un,.v .un,.v .un,.v (.vc (pB false)),.v (.vc (pB false))] aS ⟨d0 (aK (.inl rfl)) zU1,d0 (gN (aK (.inl rfl)) F) zU1,⟨rfl,.skipN⟩,⟨rfl,.skipN⟩,⟨rfl,.skipN⟩,⟨rfl,.skipN⟩,⟨rfl,.skipN⟩,⟨rfl,.skipN⟩,⟨rfl,.skipN⟩,⟨rfl,.skipN⟩,⟨rfl,.skipN⟩,⟨rfl,.skipN⟩,⟨rfl,.skipN⟩,⟨rfl,.skipN⟩,⟨rfl,.skipN⟩,⟨rfl,.skipN⟩,⟨rfl,.skipN⟩,d0 (aP rfl) ⟨rfl,lU _,zT⟩,d0 (aK (.inr rfl)) zU1,zT⟩ (fun bs116 G115=>?_);refine aJ (tR (aC (aH (cK ?_))));obtain⟨v128,h129,f⟩:=aR f;refine aE (sS rfl h129) ⟨rfl,hU _ _,zT⟩ ?_;refine kL ?_;refine aJ ?_;exact aN (fun a w hh=>⟨false,v128,f,qA [0,1] rfl (by decide) (by exact⟨rfl,rfl,rfl,rfl,rfl,zT⟩) hh⟩)
  have f:=dY h114 f;refine cO ?_;obtain rfl:=f8 f;exact aA7 Jj98 ⟨x94,hRl97,rfl,rfl⟩ [0,1] rfl ⟨rfl,rfl,rfl,zT⟩
 have f:=dY h44 f;refine aQ ?_;refine aQ ?_;refine aQ ?_;refine aZ (aP rfl) ⟨rfl,lU _,zT⟩ ?_;refine aE (aP rfl) zU2 ?_;refine cK ?_;refine aZ (eZ (off:=0) (k:=0) rfl tyF34_0) zU1 ?_;refine aZ (iN 2 1 rfl rfl rfl rfl (.one tyO3)) zU1 ?_;refine aZ (vY rfl) ⟨rfl,hU _ _,zT⟩ ?_;refine aZ (aK (.inl rfl)) zU1 ?_;refine kR (fun h130=>?_) (fun h130=>?_)
 ·have f:=eG h130 f;refine aZ (eZ (off:=0) (k:=0) rfl tyF34_0) zU1 ?_;refine aZ (iN 0 1 rfl rfl rfl rfl (.one tyO3)) zU1 ?_;refine aZ (vY rfl) ⟨rfl,hU _ _,zT⟩ ?_;refine aZ (cE rfl) zU2 ?_;refine aE (aP rfl) zU2 ?_;refine aJ (aC (xZ rfl (fun h131=>?_) (fun h131=>?_)))
  ·have f:=eG h131 f;refine aG (aH (aE (aK (.inr rfl)) ⟨lU _,zT⟩ ?_));refine aJ (aC (bW (bV ?_)));obtain rfl:=f8 f;exact bS (.inl rfl) Tryz.results9 (.tmp rfl .nil) rfl rfl
  have f:=dY h131 f;refine fG (aC (aG (aG (aH (aE (eZ (off:=0) (k:=0) rfl tyF34_0) zU1 ?_)))));refine aE (iN 2 1 rfl rfl rfl rfl (.one tyO3)) zU1 ?_;refine aE (z6 rfl) ⟨rfl,hU _ _,zT⟩ ?_;refine aJ (aC (xZ rfl (fun h132=>?_) (fun h132=>?_)))
  ·have f:=eG h132 f;refine aG (aH ?_);obtain⟨v133,h134,f⟩:=aR f;refine aE (aT rfl (bI h134) rfl) zT ?_;refine kL ?_;refine aJ (aC (bW (bV ?_)));obtain rfl:=f8 f;exact bS (.inl rfl) Tryz.results9 (.tmp rfl .nil) rfl rfl
  have f:=dY h132 f;refine fG (aC (aG (aH (aE (aK (.inr rfl)) ⟨lU _,zT⟩ ?_))));refine aJ (aC (aG (aG (aH (aE (aK (.inr rfl)) ⟨hU _ _,zT⟩ ?_)))));refine aJ (aC (aO (bM (fun H E=>∃(x139:Bool),iV K h u x139=some r∧H=[⟨some t,1,34,7,1,(aL.enc u.1)⟩,⟨some j,1,34,7,1,(aL.enc h.1)⟩]∧E=[(7,.vc (pP (some j) 0)),(10,.vc (pP (some t) 0)),(12,.vc (pB x139))]) ?_ (fun Jj141=>?_))))
  ·rintro _ _ ⟨x139,f,rfl,rfl⟩;unfold iV at f;refine aC (aG (aG (aH (cK ?_))));refine aJ (aC (xZ rfl (fun h142=>?_) (fun h142=>?_)))
   ·have f:=eG h142 f;refine aG (aH (aE (eZ (off:=0) (k:=0) rfl tyF34_0) zU1 ?_));refine aE (iN 0 1 rfl rfl rfl rfl (.one tyO3)) zU1 ?_;refine aE (vY rfl) ⟨rfl,hU _ _,zT⟩ ?_;refine cK ?_;refine kR (fun h143=>?_) (fun h143=>?_)
    ·have f:=eG h143 f;refine aZ (eZ (off:=0) (k:=3) rfl tyF34_3) zU1 ?_;refine aZ (iN 1 4 rfl rfl rfl rfl (.agg tyA32)) zU1 ?_;refine aZ (eZ (off:=0) (k:=3) rfl tyF34_3) zU1 ?_;refine aZ (iN 0 4 rfl rfl rfl rfl (.agg tyA32)) zU1 ?_;obtain⟨v144,h145,f⟩:=aR f;refine aZ (aT rfl (lZ h145) rfl) zU2 ?_;refine aE (cE rfl) zU2 ?_;refine cK ?_;refine kR (fun h146=>?_) (fun h146=>?_)
     ·have f:=eG h146 f;obtain⟨v147,h148,f⟩:=aR f;refine aZ (aT rfl (bI h148) rfl) zT ?_;refine aE (cE rfl) zU2 ?_;refine kL ?_;refine aJ (aC (bW (bV ?_)));obtain rfl:=f8 f;exact bS (.inl rfl) Tryz.results9 (.tmp rfl .nil) rfl rfl
     have f:=dY h146 f;refine aQ ?_;refine aE (aP rfl) ⟨rfl,lU _,zT⟩ ?_;refine kL ?_;refine aJ (aC (bW (bV ?_)));obtain rfl:=f8 f;exact bS (.inl rfl) Tryz.results9 (.tmp rfl .nil) rfl rfl
    have f:=dY h143 f;refine aQ ?_;refine aQ ?_;refine aQ ?_;refine aQ ?_;refine aQ ?_;refine aE (aP rfl) ⟨rfl,lU _,zT⟩ ?_;refine cK ?_;refine aQ ?_;refine aE (aP rfl) ⟨rfl,lU _,zT⟩ ?_;refine kL ?_;refine aJ (aC (bW (bV ?_)));obtain rfl:=f8 f;exact bS (.inl rfl) Tryz.results9 (.tmp rfl .nil) rfl rfl
   have f:=dY h142 f;refine fG (aC (aG (aH (aE (eZ (off:=0) (k:=0) rfl tyF34_0) zU1 ?_))));refine aE (iN 0 1 rfl rfl rfl rfl (.one tyO3)) zU1 ?_;refine aE (z6 rfl) ⟨rfl,hU _ _,zT⟩ ?_;refine cK ?_;refine kR (fun h149=>?_) (fun h149=>?_)
   ·have f:=eG h149 f;refine aQ ?_;refine aQ ?_;refine aQ ?_;refine aQ ?_;refine aQ ?_;refine aQ ?_;refine aE (cE rfl) ⟨rfl,lU _,zT⟩ ?_;refine cK ?_;obtain⟨v150,h151,f⟩:=aR f;refine aZ (aT rfl (bI h151) rfl) zT ?_;refine aE (cE rfl) zU2 ?_;refine kL ?_;refine aJ (aC (bW (bV ?_)));obtain rfl:=f8 f;exact bS (.inl rfl) Tryz.results9 (.tmp rfl .nil) rfl rfl
   have f:=dY h149 f;refine aZ (eZ (off:=0) (k:=3) rfl tyF34_3) zU1 ?_;refine aZ (iN 0 4 rfl rfl rfl rfl (.agg tyA32)) zU1 ?_;refine aZ (eZ (off:=0) (k:=3) rfl tyF34_3) zU1 ?_;refine aZ (iN 1 4 rfl rfl rfl rfl (.agg tyA32)) zU1 ?_;obtain⟨v152,h153,f⟩:=aR f;refine aZ (aT rfl (iJ h153) rfl) zU2 ?_;refine aZ (aBU rfl) ⟨rfl,hU _ _,zT⟩ ?_;refine aE (aP rfl) zU2 ?_;refine cK ?_;refine kR (fun h154=>?_) (fun h154=>?_)
   ·have f:=eG h154 f;obtain⟨v155,h156,f⟩:=aR f;refine aZ (aT rfl (bI h156) rfl) zT ?_;refine aE (cE rfl) zU2 ?_;refine kL ?_;refine aJ (aC (bW (bV ?_)));obtain rfl:=f8 f;exact bS (.inl rfl) Tryz.results9 (.tmp rfl .nil) rfl rfl
   have f:=dY h154 f;refine aQ ?_;refine aE (aP rfl) ⟨rfl,lU _,zT⟩ ?_;refine kL ?_;refine aJ (aC (bW (bV ?_)));obtain rfl:=f8 f;exact bS (.inl rfl) Tryz.results9 (.tmp rfl .nil) rfl rfl
  obtain⟨x139',hL,hRl140⟩:=aR f;refine iO (fun k a w=>∃(y:Bool),∃(I:Int),bO K q h k y I=some x139'∧hs _ [⟨some t,1,34,7,1,(aL.enc u.1)⟩,⟨some j,1,34,7,1,(aL.enc h.1)⟩] [(6,.vc (pS aA.cod q.lines)),(7,.vc (pP (some j) 0)),(10,.vc (pP (some t) 0)),(12,.vc (pB y)),(13,vI I)] a w) K (fun a w ⟨_,_,f,_⟩=>by cases f) (fun k a w ⟨y,I,f,hh⟩=>iR ?_ hh) (fun a w hh=>⟨true,0,hL,qA [0,2] rfl (by decide) (by exact⟨rfl,rfl,rfl,rfl,rfl,zT⟩) hh⟩);rw[bO.eq_2]at f;refine aG (aG (aH (cK ?_)));refine cK ?_;refine aE (aCV rfl tyS23) zU1 ?_;refine aE (aFI rfl) zU2 ?_;refine aJ (aC (xZ rfl (fun h157=>?_) (fun h157=>?_)))
  ·have f:=eG h157 f;refine fG (aC (aG (aO ?_)));rcases Bool.eq_false_or_eq_true y with J|J
   ·have f:=eG J f;obtain⟨v161,h162,f⟩:=aR f;obtain⟨v163,h164,f⟩:=aR f;obtain⟨v165,h166,f⟩:=aR f;obtain⟨L,h168,f⟩:=aR f;refine gJ [0,1,3,3,15,31,63,3,131,511,3,3,3075,7171,15363,32767,65535,131071,262143] 19 0 [.v (.vc (pB y)),.v (.vc (pB true)),.v (.vc (pS aA.cod q.lines)),.v (vI I),.v (.vc (pM (aA.cod.e v161))),.v (.vc (pM (aA.cod.e v161))),.v (.vc (pS cQ v161.a)),.v (.vc (pP (some j) 1)),.v (.vc (pS cQ h.1.x)),.v (.va (eQ v163)),.v (.vc (pS aA.cod q.lines)),.v (vI I),.v (.vc (pM (aA.cod.e v165))),.v (.vc (pM ((aA.cod.e v165).drop 1))),.v (.va (eQ v165.b)),.v (vI L),.v (.vc (pB (decide (L≤0)))),.v (.vc (pB (decide (L≤0)))),.v (.vc (pB (decide (L≤0))))] aS ⟨d0 (aK (.inl rfl)) zU1,d0 (gN (aK (.inl rfl)) J) zU1,g0 (aK (.inl rfl)) zU1,g0 (aK (.inl rfl)) zU1,g0 (xT rfl tyS23 h162) zU2,g0 (yJ (ps:=(aA.cod.e v161)) (k:=0) rfl tyF66_0) zU1,g0 (vF 1 rfl rfl (.one tyO24)) zU1,g0 (eZ (off:=0) (k:=1) rfl tyF34_1) zU1,g0 (iN 1 1 rfl rfl rfl rfl (.one tyO24)) zU1,g0 (aT rfl (oN h164) rfl) zU2,g0 (aK (.inl rfl)) zU1,g0 (aK (.inl rfl)) zU1,g0 (xT rfl tyS23 h166) zU2,g0 (yJ (ps:=(aA.cod.e v165)) (k:=1) rfl tyF66_1) zU1,g0 (vF 4 rfl rfl (.agg tyA32)) zU1,g0 (aT rfl (iJ h168) rfl) zU2,g0 (aBU rfl) ⟨rfl,hU _ _,zT⟩,d0 (cE rfl) zU2,d0 (aK (.inr rfl)) zU1,zT⟩ (fun bs159 G158=>?_);refine aJ (tR (aC (aH (cK ?_))));obtain⟨v169,h170,f⟩:=aR f;refine aE (sS rfl h170) ⟨rfl,hU _ _,zT⟩ ?_;refine kL ?_;refine aJ ?_;exact aN (fun a w hh=>⟨(decide (L≤0)),v169,f,qA [0,1] rfl (by decide) (by exact⟨rfl,rfl,rfl,rfl,rfl,zT⟩) hh⟩)
   have f:=dY J f;refine gJ [0,1,3,3,15,31,63,3,131,511,3,3,3075,7171,15363,32767,65535,131071,262143] 19 0 [.v (.vc (pB y)),.v (.vc (pB false)),.v .un,.v .un,.v .un,.v .un,.v .un,.v .un,.v .un,.v .un,.v .un,.v .un,.v .un,.v .un,.v .un,.v .un,.v .un,.v (.vc (pB false)),.v (.vc (pB false))] aS ⟨d0 (aK (.inl rfl)) zU1,d0 (gN (aK (.inl rfl)) J) zU1,⟨rfl,.skipN⟩,⟨rfl,.skipN⟩,⟨rfl,.skipN⟩,⟨rfl,.skipN⟩,⟨rfl,.skipN⟩,⟨rfl,.skipN⟩,⟨rfl,.skipN⟩,⟨rfl,.skipN⟩,⟨rfl,.skipN⟩,⟨rfl,.skipN⟩,⟨rfl,.skipN⟩,⟨rfl,.skipN⟩,⟨rfl,.skipN⟩,⟨rfl,.skipN⟩,⟨rfl,.skipN⟩,d0 (aP rfl) ⟨rfl,lU _,zT⟩,d0 (aK (.inr rfl)) zU1,zT⟩ (fun bs159 G158=>?_);refine aJ (tR (aC (aH (cK ?_))));obtain⟨v171,h172,f⟩:=aR f;refine aE (sS rfl h172) ⟨rfl,hU _ _,zT⟩ ?_;refine kL ?_;refine aJ ?_;exact aN (fun a w hh=>⟨false,v171,f,qA [0,1] rfl (by decide) (by exact⟨rfl,rfl,rfl,rfl,rfl,zT⟩) hh⟩)
  have f:=dY h157 f;refine cO ?_;obtain rfl:=f8 f;exact aA7 Jj141 ⟨y,hRl140,rfl,rfl⟩ [0,1] rfl ⟨rfl,rfl,rfl,zT⟩
 have f:=dY h130 f;refine aQ ?_;refine aQ ?_;refine aQ ?_;refine aZ (aP rfl) ⟨rfl,lU _,zT⟩ ?_;refine aE (aP rfl) zU2 ?_;refine aJ (aC (r9 rfl ?_));refine fG (aC (aG (aG (aH (aE (eZ (off:=0) (k:=0) rfl tyF34_0) zU1 ?_)))));refine aE (iN 2 1 rfl rfl rfl rfl (.one tyO3)) zU1 ?_;refine aE (z6 rfl) ⟨rfl,hU _ _,zT⟩ ?_;refine aJ (aC (xZ rfl (fun h173=>?_) (fun h173=>?_)))
 ·have f:=eG h173 f;refine aG (aH ?_);obtain⟨v174,h175,f⟩:=aR f;refine aE (aT rfl (bI h175) rfl) zT ?_;refine kL ?_;refine aJ (aC (bW (bV ?_)));obtain rfl:=f8 f;exact bS (.inl rfl) Tryz.results9 (.tmp rfl .nil) rfl rfl
 have f:=dY h173 f;refine fG (aC (aG (aH (aE (aK (.inr rfl)) ⟨lU _,zT⟩ ?_))));refine aJ (aC (aG (aG (aH (aE (aK (.inr rfl)) ⟨hU _ _,zT⟩ ?_)))));refine aJ (aC (aO (bM (fun H E=>∃(x180:Bool),lO K h u x180=some r∧H=[⟨some t,1,34,7,1,(aL.enc u.1)⟩,⟨some j,1,34,7,1,(aL.enc h.1)⟩]∧E=[(7,.vc (pP (some j) 0)),(10,.vc (pP (some t) 0)),(12,.vc (pB x180))]) ?_ (fun Jj182=>?_))))
 ·rintro _ _ ⟨x180,f,rfl,rfl⟩;unfold lO at f;refine aC (aG (aG (aH (cK ?_))));refine aJ (aC (xZ rfl (fun h183=>?_) (fun h183=>?_)))
  ·have f:=eG h183 f;refine aG (aH (aE (eZ (off:=0) (k:=0) rfl tyF34_0) zU1 ?_));refine aE (iN 0 1 rfl rfl rfl rfl (.one tyO3)) zU1 ?_;refine aE (vY rfl) ⟨rfl,hU _ _,zT⟩ ?_;refine cK ?_;refine kR (fun h184=>?_) (fun h184=>?_)
   ·have f:=eG h184 f;refine aZ (eZ (off:=0) (k:=3) rfl tyF34_3) zU1 ?_;refine aZ (iN 1 4 rfl rfl rfl rfl (.agg tyA32)) zU1 ?_;refine aZ (eZ (off:=0) (k:=3) rfl tyF34_3) zU1 ?_;refine aZ (iN 0 4 rfl rfl rfl rfl (.agg tyA32)) zU1 ?_;obtain⟨v185,h186,f⟩:=aR f;refine aZ (aT rfl (lZ h186) rfl) zU2 ?_;refine aE (cE rfl) zU2 ?_;refine cK ?_;refine kR (fun h187=>?_) (fun h187=>?_)
    ·have f:=eG h187 f;obtain⟨v188,h189,f⟩:=aR f;refine aZ (aT rfl (bI h189) rfl) zT ?_;refine aE (cE rfl) zU2 ?_;refine kL ?_;refine aJ (aC (bW (bV ?_)));obtain rfl:=f8 f;exact bS (.inl rfl) Tryz.results9 (.tmp rfl .nil) rfl rfl
    have f:=dY h187 f;refine aQ ?_;refine aE (aP rfl) ⟨rfl,lU _,zT⟩ ?_;refine kL ?_;refine aJ (aC (bW (bV ?_)));obtain rfl:=f8 f;exact bS (.inl rfl) Tryz.results9 (.tmp rfl .nil) rfl rfl
   have f:=dY h184 f;refine aQ ?_;refine aQ ?_;refine aQ ?_;refine aQ ?_;refine aQ ?_;refine aE (aP rfl) ⟨rfl,lU _,zT⟩ ?_;refine cK ?_;refine aQ ?_;refine aE (aP rfl) ⟨rfl,lU _,zT⟩ ?_;refine kL ?_;refine aJ (aC (bW (bV ?_)));obtain rfl:=f8 f;exact bS (.inl rfl) Tryz.results9 (.tmp rfl .nil) rfl rfl
  have f:=dY h183 f;refine fG (aC (aG (aH (aE (eZ (off:=0) (k:=0) rfl tyF34_0) zU1 ?_))));refine aE (iN 0 1 rfl rfl rfl rfl (.one tyO3)) zU1 ?_;refine aE (z6 rfl) ⟨rfl,hU _ _,zT⟩ ?_;refine cK ?_;refine kR (fun h190=>?_) (fun h190=>?_)
  ·have f:=eG h190 f;refine aQ ?_;refine aQ ?_;refine aQ ?_;refine aQ ?_;refine aQ ?_;refine aQ ?_;refine aE (cE rfl) ⟨rfl,lU _,zT⟩ ?_;refine cK ?_;obtain⟨v191,h192,f⟩:=aR f;refine aZ (aT rfl (bI h192) rfl) zT ?_;refine aE (cE rfl) zU2 ?_;refine kL ?_;refine aJ (aC (bW (bV ?_)));obtain rfl:=f8 f;exact bS (.inl rfl) Tryz.results9 (.tmp rfl .nil) rfl rfl
  have f:=dY h190 f;refine aZ (eZ (off:=0) (k:=3) rfl tyF34_3) zU1 ?_;refine aZ (iN 0 4 rfl rfl rfl rfl (.agg tyA32)) zU1 ?_;refine aZ (eZ (off:=0) (k:=3) rfl tyF34_3) zU1 ?_;refine aZ (iN 1 4 rfl rfl rfl rfl (.agg tyA32)) zU1 ?_;obtain⟨v193,h194,f⟩:=aR f;refine aZ (aT rfl (iJ h194) rfl) zU2 ?_;refine aZ (aBU rfl) ⟨rfl,hU _ _,zT⟩ ?_;refine aE (aP rfl) zU2 ?_;refine cK ?_;refine kR (fun h195=>?_) (fun h195=>?_)
  ·have f:=eG h195 f;obtain⟨v196,h197,f⟩:=aR f;refine aZ (aT rfl (bI h197) rfl) zT ?_;refine aE (cE rfl) zU2 ?_;refine kL ?_;refine aJ (aC (bW (bV ?_)));obtain rfl:=f8 f;exact bS (.inl rfl) Tryz.results9 (.tmp rfl .nil) rfl rfl
  have f:=dY h195 f;refine aQ ?_;refine aE (aP rfl) ⟨rfl,lU _,zT⟩ ?_;refine kL ?_;refine aJ (aC (bW (bV ?_)));obtain rfl:=f8 f;exact bS (.inl rfl) Tryz.results9 (.tmp rfl .nil) rfl rfl
 obtain⟨x180',hL,hRl181⟩:=aR f;refine iO (fun k a w=>∃(z:Bool),∃(O:Int),fV K q h k z O=some x180'∧hs _ [⟨some t,1,34,7,1,(aL.enc u.1)⟩,⟨some j,1,34,7,1,(aL.enc h.1)⟩] [(6,.vc (pS aA.cod q.lines)),(7,.vc (pP (some j) 0)),(10,.vc (pP (some t) 0)),(12,.vc (pB z)),(13,vI O)] a w) K (fun a w ⟨_,_,f,_⟩=>by cases f) (fun k a w ⟨z,O,f,hh⟩=>iR ?_ hh) (fun a w hh=>⟨true,0,hL,qA [0,2] rfl (by decide) (by exact⟨rfl,rfl,rfl,rfl,rfl,zT⟩) hh⟩);rw[fV.eq_2]at f;refine aG (aG (aH (cK ?_)));refine cK ?_;refine aE (aCV rfl tyS23) zU1 ?_;refine aE (aFI rfl) zU2 ?_;refine aJ (aC (xZ rfl (fun h198=>?_) (fun h198=>?_)))
 ·have f:=eG h198 f;refine fG (aC (aG (aO ?_)));rcases Bool.eq_false_or_eq_true z with U|U
  ·have f:=eG U f;obtain⟨v202,h203,f⟩:=aR f;obtain⟨v204,h205,f⟩:=aR f;obtain⟨v206,h207,f⟩:=aR f;obtain⟨V,h209,f⟩:=aR f;refine gJ [0,1,3,3,15,31,63,3,131,511,3,3,3075,7171,15363,32767,65535,131071,262143] 19 0 [.v (.vc (pB z)),.v (.vc (pB true)),.v (.vc (pS aA.cod q.lines)),.v (vI O),.v (.vc (pM (aA.cod.e v202))),.v (.vc (pM (aA.cod.e v202))),.v (.vc (pS cQ v202.a)),.v (.vc (pP (some j) 1)),.v (.vc (pS cQ h.1.x)),.v (.va (eQ v204)),.v (.vc (pS aA.cod q.lines)),.v (vI O),.v (.vc (pM (aA.cod.e v206))),.v (.vc (pM ((aA.cod.e v206).drop 1))),.v (.va (eQ v206.b)),.v (vI V),.v (.vc (pB (decide (V≤0)))),.v (.vc (pB (decide (V≤0)))),.v (.vc (pB (decide (V≤0))))] aS ⟨d0 (aK (.inl rfl)) zU1,d0 (gN (aK (.inl rfl)) U) zU1,g0 (aK (.inl rfl)) zU1,g0 (aK (.inl rfl)) zU1,g0 (xT rfl tyS23 h203) zU2,g0 (yJ (ps:=(aA.cod.e v202)) (k:=0) rfl tyF66_0) zU1,g0 (vF 1 rfl rfl (.one tyO24)) zU1,g0 (eZ (off:=0) (k:=1) rfl tyF34_1) zU1,g0 (iN 1 1 rfl rfl rfl rfl (.one tyO24)) zU1,g0 (aT rfl (oN h205) rfl) zU2,g0 (aK (.inl rfl)) zU1,g0 (aK (.inl rfl)) zU1,g0 (xT rfl tyS23 h207) zU2,g0 (yJ (ps:=(aA.cod.e v206)) (k:=1) rfl tyF66_1) zU1,g0 (vF 4 rfl rfl (.agg tyA32)) zU1,g0 (aT rfl (iJ h209) rfl) zU2,g0 (aBU rfl) ⟨rfl,hU _ _,zT⟩,d0 (cE rfl) zU2,d0 (aK (.inr rfl)) zU1,zT⟩ (fun bs200 G199=>?_);refine aJ (tR (aC (aH (cK ?_))));obtain⟨v210,h211,f⟩:=aR f;refine aE (sS rfl h211) ⟨rfl,hU _ _,zT⟩ ?_;refine kL ?_;refine aJ ?_;exact aN (fun a w hh=>⟨(decide (V≤0)),v210,f,qA [0,1] rfl (by decide) (by exact⟨rfl,rfl,rfl,rfl,rfl,zT⟩) hh⟩)
  have f:=dY U f;refine gJ [0,1,3,3,15,31,63,3,131,511,3,3,3075,7171,15363,32767,65535,131071,262143] 19 0 [.v (.vc (pB z)),.v (.vc (pB false)),.v .un,.v .un,.v .un,.v .un,.v .un,.v .un,.v .un,.v .un,.v .un,.v .un,.v .un,.v .un,.v .un,.v .un,.v .un,.v (.vc (pB false)),.v (.vc (pB false))] aS ⟨d0 (aK (.inl rfl)) zU1,d0 (gN (aK (.inl rfl)) U) zU1,⟨rfl,.skipN⟩,⟨rfl,.skipN⟩,⟨rfl,.skipN⟩,⟨rfl,.skipN⟩,⟨rfl,.skipN⟩,⟨rfl,.skipN⟩,⟨rfl,.skipN⟩,⟨rfl,.skipN⟩,⟨rfl,.skipN⟩,⟨rfl,.skipN⟩,⟨rfl,.skipN⟩,⟨rfl,.skipN⟩,⟨rfl,.skipN⟩,⟨rfl,.skipN⟩,⟨rfl,.skipN⟩,d0 (aP rfl) ⟨rfl,lU _,zT⟩,d0 (aK (.inr rfl)) zU1,zT⟩ (fun bs200 G199=>?_);refine aJ (tR (aC (aH (cK ?_))));obtain⟨v212,h213,f⟩:=aR f;refine aE (sS rfl h213) ⟨rfl,hU _ _,zT⟩ ?_;refine kL ?_;refine aJ ?_;exact aN (fun a w hh=>⟨false,v212,f,qA [0,1] rfl (by decide) (by exact⟨rfl,rfl,rfl,rfl,rfl,zT⟩) hh⟩)
 have f:=dY h198 f;refine cO ?_;obtain rfl:=f8 f;exact aA7 Jj182 ⟨z,hRl181,rfl,rfl⟩ [0,1] rfl ⟨rfl,rfl,rfl,zT⟩
end Go.Proofs.YtnmdhmfofbfkjaaGreat
set_option linter.unusedVariables false
set_option maxRecDepth 100000
namespace Go.Proofs.YtnmdhmfofbfkjaaGreat
theorem aDw{x m:Int}(e:-9223372036854775808≤x∧x≤9223372036854775807)(hm:0<m):∃r,gE x m=some r∧0≤r∧r<m:=by
 unfold gE;by_cases h:x<0
 ·refine⟨(-(x+1))%m,?_,Int.emod_nonneg _ (by omega),Int.emod_lt_of_pos _ hm⟩;rw[dT h,d9,qB (by omega),oB,qB (by omega),oB,oV (by omega) hm,oB]
 ·refine⟨x%m,?_,Int.emod_nonneg _ (by omega),Int.emod_lt_of_pos _ hm⟩;rw[dF h,eD,oV (by omega) hm,oB]
theorem aK5{l:List Int}(f:aFg l)(i:Int){m:Int}(hm:0<m):∃r,gQ l i m=some r∧0≤r∧r<m:=by
 unfold gQ;by_cases h:i<0
 ·exact⟨0,by rw[dT h,d9],by omega,hm⟩
 ·rw[dF h,eD];by_cases e:(l.length:Int)≤i
  ·exact⟨0,by rw[dT e,d9],by omega,hm⟩
  ·rw[dF e,eD];obtain⟨n,rfl⟩:∃n:Nat,i=n:=⟨i.toNat,by omega⟩;obtain⟨x,j,_,hr⟩:=rdM (xs:=l) (i:=n) (by omega);obtain⟨r,k,q,s⟩:=aDw (f x j) hm;exact⟨r,by rw[hr,oB,k,oB],q,s⟩
theorem aDF{a m:Int}(h:0≤a)(hm:0<m):0≤a%m∧a%m<m:=⟨Int.emod_nonneg _ (by omega),Int.emod_lt_of_pos _ hm⟩
theorem apS{α:Type}{xs:List α}{x:α}(h:xs.length≤60000000000):uK xs [x]=some (xs++[x]):=aAp (by simp;omega)
theorem aLU:((1:Int):Rat)/((1:Int):Rat)=1:=by decide+kernel
def mp{α:Type}(g:Nat→α)(n:Nat):List α:=(List.range n).map g
theorem aGq{α:Type}(g:Nat→α):mp g 0=[]:=rfl
theorem aD0{α:Type}(g:Nat→α)(n:Nat):mp g (n+1)=mp g n++[g n]:=by unfold mp;rw[List.range_succ,List.map_append];rfl
theorem fF{α:Type}(g:Nat→α)(n:Nat):(mp g n).length=n:=by simp[mp]
theorem aAq{α:Type}{g:Nat→α}{n i:Nat}(h:i<n):(mp g n)[i]?=some (g i):=by simp[mp,h]
theorem apM{α:Type}{g:Nat→α}{i:Nat}(h:i≤1000000):uK (mp g i) [g i]=some (mp g (i+1)):=by rw[aD0];exact apS (by rw[fF];omega)
theorem oF{α:Type}{f g:Nat→α}{n:Nat}(h:∀i,i<n→f i=g i):mp f n=mp g n:=by
 unfold mp;exact List.map_congr_left fun i e=>h i (List.mem_range.1 e)
def qX{α:Type}(f:Nat→α)(i:Nat)(v:α)(j:Nat):α:=if j=i then v else f j
theorem cW{α:Type}{f:Nat→α}{i:Nat}{v:α}:qX f i v i=v:=if_pos rfl
theorem fW{α:Type}{f:Nat→α}{i j:Nat}{v:α}(h:j≠i):qX f i v j=f j:=if_neg h
theorem aMF{α:Type}{f:Nat→α}{n i:Nat}{v:α}:(mp f n).set i v=mp (qX f i v) n:=by
 apply List.ext_getElem?;intro j;by_cases e:j<n
 ·rw[List.getElem?_set,aAq e,fF,aAq e];by_cases he:i=j
  ·subst he;rw[if_pos rfl,if_pos e,cW]
  ·rw[if_neg he,fW (by omega)]
 ·rw[List.getElem?_eq_none (by simp[mp];omega),List.getElem?_eq_none (by simp[mp];omega)]
theorem nM{α:Type}{f:Nat→α}{n i:Nat}(h:i<n):cT (mp f n) (i:Int)=some (f i):=rdG (aAq h)
theorem aCT{α:Type}{f:Nat→α}{n i:Nat}{v:α}(h:i<n):oZ (mp f n) (i:Int) v=some (mp (qX f i v) n):=by
 rw[stG (by rw[fF];exact h),aMF]
theorem aID{α:Type}(z:α):∀n,List.replicate n z=mp (fun _=>z) n
 |0=>rfl
 |n+1=>by rw[aD0,←aID z n,List.replicate_succ']
theorem aKp{α:Type}{n:Nat}{z:α}(h:n≤68719476736):xU (n:Int) z=some (mp (fun _=>z) n):=by rw[xC h,aID]
theorem ckS{i:Nat}(h:i≤1000000000):aV ((i:Int)+1)=some ((i+1:Nat):Int):=tK (m:=0) (n:=i+1) (by omega) (by omega)
theorem aBz{a:Rat}:a.num.sign=0↔a=0:=by rw[Int.sign_eq_zero_iff_zero,Rat.num_eq_zero]
def sm(f:Nat→Rat):Nat→Rat
 |0=>0
 |n+1=>sm f n+f n
/-- A matrix of h rows and w columns. -/
def mx(g:Nat→Nat→Rat)(h w:Nat):List (List Rat):=mp (fun i=>mp (g i) w) h
theorem aHI{g:Nat→Nat→Rat}{h w:Nat}:(mx g h w).length=h:=fF _ _
def Bdx(h w b:Nat)(g:Nat→Nat→Rat):Prop:=∀i c,i<h→c<w→Bd b (g i c)
theorem Bdx.mono{h w b b':Nat}{g:Nat→Nat→Rat}(e:Bdx h w b g)(hb:b≤b'):Bdx h w b' g:=fun i c f hc=>(e i c f hc).mono hb
def piv(g:Nat→Nat→Rat)(k:Nat):Nat→Nat→Nat
 |0,i=>i
 |t+1,i=>if g i k=0 then piv g k t (i+1) else i
theorem aFB{g:Nat→Nat→Rat}{k:Nat}:∀(t i:Nat),i≤piv g k t i∧piv g k t i≤i+t
 |0,i=>⟨Nat.le_refl _,Nat.le_refl _⟩
 |t+1,i=>by
  have h:=aFB (g:=g) (k:=k) t (i+1);unfold piv;split<;>omega
theorem aLl{g:Nat→Nat→Rat}{k:Nat}:∀(t i j:Nat),i≤j→j<piv g k t i→g j k=0
 |0,i,j,f,e=>by simp only[piv]at e;omega
 |t+1,i,j,f,e=>by
  unfold piv at e;split at e
  ·rename_i h;by_cases he:j=i
   ·rw[he];exact h
   ·exact aLl t (i+1) j (by omega) e
  ·omega
theorem aJu{g:Nat→Nat→Rat}{k:Nat}:∀(t i:Nat),piv g k t i<i+t→g (piv g k t i) k≠0
 |0,i,h=>by simp only[piv]at h;omega
 |t+1,i,h=>by
  unfold piv at h ⊢;split at h
  ·rename_i e;rw[if_pos e];exact aJu t (i+1) (by omega)
  ·rename_i e;rw[if_neg e];exact e
def wO(g:Nat→Nat→Rat)(n at0 i:Nat):Nat→Rat:=g (if i=n then at0 else if i=at0 then n else i)
def pr(g:Nat→Nat→Rat)(at0 k c:Nat):Rat:=g at0 c/g at0 k
def stp(g:Nat→Nat→Rat)(n at0 k i c:Nat):Rat:=if i=n then pr g at0 k c else wO g n at0 i c-wO g n at0 i k*pr g at0 k c
structure RS where
 ps:List Nat
 g:Nat→Nat→Rat
 d:Rat
def aDZ(h k:Nat)(s:RS):RS:=
 if piv s.g k (h-s.ps.length) s.ps.length=h then s
 else⟨s.ps++[k],stp s.g s.ps.length (piv s.g k (h-s.ps.length) s.ps.length) k,(if piv s.g k (h-s.ps.length) s.ps.length=s.ps.length then s.d else -s.d)*s.g (piv s.g k (h-s.ps.length) s.ps.length) k⟩
def red(g:Nat→Nat→Rat)(h:Nat):Nat→RS
 |0=>⟨[],g,1⟩
 |k+1=>aDZ h k (red g h k)
/-- A row, up to c the new one. -/
def mid(f e:Nat→Rat)(c j:Nat):Rat:=if j<c then f j else e j
theorem aJy:qof 1 1=some 1:=by rw[aDU (by omega) (by omega),aLU]
/-- A list of numbers read by index. -/
def pat(ps:List Nat)(i:Nat):Nat:=ps.getD i 0
theorem yH(f g:Nat→Rat)(a:Rat):∀n,sm (fun c=>f c-a*g c) n=sm f n-a*sm g n
 |0=>by simp only[sm];grind
 |n+1=>by
  have ih:=yH f g a n;simp only[sm];rw[ih];grind
theorem xX(f:Nat→Rat)(a:Rat):∀n,sm (fun c=>f c*a) n=sm f n*a
 |0=>by simp only[sm];grind
 |n+1=>by
  have ih:=xX f a n;simp only[sm];rw[ih];grind
theorem bF{f g:Nat→Rat}:∀{n:Nat},(∀i,i<n→f i=g i)→sm f n=sm g n
 |0,_=>rfl
 |n+1,h=>by
  simp only[sm];rw[bF fun i e=>h i (by omega),h n (by omega)]
theorem lQ{f:Nat→Rat}{n:Nat}(h:∀i,i<n→f i=0):sm f n=0:=by
 rw[bF (g:=fun _=>0) h]
 induction n with
 |zero=>rfl
 |succ n ih=>simp only[sm];rw[ih fun i e=>h i (by omega)];grind
theorem u6{f:Nat→Rat}{n p:Nat}(hp:p<n)(h:∀i,i<n→i≠p→f i=0):sm f n=f p:=by
 induction n with
 |zero=>omega
 |succ n ih=>
  simp only[sm];by_cases he:p=n
  ·rw[lQ fun i e=>h i (by omega) (by omega),he];grind
  ·rw[ih (by omega) fun i e hne=>h i (by omega) hne,h n (by omega) (by omega)];grind
theorem aAk(f g:Nat→Rat):∀n,sm (fun c=>f c+g c) n=sm f n+sm g n
 |0=>by simp only[sm];grind
 |n+1=>by
  have ih:=aAk f g n;simp only[sm];rw[ih];grind
def rd(g:Nat→Nat→Rat)(y:Nat→Rat)(n i:Nat):Rat:=sm (fun c=>g i c*y c) n
structure RJ (h k:Nat) (s:RS):Prop where
 ph:s.ps.length≤h
 pk:∀i,i<s.ps.length→pat s.ps i<k
 z:∀i c,s.ps.length≤i→i<h→c<k→s.g i c=0
 one:∀i i',i<s.ps.length→i'<h→s.g i' (pat s.ps i)=if i'=i then 1 else 0
 lead:∀i c,i<s.ps.length→c<pat s.ps i→s.g i c=0
 inc:∀i j,i<j→j<s.ps.length→pat s.ps i<pat s.ps j
 gap:∀c,c<k→c∉s.ps→∀i,i<s.ps.length→c<pat s.ps i→s.g i c=0
theorem y8{ps:List Nat}{k i:Nat}(h:i<ps.length):pat (ps++[k]) i=pat ps i:=by
 unfold pat;rw[List.getD_eq_getElem?_getD,List.getD_eq_getElem?_getD,List.getElem?_append_left h]
theorem aBJ{ps:List Nat}{k:Nat}:pat (ps++[k]) ps.length=k:=by
 unfold pat;rw[List.getD_eq_getElem?_getD,List.getElem?_append_right (Nat.le_refl _),Nat.sub_self];rfl
theorem aIz{h k:Nat}{s:RS}(hs:RJ h k s):RJ h (k+1) (aDZ h k s):=by
 have hp:=aFB (g:=s.g) (k:=k) (h-s.ps.length) s.ps.length;have hph:=hs.ph;unfold aDZ;split
 ·rename_i hat;refine⟨hs.ph,fun i e=>Nat.lt_succ_of_lt (hs.pk i e),fun i c e hh hc=>?_,hs.one,hs.lead,hs.inc,fun c _ _ i e hlt=>hs.lead i c e hlt⟩;by_cases he:c=k
  ·subst he;exact aLl (h-s.ps.length) s.ps.length i e (by omega)
  ·exact hs.z i c e hh (by omega)
 ·rename_i hat;have hlt:piv s.g k (h-s.ps.length) s.ps.length<h:=by omega
  have hne:=aJu (g:=s.g) (k:=k) (h-s.ps.length) s.ps.length (by omega);generalize G:piv s.g k (h-s.ps.length) s.ps.length=at0 at *;have x:∀c,c<k→s.g at0 c=0:=fun c hc=>hs.z at0 c hp.1 hlt hc
  have hpr:∀c,c<k→pr s.g at0 k c=0:=fun c hc=>by unfold pr;rw[x c hc,Rat.div_def,Rat.zero_mul]
  have hprk:pr s.g at0 k k=1:=by unfold pr;rw[Rat.div_def,Rat.mul_inv_cancel _ hne]
  have hswz:∀i c,s.ps.length<i→i<h→c<k→wO s.g s.ps.length at0 i c=0:=fun i c e hih hc=>by
   unfold wO;rw[if_neg (by omega)];split
   ·exact hs.z _ c (Nat.le_refl _) (by omega) hc
   ·exact hs.z _ c (by omega) hih hc
  have hsw:∀i c,i<s.ps.length→wO s.g s.ps.length at0 i c=s.g i c:=fun i c e=>by
   unfold wO;rw[if_neg (by omega),if_neg (by omega)]
  have hlead:∀i c,i<s.ps.length+1→c<pat (s.ps++[k]) i→stp s.g s.ps.length at0 k i c=0:=fun i c e hc=>by
   by_cases he:i=s.ps.length
   ·subst he;rw[aBJ]at hc;unfold stp;rw[if_pos rfl];exact hpr c hc
   ·have f:i<s.ps.length:=by omega
    rw[y8 f]at hc;unfold stp;rw[if_neg he,hsw i c f,hsw i k f,hs.lead i c f hc,hpr c (by have:=hs.pk i f;omega)];grind
  refine⟨by simp only[List.length_append,List.length_singleton];omega,fun i e=>?_,fun i c e hh hc=>?_,fun i t e f=>?_,fun i c e hc=>hlead i c (by simpa using e) hc,fun i j hij y=>?_,fun c _ _ i e hlt=>hlead i c (by simpa using e) hlt⟩
  ·simp only[List.length_append,List.length_singleton]at e;by_cases he:i=s.ps.length
   ·subst he;simp only[aBJ];omega
   ·simp only[y8 (show i<s.ps.length by omega)];have:=hs.pk i (by omega);omega
  ·simp only[List.length_append,List.length_singleton]at e;show stp s.g s.ps.length at0 k i c=0;unfold stp;rw[if_neg (by omega)];by_cases he:c=k
   ·subst he;rw[hprk,Rat.mul_one,Rat.sub_self]
   ·rw[hswz i c (by omega) hh (by omega),hpr c (by omega)];grind
  ·simp only[List.length_append,List.length_singleton]at e;show stp s.g s.ps.length at0 k t (pat (s.ps++[k]) i)=_;unfold stp;by_cases he:i=s.ps.length
   ·subst he;rw[aBJ];by_cases u:t=s.ps.length
    ·rw[if_pos u,if_pos u,hprk]
    ·rw[if_neg u,if_neg u,hprk,Rat.mul_one,Rat.sub_self]
   ·have q:i<s.ps.length:=by omega
    rw[y8 q,hpr _ (hs.pk i q)];by_cases u:t=s.ps.length
    ·rw[if_pos u,if_neg (by omega)]
    ·rw[if_neg u];by_cases F:t<s.ps.length
     ·rw[hsw t _ F,hs.one i t q (by omega)];grind
     ·rw[hswz t _ (by omega) f (hs.pk i q),if_neg (by omega)];grind
  ·simp only[List.length_append,List.length_singleton]at y;by_cases he:j=s.ps.length
   ·subst he;simp only[aBJ,y8 (show i<s.ps.length by omega)];exact hs.pk i (by omega)
   ·simp only[y8 (show i<s.ps.length by omega),y8 (show j<s.ps.length by omega)];exact hs.inc i j hij (by omega)
theorem aGO{g:Nat→Nat→Rat}{h:Nat}:∀k,RJ h k (red g h k)
 |0=>⟨Nat.zero_le _,fun i e=>absurd e (by simp[red]),fun i c _ _ hc=>absurd hc (by omega),fun i q e _=>absurd e (by simp[red]),fun i c e _=>absurd e (by simp[red]),fun i j _ f=>absurd f (by simp[red]),fun c hc=>absurd hc (by omega)⟩
 |k+1=>aIz (aGO k)
theorem yU(F:Nat→Nat→Rat)(m:Nat):∀n,sm (fun i=>sm (F i) m) n=sm (fun j=>sm (fun i=>F i j) n) m
 |0=>by
  simp only[sm];exact(lQ fun i _=>rfl).symm
 |n+1=>by
  simp only[sm];rw[yU F m n,aAk]
theorem o8(f:Nat→Rat)(a:Rat)(n:Nat):sm (fun c=>a*f c) n=a*sm f n:=by
 rw[Rat.mul_comm,←xX];exact bF fun i _=>Rat.mul_comm _ _
theorem sM(f:Nat→Rat)(n:Nat):sm (fun c=>-(f c)) n=-(sm f n):=by
 have:=o8 f (-1) n;rw[bF (g:=fun c=>-1*f c) fun i _=>by grind,this];grind
def skp(k c:Nat):Nat:=if c<k then c else c+1
theorem aHZ(F:Nat→Rat){k:Nat}:∀{n:Nat},k≤n→sm (fun l=>F (skp k l)) n=sm (fun m=>if m=k then 0 else F m) (n+1)
 |0,h=>by
  have:k=0:=by omega
  subst this;simp only[sm];grind
 |n+1,h=>by
  by_cases f:k≤n
  ·have ih:=aHZ F f;rw[sm,ih,sm,sm,sm];have j:skp k n=n+1:=by unfold skp;rw[if_neg (by omega)]
   rw[j,if_neg (show¬n+1=k by omega)]
  ·have:k=n+1:=by omega
   subst this;rw[sm.eq_2 _ (n+1),if_pos rfl];rw[bF (g:=F) fun i e=>by unfold skp;rw[if_pos e],bF (g:=F) fun i e=>if_neg (by omega)];grind
def sgn(k:Nat):Rat:=if k%2=0 then 1 else -1
def mnr(g:Nat→Nat→Rat)(k i c:Nat):Rat:=g (i+1) (skp k c)
def dt:Nat→(Nat→Nat→Rat)→Rat
 |0,_=>1
 |n+1,g=>sm (fun k=>sgn k*(g 0 k*dt n (mnr g k))) (n+1)
theorem aJc{k c n:Nat}(hc:c<n):skp k c<n+1:=by unfold skp;split<;>omega
theorem rP:∀{n:Nat} {g g':Nat→Nat→Rat},(∀i c,i<n→c<n→g i c=g' i c)→dt n g=dt n g'
 |0,_,_,_=>rfl
 |n+1,g,g',h=>by
  simp only[dt];refine bF fun k e=>?_
  rw[h 0 k (by omega) e,rP (g:=mnr g k) (g':=mnr g' k) fun i c f hc=>h (i+1) _ (by omega) (aJc hc)]
theorem aHH{g:Nat→Nat→Rat}{f:Nat→Rat}{k:Nat}:mnr (qX g 0 f) k=mnr g k:=by
 funext i c;unfold mnr;rw[fW (by omega)]
theorem aKm{g:Nat→Nat→Rat}{f:Nat→Rat}{k j:Nat}:mnr (qX g (j+1) f) k=qX (mnr g k) j (fun c=>f (skp k c)):=by
 funext i c;unfold mnr;by_cases h:i=j
 ·subst h;rw[cW,cW]
 ·rw[fW (by omega),fW h]
theorem aFZ{u v:Nat→Rat}{a:Rat}:∀{n:Nat} {g:Nat→Nat→Rat} {i:Nat},i<n→dt n (qX g i (fun c=>u c-a*v c))=dt n (qX g i u)-a*dt n (qX g i v)
 |0,_,_,h=>by omega
 |n+1,g,0,_=>by
  simp only[dt,aHH,cW];rw[←yH];exact bF fun k _=>by grind
 |n+1,g,j+1,h=>by
  simp only[dt,aKm,fW (show 0≠j+1 by omega)];rw[←yH];refine bF fun k _=>?_
  rw[aFZ (u:=fun c=>u (skp k c)) (v:=fun c=>v (skp k c)) (a:=a) (show j<n by omega)];grind
theorem aA1(k:Nat):sgn (k+1)=-(sgn k):=by
 unfold sgn;by_cases h:k%2=0
 ·rw[if_pos h,if_neg (by omega)]
 ·rw[if_neg h,if_pos (by omega)];grind
theorem aDE(k:Nat):∀l,sgn (k+l)=sgn k*sgn l
 |0=>by
  have:sgn 0=1:=rfl;rw[this,Nat.add_zero];grind
 |l+1=>by
  rw[←Nat.add_assoc,aA1,aDE k l,aA1];grind
def aHB(k m c:Nat):Nat:=if c<min k m then c else if c+1<max k m then c+1 else c+2
theorem aJQ(k l c:Nat):skp k (skp l c)=aHB k (skp k l) c:=by
 unfold aHB skp;by_cases e:l<k
 ·rw[if_pos e]
  repeat' split
  all_goals omega
 ·rw[if_neg e]
  repeat' split
  all_goals omega
theorem aHa(k m c:Nat):aHB k m c=aHB m k c:=by
 unfold aHB;rw[Nat.min_comm,Nat.max_comm]
def eps(k m:Nat):Rat:=if k<m then sgn (k+m+1) else sgn (k+m)
theorem aHV{k m:Nat}(h:m≠k):eps k m=-(eps m k):=by
 unfold eps;by_cases e:k<m
 ·rw[if_pos e,if_neg (by omega),aA1,Nat.add_comm]
 ·rw[if_neg e,if_pos (by omega),aA1,Nat.add_comm];grind
theorem aKl(k l:Nat):sgn k*sgn l=eps k (skp k l):=by
 unfold eps skp;by_cases h:l<k
 ·rw[if_pos h,if_neg (by omega),aDE]
 ·rw[if_neg h,if_pos (by omega)];rw[show k+(l+1)+1=k+l+2 by omega,show sgn (k+l+2)=sgn (k+l) by unfold sgn;rw[show(k+l+2)%2=(k+l)%2 by omega],aDE]
def aFE(g:Nat→Nat→Rat)(k m i c:Nat):Rat:=g (i+2) (aHB k m c)
theorem aIk{n:Nat}{g:Nat→Nat→Rat}:dt (n+2) g=sm (fun k=>sm (fun m=>if m=k then 0 else eps k m*(g 0 k*(g 1 m*dt n (aFE g k m)))) (n+2)) (n+2):=by
 rw[dt];refine bF fun k e=>?_
 rw[←aHZ (fun m=>eps k m*(g 0 k*(g 1 m*dt n (aFE g k m)))) (show k≤n+1 by omega),dt,←o8,←o8];refine bF fun l _=>?_
 rw[←aKl,show dt n (mnr (mnr g k) l)=dt n (aFE g k (skp k l)) from congrArg (dt n) (by
  funext i c;unfold mnr aFE;rw[aJQ])]
 unfold mnr;grind
theorem aHn{n:Nat}{g:Nat→Nat→Rat}:dt (n+2) (wO g 0 1)=-(dt (n+2) g):=by
 rw[aIk,aIk,yU,←sM];refine bF fun k _=>?_
 rw[←sM];refine bF fun m _=>?_
 by_cases h:k=m
 ·rw[if_pos h,if_pos h.symm];grind
 ·rw[if_neg h,if_neg (fun e=>h e.symm),aHV (by exact fun e=>h e)];have e:aFE (wO g 0 1) m k=aFE g k m:=by
   funext i c;unfold aFE wO;rw[if_neg (by omega),if_neg (by omega),aHa]
  rw[e];have f:wO g 0 1 0=g 1:=by unfold wO;rw[if_pos rfl]
  have j:wO g 0 1 1=g 0:=by unfold wO;rw[if_neg (by omega),if_pos rfl]
  rw[f,j];grind
theorem aJ7{g:Nat→Nat→Rat}{a b k:Nat}:mnr (wO g (a+1) (b+1)) k=wO (mnr g k) a b:=by
 funext i c;unfold mnr wO;congr 1;by_cases e:i=a
 ·rw[if_pos (by omega),if_pos e]
 ·rw[if_neg (by omega),if_neg e];by_cases f:i=b
  ·rw[if_pos (by omega),if_pos f]
  ·rw[if_neg (by omega),if_neg f]
theorem aEm:∀{n:Nat} {g:Nat→Nat→Rat} {i:Nat},i+1<n→dt n (wO g i (i+1))=-(dt n g)
 |0,_,_,h=>by omega
 |1,_,_,h=>by omega
 |n+2,g,0,_=>aHn
 |n+2,g,i+1,h=>by
  rw[dt,dt,←sM];refine bF fun k _=>?_
  rw[aJ7,aEm (show i+1<n+1 by omega)];have e:wO g (i+1) (i+1+1) 0=g 0:=by unfold wO;rw[if_neg (by omega),if_neg (by omega)]
  rw[e];grind
theorem aFx{n:Nat}:∀(t:Nat) {g:Nat→Nat→Rat} {i:Nat},i+t+1<n→dt n (wO g i (i+t+1))=-(dt n g)
 |0,g,i,h=>aEm h
 |t+1,g,i,h=>by
  have e:wO g i (i+(t+1)+1)=wO (wO (wO g (i+t+1) (i+t+1+1)) i (i+t+1)) (i+t+1) (i+t+1+1):=by
   funext j;unfold wO;congr 1
   repeat' split
   all_goals omega
  rw[e,aEm (by omega),aFx t (by omega),aEm (by omega)];grind
theorem aHT{g:Nat→Nat→Rat}{a b:Nat}:wO g a b=wO g b a:=by
 funext j;unfold wO;congr 1
 repeat' split
 all_goals omega
structure Alt (h:Nat) (D:(Nat→Nat→Rat)→Rat):Prop where
 cong:∀g g':Nat→Nat→Rat,(∀i,i<h→g i=g' i)→D g=D g'
 lin:∀(g:Nat→Nat→Rat) (u v:Nat→Rat) (a:Rat) (i:Nat),i<h→D (qX g i (fun c=>u c-a*v c))=D (qX g i u)-a*D (qX g i v)
 swap:∀(g:Nat→Nat→Rat) (i j:Nat),i<h→j<h→i≠j→D (wO g i j)=-(D g)
theorem aCr(n:Nat):Alt n (dt n):=⟨fun g g' h=>rP fun i c e _=>by rw[h i e],fun g u v a i e=>aFZ e,fun g i j e f hne=>by
 by_cases h:i<j
 ·obtain⟨t,rfl⟩:∃t,j=i+t+1:=⟨j-i-1,by omega⟩;exact aFx t f
 ·obtain⟨t,rfl⟩:∃t,i=j+t+1:=⟨i-j-1,by omega⟩;rw[aHT];exact aFx t e⟩
theorem Alt.zero{h:Nat}{D:(Nat→Nat→Rat)→Rat}(a:Alt h D){g:Nat→Nat→Rat}{i:Nat}(f:i<h)(k:g i=fun _=>0):D g=0:=by
 have:=a.lin g (g i) (g i) 1 i f;have e:(fun c=>g i c-1*g i c)=g i:=by funext c;rw[k];grind
 have q:qX g i (g i)=g:=by
  funext j;unfold qX;split
  ·rename_i h;rw[h]
  ·rfl
 rw[e,q]at this;grind
theorem aI7{α:Type}{g:Nat→α}{i:Nat}:qX g i (g i)=g:=by
 funext j;unfold qX;split
 ·rename_i h;rw[h]
 ·rfl
theorem Alt.scale{h:Nat}{D:(Nat→Nat→Rat)→Rat}(a:Alt h D){g:Nat→Nat→Rat}{u:Nat→Rat}{b:Rat}{i:Nat}(j:i<h):D (qX g i (fun c=>b*u c))=b*D (qX g i u):=by
 have f:=a.lin g (fun _=>0) u (-b) i j;have k:D (qX g i (fun _=>0))=0:=a.zero j cW;rw[k]at f;have e:(fun c=>(0:Rat)- -b*u c)=fun c=>b*u c:=by funext c;grind
 rw[e]at f;rw[f];grind
theorem Alt.same{h:Nat}{D:(Nat→Nat→Rat)→Rat}(a:Alt h D){g:Nat→Nat→Rat}{i j:Nat}(f:i<h)(k:j<h)(hne:i≠j)(he:g i=g j):D g=0:=by
 have q:=a.swap g i j f k hne;have e:wO g i j=g:=by
  funext l;unfold wO;split
  ·rename_i h;rw[h,he]
  ·split
   ·rename_i h;rw[h,he]
   ·rfl
 rw[e]at q;grind
theorem Alt.add{h:Nat}{D:(Nat→Nat→Rat)→Rat}(a:Alt h D){g:Nat→Nat→Rat}{b:Rat}{i j:Nat}(f:i<h)(k:j<h)(hne:i≠j):D (qX g i (fun c=>g i c-b*g j c))=D g:=by
 rw[a.lin g (g i) (g j) b i f,aI7,a.same (g:=qX g i (g j)) f k hne (by rw[cW,fW (fun e=>hne e.symm)])];grind
def elm(g:Nat→Nat→Rat)(n k j i c:Nat):Rat:=if i<j∧i≠n then g i c-g i k*g n c else g i c
theorem Alt.elm0{h:Nat}{D:(Nat→Nat→Rat)→Rat}(a:Alt h D){g:Nat→Nat→Rat}{n k:Nat}(q:n<h):∀j,j≤h→D (elm g n k j)=D g
 |0,_=>a.cong _ _ fun i _=>by
  funext c;exact if_neg (by omega)
 |j+1,s=>by
  refine Eq.trans ?_ (Alt.elm0 (k:=k) a q j (by omega));by_cases he:j=n
  ·refine a.cong _ _ fun i _=>?_
   funext c;unfold elm;by_cases e:i<j
   ·rw[if_pos ⟨by omega,by omega⟩,if_pos ⟨e,by omega⟩]
   ·rw[if_neg (by omega),if_neg (by omega)]
  ·refine Eq.trans ?_ (a.add (g:=elm g n k j) (b:=g j k) (show j<h by omega) q he);refine a.cong _ _ fun i _=>?_
   funext c;by_cases e:i=j
   ·subst e;rw[cW];unfold elm;rw[if_pos ⟨by omega,he⟩,if_neg (by omega),if_neg (by omega)]
   ·rw[fW e];unfold elm;by_cases f:i<j∧i≠n
    ·rw[if_pos ⟨by omega,f.2⟩,if_pos f]
    ·rw[if_neg (by omega),if_neg f]
theorem Alt.stp0{h:Nat}{D:(Nat→Nat→Rat)→Rat}(a:Alt h D){g:Nat→Nat→Rat}{n at0 k:Nat}(j:n<h)(q:at0<h)(hne:g at0 k≠0):D g=(if at0=n then 1 else -1)*g at0 k*D (stp g n at0 k):=by
 have s:D (wO g n at0)=(if at0=n then 1 else -1)*D g:=by
  by_cases f:at0=n
  ·rw[if_pos f];have:wO g n at0=g:=by
    funext i;unfold wO;split
    ·rw[f];congr 1;omega
    ·split
     ·congr 1;omega
     ·rfl
   rw[this];grind
  ·rw[if_neg f,a.swap g n at0 j q (fun e=>f e.symm)];grind
 have t:D (wO g n at0)=g at0 k*D (qX (wO g n at0) n (pr g at0 k)):=by
  rw[←a.scale j];congr 1;funext i;by_cases f:i=n
  ·subst f;rw[cW];funext c;unfold wO pr;rw[if_pos rfl,Rat.div_def,Rat.mul_comm (g at0 c),←Rat.mul_assoc,Rat.mul_inv_cancel _ hne,Rat.one_mul]
  ·rw[fW f]
 have u:D (stp g n at0 k)=D (qX (wO g n at0) n (pr g at0 k)):=by
  rw[←a.elm0 (g:=qX (wO g n at0) n (pr g at0 k)) (n:=n) (k:=k) j h (Nat.le_refl _)];refine a.cong _ _ fun i x=>?_
  funext c;unfold stp elm;by_cases f:i=n
  ·subst f;rw[if_pos rfl,if_neg (by omega),cW]
  ·rw[if_neg f,if_pos ⟨x,f⟩,fW f,cW]
 rw[u];have y:D g=(if at0=n then 1 else -1)*D (wO g n at0):=by
  rw[s];split<;>grind
 rw[y,t];grind
theorem Alt.red0{h:Nat}{D:(Nat→Nat→Rat)→Rat}(a:Alt h D){g:Nat→Nat→Rat}:∀k,D g=(red g h k).d*D (red g h k).g
 |0=>by simp only[red];grind
 |k+1=>by
  refine(Alt.red0 a k).trans ?_;have e:=(aGO (g:=g) (h:=h) k).ph;simp only[red];generalize red g h k=s at *;unfold aDZ;split
  ·rfl
  ·rename_i hat;have hp:=aFB (g:=s.g) (k:=k) (h-s.ps.length) s.ps.length;have hlt:piv s.g k (h-s.ps.length) s.ps.length<h:=by omega
   have hne:=aJu (g:=s.g) (k:=k) (h-s.ps.length) s.ps.length (by omega);rw[a.stp0 (g:=s.g) (n:=s.ps.length) (at0:=piv s.g k (h-s.ps.length) s.ps.length) (k:=k) (by omega) hlt hne];simp only;split<;>grind
/-- The size of a sum of products. -/
theorem aI6{f e:Nat→Rat}{w b b':Nat}(h:∀c,c<w→Bd b (f c))(he:∀c,c<w→Bd b' (e c)):∀i,i≤w→Bd (1+i*(b+b'+1)) (sm (fun c=>f c*e c) i)
 |0,_=>Bd.zero.mono (by omega)
 |i+1,j=>by
  simp only[sm];have hs:1+i*(b+b'+1)+(b+b')+1=1+(i+1)*(b+b'+1):=by rw[Nat.add_mul];omega
  exact((aI6 h he i (by omega)).add ((h i (by omega)).mul (he i (by omega)))).mono (by omega)
def aEA(g:Nat→Nat→Rat)(v:Nat→Rat)(w i:Nat):Rat:=sm (fun c=>g i c*v c) w
/-- A turned matrix. -/
def tr(g:Nat→Nat→Rat)(i k:Nat):Rat:=g k i
def wE(g q:Nat→Nat→Rat)(w i j:Nat):Rat:=aEA (tr q) (g i) w j
theorem aM0:sgn 0=1:=rfl
def xH(i c:Nat):Rat:=if i=c then 1 else 0
theorem aBM:∀n,dt n xH=1
 |0=>rfl
 |n+1=>by
  rw[dt,u6 (p:=0) (by omega) fun k _ f=>by unfold xH;rw[if_neg (fun e=>f e.symm)];grind];have e:dt n (mnr xH 0)=dt n xH:=rP fun i c _ _=>by
   unfold mnr xH skp;rw[if_neg (Nat.not_lt_zero c)];by_cases h:i=c
   ·rw[if_pos h,if_pos (by omega)]
   ·rw[if_neg h,if_neg (by omega)]
  rw[e,aBM n,aM0];unfold xH;rw[if_pos rfl];grind
theorem aJb{h k:Nat}{s:RS}(hs:RJ h k s):∀i,i<s.ps.length→i≤pat s.ps i
 |0,_=>Nat.zero_le _
 |i+1,e=>by
  have:=aJb hs i (by omega);have:=hs.inc i (i+1) (by omega) e;omega
theorem aEY{h k:Nat}{s:RS}(hs:RJ h k s):∀t i,i+t+1=s.ps.length→pat s.ps i+t<k
 |0,i,e=>hs.pk i (by omega)
 |t+1,i,e=>by
  have:=aEY hs t (i+1) (by omega);have:=hs.inc i (i+1) (by omega) (by omega);omega
theorem aIv{h k:Nat}{s:RS}(hs:RJ h k s)(e:s.ps.length=k){i:Nat}(f:i<k):pat s.ps i=i:=by
 have j:=aJb hs i (by omega);have q:=aEY hs (k-1-i) i (by omega);omega
theorem aBb{h k:Nat}{s:RS}(hs:RJ h k s)(e:s.ps.length=k){i c:Nat}(f:i<h)(hc:c<k):s.g i c=if i=c then 1 else 0:=by
 have:=hs.one c i (by omega) f;rw[aIv hs e hc]at this;exact this
def aMx(g:Nat→Nat→Rat)(n:Nat):Rat:=if(red g n n).ps.length=n then(red g n n).d else 0
theorem aMu{g:Nat→Nat→Rat}{n:Nat}:dt n g=aMx g n:=by
 have e:=aGO (g:=g) (h:=n) n;unfold aMx;rw[(aCr n).red0 (g:=g) n];split
 ·rename_i f;rw[rP (g':=xH) fun i c j hc=>aBb e f j hc,aBM];grind
 ·rename_i f;have hlt:(red g n n).ps.length<n:=by have:=e.ph;omega
  rw[rP (g':=fun i c=>if c<n then(red g n n).g i c else 0) fun i c j hc=>by rw[if_pos hc],(aCr n).zero (i:=n-1) (by omega) ?_]
  ·grind
  ·funext c;split
   ·rename_i hc;exact e.z (n-1) c (by omega) (by omega) hc
   ·rfl
theorem aJz(q:Nat→Nat→Rat)(n w:Nat):Alt n fun g=>dt n (wE g q w):=by
 have eu:∀(g:Nat→Nat→Rat) (f:Nat→Rat) (i:Nat),wE (qX g i f) q w=qX (wE g q w) i (fun j=>aEA (tr q) f w j):=by
  intro g f i;funext j c;unfold wE;by_cases h:j=i
  ·subst h;rw[cW,cW]
  ·rw[fW h,fW h]
 refine⟨fun g g' h=>rP fun i c e _=>?_,fun g u v a i e=>?_,fun g i j e k hne=>?_⟩
 ·unfold wE;rw[h i e]
 ·show dt n _=dt n _-a*dt n _;rw[eu,eu,eu,←aFZ e];congr 2;funext j;unfold aEA;rw[←yH];exact bF fun c _=>by grind
 ·exact(aCr n).swap (wE g q w) i j e k hne
theorem aH8{g q:Nat→Nat→Rat}{n:Nat}:dt n (wE g q n)=dt n g*dt n q:=by
 have f:=aGO (g:=g) (h:=n) n;have hm:dt n (wE g q n)=(red g n n).d*dt n (wE (red g n n).g q n):=(aJz q n n).red0 (g:=g) n;rw[hm,aMu (g:=g)];unfold aMx;split
 ·rename_i s;rw[rP (g:=wE (red g n n).g q n) (g':=q) fun i c k hc=>?_];unfold wE aEA tr;rw[u6 (p:=i) k fun j t hne=>by rw[aBb f s k t,if_neg (fun e=>hne e.symm)];grind];rw[aBb f s k k,if_pos rfl];grind
 ·rename_i s;have hlt:(red g n n).ps.length<n:=by have:=f.ph;omega
  rw[(aCr n).zero (g:=wE (red g n n).g q n) (i:=n-1) (by omega) (by
   funext c;unfold wE aEA;exact lQ fun j t=>by rw[f.z (n-1) j (by omega) (by omega) t];grind)]
  grind
theorem s8{f:Nat→Rat}:∀{n:Nat},(∀i,i<n→0≤f i)→0≤sm f n
 |0,_=>Rat.le_refl
 |n+1,h=>by
  have e:=s8 (f:=f) (n:=n) fun i j=>h i (by omega)
  have k:=h n (by omega);simp only[sm];grind
/-- The unit matrix with one column replaced. -/
def aFk(i:Nat)(x:Nat→Rat)(r c:Nat):Rat:=if c=i then x r else if r=c then 1 else 0
theorem aJW{n i:Nat}(j:i<n)(x:Nat→Rat):dt n (aFk i x)=x i:=by
 have a:=aCr n;have q:aFk i x=qX (aFk i x) i (fun c=>x i*xH i c):=by
  funext r c;by_cases h:r=i
  ·subst h;rw[cW];unfold aFk xH;by_cases f:c=r
   ·rw[if_pos f,if_pos f.symm,Rat.mul_one]
   ·rw[if_neg f,if_neg (show¬r=c from fun e=>f e.symm),Rat.mul_zero]
  ·rw[fW h]
 have s:dt n (qX (aFk i x) i (xH i))=1:=by
  rw[←a.elm0 (g:=qX (aFk i x) i (xH i)) (n:=i) (k:=i) j n (Nat.le_refl n),←aBM n];refine rP fun r c hr hc=>?_
  unfold elm;by_cases h:r=i
  ·subst h;rw[if_neg (fun f=>f.2 rfl),cW]
  ·rw[if_pos ⟨hr,h⟩,fW h,cW];unfold aFk xH;rw[if_pos rfl];by_cases f:c=i
   ·rw[if_pos f,if_pos f.symm,Rat.mul_one,Rat.sub_self,if_neg (by omega)]
   ·rw[if_neg f,if_neg (show¬i=c from fun e=>f e.symm),Rat.mul_zero,Rat.sub_eq_add_neg,Rat.neg_zero,Rat.add_zero]
 rw[q,a.scale j,s,Rat.mul_one]
def aFL(Z:Nat→Nat→Rat)(b:Nat→Nat)(r j:Nat):Rat:=Z r (b j)
def aDm(Z:Nat→Nat→Rat)(b:Nat→Nat)(i k:Nat)(r j:Nat):Rat:=if j=i then Z r k else Z r (b j)
theorem aL2{n w:Nat}{E Z T:Nat→Nat→Rat}{b:Nat→Nat}(f:∀i c,i<n→c<w→T i c=wE E Z n i c)(hb:∀j,j<n→b j<w)(hu:∀i j,i<n→j<n→T i (b j)=if i=j then 1 else 0){i k:Nat}(t:i<n)(u:k<w):dt n (aFL Z b)≠0∧T i k=dt n (aDm Z b i k)/dt n (aFL Z b):=by
 have q:dt n E*dt n (aFL Z b)=1:=by
  rw[←aH8,←aBM n];refine rP fun r c hr hc=>?_
  show wE E Z n r (b c)=_;rw[←f r (b c) hr (hb c hc),hu r c hr hc];rfl
 have x:dt n E*dt n (aDm Z b i k)=T i k:=by
  rw[←aH8,←aJW t (fun r=>T r k)];refine rP fun r c hr hc=>?_
  unfold aFk;by_cases h:c=i
  ·rw[if_pos h];show _=T r k;rw[f r k hr u];unfold wE aEA tr aDm;simp[h]
  ·rw[if_neg h,←hu r c hr hc,f r (b c) hr (hb c hc)];unfold wE aEA tr aDm;simp[h]
 have hne:dt n (aFL Z b)≠0:=fun e=>by rw[e,Rat.mul_zero]at q;exact absurd q (by decide)
 refine⟨hne,?_⟩;rw[←x,Rat.div_def];have:dt n E=(dt n (aFL Z b))⁻¹:=by
  have s:=congrArg (·*(dt n (aFL Z b))⁻¹) q;simp only[Rat.mul_assoc,Rat.mul_inv_cancel _ hne,Rat.mul_one,Rat.one_mul]at s;exact s
 rw[this,Rat.mul_comm]
def uA(M:Nat)(x:Rat):Prop:=∃q:Int,x=(q:Rat)∧q.natAbs≤M
def fM(M:Nat):Nat→Nat
 |0=>1
 |n+1=>(n+1)*(M*fM M n)
theorem uA.mono{M N:Nat}{x:Rat}(h:uA M x)(f:M≤N):uA N x:=by
 obtain⟨q,e,j⟩:=h;exact⟨q,e,by omega⟩
theorem uA.add{M N:Nat}{x y:Rat}(h:uA M x)(k:uA N y):uA (M+N) (x+y):=by
 obtain⟨q,e,j⟩:=h;obtain⟨p,f,s⟩:=k;exact⟨q+p,by rw[e,f,Rat.intCast_add],by omega⟩
theorem uA.mul{M N:Nat}{x y:Rat}(h:uA M x)(k:uA N y):uA (M*N) (x*y):=by
 obtain⟨q,e,f⟩:=h;obtain⟨p,j,s⟩:=k;exact⟨q*p,by rw[e,j,Rat.intCast_mul],by rw[Int.natAbs_mul];exact Nat.mul_le_mul f s⟩
theorem uA.zero:uA 0 0:=⟨0,rfl,Nat.le_refl _⟩
theorem aNi(k:Nat):uA 1 (sgn k):=by
 unfold sgn;split
 ·exact⟨1,rfl,by decide⟩
 ·exact⟨-1,rfl,by decide⟩
theorem aNJ{f:Nat→Rat}{M:Nat}:∀n,(∀i,i<n→uA M (f i))→uA (n*M) (sm f n)
 |0,_=>by rw[Nat.zero_mul];exact uA.zero
 |n+1,h=>by
  have:=(aNJ n fun i e=>h i (by omega)).add (h n (by omega));rw[Nat.succ_mul];exact this
theorem aMC{M:Nat}:∀(n:Nat) (g:Nat→Nat→Rat),(∀i c,i<n→c<n→uA M (g i c))→uA (fM M n) (dt n g)
 |0,g,h=>⟨1,rfl,Nat.le_refl _⟩
 |n+1,g,h=>aNJ (n+1) fun k f=>by
  have j:=aMC n (mnr g k) fun i c q hc=>h (i+1) (skp k c) (by omega) (aJc hc)
  have e:=(aNi k).mul ((h 0 k (by omega) f).mul j);rw[Nat.one_mul]at e
  first|exact e|(rw[Rat.mul_assoc];exact e)
theorem aG7{n w M k:Nat}{E Z T:Nat→Nat→Rat}{b:Nat→Nat}(t:∀i c,i<n→c<w→T i c=wE E Z n i c)(hb:∀j,j<n→b j<w)(hu:∀i j,i<n→j<n→T i (b j)=if i=j then 1 else 0)(f:∀i c,i<n→c<w→uA M (Z i c))(hM:fM M n<2^k):Bdx n w k T:=fun i c u hc=>by
 obtain⟨x,y⟩:=aL2 t hb hu u hc;obtain⟨p,z,F⟩:=aMC n (aDm Z b i c) fun r j hr h=>by
  unfold aDm;split
  ·exact f r c hr hc
  ·exact f r (b j) hr (hb j h)
 obtain⟨q,s,G⟩:=aMC n (aFL Z b) fun r j hr h=>f r (b j) hr (hb j h)
 rw[y,z,s];refine Bd.of (fun e=>x (by rw[s,e];rfl)) (Nat.lt_of_le_of_lt F hM) (Nat.lt_of_le_of_lt G hM)
/-- A tableau: its rows are combinations of those of Z, and the columns of the basic variables are those of the unit matrix. -/
structure TI (n w:Nat) (Z T:Nat→Nat→Rat) (b:Nat→Nat):Prop where
 ex:∃E:Nat→Nat→Rat,∀i c,i<n→c<w→T i c=wE E Z n i c
 lt:∀j,j<n→b j<w
 un:∀i j,i<n→j<n→T i (b j)=if i=j then 1 else 0
def pvt(T:Nat→Nat→Rat)(r c i k:Nat):Rat:=if i=r then T r k/T r c else T i k-T i c*(T r k/T r c)
theorem t7{E Z:Nat→Nat→Rat}{n i k:Nat}:wE E Z n i k=sm (fun j=>Z j k*E i j) n:=by
 unfold wE aEA tr
 first|rfl|(refine bF fun j _=>?_;first|rfl|exact Rat.mul_comm _ _)
theorem TI.pivot{n w:Nat}{Z T:Nat→Nat→Rat}{b:Nat→Nat}(h:TI n w Z T b){r c:Nat}(hr:r<n)(hc:c<w)(hp:T r c≠0):TI n w Z (pvt T r c) (qX b r c):=by
 obtain⟨⟨E,t⟩,hb,hu⟩:=h;refine⟨⟨fun i j=>if i=r then E r j/T r c else E i j-T i c*(E r j/T r c),fun i k s u=>?_⟩,fun j q=>?_,fun i j s q=>?_⟩
 ·rw[t7];have x:T r k/T r c=sm (fun j=>Z j k*(E r j/T r c)) n:=by
   rw[t r k hr u,t7,Rat.div_def,Rat.mul_comm,←o8];refine bF fun j _=>?_
   rw[Rat.div_def,Rat.mul_comm,Rat.mul_assoc]
  unfold pvt;by_cases e:i=r
  ·rw[if_pos e,x];exact bF fun j _=>by rw[if_pos e]
  ·rw[if_neg e,t i k s u,t7,x,←o8,Rat.sub_eq_add_neg,←sM,←aAk];refine bF fun j _=>?_
   rw[if_neg e,Rat.sub_eq_add_neg,Rat.mul_add,Rat.mul_neg,←Rat.mul_assoc,←Rat.mul_assoc,Rat.mul_comm (T i c)]
 ·by_cases e:j=r
  ·rw[e,cW];exact hc
  ·rw[fW e];exact hb j q
 ·unfold pvt;by_cases e:j=r
  ·rw[e,cW,Rat.div_def,Rat.mul_inv_cancel _ hp];by_cases f:i=r
   ·rw[if_pos f,if_pos f]
   ·rw[if_neg f,if_neg f,Rat.mul_one,Rat.sub_self]
  ·have y:T r (b j)=0:=by rw[hu r j hr q,if_neg fun h=>e h.symm]
   rw[fW e,y,Rat.div_def,Rat.zero_mul];by_cases f:i=r
   ·rw[if_pos f,if_neg (by omega)]
   ·rw[if_neg f,Rat.mul_zero,Rat.sub_eq_add_neg,Rat.neg_zero,Rat.add_zero];exact hu i j s q
theorem aKV{M:Nat}:∀n,n≤64→fM M n≤(64*M)^n
 |0,_=>Nat.le_refl _
 |n+1,h=>by
  show(n+1)*(M*fM M n)≤_;rw[Nat.pow_succ,Nat.mul_comm ((64*M)^n),←Nat.mul_assoc];exact Nat.mul_le_mul (Nat.mul_le_mul_right M h) (aKV n (by omega))
theorem TI.scale{n w:Nat}{Z T:Nat→Nat→Rat}{b:Nat→Nat}(h:TI n w Z T b){D:Rat}(e:D≠0):TI n w (fun i c=>Z i c*D) T b:=by
 obtain⟨⟨E,f⟩,hb,hu⟩:=h;refine⟨⟨fun i j=>E i j/D,fun i c k hc=>?_⟩,hb,hu⟩;rw[f i c k hc,t7,t7];refine bF fun j _=>?_
 rw[Rat.div_def,Rat.mul_comm (E i j),Rat.mul_assoc,←Rat.mul_assoc D,Rat.mul_inv_cancel _ e,Rat.one_mul]
theorem TI.bd{n w M k:Nat}{Z T:Nat→Nat→Rat}{b:Nat→Nat}{D:Rat}(h:TI n w Z T b)(e:D≠0)(f:∀i c,i<n→c<w→uA M (Z i c*D))(j:n≤64)(hM:(64*M)^n<2^k):Bdx n w k T:=by
 obtain⟨⟨E,q⟩,hb,hu⟩:=h.scale e;exact aG7 q hb hu f (Nat.lt_of_le_of_lt (aKV n j) hM)
def z0:Nat→Rat:=fun _=>0
def ek(k:Nat):Nat→Rat:=qX z0 k 1
def ord(N:Nat):List Nat:=mp (fun i=>i+1) N
/-- A number that is whole when it is multiplied so often. -/
def dn(D e M:Nat)(x:Rat):Prop:=uA M (x*((D^e:Nat):Rat))
/-- The rows of a tableau as they lie. -/
structure sA (n w:Nat) (rs:List (List Rat)) (od:Nat→Nat) (T:Nat→Nat→Rat):Prop where
 lt:∀i,i<n→od i<rs.length
 inj:∀i j,i<n→j<n→od i=od j→i=j
 row:∀i,i<n→rs.getD (od i) []=mp (T i) w
def aHs(n j:Nat):Nat:=if j=0 then 2*n+1 else j-1
def lx(T:Nat→Nat→Rat)(n i:Nat)(c:Rat)(k:Nat)(d:Rat):Nat→Nat→Bool
 |0,_=>false
 |t+1,j=>bif decide (T i (aHs n j)/c=T k (aHs n j)/d) then lx T n i c k d t (j+1) else decide (T i (aHs n j)/c<T k (aHs n j)/d)
theorem aDH{m k:Nat}{a b:Rat}(e:Bd m a)(hb:Bd k b)(hm:m≤1073741824)(f:k≤1073741824):aAO a b=some (if a<b then -1 else if b<a then 1 else 0):=by
 unfold aAO;rw[e.qs hm,hb.qs f];rfl
theorem aFY{a b:Rat}:((if a<b then -1 else if b<a then 1 else 0:Int)=0↔a=b)∧decide ((if a<b then -1 else if b<a then 1 else 0:Int)<0)=decide (a<b):=by
 by_cases h:a<b
 ·rw[if_pos h];refine⟨⟨fun e=>absurd e (by decide),fun e=>?_⟩,by rw[decide_eq_true h];rfl⟩;rw[e]at h;exact absurd h (Rat.lt_irrefl)
 ·rw[if_neg h];by_cases e:b<a
  ·rw[if_pos e];refine⟨⟨fun f=>absurd f (by decide),fun f=>?_⟩,by rw[decide_eq_false h];rfl⟩;rw[f]at e;exact absurd e (Rat.lt_irrefl)
  ·rw[if_neg e];exact⟨⟨fun _=>Rat.le_antisymm (Rat.not_lt.1 e) (Rat.not_lt.1 h),fun _=>rfl⟩,by rw[decide_eq_false h];rfl⟩
def zJ(T:Nat→Nat→Rat)(r c k:Nat):Rat:=T r k/T r c
theorem aGP{n w r c B k:Nat}{T:Nat→Nat→Rat}(e:Bdx n w B T)(hr:r<n)(hc:c<w)(f:k<w):Bd (B+B) (zJ T r c k):=(e r k hr f).div (e r c hr hc)
theorem aAN{rs:List (List Rat)}{o p:Nat}{x:List Rat}(f:o<rs.length):(rs.set o x).getD p []=if p=o then x else rs.getD p []:=by
 rw[List.getD_eq_getElem?_getD,List.getD_eq_getElem?_getD,List.getElem?_set];by_cases h:o=p
 ·subst h;rw[if_pos rfl,if_pos f,if_pos rfl];rfl
 ·rw[if_neg h,if_neg (fun e=>h e.symm)]
theorem sA.set{n w:Nat}{rs:List (List Rat)}{od:Nat→Nat}{T:Nat→Nat→Rat}(h:sA n w rs od T){i:Nat}(q:i<n)(f:Nat→Rat):sA n w (rs.set (od i) (mp f w)) od (qX T i f):=
 ⟨fun j k=>by rw[List.length_set];exact h.lt j k,h.inj,fun j k=>by
  rw[aAN (h.lt i q)];by_cases e:j=i
  ·subst e;rw[if_pos rfl,cW]
  ·rw[if_neg (fun s=>e (h.inj j i k q s)),fW e];exact h.row j k⟩
theorem sA.congr{n w:Nat}{rs:List (List Rat)}{od:Nat→Nat}{T T':Nat→Nat→Rat}(h:sA n w rs od T)(e:∀i k,i<n→k<w→T i k=T' i k):sA n w rs od T':=
 ⟨h.lt,h.inj,fun i f=>by rw[h.row i f];exact oF fun k j=>e i k f j⟩
def enc(s:Option Nat):Int:=match s with|none=>-1|some r=>(r:Int)
theorem TI.inj{n w:Nat}{Z T:Nat→Nat→Rat}{b:Nat→Nat}(h:TI n w Z T b){i j:Nat}(f:i<n)(q:j<n)(e:b i=b j):i=j:=by
 by_cases k:i=j
 ·exact k
 ·have a:=h.un i i f f;have c:=h.un i j f q;rw[if_pos rfl,e]at a;rw[if_neg k,a]at c;exact absurd c (by decide)
def ng(q:Nat→Rat):Nat→Nat→Bool
 |0,_=>false
 |t+1,i=>bif decide ((q i).num.sign<0) then true else ng q t (i+1)
/-- What kills the tableau kills the first one. -/
def KE(n w:Nat)(Z T:Nat→Nat→Rat):Prop:=∀x:Nat→Rat,(∀i,i<n→sm (fun k=>T i k*x k) w=0)→∀i,i<n→sm (fun k=>Z i k*x k) w=0
theorem KE.pivot{n w r c:Nat}{Z T:Nat→Nat→Rat}(h:KE n w Z T)(hr:r<n)(hp:T r c≠0):KE n w Z (pvt T r c):=fun x j=>h x fun i s=>by
 have q:sm (fun k=>T r k*x k) w=0:=by
  have f:=j r hr;have e:sm (fun k=>pvt T r c r k*x k) w=(1/T r c)*sm (fun k=>T r k*x k) w:=by
   rw[←o8];exact bF fun k _=>by unfold pvt;rw[if_pos rfl];grind
  rw[e]at f;grind
 by_cases e:i=r
 ·rw[e];exact q
 ·have f:=j i s;have t:sm (fun k=>pvt T r c i k*x k) w=sm (fun k=>T i k*x k) w-(T i c/T r c)*sm (fun k=>T r k*x k) w:=by
   rw[←yH];exact bF fun k _=>by unfold pvt;rw[if_neg e];grind
  rw[t,q]at f;grind
theorem u9(f:Nat→Rat)(a:Nat):∀b,sm f (a+b)=sm f a+sm (fun j=>f (a+j)) b
 |0=>by show sm f a=sm f a+0;rw[Rat.add_zero]
 |b+1=>by
  show sm f (a+b)+f (a+b)=sm f a+(sm (fun j=>f (a+j)) b+f (a+b));rw[u9 f a b,Rat.add_assoc]
def nn(f:Nat→Rat):Nat→Nat→Prop
 |0,_=>True
 |t+1,j=>0<f j∨(f j=0∧nn f t (j+1))
def aLW(T:Nat→Nat→Rat)(n c k r:Nat):Prop:=nn (fun j=>T k (aHs n j)/T k c-T r (aHs n j)/T r c) (n+1) 0
theorem aIU{a:Rat}:0<a.num↔0<a:=by
 have f:=Rat.num_nonneg (q:=a);have j:=Rat.num_eq_zero (q:=a);constructor
 ·intro h;have k:0≤a:=f.1 (by omega);have s:a≠0:=fun e=>by have:=j.2 e;omega
  grind
 ·intro h;have k:0≤a.num:=f.2 (by grind);have s:a.num≠0:=fun e=>by have:=j.1 e;grind
  omega
theorem aJw{x:Rat}:0<x.num.sign↔0<x:=by rw[Int.sign_pos_iff];exact aIU
def mem(n:Nat)(b:Nat→Nat)(v:Nat):Prop:=∃i,i<n∧b i=v
def aNE(n:Nat)(T:Nat→Nat→Rat)(x r:Nat):Prop:=0<T r x∧∀k,k<n→0<T k x→aLW T n x k r
section
variable {n N:Nat} {Z:Nat→Nat→Rat} {TT:Nat→Nat→Nat→Rat} {BB:Nat→Nat→Nat} {CC:Nat→Nat}
end
theorem pig:∀(n m:Nat) (f:Nat→Nat),(∀i,i<n→f i<m)→(∀i j,i<n→j<n→f i=f j→i=j)→n≤m
 |0,m,f,_,_=>Nat.zero_le _
 |n+1,m,f,k,h=>by
  have t:=k n (by omega);have:=pig n (m-1) (fun i=>if f i<f n then f i else f i-1) (fun i s=>by
   have a:=k i (by omega);have b:f i≠f n:=fun e=>by have:=h i n (by omega) (by omega) e;omega
   show(if f i<f n then f i else f i-1)<m-1;split<;>omega) (fun i j s u e=>by
   have b:f i≠f n:=fun e=>by have:=h i n (by omega) (by omega) e;omega
   have c:f j≠f n:=fun e=>by have:=h j n (by omega) (by omega) e;omega
   refine h i j (by omega) (by omega) ?_;have q:(if f i<f n then f i else f i-1)=(if f j<f n then f j else f j-1):=e;split at q<;>split at q<;>omega)
  omega
theorem aBH{x:Rat}(h:0<x):x≠0:=fun e=>by rw[e]at h;exact absurd h Rat.lt_irrefl
theorem aHX{x:Rat}(h:x<0):x≠0:=fun e=>by rw[e]at h;exact absurd h Rat.lt_irrefl
structure SX (n C:Nat) (Z:Nat→Nat→Rat) (c:Nat→Rat) (T:Nat→Nat→Rat) (g:Nat→Rat) (b:Nat→Nat):Prop where
 ti:TI n (C+1) Z T b
 lt:∀i,i<n→b i<C
 ke:KE n (C+1) Z T
 gb:∀i,i<n→g (b i)=0
 gc:∃l:Nat→Rat,∀k,k<C+1→g k=c k-sm (fun j=>l j*Z j k) n
def gpv(g:Nat→Rat)(T:Nat→Nat→Rat)(r col k:Nat):Rat:=g k-g col*(T r k/T r col)
theorem TI.row{n w:Nat}{Z T:Nat→Nat→Rat}{b:Nat→Nat}(h:TI n w Z T b){r:Nat}(hr:r<n):∃E:Nat→Rat,∀k,k<w→T r k=sm (fun j=>E j*Z j k) n:=by
 obtain⟨E,e⟩:=h.ex;exact⟨E r,fun k f=>by rw[e r k hr f,t7];exact bF fun j _=>Rat.mul_comm _ _⟩
section
variable {n C:Nat} {Z T T':Nat→Nat→Rat} {c g g':Nat→Rat} {b b':Nat→Nat}
theorem SX.pivot(h:SX n C Z c T g b){r col:Nat}(hr:r<n)(hc:col<C)(hp:T r col≠0):SX n C Z c (pvt T r col) (gpv g T r col) (qX b r col):=by
 refine⟨h.ti.pivot hr (by omega) hp,fun i f=>?_,h.ke.pivot hr hp,fun i f=>?_,?_⟩
 ·by_cases e:i=r
  ·rw[e,cW];exact hc
  ·rw[fW e];exact h.lt i f
 ·unfold gpv;by_cases e:i=r
  ·rw[e,cW,Rat.div_def,Rat.mul_inv_cancel _ hp];grind
  ·have s:T r (b i)=0:=by rw[h.ti.un r i hr f,if_neg fun h=>e h.symm]
   rw[fW e,s,h.gb i f];grind
 ·obtain⟨l,t⟩:=h.gc;obtain⟨E,u⟩:=h.ti.row hr;refine⟨fun j=>l j+(g col/T r col)*E j,fun k q=>?_⟩;unfold gpv;have x:sm (fun j=>(l j+(g col/T r col)*E j)*Z j k) n=sm (fun j=>l j*Z j k) n+(g col/T r col)*sm (fun j=>E j*Z j k) n:=by
   rw[←o8,←aAk];exact bF fun j _=>by grind
  rw[x,t k q,u k q];grind
def oX(T:Nat→Nat→Rat)(b:Nat→Nat)(n k j:Nat):Rat:=(if j=k then 1 else 0)-sm (fun i=>if b i=j then T i k else 0) n
theorem tJ{f:Nat→Rat}{k w:Nat}(h:k<w)(hb:∀i,i<n→b i<w):sm (fun j=>f j*oX T b n k j) w=f k-sm (fun i=>f (b i)*T i k) n:=by
 have q:sm (fun j=>f j*oX T b n k j) w=sm (fun j=>(if j=k then f k else 0)-1*sm (fun i=>if b i=j then f (b i)*T i k else 0) n) w:=bF fun j _=>by
  unfold oX;have:sm (fun i=>if b i=j then f (b i)*T i k else 0) n=f j*sm (fun i=>if b i=j then T i k else 0) n:=by
   rw[←o8];refine bF fun i _=>?_
   by_cases e:b i=j
   ·rw[if_pos e,if_pos e,e]
   ·rw[if_neg e,if_neg e,Rat.mul_zero]
  rw[this];by_cases e:j=k
  ·rw[if_pos e,if_pos e,e];grind
  ·rw[if_neg e,if_neg e];grind
 rw[q,yH,u6 h fun j _ hne=>if_neg hne,if_pos rfl,yU,Rat.one_mul];congr 1;refine bF fun i s=>?_
 rw[u6 (hb i s) fun j _ hne=>if_neg fun e=>hne e.symm,if_pos rfl]
theorem TI.dkill{w:Nat}(h:TI n w Z T b){k i:Nat}(q:k<w)(f:i<n):sm (fun j=>T i j*oX T b n k j) w=0:=by
 rw[tJ q h.lt,u6 f fun j s hne=>by rw[h.un i j f s,if_neg fun e=>hne e.symm,Rat.zero_mul],h.un i i f f,if_pos rfl];grind
theorem SX.dZ(h:SX n C Z c T g b){k i:Nat}(f:k<C+1)(e:i<n):sm (fun j=>Z i j*oX T b n k j) (C+1)=0:=
 h.ke _ (fun i e=>h.ti.dkill f e) i e
theorem SX.gdot(h:SX n C Z c T g b){x:Nat→Rat}(e:∀i,i<n→sm (fun j=>Z i j*x j) (C+1)=0):sm (fun j=>g j*x j) (C+1)=sm (fun j=>c j*x j) (C+1):=by
 obtain⟨l,k⟩:=h.gc;have q:sm (fun j=>g j*x j) (C+1)=sm (fun j=>c j*x j-1*sm (fun i=>l i*(Z i j*x j)) n) (C+1):=bF fun j s=>by
  rw[k j s];have:sm (fun i=>l i*(Z i j*x j)) n=sm (fun i=>l i*Z i j) n*x j:=by
   rw[←xX];exact bF fun i _=>by grind
  rw[this];grind
 rw[q,yH,yU,lQ (f:=fun j=>sm (fun i=>l j*(Z j i*x i)) (C+1)) fun i t=>by rw[o8,e i t,Rat.mul_zero]];grind
theorem SX.cost(h:SX n C Z c T g b)(s:SX n C Z c T' g' b'){k:Nat}(f:k<C+1):g' k-sm (fun i=>g' (b i)*T i k) n=g k:=by
 have j:=s.gdot (x:=oX T b n k) fun i e=>h.dZ f e
 have q:=h.gdot (x:=oX T b n k) fun i e=>h.dZ f e
 rw[tJ f h.ti.lt]at j q;rw[j,←q,lQ fun i e=>by rw[h.gb i e,Rat.zero_mul]];grind
theorem SX.zrow(h:SX n C Z c T g b){x:Nat→Rat}(e:∀i,i<n→sm (fun j=>Z i j*x j) (C+1)=0){i:Nat}(f:i<n):sm (fun j=>T i j*x j) (C+1)=0:=by
 obtain⟨E,k⟩:=h.ti.row f;have q:sm (fun j=>T i j*x j) (C+1)=sm (fun j=>sm (fun m=>E m*(Z m j*x j)) n) (C+1):=bF fun j s=>by
  rw[k j s,←xX];exact bF fun m _=>by grind
 rw[q,yU];exact lQ fun m hm=>by rw[o8,e m hm,Rat.mul_zero]
theorem SX.same(h:SX n C Z c T g b)(q:SX n C Z c T' g' b')(hb:∀i,i<n→b i=b' i){k:Nat}(s:k<C+1):g' k=g k∧∀i,i<n→T' i k=T i k:=by
 constructor
 ·rw[←h.cost q s,lQ fun i f=>by rw[hb i f,q.gb i f,Rat.zero_mul]];grind
 ·intro i f;have e:=q.zrow (x:=oX T b n k) (fun i f=>h.dZ s f) f;rw[tJ s h.ti.lt,u6 f fun j t hne=>by rw[hb j t,q.ti.un i j f t,if_neg fun e=>hne e.symm,Rat.zero_mul],hb i f,q.ti.un i i f f,if_pos rfl]at e;grind
end
structure z9 (n C:Nat) (Z:Nat→Nat→Rat) (c:Nat→Rat) (TT:Nat→Nat→Nat→Rat) (GG:Nat→Nat→Rat) (BB:Nat→Nat→Nat) (R S:Nat→Nat) (N:Nat):Prop where
 sx:∀k,k≤N→SX n C Z c (TT k) (GG k) (BB k)
 fs:∀k,k≤N→∀i,i<n→0≤TT k i C
 rl:∀k,k<N→R k<n
 sl:∀k,k<N→S k<C
 neg:∀k,k<N→GG k (S k)<0
 fst:∀k,k<N→∀j,j<S k→0≤GG k j
 pos:∀k,k<N→0<TT k (R k) (S k)
 min:∀k,k<N→∀i,i<n→0<TT k i (S k)→TT k (R k) C/TT k (R k) (S k)<TT k i C/TT k i (S k)∨(TT k (R k) C/TT k (R k) (S k)=TT k i C/TT k i (S k)∧BB k (R k)≤BB k i)
 nt:∀k,k<N→TT (k+1)=pvt (TT k) (R k) (S k)
 ng:∀k,k<N→GG (k+1)=gpv (GG k) (TT k) (R k) (S k)
 nb:∀k,k<N→BB (k+1)=qX (BB k) (R k) (S k)
theorem aDQ{P:Nat→Prop}{a:Nat}:∀g,P a→¬P (a+g)→∃u,a≤u∧u<a+g∧P u∧¬P (u+1)
 |0,h,f=>absurd h f
 |g+1,h,f=>by
  by_cases e:P (a+g)
  ·exact⟨a+g,by omega,by omega,e,f⟩
  ·obtain⟨u,j,s,k,q⟩:=aDQ g h e;exact⟨u,j,by omega,k,q⟩
theorem aIK{P:Nat→Prop}:∀m,(∀j,P j→j<m)→(∃j,P j)→∃t,P t∧∀j,P j→j≤t
 |0,h,⟨j,f⟩=>absurd (h j f) (by omega)
 |m+1,h,k=>by
  by_cases e:P m
  ·exact⟨m,e,fun j f=>by have:=h j f;omega⟩
  ·exact aIK m (fun j f=>by
    have:=h j f;have:j≠m:=fun q=>e (q▸f)
    omega) k
theorem aDv{f:Nat→Rat}:∀{n:Nat},0<sm f n→∃i,i<n∧0<f i
 |0,h=>absurd h (Rat.lt_irrefl)
 |n+1,h=>by
  by_cases e:0<f n
  ·exact⟨n,by omega,e⟩
  ·have k:=Rat.not_lt.1 e;have q:0<sm f n+f n:=h;obtain⟨i,s,j⟩:=aDv (f:=f) (n:=n) (by grind);exact⟨i,by omega,j⟩
section
variable {n C N:Nat} {Z:Nat→Nat→Rat} {c:Nat→Rat} {TT:Nat→Nat→Nat→Rat} {GG:Nat→Nat→Rat} {BB:Nat→Nat→Nat} {R S:Nat→Nat}
theorem z9.up(h:z9 n C Z c TT GG BB R S N){k:Nat}(f:k<N):GG k C≤GG (k+1) C∧(GG k C=GG (k+1) C→TT k (R k) C=0):=by
 have j:=h.neg k f;have q:=h.pos k f;have t:=h.fs k (by omega) (R k) (h.rl k f);have u:0≤TT k (R k) C/TT k (R k) (S k):=by rw[Rat.div_def];exact Rat.mul_nonneg t (Rat.le_of_lt (Rat.inv_pos.2 q))
 have e:GG (k+1) C=GG k C-GG k (S k)*(TT k (R k) C/TT k (R k) (S k)):=by rw[h.ng k f];rfl
 rw[e];constructor
 ·have:=Rat.mul_nonneg (show 0≤-(GG k (S k)) by grind) u;grind
 ·intro y;have x:GG k (S k)*(TT k (R k) C/TT k (R k) (S k))=0:=by grind
  have z:=aBH q;rcases Rat.mul_eq_zero.1 x with s|s
  ·rw[s]at j;exact absurd j Rat.lt_irrefl
  ·grind
theorem z9.ups(h:z9 n C Z c TT GG BB R S N)(p:Nat):∀g,p+g≤N→GG p C≤GG (p+g) C
 |0,_=>Rat.le_refl
 |g+1,e=>Rat.le_trans (h.ups p g (by omega)) (h.up (show p+g<N by omega)).1
theorem z9.flat(h:z9 n C Z c TT GG BB R S N){p q k:Nat}(j:p≤k)(s:k<q)(t:q≤N)(he:GG p C=GG q C):TT k (R k) C=0:=by
 have a:=h.ups p (k-p) (by omega);have b:=h.ups (k+1) (q-(k+1)) (by omega);rw[show p+(k-p)=k by omega]at a;rw[show k+1+(q-(k+1))=q by omega]at b;obtain⟨e,f⟩:=h.up (show k<N by omega);exact f (Rat.le_antisymm e (by rw[←he]at b;exact Rat.le_trans b a))
theorem z9.still(h:z9 n C Z c TT GG BB R S N){p q:Nat}(f:q≤N)(he:GG p C=GG q C){i:Nat}:∀g,p+g≤q→TT (p+g) i C=TT p i C
 |0,_=>rfl
 |g+1,s=>by
  rw[←h.still f he g (by omega)];have j:=h.flat (k:=p+g) (by omega) (by omega) f he;show TT (p+g+1) i C=_;rw[h.nt (p+g) (by omega)];unfold pvt;rw[j];by_cases e:i=R (p+g)
  ·rw[if_pos e,e,j];grind
  ·rw[if_neg e];grind
theorem z9.zero(h:z9 n C Z c TT GG BB R S N){p q u v i:Nat}(f:q≤N)(he:GG p C=GG q C)(hpu:p≤u)(hu:u≤q)(hpv:p≤v)(hv:v≤q)(hne:BB u i≠BB v i):TT p i C=0:=by
 have key:∀x y,p≤x→x≤y→y≤q→BB x i≠BB y i→TT p i C=0:=fun x y G I J s=>by
  obtain⟨k,K,L,t,z⟩:=aDQ (P:=fun m=>BB m i=BB x i) (a:=x) (y-x) rfl (by rw[show x+(y-x)=y by omega];exact fun e=>s e.symm);have hr:i=R k:=by
   refine Classical.byContradiction fun e=>z ?_
   show BB (k+1) i=BB x i;rw[h.nb k (by omega),fW e];exact t
  have F:=h.flat (k:=k) (by omega) (by omega) f he;have j:=h.still f he (i:=i) (k-p) (by omega);rw[show p+(k-p)=k by omega]at j;rw[←j,hr];exact F
 by_cases e:u≤v
 ·exact key u v hpu e hv hne
 ·exact key v u hpv (by omega) hu (fun e=>hne e.symm)
theorem z9.once(h:z9 n C Z c TT GG BB R S N){p q:Nat}(hpq:p<q)(K:q≤N)(hb:∀i,i<n→BB p i=BB q i):False:=by
 have he:GG p C=GG q C:=(((h.sx p (by omega)).same (h.sx q K) hb (show C<C+1 by omega)).1).symm;have nonb:∀k j,k≤N→GG k j≠0→¬mem n (BB k) j:=fun k j O x ⟨i,s,F⟩=>x (by rw[←F];exact(h.sx k O).gb i s)
 have mlt:∀k j,k≤N→mem n (BB k) j→j<C:=fun k j O ⟨i,s,F⟩=>by rw[←F];exact(h.sx k O).lt i s
 let Fk:Nat→Prop:=fun j=>(∃k,p≤k∧k≤q∧mem n (BB k) j)∧∃k,p≤k∧k≤q∧¬mem n (BB k) j
 have xP:∀k,p≤k→k<q→Fk (S k):=fun k x F=>⟨⟨k+1,by omega,by omega,R k,h.rl k (by omega),by rw[h.nb k (by omega),cW]⟩,k,x,by omega,nonb k _ (by omega) (aHX (h.neg k (by omega)))⟩
 obtain⟨t,⟨⟨u0,U,V,G⟩,v0,v01,v02,I⟩,tmax⟩:=aIK (P:=Fk) C (fun j ⟨⟨k,_,k2,k3⟩,_⟩=>mlt k j (by omega) k3) ⟨_,xP p (Nat.le_refl _) hpq⟩;have mpq:mem n (BB p) t↔mem n (BB q) t:=⟨fun⟨i,s,e⟩=>⟨i,s,by rw[←hb i s];exact e⟩,fun⟨i,s,e⟩=>⟨i,s,by rw[hb i s];exact e⟩⟩;have tex:∀(P:Nat→Prop) a b,a≤b→P a→¬P b→∃u,a≤u∧u<b∧P u∧¬P (u+1):=fun P a b hab x F=>by
  have:=aDQ (P:=P) (a:=a) (b-a) x (by rw[show a+(b-a)=b by omega];exact F);rw[show a+(b-a)=b by omega]at this;exact this
 obtain⟨⟨u,L,u2,u3,u4⟩,v,v1,v2,v3,v4⟩:(∃u,p≤u∧u<q∧mem n (BB u) t∧¬mem n (BB (u+1)) t)∧∃v,p≤v∧v<q∧¬mem n (BB v) t∧mem n (BB (v+1)) t:=by
  by_cases e:mem n (BB p) t
  ·obtain⟨a,a1,a2,a3,a4⟩:=tex (fun k=>mem n (BB k) t) p v0 v01 e I;obtain⟨d,d1,d2,d3,d4⟩:=tex (fun k=>¬mem n (BB k) t) v0 q v02 I (fun h=>h (mpq.1 e));exact⟨⟨a,a1,by omega,a3,a4⟩,d,by omega,d2,d3,Classical.not_not.1 d4⟩
  ·obtain⟨a,a1,a2,a3,a4⟩:=tex (fun k=>mem n (BB k) t) u0 q V G (fun h=>e (mpq.2 h));obtain⟨d,d1,d2,d3,d4⟩:=tex (fun k=>¬mem n (BB k) t) p u0 U e (fun h=>h G);exact⟨⟨a,by omega,a2,a3,a4⟩,d,d1,by omega,d3,Classical.not_not.1 d4⟩
 have hu:=h.sx u (by omega);have hv:=h.sx v (by omega);have hrt:BB u (R u)=t:=by
  obtain⟨i,s,e⟩:=u3;by_cases y:i=R u
  ·rw[←y];exact e
  ·exact absurd ⟨i,s,by rw[h.nb u (by omega),fW y];exact e⟩ u4
 have hst:S v=t:=by
  obtain⟨i,s,e⟩:=v4;by_cases y:i=R v
  ·rw[h.nb v (by omega),y,cW]at e;exact e
  ·rw[h.nb v (by omega),fW y]at e;exact absurd ⟨i,s,e⟩ v3
 have hs1:S u≤t:=tmax _ (xP u L u2);have hs2:S u≠t:=fun e=>nonb u (S u) (by omega) (aHX (h.neg u (by omega))) (by rw[e];exact u3)
 have hs3:0≤GG v (S u):=h.fst v (by omega) _ (by omega);have hcost:=hu.cost hv (show S u<C+1 by have:=h.sl u (by omega);omega);have hneg:=h.neg u (by omega);obtain⟨i,s,z⟩:=aDv (f:=fun i=>GG v (BB u i)*TT u i (S u)) (n:=n) (by grind);have J:GG v (BB u i)≠0:=fun e=>by rw[e,Rat.zero_mul]at z;exact absurd z Rat.lt_irrefl
 have hnv:=nonb v _ (by omega) J;have hj:=tmax (BB u i) ⟨⟨u,L,by omega,i,s,rfl⟩,v,v1,by omega,hnv⟩;have hpu:=h.pos u (by omega);by_cases ej:BB u i=t
 ·have er:i=R u:=hu.ti.inj s (h.rl u (by omega)) (by rw[ej,hrt]);have hn2:=h.neg v (by omega);rw[hst]at hn2;rw[ej,er]at z;have:=Rat.mul_nonneg (show 0≤-(GG v t) by grind) (Rat.le_of_lt hpu);grind
 ·have hg:0<GG v (BB u i):=by
   have x:0≤GG v (BB u i):=h.fst v (by omega) _ (by omega);exact Rat.lt_of_le_of_ne x (fun e=>J e.symm)
  have hT:0<TT u i (S u):=by
   refine Rat.not_le.1 fun hle=>?_
   have:=Rat.mul_nonneg (Rat.le_of_lt hg) (show 0≤-(TT u i (S u)) by grind);grind
  have z0:TT p i C=0:=h.zero K he L (by omega) v1 (by omega) (fun e=>hnv ⟨i,s,e.symm⟩);have z1:=h.still K he (i:=i) (u-p) (by omega);rw[show p+(u-p)=u by omega,z0]at z1;have z2:=h.flat L u2 K he;rcases h.min u (by omega) i s hT with hm|⟨_,hm⟩
  ·rw[z1,z2]at hm;have e1:(0:Rat)/TT u (R u) (S u)=0:=by rw[Rat.div_def,Rat.zero_mul]
   have y:(0:Rat)/TT u i (S u)=0:=by rw[Rat.div_def,Rat.zero_mul]
   rw[e1,y]at hm;exact absurd hm Rat.lt_irrefl
  ·omega
end
def uW(C:Nat)(b:Nat→Nat):Nat→Nat
 |0=>0
 |n+1=>b n+C*uW C b n
theorem aE8{C:Nat}{b:Nat→Nat}:∀n,(∀i,i<n→b i<C)→uW C b n<C^n
 |0,_=>by show 0<1;omega
 |n+1,h=>by
  have e:=aE8 n fun i f=>h i (by omega)
  have j:=h n (by omega);show b n+C*uW C b n<C^(n+1);have:C*(uW C b n+1)≤C*C^n:=Nat.mul_le_mul_left C e;rw[Nat.pow_succ,Nat.mul_comm (C^n)];rw[Nat.mul_add,Nat.mul_one]at this;omega
theorem aC4{C:Nat}{b b':Nat→Nat}:∀n,(∀i,i<n→b i<C)→(∀i,i<n→b' i<C)→uW C b n=uW C b' n→∀i,i<n→b i=b' i
 |0,_,_,_,i,f=>by omega
 |n+1,h,j,e,i,f=>by
  have k:=h n (by omega);have q:=j n (by omega);have t:b n+C*uW C b n=b' n+C*uW C b' n:=e;have s:(b n+C*uW C b n)%C=b n:=by rw[Nat.add_mul_mod_self_left,Nat.mod_eq_of_lt k]
  have u:(b' n+C*uW C b' n)%C=b' n:=by rw[Nat.add_mul_mod_self_left,Nat.mod_eq_of_lt q]
  have d1:(b n+C*uW C b n)/C=uW C b n:=by rw[Nat.add_mul_div_left _ _ (by omega),Nat.div_eq_of_lt k,Nat.zero_add]
  have d2:(b' n+C*uW C b' n)/C=uW C b' n:=by rw[Nat.add_mul_div_left _ _ (by omega),Nat.div_eq_of_lt q,Nat.zero_add]
  rw[t]at s d1;by_cases ei:i=n
  ·rw[ei];exact s.symm.trans u
  ·exact aC4 n (fun i f=>h i (by omega)) (fun i f=>j i (by omega)) (d1.symm.trans d2) i (by omega)
theorem z9.short{n C N:Nat}{Z:Nat→Nat→Rat}{c:Nat→Rat}{TT:Nat→Nat→Nat→Rat}{GG:Nat→Nat→Rat}{BB:Nat→Nat→Nat}{R S:Nat→Nat}(h:z9 n C Z c TT GG BB R S N):N+1≤C^n:=by
 refine pig (N+1) (C^n) (fun k=>uW C (BB k) n) (fun k q=>aE8 n (h.sx k (by omega)).lt) fun i j f s e=>?_
 have hb:=aC4 n (h.sx i (by omega)).lt (h.sx j (by omega)).lt e;refine Classical.byContradiction fun hne=>?_
 rcases Nat.lt_or_gt_of_ne hne with hlt|hlt
 ·exact h.once hlt (by omega) hb
 ·exact h.once hlt (by omega) fun i f=>(hb i f).symm
def xP(g:Nat→Rat):Nat→Nat→Option Nat
 |0,_=>none
 |t+1,i=>bif decide ((g i).num.sign<0) then some i else xP g t (i+1)
theorem aBi{x:Rat}:x.num.sign<0↔x<0:=by
 have e:=@aJw (-x);rw[Rat.neg_num,Int.sign_neg]at e;constructor
 ·intro h;have:=e.1 (by omega);grind
 ·intro h;have:=e.2 (by grind);omega
theorem yR{g:Nat→Rat}:∀t i r,xP g t i=some r→i≤r∧r<i+t∧g r<0∧∀j,i≤j→j<r→0≤g j
 |0,i,r,h=>by cases h
 |t+1,i,r,h=>by
  unfold xP at h;by_cases e:g i<0
  ·rw[decide_eq_true (aBi.2 e),d9]at h;cases h;exact⟨Nat.le_refl _,by omega,e,fun j f k=>by omega⟩
  ·rw[decide_eq_false (fun h=>e (aBi.1 h)),eD]at h;obtain⟨f,k,q,s⟩:=yR t (i+1) r h;refine⟨by omega,by omega,q,fun j j1 j2=>?_⟩;by_cases ej:j=i
   ·rw[ej];exact Rat.not_lt.1 e
   ·exact s j (by omega) j2
theorem aET{g:Nat→Rat}:∀t i,xP g t i=none→∀j,i≤j→j<i+t→0≤g j
 |0,i,_,j,f,k=>by omega
 |t+1,i,h,j,f,k=>by
  unfold xP at h;by_cases e:g i<0
  ·rw[decide_eq_true (aBi.2 e),d9]at h;cases h
  ·rw[decide_eq_false (fun h=>e (aBi.1 h)),eD]at h;by_cases ej:j=i
   ·rw[ej];exact Rat.not_lt.1 e
   ·exact aET t (i+1) h j (by omega) (by omega)
theorem aDN{x:Rat}(h:¬0<x):x.num.sign≤0:=Int.not_lt.1 fun hp=>h (aJw.1 hp)
def rto(T:Nat→Nat→Rat)(C col i:Nat):Rat:=T i C/T i col
def bet(T:Nat→Nat→Rat)(b:Nat→Nat)(C col i r:Nat):Bool:=
 bif decide (rto T C col i<rto T C col r) then true else bif decide (rto T C col i=rto T C col r) then decide (b i<b r) else false
def zS(T:Nat→Nat→Rat)(b:Nat→Nat)(C col:Nat):Nat→Nat→Option Nat→Option Nat
 |0,_,s=>s
 |t+1,i,s=>bif decide ((T i col).num.sign≤0) then zS T b C col t (i+1) s else
  match s with
  |none=>zS T b C col t (i+1) (some i)
  |some r=>bif bet T b C col i r then zS T b C col t (i+1) (some i) else zS T b C col t (i+1) (some r)
def asg(T:Nat→Nat→Rat)(b:Nat→Nat)(C col r k:Nat):Prop:=rto T C col r<rto T C col k∨(rto T C col r=rto T C col k∧b r≤b k)
theorem aJl{T:Nat→Nat→Rat}{b:Nat→Nat}{C col i r:Nat}(h:bet T b C col i r=true):rto T C col i<rto T C col r∨(rto T C col i=rto T C col r∧b i<b r):=by
 unfold bet at h;by_cases e:rto T C col i<rto T C col r
 ·exact Or.inl e
 ·rw[decide_eq_false e,eD]at h;by_cases f:rto T C col i=rto T C col r
  ·rw[decide_eq_true f,d9]at h;exact Or.inr ⟨f,of_decide_eq_true h⟩
  ·rw[decide_eq_false f,eD]at h;cases h
theorem aHu{T:Nat→Nat→Rat}{b:Nat→Nat}{C col i r:Nat}(h:bet T b C col i r=false):asg T b C col r i:=by
 unfold bet at h;by_cases e:rto T C col i<rto T C col r
 ·rw[decide_eq_true e,d9]at h;cases h
 ·rw[decide_eq_false e,eD]at h;by_cases f:rto T C col i=rto T C col r
  ·rw[decide_eq_true f,d9]at h;exact Or.inr ⟨f.symm,Nat.not_lt.1 (of_decide_eq_false h)⟩
  ·exact Or.inl (Rat.lt_of_le_of_ne (Rat.not_lt.1 e) (fun h=>f h.symm))
theorem yO{T:Nat→Nat→Rat}{b:Nat→Nat}{C col:Nat}:∀t i s r,(∀q,s=some q→q<i∧0<T q col∧∀k,k<i→0<T k col→asg T b C col q k)→(s=none→∀k,k<i→¬0<T k col)→zS T b C col t i s=some r→r<i+t∧0<T r col∧∀k,k<i+t→0<T k col→asg T b C col r k
 |0,i,s,r,x,_,h=>x r h
 |t+1,i,s,r,x,I,h=>by
  unfold zS at h;rw[show i+(t+1)=i+1+t by omega];by_cases e:0<T i col
  ·rw[decide_eq_false (fun hle=>absurd (aJw.2 e) (by omega)),eD]at h;cases s with
   |none=>
    refine yO t (i+1) (some i) r (fun q f=>?_) (fun f=>by cases f) h;cases f;refine⟨by omega,e,fun k y hp=>?_⟩;by_cases ek:k=i
    ·rw[ek];exact Or.inr ⟨rfl,Nat.le_refl _⟩
    ·exact absurd hp (I rfl k (by omega))
   |some q=>
    obtain⟨K,G,z⟩:=x q rfl;have F:(bif bet T b C col i q then zS T b C col t (i+1) (some i) else zS T b C col t (i+1) (some q))=some r:=h;cases hb:bet T b C col i q with
    |true=>
     rw[hb,d9]at F;refine yO t (i+1) (some i) r (fun p hp=>?_) (fun hp=>by cases hp) F;cases hp;refine⟨by omega,e,fun k y hkp=>?_⟩;by_cases ek:k=i
     ·rw[ek];exact Or.inr ⟨rfl,Nat.le_refl _⟩
     ·have J:=z k (by omega) hkp;rcases aJl hb with u|⟨u,L⟩
      ·rcases J with j|⟨j,_⟩
       ·exact Or.inl (Std.lt_trans u j)
       ·exact Or.inl (by rw[←j];exact u)
      ·rcases J with j|⟨j,O⟩
       ·exact Or.inl (by rw[u];exact j)
       ·exact Or.inr ⟨by rw[u,j],by omega⟩
    |false=>
     rw[hb,eD]at F;refine yO t (i+1) (some q) r (fun p hp=>?_) (fun hp=>by cases hp) F;cases hp;refine⟨by omega,G,fun k y hkp=>?_⟩;by_cases ek:k=i
     ·rw[ek];exact aHu hb
     ·exact z k (by omega) hkp
  ·rw[decide_eq_true (aDN e),d9]at h;refine yO t (i+1) s r (fun q f=>?_) (fun f k y=>?_) h
   ·obtain⟨K,G,z⟩:=x q f;refine⟨by omega,G,fun k y hkp=>?_⟩;by_cases ek:k=i
    ·rw[ek]at hkp;exact absurd hkp e
    ·exact z k (by omega) hkp
   ·by_cases ek:k=i
    ·rw[ek];exact e
    ·exact I f k (by omega)
theorem yB{T:Nat→Nat→Rat}{b:Nat→Nat}{C col:Nat}:∀t i s,zS T b C col t i s=none→s=none∧∀k,i≤k→k<i+t→¬0<T k col
 |0,i,s,h=>⟨h,fun k j u=>by omega⟩
 |t+1,i,s,h=>by
  unfold zS at h;by_cases e:0<T i col
  ·rw[decide_eq_false (fun hle=>absurd (aJw.2 e) (by omega)),eD]at h;cases s with
   |none=>exact absurd (yB t (i+1) _ h).1 (by simp)
   |some q=>
    have f:(bif bet T b C col i q then zS T b C col t (i+1) (some i) else zS T b C col t (i+1) (some q))=none:=h;cases hb:bet T b C col i q with
    |true=>rw[hb,d9]at f;exact absurd (yB t (i+1) _ f).1 (by simp)
    |false=>rw[hb,eD]at f;exact absurd (yB t (i+1) _ f).1 (by simp)
  ·rw[decide_eq_true (aDN e),d9]at h;obtain⟨j,u⟩:=yB t (i+1) s h;refine⟨j,fun k x y=>?_⟩;by_cases ek:k=i
   ·rw[ek];exact e
   ·exact u k (by omega) (by omega)
structure zX where
 t:Nat→Nat→Rat
 g:Nat→Rat
 b:Nat→Nat
def snx(s:zX)(r col:Nat):zX:=⟨pvt s.t r col,gpv s.g s.t r col,qX s.b r col⟩
def zH(n C en:Nat):Nat→zX→Option (Option Nat×zX)
 |0,_=>none
 |f+1,s=>match xP s.g en 0 with
  |none=>some (none,s)
  |some col=>match zS s.t s.b C col n 0 none with
   |none=>some (some col,s)
   |some r=>zH n C en f (snx s r col)
def SXs(n C:Nat)(Z:Nat→Nat→Rat)(c:Nat→Rat)(s:zX):Prop:=SX n C Z c s.t s.g s.b∧∀i,i<n→0≤s.t i C
theorem aFU{n C:Nat}{T:Nat→Nat→Rat}{r col:Nat}(j:∀i,i<n→0≤T i C)(hr:r<n)(hp:0<T r col)(hm:∀i,i<n→0<T i col→rto T C col r≤rto T C col i):∀i,i<n→0≤pvt T r col i C:=fun i k=>by
 have q:0≤T r C/T r col:=by rw[Rat.div_def];exact Rat.mul_nonneg (j r hr) (Rat.le_of_lt (Rat.inv_pos.2 hp))
 unfold pvt;by_cases e:i=r
 ·rw[if_pos e];exact q
 ·rw[if_neg e];by_cases f:0<T i col
  ·have h:=hm i k f;unfold rto at h;have s:=Rat.mul_le_mul_of_nonneg_left h (Rat.le_of_lt f);have t:T i col*(T i C/T i col)=T i C:=by have:=aBH f;grind
   rw[t]at s;grind
  ·have h:=j i k;have:=Rat.mul_nonneg (show 0≤-(T i col) by grind) q;grind
theorem aLS{T:Nat→Nat→Rat}{b:Nat→Nat}{C col r k:Nat}(h:asg T b C col r k):rto T C col r≤rto T C col k:=by
 rcases h with h|⟨h,_⟩
 ·exact Rat.le_of_lt h
 ·rw[h];exact Rat.le_refl
theorem SXs.next{n C:Nat}{Z:Nat→Nat→Rat}{c:Nat→Rat}{s:zX}(h:SXs n C Z c s){r col:Nat}(hc:col<C)(hs:zS s.t s.b C col n 0 none=some r):SXs n C Z c (snx s r col)∧r<n∧0<s.t r col∧∀k,k<n→0<s.t k col→asg s.t s.b C col r k:=by
 obtain⟨e,f,j⟩:=yO n 0 none r (fun q u=>by cases u) (fun _ k y=>by omega) hs;rw[Nat.zero_add]at e j;exact⟨⟨h.1.pivot e hc (aBH f),aFU h.2 e f fun i x hp=>aLS (j i x hp)⟩,e,f,j⟩
def rst(n C en:Nat)(s:zX):Nat→zX
 |0=>s
 |k+1=>snx (rst n C en s k) ((zS (rst n C en s k).t (rst n C en s k).b C ((xP (rst n C en s k).g en 0).getD 0) n 0 none).getD 0) ((xP (rst n C en s k).g en 0).getD 0)
def sgo(n C en:Nat)(s:zX):Prop:=∃col r,xP s.g en 0=some col∧zS s.t s.b C col n 0 none=some r
theorem aDf{n C en:Nat}{s:zX}{col r:Nat}(e:xP s.g en 0=some col)(f:zS s.t s.b C col n 0 none=some r):∀k,rst n C en (snx s r col) k=rst n C en s (k+1)
 |0=>by
  show snx s r col=snx s ((zS s.t s.b C ((xP s.g en 0).getD 0) n 0 none).getD 0) ((xP s.g en 0).getD 0);rw[e];show snx s r col=snx s ((zS s.t s.b C col n 0 none).getD 0) col;rw[f];rfl
 |k+1=>by
  show snx _ _ _=rst n C en s (k+1+1);rw[aDf e f k];rfl
theorem aDe{n C en:Nat}:∀f s,zH n C en f s=none→∀k,k<f→sgo n C en (rst n C en s k)
 |0,s,_,k,q=>by omega
 |f+1,s,h,k,q=>by
  cases e:xP s.g en 0 with
  |none=>simp only[zH,e]at h;cases h
  |some col=>
   cases j:zS s.t s.b C col n 0 none with
   |none=>simp only[zH,e,j]at h;cases h
   |some r=>
    simp only[zH,e,j]at h;cases k with
    |zero=>exact⟨col,r,e,j⟩
    |succ k=>
     rw[←aDf e j];exact aDe f _ h k (by omega)
theorem aKd{n C en N:Nat}{Z:Nat→Nat→Rat}{c:Nat→Rat}{s:zX}(h:SXs n C Z c s)(hen:en≤C)(u:∀k,k<N→sgo n C en (rst n C en s k)):z9 n C Z c (fun k=>(rst n C en s k).t) (fun k=>(rst n C en s k).g) (fun k=>(rst n C en s k).b) (fun k=>(zS (rst n C en s k).t (rst n C en s k).b C ((xP (rst n C en s k).g en 0).getD 0) n 0 none).getD 0) (fun k=>(xP (rst n C en s k).g en 0).getD 0) N:=by
 have all:∀k,k≤N→SXs n C Z c (rst n C en s k):=fun k=>by
  induction k with
  |zero=>intro _;exact h
  |succ k ih=>
   intro e;obtain⟨col,r,f,q⟩:=u k (by omega);obtain⟨_,x,_,_⟩:=yR _ _ _ f;have:=((ih (by omega)).next (col:=col) (by omega) q).1;show SXs n C Z c (snx _ _ _);rw[f];show SXs n C Z c (snx _ ((zS _ _ C col n 0 none).getD 0) col);rw[q];exact this
 have st:∀k,k<N→∃col r,(xP (rst n C en s k).g en 0).getD 0=col∧(zS (rst n C en s k).t (rst n C en s k).b C ((xP (rst n C en s k).g en 0).getD 0) n 0 none).getD 0=r∧col<C∧(rst n C en s k).g col<0∧(∀j,j<col→0≤(rst n C en s k).g j)∧r<n∧0<(rst n C en s k).t r col∧∀i,i<n→0<(rst n C en s k).t i col→asg (rst n C en s k).t (rst n C en s k).b C col r i:=fun k e=>by
  obtain⟨col,r,f,q⟩:=u k e;obtain⟨_,x,y,z⟩:=yR _ _ _ f;obtain⟨_,F,G,I⟩:=(all k (by omega)).next (col:=col) (by omega) q;exact⟨col,r,by rw[f];rfl,by rw[f];show(zS _ _ C col n 0 none).getD 0=r;rw[q];rfl,by omega,y,fun j J=>z j (Nat.zero_le _) J,F,G,I⟩
 refine⟨fun k e=>(all k e).1,fun k e=>(all k e).2,fun k e=>?_,fun k e=>?_,fun k e=>?_,fun k e=>?_,fun k e=>?_,fun k e=>?_,fun k e=>rfl,fun k e=>rfl,fun k e=>rfl⟩
 all_goals obtain⟨col,r,f,q,K,L,O,U,V,h8⟩:=st k e
 ·show(zS _ _ C _ n 0 none).getD 0<n;rw[q];exact U
 ·show(xP _ en 0).getD 0<C;rw[f];exact K
 ·show(rst n C en s k).g ((xP _ en 0).getD 0)<0;rw[f];exact L
 ·show∀j,j<(xP _ en 0).getD 0→_;rw[f];exact O
 ·show 0<(rst n C en s k).t ((zS _ _ C _ n 0 none).getD 0) ((xP _ en 0).getD 0);rw[q,f];exact V
 ·show∀i,i<n→0<(rst n C en s k).t i ((xP _ en 0).getD 0)→_;rw[q,f];exact h8
theorem aDk{n C en f:Nat}{Z:Nat→Nat→Rat}{c:Nat→Rat}{s:zX}(h:SXs n C Z c s)(hen:en≤C)(j:C^n≤f):∃o e,zH n C en f s=some (o,e):=by
 cases hs:zH n C en f s with
 |none=>
  have:=(aKd h hen (aDe f s hs)).short;omega
 |some x=>exact⟨x.1,x.2,rfl⟩
theorem aBV{n C en:Nat}{Z:Nat→Nat→Rat}{c:Nat→Rat}{P:zX→Prop}(hen:en≤C)(u:∀s r col,SXs n C Z c s→P s→r<n→col<en→0<s.t r col→P (snx s r col)):∀f s o e,SXs n C Z c s→P s→zH n C en f s=some (o,e)→SXs n C Z c e∧P e∧(o=none→∀k,k<en→0≤e.g k)∧∀col,o=some col→col<en∧e.g col<0∧∀i,i<n→e.t i col≤0
 |0,s,o,e,_,_,hs=>by cases hs
 |f+1,s,o,e,h,hp,hs=>by
  cases j:xP s.g en 0 with
  |none=>
   simp only[zH,j]at hs;cases hs;exact⟨h,hp,fun _ k G=>aET en 0 j k (Nat.zero_le _) (by omega),fun col hc=>by cases hc⟩
  |some col=>
   obtain⟨_,I,x,_⟩:=yR _ _ _ j;cases q:zS s.t s.b C col n 0 none with
   |none=>
    simp only[zH,j,q]at hs;cases hs;refine⟨h,hp,fun hc=>(by cases hc),fun col' hc=>?_⟩;cases hc;exact⟨by omega,x,fun i J=>Rat.not_lt.1 ((yB n 0 none q).2 i (Nat.zero_le _) (by omega))⟩
   |some r=>
    simp only[zH,j,q]at hs;obtain⟨y,z,F,_⟩:=h.next (col:=col) (by omega) q;exact aBV hen u f _ o e y (u s r col h hp z (by omega) F) hs
theorem SX.bd{n C M B:Nat}{Z T:Nat→Nat→Rat}{c g:Nat→Rat}{b:Nat→Nat}{D:Rat}(h:SX n C Z c T g b)(x:D≠0)(t:uA M D)(y:∀i k,i<n→k<C+1→uA M (Z i k*D))(hc:∀k,k<C+1→uA M (c k*D))(G:n≤63)(hM:(64*M)^(n+1)<2^B):Bdx n (C+1) B T∧∀k,k<C+1→Bd B (g k):=by
 let Z':Nat→Nat→Rat:=fun i k=>if i<n then(if k<C+1 then Z i k else 0) else(if k<C+1 then c k else 1)
 let T':Nat→Nat→Rat:=fun i k=>if i<n then(if k<C+1 then T i k else 0) else(if k<C+1 then g k else 1)
 let b':Nat→Nat:=fun i=>if i<n then b i else C+1
 obtain⟨E,z⟩:=h.ti.ex;obtain⟨l,F⟩:=h.gc;have ti:TI (n+1) (C+2) Z' T' b':=by
  refine⟨⟨fun i j=>if i<n then(if j<n then E i j else 0) else(if j<n then -(l j) else 1),fun i k s q=>?_⟩,fun j f=>?_,fun i j s f=>?_⟩
  ·rw[t7];show T' i k=sm _ n+Z' n k*_;by_cases e:i<n
   ·have u:sm (fun j=>Z' j k*(if i<n then(if j<n then E i j else 0) else(if j<n then -(l j) else 1))) n=sm (fun j=>(if k<C+1 then Z j k else 0)*E i j) n:=bF fun j f=>by
     show(if j<n then _ else _)*_=_;rw[if_pos f,if_pos e,if_pos f]
    rw[u,if_pos e,if_neg (Nat.lt_irrefl n),Rat.mul_zero,Rat.add_zero];show(if i<n then _ else _)=_;rw[if_pos e];by_cases ek:k<C+1
    ·rw[if_pos ek,z i k e ek,t7];exact bF fun j _=>by rw[if_pos ek]
    ·rw[if_neg ek];exact(lQ fun j _=>by rw[if_neg ek,Rat.zero_mul]).symm
   ·have u:sm (fun j=>Z' j k*(if i<n then(if j<n then E i j else 0) else(if j<n then -(l j) else 1))) n=sm (fun j=>-((if k<C+1 then l j*Z j k else 0))) n:=bF fun j f=>by
     show(if j<n then _ else _)*_=_;rw[if_pos f,if_neg e,if_pos f];split<;>grind
    rw[u,if_neg e,if_neg (Nat.lt_irrefl n),sM,Rat.mul_one];show(if i<n then _ else _)=_+(if n<n then _ else _);rw[if_neg e,if_neg (Nat.lt_irrefl n)];by_cases ek:k<C+1
    ·rw[if_pos ek,if_pos ek,F k ek];have:sm (fun j=>if k<C+1 then l j*Z j k else 0) n=sm (fun j=>l j*Z j k) n:=bF fun j _=>if_pos ek
     rw[this];grind
    ·rw[if_neg ek,if_neg ek,lQ fun j _=>if_neg ek];grind
  ·show(if j<n then b j else C+1)<C+2;split
   ·rename_i hjn;have:=h.lt j hjn;omega
   ·omega
  ·show(if i<n then(if b' j<C+1 then T i (b' j) else 0) else(if b' j<C+1 then g (b' j) else 1))=_;by_cases ei:i<n<;>by_cases ej:j<n
   ·have e:b' j=b j:=if_pos ej;have:=h.lt j ej;rw[if_pos ei,e,if_pos (by omega)];exact h.ti.un i j ei ej
   ·have e:b' j=C+1:=if_neg ej;rw[if_pos ei,e,if_neg (by omega),if_neg (by omega)]
   ·have e:b' j=b j:=if_pos ej;have:=h.lt j ej;rw[if_neg ei,e,if_pos (by omega),h.gb j ej,if_neg (by omega)]
   ·have e:b' j=C+1:=if_neg ej;rw[if_neg ei,e,if_neg (by omega),if_pos (by omega)]
 have key:=ti.bd (D:=D) (M:=M) (k:=B) x (fun i k s q=>by
  show uA M ((if i<n then(if k<C+1 then Z i k else 0) else(if k<C+1 then c k else 1))*D);have z0:uA M (0*D):=by rw[Rat.zero_mul];exact uA.zero.mono (Nat.zero_le _)
  by_cases ei:i<n<;>by_cases ek:k<C+1
  ·rw[if_pos ei,if_pos ek];exact y i k ei ek
  ·rw[if_pos ei,if_neg ek];exact z0
  ·rw[if_neg ei,if_pos ek];exact hc k ek
  ·rw[if_neg ei,if_neg ek,Rat.one_mul];exact t) (by omega) hM
 constructor
 ·intro i k s q;have:=key i k (by omega) (by omega);have e:T' i k=T i k:=by show(if i<n then(if k<C+1 then T i k else 0) else _)=_;rw[if_pos s,if_pos q]
  rw[e]at this;exact this
 ·intro k q;have:=key n k (by omega) (by omega);have e:T' n k=g k:=by show(if n<n then _ else(if k<C+1 then g k else 1))=_;rw[if_neg (Nat.lt_irrefl n),if_pos q]
  rw[e]at this;exact this
def prc(c:Nat→Rat)(T:Nat→Nat→Rat)(b:Nat→Nat):Nat→Nat→Rat
 |0=>c
 |i+1=>fun k=>prc c T b i k-prc c T b i (b i)*T i k
theorem aGT{n w:Nat}{Z T:Nat→Nat→Rat}{c:Nat→Rat}{b:Nat→Nat}(h:TI n w Z T b):∀m,m≤n→∀i,i<n→prc c T b m (b i)=if i<m then 0 else c (b i)
 |0,_,i,f=>by rw[if_neg (by omega)];rfl
 |m+1,hm,i,f=>by
  show prc c T b m (b i)-prc c T b m (b m)*T m (b i)=_;rw[aGT h m (by omega) i f,aGT h m (by omega) m (by omega),h.un m i (by omega) f,if_neg (Nat.lt_irrefl m)];by_cases e:m=i
  ·rw[if_pos e,e,if_neg (Nat.lt_irrefl i),if_pos (by omega)];grind
  ·rw[if_neg e,Rat.mul_zero];by_cases j:i<m
   ·rw[if_pos j,if_pos (by omega)];grind
   ·rw[if_neg j,if_neg (by omega)];grind
theorem aIQ{n w:Nat}{Z T:Nat→Nat→Rat}{c:Nat→Rat}{b:Nat→Nat}(h:TI n w Z T b):∀m,m≤n→∃l:Nat→Rat,∀k,k<w→prc c T b m k=c k-sm (fun j=>l j*Z j k) n
 |0,_=>⟨fun _=>0,fun k _=>by rw[lQ fun j _=>Rat.zero_mul _];show c k=_;grind⟩
 |m+1,hm=>by
  obtain⟨l,f⟩:=aIQ h (c:=c) m (by omega);obtain⟨E,q⟩:=h.row (show m<n by omega);refine⟨fun j=>l j+prc c T b m (b m)*E j,fun k e=>?_⟩;show prc c T b m k-prc c T b m (b m)*T m k=_;have s:sm (fun j=>(l j+prc c T b m (b m)*E j)*Z j k) n=sm (fun j=>l j*Z j k) n+prc c T b m (b m)*sm (fun j=>E j*Z j k) n:=by
   rw[←o8,←aAk];exact bF fun j _=>by grind
  rw[s,f k e,q k e];grind
theorem aJv{n C:Nat}{Z T:Nat→Nat→Rat}{c:Nat→Rat}{b:Nat→Nat}(h:TI n (C+1) Z T b)(hlt:∀i,i<n→b i<C)(ke:KE n (C+1) Z T):SX n C Z c T (prc c T b n) b:=
 ⟨h,hlt,ke,fun i e=>by rw[aGT h n (Nat.le_refl _) i e,if_pos e],aIQ h n (Nat.le_refl _)⟩
theorem aHF{n w B0 B:Nat}{T:Nat→Nat→Rat}{c:Nat→Rat}{b:Nat→Nat}(hb:∀i,i<n→b i<w)(hc:∀k,k<w→Bd B0 (c k))(h:Bdx n w B T)(j:∀i,i<n→∀m,m≤i→prc c T b m (b i)=c (b i)):∀m,m≤n→∀k,k<w→Bd (B0+m*(B0+B+1)) (prc c T b m k)
 |0,_,k,f=>(hc k f).mono (by omega)
 |m+1,hm,k,f=>by
  show Bd _ (prc c T b m k-prc c T b m (b m)*T m k);rw[j m (by omega) m (Nat.le_refl _)];have e:(m+1)*(B0+B+1)=m*(B0+B+1)+(B0+B+1):=Nat.succ_mul _ _;exact((aHF hb hc h j m (by omega) k f).sub ((hc _ (hb m (by omega))).mul (h m k (by omega) f))).mono (by omega)
/-- The values of the basic variables in a column. -/
def bX(T:Nat→Nat→Rat)(b:Nat→Nat)(n k m:Nat):Rat:=sm (fun i=>if b i=m then T i k else 0) n
theorem aIf{f:Nat→Rat}:∀{n:Nat},(∀i,i<n→0≤f i)→sm f n=0→∀i,i<n→f i=0
 |0,_,_,i,j=>by omega
 |n+1,h,e,i,j=>by
  have q:=s8 (f:=f) (n:=n) fun i j=>h i (by omega)
  have s:=h n (by omega);have t:sm f n+f n=0:=e;by_cases k:i=n
  ·rw[k];grind
  ·exact aIf (f:=f) (n:=n) (fun i j=>h i (by omega)) (by grind) i (by omega)
def zE(β:Nat→Rat)(i:Nat)(x:Rat):Rat:=if β i<0 then -x else x
def sgB(β:Nat→Rat)(i:Nat):Rat:=if β i<0 then -1 else 1
theorem zD{β:Nat→Rat}{i:Nat}{x:Rat}:zE β i x=sgB β i*x:=by unfold zE sgB;split<;>grind
theorem aIc{β:Nat→Rat}{i:Nat}:sgB β i≠0:=by unfold sgB;split<;>decide
def kE(v m:Nat)(A:Nat→Nat→Rat)(β:Nat→Rat)(i k:Nat):Rat:=
 if k<v then zE β i (A i k) else if k<2*v then zE β i (-(A i (k-v))) else if k<2*v+m then(if k=2*v+i then zE β i 1 else 0) else if k<2*v+2*m then(if k=2*v+m+i∧β i<0 then 1 else 0) else zE β i (β i)
def vS(v m:Nat)(β:Nat→Rat)(i:Nat):Nat:=if β i<0 then 2*v+m+i else 2*v+i
section
variable {v m:Nat} {A:Nat→Nat→Rat} {β γ:Nat→Rat}
theorem aFJ{i k:Nat}(h:k<v):kE v m A β i k=sgB β i*A i k:=by unfold kE;rw[if_pos h,zD]
theorem aIr{i k:Nat}(h:k<v):kE v m A β i (v+k)=-(sgB β i*A i k):=by
 unfold kE;rw[if_neg (by omega),if_pos (by omega),zD,show v+k-v=k by omega];grind
theorem aCs{i k:Nat}(h:k<m):kE v m A β i (v+v+k)=if k=i then sgB β i else 0:=by
 unfold kE;rw[if_neg (by omega),if_neg (by omega),if_pos (by omega)];by_cases e:k=i
 ·rw[if_pos (by omega),if_pos e,zD,Rat.mul_one]
 ·rw[if_neg (by omega),if_neg e]
theorem aDV{i k:Nat}(h:k<m):kE v m A β i (v+v+m+k)=if k=i∧β i<0 then 1 else 0:=by
 unfold kE;rw[if_neg (by omega),if_neg (by omega),if_neg (by omega),if_pos (by omega)];by_cases e:k=i
 ·by_cases f:β i<0
  ·rw[if_pos ⟨by omega,f⟩,if_pos ⟨e,f⟩]
  ·rw[if_neg (fun h=>f h.2),if_neg (fun h=>f h.2)]
 ·rw[if_neg (fun h=>e (by omega)),if_neg (fun h=>e h.1)]
theorem aD5{i:Nat}:kE v m A β i (2*v+2*m)=sgB β i*β i:=by
 unfold kE;rw[if_neg (by omega),if_neg (by omega),if_neg (by omega),if_neg (by omega),zD]
theorem aBF{i:Nat}(h:i<m):vS v m β i<2*v+2*m:=by unfold vS;split<;>omega
theorem TI.self{n w:Nat}{Z:Nat→Nat→Rat}{b:Nat→Nat}(hb:∀j,j<n→b j<w)(hu:∀i j,i<n→j<n→Z i (b j)=if i=j then 1 else 0):TI n w Z Z b:=
 ⟨⟨fun i j=>if i=j then 1 else 0,fun i k f h=>by
  rw[t7,u6 f fun j q hne=>by rw[if_neg fun e=>hne e.symm,Rat.mul_zero],if_pos rfl,Rat.mul_one]⟩,hb,hu⟩
theorem aGC:TI m (2*v+2*m+1) (kE v m A β) (kE v m A β) (vS v m β):=by
 refine TI.self (fun j k=>by have:=aBF (v:=v) (β:=β) k;omega) fun i j q k=>?_
 unfold vS;by_cases e:β j<0
 ·rw[if_pos e,show 2*v+m+j=v+v+m+j by omega,aDV k];by_cases f:i=j
  ·rw[if_pos ⟨f.symm,by rw[f];exact e⟩,if_pos f]
  ·rw[if_neg (fun h=>f h.1.symm),if_neg f]
 ·rw[if_neg e,show 2*v+j=v+v+j by omega,aCs k];by_cases f:i=j
  ·rw[if_pos f.symm,if_pos f,f];unfold sgB;rw[if_neg e]
  ·rw[if_neg (fun h=>f h.symm),if_neg f]
theorem aJL{i:Nat}:0≤kE v m A β i (2*v+2*m):=by
 rw[aD5];unfold sgB;split<;>grind
theorem aFb{x:Nat→Rat}{i:Nat}(j:i<m):sm (fun k=>kE v m A β i k*x k) (2*v+2*m+1)=sgB β i*(sm (fun k=>A i k*(x k-x (v+k))) v+x (2*v+i)+β i*x (2*v+2*m))+if β i<0 then x (2*v+m+i) else 0:=by
 have q:2*v+2*m+1=v+v+m+m+1:=by omega
 have s:sm (fun k=>kE v m A β i k*x k) v=sgB β i*sm (fun k=>A i k*x k) v:=by
  rw[←o8];exact bF fun k f=>by rw[aFJ f];grind
 have t:sm (fun k=>kE v m A β i (v+k)*x (v+k)) v=sgB β i*sm (fun k=>-(A i k*x (v+k))) v:=by
  rw[←o8];exact bF fun k f=>by rw[aIr f];grind
 have u:sm (fun k=>kE v m A β i (v+v+k)*x (v+v+k)) m=sgB β i*x (2*v+i):=by
  rw[u6 j fun k f hne=>by rw[aCs f,if_neg hne,Rat.zero_mul],aCs j,if_pos rfl,show v+v+i=2*v+i by omega]
 have y:sm (fun k=>kE v m A β i (v+v+m+k)*x (v+v+m+k)) m=if β i<0 then x (2*v+m+i) else 0:=by
  rw[u6 j fun k f hne=>by rw[aDV f,if_neg (fun h=>hne h.1),Rat.zero_mul],aDV j,show v+v+m+i=2*v+m+i by omega];by_cases e:β i<0
  ·rw[if_pos ⟨rfl,e⟩,if_pos e,Rat.one_mul]
  ·rw[if_neg (fun h=>e h.2),if_neg e,Rat.zero_mul]
 have z:sm (fun k=>A i k*(x k-x (v+k))) v=sm (fun k=>A i k*x k) v+sm (fun k=>-(A i k*x (v+k))) v:=by
  rw[←aAk];exact bF fun k _=>by grind
 rw[q,u9,u9,u9,u9,s,t,u,y,z];show _+(0+kE v m A β i (v+v+m+m+0)*x (v+v+m+m+0))=_;rw[show v+v+m+m+0=2*v+2*m by omega,aD5];grind
def wB(v:Nat)(g:Nat→Rat)(i:Nat):Rat:=g (2*v+i)
theorem aGM{c T' g:Nat→Rat}{T:Nat→Nat→Rat}{b:Nat→Nat}(h:SX m (2*v+2*m) (kE v m A β) c T g b)(hc:∀i,i<m→c (2*v+i)=0)(u:c (2*v+2*m)=0):
  (∀k,k<v→sm (fun i=>wB v g i*A i k) m=g k-c k∧-(sm (fun i=>wB v g i*A i k) m)=g (v+k)-c (v+k))∧sm (fun i=>wB v g i*β i) m=g (2*v+2*m):=by
 obtain⟨l,q⟩:=h.gc;have t:∀i,i<m→wB v g i=-(l i*sgB β i):=fun i f=>by
  unfold wB;rw[q _ (by omega),hc i f,u6 f fun j F hne=>by rw[show 2*v+i=v+v+i by omega,aCs f,if_neg (fun e=>hne e.symm),Rat.mul_zero],show 2*v+i=v+v+i by omega,aCs f,if_pos rfl];grind
 have x:∀k,k<v→sm (fun i=>wB v g i*A i k) m=-(sm (fun j=>l j*kE v m A β j k) m):=fun k s=>by
  rw[←sM];exact bF fun i f=>by rw[t i f,aFJ s];grind
 refine⟨fun k s=>⟨?_,?_⟩,?_⟩
 ·rw[x k s,q k (by omega)];grind
 ·have y:-(sm (fun i=>wB v g i*A i k) m)=-(sm (fun j=>l j*kE v m A β j (v+k)) m):=by
   rw[←sM,←sM];exact bF fun i f=>by rw[t i f,aIr s];grind
  rw[y,q (v+k) (by omega)];grind
 ·have z:sm (fun i=>wB v g i*β i) m=-(sm (fun j=>l j*kE v m A β j (2*v+2*m)) m):=by
   rw[←sM];exact bF fun i f=>by rw[t i f,aD5];grind
  rw[z,q _ (by omega),u];grind
def aAl(T:Nat→Nat→Rat)(b:Nat→Nat)(n e j:Nat):Rat:=sm (fun i=>if b i=j then T i e else 0) n
theorem aJD{T:Nat→Nat→Rat}{b:Nat→Nat}{n e j:Nat}(h:∀i,i<n→0≤T i e):0≤aAl T b n e j:=
 s8 fun i f=>by split;exact h i f;exact Rat.le_refl
theorem vL{T:Nat→Nat→Rat}{b:Nat→Nat}{n e j:Nat}(h:j≠e):oX T b n e j=-(aAl T b n e j):=by
 unfold oX aAl;rw[if_neg h];grind
theorem aBe{T:Nat→Nat→Rat}{b:Nat→Nat}{n e:Nat}(h:∀i,i<n→b i≠e):oX T b n e e=1:=by
 unfold oX;rw[if_pos rfl,lQ fun i f=>if_neg (h i f)];grind
def spt(T:Nat→Nat→Rat)(b:Nat→Nat)(n v e k:Nat):Rat:=aAl T b n e k-aAl T b n e (v+k)
def Art(v m:Nat)(s:zX):Prop:=∀i,i<m→2*v+m≤s.b i→s.t i (2*v+2*m)=0∧∀k,k<2*v+m→s.t i k=0
theorem aKj{s:zX}(f:Art v m s){i:Nat}:aAl s.t s.b m (2*v+2*m) (2*v+m+i)=0:=
 lQ fun j h=>by
  split
  ·rename_i e;exact(f j h (by omega)).1
  ·rfl
theorem aG2{c:Nat→Rat}{s:zX}(h:SXs m (2*v+2*m) (kE v m A β) c s)(u:Art v m s){i:Nat}(f:i<m):sm (fun k=>A i k*spt s.t s.b m v (2*v+2*m) k) v≤β i:=by
 have e:=h.1.dZ (k:=2*v+2*m) (by omega) f;have hb:∀i,i<m→s.b i≠2*v+2*m:=fun i f=>by have:=h.1.lt i f;omega
 rw[aFb f,aBe hb,vL (by omega),vL (by omega),aKj u]at e;have x:sm (fun k=>A i k*(oX s.t s.b m (2*v+2*m) k-oX s.t s.b m (2*v+2*m) (v+k))) v=-(sm (fun k=>A i k*spt s.t s.b m v (2*v+2*m) k) v):=by
  rw[←sM];refine bF fun k z=>?_
  rw[vL (by omega),vL (by omega)];unfold spt;grind
 have F:=aJD (b:=s.b) (j:=2*v+i) h.2;rw[x]at e;have y:sgB β i*(-(sm (fun k=>A i k*spt s.t s.b m v (2*v+2*m) k) v)+ -(aAl s.t s.b m (2*v+2*m) (2*v+i))+β i*1)=0:=by
  split at e<;>grind
 rcases Rat.mul_eq_zero.1 y with q|q
 ·exact absurd q aIc
 ·grind
def cs1(v m:Nat)(k:Nat):Rat:=if 2*v+m≤k∧k<2*v+2*m then 1 else 0
def cs2(v:Nat)(γ:Nat→Rat)(k:Nat):Rat:=if k<v then -(γ k) else if k<2*v then γ (k-v) else 0
def st0(v m:Nat)(A:Nat→Nat→Rat)(β:Nat→Rat):zX:=⟨kE v m A β,prc (cs1 v m) (kE v m A β) (vS v m β) m,vS v m β⟩
theorem aIi{k:Nat}:0≤cs1 v m k:=by unfold cs1;split<;>decide
theorem aIa:cs1 v m (2*v+2*m)=0:=by unfold cs1;rw[if_neg (by omega)]
theorem aIO:SXs m (2*v+2*m) (kE v m A β) (cs1 v m) (st0 v m A β):=
 ⟨aJv aGC (fun i e=>aBF e) (fun x f=>f),fun i _=>aJL⟩
theorem aI4{s:zX}(h:SXs m (2*v+2*m) (kE v m A β) (cs1 v m) s){col:Nat}(hc:col<2*v+2*m)(u:s.g col<0)(k:∀i,i<m→s.t i col≤0):False:=by
 have e:=h.1.gdot (x:=oX s.t s.b m col) fun i f=>h.1.dZ (by omega) f
 rw[tJ (by omega) h.1.ti.lt,lQ fun i f=>by rw[h.1.gb i f,Rat.zero_mul]]at e;have:0≤sm (fun j=>cs1 v m j*oX s.t s.b m col j) (2*v+2*m+1):=s8 fun j y=>by
  refine Rat.mul_nonneg aIi ?_;unfold oX;have q:sm (fun i=>if s.b i=j then s.t i col else 0) m=-(sm (fun i=>if s.b i=j then -(s.t i col) else 0) m):=by
   rw[←sM];exact bF fun i _=>by split<;>grind
  have z:0≤sm (fun i=>if s.b i=j then -(s.t i col) else 0) m:=s8 fun i f=>by
   split
   ·have:=k i f;grind
   ·exact Rat.le_refl
  rw[q];split<;>grind
 grind
structure aJE (v m:Nat) (A:Nat→Nat→Rat) (β Y:Nat→Rat):Prop where
 y0:∀i,i<m→0≤Y i
 eq:∀k,k<v→sm (fun i=>Y i*A i k) m=0
 lt:sm (fun i=>Y i*β i) m<0
structure aH4 (v m:Nat) (A:Nat→Nat→Rat) (β γ X Y:Nat→Rat):Prop where
 fe:∀i,i<m→sm (fun k=>A i k*X k) v≤β i
 y0:∀i,i<m→0≤Y i
 eq:∀k,k<v→sm (fun i=>Y i*A i k) m=γ k
 va:sm (fun i=>Y i*β i) m=sm (fun k=>γ k*X k) v
structure aJT (v m:Nat) (A:Nat→Nat→Rat) (β γ X Y:Nat→Rat):Prop where
 fe:∀i,i<m→sm (fun k=>A i k*X k) v≤β i
 ra:∀i,i<m→sm (fun k=>A i k*Y k) v≤0
 up:0<sm (fun k=>γ k*Y k) v
theorem aKu{s:zX}(h:SXs m (2*v+2*m) (kE v m A β) (cs1 v m) s)(e:∀k,k<2*v+2*m→0≤s.g k)(j:s.g (2*v+2*m)<0):aJE v m A β (wB v s.g):=by
 have c0:∀k,k<2*v+m→cs1 v m k=0:=fun k f=>by unfold cs1;rw[if_neg (by omega)]
 obtain⟨d1,d2⟩:=aGM (T':=s.g) h.1 (fun i q=>c0 _ (by omega)) aIa;refine⟨fun i q=>e _ (by omega),fun k f=>?_,by rw[d2];exact j⟩;obtain⟨t,u⟩:=d1 k f;have x:=e k (by omega);have y:=e (v+k) (by omega);rw[c0 k (by omega)]at t;rw[c0 (v+k) (by omega)]at u;grind
theorem aKh{s:zX}(h:SXs m (2*v+2*m) (kE v m A β) (cs1 v m) s)(q:¬s.g (2*v+2*m)<0):∀i,i<m→2*v+m≤s.b i→s.t i (2*v+2*m)=0:=by
 have e:=h.1.gdot (x:=oX s.t s.b m (2*v+2*m)) fun i j=>h.1.dZ (by omega) j
 rw[tJ (by omega) h.1.ti.lt,tJ (by omega) h.1.ti.lt,aIa,lQ (f:=fun i=>s.g (s.b i)*s.t i (2*v+2*m)) fun i j=>by rw[h.1.gb i j,Rat.zero_mul]]at e;have nn:∀i,i<m→0≤cs1 v m (s.b i)*s.t i (2*v+2*m):=fun i j=>Rat.mul_nonneg aIi (h.2 i j)
 have G:=s8 nn;have u:sm (fun i=>cs1 v m (s.b i)*s.t i (2*v+2*m)) m=0:=by
  have:=Rat.not_lt.1 q;grind
 intro i j hb;have y:=aIf nn u i j;have z:=h.1.lt i j;have F:cs1 v m (s.b i)=1:=by unfold cs1;rw[if_pos ⟨hb,z⟩]
 have k:cs1 v m (s.b i)*s.t i (2*v+2*m)=0:=y;rw[F,Rat.one_mul]at k;exact k
def fnz(f:Nat→Rat):Nat→Nat→Option Nat
 |0,_=>none
 |t+1,k=>bif((f k).num.sign != 0) then some k else fnz f t (k+1)
theorem aCz{f:Nat→Rat}:∀t k r,fnz f t k=some r→k≤r∧r<k+t∧f r≠0
 |0,k,r,h=>by cases h
 |t+1,k,r,h=>by
  unfold fnz at h;by_cases e:f k=0
  ·rw[nF (aBz.2 e),eD]at h;obtain⟨q,s,j⟩:=aCz t (k+1) r h;exact⟨by omega,by omega,j⟩
  ·rw[nT (fun h=>e (aBz.1 h)),d9]at h;cases h;exact⟨Nat.le_refl _,by omega,e⟩
theorem aEx{f:Nat→Rat}:∀t k,fnz f t k=none→∀j,k≤j→j<k+t→f j=0
 |0,k,_,j,q,s=>by omega
 |t+1,k,h,j,q,s=>by
  unfold fnz at h;by_cases e:f k=0
  ·rw[nF (aBz.2 e),eD]at h;by_cases ej:j=k
   ·rw[ej];exact e
   ·exact aEx t (k+1) h j (by omega) (by omega)
  ·rw[nT (fun h=>e (aBz.1 h)),d9]at h;cases h
def sdr(last:Nat):Nat→Nat→zX→zX
 |0,_,s=>s
 |t+1,i,s=>bif decide (s.b i<last) then sdr last t (i+1) s else match fnz (s.t i) last 0 with
  |none=>sdr last t (i+1) s
  |some k=>sdr last t (i+1) (snx s i k)
theorem aD6{c:Nat→Rat}:∀t i s,i+t=m→SXs m (2*v+2*m) (kE v m A β) c s→(∀j,j<m→2*v+m≤s.b j→s.t j (2*v+2*m)=0)→(∀j,j<i→2*v+m≤s.b j→∀k,k<2*v+m→s.t j k=0)→SXs m (2*v+2*m) (kE v m A β) c (sdr (2*v+m) t i s)∧Art v m (sdr (2*v+m) t i s)
 |0,i,s,G,h,u,x=>⟨h,fun j q hb=>⟨u j q hb,x j (by omega) hb⟩⟩
 |t+1,i,s,G,h,u,x=>by
  unfold sdr;by_cases e:s.b i<2*v+m
  ·rw[decide_eq_true e,d9];exact aD6 t (i+1) s (by omega) h u fun j q hb k y=>by
    by_cases ej:j=i
    ·rw[ej]at hb;omega
    ·exact x j (by omega) hb k y
  ·rw[decide_eq_false e,eD];cases F:fnz (s.t i) (2*v+m) 0 with
   |none=>
    exact aD6 t (i+1) s (by omega) h u fun j q hb k y=>by
     by_cases ej:j=i
     ·rw[ej];exact aEx _ 0 F k (Nat.zero_le _) (by omega)
     ·exact x j (by omega) hb k y
   |some col=>
    obtain⟨_,f2,f3⟩:=aCz _ 0 _ F;have him:i<m:=by omega
    have z:=u i him (by omega);have same:∀j,pvt s.t i col j (2*v+2*m)=s.t j (2*v+2*m):=fun j=>by
     unfold pvt;rw[z];by_cases ej:j=i
     ·rw[if_pos ej,ej,z];grind
     ·rw[if_neg ej];grind
    refine aD6 t (i+1) (snx s i col) (by omega) ⟨h.1.pivot him (by omega) f3,fun j q=>?_⟩ (fun j q hb=>?_) fun j q hb k y=>?_
    ·show 0≤pvt s.t i col j _;rw[same];exact h.2 j q
    ·show pvt s.t i col j _=0;rw[same];have f:2*v+m≤qX s.b i col j:=hb;by_cases ej:j=i
     ·rw[ej];exact z
     ·rw[fW ej]at f;exact u j q f
    ·have f:2*v+m≤qX s.b i col j:=hb;by_cases ej:j=i
     ·rw[ej,cW]at f;omega
     ·rw[fW ej]at f;have z2:=x j (by omega) f;show pvt s.t i col j k=0;unfold pvt;rw[if_neg ej,z2 k y,z2 col (by omega)];grind
def st2(v m:Nat)(γ:Nat→Rat)(s:zX):zX:=⟨s.t,prc (cs2 v γ) s.t s.b m,s.b⟩
theorem aMj{c:Nat→Rat}{s:zX}(h:SXs m (2*v+2*m) (kE v m A β) c s):SXs m (2*v+2*m) (kE v m A β) (cs2 v γ) (st2 v m γ s):=
 ⟨aJv h.1.ti h.1.lt h.1.ke,h.2⟩
theorem aIF{c:Nat→Rat}{s:zX}{r col:Nat}(h:SXs m (2*v+2*m) (kE v m A β) c s)(j:Art v m s)(hr:r<m)(hc:col<2*v+m)(hp:0<s.t r col):Art v m (snx s r col):=fun i q hb=>by
 have f:2*v+m≤qX s.b r col i:=hb;by_cases e:i=r
 ·rw[e,cW]at f;omega
 ·rw[fW e]at f;obtain⟨a1,a2⟩:=j i q f;refine⟨?_,fun k u=>?_⟩
  ·show pvt s.t r col i _=0;unfold pvt;rw[if_neg e,a1,a2 col hc];grind
  ·show pvt s.t r col i k=0;unfold pvt;rw[if_neg e,a2 k u,a2 col hc];grind
theorem aGz{x:Nat→Rat}:sm (fun j=>cs2 v γ j*x j) (2*v+2*m+1)=-(sm (fun k=>γ k*(x k-x (v+k))) v):=by
 rw[show 2*v+2*m+1=v+v+(2*m+1) by omega,u9,u9];have f:sm (fun j=>cs2 v γ j*x j) v=-(sm (fun k=>γ k*x k) v):=by
  rw[←sM];exact bF fun k e=>by unfold cs2;rw[if_pos e];grind
 have h:sm (fun j=>cs2 v γ (v+j)*x (v+j)) v=sm (fun k=>γ k*x (v+k)) v:=
  bF fun k e=>by unfold cs2;rw[if_neg (by omega),if_pos (by omega),show v+k-v=k by omega]
 have q:sm (fun j=>cs2 v γ (v+v+j)*x (v+v+j)) (2*m+1)=0:=lQ fun k e=>by
  unfold cs2;rw[if_neg (by omega),if_neg (by omega),Rat.zero_mul]
 have s:sm (fun k=>γ k*(x k-x (v+k))) v=sm (fun k=>γ k*x k) v-1*sm (fun k=>γ k*x (v+k)) v:=by
  rw[←yH];exact bF fun k _=>by grind
 rw[f,h,q,s];grind
theorem aJO{s:zX}(h:SXs m (2*v+2*m) (kE v m A β) (cs2 v γ) s)(z:Art v m s)(u:∀k,k<2*v+m→0≤s.g k):aH4 v m A β γ (spt s.t s.b m v (2*v+2*m)) (wB v s.g):=by
 have c0:∀k,2*v≤k→cs2 v γ k=0:=fun k q=>by unfold cs2;rw[if_neg (by omega),if_neg (by omega)]
 obtain⟨d1,d2⟩:=aGM (T':=s.g) h.1 (fun i j=>c0 _ (by omega)) (c0 _ (by omega));refine⟨fun i j=>aG2 h z j,fun i j=>u _ (by omega),fun k q=>?_,?_⟩
 ·obtain⟨F,y⟩:=d1 k q;have I:=u k (by omega);have J:=u (v+k) (by omega);have c1:cs2 v γ k=-(γ k):=by unfold cs2;rw[if_pos q]
  have G:cs2 v γ (v+k)=γ k:=by unfold cs2;rw[if_neg (by omega),if_pos (by omega),show v+k-v=k by omega]
  rw[c1]at F;rw[G]at y;grind
 ·have e:=h.1.gdot (x:=oX s.t s.b m (2*v+2*m)) fun i j=>h.1.dZ (by omega) j
  rw[tJ (by omega) h.1.ti.lt,lQ (f:=fun i=>s.g (s.b i)*s.t i (2*v+2*m)) fun i j=>by rw[h.1.gb i j,Rat.zero_mul],aGz]at e;have y:sm (fun k=>γ k*(oX s.t s.b m (2*v+2*m) k-oX s.t s.b m (2*v+2*m) (v+k))) v=-(sm (fun k=>γ k*spt s.t s.b m v (2*v+2*m) k) v):=by
   rw[←sM];refine bF fun k q=>?_
   rw[vL (by omega),vL (by omega)];unfold spt;grind
  rw[d2];rw[y]at e;grind
def sry(T:Nat→Nat→Rat)(b:Nat→Nat)(n v col k:Nat):Rat:=oX T b n col k-oX T b n col (v+k)
theorem aJ9{s:zX}(h:SXs m (2*v+2*m) (kE v m A β) (cs2 v γ) s)(z:Art v m s){col:Nat}(hc:col<2*v+m)(O:s.g col<0)(F:∀i,i<m→s.t i col≤0):aJT v m A β γ (spt s.t s.b m v (2*v+2*m)) (sry s.t s.b m v col):=by
 refine⟨fun i q=>aG2 h z q,fun i q=>?_,?_⟩
 ·have e:=h.1.dZ (k:=col) (by omega) q;have G:oX s.t s.b m col (2*v+2*m)=0:=by
   unfold oX;rw[if_neg (by omega),lQ fun i q=>if_neg (by have:=h.1.lt i q;omega)];grind
  have I:oX s.t s.b m col (2*v+m+i)=0:=by
   unfold oX;rw[if_neg (by omega),lQ fun j y=>by
    split
    ·rename_i e;exact(z j y (by omega)).2 col hc
    ·rfl]
   grind
  have U:0≤oX s.t s.b m col (2*v+i):=by
   unfold oX;have J:sm (fun j=>if s.b j=2*v+i then s.t j col else 0) m=-(sm (fun j=>if s.b j=2*v+i then -(s.t j col) else 0) m):=by
    rw[←sM];exact bF fun j _=>by split<;>grind
   have V:0≤sm (fun j=>if s.b j=2*v+i then -(s.t j col) else 0) m:=s8 fun j y=>by
    split
    ·have:=F j y;grind
    ·exact Rat.le_refl
   rw[J];split<;>grind
  rw[aFb q,G,I]at e;have K:sgB β i*(sm (fun k=>A i k*sry s.t s.b m v col k) v+oX s.t s.b m col (2*v+i))=0:=by
   have u:sm (fun k=>A i k*(oX s.t s.b m col k-oX s.t s.b m col (v+k))) v=sm (fun k=>A i k*sry s.t s.b m v col k) v:=rfl;rw[u]at e;split at e<;>grind
  rcases Rat.mul_eq_zero.1 K with u|u
  ·exact absurd u aIc
  ·grind
 ·have e:=h.1.gdot (x:=oX s.t s.b m col) fun i q=>h.1.dZ (by omega) q
  rw[tJ (by omega) h.1.ti.lt,lQ (f:=fun i=>s.g (s.b i)*s.t i col) fun i q=>by rw[h.1.gb i q,Rat.zero_mul],aGz]at e;have L:sm (fun k=>γ k*(oX s.t s.b m col k-oX s.t s.b m col (v+k))) v=sm (fun k=>γ k*sry s.t s.b m v col k) v:=rfl;rw[L]at e;grind
end
theorem aEb{I:Nat}{a3:List (List Rat)}{f g:Nat→Rat}{φ:Rat}{w B:Nat}(s:a3.getD I []=mp f w)(y:∀k,k<w→Bd B (f k))(z:∀k,k<w→Bd B (g k))(hφ:Bd B φ)(hB:B≤200000000)(hw:w≤100000)(K:Nat):∀(t i k:Nat) (h:Nat→Rat),i+t=w→t<k→(∀j,j<i→h j=g j-φ*f j)→(∀j,i≤j→h j=g j)→fT K I a3 φ k (mp h w) (i:Int)=some (mp (fun j=>g j-φ*f j) w)
 |0,i,k,h,J,F,u,q=>by
  obtain⟨G,rfl,_⟩:=cF F;simp only[fT,s,fF,dF (show¬(i:Int)<(w:Int) by omega),eD];rw[oF fun j x=>u j (by omega)]
 |t+1,i,k,h,J,F,u,q=>by
  obtain⟨G,rfl,_⟩:=cF F;have hiw:i<w:=by omega
  have bf:=y i hiw;have bg:=z i hiw;simp only[fT,s,fF,dT (show(i:Int)<(w:Int) by omega),d9,nM (f:=f) hiw,oB,uB bf (by omega),ckS (i:=i) (by omega)];by_cases e:f i=0
  ·rw[nF (aBz.2 e),eD];exact aEb s y z hφ hB hw K t (i+1) G h (by omega) (by omega) (fun j x=>by
    by_cases ej:j=i
    ·rw[ej,q i (Nat.le_refl _),e];grind
    ·exact u j (by omega)) (fun j x=>q j (by omega))
  ·rw[nT (fun h=>e (aBz.1 h)),d9];simp only[nM (f:=h) hiw,q i (Nat.le_refl _),oB,aEg hφ bf (by omega) (by omega),aBE bg (hφ.mul bf) (by omega) (by omega),aCT (f:=h) hiw];exact aEb s y z hφ hB hw K t (i+1) G _ (by omega) (by omega) (fun j x=>by
    by_cases ej:j=i
    ·rw[ej,cW]
    ·rw[fW ej];exact u j (by omega)) (fun j x=>by rw[fW (by omega)];exact q j (by omega))
theorem aIB{t:Nat}{a3:List (List Rat)}{f g:Nat→Rat}{col w B:Nat}(u:a3.getD t []=mp f w)(x:∀k,k<w→Bd B (f k))(s:∀k,k<w→Bd B (g k))(hc:col<w)(hB:B≤200000000)(hw:w≤100000){K:Nat}(y:w<K):l7 K t (col:Int) (mp g w) a3=some (mp (fun j=>g j-g col*f j) w):=by
 have q:=aEb u x s (s col hc) hB hw K w 0 K g (by omega) y (fun j z=>by omega) (fun j _=>rfl);rw[Int.natCast_zero]at q;simp only[l7,nM (f:=g) hc,oB,uB (s col hc) (by omega)];by_cases e:g col=0
 ·rw[qT (aBz.2 e),d9,oF (f:=g) (g:=fun j=>g j-g col*f j) fun j _=>by rw[e];grind]
 ·rw[qF (fun h=>e (aBz.1 h)),eD,q,oB,nI]
theorem aCM{rs:List (List Rat)}{o:Nat}{r:List Rat}(f:o<rs.length)(h:rs.getD o []=r):rs.set o r=rs:=by
 apply List.ext_getElem?;intro j;rw[List.getElem?_set];by_cases e:o=j
 ·subst e;rw[if_pos rfl,if_pos f,List.getElem?_eq_getElem f];rw[List.getD_eq_getElem?_getD,List.getElem?_eq_getElem f]at h;exact congrArg some h.symm
 ·rw[if_neg e]
theorem aDB{q a1:Nat}{a3:List (List Rat)}{f g:Nat→Rat}{φ:Rat}{w B:Nat}(hne:a1≠q)(x:a3.getD a1 []=mp f w)(I:∀k,k<w→Bd B (f k))(J:∀k,k<w→Bd B (g k))(hφ:Bd B φ)(hB:B≤200000000)(hw:w≤100000)(K:Nat):∀(t i k:Nat) (rs:List (List Rat)) (h:Nat→Rat),i+t=w→t<k→q<rs.length→rs.getD a1 []=mp f w→rs.getD q []=mp h w→(∀j,j<i→h j=g j-φ*f j)→(∀j,i≤j→h j=g j)→fQ K q a1 a3 φ k rs (i:Int)=some (rs.set q (mp (fun j=>g j-φ*f j) w))
 |0,i,k,rs,h,U,L,s,y,z,F,u=>by
  obtain⟨O,rfl,_⟩:=cF L;simp only[fQ,x,fF,dF (show¬(i:Int)<(w:Int) by omega),eD];rw[aCM s (by rw[z];exact oF fun j G=>F j (by omega))]
 |t+1,i,k,rs,h,U,L,s,y,z,F,u=>by
  obtain⟨O,rfl,_⟩:=cF L;have hiw:i<w:=by omega
  have bf:=I i hiw;have bg:=J i hiw;simp only[fQ,x,fF,dT (show(i:Int)<(w:Int) by omega),d9,y,nM (f:=f) hiw,oB,uB bf (by omega),ckS (i:=i) (by omega)];by_cases e:f i=0
  ·rw[nF (aBz.2 e),eD];exact aDB hne x I J hφ hB hw K t (i+1) O rs h (by omega) (by omega) s y z (fun j G=>by
    by_cases ej:j=i
    ·rw[ej,u i (Nat.le_refl _),e];grind
    ·exact F j (by omega)) (fun j G=>u j (by omega))
  ·rw[nT (fun h=>e (aBz.1 h)),d9];simp only[z,nM (f:=h) hiw,u i (Nat.le_refl _),oB,aEg hφ bf (by omega) (by omega),aBE bg (hφ.mul bf) (by omega) (by omega),aCT (f:=h) hiw];rw[aDB hne x I J hφ hB hw K t (i+1) O (rs.set q (mp (qX h i (g i-φ*f i)) w)) (qX h i (g i-φ*f i)) (by omega) (by omega) (by rw[List.length_set];exact s) (by rw[aAN s,if_neg hne];exact y) (by rw[aAN s,if_pos rfl]) (fun j G=>by
    by_cases ej:j=i
    ·rw[ej,cW]
    ·rw[fW ej];exact F j (by omega)) (fun j G=>by rw[fW (by omega)];exact u j (by omega)),List.set_set]
theorem aME{q a1:Nat}{a3:List (List Rat)}{f g:Nat→Rat}{col w B:Nat}(hne:a1≠q)(x:a3.getD a1 []=mp f w)(t:a3.getD q []=mp g w)(y:q<a3.length)(z:∀k,k<w→Bd B (f k))(u:∀k,k<w→Bd B (g k))(hc:col<w)(hB:B≤200000000)(hw:w≤100000){K:Nat}(F:w<K):oH K q a1 (col:Int) a3=some (a3.set q (mp (fun j=>g j-g col*f j) w)):=by
 have s:=aDB hne x z u (u col hc) hB hw K w 0 K a3 g (by omega) F y x t (fun j G=>by omega) (fun j _=>rfl);rw[Int.natCast_zero]at s;simp only[oH,t,nM (f:=g) hc,oB,uB (u col hc) (by omega)];by_cases e:g col=0
 ·rw[qT (aBz.2 e),d9,aCM y (by rw[t];exact oF fun j _=>by rw[e];grind)]
 ·rw[qF (fun h=>e (aBz.1 h)),eD,s,oB,nB]
def iI(b:Nat→Nat)(i:Nat):Int:=((b i:Nat):Int)
theorem aJi{b:Nat→Nat}{r col:Nat}:qX (iI b) r ((col:Nat):Int)=iI (qX b r col):=by
 funext i;unfold iI qX;split<;>rfl
theorem aGn{n w r col B:Nat}{od:Nat→Nat}{T:Nat→Nat→Rat}{G:List (List Rat)}(s:sA n w G od T)(hr:r<n)(hc:col<w)(u:Bdx n w B T)(hB:B≤200000000)(hw:w≤100000)(K:Nat):∀(t i k:Nat) (rs:List (List Rat)) (h:Nat→Rat),i+t=w→t<k→od r<rs.length→rs.getD (od r) []=mp h w→(∀j,j<i→h j=zJ T r col j)→(∀j,i≤j→h j=T r j)→dO K (r:Int) (mp od n) G (T r col) (od r) k rs (i:Int)=some (rs.set (od r) (mp (zJ T r col) w))
 |0,i,k,rs,h,L,x,q,y,z,F=>by
  obtain⟨I,rfl,_⟩:=cF x;simp only[dO,s.row r hr,fF,dF (show¬(i:Int)<(w:Int) by omega),eD];rw[aCM q (by rw[y];exact oF fun j J=>z j (by omega))]
 |t+1,i,k,rs,h,L,x,q,y,z,F=>by
  obtain⟨I,rfl,_⟩:=cF x;have hiw:i<w:=by omega
  have O:=u r i hr hiw;have b2:=u r col hr hc;have e:T r i/T r col=zJ T r col i:=rfl;simp only[dO,s.row r hr,fF,dT (show(i:Int)<(w:Int) by omega),d9,y,nM (f:=h) hiw,F i (Nat.le_refl _),oB,nM (f:=od) hr,aGm O b2 (by omega) (by omega),aCT (f:=h) hiw,ckS (i:=i) (by omega),e];rw[aGn s hr hc u hB hw K t (i+1) I (rs.set (od r) (mp (qX h i (zJ T r col i)) w)) (qX h i (zJ T r col i)) (by omega) (by omega) (by rw[List.length_set];exact q) (by rw[aAN q,if_pos rfl]) (fun j J=>by
    by_cases ej:j=i
    ·rw[ej,cW]
    ·rw[fW ej];exact z j (by omega)) (fun j J=>by rw[fW (by omega)];exact F j (by omega)),List.set_set]
def ptb(T:Nat→Nat→Rat)(r col i j:Nat):Nat→Rat:=if j=r then zJ T r col else if j<i then pvt T r col j else T j
theorem aD3{n w r col B:Nat}{od:Nat→Nat}{T:Nat→Nat→Rat}(hr:r<n)(hc:col<w)(x:Bdx n w B T)(hB:B≤100000000)(hw:w≤100000)(I:n≤100000){K:Nat}(y:w<K):∀(t i k:Nat) (rs:List (List Rat)),i+t=n→t<k→sA n w rs od (ptb T r col i)→∃rs',sA n w rs' od (pvt T r col)∧cD K (r:Int) (col:Int) (mp od n) k (mp od n) rs (i:Int)=some (mp od n,rs')
 |0,i,k,rs,O,s,q=>by
  obtain⟨z,rfl,_⟩:=cF s;refine⟨rs,q.congr fun j k J _=>?_,by simp only[cD,fF,dF (show¬(i:Int)<(n:Int) by omega),eD]⟩;unfold ptb;by_cases e:j=r
  ·rw[if_pos e,e];unfold pvt zJ;rw[if_pos rfl]
  ·rw[if_neg e,if_pos (by omega)]
 |t+1,i,k,rs,O,s,q=>by
  obtain⟨z,rfl,_⟩:=cF s;have hin:i<n:=by omega
  by_cases e:i=r
  ·obtain⟨rs',F,G⟩:=aD3 hr hc x hB hw I y t (i+1) z rs (by omega) (by omega) (q.congr fun j k J _=>by
    unfold ptb;by_cases h:j=r
    ·rw[if_pos h,if_pos h]
    ·rw[if_neg h,if_neg h];by_cases u:j<i
     ·rw[if_pos u,if_pos (by omega)]
     ·rw[if_neg u,if_neg (by omega)])
   exact⟨rs',F,by simp only[cD,fF,dT (show(i:Int)<(n:Int) by omega),d9,nM (f:=od) hin,oB,nF (show(i:Int)=(r:Int) by omega),eD,ckS (i:=i) (by omega),G]⟩
  ·have hne:od r≠od i:=fun h=>e (q.inj r i hr hin h).symm
   have U:rs.getD (od r) []=mp (zJ T r col) w:=by rw[q.row r hr];unfold ptb;rw[if_pos rfl]
   have V:rs.getD (od i) []=mp (T i) w:=by rw[q.row i hin];unfold ptb;rw[if_neg e,if_neg (Nat.lt_irrefl i)]
   have w2:=aME (col:=col) (B:=B+B) (K:=K) hne U V (q.lt i hin) (fun k s=>aGP x hr hc s) (fun k s=>(x i k hin s).mono (by omega)) hc (by omega) hw y;obtain⟨rs',F,G⟩:=aD3 hr hc x hB hw I y t (i+1) z (rs.set (od i) (mp (fun j=>T i j-T i col*zJ T r col j) w)) (by omega) (by omega) ((q.set hin (fun j=>T i j-T i col*zJ T r col j)).congr fun j k J _=>by
    by_cases h:j=i
    ·rw[h,cW];unfold ptb;rw[if_neg e,if_pos (by omega)];unfold pvt zJ;rw[if_neg e]
    ·rw[fW h];unfold ptb;by_cases u:j=r
     ·rw[if_pos u,if_pos u]
     ·rw[if_neg u,if_neg u];by_cases L:j<i
      ·rw[if_pos L,if_pos (by omega)]
      ·rw[if_neg L,if_neg (by omega)])
   exact⟨rs',F,by simp only[cD,fF,dT (show(i:Int)<(n:Int) by omega),d9,nM (f:=od) hin,nM (f:=od) hr,oB,nT (show(i:Int)≠(r:Int) by omega),w2,ckS (i:=i) (by omega),G]⟩
theorem aII{n w r col B:Nat}{od:Nat→Nat}{T:Nat→Nat→Rat}{g:Nat→Rat}{b:Nat→Nat}{rs:List (List Rat)}{a2 a3 a4:Int}(h:sA n w rs od T)(hr:r<n)(hc:col<w)(s:Bdx n w B T)(y:∀k,k<w→Bd B (g k))(hB:B≤100000000)(hw:w≤100000)(z:n≤100000){K:Nat}(J:w+n<K):∃rs',sA n w rs' od (pvt T r col)∧gT K (r:Int) (col:Int) a2 a3 a4 (mp od n) (mp g w) (mp (iI b) n) rs=some (mp od n,mp (gpv g T r col) w,mp (iI (qX b r col)) n,rs'):=by
 have q:=aGn h hr hc s (by omega) hw K w 0 K rs (T r) (by omega) (by omega) (h.lt r hr) (h.row r hr) (fun j F=>by omega) (fun j _=>rfl);rw[Int.natCast_zero]at q;obtain⟨rs',u,x⟩:=aD3 (od:=od) hr hc s hB hw z (show w<K by omega) n 0 K (rs.set (od r) (mp (zJ T r col) w)) (by omega) (by omega) ((h.set hr (zJ T r col)).congr fun j k F _=>by
  unfold ptb;by_cases e:j=r
  ·rw[e,cW,if_pos rfl]
  ·rw[fW e,if_neg e,if_neg (by omega)])
 rw[Int.natCast_zero]at x;have G:rs'.getD (od r) []=mp (zJ T r col) w:=by rw[u.row r hr];exact oF fun k _=>by unfold pvt zJ;rw[if_pos rfl]
 have I:=aIB (col:=col) (B:=B+B) (K:=K) G (fun k t=>aGP s hr hc t) (fun k t=>(y k t).mono (by omega)) hc (by omega) hw (by omega);refine⟨rs',u,?_⟩;simp only[gT,nM (f:=od) hr,oB,h.row r hr,nM (f:=T r) hc,q,jT,x,jO,I,nM (f:=iI b) hr,aCT (f:=iI b) hr,aJi];rfl
theorem aF9{C:Nat}{x:Int→Option Rat}{c:Nat→Rat}(y:∀k:Nat,k<C→x (k:Int)=some (c k))(F:C≤100000)(K:Nat):∀(t i k:Nat) (h:Nat→Rat),i+t=C→t<k→(∀j,j<i→h j=c j)→h C=c C→dN K x (C:Int) k (mp h (C+1)) (i:Int)=some (mp c (C+1))
 |0,i,k,h,G,q,s,u=>by
  obtain⟨z,rfl,_⟩:=cF q;simp only[dN,dF (show¬(i:Int)<(C:Int) by omega),eD];refine congrArg some (oF fun j I=>?_);by_cases e:j=C
  ·rw[e];exact u
  ·exact s j (by omega)
 |t+1,i,k,h,G,q,s,u=>by
  obtain⟨z,rfl,_⟩:=cF q;have hiw:i<C+1:=by omega
  simp only[dN,dT (show(i:Int)<(C:Int) by omega),d9,y i (by omega),oB,nM (f:=h) hiw,aCT (f:=h) hiw,ckS (i:=i) (by omega)];exact aF9 y F K t (i+1) z _ (by omega) (by omega) (fun j I=>by
    by_cases ej:j=i
    ·rw[ej,cW]
    ·rw[fW ej];exact s j (by omega)) (by rw[fW (by omega)];exact u)
theorem aGV{n w B:Nat}{od b:Nat→Nat}{T:Nat→Nat→Rat}{c:Nat→Rat}{rs:List (List Rat)}(q:sA n w rs od T)(hb:∀i,i<n→b i<w)(s:Bdx n w B T)(hp:∀m,m≤n→∀k,k<w→Bd B (prc c T b m k))(hB:B≤200000000)(hw:w≤100000)(z:n≤100000){K:Nat}(u:w<K):∀(t i k:Nat),i+t=n→t<k→dP K (mp od n) (mp (iI b) n) rs k (mp (prc c T b i) w) (i:Int)=some (mp (prc c T b n) w)
 |0,i,k,F,h=>by
  obtain⟨x,rfl,_⟩:=cF h;have:i=n:=by omega
  subst this;simp only[dP,fF,dF (show¬(i:Int)<(i:Int) by omega),eD]
 |t+1,i,k,F,h=>by
  obtain⟨x,rfl,_⟩:=cF h;have hin:i<n:=by omega
  have y:=aIB (col:=b i) (B:=B) (K:=K) (q.row i hin) (fun k h=>s i k hin h) (fun k h=>hp i (by omega) k h) (hb i hin) hB hw u;have e:(fun j=>prc c T b i j-prc c T b i (b i)*T i j)=prc c T b (i+1):=rfl;rw[e]at y;have G:iI b i=((b i:Nat):Int):=rfl;simp only[dP,fF,dT (show(i:Int)<(n:Int) by omega),d9,nM (f:=iI b) hin,nM (f:=od) hin,oB,G,y,ckS (i:=i) (by omega)];exact aGV q hb s hp hB hw z u t (i+1) x (by omega) (by omega)
theorem aIY{n C B:Nat}{od b:Nat→Nat}{T:Nat→Nat→Rat}{c:Nat→Rat}{rs:List (List Rat)}{q:Int→Option Rat}{a1 a2:Int}{a5:List Rat}(s:sA n (C+1) rs od T)(t:∀k:Nat,k<C→q (k:Int)=some (c k))(h:c C=0)(hb:∀i,i<n→b i<C+1)(u:Bdx n (C+1) B T)(hp:∀m,m≤n→∀k,k<C+1→Bd B (prc c T b m k))(hB:B≤200000000)(y:C≤10000)(x:n≤100000){K:Nat}(F:C+1+n<K):fH K q a1 a2 (C:Int) (mp od n) a5 (mp (iI b) n) rs=some (mp (prc c T b n) (C+1)):=by
 have f:=aF9 t (by omega) K C 0 K (fun _=>0) (by omega) (by omega) (fun j G=>by omega) h.symm;have e:=aGV s hb u hp hB (by omega) x (show C+1<K by omega) n 0 K (by omega) (by omega);have z:prc c T b 0=c:=rfl;rw[z]at e;rw[Int.natCast_zero]at f e;simp only[fH,ckS (i:=C) (by omega),oB,aKp (n:=C+1) (z:=(0:Rat)) (by omega),f,jS,e,jP]
def oi(s:Option Nat):Int:=match s with|none=>-1|some q=>(q:Int)
theorem aAE{n w C col B:Nat}{od b:Nat→Nat}{T:Nat→Nat→Rat}{rs:List (List Rat)}(z:sA n w rs od T)(j:Bdx n w B T)(hc:col<w)(u:C<w)(hB:B≤200000000)(G:n≤100000)(K:Nat):∀(t i k:Nat) (s:Option Nat) (q:Rat),i+t=n→t<k→(∀r,s=some r→r<n∧q=rto T C col r)→bH K (col:Int) (C:Int) (mp od n) (mp (iI b) n) rs k q (oi s) (i:Int)=some (oi (zS T b C col t i s))
 |0,i,k,s,q,hi,O,hs=>by
  obtain⟨F,rfl,_⟩:=cF O;simp only[bH,fF,dF (show¬(i:Int)<(n:Int) by omega),eD,zS]
 |t+1,i,k,s,q,hi,O,hs=>by
  obtain⟨F,rfl,_⟩:=cF O;have hin:i<n:=by omega
  have U:=j i col hin hc;have b2:=j i C hin u;simp only[bH,fF,dT (show(i:Int)<(n:Int) by omega),d9,nM (f:=od) hin,oB,z.row i hin,nM (f:=T i) hc,nM (f:=T i) u,uB U (by omega),aGm b2 U (by omega) (by omega),ckS (i:=i) (by omega),zS];by_cases e:0<T i col
  ·rw[decide_eq_false (fun hle=>absurd (aJw.2 e) (Int.not_lt.2 hle)),eD,eD];cases s with
   |none=>
    have ih:=aAE (b:=b) z j hc u hB G K t (i+1) F (some i) (T i C/T i col) (by omega) (by omega) (fun r hr=>by cases hr;exact⟨hin,rfl⟩);have I:(oi none)=-1:=rfl;simp only[I,dF (show¬(0:Int)≤-1 by omega),eD,eB,dT (show(-1:Int)<0 by omega),d9,ckS (i:=i) (by omega),oB];exact ih
   |some r=>
    obtain⟨J,V⟩:=hs r rfl;have I:(oi (some r))=(r:Int):=rfl;have b3:Bd (B+B) q:=by rw[V];exact(j r C J u).div (j r col J hc)
    have x:=aAE (b:=b) z j hc u hB G K t (i+1) F (some i) (T i C/T i col) (by omega) (by omega) (fun r hr=>by cases hr;exact⟨hin,rfl⟩);have y:=aAE (b:=b) z j hc u hB G K t (i+1) F (some r) q (by omega) (by omega) (fun r hr=>by cases hr;exact⟨J,V⟩);have ei:(oi (some i))=(i:Int):=rfl;rw[ei]at x;rw[I]at y;simp only[I,dT (show(0:Int)≤(r:Int) by omega),d9,aDH (b2.div U) b3 (by omega) (by omega),oB,eB,aFY.2,ckS (i:=i) (by omega),nM (f:=iI b) hin,nM (f:=iI b) J];unfold bet;rw[show rto T C col r=q from V.symm,show rto T C col i=T i C/T i col from rfl];by_cases h1:T i C/T i col<q
    ·rw[decide_eq_true h1,d9,d9,d9];exact x
    ·rw[decide_eq_false h1,eD,eD];by_cases L:T i C/T i col=q
     ·rw[qT (aFY.1.2 L),d9,decide_eq_true L,d9];have e3:decide (iI b i<iI b r)=decide (b i<b r):=by
       rw[decide_eq_decide];unfold iI;omega
      rw[e3];cases decide (b i<b r) with
      |true=>rw[d9,d9];exact x
      |false=>rw[eD,eD];exact y
     ·rw[qF (fun h=>L (aFY.1.1 h)),eD,decide_eq_false L,eD,eD];exact y
  ·rw[decide_eq_true (aDN e),d9,d9];exact aAE z j hc u hB G K t (i+1) F s q (by omega) (by omega) hs
theorem aMi{n w C col B:Nat}{od b:Nat→Nat}{T:Nat→Nat→Rat}{rs:List (List Rat)}{a1 a2:Int}{a5:List Rat}(f:sA n w rs od T)(h:Bdx n w B T)(hc:col<w)(j:C<w)(hB:B≤200000000)(k:n≤100000){K:Nat}(q:n<K):iH K (col:Int) a1 a2 (C:Int) (mp od n) a5 (mp (iI b) n) rs=some (oi (zS T b C col n 0 none)):=by
 have e:=aAE (b:=b) f h hc j hB k K n 0 K none 0 (by omega) q (fun r hr=>by cases hr);have s:(oi none)=-1:=rfl;rw[s,Int.natCast_zero]at e;simp only[iH,e,oB,iS]
def zF(v:Nat)(A:Nat→Nat→Rat)(β:Nat→Rat)(i:Nat):aA:=⟨mp (A i) v,β i⟩
def rI(v m:Nat)(A:Nat→Nat→Rat)(β γ:Nat→Rat):aB:=⟨v,mp (zF v A β) m,mp γ v⟩
theorem aAA{f:Nat→Rat}{w k B:Nat}{d:Bool}{x:Rat}(e:k<w)(h:Bd B x)(hB:B≤1073741824):iY d (mp f w) (k:Int) x=some (mp (qX f k (if d=true then -x else x)) w):=by
 cases d with
 |true=>simp only[iY,d9,aBD h hB,oB,nM (f:=f) e,aCT (f:=f) e,if_true]
 |false=>simp only[iY,eD,nM (f:=f) e,aCT (f:=f) e,oB,Bool.false_eq_true,if_false]
theorem aGR{β:Nat→Rat}{i:Nat}{x:Rat}:(if decide ((β i).num.sign<0)=true then -x else x)=zE β i x:=by
 unfold zE;by_cases e:β i<0
 ·rw[if_pos e,decide_eq_true (aBi.2 e),if_pos rfl]
 ·rw[if_neg e,decide_eq_false (fun h=>e (aBi.1 h)),if_neg (by decide)]
def mrw(v:Nat)(A:Nat→Nat→Rat)(β:Nat→Rat)(i t k:Nat):Rat:=if k<t then zE β i (A i k) else if v≤k∧k<v+t then zE β i (-(A i (k-v))) else 0
theorem aJx{v:Nat}{A:Nat→Nat→Rat}{β:Nat→Rat}{i t:Nat}(q:t<v):qX (qX (mrw v A β i t) t (zE β i (A i t))) (v+t) (zE β i (-(A i t)))=mrw v A β i (t+1):=by
 funext k;by_cases e:k=v+t
 ·rw[e,cW];unfold mrw;rw[if_neg (by omega),if_pos (by omega),show v+t-v=t by omega]
 ·rw[fW e];by_cases f:k=t
  ·rw[f,cW];unfold mrw;rw[if_pos (by omega)]
  ·rw[fW f];unfold mrw;by_cases h:k<t
   ·rw[if_pos h,if_pos (by omega)]
   ·rw[if_neg h,if_neg (show¬k<t+1 by omega)];by_cases j:v≤k∧k<v+t
    ·rw[if_pos j,if_pos (by omega)]
    ·rw[if_neg j,if_neg (by omega)]
theorem aEw{v w B:Nat}{p:aB}{A:Nat→Nat→Rat}{β:Nat→Rat}{i:Nat}(hp:p.vars=(v:Int))(e:∀k,k<v→Bd B (A i k))(hB:B≤1073741824)(hv:v≤1000)(hw:2*v≤w)(K:Nat):∀(t k f:Nat),k+t=v→t<f→gM K p (zF v A β i) (β i).num.sign f (mp (mrw v A β i k) w) (k:Int)=some (mp (mrw v A β i v) w)
 |0,k,f,q,h=>by
  obtain⟨j,rfl,_⟩:=cF h;have:k=v:=by omega
  subst this;simp only[gM,zF,fF,dF (show¬(k:Int)<(k:Int) by omega),eD]
 |t+1,k,f,q,h=>by
  obtain⟨j,rfl,_⟩:=cF h;have hkv:k<v:=by omega
  have s:aV ((v:Int)+(k:Int))=some ((v+k:Nat):Int):=tK (m:=0) (by omega) (by omega);have ih:=aEw (β:=β) hp e hB hv hw K t (k+1) j (by omega) (by omega);have hs:(zF v A β i).a=mp (A i) v:=rfl;simp only[gM,hs,fF,dT (show(k:Int)<(v:Int) by omega),d9,nM (f:=A i) hkv,oB,aAA (w:=w) (k:=k) (show k<w by omega) (e k hkv) hB,hp,s,aBD (e k hkv) hB,aAA (w:=w) (k:=v+k) (show v+k<w by omega) (e k hkv).neg hB,aGR,aJx hkv,ckS (i:=k) (by omega)];exact ih
theorem aIp{v m:Nat}{A:Nat→Nat→Rat}{β:Nat→Rat}{i k:Nat}(u:i<m)(x:k<2*v+2*m+1):(if β i<0 then qX (qX (qX (mrw v A β i v) (2*v+i) (zE β i 1)) (2*v+2*m) (zE β i (β i))) (2*v+m+i) 1 else qX (qX (mrw v A β i v) (2*v+i) (zE β i 1)) (2*v+2*m) (zE β i (β i))) k=kE v m A β i k:=by
 have key:qX (qX (mrw v A β i v) (2*v+i) (zE β i 1)) (2*v+2*m) (zE β i (β i)) k=if k=2*v+2*m then zE β i (β i) else if k=2*v+i then zE β i 1 else mrw v A β i v k:=by
  by_cases e:k=2*v+2*m
  ·rw[if_pos e,e,cW]
  ·rw[fW e,if_neg e];by_cases f:k=2*v+i
   ·rw[if_pos f,f,cW]
   ·rw[fW f,if_neg f]
 have base:k≠2*v+m+i∨¬β i<0→(if k=2*v+2*m then zE β i (β i) else if k=2*v+i then zE β i 1 else mrw v A β i v k)=kE v m A β i k:=fun hne=>by
  unfold kE mrw;by_cases j:k<v
  ·rw[if_neg (by omega),if_neg (by omega),if_pos j,if_pos j]
  ·rw[if_neg j,if_neg j];by_cases f:k<2*v
   ·rw[if_neg (by omega),if_neg (by omega),if_pos (by omega),if_pos f]
   ·rw[if_neg f,if_neg (show¬(v≤k∧k<v+v) by omega)];by_cases s:k<2*v+m
    ·rw[if_pos s,if_neg (by omega)]
    ·rw[if_neg s];by_cases t:k<2*v+2*m
     ·rw[if_pos t,if_neg (by omega),if_neg (by omega),if_neg (fun h=>hne.elim (fun q=>q h.1) fun q=>q h.2)]
     ·rw[if_neg t,if_pos (by omega)]
 by_cases e:β i<0
 ·rw[if_pos e];by_cases f:k=2*v+m+i
  ·rw[f,cW,show 2*v+m+i=v+v+m+i by omega,aDV u,if_pos ⟨rfl,e⟩]
  ·rw[fW f,key];exact base (.inl f)
 ·rw[if_neg e,key];exact base (.inr e)
theorem aGL{v m B:Nat}{A:Nat→Nat→Rat}{β γ:Nat→Rat}(s:Bdx m v B A)(hβ:∀i,i<m→Bd B (β i))(hB1:1≤B)(hB:B≤1073741824)(hv:v≤1000)(hm:m≤1000){K:Nat}(u:v<K):∀(t i k:Nat),i+t=m→t<k→eK K (rI v m A β γ) ((2*v+2*m:Nat):Int) k (mp (iI (vS v m β)) i) (mp id i) (mx (kE v m A β) i (2*v+2*m+1)) (i:Int)=some (mp (iI (vS v m β)) m,mp id m,mx (kE v m A β) m (2*v+2*m+1))
 |0,i,k,y,j=>by
  obtain⟨x,rfl,_⟩:=cF j;have:i=m:=by omega
  subst this;simp only[eK,rI,fF,dF (show¬(i:Int)<(i:Int) by omega),eD]
 |t+1,i,k,y,j=>by
  obtain⟨x,rfl,_⟩:=cF j;have him:i<m:=by omega
  have q:=aEw (p:=rI v m A β γ) (w:=2*v+2*m+1) (β:=β) (i:=i) rfl (fun k j=>s i k him j) hB hv (by omega) K v 0 K (by omega) u;have z0:mp (mrw v A β i 0) (2*v+2*m+1)=mp (fun _=>(0:Rat)) (2*v+2*m+1):=oF fun k _=>by unfold mrw;rw[if_neg (by omega),if_neg (by omega)]
  rw[z0,Int.natCast_zero]at q;have F:aV (2*(v:Int))=some ((2*v:Nat):Int):=tK (m:=0) (by omega) (by omega);have G:aV (((2*v:Nat):Int)+(i:Int))=some ((2*v+i:Nat):Int):=tK (m:=0) (by omega) (by omega);have I:aV (((2*v:Nat):Int)+(m:Int))=some ((2*v+m:Nat):Int):=tK (m:=0) (by omega) (by omega);have J:aV (((2*v+m:Nat):Int)+(i:Int))=some ((2*v+m+i:Nat):Int):=tK (m:=0) (by omega) (by omega);have one:Bd B (1:Rat):=Bd.mono (m:=1) (by constructor<;>decide) hB1;have hb:(zF v A β i).b=β i:=rfl;have L:(rI v m A β γ).lines=mp (zF v A β) m:=rfl;have hvr:(rI v m A β γ).vars=(v:Int):=rfl;have ih:=aGL (γ:=γ) s hβ hB1 hB hv hm u t (i+1) x (by omega) (by omega);have row:=fun k j=>aIp (v:=v) (A:=A) (β:=β) (k:=k) him j
  have a1:uK (mp id i) [(mx (kE v m A β) i (2*v+2*m+1)).length]=some (mp id (i+1)):=by rw[aHI];exact apM (g:=id) (by omega)
  have a2:mx (kE v m A β) i (2*v+2*m+1)++[mp (kE v m A β i) (2*v+2*m+1)]=mx (kE v m A β) (i+1) (2*v+2*m+1):=(aD0 (fun i=>mp (kE v m A β i) (2*v+2*m+1)) i).symm;simp only[eK,L,hvr,fF,dT (show(i:Int)<(m:Int) by omega),d9,nM (f:=zF v A β) him,oB,ckS (i:=2*v+2*m) (by omega),aKp (n:=2*v+2*m+1) (z:=(0:Rat)) (by omega),hb,uB (hβ i him) hB,q,mQ,F,G,I,J,aJy,aAA (w:=2*v+2*m+1) (k:=2*v+i) (show 2*v+i<2*v+2*m+1 by omega) one hB,aAA (w:=2*v+2*m+1) (k:=2*v+2*m) (show 2*v+2*m<2*v+2*m+1 by omega) (hβ i him) hB,aGR,kU];by_cases e:β i<0
  ·have hbi:iI (vS v m β) i=((2*v+m+i:Nat):Int):=by unfold iI vS;rw[if_pos e]
   have a3:uK (mp (iI (vS v m β)) i) [((2*v+m+i:Nat):Int)]=some (mp (iI (vS v m β)) (i+1)):=by rw[←hbi];exact apM (g:=iI (vS v m β)) (by omega)
   have a4:mp (qX (qX (qX (mrw v A β i v) (2*v+i) (zE β i 1)) (2*v+2*m) (zE β i (β i))) (2*v+m+i) 1) (2*v+2*m+1)=mp (kE v m A β i) (2*v+2*m+1):=oF fun k j=>by
    have:=row k j;rw[if_pos e]at this;exact this
   simp only[dT (aBi.2 e),d9,nM (f:=qX (qX (mrw v A β i v) (2*v+i) (zE β i 1)) (2*v+2*m) (zE β i (β i))) (show 2*v+m+i<2*v+2*m+1 by omega),aCT (f:=qX (qX (mrw v A β i v) (2*v+i) (zE β i 1)) (2*v+2*m) (zE β i (β i))) (show 2*v+m+i<2*v+2*m+1 by omega),oB,a4,a1,a3,a2,ckS (i:=i) (by omega)];exact ih
  ·have hbi:iI (vS v m β) i=((2*v+i:Nat):Int):=by unfold iI vS;rw[if_neg e]
   have a3:uK (mp (iI (vS v m β)) i) [((2*v+i:Nat):Int)]=some (mp (iI (vS v m β)) (i+1)):=by rw[←hbi];exact apM (g:=iI (vS v m β)) (by omega)
   have a4:mp (qX (qX (mrw v A β i v) (2*v+i) (zE β i 1)) (2*v+2*m) (zE β i (β i))) (2*v+2*m+1)=mp (kE v m A β i) (2*v+2*m+1):=oF fun k j=>by
    have:=row k j;rw[if_neg e]at this;exact this
   simp only[dF (fun h=>e (aBi.1 h)),eD,oB,a4,a1,a3,a2,ckS (i:=i) (by omega)];exact ih
theorem aJS{v m B:Nat}{A:Nat→Nat→Rat}{β γ:Nat→Rat}(h:Bdx m v B A)(hβ:∀i,i<m→Bd B (β i))(hB1:1≤B)(hB:B≤1073741824)(hv:v≤1000)(hm:m≤1000){K:Nat}(j:v<K)(f:m<K):oG K (rI v m A β γ)=some ((v:Int),(m:Int),((2*v+2*m:Nat):Int),mp id m,[],mp (iI (vS v m β)) m,mx (kE v m A β) m (2*v+2*m+1)):=by
 have e:=aGL (γ:=γ) h hβ hB1 hB hv hm j m 0 K (by omega) f;have z1:mx (kE v m A β) 0 (2*v+2*m+1)=[]:=rfl;have z2:mp id 0=([]:List Nat):=rfl;rw[z1,aGq,z2,Int.natCast_zero]at e;have k:aV (2*(v:Int))=some ((2*v:Nat):Int):=tK (m:=0) (by omega) (by omega);have q:aV (2*(m:Int))=some ((2*m:Nat):Int):=tK (m:=0) (by omega) (by omega);have s:aV (((2*v:Nat):Int)+((2*m:Nat):Int))=some ((2*v+2*m:Nat):Int):=tK (m:=0) (by omega) (by omega);have t:(rI v m A β γ).lines=mp (zF v A β) m:=rfl;have hvr:(rI v m A β γ).vars=(v:Int):=rfl;simp only[oG,t,hvr,fF,k,q,s,oB,e,nG]
theorem aE6{v m:Nat}{A:Nat→Nat→Rat}{β:Nat→Rat}:sA m (2*v+2*m+1) (mx (kE v m A β) m (2*v+2*m+1)) id (kE v m A β):=
 ⟨fun i f=>by rw[aHI];exact f,fun i j _ _ e=>e,fun i f=>by unfold mx;rw[List.getD_eq_getElem?_getD,show id i=i from rfl,aAq f];rfl⟩
def Szx(n C B:Nat)(Z:Nat→Nat→Rat)(c:Nat→Rat):Prop:=∀T g b,SX n C Z c T g b→Bdx n (C+1) B T∧∀k,k<C+1→Bd B (g k)
theorem aAY{w en B:Nat}{yF:Int→(List Nat)→(List Rat)→(List Int)→(List (List Rat))→Bool→Int→Option (Nat×(List Nat)×(List Rat)×(List Int)×(List (List Rat))×Bool×Int)}{g:Nat→Rat}{od:List Nat}{bs:List Int}{rs:List (List Rat)}{fl:Bool}{cr:Int}{code:Nat}{x:(List Nat)×(List Rat)×(List Int)×(List (List Rat))×Bool×Int}(s:∀k,k<w→Bd B (g k))(hB:B≤1073741824)(hen:en≤w)(hw:w≤100000)(u:∀col,xP g en 0=some col→yF (col:Int) od (mp g w) bs rs fl cr=some (code,x))(hc:code≠0)(K:Nat):∀(t i k:Nat),i+t=en→t<k→xP g en 0=xP g t i→bK K (en:Int) yF k od (mp g w) bs rs fl cr (i:Int)=some (match xP g t i with|none=>.go (od,mp g w,bs,rs,fl,cr)|some _=>.ret (code,x))
 |0,i,k,z,q,he=>by
  obtain⟨y,rfl,_⟩:=cF q;simp only[bK,dF (show¬(i:Int)<(en:Int) by omega),eD,xP]
 |t+1,i,k,z,q,he=>by
  obtain⟨y,rfl,_⟩:=cF q;have hiw:i<w:=by omega
  simp only[bK,dT (show(i:Int)<(en:Int) by omega),d9,nM (f:=g) hiw,oB,uB (s i hiw) hB,ckS (i:=i) (by omega)];by_cases e:g i<0
  ·have j:xP g (t+1) i=some i:=by unfold xP;rw[decide_eq_true (aBi.2 e),d9]
   rw[decide_eq_true (aBi.2 e),d9,u i (by rw[he,j]),oB,j];have F:Nat.beq code 0=false:=by cases hcc:Nat.beq code 0 with|false=>rfl|true=>exact absurd (Nat.eq_of_beq_eq_true hcc) hc
   rw[F,eD]
  ·have j:xP g (t+1) i=xP g t (i+1):=by show(bif decide ((g i).num.sign<0) then _ else _)=_;rw[decide_eq_false (fun h=>e (aBi.1 h)),eD]
   rw[decide_eq_false (fun h=>e (aBi.1 h)),eD,j];exact aAY s hB hen hw u hc K t (i+1) y (by omega) (by omega) (by rw[he,j])
theorem aFh{n C en B:Nat}{Z:Nat→Nat→Rat}{c:Nat→Rat}{od:Nat→Nat}{a1 a2:Int}(V:Szx n C B Z c)(hen:en≤C)(hB:B≤100000000)(hC:C≤10000)(hn:n≤10000){K:Nat}(hK:C+1+n<K):∀(f k:Nat) (s:zX) (rs:List (List Rat)) (cr:Int) (o:Option Nat) (j:zX),f+1<k→sA n (C+1) rs od s.t→SXs n C Z c s→zH n C en f s=some (o,j)→∃rs' cr',sA n (C+1) rs' od j.t∧cG K (en:Int) a1 a2 (C:Int) k (mp od n) (mp s.g (C+1)) (mp (iI s.b) n) rs true cr=some (match o with|none=>.go (mp od n,mp j.g (C+1),mp (iI j.b) n,rs',cr')|some col=>.ret ((col:Int),mp od n,mp j.g (C+1),mp (iI j.b) n,rs'))
 |0,k,s,rs,cr,o,j,hk,u,F,hs=>by cases hs
 |f+1,k,s,rs,cr,o,j,hk,u,F,hs=>by
  obtain⟨k',rfl,hk'⟩:=cF hk;obtain⟨hT,z⟩:=V _ _ _ F.1;have b0:Nat.beq 0 0=true:=rfl;have G:Nat.beq 1 0=false:=rfl;have I:Nat.beq 1 1=true:=rfl;have J:Nat.beq 2 0=false:=rfl;have L:Nat.beq 2 1=false:=rfl;have O:Nat.beq 2 2=true:=rfl;cases h:xP s.g en 0 with
  |none=>
   simp only[zH,h]at hs;cases hs;have e:=aAY (yF:=cJ K a1 a2 (C:Int)) (od:=mp od n) (bs:=mp (iI s.b) n) (rs:=rs) (fl:=false) (cr:=cr) (code:=1) (x:=(mp od n,mp s.g (C+1),mp (iI s.b) n,rs,false,cr)) (en:=en) z (by omega) (show en≤C+1 by omega) (by omega) (fun col hc=>by rw[h]at hc;cases hc) (by decide) K en 0 K (by omega) (by omega) rfl;rw[h,Int.natCast_zero]at e;obtain⟨k'',rfl,_⟩:=cF (show f+1<k' by omega);refine⟨rs,cr,u,?_⟩;simp only[cG,d9,fK,oB,eP,e,gI,b0,eD]
  |some col=>
   obtain⟨_,e2,e3,_⟩:=yR _ _ _ h;have lv:=aMi (b:=s.b) (a1:=a1) (a2:=a2) (a5:=mp s.g (C+1)) (col:=col) (C:=C) u hT (show col<C+1 by omega) (by omega) (by omega) (by omega) (show n<K by omega);cases y:zS s.t s.b C col n 0 none with
   |none=>
    simp only[zH,h,y]at hs;cases hs;have U:cJ K a1 a2 (C:Int) (col:Int) (mp od n) (mp s.g (C+1)) (mp (iI s.b) n) rs false cr=some (1,(mp od n,mp s.g (C+1),mp (iI s.b) n,rs,false,(col:Int))):=by
     rw[y]at lv;simp only[cJ,lv,oB,dT (show oi none<0 by decide),d9]
    have e:=aAY (yF:=cJ K a1 a2 (C:Int)) (od:=mp od n) (bs:=mp (iI s.b) n) (rs:=rs) (fl:=false) (cr:=cr) (code:=1) (x:=(mp od n,mp s.g (C+1),mp (iI s.b) n,rs,false,(col:Int))) (en:=en) z (by omega) (show en≤C+1 by omega) (by omega) (fun col' hc=>by rw[h]at hc;cases hc;exact U) (by decide) K en 0 K (by omega) (by omega) rfl;rw[h,Int.natCast_zero]at e;refine⟨rs,0,u,?_⟩;simp only[cG,d9,fK,oB,eP,e,G,I,eD]
   |some r=>
    simp only[zH,h,y]at hs;obtain⟨n1,n2,n3,_⟩:=F.next (col:=col) (by omega) y;obtain⟨q,r1,r2⟩:=aII (b:=s.b) (a2:=a1) (a3:=a2) (a4:=(C:Int)) u n2 (show col<C+1 by omega) hT z hB (by omega) (by omega) (show C+1+n<K by omega);have U:cJ K a1 a2 (C:Int) (col:Int) (mp od n) (mp s.g (C+1)) (mp (iI s.b) n) rs false cr=some (2,(mp od n,mp (gpv s.g s.t r col) (C+1),mp (iI (qX s.b r col)) n,q,true,cr)):=by
     rw[y]at lv;have e4:oi (some r)=(r:Int):=rfl;rw[e4]at lv;simp only[cJ,lv,oB,dF (show¬(r:Int)<0 by omega),eD,r2]
    have e:=aAY (yF:=cJ K a1 a2 (C:Int)) (od:=mp od n) (bs:=mp (iI s.b) n) (rs:=rs) (fl:=false) (cr:=cr) (code:=2) (x:=(mp od n,mp (gpv s.g s.t r col) (C+1),mp (iI (qX s.b r col)) n,q,true,cr)) (en:=en) z (by omega) (show en≤C+1 by omega) (by omega) (fun col' hc=>by rw[h]at hc;cases hc;exact U) (by decide) K en 0 K (by omega) (by omega) rfl;rw[h,Int.natCast_zero]at e;obtain⟨rs',cr',q1,q2⟩:=aFh (a1:=a1) (a2:=a2) V hen hB hC hn hK f k' (snx s r col) q cr o j (by omega) r1 n1 hs;refine⟨rs',cr',q1,?_⟩;rw[←q2];simp only[cG,d9,fK,oB,eP,e,J,L,O,eD];rfl
theorem aIb{n C en B f:Nat}{Z:Nat→Nat→Rat}{c:Nat→Rat}{od:Nat→Nat}{a1 a2:Int}{s e:zX}{rs:List (List Rat)}{o:Option Nat}(h:Szx n C B Z c)(hen:en≤C)(hB:B≤100000000)(j:C≤10000)(k:n≤10000){K:Nat}(q:C+1+n<K)(u:f+1<K)(x:sA n (C+1) rs od s.t)(y:SXs n C Z c s)(hs:zH n C en f s=some (o,e)):∃rs',sA n (C+1) rs' od e.t∧gL K (en:Int) a1 a2 (C:Int) (mp od n) (mp s.g (C+1)) (mp (iI s.b) n) rs=some (oi o,mp od n,mp e.g (C+1),mp (iI e.b) n,rs'):=by
 obtain⟨rs',cr',z,F⟩:=aFh (a1:=a1) (a2:=a2) h hen hB j k q f K s rs 0 o e u x y hs;refine⟨rs',z,?_⟩;simp only[gL,F,oB];cases o with
 |none=>simp only[kJ];rfl
 |some col=>rfl
theorem aGD{f:Nat→Rat}{n B:Nat}(h:∀k,k<n→Bd B (f k))(hB:B≤1073741824)(s:n≤100000)(K:Nat):∀(t i k:Nat),i+t=n→t<k→eW K (mp f n) eM k (i:Int)=some (match fnz f t i with|none=>.go ()|some q=>.ret (q:Int))
 |0,i,k,u,e=>by
  obtain⟨j,rfl,_⟩:=cF e;simp only[eW,fF,dF (show¬(i:Int)<(n:Int) by omega),eD,fnz]
 |t+1,i,k,u,e=>by
  obtain⟨j,rfl,_⟩:=cF e;have hin:i<n:=by omega
  have ih:=aGD h hB s K t (i+1) j (by omega) (by omega);simp only[eW,fF,dT (show(i:Int)<(n:Int) by omega),d9,nM (f:=f) hin,oB,eM,uB (h i hin) hB,ckS (i:=i) (by omega),fnz];cases((f i).num.sign != 0) with
  |true=>simp only[d9]
  |false=>simp only[eD];exact ih
theorem aK8{α:Type}{f:Nat→α}{n lo e:Nat}(k:lo≤e)(q:e≤n):xN (mp f n) (lo:Int) (e:Int)=some (mp (fun j=>f (lo+j)) (e-lo)):=by
 unfold xN;rw[if_pos ⟨by omega,by omega,by rw[fF];omega⟩];congr 1;apply List.ext_getElem?;intro j;rw[Int.toNat_natCast,Int.toNat_natCast,List.getElem?_take];by_cases h:j<e-lo
 ·rw[if_pos h,List.getElem?_drop,aAq (by omega),aAq h]
 ·rw[if_neg h,List.getElem?_eq_none (by rw[fF];omega)]
theorem aMO{α:Type}{f:Nat→α}{n k:Nat}(h:k≤n):xN (mp f n) 0 (k:Int)=some (mp f k):=by
 have e:=aK8 (f:=f) (lo:=0) (Nat.zero_le k) h;rw[Int.natCast_zero,Nat.sub_zero]at e;rw[e];exact congrArg some (oF fun j _=>by rw[Nat.zero_add])
theorem aA2{n C last B:Nat}{Z:Nat→Nat→Rat}{c:Nat→Rat}{od:Nat→Nat}{a1 a2:Int}{a6:List Int}(h:a6.length=n)(u:Szx n C B Z c)(F:last≤C)(hB:B≤100000000)(G:C≤10000)(I:n≤10000){K:Nat}(x:C+1+n<K):∀(t i k:Nat) (s:zX) (rs:List (List Rat)),i+t=n→t<k→sA n (C+1) rs od s.t→SX n C Z c s.t s.g s.b→∃rs',sA n (C+1) rs' od (sdr last t i s).t∧bU K (last:Int) a1 a2 (C:Int) a6 k (mp od n) (mp s.g (C+1)) (mp (iI s.b) n) rs (i:Int)=some (mp od n,mp (sdr last t i s).g (C+1),mp (iI (sdr last t i s).b) n,rs')
 |0,i,k,s,rs,O,y,e,j=>by
  obtain⟨z,rfl,_⟩:=cF y;exact⟨rs,e,by simp only[bU,h,dF (show¬(i:Int)<(n:Int) by omega),eD,sdr]⟩
 |t+1,i,k,s,rs,O,y,e,j=>by
  obtain⟨z,rfl,_⟩:=cF y;have hin:i<n:=by omega
  obtain⟨L,U⟩:=u _ _ _ j;have V:decide (iI s.b i<(last:Int))=decide (s.b i<last):=by rw[decide_eq_decide];unfold iI;omega
  have sl:xN (mp (s.t i) (C+1)) 0 (last:Int)=some (mp (s.t i) last):=aMO (by omega);have ix:=aGD (f:=s.t i) (n:=last) (fun k y=>L i k hin (by omega)) (by omega) (by omega) K last 0 K (by omega) (by omega);rw[Int.natCast_zero]at ix;have hI:iT K (mp (s.t i) last) eM=some (oi (fnz (s.t i) last 0)):=by
   simp only[iT,ix,oB];cases fnz (s.t i) last 0 with
   |none=>simp only[k9];rfl
   |some q=>rfl
  simp only[bU,h,dT (show(i:Int)<(n:Int) by omega),d9,nM (f:=iI s.b) hin,oB,V,nM (f:=od) hin,e.row i hin,sl,hI,ckS (i:=i) (by omega),sdr];cases hd:decide (s.b i<last) with
  |true=>
   simp only[d9];exact aA2 h u F hB G I x t (i+1) z s rs (by omega) (by omega) e j
  |false=>
   simp only[eD];cases hf:fnz (s.t i) last 0 with
   |none=>
    simp only[dF (show¬0≤oi none by decide),eD];exact aA2 h u F hB G I x t (i+1) z s rs (by omega) (by omega) e j
   |some col=>
    obtain⟨_,f2,f3⟩:=aCz _ 0 _ hf;have e4:oi (some col)=(col:Int):=rfl;obtain⟨J,r1,r2⟩:=aII (b:=s.b) (a2:=a1) (a3:=a2) (a4:=(C:Int)) e hin (show col<C+1 by omega) L U hB (by omega) (by omega) x;simp only[e4,dT (show(0:Int)≤(col:Int) by omega),d9,r2,oB];exact aA2 h u F hB G I x t (i+1) z (snx s i col) J (by omega) (by omega) r1 (j.pivot hin (by omega) f3)
def fdx(b:Nat→Nat)(k:Nat):Nat→Nat→Option Nat
 |0,_=>none
 |t+1,i=>bif decide (k=b i) then some i else fdx b k t (i+1)
theorem yD{b:Nat→Nat}{k:Nat}:∀t i r,fdx b k t i=some r→i≤r∧r<i+t∧b r=k
 |0,i,r,h=>by cases h
 |t+1,i,r,h=>by
  unfold fdx at h;by_cases e:k=b i
  ·rw[decide_eq_true e,d9]at h;cases h;exact⟨Nat.le_refl _,by omega,e.symm⟩
  ·rw[decide_eq_false e,eD]at h;obtain⟨j,q,f⟩:=yD t (i+1) r h;exact⟨by omega,by omega,f⟩
theorem aEy{b:Nat→Nat}{k:Nat}:∀t i,fdx b k t i=none→∀j,i≤j→j<i+t→b j≠k
 |0,i,_,j,f,q=>by omega
 |t+1,i,h,j,f,q=>by
  unfold fdx at h;by_cases e:k=b i
  ·rw[decide_eq_true e,d9]at h;cases h
  ·rw[decide_eq_false e,eD]at h;by_cases ej:j=i
   ·rw[ej];exact fun s=>e s.symm
   ·exact aEy t (i+1) h j (by omega) (by omega)
theorem aES{b:Nat→Nat}{n q:Nat}(s:n≤100000)(K:Nat):∀(t i k:Nat),i+t=n→t<k→gY K (mp (iI b) n) (q:Int) k (i:Int)=some (match fdx b q t i with|none=>.go ()|some r=>.ret (r:Int))
 |0,i,k,u,h=>by
  obtain⟨j,rfl,_⟩:=cF h;simp only[gY,fF,dF (show¬(i:Int)<(n:Int) by omega),eD,fdx]
 |t+1,i,k,u,h=>by
  obtain⟨j,rfl,_⟩:=cF h;have hin:i<n:=by omega
  have ih:=aES (b:=b) (q:=q) s K t (i+1) j (by omega) (by omega);simp only[gY,fF,dT (show(i:Int)<(n:Int) by omega),d9,nM (f:=iI b) hin,oB,ckS (i:=i) (by omega),fdx];by_cases e:q=b i
  ·rw[qT (show(q:Int)=iI b i by unfold iI;omega),d9,decide_eq_true e,d9]
  ·rw[qF (show¬(q:Int)=iI b i by unfold iI;omega),eD,decide_eq_false e,eD];exact ih
theorem aEE{b:Nat→Nat}{n q:Nat}(e:n≤100000){K:Nat}(f:n<K):kC K (mp (iI b) n) (q:Int)=some (oi (fdx b q n 0)):=by
 have h:=aES (b:=b) (q:=q) e K n 0 K (by omega) f;rw[Int.natCast_zero]at h;simp only[kC,h,oB];cases fdx b q n 0 with
 |none=>simp only[nL];rfl
 |some r=>rfl
theorem aCk{n w:Nat}{Z T:Nat→Nat→Rat}{b:Nat→Nat}(h:TI n w Z T b){e k:Nat}:aAl T b n e k=match fdx b k n 0 with|none=>0|some r=>T r e:=by
 unfold aAl;cases f:fdx b k n 0 with
 |none=>exact lQ fun i j=>if_neg (aEy n 0 f i (Nat.zero_le _) (by omega))
 |some r=>
  obtain⟨_,t,q⟩:=yD n 0 r f;have hr:r<n:=by omega
  rw[u6 hr fun i j hne=>if_neg fun s=>hne (h.inj j hr (by rw[s,q])),if_pos q]
theorem aL7{n C k:Nat}{Z T:Nat→Nat→Rat}{b od:Nat→Nat}{rs:List (List Rat)}{a1 a2:Int}{a5:List Rat}(h:TI n (C+1) Z T b)(e:sA n (C+1) rs od T)(j:n≤100000){K:Nat}(q:n<K):gK K (k:Int) a1 a2 (C:Int) (mp od n) a5 (mp (iI b) n) rs=some (aAl T b n C k):=by
 rw[aCk h];simp only[gK,aEE j q,oB];cases s:fdx b k n 0 with
 |none=>simp only[dF (show¬0≤oi none by decide),eD]
 |some r=>
  obtain⟨_,u,x⟩:=yD n 0 r s;have hr:r<n:=by omega
  have t:oi (some r)=(r:Int):=rfl;simp only[t,dT (show(0:Int)≤(r:Int) by omega),d9,nM (f:=od) hr,oB,e.row r hr,nM (f:=T r) (show C<C+1 by omega)]
theorem aBN{n w B:Nat}{Z T:Nat→Nat→Rat}{b:Nat→Nat}(h:TI n w Z T b){e k:Nat}(hB:1≤B)(f:∀i,i<n→Bd B (T i e)):Bd B (aAl T b n e k):=by
 rw[aCk h];cases j:fdx b k n 0 with
 |none=>exact Bd.zero.mono hB
 |some r=>
  obtain⟨_,q,s⟩:=yD n 0 r j;exact f r (by omega)
theorem aL6{n C k col B:Nat}{Z T:Nat→Nat→Rat}{b od:Nat→Nat}{rs:List (List Rat)}{a1 a2:Int}{a6:List Rat}(h:TI n (C+1) Z T b)(j:sA n (C+1) rs od T)(hc:col<C+1)(hb:∀i,i<n→b i≠col)(q:Bdx n (C+1) B T)(hB:B≤1073741824)(s:n≤100000){K:Nat}(t:n<K):gD K (k:Int) (col:Int) a1 a2 (C:Int) (mp od n) a6 (mp (iI b) n) rs=some (oX T b n col k):=by
 by_cases e:k=col
 ·subst e;rw[aBe hb];simp only[gD,kT,qT (rfl:(k:Int)=k),d9,aJy,oB]
 ·rw[vL e,aCk h];simp only[gD,kT,qF (show¬(k:Int)=(col:Int) by omega),eD,aEE s t,oB];cases u:fdx b k n 0 with
  |none=>
   simp only[dF (show¬0≤oi none by decide),eD,oB];rfl
  |some r=>
   obtain⟨_,y,z⟩:=yD n 0 r u;have hr:r<n:=by omega
   have x:oi (some r)=(r:Int):=rfl;simp only[x,dT (show(0:Int)≤(r:Int) by omega),d9,nM (f:=od) hr,oB,j.row r hr,nM (f:=T r) hc,aBD (q r col hr hc) hB]
theorem aDR{n w B:Nat}{Z T:Nat→Nat→Rat}{b:Nat→Nat}(h:TI n w Z T b){col k:Nat}(hb:∀i,i<n→b i≠col)(hB:1≤B)(f:∀i,i<n→Bd B (T i col)):Bd B (oX T b n col k):=by
 by_cases e:k=col
 ·subst e;rw[aBe hb];exact Bd.mono (m:=1) (by constructor<;>decide) hB
 ·rw[vL e];exact(aBN h hB f).neg
theorem aGf{n v C B:Nat}{Z T:Nat→Nat→Rat}{b od:Nat→Nat}{rs:List (List Rat)}{a1:Int}{a4:List Rat}{s:List Rat}(q:s.length=v)(h:TI n (C+1) Z T b)(z:sA n (C+1) rs od T)(F:Bdx n (C+1) B T)(hB1:1≤B)(hB:B≤1073741824)(hv:v≤1000)(G:n≤100000){K:Nat}(I:n<K):∀(t i k:Nat) (f:Nat→Rat),i+t=v→t<k→(∀j,j<i→f j=spt T b n v C j)→dQ K (v:Int) a1 (C:Int) (mp od n) a4 (mp (iI b) n) rs s k (mp f v) (i:Int)=some (mp (spt T b n v C) v)
 |0,i,k,f,u,x,y=>by
  obtain⟨J,rfl,_⟩:=cF x;simp only[dQ,q,dF (show¬(i:Int)<(v:Int) by omega),eD];exact congrArg some (oF fun j U=>y j (by omega))
 |t+1,i,k,f,u,x,y=>by
  obtain⟨J,rfl,_⟩:=cF x;have hiv:i<v:=by omega
  have V:aV ((v:Int)+(i:Int))=some ((v+i:Nat):Int):=tK (m:=0) (by omega) (by omega);have L:∀k,Bd B (aAl T b n C k):=fun k=>aBN h hB1 fun i u=>F i C u (by omega)
  have e2:aAl T b n C i-aAl T b n C (v+i)=spt T b n v C i:=rfl;have O:∀k:Nat,gK K (k:Int) (v:Int) a1 (C:Int) (mp od n) a4 (mp (iI b) n) rs=some (aAl T b n C k):=fun k=>aL7 h z G I
  simp only[dQ,q,dT (show(i:Int)<(v:Int) by omega),d9,O i,O (v+i),oB,V,aBE (L i) (L (v+i)) hB hB,e2,nM (f:=f) hiv,aCT (f:=f) hiv,ckS (i:=i) (by omega)];exact aGf q h z F hB1 hB hv G I t (i+1) J (qX f i (spt T b n v C i)) (by omega) (by omega) (fun j U=>by
   by_cases e:j=i
   ·rw[e,cW]
   ·rw[fW e];exact y j (by omega))
theorem aLX{n v C B:Nat}{Z T:Nat→Nat→Rat}{b od:Nat→Nat}{rs:List (List Rat)}{a1:Int}{a4:List Rat}(h:TI n (C+1) Z T b)(k:sA n (C+1) rs od T)(q:Bdx n (C+1) B T)(hB1:1≤B)(hB:B≤1073741824)(hv:v≤1000)(s:n≤100000){K:Nat}(t:n<K)(f:v<K):d7 K (v:Int) a1 (C:Int) (mp od n) a4 (mp (iI b) n) rs=some (mp (spt T b n v C) v):=by
 have e:=aGf (a1:=a1) (a4:=a4) (fF (fun _=>(0:Rat)) v) h k q hB1 hB hv s t v 0 K (fun _=>0) (by omega) f (fun j u=>by omega);rw[Int.natCast_zero]at e;simp only[d7,aKp (n:=v) (z:=(0:Rat)) (by omega),oB,e,jR]
theorem aF5{n v C col B:Nat}{Z T:Nat→Nat→Rat}{b od:Nat→Nat}{rs:List (List Rat)}{a1:Int}{a5:List Rat}{s:List Rat}(q:s.length=v)(h:TI n (C+1) Z T b)(F:sA n (C+1) rs od T)(hc:col<C+1)(hb:∀i,i<n→b i≠col)(u:Bdx n (C+1) B T)(hB1:1≤B)(hB:B≤1073741824)(hv:v≤1000)(G:n≤100000){K:Nat}(I:n<K):∀(t i k:Nat) (f:Nat→Rat),i+t=v→t<k→(∀j,j<i→f j=sry T b n v col j)→dR K (v:Int) a1 (C:Int) (col:Int) (mp od n) a5 (mp (iI b) n) rs s k (mp f v) (i:Int)=some (mp (sry T b n v col) v)
 |0,i,k,f,x,y,z=>by
  obtain⟨J,rfl,_⟩:=cF y;simp only[dR,q,dF (show¬(i:Int)<(v:Int) by omega),eD];exact congrArg some (oF fun j U=>z j (by omega))
 |t+1,i,k,f,x,y,z=>by
  obtain⟨J,rfl,_⟩:=cF y;have hiv:i<v:=by omega
  have V:aV ((v:Int)+(i:Int))=some ((v+i:Nat):Int):=tK (m:=0) (by omega) (by omega);have L:∀k,Bd B (oX T b n col k):=fun k=>aDR h hb hB1 fun i x=>u i col x hc
  have e2:oX T b n col i-oX T b n col (v+i)=sry T b n v col i:=rfl;have O:∀k:Nat,gD K (k:Int) (col:Int) (v:Int) a1 (C:Int) (mp od n) a5 (mp (iI b) n) rs=some (oX T b n col k):=fun k=>aL6 h F hc hb u hB G I
  simp only[dR,q,dT (show(i:Int)<(v:Int) by omega),d9,O i,O (v+i),oB,V,aBE (L i) (L (v+i)) hB hB,e2,nM (f:=f) hiv,aCT (f:=f) hiv,ckS (i:=i) (by omega)];exact aF5 q h F hc hb u hB1 hB hv G I t (i+1) J (qX f i (sry T b n v col i)) (by omega) (by omega) (fun j U=>by
   by_cases e:j=i
   ·rw[e,cW]
   ·rw[fW e];exact z j (by omega))
theorem aLR{n v C col B:Nat}{Z T:Nat→Nat→Rat}{b od:Nat→Nat}{rs:List (List Rat)}{a1:Int}{a5:List Rat}(h:TI n (C+1) Z T b)(k:sA n (C+1) rs od T)(hc:col<C+1)(hb:∀i,i<n→b i≠col)(q:Bdx n (C+1) B T)(hB1:1≤B)(hB:B≤1073741824)(hv:v≤1000)(s:n≤100000){K:Nat}(t:n<K)(f:v<K):fI K (v:Int) a1 (C:Int) (col:Int) (mp od n) a5 (mp (iI b) n) rs=some (mp (sry T b n v col) v):=by
 have e:=aF5 (a1:=a1) (a5:=a5) (fF (fun _=>(0:Rat)) v) h k hc hb q hB1 hB hv s t v 0 K (fun _=>0) (by omega) f (fun j u=>by omega);rw[Int.natCast_zero]at e;simp only[fI,aKp (n:=v) (z:=(0:Rat)) (by omega),oB,e,jN]
theorem aHS{v m C:Nat}{g:Nat→Rat}{a2:Int}{a3:List Nat}{a5:List Int}{a6:List (List Rat)}(k:2*v+m≤C+1)(hv:v≤1000)(hm:m≤1000):jA (v:Int) (m:Int) a2 a3 (mp g (C+1)) a5 a6=some (mp (wB v g) m)∧gF (v:Int) (m:Int) a2 (mp g (C+1)) a3 a5 a6=some (mp (wB v g) m):=by
 have e:aV (2*(v:Int))=some ((2*v:Nat):Int):=tK (m:=0) (by omega) (by omega);have f:aV (((2*v:Nat):Int)+(m:Int))=some ((2*v+m:Nat):Int):=tK (m:=0) (by omega) (by omega);have h:xN (mp g (C+1)) ((2*v:Nat):Int) ((2*v+m:Nat):Int)=some (mp (wB v g) m):=by
  rw[aK8 (show 2*v≤2*v+m by omega) k,show 2*v+m-2*v=m by omega];rfl
 have j:kA (mp (wB v g) m)=some (mp (wB v g) m):=by
  simp only[kA,aAp (show([]:List Rat).length+(mp (wB v g) m).length≤68719476736 by rw[fF];show 0+m≤_;omega),oB,List.nil_append]
 constructor
 ·simp only[jA,e,f,h,j,oB]
 ·simp only[gF,e,f,h,j,oB]
theorem aAy{w b B:Nat}(h:w*(b+1)≤B)(hw:0<w):b+1≤B:=Nat.le_trans (Nat.le_mul_of_pos_left (b+1) hw) h
theorem aIm{f:Nat→Rat}{w b:Nat}(j:∀c,c<w→Bd b (f c))(hB:w*(b+1)≤1000000000)(hw:w≤1000)(K:Nat):∀(t i k:Nat),i+t=w→t<k→Bd (1+i*(b+1)) (sm f i)→pG K (mp f w) k (sm f i) (i:Int)=some (sm f w)
 |0,i,k,u,e,h=>by
  obtain⟨q,rfl,_⟩:=cF e;have:i=w:=by omega
  subst this;simp only[pG,fF,dF (show¬(i:Int)<(i:Int) by omega),eD]
 |t+1,i,k,u,e,h=>by
  obtain⟨q,rfl,_⟩:=cF e;have s:=j i (by omega);have hb:=aAy hB (by omega);have hib:i*(b+1)≤w*(b+1):=Nat.mul_le_mul_right _ (by omega);have hs:1+i*(b+1)+b+1=1+(i+1)*(b+1):=by rw[Nat.add_mul];omega
  simp only[pG,fF,dT (show(i:Int)<(w:Int) by omega),d9,nM (f:=f) (show i<w by omega),oB,aJR h s (by omega) (by omega),ckS (i:=i) (by omega)];exact aIm j hB hw K t (i+1) q (by omega) (by omega) (by simp only[sm];exact(h.add s).mono (by omega))
theorem aDd{f e:Nat→Rat}{w b b':Nat}(j:∀c,c<w→Bd b (f c))(he:∀c,c<w→Bd b' (e c))(hB:w*(b+b'+1)≤1000000000)(hw:w≤1000)(K:Nat):∀(t i k:Nat),i+t=w→t<k→oO K (mp f w) (mp e w) k (mp (fun c=>f c*e c) i) (i:Int)=some (mp (fun c=>f c*e c) w)
 |0,i,k,s,h=>by
  obtain⟨q,rfl,_⟩:=cF h;have:i=w:=by omega
  subst this;simp only[oO,fF,Int.min_self,dF (show¬(i:Int)<(i:Int) by omega),eD]
 |t+1,i,k,s,h=>by
  obtain⟨q,rfl,_⟩:=cF h;have hb:=aAy hB (by omega);simp only[oO,fF,Int.min_self,dT (show(i:Int)<(w:Int) by omega),d9,nM (f:=f) (show i<w by omega),nM (f:=e) (show i<w by omega),oB,aEg (j i (by omega)) (he i (by omega)) (by omega) (by omega),apM (g:=fun c=>f c*e c) (i:=i) (by omega),ckS (i:=i) (by omega)];exact aDd j he hB hw K t (i+1) q (by omega) (by omega)
theorem aEO{f e:Nat→Rat}{w b b':Nat}(h:∀c,c<w→Bd b (f c))(he:∀c,c<w→Bd b' (e c))(hB:w*(b+b'+1)≤1000000000)(hw:w≤1000){K:Nat}(j:w<K):kX K (mp f w) (mp e w)=some (sm (fun c=>f c*e c) w):=by
 have k:=aDd h he hB hw K w 0 K (by omega) j;have q:=aIm (f:=fun c=>f c*e c) (b:=b+b') (fun c hc=>(h c hc).mul (he c hc)) hB hw K w 0 K (by omega) j (Bd.zero.mono (by omega));simp only[Int.natCast_zero,aGq,sm]at k q;simp only[kX,k,oB,tG,zB,q,uI]
theorem aCm{v m:Nat}{A:Nat→Nat→Rat}{β:Nat→Rat}{p:aB}(hp:p.vars=(v:Int))(K:Nat):∀(t i k:Nat),i+t=m→t<k→m≤1000→eI K (mp (zF v A β) m) (mF p) k (i:Int)=some (.go ())
 |0,i,k,j,e,hm=>by
  obtain⟨h,rfl,_⟩:=cF e;simp only[eI,fF,dF (show¬(i:Int)<(m:Int) by omega),eD]
 |t+1,i,k,j,e,hm=>by
  obtain⟨h,rfl,_⟩:=cF e;have hs:(zF v A β i).a=mp (A i) v:=rfl;simp only[eI,fF,dT (show(i:Int)<(m:Int) by omega),d9,nM (f:=zF v A β) (show i<m by omega),oB,mF,hs,hp,nF (rfl:(v:Int)=(v:Int)),eD,ckS (i:=i) (by omega)];exact aCm hp K t (i+1) h (by omega) (by omega) hm
theorem aG5{v m:Nat}{A:Nat→Nat→Rat}{β γ:Nat→Rat}(hv:v≤32)(hm:m≤64){K:Nat}(e:m<K):mJ K (rI v m A β γ)=some 0:=by
 have h:=aCm (m:=m) (A:=A) (β:=β) (p:=rI v m A β γ) rfl K m 0 K (by omega) e (by omega);rw[Int.natCast_zero]at h;have f:(rI v m A β γ).lines=mp (zF v A β) m:=rfl;have hvr:(rI v m A β γ).vars=(v:Int):=rfl;have j:(rI v m A β γ).goal=mp γ v:=rfl;simp only[mJ,f,hvr,j,fF,dF (show¬(32:Int)<(v:Int) by omega),dF (show¬(64:Int)<(m:Int) by omega),dF (show¬(v:Int)<0 by omega),nF (rfl:(v:Int)=(v:Int)),eD,iF,mE,h,kQ,oB,dF (show¬(0:Int)≤-1 by omega)]
structure SPk (v m M B:Nat) (A:Nat→Nat→Rat) (β γ:Nat→Rat) (D:Rat):Prop where
 D0:D≠0
 DM:uA M D
 zA:∀i k,i<m→k<v→uA M (A i k*D)
 zβ:∀i,i<m→uA M (β i*D)
 zγ:∀k,k<v→uA M (γ k*D)
 hv:v≤8
 hm:m≤12
 hM:(64*M)^(m+1)<2^B
 hB1:1≤B
 hB:B≤1000000
section
variable {v m M B:Nat} {A:Nat→Nat→Rat} {β γ:Nat→Rat} {D:Rat}
theorem uA.sg{x:Rat}{M:Nat}(h:uA M x):uA M (-x):=by
 obtain⟨q,e,f⟩:=h;exact⟨-q,by rw[e];exact(Rat.intCast_neg q).symm,by omega⟩
theorem aKn{β:Nat→Rat}{i M:Nat}{x D:Rat}(h:uA M (x*D)):uA M (zE β i x*D):=by
 unfold zE;split
 ·rw[Rat.neg_mul];exact h.sg
 ·exact h
theorem SPk.zZ(h:SPk v m M B A β γ D):∀i k,i<m→k<2*v+2*m+1→uA M (kE v m A β i k*D):=fun i k e f=>by
 have z0:uA M (0*D):=by rw[Rat.zero_mul];exact uA.zero.mono (Nat.zero_le _)
 have z1:uA M (1*D):=by rw[Rat.one_mul];exact h.DM
 unfold kE;split
 ·exact aKn (h.zA i k e (by omega))
 ·split
  ·exact aKn (by rw[Rat.neg_mul];exact(h.zA i (k-v) e (by omega)).sg)
  ·split
   ·split
    ·exact aKn z1
    ·exact z0
   ·split
    ·split
     ·exact z1
     ·exact z0
    ·exact aKn (h.zβ i e)
theorem SPk.z1(h:SPk v m M B A β γ D):∀k,uA M (cs1 v m k*D):=fun k=>by
 have z0:uA M (0*D):=by rw[Rat.zero_mul];exact uA.zero.mono (Nat.zero_le _)
 have z1:uA M (1*D):=by rw[Rat.one_mul];exact h.DM
 unfold cs1;split<;>assumption
theorem SPk.z2(h:SPk v m M B A β γ D):∀k,uA M (cs2 v γ k*D):=fun k=>by
 have z0:uA M (0*D):=by rw[Rat.zero_mul];exact uA.zero.mono (Nat.zero_le _)
 unfold cs2;split
 ·rename_i e;rw[Rat.neg_mul];exact(h.zγ k e).sg
 ·split
  ·exact h.zγ _ (by omega)
  ·exact z0
theorem SPk.s1(h:SPk v m M B A β γ D):Szx m (2*v+2*m) B (kE v m A β) (cs1 v m):=fun T g b e=>
 e.bd h.D0 h.DM h.zZ (fun k _=>h.z1 k) (by have:=h.hm;omega) h.hM
theorem SPk.s2(h:SPk v m M B A β γ D):Szx m (2*v+2*m) B (kE v m A β) (cs2 v γ):=fun T g b e=>
 e.bd h.D0 h.DM h.zZ (fun k _=>h.z2 k) (by have:=h.hm;omega) h.hM
theorem SPk.bZ(h:SPk v m M B A β γ D):Bdx m (2*v+2*m+1) B (kE v m A β):=(h.s1 _ _ _ aIO.1).1
theorem SPk.bA(h:SPk v m M B A β γ D):Bdx m v B A:=fun i k e f=>by
 have:=h.bZ i k e (by omega);rw[aFJ f,←zD]at this;unfold zE at this;split at this
 ·have:=this.neg;rwa [Rat.neg_neg]at this
 ·exact this
theorem SPk.bβ(h:SPk v m M B A β γ D):∀i,i<m→Bd B (β i):=fun i e=>by
 have:=h.bZ i (2*v+2*m) e (by omega);rw[aD5,←zD]at this;unfold zE at this;split at this
 ·have:=this.neg;rwa [Rat.neg_neg]at this
 ·exact this
theorem SPk.bγ(h:SPk v m M B A β γ D):∀k,k<v→Bd B (γ k):=fun k q=>by
 have s:SX 0 (2*v+2*m) (kE v m A β) (cs2 v γ) (kE v m A β) (cs2 v γ) (fun _=>0):=
  ⟨⟨⟨fun _ _=>0,fun i _ f=>by omega⟩,fun j t=>by omega,fun i _ f=>by omega⟩,fun i f=>by omega,fun x _ i f=>by omega,fun i f=>by omega,⟨fun _=>0,fun k _=>by show _=_-0;grind⟩⟩
 have hM:(64*M)^(0+1)<2^B:=by
  refine Nat.lt_of_le_of_lt ?_ h.hM;by_cases e:64*M=0
  ·rw[e];exact Nat.zero_le _
  ·exact Nat.pow_le_pow_right (by omega) (by omega)
 have hb:=(s.bd (B:=B) h.D0 h.DM (fun i _ f=>by omega) (fun k _=>h.z2 k) (by omega) hM).2 k (by omega);unfold cs2 at hb;rw[if_pos q]at hb;have:=hb.neg
 rwa [Rat.neg_neg]at this
structure aIl (v m B:Nat) (A:Nat→Nat→Rat) (β γ:Nat→Rat) (a:aL):Prop where
 is:(a.kind=1∧a.x=[]∧a.value=0∧∃Y,a.y=mp Y m∧aJE v m A β Y∧∀i,i<m→Bd B (Y i))∨
  (a.kind=2∧a.value=0∧∃X Y,a.x=mp X v∧a.y=mp Y v∧aJT v m A β γ X Y∧(∀i,i<v→Bd (2*B+1) (X i))∧∀i,i<v→Bd (2*B+1) (Y i))∨
  (a.kind=0∧∃X Y,a.x=mp X v∧a.y=mp Y m∧a.value=sm (fun k=>γ k*X k) v∧aH4 v m A β γ X Y∧(∀i,i<v→Bd (2*B+1) (X i))∧∀i,i<m→Bd B (Y i))
theorem aC6(h:SPk v m M B A β γ D):∃a:aL,aIl v m B A β γ a∧∀K,(2*v+2*m)^m+1000≤K→fU K (rI v m A β γ)=some (a,0):=by
 have hv:=h.hv;have hm:=h.hm;have hB:=h.hB;have hB1:=h.hB1;have hbA:=h.bA;have hbβ:=h.bβ;have hbγ:=h.bγ;have e1:aV (2*(v:Int))=some ((2*v:Nat):Int):=tK (m:=0) (by omega) (by omega);have e2:aV (((2*v:Nat):Int)+(m:Int))=some ((2*v+m:Nat):Int):=tK (m:=0) (by omega) (by omega);have hvr:(rI v m A β γ).vars=(v:Int):=rfl;have hgo:(rI v m A β γ).goal=mp γ v:=rfl;have hx0:=aIO (v:=v) (m:=m) (A:=A) (β:=β);have one:Bd B (1:Rat):=Bd.mono (m:=1) (by constructor<;>decide) hB1;have bc1:∀k,Bd B (cs1 v m k):=fun k=>by unfold cs1;split;exact one;exact Bd.zero.mono hB1
 have bp:∀(c:Nat→Rat) (T:Nat→Nat→Rat) (b:Nat→Nat),TI m (2*v+2*m+1) (kE v m A β) T b→(∀i,i<m→b i<2*v+2*m)→(∀k,k<2*v+2*m+1→Bd B (c k))→Bdx m (2*v+2*m+1) B T→∀j,j≤m→∀k,k<2*v+2*m+1→Bd (40*B) (prc c T b j k):=fun c T b ti hb hc hT j hj k hk=>by
  refine(aHF (B0:=B) (B:=B) (fun i x=>by have:=hb i x;omega) hc hT (fun i x j hj=>by rw[aGT ti j (by omega) i x,if_neg (by omega)]) j hj k hk).mono ?_;have h1:j*(B+B+1)≤12*(3*B):=Nat.mul_le_mul (by omega) (by omega);omega
 obtain⟨o1,s1,hs1⟩:=aDk (f:=(2*v+2*m)^m) hx0 (Nat.le_refl _) (Nat.le_refl _);obtain⟨I,_,hn1,hc1⟩:=aBV (P:=fun _=>True) (Nat.le_refl _) (fun _ _ _ _ _ _ _ _=>trivial) _ _ _ _ hx0 trivial hs1;have ho1:o1=none:=by
  cases o1 with
  |none=>rfl
  |some col=>
   obtain⟨c1,c2,c3⟩:=hc1 col rfl;exact(aI4 I c1 c2 c3).elim
 subst ho1;obtain⟨bT1,bg1⟩:=h.s1 _ _ _ I.1;have hW:∀K,(2*v+2*m)^m+1000≤K→∃z,sA m (2*v+2*m+1) z id s1.t∧fU K (rI v m A β γ)=bif(decide (s1.g (2*v+2*m)<0)) then some ((⟨1,([]:List Rat),mp (wB v s1.g) m,0⟩:aL),0) else((jL K ((2*v+m:Nat):Int) (v:Int) (m:Int) ((2*v+2*m:Nat):Int) (mp id m) (mp s1.g (2*v+2*m+1)) (mp (iI s1.b) m) z).bind fun F=>(fH K (kO (rI v m A β γ)) (v:Int) (m:Int) ((2*v+2*m:Nat):Int) F.1 F.2.1 F.2.2.1 F.2.2.2).bind fun v94=>(gL K ((2*v+m:Nat):Int) (v:Int) (m:Int) ((2*v+2*m:Nat):Int) F.1 v94 F.2.2.1 F.2.2.2).bind fun q=>bif(decide (0≤q.1)) then((fI K (v:Int) (m:Int) ((2*v+2*m:Nat):Int) q.1 q.2.1 q.2.2.1 q.2.2.2.1 q.2.2.2.2).bind fun L=>(d7 K (v:Int) (m:Int) ((2*v+2*m:Nat):Int) q.2.1 q.2.2.1 q.2.2.2.1 q.2.2.2.2).bind fun v123=>some ((⟨2,v123,L,0⟩:aL),0)) else((d7 K (v:Int) (m:Int) ((2*v+2*m:Nat):Int) q.2.1 q.2.2.1 q.2.2.2.1 q.2.2.2.2).bind fun V=>(gF (v:Int) (m:Int) ((2*v+2*m:Nat):Int) q.2.2.1 q.2.1 q.2.2.2.1 q.2.2.2.2).bind fun v131=>(kX K (mp γ v) V).bind fun v133=>some ((⟨0,V,v131,v133⟩:aL),0))):=fun K hK=>by
  have mk:=aJS (γ:=γ) hbA hbβ hB1 (by omega) (by omega) (by omega) (show v<K by omega) (show m<K by omega);have ha1:∀k:Nat,k<2*v+2*m→mB ((2*v+m:Nat):Int) (k:Int)=some (cs1 v m k):=fun k hk=>by
   unfold mB cs1;by_cases e:2*v+m≤k
   ·rw[dT (show((2*v+m:Nat):Int)≤(k:Int) by omega),d9,aJy,oB,if_pos ⟨e,hk⟩]
   ·rw[dF (show¬((2*v+m:Nat):Int)≤(k:Int) by omega),eD,if_neg (fun h=>e h.1)]
  have pr:=aIY (a1:=(v:Int)) (a2:=(m:Int)) (a5:=[]) (K:=K) aE6 ha1 aIa (fun i x=>by have:=aBF (v:=v) (β:=β) x;omega) (h.bZ.mono (show B≤40*B by omega)) (bp _ _ _ aGC (fun i x=>aBF x) (fun k _=>bc1 k) h.bZ) (by omega) (by omega) (by omega) (by omega);obtain⟨z,r1,r2⟩:=aIb (a1:=(v:Int)) (a2:=(m:Int)) (K:=K) h.s1 (Nat.le_refl _) (by omega) (by omega) (by omega) (by omega) (by omega) aE6 hx0 hs1;have sl:=(aHS (v:=v) (m:=m) (C:=2*v+2*m) (g:=s1.g) (a2:=((2*v+2*m:Nat):Int)) (a3:=mp id m) (a5:=mp (iI s1.b) m) (a6:=z) (by omega) (by omega) (by omega)).1;refine⟨z,r1,?_⟩;have e0:(prc (cs1 v m) (kE v m A β) (vS v m β) m)=(st0 v m A β).g:=rfl;have U:vS v m β=(st0 v m A β).b:=rfl;rw[e0,U]at pr;rw[U]at mk;have e3:decide ((s1.g (2*v+2*m)).num.sign<0)=decide (s1.g (2*v+2*m)<0):=by rw[decide_eq_decide];exact aBi
  simp only[fU,aG5 (show v≤32 by omega) (show m≤64 by omega) (show m<K by omega),oB,nF (rfl:(0:Int)=0),eD,mk,hvr,hgo,e1,e2,pr,r2,nM (f:=s1.g) (show 2*v+2*m<2*v+2*m+1 by omega),uB (bg1 (2*v+2*m) (by omega)) (show B≤1073741824 by omega),sl,e3]
 by_cases hC:s1.g (2*v+2*m)<0
 ·refine⟨⟨1,[],mp (wB v s1.g) m,0⟩,⟨Or.inl ⟨rfl,rfl,rfl,wB v s1.g,rfl,aKu I (hn1 rfl) hC,fun i x=>bg1 _ (by omega)⟩⟩,fun K hK=>?_⟩;obtain⟨z,r1,r2⟩:=hW K hK;rw[r2,decide_eq_true hC,d9]
 ·obtain⟨O,ha2⟩:=aD6 m 0 s1 (by omega) I (aKh I hC) (fun j hj=>by omega);have hx3:=aMj (γ:=γ) O;obtain⟨o2,u,hs4⟩:=aDk (en:=2*v+m) (f:=(2*v+2*m)^m) hx3 (by omega) (Nat.le_refl _);obtain⟨y,ha4,hn4,hc4⟩:=aBV (P:=Art v m) (show 2*v+m≤2*v+2*m by omega) (fun s r col hx ha hr hc hp=>aIF hx ha hr hc hp) _ _ _ _ hx3 ha2 hs4;obtain⟨bT2,_⟩:=h.s1 _ _ _ O.1;obtain⟨J,bg4⟩:=h.s2 _ _ _ y.1;have bX:∀i,i<v→Bd (2*B+1) (spt u.t u.b m v (2*v+2*m) i):=fun i x=>
   ((aBN y.1.ti hB1 fun i x=>J i _ x (by omega)).sub (aBN y.1.ti hB1 fun i x=>J i _ x (by omega))).mono (by omega)
  have bc2:∀k,Bd B (cs2 v γ k):=fun k=>by
   unfold cs2;split
   ·exact(hbγ k (by omega)).neg
   ·split
    ·exact hbγ _ (by omega)
    ·exact Bd.zero.mono hB1
  have hV:∀K,(2*v+2*m)^m+1000≤K→∃G,sA m (2*v+2*m+1) G id u.t∧fU K (rI v m A β γ)=bif(decide (0≤oi o2)) then((fI K (v:Int) (m:Int) ((2*v+2*m:Nat):Int) (oi o2) (mp id m) (mp u.g (2*v+2*m+1)) (mp (iI u.b) m) G).bind fun L=>some ((⟨2,mp (spt u.t u.b m v (2*v+2*m)) v,L,0⟩:aL),0)) else some ((⟨0,mp (spt u.t u.b m v (2*v+2*m)) v,mp (wB v u.g) m,sm (fun k=>γ k*spt u.t u.b m v (2*v+2*m) k) v⟩:aL),0):=fun K hK=>by
   obtain⟨z,r1,r2⟩:=hW K hK;obtain⟨rs2,q1,q2⟩:=aA2 (last:=2*v+m) (a1:=(v:Int)) (a2:=(m:Int)) (a6:=mp (iI s1.b) m) (fF _ _) h.s1 (by omega) (by omega) (by omega) (by omega) (show 2*v+2*m+1+m<K by omega) m 0 K s1 z (by omega) (by omega) r1 I.1;rw[Int.natCast_zero]at q2;have ha2':∀k:Nat,k<2*v+2*m→kO (rI v m A β γ) (k:Int)=some (cs2 v γ k):=fun k hk=>by
    unfold kO cs2;rw[hvr,hgo];by_cases e:k<v
    ·rw[dT (show(k:Int)<(v:Int) by omega),d9,nM (f:=γ) e,oB,aBD (hbγ k e) (show B≤1073741824 by omega),oB,if_pos e]
    ·rw[dF (show¬(k:Int)<(v:Int) by omega),eD,e1,oB,if_neg e];by_cases e':k<2*v
     ·have ek:aV ((k:Int)-(v:Int))=some ((k-v:Nat):Int):=tK (m:=0) (by omega) (by omega);rw[dT (show(k:Int)<((2*v:Nat):Int) by omega),d9,ek,oB,nM (f:=γ) (show k-v<v by omega),oB,if_pos e']
     ·rw[dF (show¬(k:Int)<((2*v:Nat):Int) by omega),eD,if_neg e']
   have c2C:cs2 v γ (2*v+2*m)=0:=by unfold cs2;rw[if_neg (by omega),if_neg (by omega)]
   have pr:=aIY (a1:=(v:Int)) (a2:=(m:Int)) (a5:=mp (sdr (2*v+m) m 0 s1).g (2*v+2*m+1)) (K:=K) q1 ha2' c2C (fun i x=>by have:=O.1.lt i x;omega) (bT2.mono (show B≤40*B by omega)) (bp _ _ _ O.1.ti O.1.lt (fun k _=>bc2 k) bT2) (by omega) (by omega) (by omega) (by omega);obtain⟨G,u1,u2⟩:=aIb (s:=st2 v m γ (sdr (2*v+m) m 0 s1)) (a1:=(v:Int)) (a2:=(m:Int)) (K:=K) h.s2 (show 2*v+m≤2*v+2*m by omega) (by omega) (by omega) (by omega) (by omega) (by omega) q1 hx3 hs4;have e0:prc (cs2 v γ) (sdr (2*v+m) m 0 s1).t (sdr (2*v+m) m 0 s1).b m=(st2 v m γ (sdr (2*v+m) m 0 s1)).g:=rfl;have U:(st2 v m γ (sdr (2*v+m) m 0 s1)).b=(sdr (2*v+m) m 0 s1).b:=rfl;rw[e0]at pr;rw[U]at u2;have p2:=aLX (v:=v) (a1:=(m:Int)) (a4:=mp u.g (2*v+2*m+1)) (K:=K) y.1.ti u1 J hB1 (by omega) (by omega) (by omega) (by omega) (by omega);have sl:=(aHS (v:=v) (m:=m) (C:=2*v+2*m) (g:=u.g) (a2:=((2*v+2*m:Nat):Int)) (a3:=mp id m) (a5:=mp (iI u.b) m) (a6:=G) (by omega) (by omega) (by omega)).2;have hd:v*(B+(2*B+1)+1)≤8*3000002:=Nat.mul_le_mul hv (by omega);have dt:=aEO (f:=γ) (e:=spt u.t u.b m v (2*v+2*m)) (w:=v) hbγ bX (by omega) (by omega) (show v<K by omega);refine⟨G,u1,?_⟩;rw[r2,decide_eq_false hC,eD];simp only[jL,q2,oB,jK,pr,u2,p2,sl,dt]
  cases o2 with
  |none=>
   refine⟨⟨0,mp (spt u.t u.b m v (2*v+2*m)) v,mp (wB v u.g) m,sm (fun k=>γ k*spt u.t u.b m v (2*v+2*m) k) v⟩,⟨Or.inr (Or.inr ⟨rfl,_,_,rfl,rfl,rfl,aJO y ha4 (hn4 rfl),bX,fun i x=>bg4 _ (by omega)⟩)⟩,fun K hK=>?_⟩;obtain⟨G,u1,u2⟩:=hV K hK;rw[u2,dF (show¬0≤oi none by decide),eD]
  |some col=>
   obtain⟨c1,c2,c3⟩:=hc4 col rfl;have hb:∀i,i<m→u.b i≠col:=fun i x e=>by
    have:=y.1.gb i x;rw[e]at this;rw[this]at c2;exact absurd c2 Rat.lt_irrefl
   have bY:∀i,i<v→Bd (2*B+1) (sry u.t u.b m v col i):=fun i x=>
    ((aDR y.1.ti hb hB1 fun i x=>J i _ x (by omega)).sub (aDR y.1.ti hb hB1 fun i x=>J i _ x (by omega))).mono (by omega)
   refine⟨⟨2,mp (spt u.t u.b m v (2*v+2*m)) v,mp (sry u.t u.b m v col) v,0⟩,⟨Or.inr (Or.inl ⟨rfl,rfl,_,_,rfl,rfl,aJ9 y ha4 c1 c2 c3,bX,bY⟩)⟩,fun K hK=>?_⟩;obtain⟨G,u1,u2⟩:=hV K hK;have e4:oi (some col)=(col:Int):=rfl;have p1:=aLR (v:=v) (a1:=(m:Int)) (a5:=mp u.g (2*v+2*m+1)) (K:=K) y.1.ti u1 (show col<2*v+2*m+1 by omega) hb J hB1 (by omega) (by omega) (by omega) (by omega) (by omega);rw[u2,e4,dT (show(0:Int)≤(col:Int) by omega),d9,p1,oB]
end
/-- The points of a program. -/
def aAS(v m:Nat)(A:Nat→Nat→Rat)(β X:Nat→Rat):Prop:=∀i,i<m→sm (fun k=>A i k*X k) v≤β i
def Kd(F:(Nat→Rat)→Prop)(v:Nat)(γ:Nat→Rat)(kind:Int)(val:Rat):Prop:=
 (kind=1∧val=0∧∀X,¬F X)∨(kind=2∧val=0∧∀b:Rat,∃X,F X∧b<sm (fun k=>γ k*X k) v)∨(kind=0∧(∃X,F X∧sm (fun k=>γ k*X k) v=val)∧∀X,F X→sm (fun k=>γ k*X k) v≤val)
section
variable {v m:Nat} {A:Nat→Nat→Rat} {β γ X Y:Nat→Rat}
theorem aJA{A:Nat→Nat→Rat}{Y x γ:Nat→Rat}{v m:Nat}(h:∀k,k<v→sm (fun i=>Y i*A i k) m=γ k):sm (fun k=>γ k*x k) v=sm (fun i=>Y i*sm (fun k=>A i k*x k) v) m:=by
 have e:sm (fun k=>γ k*x k) v=sm (fun k=>sm (fun i=>Y i*(A i k*x k)) m) v:=bF fun k f=>by
  rw[←h k f,←xX];exact bF fun i _=>by grind
 rw[e,yU];exact bF fun i _=>by rw[o8]
theorem aGr{f g:Nat→Rat}:∀{n:Nat},(∀i,i<n→f i≤g i)→sm f n≤sm g n
 |0,_=>Rat.le_refl
 |n+1,h=>by
  have e:=aGr (f:=f) (g:=g) (n:=n) fun i j=>h i (by omega)
  have k:=h n (by omega);show sm f n+f n≤sm g n+g n;grind
theorem aNC{Y γ X:Nat→Rat}(y0:∀i,i<m→0≤Y i)(eq:∀k,k<v→sm (fun i=>Y i*A i k) m=γ k)(f:aAS v m A β X):sm (fun k=>γ k*X k) v≤sm (fun i=>Y i*β i) m:=by
 rw[aJA eq];refine aGr fun i e=>?_
 have:=Rat.mul_nonneg (y0 i e) (show 0≤β i-sm (fun k=>A i k*X k) v by have:=f i e;grind);grind
theorem aJE.no(h:aJE v m A β Y)(X:Nat→Rat):¬aAS v m A β X:=fun e=>by
 have f:=aNC h.y0 (γ:=fun _=>0) h.eq e;rw[lQ fun k _=>Rat.zero_mul _]at f;have:=h.lt;grind
theorem aH4.top(h:aH4 v m A β γ X Y){X':Nat→Rat}(e:aAS v m A β X'):sm (fun k=>γ k*X' k) v≤sm (fun k=>γ k*X k) v:=by
 have:=aNC h.y0 h.eq e;rw[h.va]at this;exact this
theorem aJT.up'(h:aJT v m A β γ X Y)(b:Rat):∃X',aAS v m A β X'∧b<sm (fun k=>γ k*X' k) v:=by
 have j:=h.up;obtain⟨t,t0,s⟩:∃t:Rat,0≤t∧b<sm (fun k=>γ k*X k) v+t*sm (fun k=>γ k*Y k) v:=by
  by_cases hb:b<sm (fun k=>γ k*X k) v
  ·exact⟨0,Rat.le_refl,by rw[Rat.zero_mul,Rat.add_zero];exact hb⟩
  ·refine⟨(b-sm (fun k=>γ k*X k) v)/sm (fun k=>γ k*Y k) v+1,?_,?_⟩
   ·have:0≤(b-sm (fun k=>γ k*X k) v)/sm (fun k=>γ k*Y k) v:=by
     rw[Rat.div_def];exact Rat.mul_nonneg (by have:=Rat.not_lt.1 hb;grind) (Rat.le_of_lt (Rat.inv_pos.2 j))
    grind
   ·have:=aBH j;have e:((b-sm (fun k=>γ k*X k) v)/sm (fun k=>γ k*Y k) v+1)*sm (fun k=>γ k*Y k) v=b-sm (fun k=>γ k*X k) v+sm (fun k=>γ k*Y k) v:=by grind
    rw[e];grind
 have lin:∀f:Nat→Rat,sm (fun k=>f k*(X k+t*Y k)) v=sm (fun k=>f k*X k) v+t*sm (fun k=>f k*Y k) v:=fun f=>by
  rw[←o8,←aAk];exact bF fun k _=>by grind
 refine⟨fun k=>X k+t*Y k,fun i q=>?_,?_⟩
 ·rw[lin];have a:=h.fe i q;have c:=Rat.mul_nonneg t0 (show 0≤-(sm (fun k=>A i k*Y k) v) by have:=h.ra i q;grind);grind
 ·rw[lin];exact s
theorem aIl.kd{B:Nat}{a:aL}(h:aIl v m B A β γ a):Kd (aAS v m A β) v γ a.kind a.value:=by
 rcases h.is with⟨j,_,e,Y,_,f,_⟩|⟨j,e,X,Y,_,_,f,_,_⟩|⟨j,X,Y,_,_,e,f,_,_⟩
 ·exact Or.inl ⟨j,e,f.no⟩
 ·exact Or.inr (Or.inl ⟨j,e,f.up'⟩)
 ·exact Or.inr (Or.inr ⟨j,⟨X,f.fe,e.symm⟩,fun X' k=>by rw[e];exact f.top k⟩)
theorem Kd.more{F F':(Nat→Rat)→Prop}{k q:Int}{x y:Rat}(h:Kd F v γ k x)(s:Kd F' v γ q y)(e:∀X,F' X→F X):(k=1→q=1)∧(k=0→q≠2)∧(k=0→q=0→y≤x):=by
 refine⟨fun z=>?_,fun z t=>?_,fun z t=>?_⟩
 ·rcases h with⟨_,_,a3⟩|⟨a1,_,_⟩|⟨a1,_,_⟩
  ·rcases s with⟨f,_,_⟩|⟨_,_,j⟩|⟨_,⟨X',b2,_⟩,_⟩
   ·exact f
   ·obtain⟨X',u,_⟩:=j 0;exact(a3 _ (e X' u)).elim
   ·exact(a3 _ (e X' b2)).elim
  ·omega
  ·omega
 ·rcases h with⟨a1,_,_⟩|⟨a1,_,_⟩|⟨_,_,a4⟩
  ·omega
  ·omega
  ·rcases s with⟨f,_,_⟩|⟨_,_,j⟩|⟨f,_,_⟩
   ·omega
   ·obtain⟨X',u,hb⟩:=j x;have:=a4 _ (e X' u);grind
   ·omega
 ·rcases h with⟨a1,_,_⟩|⟨a1,_,_⟩|⟨_,_,a4⟩
  ·omega
  ·omega
  ·rcases s with⟨f,_,_⟩|⟨f,_,_⟩|⟨_,⟨X',b2,j⟩,_⟩
   ·omega
   ·omega
   ·have:=a4 _ (e X' b2);rw[j]at this;exact this
end
set_option maxRecDepth 100000 in
theorem aKi(K:Nat):aX (K+60)=some true:=by kernel_rfl
theorem aFz{K:Nat}(e:60≤K):aX K=some true:=by
 obtain⟨k,rfl⟩:=Nat.exists_eq_add_of_le e;rw[Nat.add_comm];exact aKi k
/-- A number whose sixfold is a small integer. -/
def G6(x:Rat):Prop:=uA 72 (x*6)
theorem aHK{p q:Int}(hp:-12≤p∧p≤12)(e:1≤q∧q≤3):G6 ((p:Rat)/q):=by
 have h:q=1∨q=2∨q=3:=by omega
 rcases h with rfl|rfl|rfl
 ·exact⟨p*6,by rw[Rat.intCast_mul];show(p:Rat)/1*6=p*6;grind,by omega⟩
 ·exact⟨p*3,by rw[Rat.intCast_mul];show(p:Rat)/2*6=p*3;grind,by omega⟩
 ·exact⟨p*2,by rw[Rat.intCast_mul];show(p:Rat)/3*6=p*2;grind,by omega⟩
theorem aMh:G6 0:=⟨0,by rw[Rat.zero_mul];rfl,by decide⟩
theorem aGc{v:Nat}(hv:v≤3):∀(t i:Nat) (n:Int),i+t=v→0≤n→n≤1073741824→∃ys:List Rat,ys.length=t∧(∀y∈ys,G6 y)∧∀(K k:Nat) (xs:List Rat),t<k→xs.length+t≤1000→fX K (v:Int) k xs n (i:Int)=some (xs++ys)
 |0,i,n,u,e,F=>⟨[],rfl,fun y f=>(List.not_mem_nil f).elim,fun K k xs h G=>by
  obtain⟨s,rfl,_⟩:=cF h;simp only[fX,dF (show¬(i:Int)<(v:Int) by omega),eD,List.append_nil]⟩
 |t+1,i,n,u,e,F=>by
  have m9:=aDF e (show(0:Int)<9 by omega);obtain⟨j,I⟩:∃j:Nat,n%9=j:=⟨(n%9).toNat,by omega⟩;obtain⟨z,J,_,hr⟩:=rdM (xs:=[0,1,(-1),0,2,(-2),1,3,(-3)]) (i:=j) (by simp only[List.length_cons,List.length_nil];omega);have L:-3≤z∧z≤3:=(show∀z∈([0,1,(-1),0,2,(-2),1,3,(-3)]:List Int),-3≤z∧z≤3 by decide) z J;have m2:=aDF (a:=n/9) (m:=2) (by omega) (by omega);obtain⟨ys,O,U,V⟩:=aGc hv t (i+1) (n/18) (by omega) (by omega) (by omega);have hq:=aDU (p:=z) (q:=1+n/9%2) (by omega) (by omega);refine⟨((z:Rat)/((1+n/9%2:Int):Rat))::ys,by simp[O],?_,fun K k xs h G=>?_⟩
  ·intro y f;rcases List.mem_cons.1 f with rfl|f
   ·exact aHK (by omega) (by omega)
   ·exact U y f
  ·obtain⟨s,rfl,_⟩:=cF h;have h3:=V K s (xs++[(z:Rat)/((1+n/9%2:Int):Rat)]) (by omega) (by simp;omega);simp only[fX,dT (show(i:Int)<(v:Int) by omega),d9,oV e (show(0:Int)<9 by omega),oB,I,hr,qL e (show(0:Int)<9 by omega) (by omega),oV (x:=n/9) (y:=2) (by omega) (by omega),qB (x:=1+n/9%2) (by omega),hq,apS (xs:=xs) (by omega),qL e (show(0:Int)<18 by omega) (by omega),ckS (i:=i) (by omega),h3,List.append_assoc,List.singleton_append]
theorem aI1{l:List Int}(h:aFg l){v:Nat}(hv:v≤3):∀(t i:Nat),i+t=v→∃ys:List Rat,ys.length=t∧(∀y∈ys,G6 y)∧∀(K k:Nat) (xs:List Rat),t<k→xs.length+t≤1000→gO K l (v:Int) k xs (i:Int)=some (xs++ys)
 |0,i,s=>⟨[],rfl,fun y e=>(List.not_mem_nil e).elim,fun K k xs f u=>by
  obtain⟨j,rfl,_⟩:=cF f;simp only[gO,dF (show¬(i:Int)<(v:Int) by omega),eD,List.append_nil]⟩
 |t+1,i,s=>by
  obtain⟨w,z,O,U⟩:=aK5 h (1+(i:Int)) (m:=7) (by omega);obtain⟨ys,F,G,I⟩:=aI1 h hv t (i+1) (by omega);have J:=aDU (p:=w-3) (q:=1) (by omega) (by omega);refine⟨(((w-3:Int):Rat)/((1:Int):Rat))::ys,by simp[F],?_,fun K k xs f u=>?_⟩
  ·intro y e;rcases List.mem_cons.1 e with rfl|e
   ·exact aHK (by omega) (by omega)
   ·exact G y e
  ·obtain⟨j,rfl,_⟩:=cF f;have L:=I K j (xs++[((w-3:Int):Rat)/((1:Int):Rat)]) (by omega) (by simp;omega);simp only[gO,dT (show(i:Int)<(v:Int) by omega),d9,qB (x:=1+(i:Int)) (by omega),oB,z,qB (x:=w-3) (by omega),J,apS (xs:=xs) (by omega),ckS (i:=i) (by omega),L,List.append_assoc,List.singleton_append]
structure GLn (v:Nat) (x:aA):Prop where
 len:x.a.length=v
 a:∀y∈x.a,G6 y
 b:G6 x.b
theorem aJh{l:List Int}(F:aFg l){v most:Nat}(hv:v≤3)(hm:most≤6):∀(t i:Nat),i+t=4+most→∃ys:List aA,ys.length≤t∧(∀y∈ys,GLn v y)∧∀(K k:Nat) (xs:List aA),10≤K→t<k→xs.length+t≤1000→cM K l (most:Int) (v:Int) k xs (i:Int)=some (xs++ys)
 |0,i,J=>⟨[],Nat.le_refl _,fun y f=>(List.not_mem_nil f).elim,fun K k xs u j G=>by
  obtain⟨z,rfl,_⟩:=cF j;have e:aV (4+(most:Int))=some (4+(most:Int)):=qB (by omega);by_cases h:(i:Int)<(l.length:Int)
  ·simp only[cM,dT h,d9,e,oB,dF (show¬(i:Int)<4+(most:Int) by omega),eD,List.append_nil]
  ·simp only[cM,dF h,eD,List.append_nil]⟩
 |t+1,i,J=>by
  have e:aV (4+(most:Int))=some (4+(most:Int)):=qB (by omega);by_cases h:i<l.length
  ·obtain⟨x,G,_,hr⟩:=rdM (xs:=l) (i:=i) h;obtain⟨n,L,s,n3⟩:=aDw (F x G) (m:=1073741824) (by omega);have O:=aDF s (show(0:Int)<19 by omega);have m3:=aDF (a:=n/19) (m:=3) (by omega) (by omega);obtain⟨az,a1,a2,a3⟩:=aGc hv v 0 (n/57) (by omega) (by omega) (by omega);obtain⟨ys,y1,U,V⟩:=aJh F hv hm t (i+1) (by omega);have hq:=aDU (p:=n%19-6) (q:=1+n/19%3) (by omega) (by omega);refine⟨⟨az,((n%19-6:Int):Rat)/((1+n/19%3:Int):Rat)⟩::ys,by simp;omega,?_,fun K k xs u j hxs=>?_⟩
   ·intro y f;rcases List.mem_cons.1 f with rfl|f
    ·exact⟨a1,a2,aHK (by omega) (by omega)⟩
    ·exact U y f
   ·obtain⟨z,rfl,_⟩:=cF j;have h3:=V K z (xs++[⟨az,((n%19-6:Int):Rat)/((1+n/19%3:Int):Rat)⟩]) u (by omega) (by simp;omega);have I:=a3 K K [] (by omega) (by simp;omega);rw[List.nil_append,Int.natCast_zero]at I;simp only[cM,dT (show(i:Int)<(l.length:Int) by omega),d9,e,oB,dT (show(i:Int)<4+(most:Int) by omega),hr,L,oV s (show(0:Int)<19 by omega),qB (x:=n%19-6) (by omega),qL s (show(0:Int)<19 by omega) (by omega),oV (x:=n/19) (y:=3) (by omega) (by omega),qB (x:=1+n/19%3) (by omega),hq,qL s (show(0:Int)<57 by omega) (by omega),I,mG,apS (xs:=xs) (by omega),ckS (i:=i) (by omega),h3,List.append_assoc,List.singleton_append]
  ·refine⟨[],by simp,fun y f=>(List.not_mem_nil f).elim,fun K k xs u j hxs=>?_⟩;obtain⟨z,rfl,_⟩:=cF j;simp only[cM,dF (show¬(i:Int)<(l.length:Int) by omega),eD,List.append_nil]
theorem aIN{α:Type}(d:α)(xs:List α):xs=mp (fun i=>xs.getD i d) xs.length:=by
 apply List.ext_getElem?;intro i;by_cases h:i<xs.length
 ·rw[aAq h,List.getD_eq_getElem?_getD,List.getElem?_eq_getElem h];rfl
 ·rw[List.getElem?_eq_none (by omega),List.getElem?_eq_none (by rw[fF];omega)]
def lnA(ls:List aA)(i k:Nat):Rat:=((ls.getD i ⟨[],0⟩).a).getD k 0
def lnB(ls:List aA)(i:Nat):Rat:=(ls.getD i ⟨[],0⟩).b
theorem aIu{v:Nat}{ls:List aA}(h:∀y∈ls,GLn v y):ls=mp (zF v (lnA ls) (lnB ls)) ls.length:=by
 conv=>lhs;rw[aIN (⟨[],0⟩:aA) ls]
 unfold mp;refine List.map_congr_left fun i j=>?_
 have f:i<ls.length:=List.mem_range.1 j;have k:ls.getD i ⟨[],0⟩∈ls:=by rw[List.getD_eq_getElem?_getD,List.getElem?_eq_getElem f];exact List.getElem_mem f
 have q:=(h _ k).len;show ls.getD i ⟨[],0⟩=⟨mp (lnA ls i) v,lnB ls i⟩;have e:=aIN (0:Rat) (ls.getD i ⟨[],0⟩).a;rw[q]at e;have s:mp (lnA ls i) v=(ls.getD i ⟨[],0⟩).a:=e.symm;rw[s];rfl
theorem G6.getD{xs:List Rat}(h:∀y∈xs,G6 y)(k:Nat):G6 (xs.getD k 0):=by
 by_cases e:k<xs.length
 ·rw[List.getD_eq_getElem?_getD,List.getElem?_eq_getElem e];exact h _ (List.getElem_mem e)
 ·rw[List.getD_eq_getElem?_getD,List.getElem?_eq_none (by omega)];exact aMh
theorem aHG{v:Nat}{ls:List aA}(h:∀y∈ls,GLn v y)(i k:Nat):G6 (lnA ls i k):=by
 unfold lnA;by_cases f:i<ls.length
 ·have j:ls.getD i ⟨[],0⟩∈ls:=by rw[List.getD_eq_getElem?_getD,List.getElem?_eq_getElem f];exact List.getElem_mem f
  exact G6.getD (h _ j).a k
 ·have e:ls.getD i ⟨[],0⟩=⟨[],0⟩:=by rw[List.getD_eq_getElem?_getD,List.getElem?_eq_none (by omega)];rfl
  rw[e];exact aMh
theorem aIT{v:Nat}{ls:List aA}(h:∀y∈ls,GLn v y)(i:Nat):G6 (lnB ls i):=by
 unfold lnB;by_cases e:i<ls.length
 ·have f:ls.getD i ⟨[],0⟩∈ls:=by rw[List.getD_eq_getElem?_getD,List.getElem?_eq_getElem e];exact List.getElem_mem e
  exact(h _ f).b
 ·rw[List.getD_eq_getElem?_getD,List.getElem?_eq_none (by omega)];exact aMh
theorem aDq{l:List Int}(j:aFg l){most:Nat}(hm:most≤6){w:Int}(hw:gQ l 0 3=some w)(w0:0≤w)(F:w<3):∃(v:Nat) (ls:List aA) (g:List Rat),(v:Int)=1+w∧v≤3∧ls.length≤most∧(∀y∈ls,GLn v y)∧g.length=v∧(∀y∈g,G6 y)∧∀K,100≤K→lJ K l (most:Int)=some ⟨v,ls,g⟩:=by
 obtain⟨v,hv⟩:∃v:Nat,1+w=v:=⟨(1+w).toNat,by omega⟩;have e:v≤3:=by omega
 obtain⟨g,g1,q,s⟩:=aI1 j e v 0 (by omega);obtain⟨ls,t,u,z⟩:=aJh j e hm most 4 (by omega);refine⟨v,ls,g,hv.symm,e,t,u,g1,q,fun K G=>?_⟩;have f:=s K K [] (by omega) (by simp;omega);have k:=z K K [] (by omega) (by omega) (by simp;omega);rw[List.nil_append]at f k;rw[Int.natCast_zero]at f;have h:cM K l (most:Int) (v:Int) K [] 4=some ls:=k;simp only[lJ,hw,oB,hv,qB (x:=(v:Int)) (by omega),f,mS,h,mM]
theorem aF0{v m:Nat}{A:Nat→Nat→Rat}{β γ:Nat→Rat}(hv:v≤3)(hm:m≤8)(e:∀i k,G6 (A i k))(hβ:∀i,G6 (β i))(hγ:∀k,G6 (γ k)):SPk v m 72 110 A β γ 6:=by
 refine⟨by decide,⟨6,rfl,by decide⟩,fun i k _ _=>e i k,fun i _=>hβ i,fun k _=>hγ k,by omega,by omega,?_,by decide,by decide⟩;exact Nat.lt_of_le_of_lt (Nat.pow_le_pow_right (by decide) (show m+1≤9 by omega)) (by decide)
end Go.Proofs.YtnmdhmfofbfkjaaGreat
