/- Texts of the proof, part 5: Q2 Q3 QZ LB MA MB MC MR MT LG LV MS. -/
import Derived.Test.YtolfcbpgmfbgmaaGreatZ4
set_option linter.unusedSimpArgs false
set_option linter.unusedVariables false
set_option maxRecDepth 100000
namespace Go.Proofs.YtolfcbpgmfbgmaaGreat
def mF(K:Nat)(h:Int)(a1:Int)(a6:List Rat)(s:List Int)(e:List Nat)(f:List (List Rat)):Option ((List Nat)×(List Rat)×(List Int)×(List (List Rat))):=
 (bR e h).bind fun j=>(pJ K j a1 a6 f).bind fun k=>(bR s h).bind fun t=>(rW s h a1).bind fun q=>some (e,k,q,f)
def cR(K:Nat)(x:Int)(a1:Int)(a5:List Nat):Nat→(List Nat)→(List (List Rat))→Int→Option ((List Nat)×(List (List Rat)))
 |0,_,_,_=>none
 |k+1,e,h,f=>bif(decide (f<(a5.length:Int))) then((bR e f).bind fun j=>bif(f != x) then((bR e x).bind fun q=>(s6 K j q a1 h).bind fun s=>(aV (f+1)).bind fun t=>cR K x a1 a5 k e s t) else((aV (f+1)).bind fun u=>cR K x a1 a5 k e h u)) else(some (e,h))
def mE(K:Nat)(j:Int)(a1:Int)(a5:List Nat)(a6:List Rat)(k:List Int)(e:List (List Rat)):Option ((List Nat)×(List Rat)×(List Int)×(List (List Rat))):=
 (cR K j a1 a5 K a5 e 0).bind fun(f,h)=>mF K j a1 a6 k f h
def eP(K:Nat)(y:Int)(a5:List Nat)(z:List (List Rat))(q:Rat)(j:Nat):Nat→(List (List Rat))→Int→Option (List (List Rat))
 |0,_,_=>none
 |k+1,e,f=>bif(decide (f<((z.getD j []).length:Int))) then((bR (e.getD j []) f).bind fun s=>(bR a5 y).bind fun h=>(aG7 s q).bind fun t=>(bR (e.getD h []) f).bind fun F=>(rW (e.getD h []) f t).bind fun u=>(aV (f+1)).bind fun x=>eP K y a5 z q j k (e.set h u) x) else(some e)
def jX(K:Nat)(e:Int)(a1:Int)(a2:Int)(a3:Int)(a4:Int)(a5:List Nat)(a6:List Rat)(s:List Int)(f:List (List Rat)):Option ((List Nat)×(List Rat)×(List Int)×(List (List Rat))):=
 (bR a5 e).bind fun h=>(bR (f.getD h []) a1).bind fun j=>(bR a5 e).bind fun k=>(eP K e a5 f j k K f 0).bind fun q=>mE K e a1 a5 a6 s q
theorem vT{K:Nat}{a0:Int}{a1:Int}{a2:Int}{a3:Int}{a4:Int}{a5:List Nat}{a6:List Rat}{a7:List Int}{a8:List (List Rat)}{r:(List Nat)×(List Rat)×(List Int)×(List (List Rat))}(e:jX K a0 a1 a2 a3 a4 a5 a6 a7 a8=some r){p0:Nat}{b5:Option Nat}{c6 n7:Nat}{t:Option Nat}{u h:Nat}{x:Option Nat}{y j:Nat}{f:List rC}{N21:Nat}(q8:a5.length=n7)(q13:a6.length=h)(q18:a7.length=j)(q22:a8.length=N21)(q23:cN f a8)(G:∀k∈a5,k<N21):CtO Tryz.prog 151 ([⟨some p0,1,123,6,1,([vJ a2]++[vJ a3]++[vJ a4]++[pO b5 n7 c6]++[pO t h u]++[pO x j y])⟩,hO (cH f) b5 c6 24 n7 a5,hO cQ t u 42 h a6,hO cI x y 3 j a7]++eJ cQ 42 f a8) [.vc (pP (some p0) 0),vI a0,vI a1] (fun Ho q=>∃b1134 c1135 n1136 g1143 N1144,r.1.length=n1136∧r.2.1.length=h∧r.2.2.1.length=j∧r.2.2.2.length=N1144∧cN g1143 r.2.2.2∧(∀k∈r.1,k<N1144)∧Ho=([⟨some p0,1,123,6,1,([vJ a2]++[vJ a3]++[vJ a4]++[pO b1134 n1136 c1135]++[pO t h u]++[pO x j y])⟩,hO (cH g1143) b1134 c1135 24 n1136 r.1,hO cQ t u 42 h r.2.1,hO cI x y 3 j r.2.2.1]++eJ cQ 42 g1143 r.2.2.2)∧q=.any):=by
 unfold jX at e;refine aA Tryz.func151 rfl (by kernel_rfl) Tryz.ntmps151 rfl (fun w0 M0=>?_);obtain⟨z,F,v28,h29,e⟩:=u9 e;refine go ?_ ?_;refine aG (dX (4+z) rfl tyS24 (rE 4 rfl q23 q22 (G _ (aL F))) (cT q23 q22 (G _ (aL F))) (aB h29).1 (aB h29).2.1) zU2 ?_;refine aG (gZ (k:=4) (4+z) rfl (rE 4 rfl q23 q22 (G _ (aL F))) h29 rfl (.agg tyA42) rfl) zU1 ?_;refine aM rfl tyZ42q (fun b30=>?_);have e:=uS F e;refine go ?_ ?_;refine aG (aBU (C:=cQ) (xs:=(a8.getD z [])) (T:=42) rfl tyS24 (cT q23 q22 (G _ (aL F)))) zU1 ?_;refine go ?_ ?_;refine aJ (aY (fun H E=>∃(x43:List (List Rat)),mE K a0 a1 a5 a6 a7 x43=some r∧x43.length=N21∧cN f x43∧H=([⟨some p0,1,123,6,1,([vJ a2]++[vJ a3]++[vJ a4]++[pO b5 n7 c6]++[pO t h u]++[pO x j y])⟩,hO (cH f) b5 c6 24 n7 a5,hO cQ t u 42 h a6,hO cI x y 3 j a7]++eJ cQ 42 f x43)∧E=[(0,.vc (pP (some p0) 0)),(1,vI a0),(2,vI a1)]) ?_ (fun Jj48=>?_))
 ·rintro _ _ ⟨x43,e,q44,q45,rfl,rfl⟩;unfold mE at e;refine go ?_ ?_;refine aJ (aY (fun H E=>∃(x75:List Nat),∃(x81:List (List Rat)),∃(b76:Option Nat),∃(c77:Nat),∃(n78:Nat),∃(g82:List rC),∃(N83:Nat),mF K a0 a1 a6 a7 x75 x81=some r∧x75.length=n78∧x81.length=N83∧cN g82 x81∧(∀k∈x75,k<N83)∧H=([⟨some p0,1,123,6,1,([vJ a2]++[vJ a3]++[vJ a4]++[pO b76 n78 c77]++[pO t h u]++[pO x j y])⟩,hO (cH g82) b76 c77 24 n78 x75,hO cQ t u 42 h a6,hO cI x y 3 j a7]++eJ cQ 42 g82 x81)∧E=[(0,.vc (pP (some p0) 0)),(1,vI a0),(2,vI a1)]) ?_ (fun Jj88=>?_))
  ·rintro _ _ ⟨x75,x81,b76,c77,n78,g82,N83,e,q79,q84,q85,q86,rfl,rfl⟩;unfold mF at e;refine aH (aE ?_);obtain⟨v91,h92,e⟩:=aR e;refine dr [0,1,3,7,0,16,48,112,0,496,1008,0,4095] 12 1 ?_ (fun bs90 G89=>?_);obtain⟨v93,h94,e⟩:=aR e;refine oY 4 [2] [0,1,3] rfl (zP h94 q13 q84 q85 (q86 _ (aL h92))) ⟨rfl,rfl,rfl,zT⟩ rfl rfl rfl (by decide) ?_;rintro _ _ ⟨q95,rfl,rfl⟩;refine mB (kH [hO cQ t u 42 h v93] (eJ cQ 42 g82 x81) [⟨some p0,1,123,6,1,([vJ a2]++[vJ a3]++[vJ a4]++[pO b76 n78 c77]++[pO t h u]++[pO x j y])⟩,hO (cH g82) b76 c77 24 n78 x75,hO cI x y 3 j a7]) ?_;obtain⟨v97,h98,x99,h100,e⟩:=u9 e;obtain rfl:=iO e;refine go ?_ ?_;exact kM (.inr rfl) Tryz.results151 .nil rfl 4 [1,2,0,3] rfl rfl (by decide) ⟨b76,c77,n78,g82,N83,q79,q95,(bI h100 q18),q84,q85,q86,rfl,rfl⟩
  obtain⟨⟨x75',x81'⟩,hL,hRl87⟩:=aR e;refine dU (fun k a w=>∃(O:List Nat),∃(x68:List (List Rat)),∃(x74:Int),∃(U:Option Nat),∃(V:Nat),∃(J:Nat),∃(X:List rC),∃(N70:Nat),cR K a0 a1 a5 k O x68 x74=some (x75',x81')∧O.length=J∧x68.length=N70∧cN X x68∧(∀k∈O,k<N70)∧hs _ ([⟨some p0,1,123,6,1,([vJ a2]++[vJ a3]++[vJ a4]++[pO U J V]++[pO t h u]++[pO x j y])⟩,hO (cH X) U V 24 J O,hO cQ t u 42 h a6,hO cI x y 3 j a7]++eJ cQ 42 X x68) [(0,.vc (pP (some p0) 0)),(1,vI a0),(2,vI a1),(50,.vc (pO U J V)),(51,vI (a5.length:Int)),(52,vI x74)] a w) K (fun a w ⟨_,_,_,_,_,_,_,_,e,_,_,_,_,_⟩=>by cases e) (fun k a w ⟨O,x68,x74,U,V,J,X,N70,e,q66,q71,q72,q73,hh⟩=>dW ?_ hh) (fun a w hh=>⟨a5,x43,0,b5,c6,n7,f,N21,hL,q8,q44,q45,G,aQ 4 [0,1,2,3] rfl rfl (by decide) (by exact⟨rfl,rfl,rfl,rfl,rfl,rfl,zT⟩) hh⟩);rw[cR.eq_2]at e;refine go ?_ ?_;refine aD e rfl (fun h102 e=>?_) (fun h102 e=>?_)
  ·refine go ?_ ?_;refine aJ ?_;obtain⟨v103,h104,e⟩:=aR e;refine go ?_ ?_;refine aD e rfl (fun h105 e=>?_) (fun h105 e=>?_)
   ·obtain⟨v106,h107,v108,h109,e⟩:=u9 e;refine go ?_ ?_;refine oY 4 [] [0,1,2,3] rfl (aC5 h109 q71 q72 (q73 _ (aL h104)) (q73 _ (aL h107))) ⟨rfl,rfl,rfl,zT⟩ rfl rfl rfl (by decide) ?_;rintro _ _ ⟨q110,q111,rfl,rfl⟩;refine mB (kH [] (eJ cQ 42 X v108) [⟨some p0,1,123,6,1,([vJ a2]++[vJ a3]++[vJ a4]++[pO U J V]++[pO t h u]++[pO x j y])⟩,hO (cH X) U V 24 J O,hO cQ t u 42 h a6,hO cI x y 3 j a7]) ?_;obtain⟨v113,h114,e⟩:=aR e;refine go ?_ ?_;exact aF (fun a w hh=>⟨O,v108,v113,U,V,J,X,N70,e,q66,q110,q111,q73,aQ 4 [0,1,2,3] rfl rfl (by decide) (by exact⟨rfl,rfl,rfl,rfl,rfl,rfl,zT⟩) hh⟩)
   obtain⟨v115,h116,e⟩:=aR e;refine go ?_ ?_;exact aF (fun a w hh=>⟨O,x68,v115,U,V,J,X,N70,e,q66,q71,q72,q73,aQ 4 [0,1,2,3] rfl rfl (by decide) (by exact⟨rfl,rfl,rfl,rfl,rfl,rfl,zT⟩) hh⟩)
  refine bF ?_;obtain⟨rfl,rfl⟩:=sm2 e;exact dV Jj88 ⟨O,x68,U,V,J,X,N70,hRl87,q66,q71,q72,q73,rfl,rfl⟩ 4 [0,1,2,3] rfl rfl ⟨rfl,rfl,rfl,zT⟩
 obtain⟨x43',hL,hRl47⟩:=aR e;refine dU (fun k a w=>∃(x38:List (List Rat)),∃(x42:Int),eP K a0 a5 a8 v28 z k x38 x42=some x43'∧x38.length=N21∧cN f x38∧hs _ ([⟨some b30,1,42,4,1,(eQ v28)⟩,⟨some p0,1,123,6,1,([vJ a2]++[vJ a3]++[vJ a4]++[pO b5 n7 c6]++[pO t h u]++[pO x j y])⟩,hO (cH f) b5 c6 24 n7 a5,hO cQ t u 42 h a6,hO cI x y 3 j a7]++eJ cQ 42 f x38) [(0,.vc (pP (some p0) 0)),(1,vI a0),(2,vI a1),(6,.vc (pP (some b30) 0)),(27,.vc (pO (eI f z).1 (eI f z).2.1 (eI f z).2.2)),(28,vI ((a8.getD z []).length:Int)),(29,vI x42)] a w) K (fun a w ⟨_,_,e,_,_,_⟩=>by cases e) (fun k a w ⟨x38,x42,e,L,Y,hh⟩=>dW ?_ hh) (fun a w hh=>⟨a8,0,hL,q22,q23,aQ 5 [0,1,2,3,4] rfl rfl (by decide) (by exact⟨rfl,rfl,rfl,rfl,rfl,rfl,rfl,zT⟩) hh⟩);rw[eP.eq_2]at e;refine go ?_ ?_;refine aD e rfl (fun h117 e=>?_) (fun h117 e=>?_)
 ·refine go ?_ ?_;refine aJ ?_;obtain⟨v118,I,e⟩:=aR e;refine go ?_ ?_;refine aG (dX (5+z) rfl tyS24 (rE 5 rfl Y L (G _ (aL F))) (cT Y L (G _ (aL F))) (aB I).1 (aB I).2.1) zU2 ?_;refine aG (gZ (k:=4) (5+z) rfl (rE 5 rfl Y L (G _ (aL F))) I rfl (.agg tyA42) rfl) zU1 ?_;refine aM rfl tyZ42q (fun b120=>?_);have e:=uS F e;obtain⟨v125,h126,e⟩:=bE e w6;have e:=uS I e;refine go ?_ ?_;refine kO [0,1,3,7,0,31,63,0,0,0,768,2047,4095] 12 1 [.v (.vc (pP (some p0) 0)),.v (.vc (pP (some p0) 0)),.v (.vc (pP (some p0) 3)),.v (.vc (pO b5 n7 c6)),.v (vI a0),.v (.vc (pE b5 a0 (cH f).n 0)),.v (.vc (pO (eI f z).1 (eI f z).2.1 (eI f z).2.2)),.v (vI x42),.v (.va (eQ v118)),.v (.va (eQ v28)),.v (.va (eQ v125)),.v (.vc (pE (eI f z).1 x42 cQ.n 0))] bC ⟨d0 (aP (.inl rfl)) zU1,d0 (sM rfl) zU1,d0 (iG (off:=0) (k:=3) rfl tyF123_3) zU1,d0 (gM 2 1 rfl rfl rfl rfl (.one tyO23)) zU1,d0 (aP (.inl rfl)) zU1,d0 (dX (C:=(cH f)) 3 rfl tyS23 rfl q8 (aB F).1 (aB F).2.1) zU2,d0 (gZ (C:=(cH f)) (k:=1) 3 rfl rfl F rfl (.one tyO24) rfl) zU1,d0 (aP (.inl rfl)) zU1,d0 (gM 0 4 rfl rfl rfl rfl (.agg tyA42)) zU1,d0 (gM 1 4 rfl rfl rfl rfl (.agg tyA42)) zU1,d0 (bO rfl h126 rfl) zU2,d0 (dX (6+z) rfl tyS24 (fD 6 rfl Y L (G _ (aL F))) (cT Y L (G _ (aL F))) (aB I).1 (aB I).2.1) zU2,zT⟩ (fun bs122 G121=>?_);obtain⟨x129,h130,e⟩:=aR e;refine mI (xI (H':=([⟨some b120,1,42,4,1,(eQ v118)⟩,⟨some b30,1,42,4,1,(eQ v28)⟩,⟨some p0,1,123,6,1,([vJ a2]++[vJ a3]++[vJ a4]++[pO b5 n7 c6]++[pO t h u]++[pO x j y])⟩,hO (cH f) b5 c6 24 n7 a5,hO cQ t u 42 h a6,hO cI x y 3 j a7]++eJ cQ 42 f (x38.set z x129))) (6+z) rfl (rE 6 rfl Y L (G _ (aL F))) I h130 tyA42.s (hH:=stN 6 rfl Y L (G _ (aL F)))) zU2 ?_;obtain⟨v132,h133,e⟩:=aR e;refine go ?_ ?_;exact aF (fun a w hh=>⟨(x38.set z x129),v132,e,(aCL L),(aEP Y L (G _ (aL F)) (bI h130 rfl)),aQ 6 [1,2,3,4,5] rfl rfl (by decide) (by exact⟨rfl,rfl,rfl,rfl,rfl,rfl,rfl,zT⟩) hh⟩)
 refine bF ?_;obtain rfl:=iO e;exact dV Jj48 ⟨x38,hRl47,L,Y,rfl,rfl⟩ 5 [1,2,3,4] rfl rfl ⟨rfl,rfl,rfl,zT⟩
def jL(K:Nat)(e:List Nat)(f:List Rat)(h:List Int)(j:List (List Rat))(k:Bool)(q:Int):Option (Nat×(List Nat)×(List Rat)×(List Int)×(List (List Rat))×Bool×Int):=
 some (0,(e,f,h,j,k,q))
def bV(K:Nat)(a3:Int)(yF:Int→(List Nat)→(List Rat)→(List Int)→(List (List Rat))→Bool→Int→Option (Nat×(List Nat)×(List Rat)×(List Int)×(List (List Rat))×Bool×Int)):Nat→(List Nat)→(List Rat)→(List Int)→(List (List Rat))→Bool→Int→Int→Option (LR (Nat×(List Nat)×(List Rat)×(List Int)×(List (List Rat))×Bool×Int) ((List Nat)×(List Rat)×(List Int)×(List (List Rat))×Bool×Int))
 |0,_,_,_,_,_,_,_=>none
 |k+1,s,q,t,u,h,j,f=>bif(decide (f<a3)) then((bR q f).bind fun x=>(xR x).bind fun y=>bif(decide (y<0)) then((yF f s q t u h j).bind fun e=>bif Nat.beq e.1 0 then((aV (f+1)).bind fun z=>bV K a3 yF k e.2.1 e.2.2.1 e.2.2.2.1 e.2.2.2.2.1 e.2.2.2.2.2.1 e.2.2.2.2.2.2 z) else(some (.ret (e.1,(e.2.1,e.2.2.1,e.2.2.2.1,e.2.2.2.2.1,e.2.2.2.2.2.1,e.2.2.2.2.2.2))))) else((aV (f+1)).bind fun F=>bV K a3 yF k s q t u h j F)) else(some (.go (s,q,t,u,h,j)))
def gC(K:Nat)(yF:Int→(List Nat)→(List Rat)→(List Int)→(List (List Rat))→Bool→Int→Option (Nat×(List Nat)×(List Rat)×(List Int)×(List (List Rat))×Bool×Int))(x:Int)(a1:Int)(a2:Int)(a3:Int)(a4:Bool)(a5:Int)(a6:List Nat)(s:List Rat)(t:List Int)(u:List (List Rat)):Option (Nat×(List Nat)×(List Rat)×(List Int)×(List (List Rat))×Bool×Int):=
 (bV K a3 yF K a6 s t u a4 a5 0).bind fun o=>match o with| .ret r=>some r| .go (e,f,h,j,k,q)=>jL K e f h j k q
theorem yA{K:Nat}{yF:Int→(List Nat)→(List Rat)→(List Int)→(List (List Rat))→Bool→Int→Option (Nat×(List Nat)×(List Rat)×(List Int)×(List (List Rat))×Bool×Int)}{l:Nat}{x:LX}{jump:Nat→Code}{Mb:jW}{a0:Int}{a1:Int}{a2:Int}{a3:Int}{a4:Bool}{a5:Int}{a6:List Nat}{a7:List Rat}{a8:List Int}{a9:List (List Rat)}{G:Nat}{p1:Nat}{p2:Nat}{p3:Nat}{p4:Nat}{p5:Nat}{b5:Option Nat}{c6 n7:Nat}{s:Option Nat}{t e:Nat}{u:Option Nat}{y f:Nat}{g20:List rC}{N21:Nat}(hY:∀(k0:Int) (x26:List Nat) (x32:List Rat) (x38:List Int) (x44:List (List Rat)) (x50:Bool) (x51:Int) (r:Nat×(List Nat)×(List Rat)×(List Int)×(List (List Rat))×Bool×Int) (b27:Option Nat) (c28:Nat) (n29:Nat) (g45:List rC) (N46:Nat),x26.length=n29→x32.length=e→x38.length=f→x44.length=N46→cN g45 x44→(∀k∈x26,k<N46)→yF k0 x26 x32 x38 x44 x50 x51=some r→CtY Tryz.prog l x jump Mb ([⟨some G,1,123,6,1,([vJ a0]++[vJ a1]++[vJ a2]++[pO b27 n29 c28]++[pO s e t]++[pO u f y])⟩,⟨some p1,1,3,1,1,[vJ a3]⟩,⟨some p2,1,120,1,1,[pP (some G) 0]⟩,⟨some p3,1,4,1,1,[pB x50]⟩,⟨some p4,1,3,1,1,[vJ x51]⟩,⟨some p5,1,120,1,1,[pP (some G) 0]⟩,hO (cH g45) b27 c28 24 n29 x26,hO cQ s t 42 e x32,hO cI u y 3 f x38]++eJ cQ 42 g45 x44) [vI k0] (fun j Ho=>∃(I:Option Nat),∃(J:Nat),∃(z:Nat),∃(F:List rC),∃(L:Nat),j=r.1∧r.2.1.length=z∧r.2.2.1.length=e∧r.2.2.2.1.length=f∧r.2.2.2.2.1.length=L∧cN F r.2.2.2.2.1∧(∀k∈r.2.1,k<L)∧Ho=([⟨some G,1,123,6,1,([vJ a0]++[vJ a1]++[vJ a2]++[pO I z J]++[pO s e t]++[pO u f y])⟩,⟨some p1,1,3,1,1,[vJ a3]⟩,⟨some p2,1,120,1,1,[pP (some G) 0]⟩,⟨some p3,1,4,1,1,[pB r.2.2.2.2.2.1]⟩,⟨some p4,1,3,1,1,[vJ r.2.2.2.2.2.2]⟩,⟨some p5,1,120,1,1,[pP (some G) 0]⟩,hO (cH F) I J 24 z r.2.1,hO cQ s t 42 e r.2.2.1,hO cI u y 3 f r.2.2.2.1]++eJ cQ 42 F r.2.2.2.2.1))){r:Nat×(List Nat)×(List Rat)×(List Int)×(List (List Rat))×Bool×Int}(h:gC K yF a0 a1 a2 a3 a4 a5 a6 a7 a8 a9=some r)(q8:a6.length=n7)(q13:a7.length=e)(q18:a8.length=f)(q22:a9.length=N21)(q23:cN g20 a9)(q24:∀k∈a6,k<N21):CtI Tryz.prog 169 l x jump Mb ([⟨some G,1,123,6,1,([vJ a0]++[vJ a1]++[vJ a2]++[pO b5 n7 c6]++[pO s e t]++[pO u f y])⟩,⟨some p1,1,3,1,1,[vJ a3]⟩,⟨some p2,1,120,1,1,[pP (some G) 0]⟩,⟨some p3,1,4,1,1,[pB a4]⟩,⟨some p4,1,3,1,1,[vJ a5]⟩,⟨some p5,1,120,1,1,[pP (some G) 0]⟩,hO (cH g20) b5 c6 24 n7 a6,hO cQ s t 42 e a7,hO cI u y 3 f a8]++eJ cQ 42 g20 a9) [.vc (pY l),.vc (pP (some p1) 0),.vc (pP (some p2) 0)] (fun j Ho=>∃(I:Option Nat),∃(J:Nat),∃(z:Nat),∃(F:List rC),∃(L:Nat),j=r.1∧r.2.1.length=z∧r.2.2.1.length=e∧r.2.2.2.1.length=f∧r.2.2.2.2.1.length=L∧cN F r.2.2.2.2.1∧(∀k∈r.2.1,k<L)∧Ho=([⟨some G,1,123,6,1,([vJ a0]++[vJ a1]++[vJ a2]++[pO I z J]++[pO s e t]++[pO u f y])⟩,⟨some p1,1,3,1,1,[vJ a3]⟩,⟨some p2,1,120,1,1,[pP (some G) 0]⟩,⟨some p3,1,4,1,1,[pB r.2.2.2.2.2.1]⟩,⟨some p4,1,3,1,1,[vJ r.2.2.2.2.2.2]⟩,⟨some p5,1,120,1,1,[pP (some G) 0]⟩,hO (cH F) I J 24 z r.2.1,hO cQ s t 42 e r.2.2.1,hO cI u y 3 f r.2.2.2.1]++eJ cQ 42 F r.2.2.2.2.1)):=by
 unfold gC at h;refine aHH Tryz.func169 rfl (by kernel_rfl) Tryz.ntmps169 rfl (fun w0 M0 h0 hMb=>?_);refine go ?_ ?_;refine aJ (aY (fun H E=>∃(O:List Nat),∃(x112:List Rat),∃(x118:List Int),∃(U:List (List Rat)),∃(x130:Bool),∃(x131:Int),∃(b107:Option Nat),∃(c108:Nat),∃(V:Nat),∃(X:List rC),∃(N126:Nat),jL K O x112 x118 U x130 x131=some r∧O.length=V∧x112.length=e∧x118.length=f∧U.length=N126∧cN X U∧(∀k∈O,k<N126)∧H=([⟨some G,1,123,6,1,([vJ a0]++[vJ a1]++[vJ a2]++[pO b107 V c108]++[pO s e t]++[pO u f y])⟩,⟨some p1,1,3,1,1,[vJ a3]⟩,⟨some p2,1,120,1,1,[pP (some G) 0]⟩,⟨some p3,1,4,1,1,[pB x130]⟩,⟨some p4,1,3,1,1,[vJ x131]⟩,⟨some p5,1,120,1,1,[pP (some G) 0]⟩,hO (cH X) b107 c108 24 V O,hO cQ s t 42 e x112,hO cI u y 3 f x118]++eJ cQ 42 X U)∧E=[]) ?_ (fun Jj133=>?_))
 ·rintro _ _ ⟨O,x112,x118,U,x130,x131,b107,c108,V,X,N126,h,q110,q116,q122,q127,q128,q129,rfl,rfl⟩;unfold jL at h;obtain rfl:=iO h;exact aFO 0 (.inr rfl) Tryz.results169 h0 (aEH 9 [0,1,2,3,4,5,6,7,8] rfl rfl) ⟨b107,c108,V,X,N126,rfl,q110,q116,q122,q127,q128,q129,rfl⟩
 obtain⟨ol132,hL,hRl132⟩:=aR h;refine dU (fun k a w=>∃(x79:List Nat),∃(x85:List Rat),∃(x91:List Int),∃(x97:List (List Rat)),∃(Y:Bool),∃(x104:Int),∃(x105:Int),∃(b80:Option Nat),∃(c81:Nat),∃(n82:Nat),∃(g98:List rC),∃(N99:Nat),bV K a3 yF k x79 x85 x91 x97 Y x104 x105=some ol132∧x79.length=n82∧x85.length=e∧x91.length=f∧x97.length=N99∧cN g98 x97∧(∀k∈x79,k<N99)∧hs _ ([⟨some G,1,123,6,1,([vJ a0]++[vJ a1]++[vJ a2]++[pO b80 n82 c81]++[pO s e t]++[pO u f y])⟩,⟨some p1,1,3,1,1,[vJ a3]⟩,⟨some p2,1,120,1,1,[pP (some G) 0]⟩,⟨some p3,1,4,1,1,[pB Y]⟩,⟨some p4,1,3,1,1,[vJ x104]⟩,⟨some p5,1,120,1,1,[pP (some G) 0]⟩,hO (cH g98) b80 c81 24 n82 x79,hO cQ s t 42 e x85,hO cI u y 3 f x91]++eJ cQ 42 g98 x97) [(0,.vc (pY l)),(2,.vc (pP (some p2) 0)),(5,vI a3),(6,vI x105)] a w) K (fun a w ⟨_,_,_,_,_,_,_,_,_,_,_,_,h,_,_,_,_,_,_,_⟩=>by cases h) (fun k a w ⟨x79,x85,x91,x97,Y,x104,x105,b80,c81,n82,g98,N99,h,q83,q89,q95,q100,q101,q102,hh⟩=>dW ?_ hh) (fun a w hh=>⟨a6,a7,a8,a9,a4,a5,0,b5,c6,n7,g20,N21,hL,q8,q13,q18,q22,q23,q24,aQ 9 [0,1,2,3,4,5,6,7,8] rfl rfl (by decide) (by exact⟨rfl,rfl,rfl,rfl,zT⟩) hh⟩);rw[bV.eq_2]at h;refine go ?_ ?_;refine aD h rfl (fun h134 h=>?_) (fun h134 h=>?_)
 ·refine go ?_ ?_;refine aJ ?_;obtain⟨v135,h136,h⟩:=aR h;obtain⟨v137,h138,h⟩:=bE h eA;refine go ?_ ?_;refine dK h (fun h139 h=>?_) (fun h139 h=>?_)
  ·refine wS (aP (.inl rfl)) zU1 ?_;refine wS (aP (.inl rfl)) zU1 ?_;obtain⟨q,h141,h⟩:=aR h;refine aRF rfl (hY _ _ _ _ _ _ _ _ _ _ _ _ _ q83 q89 q95 q100 q101 q102 h141) h0 hMb zU2 ?_ ?_
   ·skip
    rintro _ ⟨b144,c145,n146,g162,N163,hj142,q147,q153,q159,q164,q165,q166,rfl⟩;have h:=tH (show Nat.beq q.1 0=true by rw[←hj142];rfl) h;refine go ?_ ?_;refine vN rfl ?_;obtain⟨v169,h170,h⟩:=aR h;refine go ?_ ?_;exact aF (fun a w hh=>⟨q.2.1,q.2.2.1,q.2.2.2.1,q.2.2.2.2.1,q.2.2.2.2.2.1,q.2.2.2.2.2.2,v169,b144,c145,n146,g162,N163,h,q147,q153,q159,q164,q165,q166,aQ 9 [0,1,2,3,4,5,6,7,8] rfl rfl (by decide) (by exact⟨rfl,rfl,rfl,rfl,zT⟩) hh⟩)
   rintro j171 _ ⟨b174,c175,n176,g192,N193,hj172,q177,q183,q189,q194,q195,q196,rfl⟩;have h:=rD (show Nat.beq q.1 0=false by rw[←hj172];rfl) h;refine go ?_ ?_;refine kA rfl ?_;refine gV (gW ?_);obtain rfl:=iO h;obtain rfl:=iO hRl132;exact aFO (j171+1) (.inl rfl) Tryz.results169 h0 (aEH 9 [0,1,2,3,4,5,6,7,8] rfl rfl) ⟨b174,c175,n176,g192,N193,hj172,q177,q183,q189,q194,q195,q196,rfl⟩
  refine go ?_ ?_;refine vN rfl ?_;obtain⟨v199,h200,h⟩:=aR h;refine go ?_ ?_;exact aF (fun a w hh=>⟨x79,x85,x91,x97,Y,x104,v199,b80,c81,n82,g98,N99,h,q83,q89,q95,q100,q101,q102,aQ 9 [0,1,2,3,4,5,6,7,8] rfl rfl (by decide) (by exact⟨rfl,rfl,rfl,rfl,zT⟩) hh⟩)
 refine bF ?_;obtain rfl:=iO h;exact dV Jj133 ⟨x79,x85,x91,x97,Y,x104,b80,c81,n82,g98,N99,hRl132,q83,q89,q95,q100,q101,q102,rfl,rfl⟩ 9 [0,1,2,3,4,5,6,7,8] rfl rfl zT
def mW(K:Nat)(f:List Nat)(h:List Rat)(j:List Int)(e:List (List Rat))(k:Int):Option (Int×(List Nat)×(List Rat)×(List Int)×(List (List Rat))):=
 some ((-1),f,h,j,e)
def cW(K:Nat)(a1:Int)(a2:Int)(a3:Int)(f:Int)(h:List Nat)(j:List Rat)(k:List Int)(q:List (List Rat))(t:Bool)(u:Int):Option (Nat×(List Nat)×(List Rat)×(List Int)×(List (List Rat))×Bool×Int):=
 (kY K f a1 a2 a3 h j k q).bind fun s=>bif(decide (s<0)) then(some (1,(h,j,k,q,t,f))) else((jX K s f a1 a2 a3 h j k q).bind fun e=>some (2,(e.1,e.2.1,e.2.2.1,e.2.2.2,true,u)))
def cX(K:Nat)(t:Int)(a1:Int)(a2:Int)(a3:Int):Nat→(List Nat)→(List Rat)→(List Int)→(List (List Rat))→Bool→Int→Option (LR (Int×(List Nat)×(List Rat)×(List Int)×(List (List Rat))) ((List Nat)×(List Rat)×(List Int)×(List (List Rat))×Int))
 |0,_,_,_,_,_,_=>none
 |k+1,f,h,j,q,u,s=>bif u then((iF t a1 a2 a3 f h j q).bind fun x=>(gC K (cW K a1 a2 a3) a1 a2 a3 t false s f h j q).bind fun e=>bif Nat.beq e.1 0 then(cX K t a1 a2 a3 k e.2.1 e.2.2.1 e.2.2.2.1 e.2.2.2.2.1 e.2.2.2.2.2.1 e.2.2.2.2.2.2) else(bif Nat.beq e.1 1 then(some (.ret (e.2.2.2.2.2.2,e.2.1,e.2.2.1,e.2.2.2.1,e.2.2.2.2.1))) else(bif Nat.beq e.1 2 then(cX K t a1 a2 a3 k e.2.1 e.2.2.1 e.2.2.2.1 e.2.2.2.2.1 e.2.2.2.2.2.1 e.2.2.2.2.2.2) else(none)))) else(some (.go (f,h,j,q,s)))
def jM(K:Nat)(q:Int)(a1:Int)(a2:Int)(a3:Int)(a4:List Nat)(a5:List Rat)(a6:List Int)(s:List (List Rat)):Option (Int×(List Nat)×(List Rat)×(List Int)×(List (List Rat))):=
 (cX K q a1 a2 a3 K a4 a5 a6 s true 0).bind fun o=>match o with| .ret r=>some r| .go (h,j,k,e,f)=>mW K h j k e f
theorem wR{K:Nat}{a0:Int}{a1:Int}{a2:Int}{a3:Int}{a4:List Nat}{a5:List Rat}{a6:List Int}{a7:List (List Rat)}{r:Int×(List Nat)×(List Rat)×(List Int)×(List (List Rat))}(f:jM K a0 a1 a2 a3 a4 a5 a6 a7=some r){J:Nat}{b5:Option Nat}{c6 n7:Nat}{u:Option Nat}{y h:Nat}{z:Option Nat}{F t:Nat}{g20:List rC}{N21:Nat}(q8:a4.length=n7)(q13:a5.length=h)(q18:a6.length=t)(q22:a7.length=N21)(q23:cN g20 a7)(q24:∀k∈a4,k<N21):CtO Tryz.prog 114 ([⟨some J,1,123,6,1,([vJ a1]++[vJ a2]++[vJ a3]++[pO b5 n7 c6]++[pO u h y]++[pO z t F])⟩,hO (cH g20) b5 c6 24 n7 a4,hO cQ u y 42 h a5,hO cI z F 3 t a6]++eJ cQ 42 g20 a7) [.vc (pP (some J) 0),vI a0] (fun Ho q=>∃b1276 c1277 L O N1286,r.2.1.length=L∧r.2.2.1.length=h∧r.2.2.2.1.length=t∧r.2.2.2.2.length=N1286∧cN O r.2.2.2.2∧(∀k∈r.2.1,k<N1286)∧Ho=([⟨some J,1,123,6,1,([vJ a1]++[vJ a2]++[vJ a3]++[pO b1276 L c1277]++[pO u h y]++[pO z t F])⟩,hO (cH O) b1276 c1277 24 L r.2.1,hO cQ u y 42 h r.2.2.1,hO cI z F 3 t r.2.2.2.1]++eJ cQ 42 O r.2.2.2.2)∧q=vI r.1):=by
 unfold jM at f;refine aA Tryz.func114 rfl (by kernel_rfl) Tryz.ntmps114 rfl (fun w0 M0=>?_);refine aE (aI (dP rfl rfl zT (fun b26=>?_)));refine aM rfl tyZ3q (fun U=>?_);refine go ?_ ?_;refine aM rfl tyZ4q (fun b28=>?_);refine go ?_ ?_;refine aJ (aY (fun H E=>∃(x83:List Nat),∃(x89:List Rat),∃(x95:List Int),∃(G:List (List Rat)),∃(x107:Int),∃(b84:Option Nat),∃(c85:Nat),∃(n86:Nat),∃(I:List rC),∃(N103:Nat),mW K x83 x89 x95 G x107=some r∧x83.length=n86∧x89.length=h∧x95.length=t∧G.length=N103∧cN I G∧(∀k∈x83,k<N103)∧H=([⟨some U,1,3,1,1,[vJ x107]⟩,⟨some J,1,123,6,1,([vJ a1]++[vJ a2]++[vJ a3]++[pO b84 n86 c85]++[pO u h y]++[pO z t F])⟩,hO (cH I) b84 c85 24 n86 x83,hO cQ u y 42 h x89,hO cI z F 3 t x95]++eJ cQ 42 I G)∧E=[(4,.vc (pP (some U) 0))]) ?_ (fun Jj109=>?_))
 ·rintro _ _ ⟨x83,x89,x95,G,x107,b84,c85,n86,I,N103,f,q87,q93,q99,q104,q105,q106,rfl,rfl⟩;unfold mW at f;refine go ?_ ?_;refine gV (gW ?_);obtain rfl:=iO f;exact kM (.inl rfl) Tryz.results114 (xJ 0 1 rfl rfl rfl rfl (.one tyO3) .nil) rfl 5 [1,2,3,4] rfl rfl (by decide) ⟨b84,c85,n86,I,N103,q87,q93,q99,q104,q105,q106,rfl,rfl⟩
 obtain⟨ol108,hL,hRl108⟩:=aR f;refine dU (fun k a w=>∃(V:List Nat),∃(x63:List Rat),∃(x69:List Int),∃(X:List (List Rat)),∃(x81:Bool),∃(x82:Int),∃(b58:Option Nat),∃(c59:Nat),∃(Y:Nat),∃(g76:List rC),∃(N77:Nat),∃(b56:Nat),cX K a0 a1 a2 a3 k V x63 x69 X x81 x82=some ol108∧V.length=Y∧x63.length=h∧x69.length=t∧X.length=N77∧cN g76 X∧(∀k∈V,k<N77)∧hs _ ([⟨some b56,1,4,1,1,[pB x81]⟩,⟨some U,1,3,1,1,[vJ x82]⟩,⟨some b26,1,120,1,1,[pP (some J) 0]⟩,⟨some J,1,123,6,1,([vJ a1]++[vJ a2]++[vJ a3]++[pO b58 Y c59]++[pO u h y]++[pO z t F])⟩,hO (cH g76) b58 c59 24 Y V,hO cQ u y 42 h x63,hO cI z F 3 t x69]++eJ cQ 42 g76 X) [(1,vI a0),(2,.vc (pP (some b26) 0)),(4,.vc (pP (some U) 0)),(5,.vc (pP (some b56) 0))] a w) K (fun a w ⟨_,_,_,_,_,_,_,_,_,_,_,_,f,_,_,_,_,_,_,_⟩=>by cases f) (fun k a w ⟨V,x63,x69,X,x81,x82,b58,c59,Y,g76,N77,b56,f,q61,q67,q73,q78,q79,q80,hh⟩=>dW ?_ hh) (fun a w hh=>⟨a4,a5,a6,a7,true,0,b5,c6,n7,g20,N21,b28,hL,q8,q13,q18,q22,q23,q24,aQ 7 [0,1,2,3,4,5,6] rfl rfl (by decide) (by exact⟨rfl,rfl,rfl,rfl,zT⟩) hh⟩);rw[cX.eq_2]at f;refine go ?_ ?_;refine aD f rfl (fun h110 f=>?_) (fun h110 f=>?_)
 ·refine go ?_ ?_;refine aJ ?_;obtain⟨v111,h112,f⟩:=aR f;refine go ?_ ?_;refine oY 7 [3,4,5,6] [0,1,2] rfl (zB h112 q61 q67 q73 q78 q79 q80) zU2 rfl rfl rfl (by decide) ?_;rintro _ _ ⟨b113,b114,rfl,rfl⟩;refine mB (kH [⟨some J,1,123,6,1,([vJ a1]++[vJ a2]++[vJ a3]++[pO b58 Y c59]++[pO u h y]++[pO z t F])⟩,⟨some b113,1,3,1,1,[vJ a0]⟩,⟨some b114,1,120,1,1,[pP (some J) 0]⟩,hO (cH g76) b58 c59 24 Y V,hO cQ u y 42 h x63,hO cI z F 3 t x69] (eJ cQ 42 g76 X) [⟨some b56,1,4,1,1,[pB false]⟩,⟨some U,1,3,1,1,[vJ x82]⟩,⟨some b26,1,120,1,1,[pP (some J) 0]⟩]) ?_;refine aX (aH (aJ (aUC 9 [0,1,2,6,7,8,3,4,5] rfl rfl ?_)));obtain⟨e,h145,f⟩:=aR f;refine aOs (fun j=>match j with|0=>Go.Code.ret|1=>Go.Code.exit 2|_=>Go.Code.skip) rfl (fun x l Mb hx1 hx2 hx3 ht=>yA (fun k142 x116 x122 x128 x134 x140 x141 rb143 b117 c118 n119 g135 N136 q120 q126 q132 q137 q138 q139 f=>?_) h145 q61 q67 q73 q78 q79 q80) (fun Ho hHo=>?_) (fun j Ho hHo=>?_)
  ·refine aH3 ht hx1 rfl (fun w0 M0 h0 hMb=>?_);rw[hx2,hx3];unfold cW at f;refine go ?_ ?_;refine aMc h0 ?_;refine aJ ?_;obtain⟨v146,h147,f⟩:=aR f;refine go ?_ ?_;refine oY 9 [0,6,7,8] [1,2,3,4,5] rfl (zI h147 q120 q126 q132 q137 q138 q139) zU2 rfl rfl rfl (by decide) ?_;rintro _ _ ⟨rfl,rfl⟩;refine mB (kH [⟨some J,1,123,6,1,([vJ a1]++[vJ a2]++[vJ a3]++[pO b117 n119 c118]++[pO u h y]++[pO z t F])⟩,hO (cH g135) b117 c118 24 n119 x116,hO cQ u y 42 h x122,hO cI z F 3 t x128] (eJ cQ 42 g135 x134) [⟨some b113,1,3,1,1,[vJ a0]⟩,⟨some b114,1,120,1,1,[pP (some J) 0]⟩,⟨some b56,1,4,1,1,[pB x140]⟩,⟨some U,1,3,1,1,[vJ x141]⟩,⟨some b26,1,120,1,1,[pP (some J) 0]⟩]) ?_;refine go ?_ ?_;refine aD f rfl (fun h148 f=>?_) (fun h148 f=>?_)
   ·refine go ?_ ?_;refine gV (gW ?_);obtain rfl:=iO f;exact aWf 0 rfl h0 (aEH 9 [0,4,5,6,7,8,1,2,3] rfl rfl) ⟨b117,c118,n119,g135,N136,rfl,q120,q126,q132,q137,q138,q139,rfl⟩
   obtain⟨v149,h150,f⟩:=aR f;refine go ?_ ?_;refine oY 9 [0,1,2,3] [4,5,6,7,8] rfl (vT h150 q120 q126 q132 q137 q138 q139) ⟨rfl,rfl,rfl,zT⟩ rfl rfl rfl (by decide) ?_;rintro _ _ ⟨b151,c152,n153,g160,N161,q154,q156,q158,q162,q163,q164,rfl,rfl⟩;refine mB (kH [⟨some J,1,123,6,1,([vJ a1]++[vJ a2]++[vJ a3]++[pO b151 n153 c152]++[pO u h y]++[pO z t F])⟩,hO (cH g160) b151 c152 24 n153 v149.1,hO cQ u y 42 h v149.2.1,hO cI z F 3 t v149.2.2.1] (eJ cQ 42 g160 v149.2.2.2) [⟨some b113,1,3,1,1,[vJ a0]⟩,⟨some b114,1,120,1,1,[pP (some J) 0]⟩,⟨some b56,1,4,1,1,[pB x140]⟩,⟨some U,1,3,1,1,[vJ x141]⟩,⟨some b26,1,120,1,1,[pP (some J) 0]⟩]) ?_;refine go ?_ ?_;refine bF ?_;obtain rfl:=iO f;exact aV0 1 rfl h0 (aEH 9 [0,4,5,6,7,8,1,2,3] rfl rfl) ⟨b151,c152,n153,g160,N161,rfl,q154,q156,q158,q162,q163,q164,rfl⟩
  ·skip
   obtain⟨b168,c169,n170,g186,N187,hj166,q171,q177,q183,q188,q189,q190,rfl⟩:=hHo;have f:=tH (show Nat.beq e.1 0=true by rw[←hj166];rfl) f;refine go ?_ ?_;refine aM rfl tyZ4q (fun b193=>?_);refine mI (t_s 0 rfl rfl rfl tyO4.s) zU2 ?_;refine aX ?_;exact aF (fun a w hh=>⟨e.2.1,e.2.2.1,e.2.2.2.1,e.2.2.2.2.1,e.2.2.2.2.2.1,e.2.2.2.2.2.2,b168,c169,n170,g186,N187,b193,f,q171,q177,q183,q188,q189,q190,aQ 10 [0,5,6,1,7,8,9] rfl rfl (by decide) (by exact⟨rfl,rfl,rfl,rfl,zT⟩) hh⟩)
  rcases j with _|_|j
  ·skip
   obtain⟨b196,c197,n198,g214,N215,hj194,q199,q205,q211,q216,q217,q218,rfl⟩:=hHo;have f:=rD (show Nat.beq e.1 0=false by rw[←hj194];rfl) f;have f:=tH (show Nat.beq e.1 1=true by rw[←hj194];rfl) f;refine gV (gW ?_);obtain rfl:=iO f;obtain rfl:=iO hRl108;exact kM (.inl rfl) Tryz.results114 (xJ 4 1 rfl rfl rfl rfl (.one tyO3) .nil) rfl 9 [0,6,7,8] rfl rfl (by decide) ⟨b196,c197,n198,g214,N215,q199,q205,q211,q216,q217,q218,rfl,rfl⟩
  ·skip
   obtain⟨b223,c224,n225,g241,N242,hj221,q226,q232,q238,q243,q244,q245,rfl⟩:=hHo;have f:=rD (show Nat.beq e.1 0=false by rw[←hj221];rfl) f;have f:=rD (show Nat.beq e.1 1=false by rw[←hj221];rfl) f;have f:=tH (show Nat.beq e.1 2=true by rw[←hj221];rfl) f;refine bF (go ?_ ?_);refine aM rfl tyZ4q (fun b248=>?_);refine mI (t_s 0 rfl rfl rfl tyO4.s) zU2 ?_;refine aX ?_;exact aF (fun a w hh=>⟨e.2.1,e.2.2.1,e.2.2.2.1,e.2.2.2.2.1,e.2.2.2.2.2.1,e.2.2.2.2.2.2,b223,c224,n225,g241,N242,b248,f,q226,q232,q238,q243,q244,q245,aQ 10 [0,5,6,1,7,8,9] rfl rfl (by decide) (by exact⟨rfl,rfl,rfl,rfl,zT⟩) hh⟩)
  obtain⟨b251,c252,n253,g269,N270,hj249,q254,q260,q266,q271,q272,q273,rfl⟩:=hHo;have f:=rD (show Nat.beq e.1 0=false by rw[←hj249];exact aAP (by omega)) f;have f:=rD (show Nat.beq e.1 1=false by rw[←hj249];exact aAP (by omega)) f;have f:=rD (show Nat.beq e.1 2=false by rw[←hj249];exact aAP (by omega)) f;cases f
 refine bF ?_;obtain rfl:=iO f;exact dV Jj109 ⟨V,x63,x69,X,x82,b58,c59,Y,g76,N77,hRl108,q61,q67,q73,q78,q79,q80,rfl,rfl⟩ 7 [1,3,4,5,6] rfl rfl zU1
def lL(k:Int)(a1:Int)(a2:Int)(a3:List Nat)(a4:List Rat)(a5:List Int)(a6:List (List Rat)):Option (List Rat):=
 (aV (2*k)).bind fun e=>(aV (2*k)).bind fun v30=>(aV (v30+a1)).bind fun f=>(slL a4 e f).bind fun h=>(dR h).bind fun j=>some j
theorem zX{I:Int}{a1:Int}{a2:Int}{a3:List Nat}{a4:List Rat}{a5:List Int}{a6:List (List Rat)}{r:List Rat}(e:lL I a1 a2 a3 a4 a5 a6=some r){J:Nat}{F:Option Nat}{G u:Nat}{x:Option Nat}{y t:Nat}{j:Option Nat}{s f:Nat}{h:List rC}{z:Nat}(q8:a3.length=u)(K:a4.length=t)(U:a5.length=f)(V:a6.length=z)(X:cN h a6)(Y:∀k∈a3,k<z):CtO Tryz.prog 115 ([⟨some J,1,123,6,1,([vJ I]++[vJ a1]++[vJ a2]++[pO F u G]++[pO x t y]++[pO j f s])⟩,hO (cH h) F G 24 u a3,hO cQ x y 42 t a4,hO cI j s 3 f a5]++eJ cQ 42 h a6) [.vc (pP (some J) 0)] (fun Ho q=>Ho=([⟨some J,1,123,6,1,([vJ I]++[vJ a1]++[vJ a2]++[pO F u G]++[pS cQ a4]++[pO j f s])⟩,hO (cH h) F G 24 u a3,hO cI j s 3 f a5]++eJ cQ 42 h a6)∧q=.vc (pS cQ r)):=by
 unfold lL at e;refine aA Tryz.func115 rfl (by kernel_rfl) Tryz.ntmps115 rfl (fun w0 M0=>?_);refine aE (aI (aG (aP (.inr rfl)) ⟨eG cQ,zT⟩ ?_));refine go ?_ ?_;refine aTx 2 0 4 rfl K rfl rfl rfl rfl rfl ?_;obtain⟨v28,L,e⟩:=aR e;have e:=uS L e;obtain⟨v32,h33,e⟩:=aR e;obtain⟨x34,h35,e⟩:=aR e;obtain⟨v36,h37,e⟩:=bE e zQ;refine dr [0,1,3,7,0,16,48,112,240,0,512,1536,3584,7680,0,16384,49152,114688,261632,524287,1048575,2097151] 22 0 ?_ (fun O G26=>?_);refine aX (aH (gV (gW ?_)));obtain rfl:=iO e;exact kM (.inl rfl) Tryz.results115 (.tmp rfl .nil) rfl 3 [0,1,2] rfl rfl (by decide) ⟨rfl,rfl⟩
def lU(K:Nat)(e:List Nat)(f:List Rat)(h:List Int)(j:List (List Rat)):Option ((List Nat)×(List Rat)×(List Int)×(List (List Rat))):=
 some (e,f,h,j)
def cL(K:Nat)(u:Int)(a1:Int)(a2:Int)(a3:Int)(a6:List Int):Nat→(List Nat)→(List Rat)→(List Int)→(List (List Rat))→Int→Option ((List Nat)×(List Rat)×(List Int)×(List (List Rat)))
 |0,_,_,_,_,_=>none
 |k+1,h,s,j,q,e=>bif(decide (e<(a6.length:Int))) then((bR j e).bind fun x=>bif(decide (x<u)) then((aV (e+1)).bind fun y=>cL K u a1 a2 a3 a6 k h s j q y) else((bR h e).bind fun z=>(slL (q.getD z []) 0 u).bind fun F=>(n0 K F (gE)).bind fun t=>bif(decide (0≤t)) then((jX K e t a1 a2 a3 h s j q).bind fun f=>(aV (e+1)).bind fun G=>cL K u a1 a2 a3 a6 k f.1 f.2.1 f.2.2.1 f.2.2.2 G) else((aV (e+1)).bind fun I=>cL K u a1 a2 a3 a6 k h s j q I))) else(some (h,s,j,q))
def l9(K:Nat)(k:Int)(a1:Int)(a2:Int)(a3:Int)(a4:List Nat)(a5:List Rat)(a6:List Int)(q:List (List Rat)):Option ((List Nat)×(List Rat)×(List Int)×(List (List Rat))):=
 (cL K k a1 a2 a3 a6 K a4 a5 a6 q 0).bind fun(e,f,h,j)=>lU K e f h j
theorem aAw{K:Nat}{a0:Int}{a1:Int}{a2:Int}{a3:Int}{a4:List Nat}{a5:List Rat}{a6:List Int}{a7:List (List Rat)}{r:(List Nat)×(List Rat)×(List Int)×(List (List Rat))}(e:l9 K a0 a1 a2 a3 a4 a5 a6 a7=some r){p0:Nat}{b5:Option Nat}{c6 n7:Nat}{y:Option Nat}{z j:Nat}{t:Option Nat}{u f:Nat}{g20:List rC}{N21:Nat}(q8:a4.length=n7)(q13:a5.length=j)(q18:a6.length=f)(q22:a7.length=N21)(q23:cN g20 a7)(q24:∀k∈a4,k<N21):CtO Tryz.prog 116 ([⟨some p0,1,123,6,1,([vJ a1]++[vJ a2]++[vJ a3]++[pO b5 n7 c6]++[pO y j z]++[pO t f u])⟩,hO (cH g20) b5 c6 24 n7 a4,hO cQ y z 42 j a5,hO cI t u 3 f a6]++eJ cQ 42 g20 a7) [.vc (pP (some p0) 0),vI a0] (fun Ho q=>∃b1136 c1137 V X N1146,r.1.length=V∧r.2.1.length=j∧r.2.2.1.length=f∧r.2.2.2.length=N1146∧cN X r.2.2.2∧(∀k∈r.1,k<N1146)∧Ho=([⟨some p0,1,123,6,1,([vJ a1]++[vJ a2]++[vJ a3]++[pO b1136 V c1137]++[pO y j z]++[pO t f u])⟩,hO (cH X) b1136 c1137 24 V r.1,hO cQ y z 42 j r.2.1,hO cI t u 3 f r.2.2.1]++eJ cQ 42 X r.2.2.2)∧q=.any):=by
 unfold l9 at e;refine aA Tryz.func116 rfl (by kernel_rfl) Tryz.ntmps116 rfl (fun w0 M0=>?_);refine go ?_ ?_;refine aJ (aY (fun H E=>∃(x76:List Nat),∃(x82:List Rat),∃(x88:List Int),∃(x94:List (List Rat)),∃(b77:Option Nat),∃(c78:Nat),∃(n79:Nat),∃(g95:List rC),∃(N96:Nat),lU K x76 x82 x88 x94=some r∧x76.length=n79∧x82.length=j∧x88.length=f∧x94.length=N96∧cN g95 x94∧(∀k∈x76,k<N96)∧H=([⟨some p0,1,123,6,1,([vJ a1]++[vJ a2]++[vJ a3]++[pO b77 n79 c78]++[pO y j z]++[pO t f u])⟩,hO (cH g95) b77 c78 24 n79 x76,hO cQ y z 42 j x82,hO cI t u 3 f x88]++eJ cQ 42 g95 x94)∧E=[]) ?_ (fun Jj101=>?_))
 ·rintro _ _ ⟨x76,x82,x88,x94,b77,c78,n79,g95,N96,e,q80,q86,q92,q97,q98,q99,rfl,rfl⟩;unfold lU at e;obtain rfl:=iO e;exact kM (.inr rfl) Tryz.results116 .nil rfl 4 [0,1,2,3] rfl rfl (by decide) ⟨b77,c78,n79,g95,N96,q80,q86,q92,q97,q98,q99,rfl,rfl⟩
 obtain⟨⟨x76',x82',x88',x94'⟩,hL,hRl100⟩:=aR e;refine dU (fun k a w=>∃(G:List Nat),∃(Y:List Rat),∃(x63:List Int),∃(I:List (List Rat)),∃(x75:Int),∃(b52:Option Nat),∃(c53:Nat),∃(n54:Nat),∃(F:List rC),∃(N71:Nat),cL K a0 a1 a2 a3 a6 k G Y x63 I x75=some (x76',x82',x88',x94')∧G.length=n54∧Y.length=j∧x63.length=f∧I.length=N71∧cN F I∧(∀k∈G,k<N71)∧hs _ ([⟨some p0,1,123,6,1,([vJ a1]++[vJ a2]++[vJ a3]++[pO b52 n54 c53]++[pO y j z]++[pO t f u])⟩,hO (cH F) b52 c53 24 n54 G,hO cQ y z 42 j Y,hO cI t u 3 f x63]++eJ cQ 42 F I) [(0,.vc (pP (some p0) 0)),(1,vI a0),(10,.vc (pO t f u)),(11,vI (a6.length:Int)),(12,vI x75)] a w) K (fun a w ⟨_,_,_,_,_,_,_,_,_,_,e,_,_,_,_,_,_,_⟩=>by cases e) (fun k a w ⟨G,Y,x63,I,x75,b52,c53,n54,F,N71,e,q55,q61,q67,J,L,O,hh⟩=>dW ?_ hh) (fun a w hh=>⟨a4,a5,a6,a7,0,b5,c6,n7,g20,N21,hL,q8,q13,q18,q22,q23,q24,aQ 4 [0,1,2,3] rfl rfl (by decide) (by exact⟨rfl,rfl,rfl,rfl,rfl,zT⟩) hh⟩);rw[cL.eq_2]at e;refine go ?_ ?_;refine aD e rfl (fun h102 e=>?_) (fun h102 e=>?_)
 ·refine go ?_ ?_;refine aJ ?_;obtain⟨v103,h104,e⟩:=aR e;refine go ?_ ?_;refine aD e rfl (fun h105 e=>?_) (fun h105 e=>?_)
  ·refine bF ?_;obtain⟨v106,h107,e⟩:=aR e;refine go ?_ ?_;exact aF (fun a w hh=>⟨G,Y,x63,I,v106,b52,c53,n54,F,N71,e,q55,q61,q67,J,L,O,aQ 4 [0,1,2,3] rfl rfl (by decide) (by exact⟨rfl,rfl,rfl,rfl,rfl,zT⟩) hh⟩)
  obtain⟨U,h109,x110,h111,e⟩:=u9 e;refine go ?_ ?_;refine aG (aTT (i:=(4+U)) rfl tyS24 (rE 4 rfl L J (O _ (aL h109))) rfl rfl rfl (aAl h111).2.2.1 (aRk h111 (cT L J (O _ (aL h109))))) zU2 ?_;obtain⟨v112,h113,e⟩:=bE e aBk;refine aG (aFP (pre':=[.vc (pK (pO (eI F U).1 (eI F U).2.1 (eI F U).2.2) a0.toNat cQ.n),.vc (pFn Tryz.prog (fun x:Rat=>[.va (eQ x)]) (fun r:Bool=>.vc (pB r)) (gE))]) rfl h113 rfl (aQT (aNO (C:=cQ) (4+U) (rE 4 rfl L J (O _ (aL h109))) (cT L J (O _ (aL h109))) h111) ⟨.inr ⟨rfl,rfl⟩,.inl rfl,zT⟩) (fun _ _ _ h=>h)) ⟨rfl,(aVN (P:=Tryz.prog) (φ:=(gE)) (pre:=fun x:Rat=>[.va (eQ x)]) (post:=fun r:Bool=>.vc (pB r)) (fun x r h=>aAS h)),zT⟩ ?_;refine go ?_ ?_;refine aD e rfl (fun h114 e=>?_) (fun h114 e=>?_)
  ·obtain⟨s,h116,e⟩:=aR e;refine go ?_ ?_;refine oY 4 [0,1,2,3] [] rfl (vT h116 q55 q61 q67 J L O) ⟨rfl,rfl,rfl,zT⟩ rfl rfl rfl (by decide) ?_;rintro _ _ ⟨b117,c118,n119,g126,N127,q120,q122,q124,q128,q129,q130,rfl,rfl⟩;refine mB (kH [⟨some p0,1,123,6,1,([vJ a1]++[vJ a2]++[vJ a3]++[pO b117 n119 c118]++[pO y j z]++[pO t f u])⟩,hO (cH g126) b117 c118 24 n119 s.1,hO cQ y z 42 j s.2.1,hO cI t u 3 f s.2.2.1] (eJ cQ 42 g126 s.2.2.2) []) ?_;obtain⟨v132,h133,e⟩:=aR e;refine go ?_ ?_;exact aF (fun a w hh=>⟨s.1,s.2.1,s.2.2.1,s.2.2.2,v132,b117,c118,n119,g126,N127,e,q120,q122,q124,q128,q129,q130,aQ 4 [0,1,2,3] rfl rfl (by decide) (by exact⟨rfl,rfl,rfl,rfl,rfl,zT⟩) hh⟩)
  obtain⟨v134,h135,e⟩:=aR e;refine go ?_ ?_;exact aF (fun a w hh=>⟨G,Y,x63,I,v134,b52,c53,n54,F,N71,e,q55,q61,q67,J,L,O,aQ 4 [0,1,2,3] rfl rfl (by decide) (by exact⟨rfl,rfl,rfl,rfl,rfl,zT⟩) hh⟩)
 refine bF ?_;obtain⟨rfl,rfl,rfl,rfl⟩:=sm4 e;exact dV Jj101 ⟨G,Y,x63,I,b52,c53,n54,F,N71,hRl100,q55,q61,q67,J,L,O,rfl,rfl⟩ 4 [0,1,2,3] rfl rfl zT
def nI(K:Nat)(k:Int)(a1:Int)(a2:Int)(a3:Int)(a4:Int)(a5:List Nat)(a6:List Rat)(q:List Int)(s:List (List Rat)):Option Rat:=
 bif(k==a1) then((qof 1 1).bind fun e=>some e) else((oM K q k).bind fun v30=>bif(decide (0≤v30)) then((bR a5 v30).bind fun f=>(bR (s.getD f []) a1).bind fun h=>(aC0 h).bind fun j=>some j) else(some 0))
theorem aAR{K:Nat}{a0:Int}{a1:Int}{a2:Int}{a3:Int}{a4:Int}{a5:List Nat}{a6:List Rat}{X:List Int}{L:List (List Rat)}{r:Rat}(e:nI K a0 a1 a2 a3 a4 a5 a6 X L=some r){p0:Nat}{Y:Option Nat}{c6 O:Nat}{x:Option Nat}{y j:Nat}{s:Option Nat}{t f:Nat}{u:List rC}{U:Nat}(q8:a5.length=O)(q13:a6.length=j)(q18:X.length=f)(z:L.length=U)(F:cN u L)(G:∀k∈a5,k<U):CtO Tryz.prog 120 ([⟨some p0,1,123,6,1,([vJ a2]++[vJ a3]++[vJ a4]++[pO Y O c6]++[pO x j y]++[pO s f t])⟩,hO (cH u) Y c6 24 O a5,hO cQ x y 42 j a6,hO cI s t 3 f X]++eJ cQ 42 u L) [.vc (pP (some p0) 0),vI a0,vI a1] (fun Ho q=>Ho=([⟨some p0,1,123,6,1,([vJ a2]++[vJ a3]++[vJ a4]++[pO Y O c6]++[pO x j y]++[pO s f t])⟩,hO (cH u) Y c6 24 O a5,hO cQ x y 42 j a6,hO cI s t 3 f X]++eJ cQ 42 u L)∧q=.va (eQ r)):=by
 unfold nI at e;refine aA Tryz.func120 rfl (by kernel_rfl) Tryz.ntmps120 rfl (fun w0 M0=>?_);refine aE (aI (aM rfl tyZ42q (fun b26=>?_)));refine go ?_ ?_;refine aD e rfl (fun h27 e=>?_) (fun h27 e=>?_)
 ·obtain⟨v28,h29,e⟩:=bE e tX;refine go ?_ ?_;refine gV (gW ?_);obtain rfl:=iO e;exact kM (.inl rfl) Tryz.results120 (xJ 0 4 rfl rfl rfl rfl (.agg tyA42) .nil) rfl 5 [1,2,3,4] rfl rfl (by decide) ⟨rfl,rfl⟩
 obtain⟨v30,h31,e⟩:=bE e zN;refine go ?_ ?_;refine aG (aFP (pre':=[.vc (pO s f t),vI a0]) rfl h31 rfl (aQT (aF0 (C:=cI) 4 rfl q18) ⟨.inr ⟨rfl,rfl⟩,.inl rfl,zT⟩) (fun _ _ _ h=>h)) zU2 ?_;refine go ?_ ?_;refine aD e rfl (fun h32 e=>?_) (fun h32 e=>?_)
 ·obtain⟨V,I,v35,J,e⟩:=u9 e;refine go ?_ ?_;refine aG (dX (5+V) rfl tyS24 (rE 5 rfl F z (G _ (aL I))) (cT F z (G _ (aL I))) (aB J).1 (aB J).2.1) zU2 ?_;refine aG (gZ (k:=4) (5+V) rfl (rE 5 rfl F z (G _ (aL I))) J rfl (.agg tyA42) rfl) zU1 ?_;obtain⟨v37,h38,e⟩:=bE e vG;refine go ?_ ?_;refine gV (gW ?_);obtain rfl:=iO e;exact kM (.inl rfl) Tryz.results120 (xJ 0 4 rfl rfl rfl rfl (.agg tyA42) .nil) rfl 5 [1,2,3,4] rfl rfl (by decide) ⟨rfl,rfl⟩
 refine go ?_ ?_;refine aG (iV (is:=[]) (xs:=[]) (ps:=[]) rfl tyB42q rfl rfl zT rfl) zT ?_;refine go ?_ ?_;refine gV (gW ?_);obtain rfl:=iO e;exact kM (.inl rfl) Tryz.results120 (xJ 0 4 rfl rfl rfl rfl (.agg tyA42) .nil) rfl 5 [1,2,3,4] rfl rfl (by decide) ⟨rfl,rfl⟩
def jD(K:Nat)(f:Int)(a1:Int)(a2:Int)(a3:Int)(a4:Int)(a5:List Nat)(a6:List Rat)(h:List Int)(j:List (List Rat)):Option Rat:=
 (nI K f a1 a2 a3 a4 a5 a6 h j).bind fun e=>some e
theorem xS{K:Nat}{a0:Int}{a1:Int}{a2:Int}{a3:Int}{a4:Int}{a5:List Nat}{a6:List Rat}{I:List Int}{y:List (List Rat)}{r:Rat}(L:jD K a0 a1 a2 a3 a4 a5 a6 I y=some r){O:Nat}{U:Nat}{z:Nat}{F:Option Nat}{G x:Nat}{j:Option Nat}{s e:Nat}{t:Option Nat}{u f:Nat}{h:List rC}{J:Nat}(q8:a5.length=x)(V:a6.length=e)(X:I.length=f)(Y:y.length=J)(q23:cN h y)(q24:∀k∈a5,k<J):CtO Tryz.prog 119 ([⟨some O,1,120,1,1,[pP (some z) 0]⟩,⟨some U,1,3,1,1,[vJ a1]⟩,⟨some z,1,123,6,1,([vJ a2]++[vJ a3]++[vJ a4]++[pO F x G]++[pO j e s]++[pO t f u])⟩,hO (cH h) F G 24 x a5,hO cQ j s 42 e a6,hO cI t u 3 f I]++eJ cQ 42 h y) [vI a0,.vc (pP (some O) 0),.vc (pP (some U) 0)] (fun Ho q=>Ho=([⟨some O,1,120,1,1,[pP (some z) 0]⟩,⟨some U,1,3,1,1,[vJ a1]⟩,⟨some z,1,123,6,1,([vJ a2]++[vJ a3]++[vJ a4]++[pO F x G]++[pO j e s]++[pO t f u])⟩,hO (cH h) F G 24 x a5,hO cQ j s 42 e a6,hO cI t u 3 f I]++eJ cQ 42 h y)∧q=.va (eQ r)):=by
 unfold jD at L;refine aA Tryz.func119 rfl (by kernel_rfl) Tryz.ntmps119 rfl (fun w0 M0=>?_);refine aE (aI (aM rfl tyZ42q (fun b26=>?_)));obtain⟨v27,h28,L⟩:=aR L;refine go ?_ ?_;refine oY 7 [3,4,5,6] [0,1,2] rfl (aAR h28 q8 V X Y q23 q24) ⟨rfl,rfl,rfl,zT⟩ rfl rfl rfl (by decide) ?_;rintro _ _ ⟨rfl,rfl⟩;refine mB (kH [⟨some z,1,123,6,1,([vJ a2]++[vJ a3]++[vJ a4]++[pO F x G]++[pO j e s]++[pO t f u])⟩,hO (cH h) F G 24 x a5,hO cQ j s 42 e a6,hO cI t u 3 f I] (eJ cQ 42 h y) [⟨some b26,1,42,4,1,(eQ 0)⟩,⟨some O,1,120,1,1,[pP (some z) 0]⟩,⟨some U,1,3,1,1,[vJ a1]⟩]) ?_;refine go ?_ ?_;refine gV (gW ?_);obtain rfl:=iO L;exact kM (.inl rfl) Tryz.results119 (xJ 4 4 rfl rfl rfl rfl (.agg tyA42) .nil) rfl 7 [5,6,0,1,2,3] rfl rfl (by decide) ⟨rfl,rfl⟩
def mH(K:Nat)(e:List Rat):Option (List Rat):=
 some e
def eR(K:Nat)(j:Int)(a1:Int)(a2:Int)(a3:Int)(a4:List Nat)(a5:List Rat)(a6:List Int)(q:List (List Rat))(h:List Rat):Nat→(List Rat)→Int→Option (List Rat)
 |0,_,_=>none
 |k+1,f,e=>bif(decide (e<(h.length:Int))) then((jD K e a3 j a1 a2 a4 a5 a6 q).bind fun s=>(aV (j+e)).bind fun t=>(jD K t a3 j a1 a2 a4 a5 a6 q).bind fun u=>(aHd s u).bind fun x=>(bR f e).bind fun F=>(rW f e x).bind fun y=>(aV (e+1)).bind fun z=>eR K j a1 a2 a3 a4 a5 a6 q h k y z) else(some f)
def iB(K:Nat)(h:Int)(a1:Int)(a2:Int)(a3:Int)(a4:List Nat)(a5:List Rat)(a6:List Int)(j:List (List Rat)):Option (List Rat):=
 (mkL h 0).bind fun e=>(eR K h a1 a2 a3 a4 a5 a6 j e K e 0).bind fun f=>mH K f
theorem aAb{K:Nat}{a0:Int}{a1:Int}{a2:Int}{a3:Int}{a4:List Nat}{a5:List Rat}{a6:List Int}{X:List (List Rat)}{r:List Rat}(h:iB K a0 a1 a2 a3 a4 a5 a6 X=some r){G:Nat}{L:Nat}{O:Nat}{Y:Option Nat}{c6 U:Nat}{u:Option Nat}{x j:Nat}{y:Option Nat}{z s:Nat}{t:List rC}{N21:Nat}(q8:a4.length=U)(q13:a5.length=j)(q18:a6.length=s)(q22:X.length=N21)(q23:cN t X)(q24:∀k∈a4,k<N21):CtO Tryz.prog 118 ([⟨some G,1,123,6,1,([vJ a0]++[vJ a1]++[vJ a2]++[pO Y U c6]++[pO u j x]++[pO y s z])⟩,⟨some L,1,120,1,1,[pP (some G) 0]⟩,⟨some O,1,3,1,1,[vJ a3]⟩,hO (cH t) Y c6 24 U a4,hO cQ u x 42 j a5,hO cI y z 3 s a6]++eJ cQ 42 t X) [.vc (pP (some G) 0),.vc (pF 119 [pP (some L) 0,pP (some O) 0])] (fun Ho q=>Ho=([⟨some G,1,123,6,1,([vJ a0]++[vJ a1]++[vJ a2]++[pO Y U c6]++[pO u j x]++[pO y s z])⟩,⟨some L,1,120,1,1,[pP (some G) 0]⟩,⟨some O,1,3,1,1,[vJ a3]⟩,hO (cH t) Y c6 24 U a4,hO cQ u x 42 j a5,hO cI y z 3 s a6]++eJ cQ 42 t X)∧q=.vc (pS cQ r)):=by
 unfold iB at h;refine aA Tryz.func118 rfl (by kernel_rfl) Tryz.ntmps118 rfl (fun w0 M0=>?_);refine aE (aI (aG (aP (.inr rfl)) ⟨eG cQ,zT⟩ ?_));obtain⟨e,h27,h⟩:=aR h;refine go ?_ ?_;refine qE (C:=cQ) rfl tyS24 rfl tyZ42q rfl h27 (fun I=>?_);refine go ?_ ?_;refine aJ (aY (fun H E=>∃(V:List Rat),mH K V=some r∧V.length=e.length∧H=([hO cQ I e.length 42 e.length V,⟨some G,1,123,6,1,([vJ a0]++[vJ a1]++[vJ a2]++[pO Y U c6]++[pO u j x]++[pO y s z])⟩,⟨some L,1,120,1,1,[pP (some G) 0]⟩,⟨some O,1,3,1,1,[vJ a3]⟩,hO (cH t) Y c6 24 U a4,hO cQ u x 42 j a5,hO cI y z 3 s a6]++eJ cQ 42 t X)∧E=[(5,.vc (pO I e.length e.length))]) ?_ (fun Jj52=>?_))
 ·rintro _ _ ⟨V,h,q49,rfl,rfl⟩;unfold mH at h;refine go ?_ ?_;refine gV (gW (tU 0 [4,5,33] rfl q49 ⟨rfl,rfl,rfl,zT⟩ rfl ?_));obtain rfl:=iO h;exact kM (.inl rfl) Tryz.results118 (.tmp rfl .nil) rfl 6 [0,1,2,3,4,5] rfl rfl (by decide) ⟨rfl,rfl⟩
 obtain⟨x45',hL,hRl51⟩:=aR h;refine dU (fun k a w=>∃(J:List Rat),∃(F:Int),eR K a0 a1 a2 a3 a4 a5 a6 X e k J F=some x45'∧J.length=e.length∧hs _ ([hO cQ I e.length 42 e.length J,⟨some G,1,123,6,1,([vJ a0]++[vJ a1]++[vJ a2]++[pO Y U c6]++[pO u j x]++[pO y s z])⟩,⟨some L,1,120,1,1,[pP (some G) 0]⟩,⟨some O,1,3,1,1,[vJ a3]⟩,hO (cH t) Y c6 24 U a4,hO cQ u x 42 j a5,hO cI y z 3 s a6]++eJ cQ 42 t X) [(0,.vc (pP (some G) 0)),(1,.vc (pF 119 [pP (some L) 0,pP (some O) 0])),(5,.vc (pO I e.length e.length)),(13,vI (e.length:Int)),(14,vI F)] a w) K (fun a w ⟨_,_,h,_,_⟩=>by cases h) (fun k a w ⟨J,F,h,q42,hh⟩=>dW ?_ hh) (fun a w hh=>⟨e,0,hL,rfl,aQ 7 [0,1,2,3,4,5,6] rfl rfl (by decide) (by exact⟨rfl,rfl,rfl,rfl,rfl,zT⟩) hh⟩);rw[eR.eq_2]at h;refine go ?_ ?_;refine aD h rfl (fun h53 h=>?_) (fun h53 h=>?_)
 ·refine go ?_ ?_;refine aJ ?_;obtain⟨v56,h57,v58,h59,v60,h61,h⟩:=bn3 h;obtain⟨v62,h63,h⟩:=bE h w8;obtain⟨v64,h65,h⟩:=aR h;refine go ?_ ?_;refine kO [0,0,0,0,12,0,0,64,192,448,0,1984,4092,8188,16383,32767] 15 1 [.v (.vc (pO I e.length e.length)),.v (vI F),.v (.vc (pF 119 [pP (some L) 0,pP (some O) 0])),.v (vI F),.v (.va (eQ v56)),.v (.vc (pF 119 [pP (some L) 0,pP (some O) 0])),.v (.vc (pP (some G) 0)),.v (.vc (pP (some G) 0)),.v (.vc (pP (some G) 0)),.v (vI a0),.v (vI F),.v (vI v58),.v (.va (eQ v60)),.v (.va (eQ v62)),.v (.vc (pE I F cQ.n 0))] bC ⟨d0 (aP (.inl rfl)) zU1,d0 (aP (.inl rfl)) zU1,d0 (aP (.inl rfl)) zU1,d0 (aP (.inl rfl)) zU1,d0 (aHZ (f:=119) (cs:=[pP (some L) 0,pP (some O) 0]) (pre:=[vI F]) 7 [2,3,1,4,5,6] [0] [6,2,0,1,3,4,5] rfl (xS h57 q8 q13 q18 q22 q23 q24) rfl rfl rfl rfl (by decide) (by decide) rfl) zU2,d0 (aP (.inl rfl)) zU1,d0 (aP (.inl rfl)) zU1,d0 (sM rfl) zU1,d0 (iG (off:=0) (k:=0) rfl tyF123_0) zU1,d0 (gM 1 1 rfl rfl rfl rfl (.one tyO3)) zU1,d0 (aP (.inl rfl)) zU1,d0 (y8 rfl h59) zU2,d0 (aHZ (f:=119) (cs:=[pP (some L) 0,pP (some O) 0]) (pre:=[vI v58]) 7 [2,3,1,4,5,6] [0] [6,2,0,1,3,4,5] rfl (xS h61 q8 q13 q18 q22 q23 q24) rfl rfl rfl rfl (by decide) (by decide) rfl) zU2,d0 (bO rfl h63 rfl) zU2,d0 (dX (C:=cQ) 0 rfl tyS24 rfl q42 (aB h65).1 (aB h65).2.1) zU2,zT⟩ (fun bs55 G54=>?_);obtain⟨x66,h67,v69,h70,h⟩:=u9 h;refine go ?_ ?_;exact aF (fun a w hh=>⟨x66,v69,h,(bI h67 q42),aQ 7 [0,1,2,3,4,5,6] rfl rfl (by decide) (by exact⟨rfl,rfl,rfl,rfl,rfl,zT⟩) hh⟩)
 refine bF ?_;obtain rfl:=iO h;exact dV Jj52 ⟨J,hRl51,q42,rfl,rfl⟩ 7 [0,1,2,3,4,5,6] rfl rfl zU1
def jN(K:Nat)(j:Int)(a1:Int)(a2:Int)(a3:Int)(a4:List Nat)(a5:List Rat)(a6:List Int)(k:List (List Rat)):Option Rat:=
 (oM K a6 j).bind fun e=>bif(decide (0≤e)) then((bR a4 e).bind fun f=>(bR (k.getD f []) a3).bind fun h=>some h) else(some 0)
theorem wQ{K:Nat}{a0:Int}{a1:Int}{a2:Int}{a3:Int}{a4:List Nat}{a5:List Rat}{a6:List Int}{X:List (List Rat)}{r:Rat}(t:jN K a0 a1 a2 a3 a4 a5 a6 X=some r){z:Nat}{U:Option Nat}{Y V:Nat}{F:Option Nat}{G u:Nat}{x:Option Nat}{y f:Nat}{e:List rC}{N21:Nat}(q8:a4.length=V)(q13:a5.length=u)(q18:a6.length=f)(I:X.length=N21)(J:cN e X)(L:∀k∈a4,k<N21):CtO Tryz.prog 121 ([⟨some z,1,123,6,1,([vJ a1]++[vJ a2]++[vJ a3]++[pO U V Y]++[pO F u G]++[pO x f y])⟩,hO (cH e) U Y 24 V a4,hO cQ F G 42 u a5,hO cI x y 3 f a6]++eJ cQ 42 e X) [.vc (pP (some z) 0),vI a0] (fun Ho q=>Ho=([⟨some z,1,123,6,1,([vJ a1]++[vJ a2]++[vJ a3]++[pO U V Y]++[pO F u G]++[pO x f y])⟩,hO (cH e) U Y 24 V a4,hO cQ F G 42 u a5,hO cI x y 3 f a6]++eJ cQ 42 e X)∧q=.va (eQ r)):=by
 unfold jN at t;refine aA Tryz.func121 rfl (by kernel_rfl) Tryz.ntmps121 rfl (fun w0 M0=>?_);refine aE (aI (aM rfl tyZ42q (fun b26=>?_)));obtain⟨v27,h28,t⟩:=bE t zN;refine go ?_ ?_;refine aG (aFP (pre':=[.vc (pO x f y),vI a0]) rfl h28 rfl (aQT (aF0 (C:=cI) 4 rfl q18) ⟨.inr ⟨rfl,rfl⟩,.inl rfl,zT⟩) (fun _ _ _ h=>h)) zU2 ?_;refine go ?_ ?_;refine aD t rfl (fun h29 t=>?_) (fun h29 t=>?_)
 ·refine aE ?_;obtain⟨j,s,t⟩:=aR t;obtain⟨v34,O,t⟩:=aR t;refine kO [0,1,3,7,0,31,63,0,128,384,896,2047,4095,8191] 13 1 [.v (.vc (pP (some z) 0)),.v (.vc (pP (some z) 0)),.v (.vc (pP (some z) 3)),.v (.vc (pO U V Y)),.v (vI v27),.v (.vc (pE U v27 (cH e).n 0)),.v (.vc (pO (eI e j).1 (eI e j).2.1 (eI e j).2.2)),.v (.vc (pP (some z) 0)),.v (.vc (pP (some z) 0)),.v (.vc (pP (some z) 2)),.v (vI a3),.v (.vc (pE (eI e j).1 a3 cQ.n 0)),.v (.va (eQ v34))] bC ⟨d0 (aP (.inl rfl)) zU1,d0 (sM rfl) zU1,d0 (iG (off:=0) (k:=3) rfl tyF123_3) zU1,d0 (gM 1 1 rfl rfl rfl rfl (.one tyO23)) zU1,d0 (aP (.inl rfl)) zU1,d0 (dX (C:=(cH e)) 2 rfl tyS23 rfl q8 (aB s).1 (aB s).2.1) zU2,d0 (gZ (C:=(cH e)) (k:=1) 2 rfl rfl s rfl (.one tyO24) rfl) zU1,d0 (aP (.inl rfl)) zU1,d0 (sM rfl) zU1,d0 (iG (off:=0) (k:=2) rfl tyF123_2) zU1,d0 (gM 1 1 rfl rfl rfl rfl (.one tyO3)) zU1,d0 (dX (5+j) rfl tyS24 (fD 5 rfl J I (L _ (aL s))) (cT J I (L _ (aL s))) (aB O).1 (aB O).2.1) zU2,d0 (gZ (k:=4) (5+j) rfl (fD 5 rfl J I (L _ (aL s))) O rfl (.agg tyA42) rfl) zU1,zT⟩ (fun bs31 G30=>?_);refine go ?_ ?_;refine gV (gW ?_);obtain rfl:=iO t;exact kM (.inl rfl) Tryz.results121 (xJ 0 4 rfl rfl rfl rfl (.agg tyA42) .nil) rfl 5 [1,2,3,4] rfl rfl (by decide) ⟨rfl,rfl⟩
 refine go ?_ ?_;refine aG (iV (is:=[]) (xs:=[]) (ps:=[]) rfl tyB42q rfl rfl zT rfl) zT ?_;refine go ?_ ?_;refine gV (gW ?_);obtain rfl:=iO t;exact kM (.inl rfl) Tryz.results121 (xJ 0 4 rfl rfl rfl rfl (.agg tyA42) .nil) rfl 5 [1,2,3,4] rfl rfl (by decide) ⟨rfl,rfl⟩
def mC(K:Nat)(e:List Rat):Option (List Rat):=
 some e
def eO(K:Nat)(j:Int)(a1:Int)(a2:Int)(a3:List Nat)(a4:List Rat)(a5:List Int)(a6:List (List Rat))(h:List Rat):Nat→(List Rat)→Int→Option (List Rat)
 |0,_,_=>none
 |k+1,f,e=>bif(decide (e<(h.length:Int))) then((jN K e j a1 a2 a3 a4 a5 a6).bind fun q=>(aV (j+e)).bind fun s=>(jN K s j a1 a2 a3 a4 a5 a6).bind fun t=>(aHd q t).bind fun u=>(bR f e).bind fun z=>(rW f e u).bind fun x=>(aV (e+1)).bind fun y=>eO K j a1 a2 a3 a4 a5 a6 h k x y) else(some f)
def fJ(K:Nat)(h:Int)(a1:Int)(a2:Int)(a3:List Nat)(a4:List Rat)(a5:List Int)(a6:List (List Rat)):Option (List Rat):=
 (mkL h 0).bind fun e=>(eO K h a1 a2 a3 a4 a5 a6 e K e 0).bind fun f=>mC K f
theorem vS{K:Nat}{X:Int}{a1:Int}{a2:Int}{a3:List Nat}{a4:List Rat}{a5:List Int}{a6:List (List Rat)}{r:List Rat}(h:fJ K X a1 a2 a3 a4 a5 a6=some r){G:Nat}{U:Option Nat}{V L:Nat}{u:Option Nat}{x j:Nat}{y:Option Nat}{z s:Nat}{t:List rC}{N21:Nat}(q8:a3.length=L)(q13:a4.length=j)(q18:a5.length=s)(q22:a6.length=N21)(q23:cN t a6)(q24:∀k∈a3,k<N21):CtO Tryz.prog 118 ([⟨some G,1,123,6,1,([vJ X]++[vJ a1]++[vJ a2]++[pO U L V]++[pO u j x]++[pO y s z])⟩,hO (cH t) U V 24 L a3,hO cQ u x 42 j a4,hO cI y z 3 s a5]++eJ cQ 42 t a6) [.vc (pP (some G) 0),.vc (pFB 121 [pP (some G) 0] [])] (fun Ho q=>Ho=([⟨some G,1,123,6,1,([vJ X]++[vJ a1]++[vJ a2]++[pO U L V]++[pO u j x]++[pO y s z])⟩,hO (cH t) U V 24 L a3,hO cQ u x 42 j a4,hO cI y z 3 s a5]++eJ cQ 42 t a6)∧q=.vc (pS cQ r)):=by
 unfold fJ at h;refine aA Tryz.func118 rfl (by kernel_rfl) Tryz.ntmps118 rfl (fun w0 M0=>?_);refine aE (aI (aG (aP (.inr rfl)) ⟨eG cQ,zT⟩ ?_));obtain⟨e,h27,h⟩:=aR h;refine go ?_ ?_;refine qE (C:=cQ) rfl tyS24 rfl tyZ42q rfl h27 (fun I=>?_);refine go ?_ ?_;refine aJ (aY (fun H E=>∃(O:List Rat),mC K O=some r∧O.length=e.length∧H=([hO cQ I e.length 42 e.length O,⟨some G,1,123,6,1,([vJ X]++[vJ a1]++[vJ a2]++[pO U L V]++[pO u j x]++[pO y s z])⟩,hO (cH t) U V 24 L a3,hO cQ u x 42 j a4,hO cI y z 3 s a5]++eJ cQ 42 t a6)∧E=[(5,.vc (pO I e.length e.length))]) ?_ (fun Jj52=>?_))
 ·rintro _ _ ⟨O,h,q49,rfl,rfl⟩;unfold mC at h;refine go ?_ ?_;refine gV (gW (tU 0 [4,5,33] rfl q49 ⟨rfl,rfl,rfl,zT⟩ rfl ?_));obtain rfl:=iO h;exact kM (.inl rfl) Tryz.results118 (.tmp rfl .nil) rfl 4 [0,1,2,3] rfl rfl (by decide) ⟨rfl,rfl⟩
 obtain⟨x45',hL,Y⟩:=aR h;refine dU (fun k a w=>∃(J:List Rat),∃(F:Int),eO K X a1 a2 a3 a4 a5 a6 e k J F=some x45'∧J.length=e.length∧hs _ ([hO cQ I e.length 42 e.length J,⟨some G,1,123,6,1,([vJ X]++[vJ a1]++[vJ a2]++[pO U L V]++[pO u j x]++[pO y s z])⟩,hO (cH t) U V 24 L a3,hO cQ u x 42 j a4,hO cI y z 3 s a5]++eJ cQ 42 t a6) [(0,.vc (pP (some G) 0)),(1,.vc (pFB 121 [pP (some G) 0] [])),(5,.vc (pO I e.length e.length)),(13,vI (e.length:Int)),(14,vI F)] a w) K (fun a w ⟨_,_,h,_,_⟩=>by cases h) (fun k a w ⟨J,F,h,q42,hh⟩=>dW ?_ hh) (fun a w hh=>⟨e,0,hL,rfl,aQ 5 [0,1,2,3,4] rfl rfl (by decide) (by exact⟨rfl,rfl,rfl,rfl,rfl,zT⟩) hh⟩);rw[eO.eq_2]at h;refine go ?_ ?_;refine aD h rfl (fun h53 h=>?_) (fun h53 h=>?_)
 ·refine go ?_ ?_;refine aJ ?_;obtain⟨v56,h57,v58,h59,v60,h61,h⟩:=bn3 h;obtain⟨v62,h63,h⟩:=bE h w8;obtain⟨v64,h65,h⟩:=aR h;refine go ?_ ?_;refine kO [0,0,0,0,12,0,0,64,192,448,0,1984,4092,8188,16383,32767] 15 1 [.v (.vc (pO I e.length e.length)),.v (vI F),.v (.vc (pFB 121 [pP (some G) 0] [])),.v (vI F),.v (.va (eQ v56)),.v (.vc (pFB 121 [pP (some G) 0] [])),.v (.vc (pP (some G) 0)),.v (.vc (pP (some G) 0)),.v (.vc (pP (some G) 0)),.v (vI X),.v (vI F),.v (vI v58),.v (.va (eQ v60)),.v (.va (eQ v62)),.v (.vc (pE I F cQ.n 0))] bC ⟨d0 (aP (.inl rfl)) zU1,d0 (aP (.inl rfl)) zU1,d0 (aP (.inl rfl)) zU1,d0 (aP (.inl rfl)) zU1,d0 (aGq (f:=121) (bs:=[pP (some G) 0]) (cs:=[]) (pre:=[vI F]) 5 [1,2,3,4] [0] [4,0,1,2,3] rfl (wQ h57 q8 q13 q18 q22 q23 q24) rfl rfl rfl rfl (by decide) (by decide) rfl) zU2,d0 (aP (.inl rfl)) zU1,d0 (aP (.inl rfl)) zU1,d0 (sM rfl) zU1,d0 (iG (off:=0) (k:=0) rfl tyF123_0) zU1,d0 (gM 1 1 rfl rfl rfl rfl (.one tyO3)) zU1,d0 (aP (.inl rfl)) zU1,d0 (y8 rfl h59) zU2,d0 (aGq (f:=121) (bs:=[pP (some G) 0]) (cs:=[]) (pre:=[vI v58]) 5 [1,2,3,4] [0] [4,0,1,2,3] rfl (wQ h61 q8 q13 q18 q22 q23 q24) rfl rfl rfl rfl (by decide) (by decide) rfl) zU2,d0 (bO rfl h63 rfl) zU2,d0 (dX (C:=cQ) 0 rfl tyS24 rfl q42 (aB h65).1 (aB h65).2.1) zU2,zT⟩ (fun bs55 G54=>?_);obtain⟨x66,h67,v69,h70,h⟩:=u9 h;refine go ?_ ?_;exact aF (fun a w hh=>⟨x66,v69,h,(bI h67 q42),aQ 5 [0,1,2,3,4] rfl rfl (by decide) (by exact⟨rfl,rfl,rfl,rfl,rfl,zT⟩) hh⟩)
 refine bF ?_;obtain rfl:=iO h;exact dV Jj52 ⟨J,Y,q42,rfl,rfl⟩ 5 [0,1,2,3,4] rfl rfl zU1
def jI(k:Int)(a1:Int)(a2:Int)(a3:List Rat)(a4:List Nat)(a5:List Int)(a6:List (List Rat)):Option (List Rat):=
 (aV (2*k)).bind fun e=>(aV (2*k)).bind fun f=>(aV (f+a1)).bind fun h=>(slL a3 e h).bind fun j=>(dR j).bind fun v30=>some v30
theorem z7{z:Int}{a1:Int}{a2:Int}{a3:List Rat}{a4:List Nat}{a5:List Int}{a6:List (List Rat)}{r:List Rat}(h:jI z a1 a2 a3 a4 a5 a6=some r){F:Nat}{u:Option Nat}{x s:Nat}{y:Option Nat}{j e:Nat}{f:List rC}{t:Nat}(q7:a4.length=s)(J:a5.length=e)(K:a6.length=t)(L:cN f a6)(O:∀k∈a4,k<t):CtO Tryz.prog 115 ([⟨some F,1,123,6,1,([vJ z]++[vJ a1]++[vJ a2]++[pO u s x]++[pS cQ a3]++[pO y e j])⟩,hO (cH f) u x 24 s a4,hO cI y j 3 e a5]++eJ cQ 42 f a6) [.vc (pP (some F) 0)] (fun Ho q=>Ho=([⟨some F,1,123,6,1,([vJ z]++[vJ a1]++[vJ a2]++[pO u s x]++[pS cQ a3]++[pO y e j])⟩,hO (cH f) u x 24 s a4,hO cI y j 3 e a5]++eJ cQ 42 f a6)∧q=.vc (pS cQ r)):=by
 unfold jI at h;refine aA Tryz.func115 rfl (by kernel_rfl) Tryz.ntmps115 rfl (fun w0 M0=>?_);refine aE (aI (aG (aP (.inr rfl)) ⟨eG cQ,zT⟩ ?_));obtain⟨U,G,h⟩:=aR h;have h:=uS G h;obtain⟨V,X,Y,h29,h⟩:=u9 h;obtain⟨v30,h31,h⟩:=bE h zQ;refine go ?_ ?_;refine dr [0,1,3,7,0,16,48,112,240,0,512,1536,3584,7680,0,16384,49152,114688,261632,524287,1048575,2097151] 22 0 ?_ (fun I G20=>?_);refine aX (aH (gV (gW ?_)));obtain rfl:=iO h;exact kM (.inl rfl) Tryz.results115 (.tmp rfl .nil) rfl 3 [0,1,2] rfl rfl (by decide) ⟨rfl,rfl⟩
def oD(K:Nat)(q:aW):Option (kT×Int):=
 (uQ K q).bind fun L=>bif(L != 0) then(some ((⟨0,([]:List Rat),([]:List Rat),0⟩:kT),L)) else((sH K q).bind fun v6=>(aV (2*q.vars)).bind fun y=>(aV (y+v6.2.1)).bind fun k=>(iA K (p9 k) v6.1 v6.2.1 v6.2.2.1 v6.2.2.2.1 v6.2.2.2.2.1 v6.2.2.2.2.2.1 v6.2.2.2.2.2.2).bind fun z=>(jM K v6.2.2.1 v6.1 v6.2.1 v6.2.2.1 v6.2.2.2.1 z v6.2.2.2.2.2.1 v6.2.2.2.2.2.2).bind fun f=>(bR f.2.2.1 v6.2.2.1).bind fun F=>(xR F).bind fun G=>bif(decide (G<0)) then((lL v6.1 v6.2.1 v6.2.2.1 f.2.1 f.2.2.1 f.2.2.2.1 f.2.2.2.2).bind fun I=>some ((⟨1,([]:List Rat),I,0⟩:kT),0)) else((l9 K k v6.1 v6.2.1 v6.2.2.1 f.2.1 f.2.2.1 f.2.2.2.1 f.2.2.2.2).bind fun h=>(iA K (nG q) v6.1 v6.2.1 v6.2.2.1 h.1 h.2.1 h.2.2.1 h.2.2.2).bind fun J=>(jM K k v6.1 v6.2.1 v6.2.2.1 h.1 J h.2.2.1 h.2.2.2).bind fun e=>bif(decide (0≤e.1)) then((iB K v6.1 v6.2.1 v6.2.2.1 e.1 e.2.1 e.2.2.1 e.2.2.2.1 e.2.2.2.2).bind fun s=>(fJ K v6.1 v6.2.1 v6.2.2.1 e.2.1 e.2.2.1 e.2.2.2.1 e.2.2.2.2).bind fun t=>some ((⟨2,t,s,0⟩:kT),0)) else((fJ K v6.1 v6.2.1 v6.2.2.1 e.2.1 e.2.2.1 e.2.2.2.1 e.2.2.2.2).bind fun j=>(jI v6.1 v6.2.1 v6.2.2.1 e.2.2.1 e.2.1 e.2.2.2.1 e.2.2.2.2).bind fun u=>(wC K q.goal j).bind fun x=>some ((⟨0,j,u,x⟩:kT),0))))
theorem aFh{K:Nat}{a0:aW}{r:kT×Int}(j:oD K a0=some r):Ct Tryz.prog 70 [.va (aW.enc a0)] (.t2 (.va (kT.enc r.1)) (vI r.2)):=by
 unfold oD at j;refine aA Tryz.func70 rfl (by kernel_rfl) Tryz.ntmps70 rfl (fun w0 M0=>?_);refine aE (aI (dP rfl rfl zT (fun b1=>?_)));refine aM rfl tyZ94q (fun b2=>?_);obtain⟨v3,h4,j⟩:=bE j aEV;refine go ?_ ?_;refine aD j rfl (fun h5 j=>?_) (fun h5 j=>?_)
 ·refine aE (aI (aG (iV (is:=[]) (xs:=[]) (ps:=[]) rfl tyB94q rfl rfl zT rfl) zT ?_));exact bU
 obtain⟨v6,h7,j⟩:=aR j;refine go ?_ ?_;refine aEt [] [0,1] rfl (aC6 h7) zU1 rfl rfl (by decide) ?_;rintro _ _ ⟨Y,b13,c14,n15,J,L,O,q,t,u,g28,N29,q16,q21,q26,q30,q31,q32,rfl,rfl⟩;refine mB (kH [⟨some Y,1,123,6,1,([vJ v6.1]++[vJ v6.2.1]++[vJ v6.2.2.1]++[pO b13 n15 c14]++[pO J O L]++[pO q u t])⟩,hO (cH g28) b13 c14 24 n15 v6.2.2.2.1,hO cQ J L 42 O v6.2.2.2.2.1,hO cI q t 3 u v6.2.2.2.2.2.1] (eJ cQ 42 g28 v6.2.2.2.2.2.2) [⟨some b2,1,94,7,1,([vJ 0]++[pS cQ ([]:List Rat)]++[pS cQ ([]:List Rat)]++(eQ 0))⟩,⟨some b1,1,90,3,1,(aW.enc a0)⟩]) ?_;refine aM rfl tyZ120q (fun b34=>?_);obtain⟨v37,h38,v39,h40,j⟩:=u9 j;refine go ?_ ?_;refine dr [0,1,3,0,8,24,56,127,0,511] 9 1 ?_ (fun bs36 G35=>?_);refine mI (t_s 0 rfl rfl rfl tyO3.s) zU2 ?_;refine aX (aH (aE (aI (aG (gM 1 1 rfl rfl rfl rfl (.one tyO120)) zU1 ?_))));refine aGw 0 [(6,0)] rfl zU1 rfl ?_;refine aG (aKs (φ:=(p9 v39)) (pre:=fun x:Int=>[vI x]) (post:=fun r:Rat=>.va (eQ r)) (xs:=[.tmp 6]) (cs:=[pM (cI.e v39)]) rfl rfl (fun x r h=>aDM h)) zU1 ?_;obtain⟨v41,h42,j⟩:=aR j;refine oY 7 [1,2,3,4] [0,5,6] rfl (vE h42 q16 q21 q26 q30 q31 q32) zU2 rfl rfl rfl (by decide) ?_;rintro _ _ ⟨U,V,X,q47,rfl,rfl⟩;refine mB (kH [⟨some Y,1,123,6,1,([vJ v6.1]++[vJ v6.2.1]++[vJ v6.2.2.1]++[pO b13 n15 c14]++[pO U X V]++[pO q u t])⟩,hO (cH g28) b13 c14 24 n15 v6.2.2.2.1,hO cQ J L 42 O v6.2.2.2.2.1,hO cI q t 3 u v6.2.2.2.2.2.1,hO cQ U V 42 X v41] (eJ cQ 42 g28 v6.2.2.2.2.2.2) [⟨some b34,1,120,1,1,[pP (some Y) 0]⟩,⟨some b2,1,94,7,1,([vJ 0]++[pS cQ ([]:List Rat)]++[pS cQ ([]:List Rat)]++(eQ 0))⟩,⟨some b1,1,90,3,1,(aW.enc a0)⟩]) ?_;refine go ?_ ?_;refine dr [0,0,2,6,14,31] 5 1 ?_ (fun bs50 G49=>?_);obtain⟨v51,h52,j⟩:=aR j;refine oY 8 [0,1,4,3] [2,5,6,7] rfl (wR h52 q16 q47 q26 q30 q31 q32) zU2 rfl rfl rfl (by decide) ?_;rintro _ _ ⟨b53,c54,n55,g62,N63,q56,q58,q60,q64,q65,q66,rfl,rfl⟩;refine mB (kH [⟨some Y,1,123,6,1,([vJ v6.1]++[vJ v6.2.1]++[vJ v6.2.2.1]++[pO b53 n55 c54]++[pO U X V]++[pO q u t])⟩,hO (cH g62) b53 c54 24 n55 v51.2.1,hO cQ U V 42 X v51.2.2.1,hO cI q t 3 u v51.2.2.2.1] (eJ cQ 42 g62 v51.2.2.2.2) [hO cQ J L 42 O v6.2.2.2.2.1,⟨some b34,1,120,1,1,[pP (some Y) 0]⟩,⟨some b2,1,94,7,1,([vJ 0]++[pS cQ ([]:List Rat)]++[pS cQ ([]:List Rat)]++(eQ 0))⟩,⟨some b1,1,90,3,1,(aW.enc a0)⟩]) ?_;obtain⟨v70,h71,j⟩:=aR j;obtain⟨v72,h73,j⟩:=bE j eA;refine go ?_ ?_;refine dr [0,1,3,7,0,16,48,112,255,511,1023,2047] 12 0 ?_ (fun bs69 G68=>?_);refine aX (aH (aD j rfl (fun h74 j=>?_) (fun h74 j=>?_)))
 ·obtain⟨v75,h76,j⟩:=aR j;refine go ?_ ?_;refine oY 8 [0,1,2,3] [4,5,6,7] rfl (zX h76 q56 q58 q60 q64 q65 q66) zU1 rfl rfl rfl (by decide) ?_;rintro _ _ ⟨rfl,rfl⟩;refine mB (kH [⟨some Y,1,123,6,1,([vJ v6.1]++[vJ v6.2.1]++[vJ v6.2.2.1]++[pO b53 n55 c54]++[pS cQ v51.2.2.1]++[pO q u t])⟩,hO (cH g62) b53 c54 24 n55 v51.2.1,hO cI q t 3 u v51.2.2.2.1] (eJ cQ 42 g62 v51.2.2.2.2) [hO cQ J L 42 O v6.2.2.2.2.1,⟨some b34,1,120,1,1,[pP (some Y) 0]⟩,⟨some b2,1,94,7,1,([vJ 0]++[pS cQ ([]:List Rat)]++[pS cQ ([]:List Rat)]++(eQ 0))⟩,⟨some b1,1,90,3,1,(aW.enc a0)⟩]) ?_;refine aG (iV (is:=[0,2]) (xs:=[.const (.int .i64 (1)),.tmp 48]) (ps:=[vI 1,.vc (pS cQ v75)]) rfl tyB94q rfl rfl ⟨zT,zT,zT⟩ rfl) ⟨rR _ _,rfl,zT⟩ ?_;exact bU
 obtain⟨I,h78,j⟩:=aR j;refine go ?_ ?_;refine oY 8 [0,1,2,3] [4,5,6,7] rfl (aAw h78 q56 q58 q60 q64 q65 q66) zU2 rfl rfl rfl (by decide) ?_;rintro _ _ ⟨b79,c80,n81,g88,N89,q82,q84,q86,q90,q91,q92,rfl,rfl⟩;refine mB (kH [⟨some Y,1,123,6,1,([vJ v6.1]++[vJ v6.2.1]++[vJ v6.2.2.1]++[pO b79 n81 c80]++[pO U X V]++[pO q u t])⟩,hO (cH g88) b79 c80 24 n81 I.1,hO cQ U V 42 X I.2.1,hO cI q t 3 u I.2.2.1] (eJ cQ 42 g88 I.2.2.2) [hO cQ J L 42 O v6.2.2.2.2.1,⟨some b34,1,120,1,1,[pP (some Y) 0]⟩,⟨some b2,1,94,7,1,([vJ 0]++[pS cQ ([]:List Rat)]++[pS cQ ([]:List Rat)]++(eQ 0))⟩,⟨some b1,1,90,3,1,(aW.enc a0)⟩]) ?_;refine aX (aH (aE (aI (aG (gM 5 1 rfl rfl rfl rfl (.one tyO120)) zU1 ?_))));refine aGw 7 [(1,0),(18,0)] rfl zU2 rfl ?_;refine aG (aKs (φ:=(nG a0)) (pre:=fun x:Int=>[vI x]) (post:=fun r:Rat=>.va (eQ r)) (xs:=[.tmp 1]) (cs:=[pM (aW.cod.e a0)]) rfl rfl (fun x r h=>aDn h)) zU1 ?_;obtain⟨v94,h95,j⟩:=aR j;refine oY 7 [0,1,2,3] [4,5,6] rfl (vE h95 q82 q84 q86 q90 q91 q92) zU2 rfl rfl rfl (by decide) ?_;rintro _ _ ⟨b97,c98,n99,q100,rfl,rfl⟩;refine mB (kH [⟨some Y,1,123,6,1,([vJ v6.1]++[vJ v6.2.1]++[vJ v6.2.2.1]++[pO b79 n81 c80]++[pO b97 n99 c98]++[pO q u t])⟩,hO (cH g88) b79 c80 24 n81 I.1,hO cQ U V 42 X I.2.1,hO cI q t 3 u I.2.2.1,hO cQ b97 c98 42 n99 v94] (eJ cQ 42 g88 I.2.2.2) [hO cQ J L 42 O v6.2.2.2.2.1,⟨some b34,1,120,1,1,[pP (some Y) 0]⟩,⟨some b2,1,94,7,1,([vJ 0]++[pS cQ ([]:List Rat)]++[pS cQ ([]:List Rat)]++(eQ 0))⟩]) ?_;obtain⟨f,h103,j⟩:=aR j;refine go ?_ ?_;refine oY 8 [0,1,4,3] [2,5,6,7] rfl (wR h103 q82 q100 q86 q90 q91 q92) zU2 rfl rfl rfl (by decide) ?_;rintro _ _ ⟨y,z,F,G,N114,q107,q109,q111,q115,q116,q117,rfl,rfl⟩;refine mB (kH [⟨some Y,1,123,6,1,([vJ v6.1]++[vJ v6.2.1]++[vJ v6.2.2.1]++[pO y F z]++[pO b97 n99 c98]++[pO q u t])⟩,hO (cH G) y z 24 F f.2.1,hO cQ b97 c98 42 n99 f.2.2.1,hO cI q t 3 u f.2.2.2.1] (eJ cQ 42 G f.2.2.2.2) [hO cQ U V 42 X I.2.1,hO cQ J L 42 O v6.2.2.2.2.1,⟨some b34,1,120,1,1,[pP (some Y) 0]⟩,⟨some b2,1,94,7,1,([vJ 0]++[pS cQ ([]:List Rat)]++[pS cQ ([]:List Rat)]++(eQ 0))⟩]) ?_;refine aM rfl tyZ3q (fun b119=>?_);refine go ?_ ?_;refine aD j rfl (fun h120 j=>?_) (fun h120 j=>?_)
 ·refine go ?_ ?_;refine aG (aNG (xs:=[.tmp 5,.tmp 7]) (cs:=[pP (some b34) 0,pP (some b119) 0]) rfl rfl) zU2 ?_;obtain⟨v121,h122,j⟩:=aR j;refine oY 9 [1,7,0,2,3,4] [5,6,8] rfl (aAb h122 q107 q109 q111 q115 q116 q117) zU2 rfl rfl rfl (by decide) ?_;rintro _ _ ⟨rfl,rfl⟩;refine mB (kH [⟨some Y,1,123,6,1,([vJ v6.1]++[vJ v6.2.1]++[vJ v6.2.2.1]++[pO y F z]++[pO b97 n99 c98]++[pO q u t])⟩,⟨some b34,1,120,1,1,[pP (some Y) 0]⟩,⟨some b119,1,3,1,1,[vJ f.1]⟩,hO (cH G) y z 24 F f.2.1,hO cQ b97 c98 42 n99 f.2.2.1,hO cI q t 3 u f.2.2.2.1] (eJ cQ 42 G f.2.2.2.2) [hO cQ U V 42 X I.2.1,hO cQ J L 42 O v6.2.2.2.2.1,⟨some b2,1,94,7,1,([vJ 0]++[pS cQ ([]:List Rat)]++[pS cQ ([]:List Rat)]++(eQ 0))⟩]) ?_;refine go ?_ ?_;refine aG (aTB (xs:=[.tmp 65]) (bs:=[pP (some Y) 0]) rfl rfl) zU1 ?_;obtain⟨v123,h124,j⟩:=aR j;refine oY 9 [0,3,4,5] [1,2,6,7,8] rfl (vS h124 q107 q109 q111 q115 q116 q117) zU2 rfl rfl rfl (by decide) ?_;rintro _ _ ⟨rfl,rfl⟩;refine mB (kH [⟨some Y,1,123,6,1,([vJ v6.1]++[vJ v6.2.1]++[vJ v6.2.2.1]++[pO y F z]++[pO b97 n99 c98]++[pO q u t])⟩,hO (cH G) y z 24 F f.2.1,hO cQ b97 c98 42 n99 f.2.2.1,hO cI q t 3 u f.2.2.2.1] (eJ cQ 42 G f.2.2.2.2) [⟨some b34,1,120,1,1,[pP (some Y) 0]⟩,⟨some b119,1,3,1,1,[vJ f.1]⟩,hO cQ U V 42 X I.2.1,hO cQ J L 42 O v6.2.2.2.2.1,⟨some b2,1,94,7,1,([vJ 0]++[pS cQ ([]:List Rat)]++[pS cQ ([]:List Rat)]++(eQ 0))⟩]) ?_;refine gG ?_;refine aG (iV (is:=[0,1,2]) (xs:=[.const (.int .i64 (2)),.tmp 67,.tmp 68]) (ps:=[vI 2,.vc (pS cQ v123),.vc (pS cQ v121)]) rfl tyB94q rfl rfl ⟨zT,zT,zT,zT⟩ rfl) ⟨rR _ _,rfl,rfl,zT⟩ ?_;exact bU
 refine go ?_ ?_;refine aG (aTB (xs:=[.tmp 71]) (bs:=[pP (some Y) 0]) rfl rfl) zU1 ?_;obtain⟨v125,h126,j⟩:=aR j;refine oY 9 [1,2,3,4] [0,5,6,7,8] rfl (vS h126 q107 q109 q111 q115 q116 q117) zU2 rfl rfl rfl (by decide) ?_;rintro _ _ ⟨rfl,rfl⟩;refine mB (kH [⟨some Y,1,123,6,1,([vJ v6.1]++[vJ v6.2.1]++[vJ v6.2.2.1]++[pO y F z]++[pO b97 n99 c98]++[pO q u t])⟩,hO (cH G) y z 24 F f.2.1,hO cQ b97 c98 42 n99 f.2.2.1,hO cI q t 3 u f.2.2.2.1] (eJ cQ 42 G f.2.2.2.2) [⟨some b119,1,3,1,1,[vJ f.1]⟩,hO cQ U V 42 X I.2.1,hO cQ J L 42 O v6.2.2.2.2.1,⟨some b34,1,120,1,1,[pP (some Y) 0]⟩,⟨some b2,1,94,7,1,([vJ 0]++[pS cQ ([]:List Rat)]++[pS cQ ([]:List Rat)]++(eQ 0))⟩]) ?_;refine go ?_ ?_;refine aTx 2 0 4 rfl q109 rfl rfl rfl rfl rfl ?_;obtain⟨v131,h132,j⟩:=aR j;obtain⟨v133,h134,j⟩:=bE j aBE;refine kO [0,0,2,0,8,0,62,127,255,511] 8 2 [.v (.vc (pS cQ v125)),.v (.vc (pP (some Y) 0)),.v (.vc (pS cQ v131)),.v (.vc (pM ((aW.cod.e a0).drop 2))),.v (.vc (pS cQ a0.goal)),.v (.vc (pS cQ v125)),.v (.va (eQ v133)),.v (.va ([vJ 0]++[pS cQ v125]++[pS cQ v131]++(eQ v133)))] bC ⟨d0 (aP (.inl rfl)) zU1,d0 (gM 6 1 rfl rfl rfl rfl (.one tyO120)) zU1,d0 (aJv 8 [0,1,2] [3,4,5,6,7] [0,1,2,3,4,5,6,7] rfl (z7 h132 q107 q111 q115 q116 q117) rfl rfl rfl rfl (by decide) (by decide) rfl) zU1,d0 (aQK (ps:=(aW.cod.e a0)) (k:=2) rfl tyF90_2) zU1,d0 (aDy 1 rfl rfl (.one tyO24)) zU1,d0 (aP (.inl rfl)) zU1,d0 (bO rfl h134 rfl) zU2,d0 (iV (is:=[0,1,2,3]) (xs:=[.const (.int .i64 (0)),.tmp 74,.tmp 76,.tmp 80]) (ps:=[vI 0,.vc (pS cQ v125),.vc (pS cQ v131),.va (eQ v133)]) rfl tyB94q rfl rfl ⟨zT,zT,zT,zT,zT⟩ rfl) ⟨rR _ _,rfl,rfl,rfl,zT⟩,zT⟩ (fun bs130 G129=>?_);exact bU
def pA(K:Nat)(a1:List Rat)(j:List Rat)(f:List aS):Option ((List Rat)×Int):=
 (oD K (⟨(a1.length:Int),f,j⟩:aW)).bind fun e=>bif(e.2 != 0) then(some ([],6)) else(bif(e.1.kind != 0) then(some ([],6)) else((xR e.1.value).bind fun h=>bif(decide (h≤0)) then(some ([],6)) else(some (e.1.x,0))))
def o5(K:Nat)(f:List aS)(h:Int)(e:(List aS)→Int→Option (List aS))(j:List Rat):Option (List aS):=
 (tC f [(⟨j,0⟩:aS)]).bind fun k=>(aV (h+1)).bind fun q=>e k q
def iC(K:Nat)(u:List (List Rat))(a1:List Rat)(h:Int):Nat→(List Rat)→Int→Option (List Rat)
 |0,_,_=>none
 |k+1,f,e=>bif(decide (e<(a1.length:Int))) then((bR u e).bind fun j=>(bR j h).bind fun q=>(bR f e).bind fun x=>(rW f e q).bind fun s=>(aV (e+1)).bind fun t=>iC K u a1 h k s t) else(some f)
def fK(K:Nat)(q:List (List Rat))(a1:List Rat):Nat→(List aS)→Int→Option (List aS)
 |0,_,_=>none
 |k+1,f,e=>bif(decide (e<(a1.length:Int))) then((mkL (a1.length:Int) 0).bind fun h=>(iC K q a1 e K h 0).bind fun j=>o5 K f e (fK K q a1 k) j) else(some f)
def pU(K:Nat)(s:List (List Rat))(a1:List Rat)(f:List aS)(h:List Rat)(j:Rat)(k:List Rat):Option ((List Rat)×Int):=
 (tC f [(⟨k,j⟩:aS)]).bind fun q=>(fK K s a1 K q 0).bind fun e=>pA K a1 h e
def iT(K:Nat)(a1:List Rat):Nat→(List Rat)→Int→Option (List Rat)
 |0,_,_=>none
 |k+1,e,f=>bif(decide (f<(a1.length:Int))) then((qof 1 1).bind fun h=>(tC e [h]).bind fun j=>(aV (f+1)).bind fun q=>iT K a1 k j q) else(some e)
def pR(K:Nat)(k:List (List Rat))(a1:List Rat)(e:List aS)(f:List Rat):Option ((List Rat)×Int):=
 (qof 1 1).bind fun h=>(iT K a1 K ([]:List Rat) 0).bind fun j=>pU K k a1 e f h j
def iY(K:Nat)(a1:List Rat):Nat→(List aS)→(List Rat)→Int→Option ((List aS)×(List Rat))
 |0,_,_,_=>none
 |k+1,j,h,e=>bif(decide (e<(a1.length:Int))) then((bR a1 e).bind fun q=>(aC0 q).bind fun s=>(bR h e).bind fun F=>(rW h e s).bind fun t=>(mkL (a1.length:Int) 0).bind fun f=>(qof (-1) 1).bind fun u=>(bR f e).bind fun G=>(rW f e u).bind fun x=>(tC j [(⟨x,0⟩:aS)]).bind fun y=>(aV (e+1)).bind fun z=>iY K a1 k y t z) else(some (j,h))
def lQ(K:Nat)(h:List (List Rat))(a1:List Rat):Option ((List Rat)×Int):=
 (jQ K h a1).bind fun v1=>bif(!v1) then(some ([],1)) else(bif((a1.length:Int)==0) then(some ([],6)) else((mkL (a1.length:Int) 0).bind fun j=>(iY K a1 K ([]:List aS) j 0).bind fun(e,f)=>pR K h a1 e f))
theorem zD{K:Nat}{a0:List (List Rat)}{a1:List Rat}{r:(List Rat)×Int}(f:lQ K a0 a1=some r):Ct Tryz.prog 27 [.vc (pS (eF cQ) a0),.vc (pS cQ a1)] (.t2 (.vc (pS cQ r.1)) (vI r.2)):=by
 unfold lQ at f;refine aA Tryz.func27 rfl (by kernel_rfl) Tryz.ntmps27 rfl (fun w0 M0=>?_);refine aE (aI (aG (aP (.inr rfl)) ⟨eG cQ,zT⟩ ?_));refine aG (aP (.inr rfl)) ⟨rR _ _,zT⟩ ?_;refine aX (aH (aE (aE (aI (gG ?_)))));refine gG ?_;obtain⟨v1,h2,f⟩:=aR f;refine aG (bO rfl (qI h2) rfl) zU2 ?_;refine aG (aLU rfl) zU1 ?_;refine aX (aH (aG8 rfl (fun h3=>?_) (fun h3=>?_)))
 ·have f:=tH h3 f;refine aE (aI (aG (aP (.inr rfl)) ⟨eG cQ,zT⟩ ?_));refine aG (aP (.inr rfl)) ⟨rR _ _,zT⟩ ?_;refine aX (aH (gV (gW ?_)));obtain rfl:=iO f;exact kJ (.inl rfl) Tryz.results27 (.tmp rfl (.tmp rfl .nil)) rfl rfl
 have f:=rD h3 f;refine fB (aH (aE (aI (gG ?_))));refine aG (aIj rfl tyS24) zU1 ?_;refine zH ?_;refine aX (aH (aE (aE (aI (gG ?_)))));refine aG (aR2 rfl) ⟨rfl,rR _ _,zT⟩ ?_;refine aX (aH (aG8 rfl (fun h4=>?_) (fun h4=>?_)))
 ·have f:=tH h4 f;refine aE (aI (aG (aP (.inr rfl)) ⟨eG cQ,zT⟩ ?_));refine aG (aP (.inr rfl)) ⟨rR _ _,zT⟩ ?_;refine aX (aH (gV (gW ?_)));obtain rfl:=iO f;exact kJ (.inl rfl) Tryz.results27 (.tmp rfl (.tmp rfl .nil)) rfl rfl
 have f:=rD h4 f;refine fB (aH (aE (aI (gG ?_))));refine gG ?_;obtain⟨j,h6,f⟩:=aR f;refine qE (C:=cQ) rfl tyS24 rfl tyZ42q rfl h6 (fun L=>?_);refine aAe aS.cod 92 ?_;refine aG (iV (is:=[0,2]) (xs:=[.tmp 24,.tmp 26]) (ps:=[vI (a1.length:Int),.vc (pO L j.length j.length)]) rfl tyB90_o1q rfl rfl ⟨zT,zT,zT⟩ rfl) zU2 ?_;refine aM rfl tyZ90q (fun q=>?_);refine mI (t_s 0 rfl rfl rfl tyA90.s) zU2 ?_;refine aX (aH (aE (aE (aI (gG ?_)))));refine aG (aP (.inl rfl)) ⟨rR _ _,zT⟩ ?_;refine aX (aH (aJ (aY (fun H E=>∃(x43:List aS),∃(F:List Rat),∃(b44:Option Nat),∃(c45:Nat),∃(O:Nat),pR K a0 a1 x43 F=some r∧x43.length=O∧F.length=j.length∧H=[⟨some q,1,90,3,1,([vJ (a1.length:Int)]++[pO b44 O c45]++[pO L j.length j.length])⟩,hO aS.cod b44 c45 92 O x43,hO cQ L j.length 42 j.length F]∧E=[(0,.vc (pS (eF cQ) a0)),(6,vI (a1.length:Int)),(7,.vc (pP (some q) 0))]) ?_ (fun Jj56=>?_))))
 ·rintro _ _ ⟨x43,F,b44,c45,O,f,q47,q53,rfl,rfl⟩;unfold pR at f;refine aH (aE (aI ?_));obtain⟨v57,h58,f⟩:=aR f;refine aG (bO rfl (tX h58) rfl) ⟨rR _ _,rR _ _,zT⟩ ?_;refine aAe cQ 42 ?_;refine aG (iV (is:=[1]) (xs:=[.tmp 56]) (ps:=[.va (eQ v57)]) rfl tyB92_o0q rfl rfl ⟨zT,zT⟩ rfl) zU1 ?_;refine aM rfl tyZ92q (fun b65=>?_);refine mI (t_s 0 rfl rfl rfl tyA92.s) zU2 ?_;refine aX (aH (aE (aE (aI (gG ?_)))));refine aG (aP (.inl rfl)) ⟨rR _ _,zT⟩ ?_;refine aX (aH (aJ (aY (fun H E=>∃(x80:List Rat),∃(b81:Option Nat),∃(c82:Nat),∃(n83:Nat),pU K a0 a1 x43 F v57 x80=some r∧x80.length=n83∧H=[⟨some b65,1,92,5,1,([pO b81 n83 c82]++(eQ v57))⟩,hO cQ b81 c82 42 n83 x80,⟨some q,1,90,3,1,([vJ (a1.length:Int)]++[pO b44 O c45]++[pO L j.length j.length])⟩,hO aS.cod b44 c45 92 O x43,hO cQ L j.length 42 j.length F]∧E=[(0,.vc (pS (eF cQ) a0)),(6,vI (a1.length:Int)),(7,.vc (pP (some q) 0)),(10,.vc (pP (some b65) 0))]) ?_ (fun Jj87=>?_))))
  ·rintro _ _ ⟨x80,b81,c82,n83,f,q84,rfl,rfl⟩;unfold pU at f;refine aH (aE (aI (aG (iG (off:=0) (k:=1) rfl tyF90_1) zU1 ?_)));refine aG (gM 2 1 rfl rfl rfl rfl (.one tyO88)) zU1 ?_;refine aFo 1 0 0 rfl q84 rfl rfl rfl rfl rfl ?_;refine aG (gM 0 5 rfl rfl rfl rfl (.agg tyA92)) zU1 ?_;refine aG (iH (C:=aS.cod) (xs:=[.tmp 70]) (ps:=[.va ([pS cQ x80]++(eQ v57))]) (zs:=[(⟨x80,v57⟩:aS)]) rfl tyS88 rfl ⟨⟨zT,rfl⟩,zT⟩ rfl) zU1 ?_;obtain⟨x88,h89,f⟩:=aR f;refine nZ 2 rfl tyS88 rfl rfl q47 rfl rfl h89 (fun b90 c91 H92 e93=>?_);cases e93;refine aG (iG (off:=0) (k:=1) rfl tyF90_1) zU1 ?_;refine mI (t_s 1 rfl rfl rfl tyO88.s) zU2 ?_;refine aX (aH (aE (aE (aI (gG ?_)))));refine aG (aP (.inl rfl)) ⟨rR _ _,zT⟩ ?_;refine aX (aH (aJ (aY (fun H E=>∃(x109:List aS),∃(b110:Option Nat),∃(c111:Nat),∃(n112:Nat),pA K a1 F x109=some r∧x109.length=n112∧H=[⟨some q,1,90,3,1,([vJ (a1.length:Int)]++[pO b110 n112 c111]++[pO L j.length j.length])⟩,hO aS.cod b110 c111 92 n112 x109,hO cQ L j.length 42 j.length F]∧E=[(7,.vc (pP (some q) 0))]) ?_ (fun Jj116=>?_))))
   ·rintro _ _ ⟨x109,b110,c111,n112,f,q113,rfl,rfl⟩;unfold pA at f;refine aH (aE (aI (aFo 1 0 1 rfl q113 rfl rfl rfl rfl rfl ?_)));refine aFo 1 0 2 rfl q53 rfl rfl rfl rfl rfl ?_;refine aG (gM 0 3 rfl rfl rfl rfl (.agg tyA90)) zU1 ?_;obtain⟨v117,h118,f⟩:=aR f;refine aG (bO rfl (aFh h118) rfl) zU1 ?_;refine gG ?_;refine aG (aI6 rfl) zU1 ?_;refine aG (aIe rfl) zU1 ?_;refine aM rfl tyZ94q (fun b119=>?_);refine mI (t_s 0 rfl rfl rfl tyA94.s) zU2 ?_;refine zH ?_;refine aX (aH (aE (aE (aI (gG ?_)))));refine aG (aPN rfl) ⟨rfl,rR _ _,zT⟩ ?_;refine gG ?_;refine aLD (fun h120=>?_) (fun h120=>?_)
    ·have f:=tH h120 f;refine aBV ?_;refine aBV ?_;refine aBV ?_;refine aG (xU rfl) ⟨rfl,k_B _,zT⟩ ?_;refine gG ?_;refine aBV ?_;refine aBV ?_;refine aBV ?_;refine aBV ?_;refine aG (xU rfl) ⟨rfl,k_B _,zT⟩ ?_;refine aX (aH (kA rfl ?_));refine aE (aI (aG (aP (.inr rfl)) ⟨eG cQ,zT⟩ ?_));refine aG (aP (.inr rfl)) ⟨rR _ _,zT⟩ ?_;refine aX (aH (gV (gW ?_)));obtain rfl:=iO f;exact kJ (.inl rfl) Tryz.results27 (.tmp rfl (.tmp rfl .nil)) rfl rfl
    have f:=rD h120 f;refine wS (iG (off:=0) (k:=0) rfl tyF94_0) zU1 ?_;refine wS (gM 0 1 rfl rfl rfl rfl (.one tyO3)) zU1 ?_;refine wS (aPN rfl) ⟨rfl,rR _ _,zT⟩ ?_;refine aG (aBD rfl) zU2 ?_;refine gG ?_;refine aLD (fun h121=>?_) (fun h121=>?_)
    ·have f:=tH h121 f;refine aBV ?_;refine aBV ?_;refine aBV ?_;refine aBV ?_;refine aG (xU rfl) ⟨rfl,k_B _,zT⟩ ?_;refine aX (aH (kA rfl ?_));refine aE (aI (aG (aP (.inr rfl)) ⟨eG cQ,zT⟩ ?_));refine aG (aP (.inr rfl)) ⟨rR _ _,zT⟩ ?_;refine aX (aH (gV (gW ?_)));obtain rfl:=iO f;exact kJ (.inl rfl) Tryz.results27 (.tmp rfl (.tmp rfl .nil)) rfl rfl
    have f:=rD h121 f;refine wS (iG (off:=0) (k:=3) rfl tyF94_3) zU1 ?_;refine wS (gM 0 4 rfl rfl rfl rfl (.agg tyA42)) zU1 ?_;obtain⟨v122,h123,f⟩:=aR f;refine wS (bO rfl (eA h123) rfl) zU1 ?_;refine wS (aR1 rfl) ⟨rfl,rR _ _,zT⟩ ?_;refine aG (aBD rfl) zU2 ?_;refine aX (aH (aG8 rfl (fun h124=>?_) (fun h124=>?_)))
    ·have f:=tH h124 f;refine aE (aI (aG (aP (.inr rfl)) ⟨eG cQ,zT⟩ ?_));refine aG (aP (.inr rfl)) ⟨rR _ _,zT⟩ ?_;refine aX (aH (gV (gW ?_)));obtain rfl:=iO f;exact kJ (.inl rfl) Tryz.results27 (.tmp rfl (.tmp rfl .nil)) rfl rfl
    have f:=rD h124 f;refine fB (aH (aE (aI (aG (iG (off:=0) (k:=1) rfl tyF94_1) zU1 ?_))));refine aG (gM 0 1 rfl rfl rfl rfl (.one tyO24)) zU1 ?_;refine zH ?_;refine aG (aP (.inr rfl)) ⟨rR _ _,zT⟩ ?_;refine aX (aH (gV (gW ?_)));obtain rfl:=iO f;exact kJ (.inl rfl) Tryz.results27 (.tmp rfl (.tmp rfl .nil)) rfl rfl
   obtain⟨x109',hL,hRl115⟩:=aR f;refine dU (fun k a w=>∃(x:List aS),∃(u:Int),∃(y:Option Nat),∃(z:Nat),∃(t:Nat),fK K a0 a1 k x u=some x109'∧x.length=t∧hs _ [⟨some q,1,90,3,1,([vJ (a1.length:Int)]++[pO y t z]++[pO L j.length j.length])⟩,hO aS.cod y z 92 t x,hO cQ L j.length 42 j.length F] [(0,.vc (pS (eF cQ) a0)),(6,vI (a1.length:Int)),(7,.vc (pP (some q) 0)),(74,vI (a1.length:Int)),(75,vI u)] a w) K (fun a w ⟨_,_,_,_,_,f,_,_⟩=>by cases f) (fun k a w ⟨x,u,y,z,t,f,q106,hh⟩=>dW ?_ hh) (fun a w hh=>⟨x88,0,b90,c91,(O+[(⟨x80,v57⟩:aS)].length),hL,(dN h89 q47),yY [1,2,3] rfl (by decide) (by exact⟨rfl,rfl,rfl,rfl,rfl,zT⟩) hh⟩);rw[fK.eq_2]at f;refine aE (aI (aG (aHh rfl) zU2 ?_));refine aX (aH (aE (aG8 rfl (fun h125=>?_) (fun h125=>?_))))
   ·have f:=tH h125 f;refine fB (aH (aE (aJ (aE (aI (gG ?_))))));refine zH ?_;refine aX (aH (aE (aI (gG ?_))));obtain⟨h,h127,f⟩:=aR f;refine qE (C:=cQ) rfl tyS24 rfl tyZ42q rfl h127 (fun G=>?_);refine aG (iV (is:=[0]) (xs:=[.tmp 79]) (ps:=[.vc (pO G h.length h.length)]) rfl tyB92q rfl rfl ⟨zT,zT⟩ rfl) zU1 ?_;refine aM rfl tyZ92q (fun U=>?_);refine mI (t_s 0 rfl rfl rfl tyA92.s) zU2 ?_;refine aX (aH (aE (aE (aI (gG ?_)))));refine aG (aP (.inl rfl)) ⟨rR _ _,zT⟩ ?_;refine aX (aH (aJ (aY (fun H E=>∃(I:List Rat),o5 K x u (fK K a0 a1 k) I=some x109'∧I.length=h.length∧H=[⟨some U,1,92,5,1,([pO G h.length h.length]++(eQ 0))⟩,hO cQ G h.length 42 h.length I,⟨some q,1,90,3,1,([vJ (a1.length:Int)]++[pO y t z]++[pO L j.length j.length])⟩,hO aS.cod y z 92 t x,hO cQ L j.length 42 j.length F]∧E=[(0,.vc (pS (eF cQ) a0)),(6,vI (a1.length:Int)),(7,.vc (pP (some q) 0)),(12,.vc (pP (some U) 0)),(74,vI (a1.length:Int)),(75,vI u)]) ?_ (fun Jj153=>?_))))
    ·rintro _ _ ⟨I,f,q150,rfl,rfl⟩;unfold o5 at f;refine aH (aI (aG (iG (off:=0) (k:=1) rfl tyF90_1) zU1 ?_));refine aG (gM 2 1 rfl rfl rfl rfl (.one tyO88)) zU1 ?_;refine aFo 1 0 0 rfl q150 rfl rfl rfl rfl rfl ?_;refine aG (gM 0 5 rfl rfl rfl rfl (.agg tyA92)) zU1 ?_;refine aG (iH (C:=aS.cod) (xs:=[.tmp 99]) (ps:=[.va ([pS cQ I]++(eQ 0))]) (zs:=[(⟨I,0⟩:aS)]) rfl tyS88 rfl ⟨⟨zT,rfl⟩,zT⟩ rfl) zU1 ?_;obtain⟨x154,h155,f⟩:=aR f;refine nZ 2 rfl tyS88 rfl rfl q106 rfl rfl h155 (fun b156 c157 H158 e159=>?_);cases e159;refine aG (iG (off:=0) (k:=1) rfl tyF90_1) zU1 ?_;refine mI (t_s 1 rfl rfl rfl tyO88.s) zU2 ?_;refine aX (aCo (aH (aI ?_)));obtain⟨v161,h162,f⟩:=aR f;refine aG (y8 rfl h162) ⟨rfl,rR _ _,zT⟩ ?_;refine gG ?_;refine aX ?_;exact aF (fun a w hh=>⟨x154,v161,b156,c157,(t+[(⟨I,0⟩:aS)].length),f,(dN h155 q106),yY [1,2,3] rfl (by decide) (by exact⟨rfl,rfl,rfl,rfl,rfl,zT⟩) hh⟩)
    obtain⟨x146',hL,hRl152⟩:=aR f;refine dU (fun k a w=>∃(V:List Rat),∃(J:Int),iC K a0 a1 u k V J=some x146'∧V.length=h.length∧hs _ [⟨some U,1,92,5,1,([pO G h.length h.length]++(eQ 0))⟩,hO cQ G h.length 42 h.length V,⟨some q,1,90,3,1,([vJ (a1.length:Int)]++[pO y t z]++[pO L j.length j.length])⟩,hO aS.cod y z 92 t x,hO cQ L j.length 42 j.length F] [(0,.vc (pS (eF cQ) a0)),(6,vI (a1.length:Int)),(7,.vc (pP (some q) 0)),(11,vI u),(12,.vc (pP (some U) 0)),(74,vI (a1.length:Int)),(75,vI u),(81,vI (a1.length:Int)),(82,vI J)] a w) K (fun a w ⟨_,_,f,_,_⟩=>by cases f) (fun k a w ⟨V,J,f,q143,hh⟩=>dW ?_ hh) (fun a w hh=>⟨h,0,hL,rfl,yY [0,1,2,3,4] rfl (by decide) (by exact⟨rfl,rfl,rfl,rfl,rfl,rfl,rfl,rfl,rfl,zT⟩) hh⟩);rw[iC.eq_2]at f;refine aE (aI (aG (aHh rfl) zU2 ?_));refine aX (aH (aE (aG8 rfl (fun h163=>?_) (fun h163=>?_))))
    ·have f:=tH h163 f;refine fB (aH (aE (aJ (aE (aI (gG ?_))))));refine zH ?_;refine aX (aH ?_);obtain⟨v166,h167,f⟩:=aR f;obtain⟨v168,h169,f⟩:=aR f;obtain⟨v170,h171,f⟩:=aR f;refine kO [0,1,0,0,0,24,56,0,248,504,1023,2047] 11 1 [.v (.vc (pP (some U) 0)),.v (.vc (pO G h.length h.length)),.v (vI J),.v (.vc (pS (eF cQ) a0)),.v (vI J),.v (.vc (pM ((eF cQ).e v166))),.v (.vc (pS cQ v166)),.v (vI u),.v (.vc (pM (cQ.e v168))),.v (.va (eQ v168)),.v (.vc (pE G J cQ.n 0))] bC ⟨d0 (iG (off:=0) (k:=0) rfl tyF92_0) zU1,d0 (gM 0 1 rfl rfl rfl rfl (.one tyO24)) zU1,d0 (aP (.inl rfl)) zU1,d0 (aP (.inl rfl)) zU1,d0 (aP (.inl rfl)) zU1,d0 (aGo rfl tyS23 h167) zU2,d0 (aDy 1 rfl rfl (.one tyO24)) zU1,d0 (aP (.inl rfl)) zU1,d0 (aGo rfl tyS24 h169) zU2,d0 (aDy 4 rfl rfl (.agg tyA42)) zU1,d0 (dX (C:=cQ) 1 rfl tyS24 rfl q143 (aB h171).1 (aB h171).2.1) zU2,zT⟩ (fun bs165 G164=>?_);obtain⟨x172,h173,f⟩:=aR f;refine mI (xI 1 rfl rfl h171 h173 tyA42.s) zU2 ?_;refine aX (aCo (aH (aI ?_)));obtain⟨v175,h176,f⟩:=aR f;refine aG (y8 rfl h176) ⟨rfl,rR _ _,zT⟩ ?_;refine gG ?_;refine aX ?_;exact aF (fun a w hh=>⟨x172,v175,f,(bI h173 q143),yY [0,1,2,3,4] rfl (by decide) (by exact⟨rfl,rfl,rfl,rfl,rfl,rfl,rfl,rfl,rfl,zT⟩) hh⟩)
    have f:=rD h163 f;refine bF ?_;obtain rfl:=iO f;exact aEm Jj153 ⟨V,hRl152,q143,rfl,rfl⟩ [0,1,2,3,4] rfl ⟨rfl,rfl,rfl,rfl,rfl,rfl,zT⟩
   have f:=rD h125 f;refine bF ?_;obtain rfl:=iO f;exact aEm Jj116 ⟨x,y,z,t,hRl115,q106,rfl,rfl⟩ [0,1,2] rfl zU1
  obtain⟨x80',hL,hRl86⟩:=aR f;refine dU (fun k a w=>∃(x73:List Rat),∃(x79:Int),∃(b74:Option Nat),∃(c75:Nat),∃(n76:Nat),iT K a1 k x73 x79=some x80'∧x73.length=n76∧hs _ [⟨some b65,1,92,5,1,([pO b74 n76 c75]++(eQ v57))⟩,hO cQ b74 c75 42 n76 x73,⟨some q,1,90,3,1,([vJ (a1.length:Int)]++[pO b44 O c45]++[pO L j.length j.length])⟩,hO aS.cod b44 c45 92 O x43,hO cQ L j.length 42 j.length F] [(0,.vc (pS (eF cQ) a0)),(6,vI (a1.length:Int)),(7,.vc (pP (some q) 0)),(10,.vc (pP (some b65) 0)),(58,vI (a1.length:Int)),(59,vI x79)] a w) K (fun a w ⟨_,_,_,_,_,f,_,_⟩=>by cases f) (fun k a w ⟨x73,x79,b74,c75,n76,f,q77,hh⟩=>dW ?_ hh) (fun a w hh=>⟨([]:List Rat),0,none,0,0,hL,rfl,yY [0,1,2,3,4] rfl (by decide) (by exact⟨rfl,rfl,rfl,rfl,rfl,rfl,zT⟩) hh⟩);rw[iT.eq_2]at f;refine aE (aI (aG (aHh rfl) zU2 ?_));refine aX (aH (aE (aG8 rfl (fun h177=>?_) (fun h177=>?_))))
  ·have f:=tH h177 f;refine fB (aH (aE (aJ ?_)));obtain⟨X,h181,f⟩:=aR f;refine kO [0,1,0,4,15,31,63] 4 3 [.v (.vc (pP (some b65) 0)),.v (.vc (pO b74 n76 c75)),.v (.va (eQ X)),.v (.vc (pS cQ [X]))] bC ⟨d0 (iG (off:=0) (k:=0) rfl tyF92_0) zU1,d0 (gM 0 1 rfl rfl rfl rfl (.one tyO24)) zU1,d0 (bO rfl (tX h181) rfl) ⟨rR _ _,rR _ _,zT⟩,d0 (iH (C:=cQ) (xs:=[.tmp 63]) (ps:=[.va (eQ X)]) (zs:=[X]) rfl tyS24 rfl ⟨⟨zT,rfl⟩,zT⟩ rfl) zU1,zT⟩ (fun bs179 G178=>?_);obtain⟨x182,h183,f⟩:=aR f;refine nZ 1 rfl tyS24 rfl rfl q77 rfl rfl h183 (fun b184 c185 H186 e187=>?_);cases e187;refine aG (iG (off:=0) (k:=0) rfl tyF92_0) zU1 ?_;refine mI (t_s 0 rfl rfl rfl tyO24.s) zU2 ?_;refine aX (aCo (aH (aI ?_)));obtain⟨v189,h190,f⟩:=aR f;refine aG (y8 rfl h190) ⟨rfl,rR _ _,zT⟩ ?_;refine gG ?_;refine aX ?_;exact aF (fun a w hh=>⟨x182,v189,b184,c185,(n76+[X].length),f,(dN h183 q77),yY [0,1,2,3,4] rfl (by decide) (by exact⟨rfl,rfl,rfl,rfl,rfl,rfl,zT⟩) hh⟩)
  have f:=rD h177 f;refine bF ?_;obtain rfl:=iO f;exact aEm Jj87 ⟨x73,b74,c75,n76,hRl86,q77,rfl,rfl⟩ [0,1,2,3,4] rfl ⟨rfl,rfl,rfl,rfl,zT⟩
 obtain⟨⟨x43',x49'⟩,hL,hRl55⟩:=aR f;refine dU (fun k a w=>∃(x30:List aS),∃(x36:List Rat),∃(Y:Int),∃(b31:Option Nat),∃(c32:Nat),∃(n33:Nat),iY K a1 k x30 x36 Y=some (x43',x49')∧x30.length=n33∧x36.length=j.length∧hs _ [⟨some q,1,90,3,1,([vJ (a1.length:Int)]++[pO b31 n33 c32]++[pO L j.length j.length])⟩,hO aS.cod b31 c32 92 n33 x30,hO cQ L j.length 42 j.length x36] [(0,.vc (pS (eF cQ) a0)),(1,.vc (pS cQ a1)),(6,vI (a1.length:Int)),(7,.vc (pP (some q) 0)),(28,vI (a1.length:Int)),(29,vI Y)] a w) K (fun a w ⟨_,_,_,_,_,_,f,_,_,_⟩=>by cases f) (fun k a w ⟨x30,x36,Y,b31,c32,n33,f,q34,q40,hh⟩=>dW ?_ hh) (fun a w hh=>⟨([]:List aS),j,0,none,0,0,hL,rfl,rfl,yY [0,1,2] rfl (by decide) (by exact⟨rfl,rfl,rfl,rfl,rfl,rfl,zT⟩) hh⟩);rw[iY.eq_2]at f;refine aE (aI (aG (aHh rfl) zU2 ?_));refine aX (aH (aE (aG8 rfl (fun h191=>?_) (fun h191=>?_))))
 ·have f:=tH h191 f;refine fB (aH (aE (aJ (aE (aI (gG ?_))))));refine zH ?_;refine aX (aH (aE ?_));obtain⟨v194,h195,f⟩:=aR f;obtain⟨v196,h197,f⟩:=aR f;obtain⟨v198,h199,f⟩:=aR f;refine kO [0,1,0,0,0,24,56,120,255,511] 9 1 [.v (.vc (pP (some q) 2)),.v (.vc (pO L j.length j.length)),.v (vI Y),.v (.vc (pS cQ a1)),.v (vI Y),.v (.vc (pM (cQ.e v194))),.v (.va (eQ v194)),.v (.va (eQ v196)),.v (.vc (pE L Y cQ.n 0))] bC ⟨d0 (iG (off:=0) (k:=2) rfl tyF90_2) zU1,d0 (gM 0 1 rfl rfl rfl rfl (.one tyO24)) zU1,d0 (aP (.inl rfl)) zU1,d0 (aP (.inl rfl)) zU1,d0 (aP (.inl rfl)) zU1,d0 (aGo rfl tyS24 h195) zU2,d0 (aDy 4 rfl rfl (.agg tyA42)) zU1,d0 (bO rfl (vG h197) rfl) zU1,d0 (dX (C:=cQ) 2 rfl tyS24 rfl q40 (aB h199).1 (aB h199).2.1) zU2,zT⟩ (fun bs193 G192=>?_);obtain⟨x200,h201,f⟩:=aR f;refine mI (xI 2 rfl rfl h199 h201 tyA42.s) zU2 ?_;refine aX (aH (aE (aI (gG ?_))));obtain⟨x203,h204,f⟩:=aR f;refine qE (C:=cQ) rfl tyS24 rfl tyZ42q rfl h204 (fun b205=>?_);refine aG (iV (is:=[0]) (xs:=[.tmp 42]) (ps:=[.vc (pO b205 x203.length x203.length)]) rfl tyB92q rfl rfl ⟨zT,zT⟩ rfl) zU1 ?_;refine aM rfl tyZ92q (fun b208=>?_);refine mI (t_s 0 rfl rfl rfl tyA92.s) zU2 ?_;refine aX (aH (aE ?_));obtain⟨v211,h212,f⟩:=aR f;obtain⟨v213,h214,f⟩:=aR f;refine kO [0,1,0,0,15,31] 5 1 [.v (.vc (pP (some b208) 0)),.v (.vc (pO b205 x203.length x203.length)),.v (vI Y),.v (.va (eQ v211)),.v (.vc (pE b205 Y cQ.n 0))] bC ⟨d0 (iG (off:=0) (k:=0) rfl tyF92_0) zU1,d0 (gM 0 1 rfl rfl rfl rfl (.one tyO24)) zU1,d0 (aP (.inl rfl)) zU1,d0 (bO rfl (tX h212) rfl) ⟨rR _ _,rR _ _,zT⟩,d0 (dX (C:=cQ) 1 rfl tyS24 rfl rfl (aB h214).1 (aB h214).2.1) zU2,zT⟩ (fun bs210 G209=>?_);obtain⟨x215,h216,f⟩:=aR f;refine mI (xI 1 rfl rfl h214 h216 tyA42.s) zU2 ?_;refine aX (aH (aI (aG (iG (off:=0) (k:=1) rfl tyF90_1) zU1 ?_)));refine aG (gM 2 1 rfl rfl rfl rfl (.one tyO88)) zU1 ?_;refine aUs 1 0 0 [42,45] rfl (bI h216 rfl) rfl rfl rfl rfl rfl zU2 ?_;refine aG (gM 0 5 rfl rfl rfl rfl (.agg tyA92)) zU1 ?_;refine aG (iH (C:=aS.cod) (xs:=[.tmp 51]) (ps:=[.va ([pS cQ x215]++(eQ 0))]) (zs:=[(⟨x215,0⟩:aS)]) rfl tyS88 rfl ⟨⟨zT,rfl⟩,zT⟩ rfl) zU1 ?_;obtain⟨x218,h219,f⟩:=aR f;refine nZ 2 rfl tyS88 rfl rfl q34 rfl rfl h219 (fun b220 c221 H222 e223=>?_);cases e223;refine aG (iG (off:=0) (k:=1) rfl tyF90_1) zU1 ?_;refine mI (t_s 1 rfl rfl rfl tyO88.s) zU2 ?_;refine aX (aCo (aH (aI ?_)));obtain⟨v225,h226,f⟩:=aR f;refine aG (y8 rfl h226) ⟨rfl,rR _ _,zT⟩ ?_;refine gG ?_;refine aX ?_;exact aF (fun a w hh=>⟨x218,x200,v225,b220,c221,(n33+[(⟨x215,0⟩:aS)].length),f,(dN h219 q34),(bI h201 q40),yY [1,2,3] rfl (by decide) (by exact⟨rfl,rfl,rfl,rfl,rfl,rfl,zT⟩) hh⟩)
 have f:=rD h191 f;refine bF ?_;obtain⟨rfl,rfl⟩:=sm2 f;exact aEm Jj56 ⟨x30,x36,b31,c32,n33,hRl55,q34,q40,rfl,rfl⟩ [0,1,2] rfl ⟨rfl,rfl,rfl,zT⟩
def oX(K:Nat)(a1:List Rat)(a2:List Rat):Option Bool:=
 (wC K a1 a2).bind fun e=>(xR e).bind fun f=>some (decide (f<0))
def oZ(K:Nat)(f:Int)(e:Int→Option (LR Bool Unit))(h:Rat):Option (LR Bool Unit):=
 (xR h).bind fun j=>bif(decide (0<j)) then(some (.ret false)) else((aV (f+1)).bind fun k=>e k)
def hU(K:Nat)(y:List (List Rat))(a1:List Rat)(a2:List Rat)(f:Int):Nat→Rat→Int→Option Rat
 |0,_,_=>none
 |k+1,h,e=>bif(decide (e<(a1.length:Int))) then((bR a2 e).bind fun j=>(bR y e).bind fun q=>(bR q f).bind fun s=>(aEf j s).bind fun t=>(aGb h t).bind fun u=>(aV (e+1)).bind fun x=>hU K y a1 a2 f k u x) else(some h)
def fI(K:Nat)(h:List (List Rat))(a1:List Rat)(a2:List Rat):Nat→Int→Option (LR Bool Unit)
 |0,_=>none
 |k+1,e=>bif(decide (e<(a1.length:Int))) then((hU K h a1 a2 e K 0 0).bind fun f=>oZ K e (fI K h a1 a2 k) f) else(some (.go ()))
def mU(K:Nat)(e:List (List Rat))(a1:List Rat)(a2:List Rat):Option Bool:=
 (jQ K e a1).bind fun v1=>bif(!v1) then(some false) else(bif((a2.length:Int) != (a1.length:Int)) then(some false) else((l6 K a2).bind fun v5=>bif(!v5) then(some false) else((iK K a2).bind fun f=>bif f then(some false) else((fI K e a1 a2 K 0).bind fun o=>match o with| .ret r=>some r| .go _=>oX K a1 a2))))
theorem yB{K:Nat}{q:List (List Rat)}{a1:List Rat}{a2:List Rat}{r:Bool}(e:mU K q a1 a2=some r):Ct Tryz.prog 31 [.vc (pS (eF cQ) q),.vc (pS cQ a1),.vc (pS cQ a2)] (.vc (pB r)):=by
 unfold mU at e;refine aA Tryz.func31 rfl (by kernel_rfl) Tryz.ntmps31 rfl (fun w0 M0=>?_);obtain⟨v1,h2,e⟩:=bE e qI;refine go ?_ ?_;refine dK e (fun h3 e=>?_) (fun h3 e=>?_)
 ·refine go ?_ ?_;refine kA rfl ?_;exact bU
 refine go ?_ ?_;refine dK e (fun h4 e=>?_) (fun h4 e=>?_)
 ·refine go ?_ ?_;refine kA rfl ?_;exact bU
 obtain⟨v5,h6,e⟩:=bE e uC;refine go ?_ ?_;refine dK e (fun h7 e=>?_) (fun h7 e=>?_)
 ·refine go ?_ ?_;refine kA rfl ?_;exact bU
 obtain⟨v8,h9,e⟩:=bE e qS;refine go ?_ ?_;refine aD e rfl (fun I e=>?_) (fun I e=>?_)
 ·exact bU
 refine go ?_ ?_;refine aJ (aY (fun H E=>oX K a1 a2=some r∧H=[]∧E=[(1,.vc (pS cQ a1)),(2,.vc (pS cQ a2))]) ?_ (fun z=>?_))
 ·rintro _ _ ⟨e,rfl,rfl⟩;unfold oX at e;obtain⟨v15,h16,e⟩:=bE e aBE;obtain⟨v17,h18,e⟩:=bE e eA;exact bU
 obtain⟨s,J,t⟩:=aR e;refine dU (fun k a w=>∃(f:Int),fI K q a1 a2 k f=some s∧hs _ [] [(0,.vc (pS (eF cQ) q)),(1,.vc (pS cQ a1)),(2,.vc (pS cQ a2)),(31,vI (a1.length:Int)),(32,vI f)] a w) K (fun a w ⟨_,e,_⟩=>by cases e) (fun k a w ⟨f,e,hh⟩=>dW ?_ hh) (fun a w hh=>⟨0,J,jG [] hh⟩);rw[fI.eq_2]at e;refine go ?_ ?_;refine aD e rfl (fun L e=>?_) (fun L e=>?_)
 ·refine go ?_ ?_;refine aJ (go ?_ ?_);refine aG (iV (is:=[]) (xs:=[]) (ps:=[]) rfl tyB42q rfl rfl zT rfl) zT ?_;refine aM rfl tyZ42q (fun h=>?_);refine go ?_ ?_;refine aJ (aY (fun H E=>∃(u:Rat),oZ K f (fI K q a1 a2 k) u=some s∧H=[⟨some h,1,42,4,1,(eQ u)⟩]∧E=[(0,.vc (pS (eF cQ) q)),(1,.vc (pS cQ a1)),(2,.vc (pS cQ a2)),(8,.vc (pP (some h) 0)),(31,vI (a1.length:Int)),(32,vI f)]) ?_ (fun F=>?_))
  ·rintro _ _ ⟨u,e,rfl,rfl⟩;unfold oZ at e;obtain⟨v28,h29,e⟩:=bE e eA;refine go ?_ ?_;refine aD e rfl (fun O e=>?_) (fun O e=>?_)
   ·exact bU
   obtain⟨U,h32,e⟩:=aR e;refine go ?_ ?_;exact aF (fun a w hh=>⟨U,e,jG [] hh⟩)
  obtain⟨G,J,x⟩:=aR e;refine dU (fun k a w=>∃(j:Rat),∃(y:Int),hU K q a1 a2 f k j y=some G∧hs _ [⟨some h,1,42,4,1,(eQ j)⟩] [(0,.vc (pS (eF cQ) q)),(1,.vc (pS cQ a1)),(2,.vc (pS cQ a2)),(7,vI f),(8,.vc (pP (some h) 0)),(31,vI (a1.length:Int)),(32,vI f),(37,vI (a1.length:Int)),(38,vI y)] a w) K (fun a w ⟨_,_,e,_⟩=>by cases e) (fun k a w ⟨j,y,e,hh⟩=>dW ?_ hh) (fun a w hh=>⟨0,0,J,jG [0] hh⟩);rw[hU.eq_2]at e;refine go ?_ ?_;refine aD e rfl (fun V e=>?_) (fun V e=>?_)
  ·refine go ?_ ?_;refine aJ ?_;obtain⟨v36,h37,v38,h39,v40,h41,e⟩:=bn3 e;obtain⟨v42,h43,e⟩:=bE e vR;obtain⟨X,h45,e⟩:=bE e aDQ;refine go ?_ ?_;refine dr [0,0,0,6,14,0,0,96,224,0,992,2016,4094,8191,16383] 14 1 ?_ (fun bs35 G34=>?_);obtain⟨Y,h47,e⟩:=aR e;refine go ?_ ?_;exact aF (fun a w hh=>⟨X,Y,e,jG [0] hh⟩)
  refine bF ?_;obtain rfl:=iO e;exact rU F ⟨j,x,rfl,rfl⟩ [0]
 refine bF ?_;obtain rfl:=iO e;exact rU z ⟨t,rfl,rfl⟩ []
def kB(K:Nat):Option Bool:=
 (eM K [2,1]).bind fun v1=>(eM K [1,2]).bind fun k=>(eM K [(-5),(-6)]).bind fun v5=>(fX K [v1,k] v5 9).bind fun V=>(eM K [(-4),1]).bind fun v10=>(fX K [v1,k] v10 9).bind fun e=>(eM K [0]).bind fun f=>(eM K [(-1)]).bind fun q=>(fX K [f] q 9).bind fun s=>(eM K [(-5),(-6)]).bind fun t=>(lQ K [v1,k] t).bind fun u=>bif(V.2 != 0) then(some false) else(bif(e.2 != 0) then(some false) else(bif(s.2 != 15) then(some false) else(bif(u.2 != 6) then(some false) else((eM K [(-1)]).bind fun v30=>(eM K [1]).bind fun x=>(mU K [f] v30 x).bind fun y=>bif(!y) then(some false) else((qof 4 3).bind fun h=>(qof 7 3).bind fun j=>(lD K V.1.z [h,j]).bind fun F=>bif F then((eM K [2,0]).bind fun G=>(lD K e.1.z G).bind fun I=>bif I then((eM K [0,3]).bind fun J=>(lD K e.1.w J).bind fun L=>bif L then((eM K [(-5),(-6)]).bind fun O=>(oS K [v1,k] O [h,j]).bind fun U=>some U) else(some false)) else(some false)) else(some false))))))
theorem sI{K:Nat}{r:Bool}(e:kB K=some r):Ct Tryz.prog 18 [] (.vc (pB r)):=by
 unfold kB at e;refine aA Tryz.func18 rfl (by kernel_rfl) Tryz.ntmps18 rfl (fun w0 M0=>?_);refine go ?_ ?_;refine aG (iH (C:=cI) (xs:=[.const (.int .i64 (2)),.const (.int .i64 (1))]) (ps:=[vI 2,vI 1]) (zs:=[2,1]) rfl tyS22 rfl ⟨⟨zT,rfl⟩,⟨zT,rfl⟩,zT⟩ rfl) ⟨rR _ _,rR _ _,zT⟩ ?_;obtain⟨v1,h2,e⟩:=bE e fP;refine aG (bO rfl h2 rfl) zU1 ?_;refine aG (iH (C:=cI) (xs:=[.const (.int .i64 (1)),.const (.int .i64 (2))]) (ps:=[vI 1,vI 2]) (zs:=[1,2]) rfl tyS22 rfl ⟨⟨zT,rfl⟩,⟨zT,rfl⟩,zT⟩ rfl) ⟨rR _ _,rR _ _,zT⟩ ?_;obtain⟨v3,h4,e⟩:=bE e fP;refine aG (bO rfl h4 rfl) zU1 ?_;refine aG (iH (C:=(eF cQ)) (xs:=[.tmp 13,.tmp 15]) (ps:=[.vc (pS cQ v1),.vc (pS cQ v3)]) (zs:=[v1,v3]) rfl tyS23 rfl ⟨⟨zT,rfl⟩,⟨zT,rfl⟩,zT⟩ rfl) zU2 ?_;refine go ?_ ?_;refine aG (iH (C:=cI) (xs:=[.const (.int .i64 (-5)),.const (.int .i64 (-6))]) (ps:=[vI (-5),vI (-6)]) (zs:=[(-5),(-6)]) rfl tyS22 rfl ⟨⟨zT,rfl⟩,⟨zT,rfl⟩,zT⟩ rfl) ⟨rR _ _,rR _ _,zT⟩ ?_;obtain⟨v5,h6,e⟩:=bE e fP;obtain⟨v7,h8,e⟩:=bE e qK;refine go ?_ ?_;refine aM rfl tyZ30q (fun b9=>?_);refine go ?_ ?_;refine aG (iH (C:=cI) (xs:=[.const (.int .i64 (-4)),.const (.int .i64 (1))]) (ps:=[vI (-4),vI 1]) (zs:=[(-4),1]) rfl tyS22 rfl ⟨⟨zT,rfl⟩,⟨zT,rfl⟩,zT⟩ rfl) ⟨rR _ _,rR _ _,zT⟩ ?_;obtain⟨v10,h11,e⟩:=bE e fP;obtain⟨t,h13,e⟩:=bE e qK;refine go ?_ ?_;refine aM rfl tyZ30q (fun u=>?_);refine go ?_ ?_;refine aG (iH (C:=cI) (xs:=[.const (.int .i64 (0))]) (ps:=[vI 0]) (zs:=[0]) rfl tyS22 rfl ⟨⟨zT,rfl⟩,zT⟩ rfl) ⟨rR _ _,zT⟩ ?_;obtain⟨X,h16,e⟩:=bE e fP;refine aG (bO rfl h16 rfl) zU1 ?_;refine aG (iH (C:=(eF cQ)) (xs:=[.tmp 32]) (ps:=[.vc (pS cQ X)]) (zs:=[X]) rfl tyS23 rfl ⟨⟨zT,rfl⟩,zT⟩ rfl) zU1 ?_;refine go ?_ ?_;refine aG (iH (C:=cI) (xs:=[.const (.int .i64 (-1))]) (ps:=[vI (-1)]) (zs:=[(-1)]) rfl tyS22 rfl ⟨⟨zT,rfl⟩,zT⟩ rfl) ⟨rR _ _,zT⟩ ?_;obtain⟨v17,h18,e⟩:=bE e fP;obtain⟨v19,h20,e⟩:=bE e qK;refine go ?_ ?_;refine aM rfl tyZ30q (fun b21=>?_);refine go ?_ ?_;refine aG (iH (C:=cI) (xs:=[.const (.int .i64 (-5)),.const (.int .i64 (-6))]) (ps:=[vI (-5),vI (-6)]) (zs:=[(-5),(-6)]) rfl tyS22 rfl ⟨⟨zT,rfl⟩,⟨zT,rfl⟩,zT⟩ rfl) ⟨rR _ _,rR _ _,zT⟩ ?_;obtain⟨v22,h23,e⟩:=bE e fP;obtain⟨v24,h25,e⟩:=bE e zD;refine go ?_ ?_;refine dK e (fun h26 e=>?_) (fun h26 e=>?_)
 ·refine go ?_ ?_;refine kA rfl ?_;exact bU
 refine go ?_ ?_;refine dK e (fun h27 e=>?_) (fun h27 e=>?_)
 ·refine go ?_ ?_;refine kA rfl ?_;exact bU
 refine go ?_ ?_;refine dK e (fun h28 e=>?_) (fun h28 e=>?_)
 ·refine go ?_ ?_;refine kA rfl ?_;exact bU
 refine go ?_ ?_;refine dK e (fun h29 e=>?_) (fun h29 e=>?_)
 ·refine go ?_ ?_;refine kA rfl ?_;exact bU
 refine wS (aP (.inl rfl)) zU1 ?_;refine wS (iH (C:=cI) (xs:=[.const (.int .i64 (-1))]) (ps:=[vI (-1)]) (zs:=[(-1)]) rfl tyS22 rfl ⟨⟨zT,rfl⟩,zT⟩ rfl) ⟨rR _ _,zT⟩ ?_;obtain⟨v30,h31,e⟩:=bE e fP;refine wS (bO rfl h31 rfl) zU1 ?_;refine wS (iH (C:=cI) (xs:=[.const (.int .i64 (1))]) (ps:=[vI 1]) (zs:=[1]) rfl tyS22 rfl ⟨⟨zT,rfl⟩,zT⟩ rfl) ⟨rR _ _,zT⟩ ?_;obtain⟨v32,h33,e⟩:=bE e fP;obtain⟨v34,h35,e⟩:=bE e yB;refine go ?_ ?_;refine aD e rfl (fun h36 e=>?_) (fun h36 e=>?_)
 ·exact bU
 obtain⟨h,h38,e⟩:=bE e fQ;obtain⟨j,h40,e⟩:=bE e fQ;refine go ?_ ?_;refine aG (iH (C:=cQ) (xs:=[.tmp 71,.tmp 72]) (ps:=[.va (eQ h),.va (eQ j)]) (zs:=[h,j]) rfl tyS24 rfl ⟨⟨zT,rfl⟩,⟨zT,rfl⟩,zT⟩ rfl) zU2 ?_;obtain⟨G,I,e⟩:=bE e tP;refine go ?_ ?_;rcases Bool.eq_false_or_eq_true G with q|q
 ·have e:=tH q e;obtain⟨J,L,e⟩:=bE e fP;obtain⟨f,O,e⟩:=bE e tP;rcases Bool.eq_false_or_eq_true f with s|s
  ·have e:=tH s e;obtain⟨Y,h52,e⟩:=bE e fP;obtain⟨x,h54,e⟩:=bE e tP;rcases Bool.eq_false_or_eq_true x with y|y
   ·have e:=tH y e;obtain⟨v56,h57,e⟩:=bE e fP;obtain⟨U,h59,e⟩:=bE e zS;refine kO (0::1::0::7::15::31::63::31::159::511::1023::2047::4095::8191::4095::20479::65535::131071::262143::524287::524287::1572863::524287::8388607::16777215::33554431::[]) 26 0 (.v (.vc (pP (some b9) 0))::.v (.vc (pS cQ v7.1.z))::.v (.vc (pS cQ [h,j]))::.v (.vc (pB G))::.v (.vc (pB true))::.v (.vc (pP (some u) 0))::.v (.vc (pS cQ t.1.z))::.v (.vc (pS cI [2,0]))::.v (.vc (pS cQ J))::.v (.vc (pB f))::.v (.vc (pB f))::.v (.vc (pB true))::.v (.vc (pP (some u) 1))::.v (.vc (pS cQ t.1.w))::.v (.vc (pS cI [0,3]))::.v (.vc (pS cQ Y))::.v (.vc (pB x))::.v (.vc (pB x))::.v (.vc (pB true))::.v (.vc (pS (eF cQ) [v1,v3]))::.v (.vc (pS cI [(-5),(-6)]))::.v (.vc (pS cQ v56))::.v (.vc (pS cQ [h,j]))::.v (.vc (pB U))::.v (.vc (pB U))::.v (.vc (pB U))::[]) bC ⟨d0 (iG (off:=0) (k:=0) rfl tyF30_0) zU1,d0 (gM 2 1 rfl rfl rfl rfl (.one tyO24)) zU1,d0 (aP (.inl rfl)) zU1,d0 (bO rfl I rfl) zU2,d0 (oH (aP (.inl rfl)) q) zU1,g0 (iG (off:=0) (k:=0) rfl tyF30_0) zU1,g0 (gM 1 1 rfl rfl rfl rfl (.one tyO24)) zU1,g0 (iH (C:=cI) (xs:=[.const (.int .i64 (2)),.const (.int .i64 (0))]) (ps:=[vI 2,vI 0]) (zs:=[2,0]) rfl tyS22 rfl ⟨⟨zT,rfl⟩,⟨zT,rfl⟩,zT⟩ rfl) ⟨rR _ _,rR _ _,zT⟩,g0 (bO rfl L rfl) zU1,g0 (bO rfl O rfl) zU2,d0 (xU rfl) zU2,d0 (oH (aP (.inl rfl)) s) zU1,g0 (iG (off:=0) (k:=1) rfl tyF30_1) zU1,g0 (gM 1 1 rfl rfl rfl rfl (.one tyO24)) zU1,g0 (iH (C:=cI) (xs:=[.const (.int .i64 (0)),.const (.int .i64 (3))]) (ps:=[vI 0,vI 3]) (zs:=[0,3]) rfl tyS22 rfl ⟨⟨zT,rfl⟩,⟨zT,rfl⟩,zT⟩ rfl) ⟨rR _ _,rR _ _,zT⟩,g0 (bO rfl h52 rfl) zU1,g0 (bO rfl h54 rfl) zU2,d0 (xU rfl) zU2,d0 (oH (aP (.inl rfl)) y) zU1,g0 (aP (.inl rfl)) zU1,g0 (iH (C:=cI) (xs:=[.const (.int .i64 (-5)),.const (.int .i64 (-6))]) (ps:=[vI (-5),vI (-6)]) (zs:=[(-5),(-6)]) rfl tyS22 rfl ⟨⟨zT,rfl⟩,⟨zT,rfl⟩,zT⟩ rfl) ⟨rR _ _,rR _ _,zT⟩,g0 (bO rfl h57 rfl) zU1,g0 (aP (.inl rfl)) zU1,g0 (bO rfl h59 rfl) ⟨rfl,rfl,rfl,zT⟩,d0 (xU rfl) zU2,d0 (aP (.inr rfl)) zU1,zT⟩ (fun F V=>?_);refine aX (aH ?_);exact bU
   have e:=rD y e;refine kO (0::1::0::7::15::31::63::31::159::511::1023::2047::4095::8191::4095::20479::65535::131071::262143::524287::524287::1572863::524287::8388607::16777215::33554431::[]) 26 0 (.v (.vc (pP (some b9) 0))::.v (.vc (pS cQ v7.1.z))::.v (.vc (pS cQ [h,j]))::.v (.vc (pB G))::.v (.vc (pB true))::.v (.vc (pP (some u) 0))::.v (.vc (pS cQ t.1.z))::.v (.vc (pS cI [2,0]))::.v (.vc (pS cQ J))::.v (.vc (pB f))::.v (.vc (pB f))::.v (.vc (pB true))::.v (.vc (pP (some u) 1))::.v (.vc (pS cQ t.1.w))::.v (.vc (pS cI [0,3]))::.v (.vc (pS cQ Y))::.v (.vc (pB x))::.v (.vc (pB x))::.v (.vc (pB false))::.v .un::.v .un::.v .un::.v .un::.v .un::.v (.vc (pB false))::.v (.vc (pB false))::[]) bC ⟨d0 (iG (off:=0) (k:=0) rfl tyF30_0) zU1,d0 (gM 2 1 rfl rfl rfl rfl (.one tyO24)) zU1,d0 (aP (.inl rfl)) zU1,d0 (bO rfl I rfl) zU2,d0 (oH (aP (.inl rfl)) q) zU1,g0 (iG (off:=0) (k:=0) rfl tyF30_0) zU1,g0 (gM 1 1 rfl rfl rfl rfl (.one tyO24)) zU1,g0 (iH (C:=cI) (xs:=[.const (.int .i64 (2)),.const (.int .i64 (0))]) (ps:=[vI 2,vI 0]) (zs:=[2,0]) rfl tyS22 rfl ⟨⟨zT,rfl⟩,⟨zT,rfl⟩,zT⟩ rfl) ⟨rR _ _,rR _ _,zT⟩,g0 (bO rfl L rfl) zU1,g0 (bO rfl O rfl) zU2,d0 (xU rfl) zU2,d0 (oH (aP (.inl rfl)) s) zU1,g0 (iG (off:=0) (k:=1) rfl tyF30_1) zU1,g0 (gM 1 1 rfl rfl rfl rfl (.one tyO24)) zU1,g0 (iH (C:=cI) (xs:=[.const (.int .i64 (0)),.const (.int .i64 (3))]) (ps:=[vI 0,vI 3]) (zs:=[0,3]) rfl tyS22 rfl ⟨⟨zT,rfl⟩,⟨zT,rfl⟩,zT⟩ rfl) ⟨rR _ _,rR _ _,zT⟩,g0 (bO rfl h52 rfl) zU1,g0 (bO rfl h54 rfl) zU2,d0 (xU rfl) zU2,d0 (oH (aP (.inl rfl)) y) zU1,⟨rfl,.skipN⟩,⟨rfl,.skipN⟩,⟨rfl,.skipN⟩,⟨rfl,.skipN⟩,⟨rfl,.skipN⟩,d0 (aBD rfl) ⟨rfl,k_B _,zT⟩,d0 (aP (.inr rfl)) zU1,zT⟩ (fun F V=>?_);refine aX (aH ?_);exact bU
  have e:=rD s e;refine kO (0::1::0::7::15::31::63::31::159::511::1023::2047::4095::8191::4095::20479::65535::131071::262143::524287::524287::1572863::524287::8388607::16777215::33554431::[]) 26 0 (.v (.vc (pP (some b9) 0))::.v (.vc (pS cQ v7.1.z))::.v (.vc (pS cQ [h,j]))::.v (.vc (pB G))::.v (.vc (pB true))::.v (.vc (pP (some u) 0))::.v (.vc (pS cQ t.1.z))::.v (.vc (pS cI [2,0]))::.v (.vc (pS cQ J))::.v (.vc (pB f))::.v (.vc (pB f))::.v (.vc (pB false))::.v .un::.v .un::.v .un::.v .un::.v .un::.v (.vc (pB false))::.v (.vc (pB false))::.v .un::.v .un::.v .un::.v .un::.v .un::.v (.vc (pB false))::.v (.vc (pB false))::[]) bC ⟨d0 (iG (off:=0) (k:=0) rfl tyF30_0) zU1,d0 (gM 2 1 rfl rfl rfl rfl (.one tyO24)) zU1,d0 (aP (.inl rfl)) zU1,d0 (bO rfl I rfl) zU2,d0 (oH (aP (.inl rfl)) q) zU1,g0 (iG (off:=0) (k:=0) rfl tyF30_0) zU1,g0 (gM 1 1 rfl rfl rfl rfl (.one tyO24)) zU1,g0 (iH (C:=cI) (xs:=[.const (.int .i64 (2)),.const (.int .i64 (0))]) (ps:=[vI 2,vI 0]) (zs:=[2,0]) rfl tyS22 rfl ⟨⟨zT,rfl⟩,⟨zT,rfl⟩,zT⟩ rfl) ⟨rR _ _,rR _ _,zT⟩,g0 (bO rfl L rfl) zU1,g0 (bO rfl O rfl) zU2,d0 (xU rfl) zU2,d0 (oH (aP (.inl rfl)) s) zU1,⟨rfl,.skipN⟩,⟨rfl,.skipN⟩,⟨rfl,.skipN⟩,⟨rfl,.skipN⟩,⟨rfl,.skipN⟩,d0 (aBD rfl) ⟨rfl,k_B _,zT⟩,d0 (aP (.inl rfl)) zU1,⟨rfl,.skipN⟩,⟨rfl,.skipN⟩,⟨rfl,.skipN⟩,⟨rfl,.skipN⟩,⟨rfl,.skipN⟩,d0 (aBD rfl) ⟨rfl,k_B _,zT⟩,d0 (aP (.inr rfl)) zU1,zT⟩ (fun F V=>?_);refine aX (aH ?_);exact bU
 have e:=rD q e;refine drb (0::1::0::7::15::31::63::31::159::511::1023::2047::4095::8191::4095::20479::65535::131071::262143::524287::524287::1572863::524287::8388607::16777215::33554431::[]) 26 0 ?_ (fun F V=>?_);refine aX (aH ?_);exact bU
def aAt(K:Nat)(s:Int)(t:List Bool):Nat→(List Bool)→Int→Option (List Bool)
 |0,_,_=>none
 |k+1,f,e=>bif(decide (e<(t.length:Int))) then((aQM s e).bind fun h=>(bR f e).bind fun u=>(rW f e ((ian h 1)==1)).bind fun j=>(aV (e+1)).bind fun q=>aAt K s t k j q) else(some f)
def m6(e:List (List Rat)):Option Int:=
 bif((e.length:Int)==0) then(some 0) else((bR e 0).bind fun v2=>some (v2.length:Int))
theorem tV{f:List (List Rat)}{r:Int}(e:m6 f=some r):Ct Tryz.prog 82 [.vc (pS (eF cQ) f)] (vI r):=by
 unfold m6 at e;refine aA Tryz.func82 rfl (by kernel_rfl) Tryz.ntmps82 rfl (fun w0 M0=>?_);refine go ?_ ?_;refine aD e rfl (fun h e=>?_) (fun h e=>?_)
 ·exact bU
 obtain⟨v2,j,e⟩:=aR e;exact bU
def kV(K:Nat):Option Int:=
 some (-1)
def cM(K:Nat)(f:List (List Rat))(a1:((List Rat)→Option Bool)):Nat→Int→Option (LR Int Unit)
 |0,_=>none
 |k+1,e=>bif(decide (e<(f.length:Int))) then((bR f e).bind fun v6=>(a1 v6).bind fun h=>bif h then(some (.ret e)) else((aV (e+1)).bind fun v11=>cM K f a1 k v11)) else(some (.go ()))
def gB(K:Nat)(e:List (List Rat))(a1:((List Rat)→Option Bool)):Option Int:=
 (cM K e a1 K 0).bind fun o=>match o with| .ret r=>some r| .go _=>kV K
theorem wP{K:Nat}{f:List (List Rat)}{a1:((List Rat)→Option Bool)}{r:Int}(e:gB K f a1=some r):Ct Tryz.prog 160 [.vc (pS (eF cQ) f),.vc (pFn Tryz.prog (fun x:(List Rat)=>[.vc (pS cQ x)]) (fun r:Bool=>.vc (pB r)) a1)] (vI r):=by
 unfold gB at e;refine aA Tryz.func160 rfl (by kernel_rfl) Tryz.ntmps160 rfl (fun w0 M0=>?_);refine go ?_ ?_;refine aJ (aY (fun H E=>kV K=some r∧H=[]∧E=[]) ?_ (fun j=>?_))
 ·rintro _ _ ⟨e,rfl,rfl⟩;unfold kV at e;exact bU
 obtain⟨q,u,h⟩:=aR e;refine dU (fun k a w=>∃(s:Int),cM K f a1 k s=some q∧hs _ [] [(0,.vc (pS (eF cQ) f)),(1,.vc (pFn Tryz.prog (fun x:(List Rat)=>[.vc (pS cQ x)]) (fun r:Bool=>.vc (pB r)) a1)),(7,vI (f.length:Int)),(8,vI s)] a w) K (fun a w ⟨_,e,_⟩=>by cases e) (fun k a w ⟨s,e,hh⟩=>dW ?_ hh) (fun a w hh=>⟨0,u,jG [] hh⟩);rw[cM.eq_2]at e;refine go ?_ ?_;refine aD e rfl (fun y e=>?_) (fun y e=>?_)
 ·refine go ?_ ?_;refine aJ ?_;obtain⟨v6,I,z,F,e⟩:=u9 e;refine go ?_ ?_;refine aG (aEv (pre:=fun x:(List Rat)=>[.vc (pS cQ x)]) (post:=fun r:Bool=>.vc (pB r)) (x:=v6) (r:=z) rfl F rfl) zU2 ?_;refine aX (aH (aD e rfl (fun t e=>?_) (fun t e=>?_)))
  ·exact bU
  obtain⟨v11,G,e⟩:=aR e;refine go ?_ ?_;exact aF (fun a w hh=>⟨v11,e,jG [] hh⟩)
 refine bF ?_;obtain rfl:=iO e;exact rU j ⟨h,rfl,rfl⟩ []
def nO(K:Nat)(e:List (List Rat))(a1:((List Rat)→Option Bool)):Option Bool:=
 (gB K e a1).bind fun v1=>some (decide (0≤v1))
theorem zY{K:Nat}{f:List (List Rat)}{a1:((List Rat)→Option Bool)}{r:Bool}(e:nO K f a1=some r):Ct Tryz.prog 129 [.vc (pS (eF cQ) f),.vc (pFn Tryz.prog (fun x:(List Rat)=>[.vc (pS cQ x)]) (fun r:Bool=>.vc (pB r)) a1)] (.vc (pB r)):=by
 unfold nO at e;refine aA Tryz.func129 rfl (by kernel_rfl) Tryz.ntmps129 rfl (fun w0 M0=>?_);obtain⟨v1,h,e⟩:=bE e wP;exact bU
def qV(c0:List (List Rat))(e:List Rat):Option Bool:=
 (bR c0 0).bind fun v1=>some ((e.length:Int) != (v1.length:Int))
theorem aEC{c0:List (List Rat)}{h:List Rat}{r:Bool}(f:qV c0 h=some r):Ct Tryz.prog 130 [.vc (pS cQ h),.vc (pM ((eF (eF cQ)).e c0))] (.vc (pB r)):=by
 unfold qV at f;refine aA Tryz.func130 rfl (by kernel_rfl) Tryz.ntmps130 rfl (fun w0 M0=>?_);obtain⟨v1,j,f⟩:=aR f;exact bU
def mA(K:Nat)(e:List (List Rat)):Option Bool:=
 bif(decide ((e.length:Int)≤64)) then((m6 e).bind fun f=>bif(decide (f≤64)) then((nO K e (qV e)).bind fun v6=>some (!v6)) else(some false)) else(some false)
theorem sA{K:Nat}{j:List (List Rat)}{r:Bool}(f:mA K j=some r):Ct Tryz.prog 80 [.vc (pS (eF cQ) j)] (.vc (pB r)):=by
 unfold mA at f;refine aA Tryz.func80 rfl (by kernel_rfl) Tryz.ntmps80 rfl (fun w0 M0=>?_);refine aE (aI (dP rfl rfl zT (fun s=>?_)));refine go ?_ ?_;refine dK f (fun k f=>?_) (fun k f=>?_)
 ·obtain⟨t,u,f⟩:=bE f tV;refine go ?_ ?_;refine dK f (fun q f=>?_) (fun q f=>?_)
  ·refine wS (gM 0 1 rfl rfl rfl rfl (.one tyO23)) zU1 ?_;refine aGw 0 [(1,0)] rfl zU1 rfl ?_;refine wS (aKs (φ:=(qV j)) (pre:=fun x:(List Rat)=>[.vc (pS cQ x)]) (post:=fun r:Bool=>.vc (pB r)) (xs:=[.tmp 1]) (cs:=[pM ((eF (eF cQ)).e j)]) rfl rfl (fun x r h=>aEC h)) zU1 ?_;obtain⟨v6,y,f⟩:=bE f zY;exact bU
  exact bU
 exact bU
def rV(K:Nat)(c0:((List Nat×List (List Rat))×List Int×Rat))(e:List Nat)(f:List (List Rat)):Option ((List Nat×List (List Rat))×List Int×Rat):=
 some ((e,f),c0.2.1,c0.2.2)
def iI(K:Nat)(s:Int)(a1:Int)(j:Rat):Nat→(List Nat)→(List (List Rat))→Int→Option ((List Nat)×(List (List Rat)))
 |0,_,_,_=>none
 |k+1,f,e,h=>(bR f s).bind fun u=>bif(decide (h<((e.getD u []).length:Int))) then((bR f a1).bind fun x=>(bR (e.getD x []) h).bind fun y=>(xR y).bind fun z=>bif(z != 0) then((bR f s).bind fun q=>(bR f s).bind fun F=>(bR (e.getD F []) h).bind fun G=>(bR f a1).bind fun I=>(bR (e.getD I []) h).bind fun J=>(aEf j J).bind fun L=>(aHd G L).bind fun O=>(bR (e.getD q []) h).bind fun X=>(rW (e.getD q []) h O).bind fun U=>(aV (h+1)).bind fun V=>iI K s a1 j k f (e.set q U) V) else((aV (h+1)).bind fun t=>iI K s a1 j k f e t)) else(some (f,e))
def pT(K:Nat)(c0:((List Nat×List (List Rat))×List Int×Rat))(k:Int)(a1:Int)(a2:Int):Option ((List Nat×List (List Rat))×List Int×Rat):=
 (bR c0.1.1 k).bind fun v20=>(bR (c0.1.2.getD v20 []) a2).bind fun e=>(xR e).bind fun f=>bif(f==0) then(some ((c0.1.1,c0.1.2),c0.2.1,c0.2.2)) else((iI K k a1 e K c0.1.1 c0.1.2 a2).bind fun(h,j)=>rV K c0 h j)
theorem aC3{K:Nat}{c0:((List Nat×List (List Rat))×List Int×Rat)}{a0:Int}{a1:Int}{a2:Int}{r:((List Nat×List (List Rat))×List Int×Rat)}(f:pT K c0 a0 a1 a2=some r){p0:Nat}{b5:Option Nat}{c6 n4:Nat}{g3:List rC}{N9:Nat}(q7:c0.1.1.length=n4)(q10:c0.1.2.length=N9)(q11:cN g3 c0.1.2)(q12:(∀k∈c0.1.1,k<N9)){I:Option Nat}{J F:Nat}(q18:c0.2.1.length=F):CtO Tryz.prog 166 ([⟨some p0,1,139,6,1,([pO b5 n4 c6]++[pO I F J]++(eQ c0.2.2))⟩,hO (cH g3) b5 c6 24 n4 c0.1.1,hO cI I J 3 F c0.2.1]++eJ cQ 42 g3 c0.1.2) [vI a0,vI a1,vI a2,.vc (pP (some p0) 0)] (fun Ho q=>∃b107 c108 n106 g105 N111,∃b118 c119 n117,r.1.1.length=n106∧r.1.2.length=N111∧cN g105 r.1.2∧(∀k∈r.1.1,k<N111)∧r.2.1.length=n117∧Ho=([⟨some p0,1,139,6,1,([pO b107 n106 c108]++[pO b118 n117 c119]++(eQ r.2.2))⟩,hO (cH g105) b107 c108 24 n106 r.1.1,hO cI b118 c119 3 n117 r.2.1]++eJ cQ 42 g105 r.1.2)∧q=.any):=by
 unfold pT at f;refine aA Tryz.func166 rfl (by kernel_rfl) Tryz.ntmps166 rfl (fun w0 M0=>?_);obtain⟨v20,h21,v22,h23,f⟩:=u9 f;refine go ?_ ?_;refine aG (dX (3+v20) rfl tyS24 (rE 3 rfl q11 q10 (q12 _ (aL h21))) (cT q11 q10 (q12 _ (aL h21))) (aB h23).1 (aB h23).2.1) zU2 ?_;refine aG (gZ (k:=4) (3+v20) rfl (rE 3 rfl q11 q10 (q12 _ (aL h21))) h23 rfl (.agg tyA42) rfl) zU1 ?_;refine aM rfl tyZ42q (fun b24=>?_);obtain⟨v25,h26,f⟩:=bE f eA;refine go ?_ ?_;refine aD f rfl (fun h27 f=>?_) (fun h27 f=>?_)
 ·refine gV (gW ?_);obtain rfl:=iO f;exact kM (.inl rfl) Tryz.results166 .nil rfl 4 [1,2,3] rfl rfl (by decide) ⟨b5,c6,n4,g3,N9,I,J,F,q7,q10,q11,q12,q18,rfl,rfl⟩
 refine go ?_ ?_;refine aJ (aY (fun H E=>∃(x54:List Nat),∃(x60:List (List Rat)),∃(b55:Option Nat),∃(c56:Nat),∃(n57:Nat),∃(g61:List rC),∃(N62:Nat),rV K c0 x54 x60=some r∧x54.length=n57∧x60.length=N62∧cN g61 x60∧(∀k∈x54,k<N62)∧H=([⟨some p0,1,139,6,1,([pO b55 n57 c56]++[pO I F J]++(eQ c0.2.2))⟩,hO (cH g61) b55 c56 24 n57 x54,hO cI I J 3 F c0.2.1]++eJ cQ 42 g61 x60)∧E=[(3,.vc (pP (some p0) 0))]) ?_ (fun Jj67=>?_))
 ·rintro _ _ ⟨x54,x60,b55,c56,n57,g61,N62,f,q58,q63,q64,q65,rfl,rfl⟩;unfold rV at f;obtain rfl:=iO f;exact kM (.inr rfl) Tryz.results166 .nil rfl 3 [0,1,2] rfl rfl (by decide) ⟨b55,c56,n57,g61,N62,I,J,F,q58,q63,q64,q65,q18,rfl,rfl⟩
 obtain⟨⟨x54',x60'⟩,hL,hRl66⟩:=aR f;refine dU (fun k a w=>∃(U:List Nat),∃(L:List (List Rat)),∃(V:Int),∃(y:Option Nat),∃(G:Nat),∃(z:Nat),∃(e:List rC),∃(N49:Nat),iI K a0 a1 v22 k U L V=some (x54',x60')∧U.length=z∧L.length=N49∧cN e L∧(∀k∈U,k<N49)∧hs _ ([⟨some b24,1,42,4,1,(eQ v22)⟩,⟨some p0,1,139,6,1,([pO y z G]++[pO I F J]++(eQ c0.2.2))⟩,hO (cH e) y G 24 z U,hO cI I J 3 F c0.2.1]++eJ cQ 42 e L) [(0,vI a0),(1,vI a1),(3,.vc (pP (some p0) 0)),(7,.vc (pP (some b24) 0)),(8,vI V)] a w) K (fun a w ⟨_,_,_,_,_,_,_,_,f,_,_,_,_,_⟩=>by cases f) (fun k a w ⟨U,L,V,y,G,z,e,N49,f,q45,h,t,j,hh⟩=>dW ?_ hh) (fun a w hh=>⟨c0.1.1,c0.1.2,a2,b5,c6,n4,g3,N9,hL,q7,q10,q11,q12,aQ 4 [0,1,2,3] rfl rfl (by decide) (by exact⟨rfl,rfl,rfl,rfl,rfl,zT⟩) hh⟩);rw[iI.eq_2]at f;obtain⟨x,u,f⟩:=aR f;refine go ?_ ?_;refine aG (aBU (C:=cQ) (xs:=(L.getD x [])) (T:=42) rfl tyS24 (cT t h (j _ (aL u)))) zU1 ?_;refine go ?_ ?_;refine aD f rfl (fun h70 f=>?_) (fun h70 f=>?_)
 ·refine go ?_ ?_;refine aJ ?_;obtain⟨X,O,v73,Y,f⟩:=u9 f;refine go ?_ ?_;refine aG (dX (4+X) rfl tyS24 (rE 4 rfl t h (j _ (aL O))) (cT t h (j _ (aL O))) (aB Y).1 (aB Y).2.1) zU2 ?_;refine aG (gZ (k:=4) (4+X) rfl (rE 4 rfl t h (j _ (aL O))) Y rfl (.agg tyA42) rfl) zU1 ?_;obtain⟨v75,h76,f⟩:=bE f eA;refine go ?_ ?_;refine aD f rfl (fun h77 f=>?_) (fun h77 f=>?_)
  ·have f:=uS u f;have f:=uS u f;obtain⟨v84,h85,f⟩:=aR f;have f:=uS O f;have f:=uS Y f;obtain⟨v90,h91,f⟩:=bE f vR;obtain⟨v92,h93,f⟩:=bE f w8;have f:=uS h85 f;refine kO (0::1::0::7::15::0::0::64::0::448::960::0::4032::8128::0::0::32768::0::229376::491520::0::2064384::4161536::8372224::16777152::33554431::67108863::[]) 26 1 (.v (.vc (pP (some p0) 0))::.v (.vc (pO y z G))::.v (vI a0)::.v (.vc (pE y a0 (cH e).n 0))::.v (.vc (pO (eI e x).1 (eI e x).2.1 (eI e x).2.2))::.v (vI V)::.v (.vc (pP (some p0) 0))::.v (.vc (pO y z G))::.v (vI a0)::.v (.vc (pE y a0 (cH e).n 0))::.v (.vc (pO (eI e x).1 (eI e x).2.1 (eI e x).2.2))::.v (vI V)::.v (.vc (pE (eI e x).1 V cQ.n 0))::.v (.va (eQ v84))::.v (.va (eQ v22))::.v (.vc (pP (some p0) 0))::.v (.vc (pO y z G))::.v (vI a1)::.v (.vc (pE y a1 (cH e).n 0))::.v (.vc (pO (eI e X).1 (eI e X).2.1 (eI e X).2.2))::.v (vI V)::.v (.vc (pE (eI e X).1 V cQ.n 0))::.v (.va (eQ v73))::.v (.va (eQ v90))::.v (.va (eQ v92))::.v (.vc (pE (eI e x).1 V cQ.n 0))::[]) bC ⟨d0 (iG (off:=0) (k:=0) rfl tyF139_0) zU1,d0 (gM 1 1 rfl rfl rfl rfl (.one tyO23)) zU1,d0 (aP (.inl rfl)) zU1,d0 (dX (C:=(cH e)) 2 rfl tyS23 rfl q45 (aB u).1 (aB u).2.1) zU2,d0 (gZ (C:=(cH e)) (k:=1) 2 rfl rfl u rfl (.one tyO24) rfl) zU1,d0 (aP (.inl rfl)) zU1,d0 (iG (off:=0) (k:=0) rfl tyF139_0) zU1,d0 (gM 1 1 rfl rfl rfl rfl (.one tyO23)) zU1,d0 (aP (.inl rfl)) zU1,d0 (dX (C:=(cH e)) 2 rfl tyS23 rfl q45 (aB u).1 (aB u).2.1) zU2,d0 (gZ (C:=(cH e)) (k:=1) 2 rfl rfl u rfl (.one tyO24) rfl) zU1,d0 (aP (.inl rfl)) zU1,d0 (dX (4+x) rfl tyS24 (fD 4 rfl t h (j _ (aL u))) (cT t h (j _ (aL u))) (aB h85).1 (aB h85).2.1) zU2,d0 (gZ (k:=4) (4+x) rfl (fD 4 rfl t h (j _ (aL u))) h85 rfl (.agg tyA42) rfl) zU1,d0 (gM 0 4 rfl rfl rfl rfl (.agg tyA42)) zU1,d0 (iG (off:=0) (k:=0) rfl tyF139_0) zU1,d0 (gM 1 1 rfl rfl rfl rfl (.one tyO23)) zU1,d0 (aP (.inl rfl)) zU1,d0 (dX (C:=(cH e)) 2 rfl tyS23 rfl q45 (aB O).1 (aB O).2.1) zU2,d0 (gZ (C:=(cH e)) (k:=1) 2 rfl rfl O rfl (.one tyO24) rfl) zU1,d0 (aP (.inl rfl)) zU1,d0 (dX (4+X) rfl tyS24 (fD 4 rfl t h (j _ (aL O))) (cT t h (j _ (aL O))) (aB Y).1 (aB Y).2.1) zU2,d0 (gZ (k:=4) (4+X) rfl (fD 4 rfl t h (j _ (aL O))) Y rfl (.agg tyA42) rfl) zU1,d0 (bO rfl h91 rfl) zU2,d0 (bO rfl h93 rfl) zU2,d0 (dX (4+x) rfl tyS24 (fD 4 rfl t h (j _ (aL u))) (cT t h (j _ (aL u))) (aB h85).1 (aB h85).2.1) zU2,zT⟩ (fun bs79 G78=>?_);obtain⟨x96,h97,f⟩:=aR f;refine mI (xI (H':=([⟨some b24,1,42,4,1,(eQ v22)⟩,⟨some p0,1,139,6,1,([pO y z G]++[pO I F J]++(eQ c0.2.2))⟩,hO (cH e) y G 24 z U,hO cI I J 3 F c0.2.1]++eJ cQ 42 e (L.set x x96))) (4+x) rfl (rE 4 rfl t h (j _ (aL u))) h85 h97 tyA42.s (hH:=stN 4 rfl t h (j _ (aL u)))) zU2 ?_;obtain⟨v99,h100,f⟩:=aR f;refine go ?_ ?_;exact aF (fun a w hh=>⟨U,(L.set x x96),v99,y,G,z,e,N49,f,q45,(aCL h),(aEP t h (j _ (aL u)) (bI h97 rfl)),j,aQ 4 [0,1,2,3] rfl rfl (by decide) (by exact⟨rfl,rfl,rfl,rfl,rfl,zT⟩) hh⟩)
  obtain⟨v101,h102,f⟩:=aR f;refine go ?_ ?_;exact aF (fun a w hh=>⟨U,L,v101,y,G,z,e,N49,f,q45,h,t,j,aQ 4 [0,1,2,3] rfl rfl (by decide) (by exact⟨rfl,rfl,rfl,rfl,rfl,zT⟩) hh⟩)
 refine bF ?_;obtain⟨rfl,rfl⟩:=sm2 f;exact dV Jj67 ⟨U,L,y,G,z,e,N49,hRl66,q45,h,t,j,rfl,rfl⟩ 4 [1,2,3] rfl rfl zU1
def l4(c0:Int)(e:List Rat):Option Bool:=
 (bR e c0).bind fun v1=>(xR v1).bind fun f=>some (f != 0)
theorem aDR{c0:Int}{h:List Rat}{r:Bool}(f:l4 c0 h=some r):Ct Tryz.prog 167 [.vc (pS cQ h),.vc (pM (cI.e c0))] (.vc (pB r)):=by
 unfold l4 at f;refine aA Tryz.func167 rfl (by kernel_rfl) Tryz.ntmps167 rfl (fun w0 M0=>?_);obtain⟨v1,j,f⟩:=aR f;obtain⟨k,q,f⟩:=bE f eA;exact bU
def sT(K:Nat)(e:List Int)(f:List Nat)(h:List (List Rat))(j:Rat):Option mS:=
 some (⟨(aAO h f),e,j⟩:mS)
def sK(K:Nat)(f:Int)(e:(List Int)→(List Nat)→(List (List Rat))→Rat→Int→Option ((List Int)×(List Nat)×(List (List Rat))×Rat))(h:List Int)(j:List Nat)(k:List (List Rat))(q:Rat):Option ((List Int)×(List Nat)×(List (List Rat))×Rat):=
 (tC h [f]).bind fun s=>(aV (f+1)).bind fun t=>e s j k q t
def gR(K:Nat)(x:List Int)(h:Int)(j:List Nat):Nat→(List Int)→(List Nat)→(List (List Rat))→Rat→Int→Option ((List Int)×(List Nat)×(List (List Rat))×Rat)
 |0,_,_,_,_,_=>none
 |k+1,q,s,t,u,e=>bif(decide (e<(j.length:Int))) then(bif(e != (x.length:Int)) then((pT K ((s,t),q,u) e (x.length:Int) h).bind fun f=>(aV (e+1)).bind fun y=>gR K x h j k f.2.1 f.1.1 f.1.2 f.2.2 y) else((aV (e+1)).bind fun z=>gR K x h j k q s t u z)) else(some (q,s,t,u))
def s8(K:Nat)(j:List Int)(f:Int)(k:Rat)(e:(List Int)→(List Nat)→(List (List Rat))→Rat→Int→Option ((List Int)×(List Nat)×(List (List Rat))×Rat))(h:List Nat)(q:List (List Rat)):Option ((List Int)×(List Nat)×(List (List Rat))×Rat):=
 (gR K j f h K j h q k 0).bind fun(s,t,u,x)=>sK K f e s t u x
def lC(K:Nat)(q:List Int)(s:Rat):Nat→(List Nat)→(List (List Rat))→Int→Option ((List Nat)×(List (List Rat)))
 |0,_,_,_=>none
 |k+1,f,e,h=>(bR f (q.length:Int)).bind fun t=>bif(decide (h<((e.getD t []).length:Int))) then((bR f (q.length:Int)).bind fun j=>(bR f (q.length:Int)).bind fun u=>(bR (e.getD u []) h).bind fun x=>(aG7 x s).bind fun y=>(bR (e.getD j []) h).bind fun G=>(rW (e.getD j []) h y).bind fun z=>(aV (h+1)).bind fun F=>lC K q s k f (e.set j z) F) else(some (f,e))
def mT(K:Nat)(q:List Int)(e:Int)(f:(List Int)→(List Nat)→(List (List Rat))→Rat→Int→Option ((List Int)×(List Nat)×(List (List Rat))×Rat))(h:List Nat)(j:List (List Rat))(s:Rat):Option ((List Int)×(List Nat)×(List (List Rat))×Rat):=
 (bR h (q.length:Int)).bind fun t=>(bR (j.getD t []) e).bind fun k=>(aEf s k).bind fun u=>(lC K q k K h j e).bind fun(x,y)=>s8 K q e u f x y
def cV(K:Nat)(a1:Int):Nat→(List Int)→(List Nat)→(List (List Rat))→Rat→Int→Option ((List Int)×(List Nat)×(List (List Rat))×Rat)
 |0,_,_,_,_,_=>none
 |k+1,e,f,s,j,h=>bif(decide (h<a1)) then((slL (aAO s f) (e.length:Int) ((aAO s f).length:Int)).bind fun x=>(gB K x (l4 h)).bind fun q=>bif(decide (q<0)) then((aV (h+1)).bind fun y=>cV K a1 k e f s j y) else(bif(decide (0<q)) then((aV ((e.length:Int)+q)).bind fun t=>(aV ((e.length:Int)+q)).bind fun z=>(bR f z).bind fun F=>(bR f (e.length:Int)).bind fun G=>(bR f (e.length:Int)).bind fun L=>(rW f (e.length:Int) F).bind fun u=>(bR u t).bind fun O=>(rW u t G).bind fun I=>(aC0 j).bind fun J=>mT K e h (cV K a1 k) I s J) else(mT K e h (cV K a1 k) f s j))) else(some (e,f,s,j))
def tJ(K:Nat)(a1:Int)(v2:Rat)(k:List Nat)(q:List (List Rat)):Option mS:=
 (cV K a1 K ([]:List Int) k q v2 0).bind fun(e,f,h,j)=>sT K e f h j
def lR(K:Nat)(u:List (List Rat)):Nat→(List Nat)→(List (List Rat))→Int→Option ((List Nat)×(List (List Rat)))
 |0,_,_,_=>none
 |k+1,h,e,f=>bif(decide (f<(u.length:Int))) then((bR u f).bind fun j=>(dR j).bind fun q=>(tC h [e.length]).bind fun s=>(aV (f+1)).bind fun t=>lR K u k s (e++[q]) t) else(some (h,e))
def rZ(K:Nat)(h:List (List Rat))(a1:Int):Option mS:=
 (qof 1 1).bind fun v2=>(lR K h K ([]:List Nat) ([]:List (List Rat)) 0).bind fun(e,f)=>tJ K a1 v2 e f
theorem aBb{K:Nat}{a0:List (List Rat)}{a1:Int}{r:mS}(j:rZ K a0 a1=some r):Ct Tryz.prog 142 [.vc (pS (eF cQ) a0),vI a1] (.va (mS.enc r)):=by
 unfold rZ at j;refine aA Tryz.func142 rfl (by kernel_rfl) Tryz.ntmps142 rfl (fun w0 M0=>?_);refine aE (aI (aM rfl tyZ139q (fun b1=>?_)));refine aX (aH (aE (aI ?_)));obtain⟨v2,h3,j⟩:=bE j tX;refine aG (bO rfl h3 rfl) ⟨rR _ _,rR _ _,zT⟩ ?_;refine aIz cQ 42 ?_;refine aAe (cH ([]:List rC)) 24 ?_;refine aAe cI 3 ?_;refine aG (iV (is:=[2]) (xs:=[.tmp 15]) (ps:=[.va (eQ v2)]) rfl tyB139_o0_o1q rfl rfl ⟨zT,zT⟩ rfl) zU1 ?_;refine aM rfl tyZ139q (fun t=>?_);refine go ?_ ?_;refine aJ (aY (fun H E=>∃(x50:List Nat),∃(x56:List (List Rat)),∃(b51:Option Nat),∃(c52:Nat),∃(n53:Nat),∃(g57:List rC),∃(N58:Nat),tJ K a1 v2 x50 x56=some r∧x50.length=n53∧x56.length=N58∧cN g57 x56∧(∀k∈x50,k<N58)∧H=([⟨some t,1,139,6,1,([pO b51 n53 c52]++[pO none 0 0]++(eQ v2))⟩,hO cI none 0 3 0 ([]:List Int),hO (cH g57) b51 c52 24 n53 x50,⟨some b1,1,139,6,1,([pS (eF cQ) ([]:List (List Rat))]++[pS cI ([]:List Int)]++(eQ 0))⟩]++eJ cQ 42 g57 x56)∧E=[(1,vI a1),(4,.vc (pP (some b1) 0)),(5,.vc (pP (some t) 0))]) ?_ (fun Jj63=>?_))
 ·rintro _ _ ⟨x50,x56,b51,c52,n53,g57,N58,j,q54,q59,q60,q61,rfl,rfl⟩;unfold tJ at j;refine go ?_ ?_;refine aG (aNG (xs:=[.tmp 5]) (cs:=[pP (some t) 0]) rfl rfl) zU1 ?_;refine go ?_ ?_;refine aJ (aY (fun H E=>∃(x104:List Int),∃(x110:List Nat),∃(x116:List (List Rat)),∃(x122:Rat),∃(b105:Option Nat),∃(c106:Nat),∃(n107:Nat),∃(b111:Option Nat),∃(c112:Nat),∃(n113:Nat),∃(g117:List rC),∃(N118:Nat),sT K x104 x110 x116 x122=some r∧x104.length=n107∧x110.length=n113∧x116.length=N118∧cN g117 x116∧(∀k∈x110,k<N118)∧H=([⟨some t,1,139,6,1,([pO b111 n113 c112]++[pO b105 n107 c106]++(eQ x122))⟩,hO cI b105 c106 3 n107 x104,hO (cH g117) b111 c112 24 n113 x110,⟨some b1,1,139,6,1,([pS (eF cQ) ([]:List (List Rat))]++[pS cI ([]:List Int)]++(eQ 0))⟩]++eJ cQ 42 g117 x116)∧E=[(4,.vc (pP (some b1) 0)),(5,.vc (pP (some t) 0))]) ?_ (fun Jj124=>?_))
  ·rintro _ _ ⟨x104,x110,x116,x122,b105,c106,n107,b111,c112,n113,g117,N118,j,q108,q114,q119,q120,q121,rfl,rfl⟩;unfold sT at j;refine aH (aE (aI (aVW 2 4 rfl rfl q120 (aDK q119 q121) ?_)));refine aFo 2 0 0 rfl ((aB7 _ _).trans q114) rfl rfl rfl rfl rfl ?_;refine aFo 1 0 1 rfl q108 rfl rfl rfl rfl rfl ?_;exact bU
  obtain⟨⟨x104',x110',x116',x122'⟩,hL,hRl123⟩:=aR j;refine dU (fun k a w=>∃(y:List Int),∃(x90:List Nat),∃(x96:List (List Rat)),∃(x102:Rat),∃(u:Int),∃(Y:Option Nat),∃(c86:Nat),∃(V:Nat),∃(U:Option Nat),∃(c92:Nat),∃(n93:Nat),∃(F:List rC),∃(N98:Nat),cV K a1 k y x90 x96 x102 u=some (x104',x110',x116',x122')∧y.length=V∧x90.length=n93∧x96.length=N98∧cN F x96∧(∀k∈x90,k<N98)∧hs _ ([⟨some t,1,139,6,1,([pO U n93 c92]++[pO Y V c86]++(eQ x102))⟩,hO cI Y c86 3 V y,hO (cH F) U c92 24 n93 x90,⟨some b1,1,139,6,1,([pS (eF cQ) ([]:List (List Rat))]++[pS cI ([]:List Int)]++(eQ 0))⟩]++eJ cQ 42 F x96) [(4,.vc (pP (some b1) 0)),(5,.vc (pP (some t) 0)),(8,.vc (pF 166 [pP (some t) 0])),(32,vI a1),(33,vI u)] a w) K (fun a w ⟨_,_,_,_,_,_,_,_,_,_,_,_,_,j,_,_,_,_,_,_⟩=>by cases j) (fun k a w ⟨y,x90,x96,x102,u,Y,c86,V,U,c92,n93,F,N98,j,q88,q94,q99,q100,q101,hh⟩=>dW ?_ hh) (fun a w hh=>⟨([]:List Int),x50,x56,v2,0,none,0,0,b51,c52,n53,g57,N58,hL,rfl,q54,q59,q60,q61,aQ 4 [0,1,2,3] rfl rfl (by decide) (by exact⟨rfl,rfl,rfl,rfl,rfl,zT⟩) hh⟩);rw[cV.eq_2]at j;refine go ?_ ?_;refine aD j rfl (fun h126 j=>?_) (fun h126 j=>?_)
  ·refine go ?_ ?_;refine aJ (go ?_ ?_);refine aM rfl tyZ3q (fun b127=>?_);obtain⟨x128,h129,j⟩:=aR j;refine go ?_ ?_;refine aG (aPp (i:=3) rfl tyS23 rfl rfl rfl rfl (uI h129).1 (aQl h129 q94)) zU2 ?_;refine aGw 0 [(9,0)] rfl zU1 rfl ?_;refine aG (aKs (φ:=(l4 u)) (pre:=fun x:(List Rat)=>[.vc (pS cQ x)]) (post:=fun r:Bool=>.vc (pB r)) (xs:=[.tmp 9]) (cs:=[pM (cI.e u)]) rfl rfl (fun x r h=>aDR h)) zU1 ?_;obtain⟨v130,h131,j⟩:=bE j wP;refine aG (aFP (pre':=[.vc (pC (pO U n93 c92) (y.length:Int).toNat 1),.vc (pFn Tryz.prog (fun x:(List Rat)=>[.vc (pS cQ x)]) (fun r:Bool=>.vc (pB r)) (l4 u))]) rfl h131 rfl (aWj (uI h129).2.2 (aOP 2 4 [] (by rw[List.append_nil];rfl) rfl q100 (aDK q99 q101) q94)) (fun _ _ _ h=>h)) zU2 ?_;refine go ?_ ?_;refine aD j rfl (fun h132 j=>?_) (fun h132 j=>?_)
   ·refine bF ?_;obtain⟨v133,h134,j⟩:=aR j;refine go ?_ ?_;exact aF (fun a w hh=>⟨y,x90,x96,x102,v133,Y,c86,V,U,c92,n93,F,N98,j,q88,q94,q99,q100,q101,aQ 4 [0,1,2,3] rfl rfl (by decide) (by exact⟨rfl,rfl,rfl,rfl,rfl,zT⟩) hh⟩)
   refine fB (aH (aE (zK (fun H E=>∃(x136:List Nat),∃(x142:List (List Rat)),∃(x148:Rat),∃(b137:Option Nat),∃(c138:Nat),∃(n139:Nat),∃(X:List rC),∃(N144:Nat),mT K y u (cV K a1 k) x136 x142 x148=some (x104',x110',x116',x122')∧x136.length=n139∧x142.length=N144∧cN X x142∧(∀k∈x136,k<N144)∧H=([⟨some t,1,139,6,1,([pO b137 n139 c138]++[pO Y V c86]++(eQ x148))⟩,hO cI Y c86 3 V y,hO (cH X) b137 c138 24 n139 x136,⟨some b1,1,139,6,1,([pS (eF cQ) ([]:List (List Rat))]++[pS cI ([]:List Int)]++(eQ 0))⟩]++eJ cQ 42 X x142)∧E=[(4,.vc (pP (some b1) 0)),(5,.vc (pP (some t) 0)),(8,.vc (pF 166 [pP (some t) 0])),(9,.vc (pM (cI.e u))),(10,vI (y.length:Int)),(32,vI a1),(33,vI u)]) ?_ (fun Jj149=>?_))))
   ·rintro _ _ ⟨x136,x142,x148,b137,c138,n139,X,N144,j,q140,q145,q146,q147,rfl,rfl⟩;unfold mT at j;refine aE ?_;obtain⟨v152,h153,j⟩:=aR j;obtain⟨v154,h155,j⟩:=aR j;refine kO [0,1,0,7,15,0,63,127,0,511] 9 1 [.v (.vc (pP (some t) 0)),.v (.vc (pO b137 n139 c138)),.v (vI (y.length:Int)),.v (.vc (pE b137 (y.length:Int) (cH X).n 0)),.v (.vc (pO (eI X v152).1 (eI X v152).2.1 (eI X v152).2.2)),.v (vI u),.v (.vc (pE (eI X v152).1 u cQ.n 0)),.v (.va (eQ v154)),.a 42 (eQ 0)] bC ⟨d0 (iG (off:=0) (k:=0) rfl tyF139_0) zU1,d0 (gM 0 1 rfl rfl rfl rfl (.one tyO23)) zU1,d0 (aP (.inl rfl)) zU1,d0 (dX (C:=(cH X)) 2 rfl tyS23 rfl q140 (aB h153).1 (aB h153).2.1) zU2,d0 (gZ (C:=(cH X)) (k:=1) 2 rfl rfl h153 rfl (.one tyO24) rfl) zU1,d0 (aDy 1 rfl rfl (.one tyO3)) zU1,d0 (dX (4+v152) rfl tyS24 (fD 4 rfl q146 q145 (q147 _ (aL h153))) (cT q146 q145 (q147 _ (aL h153))) (aB h155).1 (aB h155).2.1) zU2,d0 (gZ (k:=4) (4+v152) rfl (fD 4 rfl q146 q145 (q147 _ (aL h153))) h155 rfl (.agg tyA42) rfl) zU1,⟨rfl,.alc tyZ42q⟩,zT⟩ (fun bs151 G150=>?_);obtain⟨v156,h157,j⟩:=bE j vR;refine go ?_ ?_;refine aJ (aY (fun H E=>∃(x184:List Nat),∃(x190:List (List Rat)),∃(b185:Option Nat),∃(c186:Nat),∃(n187:Nat),∃(g191:List rC),∃(N192:Nat),s8 K y u v156 (cV K a1 k) x184 x190=some (x104',x110',x116',x122')∧x184.length=n187∧x190.length=N192∧cN g191 x190∧(∀k∈x184,k<N192)∧H=([⟨some t,1,139,6,1,([pO b185 n187 c186]++[pO Y V c86]++(eQ v156))⟩,hO cI Y c86 3 V y,hO (cH g191) b185 c186 24 n187 x184,⟨some b1,1,139,6,1,([pS (eF cQ) ([]:List (List Rat))]++[pS cI ([]:List Int)]++(eQ 0))⟩]++eJ cQ 42 g191 x190)∧E=[(4,.vc (pP (some b1) 0)),(5,.vc (pP (some t) 0)),(8,.vc (pF 166 [pP (some t) 0])),(9,.vc (pM (cI.e u))),(10,vI (y.length:Int)),(32,vI a1),(33,vI u)]) ?_ (fun Jj197=>?_))
    ·rintro _ _ ⟨x184,x190,b185,c186,n187,g191,N192,j,q188,q193,q194,q195,rfl,rfl⟩;unfold s8 at j;refine go ?_ ?_;refine aJ (aY (fun H E=>∃(x238:List Int),∃(x244:List Nat),∃(x250:List (List Rat)),∃(x256:Rat),∃(b239:Option Nat),∃(c240:Nat),∃(n241:Nat),∃(b245:Option Nat),∃(c246:Nat),∃(n247:Nat),∃(g251:List rC),∃(N252:Nat),sK K u (cV K a1 k) x238 x244 x250 x256=some (x104',x110',x116',x122')∧x238.length=n241∧x244.length=n247∧x250.length=N252∧cN g251 x250∧(∀k∈x244,k<N252)∧H=([⟨some t,1,139,6,1,([pO b245 n247 c246]++[pO b239 n241 c240]++(eQ x256))⟩,hO cI b239 c240 3 n241 x238,hO (cH g251) b245 c246 24 n247 x244,⟨some b1,1,139,6,1,([pS (eF cQ) ([]:List (List Rat))]++[pS cI ([]:List Int)]++(eQ 0))⟩]++eJ cQ 42 g251 x250)∧E=[(4,.vc (pP (some b1) 0)),(5,.vc (pP (some t) 0)),(8,.vc (pF 166 [pP (some t) 0])),(9,.vc (pM (cI.e u))),(32,vI a1),(33,vI u)]) ?_ (fun Jj258=>?_))
     ·rintro _ _ ⟨x238,x244,x250,x256,b239,c240,n241,b245,c246,n247,g251,N252,j,q242,q248,q253,q254,q255,rfl,rfl⟩;unfold sK at j;refine go ?_ ?_;refine aG (iH (C:=cI) (xs:=[.tmp 133]) (ps:=[vI u]) (zs:=[u]) rfl tyS22 rfl ⟨⟨zT,rfl⟩,zT⟩ rfl) zU1 ?_;obtain⟨x259,h260,j⟩:=aR j;refine nZ 1 rfl tyS22 rfl rfl q242 rfl rfl h260 (fun b261 c262 H263 e264=>?_);cases e264;obtain⟨v266,h267,j⟩:=aR j;refine go ?_ ?_;exact aF (fun a w hh=>⟨x259,x244,x250,x256,v266,b261,c262,(n241+[u].length),b245,c246,n247,g251,N252,j,(dN h260 q242),q248,q253,q254,q255,aQ 4 [0,1,2,3] rfl rfl (by decide) (by exact⟨rfl,rfl,rfl,rfl,rfl,zT⟩) hh⟩)
     obtain⟨⟨x238',x244',x250',x256'⟩,hL,hRl257⟩:=aR j;refine dU (fun k a w=>∃(x218:List Int),∃(x224:List Nat),∃(x230:List (List Rat)),∃(x236:Rat),∃(x237:Int),∃(b219:Option Nat),∃(c220:Nat),∃(n221:Nat),∃(b225:Option Nat),∃(c226:Nat),∃(n227:Nat),∃(g231:List rC),∃(N232:Nat),gR K y u x184 k x218 x224 x230 x236 x237=some (x238',x244',x250',x256')∧x218.length=n221∧x224.length=n227∧x230.length=N232∧cN g231 x230∧(∀k∈x224,k<N232)∧hs _ ([⟨some t,1,139,6,1,([pO b225 n227 c226]++[pO b219 n221 c220]++(eQ x236))⟩,hO cI b219 c220 3 n221 x218,hO (cH g231) b225 c226 24 n227 x224,⟨some b1,1,139,6,1,([pS (eF cQ) ([]:List (List Rat))]++[pS cI ([]:List Int)]++(eQ 0))⟩]++eJ cQ 42 g231 x230) [(4,.vc (pP (some b1) 0)),(5,.vc (pP (some t) 0)),(8,.vc (pF 166 [pP (some t) 0])),(9,.vc (pM (cI.e u))),(10,vI (y.length:Int)),(32,vI a1),(33,vI u),(118,vI (x184.length:Int)),(119,vI x237)] a w) K (fun a w ⟨_,_,_,_,_,_,_,_,_,_,_,_,_,j,_,_,_,_,_,_⟩=>by cases j) (fun k a w ⟨x218,x224,x230,x236,x237,b219,c220,n221,b225,c226,n227,g231,N232,j,q222,q228,q233,q234,q235,hh⟩=>dW ?_ hh) (fun a w hh=>⟨y,x184,x190,v156,0,Y,c86,V,b185,c186,n187,g191,N192,hL,q88,q188,q193,q194,q195,aQ 4 [0,1,2,3] rfl rfl (by decide) (by exact⟨rfl,rfl,rfl,rfl,rfl,rfl,rfl,rfl,rfl,zT⟩) hh⟩);rw[gR.eq_2]at j;refine go ?_ ?_;refine aD j rfl (fun h268 j=>?_) (fun h268 j=>?_)
     ·refine go ?_ ?_;refine aJ (go ?_ ?_);refine aD j rfl (fun h269 j=>?_) (fun h269 j=>?_)
      ·obtain⟨v270,h271,j⟩:=aR j;refine go ?_ ?_;refine aPH (f:=166) (cs:=[pP (some t) 0]) (pre:=[vI x237,vI (y.length:Int),vI u]) (xs:=[.tmp 126,.tmp 127,.tmp 128]) 4 [0,2,1] [3] rfl (aC3 h271 q228 q233 q234 q235 q222) ⟨rfl,rfl,rfl,rfl,zT⟩ rfl rfl rfl (by decide) ?_;rintro _ _ ⟨b276,c277,n275,g274,N280,b287,c288,n286,q278,q281,q282,q283,q289,rfl,rfl⟩;refine mB (kH [⟨some t,1,139,6,1,([pO b276 n275 c277]++[pO b287 n286 c288]++(eQ v270.2.2))⟩,hO (cH g274) b276 c277 24 n275 v270.1.1,hO cI b287 c288 3 n286 v270.2.1] (eJ cQ 42 g274 v270.1.2) [⟨some b1,1,139,6,1,([pS (eF cQ) ([]:List (List Rat))]++[pS cI ([]:List Int)]++(eQ 0))⟩]) ?_;obtain⟨v291,h292,j⟩:=aR j;refine go ?_ ?_;exact aF (fun a w hh=>⟨v270.2.1,v270.1.1,v270.1.2,v270.2.2,v291,b287,c288,n286,b276,c277,n275,g274,N280,j,q289,q278,q281,q282,q283,aQ 4 [0,2,1,3] rfl rfl (by decide) (by exact⟨rfl,rfl,rfl,rfl,rfl,rfl,rfl,rfl,rfl,zT⟩) hh⟩)
      obtain⟨v293,h294,j⟩:=aR j;refine go ?_ ?_;exact aF (fun a w hh=>⟨x218,x224,x230,x236,v293,b219,c220,n221,b225,c226,n227,g231,N232,j,q222,q228,q233,q234,q235,aQ 4 [0,1,2,3] rfl rfl (by decide) (by exact⟨rfl,rfl,rfl,rfl,rfl,rfl,rfl,rfl,rfl,zT⟩) hh⟩)
     refine bF ?_;obtain⟨rfl,rfl,rfl,rfl⟩:=sm4 j;exact dV Jj258 ⟨x218,x224,x230,x236,b219,c220,n221,b225,c226,n227,g231,N232,hRl257,q222,q228,q233,q234,q235,rfl,rfl⟩ 4 [0,1,2,3] rfl rfl ⟨rfl,rfl,rfl,rfl,rfl,rfl,zT⟩
    obtain⟨⟨x184',x190'⟩,hL,hRl196⟩:=aR j;refine dU (fun k a w=>∃(x171:List Nat),∃(x177:List (List Rat)),∃(x183:Int),∃(b172:Option Nat),∃(c173:Nat),∃(n174:Nat),∃(z:List rC),∃(N179:Nat),lC K y v154 k x171 x177 x183=some (x184',x190')∧x171.length=n174∧x177.length=N179∧cN z x177∧(∀k∈x171,k<N179)∧hs _ ([⟨some (bs151 8),1,42,4,1,(eQ v154)⟩,⟨some t,1,139,6,1,([pO b172 n174 c173]++[pO Y V c86]++(eQ v156))⟩,hO cI Y c86 3 V y,hO (cH z) b172 c173 24 n174 x171,⟨some b1,1,139,6,1,([pS (eF cQ) ([]:List (List Rat))]++[pS cI ([]:List Int)]++(eQ 0))⟩]++eJ cQ 42 z x177) [(4,.vc (pP (some b1) 0)),(5,.vc (pP (some t) 0)),(8,.vc (pF 166 [pP (some t) 0])),(9,.vc (pM (cI.e u))),(10,vI (y.length:Int)),(12,.vc (pP (some (bs151 8)) 0)),(13,vI x183),(32,vI a1),(33,vI u)] a w) K (fun a w ⟨_,_,_,_,_,_,_,_,j,_,_,_,_,_⟩=>by cases j) (fun k a w ⟨x171,x177,x183,b172,c173,n174,z,N179,j,q175,q180,q181,q182,hh⟩=>dW ?_ hh) (fun a w hh=>⟨x136,x142,u,b137,c138,n139,X,N144,hL,q140,q145,q146,q147,aQ 5 [0,1,2,3,4] rfl rfl (by decide) (by exact⟨rfl,rfl,rfl,rfl,rfl,rfl,rfl,rfl,rfl,zT⟩) hh⟩);rw[lC.eq_2]at j;obtain⟨O,I,j⟩:=aR j;refine go ?_ ?_;refine aG (aBU (C:=cQ) (xs:=(x177.getD O [])) (T:=42) rfl tyS24 (cT q181 q180 (q182 _ (aL I)))) zU1 ?_;refine go ?_ ?_;refine aD j rfl (fun h297 j=>?_) (fun h297 j=>?_)
    ·refine go ?_ ?_;refine aJ ?_;have j:=uS I j;have j:=uS I j;obtain⟨v304,h305,j⟩:=aR j;obtain⟨v306,h307,j⟩:=bE j w6;have j:=uS h305 j;refine kO [0,1,0,7,15,0,0,64,0,448,960,0,4032,8128,0,32704,65535,131071] 17 1 [.v (.vc (pP (some t) 0)),.v (.vc (pO b172 n174 c173)),.v (vI (y.length:Int)),.v (.vc (pE b172 (y.length:Int) (cH z).n 0)),.v (.vc (pO (eI z O).1 (eI z O).2.1 (eI z O).2.2)),.v (vI x183),.v (.vc (pP (some t) 0)),.v (.vc (pO b172 n174 c173)),.v (vI (y.length:Int)),.v (.vc (pE b172 (y.length:Int) (cH z).n 0)),.v (.vc (pO (eI z O).1 (eI z O).2.1 (eI z O).2.2)),.v (vI x183),.v (.vc (pE (eI z O).1 x183 cQ.n 0)),.v (.va (eQ v304)),.v (.va (eQ v154)),.v (.va (eQ v306)),.v (.vc (pE (eI z O).1 x183 cQ.n 0))] bC ⟨d0 (iG (off:=0) (k:=0) rfl tyF139_0) zU1,d0 (gM 1 1 rfl rfl rfl rfl (.one tyO23)) zU1,d0 (aP (.inl rfl)) zU1,d0 (dX (C:=(cH z)) 3 rfl tyS23 rfl q175 (aB I).1 (aB I).2.1) zU2,d0 (gZ (C:=(cH z)) (k:=1) 3 rfl rfl I rfl (.one tyO24) rfl) zU1,d0 (aP (.inl rfl)) zU1,d0 (iG (off:=0) (k:=0) rfl tyF139_0) zU1,d0 (gM 1 1 rfl rfl rfl rfl (.one tyO23)) zU1,d0 (aP (.inl rfl)) zU1,d0 (dX (C:=(cH z)) 3 rfl tyS23 rfl q175 (aB I).1 (aB I).2.1) zU2,d0 (gZ (C:=(cH z)) (k:=1) 3 rfl rfl I rfl (.one tyO24) rfl) zU1,d0 (aP (.inl rfl)) zU1,d0 (dX (5+O) rfl tyS24 (fD 5 rfl q181 q180 (q182 _ (aL I))) (cT q181 q180 (q182 _ (aL I))) (aB h305).1 (aB h305).2.1) zU2,d0 (gZ (k:=4) (5+O) rfl (fD 5 rfl q181 q180 (q182 _ (aL I))) h305 rfl (.agg tyA42) rfl) zU1,d0 (gM 0 4 rfl rfl rfl rfl (.agg tyA42)) zU1,d0 (bO rfl h307 rfl) zU2,d0 (dX (5+O) rfl tyS24 (fD 5 rfl q181 q180 (q182 _ (aL I))) (cT q181 q180 (q182 _ (aL I))) (aB h305).1 (aB h305).2.1) zU2,zT⟩ (fun bs299 G298=>?_);obtain⟨x310,h311,j⟩:=aR j;refine mI (xI (H':=([⟨some (bs151 8),1,42,4,1,(eQ v154)⟩,⟨some t,1,139,6,1,([pO b172 n174 c173]++[pO Y V c86]++(eQ v156))⟩,hO cI Y c86 3 V y,hO (cH z) b172 c173 24 n174 x171,⟨some b1,1,139,6,1,([pS (eF cQ) ([]:List (List Rat))]++[pS cI ([]:List Int)]++(eQ 0))⟩]++eJ cQ 42 z (x177.set O x310))) (5+O) rfl (rE 5 rfl q181 q180 (q182 _ (aL I))) h305 h311 tyA42.s (hH:=stN 5 rfl q181 q180 (q182 _ (aL I)))) zU2 ?_;obtain⟨v313,h314,j⟩:=aR j;refine go ?_ ?_;exact aF (fun a w hh=>⟨x171,(x177.set O x310),v313,b172,c173,n174,z,N179,j,q175,(aCL q180),(aEP q181 q180 (q182 _ (aL I)) (bI h311 rfl)),q182,aQ 5 [0,1,2,3,4] rfl rfl (by decide) (by exact⟨rfl,rfl,rfl,rfl,rfl,rfl,rfl,rfl,rfl,zT⟩) hh⟩)
    refine bF ?_;obtain⟨rfl,rfl⟩:=sm2 j;exact dV Jj197 ⟨x171,x177,b172,c173,n174,z,N179,hRl196,q175,q180,q181,q182,rfl,rfl⟩ 5 [1,2,3,4] rfl rfl ⟨rfl,rfl,rfl,rfl,rfl,rfl,rfl,zT⟩
   refine go ?_ ?_;refine aD j rfl (fun h315 j=>?_) (fun h315 j=>?_)
   ·refine aE ?_;obtain⟨v318,h319,j⟩:=aR j;have j:=uS h319 j;obtain⟨v322,h323,j⟩:=aR j;obtain⟨v324,h325,j⟩:=aR j;have j:=uS h325 j;obtain⟨x328,h329,j⟩:=aR j;obtain⟨v331,h332,j⟩:=aR j;refine tN (HsM [(0,fun G=>([⟨some t,1,139,6,1,([pO U n93 c92]++[pO Y V c86]++(eQ x102))⟩,hO cI Y c86 3 V y,hO (cH F) U c92 24 n93 x90,⟨some b1,1,139,6,1,([pS (eF cQ) ([]:List (List Rat))]++[pS cI ([]:List Int)]++(eQ 0))⟩]++eJ cQ 42 F x96)),(1,fun G=>([⟨some t,1,139,6,1,([pO U n93 c92]++[pO Y V c86]++(eQ x102))⟩,hO cI Y c86 3 V y,hO (cH F) U c92 24 n93 x328,⟨some b1,1,139,6,1,([pS (eF cQ) ([]:List (List Rat))]++[pS cI ([]:List Int)]++(eQ 0))⟩]++eJ cQ 42 F x96))]) [21] [0,1,0,0,8,0,0,96,0,256,0,0,3072,7936,16128,0,32768,0,229376,491520,1048327,2096903,4194303,8388607] 23 1 [.v (.vc (pP (some t) 0)),.v (.vc (pO U n93 c92)),.v (vI (y.length:Int)),.v (.vc (pP (some t) 0)),.v (.vc (pO U n93 c92)),.v (vI (y.length:Int)),.v (vI v130),.v (vI v318),.v (.vc (pP (some t) 0)),.v (.vc (pO U n93 c92)),.v (vI (y.length:Int)),.v (vI v130),.v (vI v318),.v (.vc (pE U v318 (cH F).n 0)),.v (.vc (pO (eI F v322).1 (eI F v322).2.1 (eI F v322).2.2)),.v (.vc (pP (some t) 0)),.v (.vc (pO U n93 c92)),.v (vI (y.length:Int)),.v (.vc (pE U (y.length:Int) (cH F).n 0)),.v (.vc (pO (eI F v324).1 (eI F v324).2.1 (eI F v324).2.2)),.v (.vc (pE U (y.length:Int) (cH F).n 0)),.g (fun _ _=>.any),.v (.vc (pE U v318 (cH F).n 0))] bC ⟨d1 0 (iG (off:=0) (k:=0) rfl tyF139_0) zU1,d1 0 (gM 0 1 rfl rfl rfl rfl (.one tyO23)) zU1,d1 0 (aP (.inl rfl)) zU1,⟨rfl,.run (L:=[0,1]) ⟨fun G A=>iG (off:=0) (k:=0) rfl tyF139_0,fun G A=>iG (off:=0) (k:=0) rfl tyF139_0,zT⟩ (fun G=>zU1)⟩,⟨rfl,.run (L:=[0,1]) ⟨fun G A=>gM 0 1 rfl rfl rfl rfl (.one tyO23),fun G A=>gM 0 1 rfl rfl rfl rfl (.one tyO23),zT⟩ (fun G=>zU1)⟩,⟨rfl,.run (L:=[0,1]) ⟨fun G A=>aP (.inl rfl),fun G A=>aP (.inl rfl),zT⟩ (fun G=>zU1)⟩,⟨rfl,.run (L:=[0,1]) ⟨fun G A=>aP (.inl rfl),fun G A=>aP (.inl rfl),zT⟩ (fun G=>zU1)⟩,⟨rfl,.run (L:=[0,1]) ⟨fun G A=>y8 rfl h319,fun G A=>y8 rfl h319,zT⟩ (fun G=>zU2)⟩,d1 0 (iG (off:=0) (k:=0) rfl tyF139_0) zU1,d1 0 (gM 0 1 rfl rfl rfl rfl (.one tyO23)) zU1,d1 0 (aP (.inl rfl)) zU1,d1 0 (aP (.inl rfl)) zU1,d1 0 (y8 rfl h319) zU2,d1 0 (dX (C:=(cH F)) 2 rfl tyS23 rfl q94 (aB h323).1 (aB h323).2.1) zU2,d1 0 (gZ (C:=(cH F)) (k:=1) 2 rfl rfl h323 rfl (.one tyO24) rfl) zU1,d1 0 (iG (off:=0) (k:=0) rfl tyF139_0) zU1,d1 0 (gM 0 1 rfl rfl rfl rfl (.one tyO23)) zU1,d1 0 (aP (.inl rfl)) zU1,d1 0 (dX (C:=(cH F)) 2 rfl tyS23 rfl q94 (aB h325).1 (aB h325).2.1) zU2,d1 0 (gZ (C:=(cH F)) (k:=1) 2 rfl rfl h325 rfl (.one tyO24) rfl) zU1,d1 0 (dX (C:=(cH F)) 2 rfl tyS23 rfl q94 (aB h325).1 (aB h325).2.1) zU2,⟨rfl,.hvy [0] ⟨fun G A=>aDc (xI (C:=(cH F)) 2 rfl rfl h325 h329 tyO24.s),zT⟩ (fun G=>zU2)⟩,d1 1 (dX (C:=(cH F)) 2 rfl tyS23 rfl (bI h329 q94) (aB h332).1 (aB h332).2.1) zU2,zT⟩ (fun bs317 G=>?_);obtain⟨x334,h335,j⟩:=aR j;refine mI (xI (C:=(cH F)) 2 rfl rfl h332 h335 tyO24.s) zU2 ?_;refine aX (aH (aI (aG (iG (off:=0) (k:=2) rfl tyF139_2) zU1 ?_)));refine aG (gM 0 4 rfl rfl rfl rfl (.agg tyA42)) zU1 ?_;obtain⟨v337,h338,j⟩:=bE j vG;refine aG (bO rfl h338 rfl) zU1 ?_;refine aG (iG (off:=0) (k:=2) rfl tyF139_2) zU1 ?_;refine mI (t_s 0 rfl rfl rfl tyA42.s) zU2 ?_;refine aX ?_;exact dV Jj149 ⟨x334,x96,v337,U,c92,n93,F,N98,j,(bI h335 (bI h329 q94)),q99,q100,(aLE (aLE q101 h329 (q101 _ (aL h323))) h335 (q101 _ (aL h325))),rfl,rfl⟩ 4 [0,1,2,3] rfl rfl ⟨rfl,rfl,rfl,rfl,rfl,rfl,rfl,zT⟩
   refine fB ?_;exact dV Jj149 ⟨x90,x96,x102,U,c92,n93,F,N98,j,q94,q99,q100,q101,rfl,rfl⟩ 4 [0,1,2,3] rfl rfl ⟨rfl,rfl,rfl,rfl,rfl,rfl,rfl,zT⟩
  refine bF ?_;obtain⟨rfl,rfl,rfl,rfl⟩:=sm4 j;exact dV Jj124 ⟨y,x90,x96,x102,Y,c86,V,U,c92,n93,F,N98,hRl123,q88,q94,q99,q100,q101,rfl,rfl⟩ 4 [0,1,2,3] rfl rfl zU2
 obtain⟨⟨x50',x56'⟩,hL,hRl62⟩:=aR j;refine dU (fun k a w=>∃(x37:List Nat),∃(x43:List (List Rat)),∃(x49:Int),∃(b38:Option Nat),∃(c39:Nat),∃(n40:Nat),∃(g44:List rC),∃(N45:Nat),lR K a0 k x37 x43 x49=some (x50',x56')∧x37.length=n40∧x43.length=N45∧cN g44 x43∧(∀k∈x37,k<N45)∧hs _ ([⟨some t,1,139,6,1,([pO b38 n40 c39]++[pO none 0 0]++(eQ v2))⟩,hO cI none 0 3 0 ([]:List Int),hO (cH g44) b38 c39 24 n40 x37,⟨some b1,1,139,6,1,([pS (eF cQ) ([]:List (List Rat))]++[pS cI ([]:List Int)]++(eQ 0))⟩]++eJ cQ 42 g44 x43) [(1,vI a1),(4,.vc (pP (some b1) 0)),(5,.vc (pP (some t) 0)),(17,.vc (pS (eF cQ) a0)),(18,vI (a0.length:Int)),(19,vI x49)] a w) K (fun a w ⟨_,_,_,_,_,_,_,_,j,_,_,_,_,_⟩=>by cases j) (fun k a w ⟨x37,x43,x49,b38,c39,n40,g44,N45,j,q41,q46,q47,q48,hh⟩=>dW ?_ hh) (fun a w hh=>⟨([]:List Nat),([]:List (List Rat)),0,none,0,0,([]:List rC),0,hL,rfl,(rfl),aCJ,(by simp),aQ 4 [0,1,2,3] rfl rfl (by decide) (by exact⟨rfl,rfl,rfl,rfl,rfl,rfl,zT⟩) hh⟩);rw[lR.eq_2]at j;refine go ?_ ?_;refine aD j rfl (fun h339 j=>?_) (fun h339 j=>?_)
 ·refine go ?_ ?_;refine aJ ?_;obtain⟨v340,h341,J,h345,j⟩:=u9 j;refine go ?_ ?_;refine tN (HsM [(0,fun q=>([⟨some t,1,139,6,1,([pO b38 n40 c39]++[pO none 0 0]++(eQ v2))⟩,hO cI none 0 3 0 ([]:List Int),hO (cH g44) b38 c39 24 n40 x37,⟨some b1,1,139,6,1,([pS (eF cQ) ([]:List (List Rat))]++[pS cI ([]:List Int)]++(eQ 0))⟩]++eJ cQ 42 g44 x43)),(1,fun q=>([hO cQ ((q 3).1) ((q 3).2) 42 J.length J,⟨some t,1,139,6,1,([pO b38 n40 c39]++[pO none 0 0]++(eQ v2))⟩,hO cI none 0 3 0 ([]:List Int),hO (cH g44) b38 c39 24 n40 x37,⟨some b1,1,139,6,1,([pS (eF cQ) ([]:List (List Rat))]++[pS cI ([]:List Int)]++(eQ 0))⟩]++eJ cQ 42 g44 x43)),(3,fun q=>([hO cQ ((q 4).1) ((q 4).2) 42 J.length J,⟨some t,1,139,6,1,([pO b38 n40 c39]++[pO none 0 0]++(eQ v2))⟩,hO cI none 0 3 0 ([]:List Int),hO (cH (g44++[((q 4).1,J.length,(q 4).2)])) b38 c39 24 n40 x37,⟨some b1,1,139,6,1,([pS (eF cQ) ([]:List (List Rat))]++[pS cI ([]:List Int)]++(eQ 0))⟩]++eJ cQ 42 g44 x43))]) [3,4] [0,1,0,4,12,31,63,127] 5 3 [.v (.vc (pP (some t) 0)),.v (.vc (pO b38 n40 c39)),.v (.vc (pS cQ v340)),.g (fun b c=>.vc (pO b J.length c)),.g (fun b c=>.vc (pS (cH (g44++[(b,J.length,c)])) [x43.length]))] bC ⟨⟨rfl,.run (L:=[0,1,3]) ⟨fun q A=>iG (off:=0) (k:=0) rfl tyF139_0,fun q A=>iG (off:=0) (k:=0) rfl tyF139_0,fun q A=>iG (off:=0) (k:=0) rfl tyF139_0,zT⟩ (fun q=>zU1)⟩,⟨rfl,.run (L:=[0,1,3]) ⟨fun q A=>gM 0 1 rfl rfl rfl rfl (.one tyO23),fun q A=>gM 1 1 rfl rfl rfl rfl (.one tyO23),fun q A=>gM 1 1 rfl rfl rfl rfl (.one tyO23),zT⟩ (fun q=>zU1)⟩,d1 0 (aP (.inl rfl)) zU1,⟨rfl,.hvy [0] ⟨fun q A=>aIb rfl (sP h345) rfl,zT⟩ (fun q=>zU1)⟩,⟨rfl,.hvy [1] ⟨fun q A=>aKe ((q 3).1) ((q 3).2) (aPw (rs:=x43) rfl tyS23 q47.1 (show([hO cQ ((q 3).1) ((q 3).2) 42 J.length J,⟨some t,1,139,6,1,([pO b38 n40 c39]++[pO none 0 0]++(eQ v2))⟩,hO cI none 0 3 0 ([]:List Int),hO (cH (g44++[((q 3).1,J.length,(q 3).2)])) b38 c39 24 n40 x37,⟨some b1,1,139,6,1,([pS (eF cQ) ([]:List (List Rat))]++[pS cI ([]:List Int)]++(eQ 0))⟩]++eJ cQ 42 g44 x43)++A=([hO cQ ((q 3).1) ((q 3).2) 42 J.length J,⟨some t,1,139,6,1,([pO b38 n40 c39]++[pO none 0 0]++(eQ v2))⟩,hO cI none 0 3 0 ([]:List Int),hO (cH g44) b38 c39 24 n40 x37,⟨some b1,1,139,6,1,([pS (eF cQ) ([]:List (List Rat))]++[pS cI ([]:List Int)]++(eQ 0))⟩]++eJ cQ 42 g44 x43)++A from by rw[aGi (N:=x43.length) ((q 3).1,J.length,(q 3).2) q47.1 (aDK q46 q48)])),zT⟩ (fun q=>zU1)⟩,zT⟩ (fun bs343 q=>?_);refine aEw (g:=((q 4).1,J.length,(q 4).2)) 0 5 rfl rfl rfl q47 ?_;obtain⟨x353,h354,j⟩:=aR j;refine nZ 2 rfl tyS23 rfl rfl q41 rfl rfl h354 (fun b355 c356 H357 e358=>?_);cases e358;obtain⟨v360,h361,j⟩:=aR j;refine go ?_ ?_;exact aF (fun a w hh=>⟨x353,(x43++[J]),v360,b355,c356,(n40+[x43.length].length),(g44++[((q 4).1,J.length,(q 4).2)]),(N45+1),j,(dN h354 q41),(aB8 q46),(yK q47 rfl),(aLy q48 q46 h354),aQ 4 [0,1,2,3] rfl rfl (by decide) (by exact⟨rfl,rfl,rfl,rfl,rfl,rfl,zT⟩) hh⟩)
 refine bF ?_;obtain⟨rfl,rfl⟩:=sm2 j;exact dV Jj63 ⟨x37,x43,b38,c39,n40,g44,N45,hRl62,q41,q46,q47,q48,rfl,rfl⟩ 4 [0,1,2,3] rfl rfl ⟨rfl,rfl,rfl,zT⟩
def wO(K:Nat)(e:List (List Rat)):Option (Int×Int):=
 (mA K e).bind fun v1=>bif(!v1) then(some (0,1)) else((m6 e).bind fun v4=>(rZ K e v4).bind fun v6=>some ((v6.pivots.length:Int),0))
theorem aGe{K:Nat}{f:List (List Rat)}{r:Int×Int}(e:wO K f=some r):Ct Tryz.prog 103 [.vc (pS (eF cQ) f)] (.t2 (vI r.1) (vI r.2)):=by
 unfold wO at e;refine aA Tryz.func103 rfl (by kernel_rfl) Tryz.ntmps103 rfl (fun w0 M0=>?_);obtain⟨v1,j,e⟩:=bE e sA;refine go ?_ ?_;refine aD e rfl (fun h e=>?_) (fun h e=>?_)
 ·exact bU
 obtain⟨v4,k,e⟩:=bE e tV;obtain⟨v6,q,e⟩:=bE e aBb;refine go ?_ ?_;refine aG (aVc (off:=1) (p:=pS cI v6.pivots) rfl tyG139_1 rfl) zU1 ?_;exact bU
def uD(K:Nat)(e:List Rat):Option ((List Rat)×Int):=
 some (e,0)
def mK(K:Nat)(v5:Int)(e:mS):Nat→(List Rat)→Int→Option (List Rat)
 |0,_,_=>none
 |k+1,h,f=>bif(decide (f<(e.pivots.length:Int))) then((bR e.pivots f).bind fun j=>(bR e.rows f).bind fun q=>(bR q v5).bind fun s=>(bR h j).bind fun x=>(rW h j s).bind fun t=>(aV (f+1)).bind fun u=>mK K v5 e k t u) else(some h)
def uG(K:Nat)(v5:Int)(e:mS):Option ((List Rat)×Int):=
 (mkL v5 0).bind fun f=>(mK K v5 e K f 0).bind fun h=>uD K h
def mM(K:Nat)(v5:Int)(e:List (List Rat)):Nat→Int→Option (LR ((List Rat)×Int) Unit)
 |0,_=>none
 |k+1,f=>bif(decide (f<(e.length:Int))) then((bR e f).bind fun h=>(bR h v5).bind fun j=>(xR j).bind fun q=>bif(q != 0) then(some (.ret ([],6))) else((aV (f+1)).bind fun s=>mM K v5 e k s)) else(some (.go ()))
def uM(K:Nat)(v5:Int)(f:List (List Rat)):Option ((List Rat)×Int):=
 (rZ K f v5).bind fun e=>(slL e.rows (e.pivots.length:Int) (e.rows.length:Int)).bind fun h=>(mM K v5 h K 0).bind fun o=>match o with| .ret r=>some r| .go _=>uG K v5 e
def mJ(K:Nat)(t:List (List Rat))(a1:List Rat):Nat→(List (List Rat))→Int→Option (List (List Rat))
 |0,_,_=>none
 |k+1,f,e=>bif(decide (e<(t.length:Int))) then((bR t e).bind fun u=>(dR u).bind fun x=>(bR a1 e).bind fun h=>(tC x [h]).bind fun j=>(tC f [j]).bind fun q=>(aV (e+1)).bind fun s=>mJ K t a1 k q s) else(some f)
def vH(K:Nat)(e:List (List Rat))(a1:List Rat):Option ((List Rat)×Int):=
 (mA K e).bind fun v1=>bif(!v1) then(some ([],1)) else(bif((a1.length:Int) != (e.length:Int)) then(some ([],1)) else((m6 e).bind fun v5=>(mJ K e a1 K ([]:List (List Rat)) 0).bind fun f=>uM K v5 f))
theorem aFy{K:Nat}{a0:List (List Rat)}{a1:List Rat}{r:(List Rat)×Int}(f:vH K a0 a1=some r):Ct Tryz.prog 104 [.vc (pS (eF cQ) a0),.vc (pS cQ a1)] (.t2 (.vc (pS cQ r.1)) (vI r.2)):=by
 unfold vH at f;refine aA Tryz.func104 rfl (by kernel_rfl) Tryz.ntmps104 rfl (fun w0 M0=>?_);refine aE (aI (aG (aP (.inr rfl)) ⟨eG cQ,zT⟩ ?_));obtain⟨v1,h2,f⟩:=bE f sA;refine go ?_ ?_;refine dK f (fun h3 f=>?_) (fun h3 f=>?_)
 ·refine go ?_ ?_;refine kA rfl ?_;refine aE (aI (aG (aP (.inr rfl)) ⟨eG cQ,zT⟩ ?_));exact bU
 refine go ?_ ?_;refine aD f rfl (fun h4 f=>?_) (fun h4 f=>?_)
 ·refine aE (aI (aG (aP (.inr rfl)) ⟨eG cQ,zT⟩ ?_));exact bU
 refine fB (aH (aE (aI (gG ?_))));obtain⟨v5,h6,f⟩:=bE f tV;refine aG (bO rfl h6 rfl) zU1 ?_;refine zH ?_;refine aX (aH (aE (aI (rF (eF cQ) 24 rfl ?_))));refine go ?_ ?_;refine aJ (aY (fun H E=>∃(I:List (List Rat)),∃(b24:Option Nat),∃(c25:Nat),∃(J:Nat),uM K v5 I=some r∧I.length=J∧H=[hO (eF cQ) b24 c25 24 J I]∧E=[(6,vI v5),(7,.vc (pO b24 J c25))]) ?_ (fun Jj30=>?_))
 ·rintro _ _ ⟨I,b24,c25,J,f,q27,rfl,rfl⟩;unfold uM at f;refine aH (aE (aI (gG ?_)));refine gG ?_;refine xC 0 [7,47] rfl q27 zU2 rfl ?_;obtain⟨z,h32,f⟩:=bE f aBb;refine aG (bO rfl h32 rfl) zU2 ?_;refine aM rfl tyZ139q (fun F=>?_);obtain⟨x34,h35,f⟩:=aR f;refine go ?_ ?_;refine aJ (aY (fun H E=>uG K v5 z=some r∧H=[⟨some F,1,139,6,1,(mS.enc z)⟩]∧E=[(6,vI v5),(10,.vc (pP (some F) 0))]) ?_ (fun Jj39=>?_))
  ·rintro _ _ ⟨f,rfl,rfl⟩;unfold uG at f;obtain⟨j,h41,f⟩:=aR f;refine go ?_ ?_;refine qE (C:=cQ) rfl tyS24 rfl tyZ42q rfl h41 (fun O=>?_);refine go ?_ ?_;refine aJ (aY (fun H E=>∃(U:List Rat),uD K U=some r∧U.length=j.length∧H=[hO cQ O j.length 42 j.length U]∧E=[(13,.vc (pO O j.length j.length))]) ?_ (fun Jj66=>?_))
   ·rintro _ _ ⟨U,f,q63,rfl,rfl⟩;unfold uD at f;refine go ?_ ?_;refine gV (gW (tU 0 [4,13,90] rfl q63 ⟨rfl,rfl,rfl,zT⟩ rfl ?_));obtain rfl:=iO f;exact kJ (.inl rfl) Tryz.results104 (.tmp rfl (.tmp rfl .nil)) rfl rfl
   obtain⟨x59',hL,hRl65⟩:=aR f;refine dU (fun k a w=>∃(G:List Rat),∃(x58:Int),mK K v5 z k G x58=some x59'∧G.length=j.length∧hs _ [hO cQ O j.length 42 j.length G,⟨some F,1,139,6,1,(mS.enc z)⟩] [(6,vI v5),(10,.vc (pP (some F) 0)),(13,.vc (pO O j.length j.length)),(71,.vc (pS cI z.pivots)),(72,vI (z.pivots.length:Int)),(73,vI x58)] a w) K (fun a w ⟨_,_,f,_,_⟩=>by cases f) (fun k a w ⟨G,x58,f,q56,hh⟩=>dW ?_ hh) (fun a w hh=>⟨j,0,hL,rfl,jG [0,1] hh⟩);rw[mK.eq_2]at f;refine go ?_ ?_;refine aD f rfl (fun h67 f=>?_) (fun h67 f=>?_)
   ·refine go ?_ ?_;refine aJ ?_;obtain⟨v68,h69,v70,h71,v72,h73,v74,h75,f⟩:=bn4 f;obtain⟨x76,h77,v79,h80,f⟩:=u9 f;refine go ?_ ?_;exact aF (fun a w hh=>⟨x76,v79,f,(bI h77 q56),jG [0,1] hh⟩)
   refine bF ?_;obtain rfl:=iO f;exact rU Jj66 ⟨G,hRl65,q56,rfl,rfl⟩ [0]
  obtain⟨ol38,hL,hRl38⟩:=aR f;refine dU (fun k a w=>∃(x37:Int),mM K v5 x34 k x37=some ol38∧hs _ [⟨some F,1,139,6,1,(mS.enc z)⟩] [(6,vI v5),(10,.vc (pP (some F) 0)),(55,.vc (pS (eF cQ) x34)),(56,vI (x34.length:Int)),(57,vI x37)] a w) K (fun a w ⟨_,f,_⟩=>by cases f) (fun k a w ⟨x37,f,hh⟩=>dW ?_ hh) (fun a w hh=>⟨0,hL,jG [0] hh⟩);rw[mM.eq_2]at f;refine go ?_ ?_;refine aD f rfl (fun h81 f=>?_) (fun h81 f=>?_)
  ·refine go ?_ ?_;refine aJ ?_;obtain⟨v82,h83,v84,h85,f⟩:=u9 f;obtain⟨v86,h87,f⟩:=bE f eA;refine go ?_ ?_;refine aD f rfl (fun h88 f=>?_) (fun h88 f=>?_)
   ·refine aE (aI (aG (aP (.inr rfl)) ⟨eG cQ,zT⟩ ?_));exact bU
   obtain⟨v89,h90,f⟩:=aR f;refine go ?_ ?_;exact aF (fun a w hh=>⟨v89,f,jG [0] hh⟩)
  refine bF ?_;obtain rfl:=iO f;exact rU Jj39 ⟨hRl38,rfl,rfl⟩ [0]
 obtain⟨x23',hL,hRl29⟩:=aR f;refine dU (fun k a w=>∃(t:List (List Rat)),∃(V:Int),∃(u:Option Nat),∃(x:Nat),∃(s:Nat),mJ K a0 a1 k t V=some x23'∧t.length=s∧hs _ [hO (eF cQ) u x 24 s t] [(1,.vc (pS cQ a1)),(6,vI v5),(7,.vc (pO u s x)),(28,.vc (pS (eF cQ) a0)),(29,vI (a0.length:Int)),(30,vI V)] a w) K (fun a w ⟨_,_,_,_,_,f,_,_⟩=>by cases f) (fun k a w ⟨t,V,u,x,s,f,q20,hh⟩=>dW ?_ hh) (fun a w hh=>⟨([]:List (List Rat)),0,none,0,0,hL,rfl,jG [0] hh⟩);rw[mJ.eq_2]at f;refine go ?_ ?_;refine aD f rfl (fun h91 f=>?_) (fun h91 f=>?_)
 ·refine go ?_ ?_;refine aJ ?_;obtain⟨v92,h93,v96,h97,q,X,y,Y,f⟩:=bn4 f;refine go ?_ ?_;refine tN (HsM [(0,fun h=>[hO (eF cQ) u x 24 s t]),(1,fun h=>[hO cQ ((h 2).1) ((h 2).2) 42 v96.length v96,hO (eF cQ) u x 24 s t]),(3,fun h=>[hO (eF cQ) u x 24 s t])]) [2,8] [0,0,2,0,0,24,56,120,254,510,1023,2047] 10 2 [.v (.vc (pO u s x)),.v (.vc (pS cQ v92)),.g (fun b c=>.vc (pO b v96.length c)),.v (.vc (pS cQ a1)),.v (vI V),.v (.vc (pM (cQ.e q))),.v (.va (eQ q)),.v (.vc (pS cQ [q])),.g (fun _ _=>.vc (pS cQ y)),.v (.vc (pS (eF cQ) [y]))] bC ⟨⟨rfl,.run (L:=[0,1,3]) ⟨fun h A=>aP (.inl rfl),fun h A=>aP (.inl rfl),fun h A=>aP (.inl rfl),zT⟩ (fun h=>zU1)⟩,d1 0 (aP (.inl rfl)) zU1,⟨rfl,.hvy [0] ⟨fun h A=>aIb rfl (sP h97) rfl,zT⟩ (fun h=>zU1)⟩,⟨rfl,.run (L:=[0,1]) ⟨fun h A=>aP (.inl rfl),fun h A=>aP (.inl rfl),zT⟩ (fun h=>zU1)⟩,⟨rfl,.run (L:=[0,1]) ⟨fun h A=>aP (.inl rfl),fun h A=>aP (.inl rfl),zT⟩ (fun h=>zU1)⟩,⟨rfl,.run (L:=[0,1]) ⟨fun h A=>aGo rfl tyS24 X,fun h A=>aGo rfl tyS24 X,zT⟩ (fun h=>zU2)⟩,⟨rfl,.run (L:=[0,1]) ⟨fun h A=>aDy 4 rfl rfl (.agg tyA42),fun h A=>aDy 4 rfl rfl (.agg tyA42),zT⟩ (fun h=>zU1)⟩,⟨rfl,.run (L:=[0,1]) ⟨fun h A=>iH (C:=cQ) (xs:=[.tmp 41]) (ps:=[.va (eQ q)]) (zs:=[q]) rfl tyS24 rfl ⟨⟨zT,rfl⟩,zT⟩ rfl,fun h A=>iH (C:=cQ) (xs:=[.tmp 41]) (ps:=[.va (eQ q)]) (zs:=[q]) rfl tyS24 rfl ⟨⟨zT,rfl⟩,zT⟩ rfl,zT⟩ (fun h=>zU1)⟩,⟨rfl,.hvy [1] ⟨fun h A=>aDc (aUx 0 (aEY 0 rfl tyS24 rfl rfl rfl Y) (fun _ _=>rfl) (dN Y rfl) (fun _ _=>rfl)),zT⟩ (fun h=>zU2)⟩,d1 3 (iH (C:=(eF cQ)) (xs:=[.tmp 43]) (ps:=[.vc (pS cQ y)]) (zs:=[y]) rfl tyS23 rfl ⟨⟨zT,rfl⟩,zT⟩ rfl) zU1,zT⟩ (fun bs95 h=>?_);obtain⟨x106,h107,f⟩:=aR f;refine nZ 0 rfl tyS23 rfl rfl q20 rfl rfl h107 (fun b108 c109 H110 e111=>?_);cases e111;obtain⟨v113,h114,f⟩:=aR f;refine go ?_ ?_;exact aF (fun a w hh=>⟨x106,v113,b108,c109,(s+[y].length),f,(dN h107 q20),jG [0] hh⟩)
 refine bF ?_;obtain rfl:=iO f;exact rU Jj30 ⟨t,u,x,s,hRl29,q20,rfl,rfl⟩ [0]
def mZ(K:Nat)(e:List Rat):Option ((List Rat)×Bool):=
 some (e,true)
def fG(K:Nat)(h:List Int)(q:(List Rat)×Int):Nat→(List Rat)→Int→Option (List Rat)
 |0,_,_=>none
 |k+1,j,e=>bif(decide (e<(h.length:Int))) then((bR h e).bind fun f=>(bR q.1 e).bind fun s=>(bR j f).bind fun x=>(rW j f s).bind fun t=>(aV (e+1)).bind fun u=>fG K h q k t u) else(some j)
def nX(K:Nat)(a1:List Rat)(e:List Int)(q:List Rat)(f:List (List Rat)):Option ((List Rat)×Bool):=
 (mkL (a1.length:Int) 0).bind fun h=>bif((e.length:Int)==0) then(some (h,true)) else((wO K f).bind fun j=>bif(j.2 != 0) then(some ([],false)) else(bif(j.1 != (e.length:Int)) then(some ([],false)) else((vH K f q).bind fun k=>bif(k.2 != 0) then(some ([],false)) else((fG K e k K h 0).bind fun s=>mZ K s))))
def mX(K:Nat)(a1:List Rat)(u:List Rat)(x:List (List Rat))(y:Int)(f:Int)(e:(List Rat)→(List (List Rat))→Int→Option ((List Rat)×(List (List Rat))))(h:List Rat):Option ((List Rat)×(List (List Rat))):=
 (tC x [h]).bind fun j=>(bR a1 f).bind fun k=>(aC0 k).bind fun q=>(tC u [q]).bind fun s=>(aV (y+1)).bind fun t=>e s j t
def fH(K:Nat)(y:List (List Rat))(j:List Int)(f:Int):Nat→(List Rat)→Int→Option (List Rat)
 |0,_,_=>none
 |k+1,h,e=>bif(decide (e<(j.length:Int))) then((bR j e).bind fun q=>(bR y f).bind fun s=>(bR s q).bind fun t=>(tC h [t]).bind fun u=>(aV (e+1)).bind fun x=>fH K y j f k u x) else(some h)
def dY(K:Nat)(t:List (List Rat))(a1:List Rat)(e:List Int):Nat→(List Rat)→(List (List Rat))→Int→Option ((List Rat)×(List (List Rat)))
 |0,_,_,_=>none
 |k+1,j,q,h=>bif(decide (h<(e.length:Int))) then((bR e h).bind fun f=>(fH K t e f K ([]:List Rat) 0).bind fun s=>mX K a1 j q h f (dY K t a1 e k) s) else(some (j,q))
def nN(K:Nat)(j:List (List Rat))(a1:List Rat)(e:List Int):Option ((List Rat)×Bool):=
 (dY K j a1 e K ([]:List Rat) ([]:List (List Rat)) 0).bind fun(f,h)=>nX K a1 e f h
def d8(K:Nat)(a2:List Bool):Nat→(List Int)→Int→Option (List Int)
 |0,_,_=>none
 |k+1,f,e=>bif(decide (e<(a2.length:Int))) then((bR a2 e).bind fun h=>bif h then((tC f [e]).bind fun j=>(aV (e+1)).bind fun q=>d8 K a2 k j q) else((aV (e+1)).bind fun s=>d8 K a2 k f s)) else(some f)
def nD(K:Nat)(f:List (List Rat))(a1:List Rat)(a2:List Bool):Option ((List Rat)×Bool):=
 (d8 K a2 K ([]:List Int) 0).bind fun e=>nN K f a1 e
theorem aBn{K:Nat}{a0:List (List Rat)}{a1:List Rat}{a2:List Bool}{r:(List Rat)×Bool}(e:nD K a0 a1 a2=some r):Ct Tryz.prog 65 [.vc (pS (eF cQ) a0),.vc (pS cQ a1),.vc (pS cB a2)] (.t2 (.vc (pS cQ r.1)) (.vc (pB r.2))):=by
 unfold nD at e;refine aA Tryz.func65 rfl (by kernel_rfl) Tryz.ntmps65 rfl (fun w0 M0=>?_);refine aE (aI (aG (aP (.inr rfl)) ⟨eG cQ,zT⟩ ?_));refine aG (aP (.inr rfl)) ⟨k_B _,zT⟩ ?_;refine aX (aH (aE (aI (rF cI 3 rfl ?_))));refine go ?_ ?_;refine aJ (aY (fun H E=>∃(f:List Int),∃(j:Option Nat),∃(q:Nat),∃(h:Nat),nN K a0 a1 f=some r∧f.length=h∧H=[hO cI j q 3 h f]∧E=[(0,.vc (pS (eF cQ) a0)),(1,.vc (pS cQ a1)),(8,.vc (pO j h q))]) ?_ (fun Jj24=>?_))
 ·rintro _ _ ⟨f,j,q,h,e,q21,rfl,rfl⟩;unfold nN at e;refine aH (aE (aI (rF (eF cQ) 24 rfl ?_)));refine aX (aH (aE (aI (rF cQ 42 rfl ?_))));refine go ?_ ?_;refine aJ (aY (fun H E=>∃(x55:List Rat),∃(x61:List (List Rat)),∃(b56:Option Nat),∃(c57:Nat),∃(n58:Nat),∃(b62:Option Nat),∃(c63:Nat),∃(n64:Nat),nX K a1 f x55 x61=some r∧x55.length=n58∧x61.length=n64∧H=[hO cQ b56 c57 42 n58 x55,hO (eF cQ) b62 c63 24 n64 x61,hO cI j q 3 h f]∧E=[(1,.vc (pS cQ a1)),(8,.vc (pO j h q)),(11,.vc (pO b62 n64 c63)),(12,.vc (pO b56 n58 c57))]) ?_ (fun Jj68=>?_))
  ·rintro _ _ ⟨x55,x61,b56,c57,n58,b62,c63,n64,e,q59,q65,rfl,rfl⟩;unfold nX at e;obtain⟨s,h70,e⟩:=aR e;refine go ?_ ?_;refine qE (C:=cQ) rfl tyS24 rfl tyZ42q rfl h70 (fun b71=>?_);refine go ?_ ?_;refine aD e rfl (fun h74 e=>?_) (fun h74 e=>?_)
   ·refine go ?_ ?_;refine gV (gW (tU 0 [6,18,76,80] rfl rfl ⟨rfl,rfl,rfl,rfl,zT⟩ rfl ?_));obtain rfl:=iO e;exact kJ (.inl rfl) Tryz.results65 (.tmp rfl (.tmp rfl .nil)) rfl rfl
   refine fB (aH (aE (aE (aI (gG ?_)))));refine xC 2 [11,82] rfl q65 zU2 rfl ?_;obtain⟨v75,h76,e⟩:=bE e aGe;refine go ?_ ?_;refine dK e (fun h77 e=>?_) (fun h77 e=>?_)
   ·refine go ?_ ?_;refine kA rfl ?_;refine aE (aI (aG (aP (.inr rfl)) ⟨eG cQ,zT⟩ ?_));exact bU
   refine go ?_ ?_;refine aD e rfl (fun h78 e=>?_) (fun h78 e=>?_)
   ·refine aE (aI (aG (aP (.inr rfl)) ⟨eG cQ,zT⟩ ?_));exact bU
   refine fB (aH (aE (aI (gG ?_))));refine gG ?_;refine xC 1 [12,96] rfl q59 zU2 rfl ?_;obtain⟨v79,h80,e⟩:=bE e aFy;refine go ?_ ?_;refine aD e rfl (fun h81 e=>?_) (fun h81 e=>?_)
   ·refine aE (aI (aG (aP (.inr rfl)) ⟨eG cQ,zT⟩ ?_));exact bU
   refine go ?_ ?_;refine aJ (aY (fun H E=>∃(x96:List Rat),mZ K x96=some r∧x96.length=s.length∧H=[hO cQ b71 s.length 42 s.length x96]∧E=[(18,.vc (pO b71 s.length s.length))]) ?_ (fun Jj103=>?_))
   ·rintro _ _ ⟨x96,e,q100,rfl,rfl⟩;unfold mZ at e;refine go ?_ ?_;refine gV (gW (tU 0 [6,18,117] rfl q100 ⟨rfl,rfl,rfl,zT⟩ rfl ?_));obtain rfl:=iO e;exact kJ (.inl rfl) Tryz.results65 (.tmp rfl (.tmp rfl .nil)) rfl rfl
   obtain⟨x96',hL,hRl102⟩:=aR e;refine dU (fun k a w=>∃(x89:List Rat),∃(x95:Int),fG K f v79 k x89 x95=some x96'∧x89.length=s.length∧hs _ [hO cQ b71 s.length 42 s.length x89,hO cI j q 3 h f] [(18,.vc (pO b71 s.length s.length)),(21,.vc (pS cQ v79.1)),(102,.vc (pO j h q)),(103,vI (f.length:Int)),(104,vI x95)] a w) K (fun a w ⟨_,_,e,_,_⟩=>by cases e) (fun k a w ⟨x89,x95,e,q93,hh⟩=>dW ?_ hh) (fun a w hh=>⟨s,0,hL,rfl,jG [0,1] hh⟩);rw[fG.eq_2]at e;refine go ?_ ?_;refine aD e rfl (fun h104 e=>?_) (fun h104 e=>?_)
   ·refine go ?_ ?_;refine aJ ?_;obtain⟨v105,h106,v107,h108,v109,h110,x111,h112,e⟩:=bn4 e;obtain⟨v114,h115,e⟩:=aR e;refine go ?_ ?_;exact aF (fun a w hh=>⟨x111,v114,e,(bI h112 q93),jG [0,1] hh⟩)
   refine bF ?_;obtain rfl:=iO e;exact rU Jj103 ⟨x89,hRl102,q93,rfl,rfl⟩ [0]
  obtain⟨⟨x55',x61'⟩,hL,hRl67⟩:=aR e;refine dU (fun k a w=>∃(z:List Rat),∃(F:List (List Rat)),∃(x54:Int),∃(G:Option Nat),∃(I:Nat),∃(u:Nat),∃(J:Option Nat),∃(L:Nat),∃(x:Nat),dY K a0 a1 f k z F x54=some (x55',x61')∧z.length=u∧F.length=x∧hs _ [hO cQ G I 42 u z,hO (eF cQ) J L 24 x F,hO cI j q 3 h f] [(0,.vc (pS (eF cQ) a0)),(1,.vc (pS cQ a1)),(8,.vc (pO j h q)),(11,.vc (pO J x L)),(12,.vc (pO G u I)),(38,.vc (pO j h q)),(39,vI (f.length:Int)),(40,vI x54)] a w) K (fun a w ⟨_,_,_,_,_,_,_,_,_,e,_,_,_⟩=>by cases e) (fun k a w ⟨z,F,x54,G,I,u,J,L,x,e,q46,q52,hh⟩=>dW ?_ hh) (fun a w hh=>⟨([]:List Rat),([]:List (List Rat)),0,none,0,0,none,0,0,hL,rfl,rfl,jG [0,1,2] hh⟩);rw[dY.eq_2]at e;refine go ?_ ?_;refine aD e rfl (fun h116 e=>?_) (fun h116 e=>?_)
  ·refine go ?_ ?_;refine aJ (aE (aI ?_));obtain⟨V,h118,e⟩:=aR e;refine aG (dX (C:=cI) 2 rfl tyS22 rfl q21 (aB h118).1 (aB h118).2.1) zU2 ?_;refine aG (gZ (k:=1) 2 rfl rfl h118 rfl (.one tyO3) rfl) zU1 ?_;refine zH ?_;refine aX (aH (aE (aI (rF cQ 42 rfl ?_))));refine go ?_ ?_;refine aJ (aY (fun H E=>∃(t:List Rat),∃(b136:Option Nat),∃(c137:Nat),∃(X:Nat),mX K a1 z F x54 V (dY K a0 a1 f k) t=some (x55',x61')∧t.length=X∧H=[hO cQ b136 c137 42 X t,hO cQ G I 42 u z,hO (eF cQ) J L 24 x F,hO cI j q 3 h f]∧E=[(0,.vc (pS (eF cQ) a0)),(1,.vc (pS cQ a1)),(8,.vc (pO j h q)),(11,.vc (pO J x L)),(12,.vc (pO G u I)),(14,vI V),(15,.vc (pO b136 X c137)),(38,.vc (pO j h q)),(39,vI (f.length:Int)),(40,vI x54)]) ?_ (fun Jj142=>?_))
   ·rintro _ _ ⟨t,b136,c137,X,e,q139,rfl,rfl⟩;unfold mX at e;refine aH (aE (aI (gG ?_)));refine gG ?_;refine xC 0 [15,62] rfl q139 zU2 rfl ?_;refine aG (iH (C:=(eF cQ)) (xs:=[.tmp 62]) (ps:=[.vc (pS cQ t)]) (zs:=[t]) rfl tyS23 rfl ⟨⟨zT,rfl⟩,zT⟩ rfl) zU1 ?_;obtain⟨x143,h144,e⟩:=aR e;refine nZ 1 rfl tyS23 rfl rfl q52 rfl rfl h144 (fun b145 c146 H147 e148=>?_);cases e148;obtain⟨v150,h151,e⟩:=aR e;obtain⟨v152,h153,e⟩:=bE e vG;refine go ?_ ?_;refine aG (iH (C:=cQ) (xs:=[.tmp 70]) (ps:=[.va (eQ v152)]) (zs:=[v152]) rfl tyS24 rfl ⟨⟨zT,rfl⟩,zT⟩ rfl) zU1 ?_;obtain⟨x154,h155,e⟩:=aR e;refine nZ 0 rfl tyS24 rfl rfl q46 rfl rfl h155 (fun b156 c157 H158 e159=>?_);cases e159;obtain⟨v161,h162,e⟩:=aR e;refine go ?_ ?_;exact aF (fun a w hh=>⟨x154,x143,v161,b156,c157,(u+[v152].length),b145,c146,(x+[t].length),e,(dN h155 q46),(dN h144 q52),jG [0,1,2] hh⟩)
   obtain⟨x135',hL,hRl141⟩:=aR e;refine dU (fun k a w=>∃(O:List Rat),∃(x134:Int),∃(Y:Option Nat),∃(c130:Nat),∃(y:Nat),fH K a0 f V k O x134=some x135'∧O.length=y∧hs _ [hO cQ Y c130 42 y O,hO cQ G I 42 u z,hO (eF cQ) J L 24 x F,hO cI j q 3 h f] [(0,.vc (pS (eF cQ) a0)),(1,.vc (pS cQ a1)),(8,.vc (pO j h q)),(11,.vc (pO J x L)),(12,.vc (pO G u I)),(14,vI V),(15,.vc (pO Y y c130)),(38,.vc (pO j h q)),(39,vI (f.length:Int)),(40,vI x54),(44,.vc (pO j h q)),(45,vI (f.length:Int)),(46,vI x134)] a w) K (fun a w ⟨_,_,_,_,_,e,_,_⟩=>by cases e) (fun k a w ⟨O,x134,Y,c130,y,e,q132,hh⟩=>dW ?_ hh) (fun a w hh=>⟨([]:List Rat),0,none,0,0,hL,rfl,jG [0,1,2,3] hh⟩);rw[fH.eq_2]at e;refine go ?_ ?_;refine aD e rfl (fun h163 e=>?_) (fun h163 e=>?_)
   ·refine go ?_ ?_;refine aJ ?_;obtain⟨v164,h165,v166,h167,v168,h169,e⟩:=bn3 e;refine go ?_ ?_;refine aG (iH (C:=cQ) (xs:=[.tmp 57]) (ps:=[.va (eQ v168)]) (zs:=[v168]) rfl tyS24 rfl ⟨⟨zT,rfl⟩,zT⟩ rfl) zU1 ?_;obtain⟨x170,h171,e⟩:=aR e;refine nZ 0 rfl tyS24 rfl rfl q132 rfl rfl h171 (fun b172 c173 H174 e175=>?_);cases e175;obtain⟨v177,h178,e⟩:=aR e;refine go ?_ ?_;exact aF (fun a w hh=>⟨x170,v177,b172,c173,(y+[v168].length),e,(dN h171 q132),jG [0,1,2,3] hh⟩)
   refine bF ?_;obtain rfl:=iO e;exact rU Jj142 ⟨O,Y,c130,y,hRl141,q132,rfl,rfl⟩ [0,1,2,3]
  refine bF ?_;obtain⟨rfl,rfl⟩:=sm2 e;exact rU Jj68 ⟨z,F,G,I,u,J,L,x,hRl67,q46,q52,rfl,rfl⟩ [0,1,2]
 obtain⟨x17',hL,hRl23⟩:=aR e;refine dU (fun k a w=>∃(x10:List Int),∃(x16:Int),∃(b11:Option Nat),∃(c12:Nat),∃(U:Nat),d8 K a2 k x10 x16=some x17'∧x10.length=U∧hs _ [hO cI b11 c12 3 U x10] [(0,.vc (pS (eF cQ) a0)),(1,.vc (pS cQ a1)),(8,.vc (pO b11 U c12)),(25,.vc (pS cB a2)),(26,vI (a2.length:Int)),(27,vI x16)] a w) K (fun a w ⟨_,_,_,_,_,e,_,_⟩=>by cases e) (fun k a w ⟨x10,x16,b11,c12,U,e,q14,hh⟩=>dW ?_ hh) (fun a w hh=>⟨([]:List Int),0,none,0,0,hL,rfl,jG [0] hh⟩);rw[d8.eq_2]at e;refine go ?_ ?_;refine aD e rfl (fun h179 e=>?_) (fun h179 e=>?_)
 ·refine go ?_ ?_;refine aJ ?_;obtain⟨v180,h181,e⟩:=aR e;refine go ?_ ?_;refine aD e rfl (fun h182 e=>?_) (fun h182 e=>?_)
  ·refine go ?_ ?_;refine aG (iH (C:=cI) (xs:=[.tmp 34]) (ps:=[vI x16]) (zs:=[x16]) rfl tyS22 rfl ⟨⟨zT,rfl⟩,zT⟩ rfl) zU1 ?_;obtain⟨x183,h184,e⟩:=aR e;refine nZ 0 rfl tyS22 rfl rfl q14 rfl rfl h184 (fun b185 c186 H187 e188=>?_);cases e188;obtain⟨v190,h191,e⟩:=aR e;refine go ?_ ?_;exact aF (fun a w hh=>⟨x183,v190,b185,c186,(U+[x16].length),e,(dN h184 q14),jG [0] hh⟩)
  obtain⟨v192,h193,e⟩:=aR e;refine go ?_ ?_;exact aF (fun a w hh=>⟨x10,v192,b11,c12,U,e,q14,jG [0] hh⟩)
 refine bF ?_;obtain rfl:=iO e;exact rU Jj24 ⟨x10,b11,c12,U,hRl23,q14,rfl,rfl⟩ [0]
def s9(K:Nat)(e:List Rat)(a1:List Rat):Option Bool:=
 some ((e.length:Int)==(a1.length:Int))
def kW(K:Nat)(f:List Rat)(a1:List Rat):Nat→Int→Option (LR Bool Unit)
 |0,_=>none
 |k+1,e=>bif(decide (e<(f.length:Int))) then((bR f e).bind fun q=>(bR a1 e).bind fun v10=>(aFq q v10).bind fun h=>bif(!h) then(some (.ret false)) else((aV (e+1)).bind fun j=>kW K f a1 k j)) else(some (.go ()))
def sN(K:Nat)(e:List Rat)(a1:List Rat):Option Bool:=
 (kW K e a1 K 0).bind fun o=>match o with| .ret r=>some r| .go _=>s9 K e a1
theorem aDu{K:Nat}{f:List Rat}{a1:List Rat}{r:Bool}(e:sN K f a1=some r):Ct Tryz.prog 66 [.vc (pS cQ f),.vc (pS cQ a1)] (.vc (pB r)):=by
 unfold sN at e;refine aA Tryz.func66 rfl (by kernel_rfl) Tryz.ntmps66 rfl (fun w0 M0=>?_);refine go ?_ ?_;refine aJ (aY (fun H E=>s9 K f a1=some r∧H=[]∧E=[(0,.vc (pS cQ f)),(1,.vc (pS cQ a1))]) ?_ (fun j=>?_))
 ·rintro _ _ ⟨e,rfl,rfl⟩;unfold s9 at e;exact bU
 obtain⟨q,x,h⟩:=aR e;refine dU (fun k a w=>∃(s:Int),kW K f a1 k s=some q∧hs _ [] [(0,.vc (pS cQ f)),(1,.vc (pS cQ a1)),(7,vI (f.length:Int)),(8,vI s)] a w) K (fun a w ⟨_,e,_⟩=>by cases e) (fun k a w ⟨s,e,hh⟩=>dW ?_ hh) (fun a w hh=>⟨0,x,jG [] hh⟩);rw[kW.eq_2]at e;refine go ?_ ?_;refine aD e rfl (fun y e=>?_) (fun y e=>?_)
 ·refine go ?_ ?_;refine aJ ?_;obtain⟨L,O,v10,z,e⟩:=u9 e;obtain⟨F,G,e⟩:=bE e aFu;refine go ?_ ?_;refine dr [0,0,3,7,0,0,48,112,255,511] 10 0 ?_ (fun I U=>?_);refine aX (aH (aD e rfl (fun t e=>?_) (fun t e=>?_)))
  ·exact bU
  obtain⟨u,J,e⟩:=aR e;refine go ?_ ?_;exact aF (fun a w hh=>⟨u,e,jG [] hh⟩)
 refine bF ?_;obtain rfl:=iO e;exact rU j ⟨h,rfl,rfl⟩ []
def pQ(e:Int):Option Int:=
 some e
theorem aAE{f:Int}{r:Int}(h:pQ f=some r):CtO Tryz.prog 64 [] [vI f] (fun Ho q=>Ho=[]∧q=.vc (pF 102 [pM (cI.e r)])):=by
 unfold pQ at h;refine aA Tryz.func64 rfl (by kernel_rfl) Tryz.ntmps64 rfl (fun w0 M0=>?_);refine aE (aI (dP rfl rfl zT (fun j=>?_)));refine aG (aP (p:=.any) (.inr rfl)) ⟨fun _=>zT,zT⟩ ?_;refine aX (aH (aE (aI (aGw 0 [(1,0)] rfl zU1 rfl ?_))));refine aG (aNG (xs:=[.tmp 1]) (cs:=[pM (cI.e f)]) rfl rfl) zU1 ?_;refine go ?_ ?_;refine gV (gW ?_);obtain rfl:=iO h;exact aDx (.inl rfl) Tryz.results64 (.tmp rfl .nil) rfl [] rfl (by decide) ⟨rfl,rfl⟩
def lT(K:Nat)(e:List (List Rat)):Option (Nat×(List (List Rat))):=
 some (0,e)
def lX(K:Nat)(yF:(List Bool)→(List (List Rat))→Option (Nat×(List (List Rat))))(h:List (List Rat))(j:Int)(e:(List (List Rat))→Int→Option (LR (Nat×(List (List Rat))) (List (List Rat))))(k:List Bool):Option (LR (Nat×(List (List Rat))) (List (List Rat))):=
 (yF k h).bind fun f=>bif Nat.beq f.1 0 then((aV (j+1)).bind fun q=>e f.2 q) else(some (.ret (f.1,f.2)))
def eE(K:Nat)(h:Int)(j:List Bool):Nat→(List Bool)→Int→Option (List Bool)
 |0,_,_=>none
 |k+1,f,e=>bif(decide (e<(j.length:Int))) then((aQM h e).bind fun q=>(bR f e).bind fun u=>(rW f e ((ian q 1)==1)).bind fun s=>(aV (e+1)).bind fun t=>eE K h j k s t) else(some f)
def dA(K:Nat)(s:Int)(yF:(List Bool)→(List (List Rat))→Option (Nat×(List (List Rat))))(f:Int):Nat→(List (List Rat))→Int→Option (LR (Nat×(List (List Rat))) (List (List Rat)))
 |0,_,_=>none
 |k+1,h,e=>bif(decide (e<f)) then((mkL s false).bind fun j=>(eE K e j K j 0).bind fun q=>lX K yF h e (dA K s yF f k) q) else(some (.go h))
def oG(K:Nat)(yF:(List Bool)→(List (List Rat))→Option (Nat×(List (List Rat))))(h:Int)(a1:List Rat)(a2:List (List Rat))(a3:List (List Rat)):Option (Nat×(List (List Rat))):=
 (aRd 1 h).bind fun e=>(dA K h yF e K a3 0).bind fun o=>match o with| .ret r=>some r| .go f=>lT K f
theorem z8{K:Nat}{yF:(List Bool)→(List (List Rat))→Option (Nat×(List (List Rat)))}{l:Nat}{x:LX}{jump:Nat→Code}{Mb:jW}{a0:Int}{a1:List Rat}{a2:List (List Rat)}{a3:List (List Rat)}{p0:Nat}{p1:Nat}{p2:Nat}{b2:Option Nat}{c3 n4:Nat}(hY:∀(k0:List Bool) (x7:List (List Rat)) (r:Nat×(List (List Rat))) (b8:Option Nat) (c9:Nat) (n10:Nat),x7.length=n10→yF k0 x7=some r→CtY Tryz.prog l x jump Mb [⟨some p0,1,23,1,1,[pO b8 n10 c9]⟩,⟨some p1,1,24,1,1,[pS cQ a1]⟩,⟨some p2,1,23,1,1,[pS (eF cQ) a2]⟩,hO (eF cQ) b8 c9 24 n10 x7] [.vc (pS cB k0)] (fun j Ho=>∃(F:Option Nat),∃(G:Nat),∃(q:Nat),j=r.1∧r.2.length=q∧Ho=[⟨some p0,1,23,1,1,[pO F q G]⟩,⟨some p1,1,24,1,1,[pS cQ a1]⟩,⟨some p2,1,23,1,1,[pS (eF cQ) a2]⟩,hO (eF cQ) F G 24 q r.2])){r:Nat×(List (List Rat))}(f:oG K yF a0 a1 a2 a3=some r)(q5:a3.length=n4):CtI Tryz.prog 102 l x jump Mb [⟨some p0,1,23,1,1,[pO b2 n4 c3]⟩,⟨some p1,1,24,1,1,[pS cQ a1]⟩,⟨some p2,1,23,1,1,[pS (eF cQ) a2]⟩,hO (eF cQ) b2 c3 24 n4 a3] [.vc (pY l),.vc (pM (cI.e a0))] (fun j Ho=>∃(F:Option Nat),∃(G:Nat),∃(q:Nat),j=r.1∧r.2.length=q∧Ho=[⟨some p0,1,23,1,1,[pO F q G]⟩,⟨some p1,1,24,1,1,[pS cQ a1]⟩,⟨some p2,1,23,1,1,[pS (eF cQ) a2]⟩,hO (eF cQ) F G 24 q r.2]):=by
 unfold oG at f;refine aHH Tryz.func102 rfl (by kernel_rfl) Tryz.ntmps102 rfl (fun w0 M0 h0 hMb=>?_);obtain⟨I,h14,f⟩:=aR f;refine go ?_ ?_;refine aG (aVw rfl h14) ⟨rR _ _,rfl,zT⟩ ?_;refine go ?_ ?_;refine aJ (aY (fun H E=>∃(U:List (List Rat)),∃(V:Option Nat),∃(X:Nat),∃(J:Nat),lT K U=some r∧U.length=J∧H=[⟨some p0,1,23,1,1,[pO V J X]⟩,⟨some p1,1,24,1,1,[pS cQ a1]⟩,⟨some p2,1,23,1,1,[pS (eF cQ) a2]⟩,hO (eF cQ) V X 24 J U]∧E=[]) ?_ (fun Jj36=>?_))
 ·rintro _ _ ⟨U,V,X,J,f,q33,rfl,rfl⟩;unfold lT at f;obtain rfl:=iO f;exact aFO 0 (.inr rfl) Tryz.results102 h0 (aBa [0,1,2,3] rfl) ⟨V,X,J,rfl,q33,rfl⟩
 obtain⟨ol35,hL,L⟩:=aR f;refine dU (fun k a w=>∃(t:List (List Rat)),∃(u:Int),∃(y:Option Nat),∃(z:Nat),∃(s:Nat),dA K a0 yF I k t u=some ol35∧t.length=s∧hs _ [⟨some p0,1,23,1,1,[pO y s z]⟩,⟨some p1,1,24,1,1,[pS cQ a1]⟩,⟨some p2,1,23,1,1,[pS (eF cQ) a2]⟩,hO (eF cQ) y z 24 s t] [(0,.vc (pY l)),(1,.vc (pM (cI.e a0))),(7,vI I),(8,vI u)] a w) K (fun a w ⟨_,_,_,_,_,f,_,_⟩=>by cases f) (fun k a w ⟨t,u,y,z,s,f,q26,hh⟩=>dW ?_ hh) (fun a w hh=>⟨a3,0,b2,c3,n4,hL,q5,jG [0,1,2,3] hh⟩);rw[dA.eq_2]at f;refine go ?_ ?_;refine aD f rfl (fun h37 f=>?_) (fun h37 f=>?_)
 ·refine go ?_ ?_;refine aJ ?_;obtain⟨h,h39,f⟩:=aR f;refine go ?_ ?_;refine qE (C:=cB) rfl tyS85 rfl tyZ4q rfl h39 (fun Y=>?_);refine go ?_ ?_;refine aJ (aY (fun H E=>∃(x57:List Bool),lX K yF t u (dA K a0 yF I k) x57=some ol35∧x57.length=h.length∧H=[hO cB Y h.length 4 h.length x57,⟨some p0,1,23,1,1,[pO y s z]⟩,⟨some p1,1,24,1,1,[pS cQ a1]⟩,⟨some p2,1,23,1,1,[pS (eF cQ) a2]⟩,hO (eF cQ) y z 24 s t]∧E=[(0,.vc (pY l)),(1,.vc (pM (cI.e a0))),(4,.vc (pO Y h.length h.length)),(7,vI I),(8,vI u)]) ?_ (fun Jj64=>?_))
  ·rintro _ _ ⟨x57,f,q61,rfl,rfl⟩;unfold lX at f;refine aH (aE (aI (gG ?_)));refine gG ?_;refine xC 0 [4,28] rfl q61 zU2 rfl ?_;obtain⟨v65,h66,f⟩:=aR f;refine aTZ rfl (hY _ _ _ _ _ _ q26 h66) h0 hMb zU2 ?_ ?_
   ·skip
    rintro _ ⟨b69,c70,n71,hj67,q72,rfl⟩;have f:=tH (show Nat.beq v65.1 0=true by rw[←hj67];rfl) f;refine go ?_ ?_;refine vN rfl ?_;obtain⟨v74,h75,f⟩:=aR f;refine go ?_ ?_;exact aF (fun a w hh=>⟨v65.2,v74,b69,c70,n71,f,q72,jG [0,1,2,3] hh⟩)
   rintro j76 _ ⟨b79,c80,n81,hj77,q82,rfl⟩;have f:=rD (show Nat.beq v65.1 0=false by rw[←hj77];rfl) f;refine go ?_ ?_;refine kA rfl ?_;refine gV (gW ?_);obtain rfl:=iO f;obtain rfl:=iO L;exact aFO (j76+1) (.inl rfl) Tryz.results102 h0 (aBa [0,1,2,3] rfl) ⟨b79,c80,n81,hj77,q82,rfl⟩
  obtain⟨x57',hL,hRl63⟩:=aR f;refine dU (fun k a w=>∃(O:List Bool),∃(x56:Int),eE K u h k O x56=some x57'∧O.length=h.length∧hs _ [hO cB Y h.length 4 h.length O,⟨some p0,1,23,1,1,[pO y s z]⟩,⟨some p1,1,24,1,1,[pS cQ a1]⟩,⟨some p2,1,23,1,1,[pS (eF cQ) a2]⟩,hO (eF cQ) y z 24 s t] [(0,.vc (pY l)),(1,.vc (pM (cI.e a0))),(3,vI u),(4,.vc (pO Y h.length h.length)),(7,vI I),(8,vI u),(14,vI (h.length:Int)),(15,vI x56)] a w) K (fun a w ⟨_,_,f,_,_⟩=>by cases f) (fun k a w ⟨O,x56,f,q54,hh⟩=>dW ?_ hh) (fun a w hh=>⟨h,0,hL,rfl,jG [0,1,2,3,4] hh⟩);rw[eE.eq_2]at f;refine go ?_ ?_;refine aD f rfl (fun h84 f=>?_) (fun h84 f=>?_)
  ·refine go ?_ ?_;refine aJ ?_;obtain⟨v85,h86,f⟩:=aR f;refine go ?_ ?_;refine aG (aWr rfl h86) zU2 ?_;refine aG (aVM rfl) ⟨rfl,rR _ _,zT⟩ ?_;obtain⟨v87,h88,x89,h90,v92,h93,f⟩:=bn3 f;refine go ?_ ?_;exact aF (fun a w hh=>⟨x89,v92,f,(bI h90 q54),jG [0,1,2,3,4] hh⟩)
  refine bF ?_;obtain rfl:=iO f;exact rU Jj64 ⟨O,hRl63,q54,rfl,rfl⟩ [0,1,2,3,4]
 refine bF ?_;obtain rfl:=iO f;exact rU Jj36 ⟨t,y,z,s,L,q26,rfl,rfl⟩ [0,1,2,3]
def sS(K:Nat)(e:List (List Rat))(f:(List Rat)×Bool):Option (Nat×(List (List Rat))):=
 (tC e [f.1]).bind fun h=>some (0,h)
def kS(K:Nat)(e:List (List Rat))(h:(List Rat)×Bool):Nat→Int→Option (LR (Nat×(List (List Rat))) Unit)
 |0,_=>none
 |k+1,f=>bif(decide (f<(e.length:Int))) then((bR e f).bind fun j=>(sN K j h.1).bind fun q=>bif q then(some (.ret (0,e))) else((aV (f+1)).bind fun s=>kS K e h k s)) else(some (.go ()))
def pD(K:Nat)(j:List (List Rat))(a1:List Rat)(h:List Bool)(e:List (List Rat)):Option (Nat×(List (List Rat))):=
 (nD K j a1 h).bind fun f=>bif(!f.2) then(some (0,e)) else((oS K j a1 f.1).bind fun v30=>bif(!v30) then(some (0,e)) else((kS K e f K 0).bind fun o=>match o with| .ret r=>some r| .go _=>sS K e f))
def tY(K:Nat)(f:List (List Rat))(a1:List Rat):Option ((List (List Rat))×Int):=
 (jQ K f a1).bind fun j=>bif(!j) then(some ([],1)) else(bif(decide (8<(a1.length:Int))) then(some ([],4)) else((pQ (a1.length:Int)).bind fun h=>(oG K (pD K f a1) h a1 f ([]:List (List Rat))).bind fun e=>bif Nat.beq e.1 0 then(some (e.2,0)) else(none)))
theorem aEl{K:Nat}{a0:List (List Rat)}{a1:List Rat}{r:(List (List Rat))×Int}(f:tY K a0 a1=some r):Ct Tryz.prog 24 [.vc (pS (eF cQ) a0),.vc (pS cQ a1)] (.t2 (.vc (pS (eF cQ) r.1)) (vI r.2)):=by
 unfold tY at f;refine aA Tryz.func24 rfl (by kernel_rfl) Tryz.ntmps24 rfl (fun w0 M0=>?_);refine aE (aI (dP rfl rfl zT (fun b1=>?_)));refine dP rfl rfl zT (fun b2=>?_);refine aG (aP (.inr rfl)) ⟨eG (eF cQ),zT⟩ ?_;obtain⟨v3,h4,f⟩:=bE f qI;refine go ?_ ?_;refine aD f rfl (fun h5 f=>?_) (fun h5 f=>?_)
 ·refine aE (aI (aG (aP (.inr rfl)) ⟨eG (eF cQ),zT⟩ ?_));exact bU
 refine go ?_ ?_;refine aD f rfl (fun h6 f=>?_) (fun h6 f=>?_)
 ·refine aE (aI (aG (aP (.inr rfl)) ⟨eG (eF cQ),zT⟩ ?_));exact bU
 refine fB (aH (aE (aI (aAe (eF cQ) 24 ?_))));refine aM rfl tyZ23_oq (fun F=>?_);obtain⟨J,h15,f⟩:=aR f;refine go ?_ ?_;refine aEt [] [0,1,2,3] rfl (aAE h15) zU1 rfl rfl (by decide) ?_;rintro _ _ ⟨rfl,rfl⟩;refine aX (aH (aJ (aRB [0,2,3,1] rfl ?_)));obtain⟨L,h26,f⟩:=aR f;refine aOs (fun _=>Go.Code.skip) rfl (fun x l Mb hx1 hx2 hx3 ht=>z8 (fun k23 y O q s h u f=>?_) h26 rfl) (fun Ho G=>?_) (fun j Ho G=>?_)
 ·refine aH3 ht hx1 rfl (fun w0 M0 U hMb=>?_);rw[hx2,hx3];unfold pD at f;refine go ?_ ?_;refine aMc U ?_;refine aJ ?_;obtain⟨t,h28,f⟩:=bE f aBn;refine go ?_ ?_;refine dK f (fun h29 f=>?_) (fun h29 f=>?_)
  ·refine go ?_ ?_;refine kA rfl ?_;refine bF ?_;obtain rfl:=iO f;exact aLX U (aBa [0,1,2,3] rfl) ⟨q,s,h,rfl,u,rfl⟩
  obtain⟨v30,h31,f⟩:=bE f zS;refine go ?_ ?_;refine aD f rfl (fun h32 f=>?_) (fun h32 f=>?_)
  ·refine bF ?_;obtain rfl:=iO f;exact aLX U (aBa [0,1,2,3] rfl) ⟨q,s,h,rfl,u,rfl⟩
  refine go ?_ ?_;refine aJ (aY (fun H E=>sS K y t=some O∧H=[⟨some F,1,23,1,1,[pO q h s]⟩,⟨some b2,1,24,1,1,[pS cQ a1]⟩,⟨some b1,1,23,1,1,[pS (eF cQ) a0]⟩,hO (eF cQ) q s 24 h y]∧E=[(2,.vc (pP (some b1) 0)),(3,.vc (pP (some b2) 0)),(4,.vc (pS (eF cQ) [])),(5,vI 0),(6,.vc (pP (some F) 0)),(8,.vc (pS cQ t.1)),(21,.vc (pF 102 [pM (cI.e J)]))]) ?_ (fun V=>?_))
  ·rintro _ _ ⟨f,rfl,rfl⟩;unfold sS at f;refine go ?_ ?_;refine aG (iH (C:=(eF cQ)) (xs:=[.tmp 50]) (ps:=[.vc (pS cQ t.1)]) (zs:=[t.1]) rfl tyS23 rfl ⟨⟨zT,rfl⟩,zT⟩ rfl) zU1 ?_;obtain⟨x37,X,f⟩:=aR f;refine nZ 3 rfl tyS23 rfl rfl u rfl rfl X (fun b39 c40 H41 e42=>?_);cases e42;obtain rfl:=iO f;refine go ?_ ?_;exact aLX U (aBa [0,1,2,3] rfl) ⟨b39,c40,(h+[t.1].length),rfl,(dN X u),rfl⟩
  obtain⟨Y,hL,z⟩:=aR f;refine dU (fun k a w=>∃(I:Int),kS K y t k I=some Y∧hs _ [⟨some F,1,23,1,1,[pO q h s]⟩,⟨some b2,1,24,1,1,[pS cQ a1]⟩,⟨some b1,1,23,1,1,[pS (eF cQ) a0]⟩,hO (eF cQ) q s 24 h y] [(2,.vc (pP (some b1) 0)),(3,.vc (pP (some b2) 0)),(4,.vc (pS (eF cQ) [])),(5,vI 0),(6,.vc (pP (some F) 0)),(8,.vc (pS cQ t.1)),(21,.vc (pF 102 [pM (cI.e J)])),(39,.vc (pO q h s)),(40,vI (y.length:Int)),(41,vI I)] a w) K (fun a w ⟨_,f,_⟩=>by cases f) (fun k a w ⟨I,f,hh⟩=>dW ?_ hh) (fun a w hh=>⟨0,hL,jG [0,1,2,3] hh⟩);rw[kS.eq_2]at f;refine go ?_ ?_;refine aD f rfl (fun h44 f=>?_) (fun h44 f=>?_)
  ·refine go ?_ ?_;refine aJ ?_;obtain⟨v45,h46,f⟩:=aR f;obtain⟨v47,h48,f⟩:=bE f aDu;refine go ?_ ?_;refine aD f rfl (fun h49 f=>?_) (fun h49 f=>?_)
   ·refine bF ?_;obtain rfl:=iO f;obtain rfl:=iO z;exact aLX U (aBa [0,1,2,3] rfl) ⟨q,s,h,rfl,u,rfl⟩
   obtain⟨v50,h51,f⟩:=aR f;refine go ?_ ?_;exact aF (fun a w hh=>⟨v50,f,jG [0,1,2,3] hh⟩)
  refine bF ?_;obtain rfl:=iO f;exact rU V ⟨z,rfl,rfl⟩ [0,1,2,3]
 ·skip
  obtain⟨b54,c55,n56,hj52,q57,rfl⟩:=G;have f:=tH (show Nat.beq L.1 0=true by rw[←hj52];rfl) f;refine go ?_ ?_;refine gV (gW (aTX 3 0 0 [4,53] rfl q57 rfl rfl rfl rfl rfl zU2 ?_));obtain rfl:=iO f;exact kJ (.inl rfl) Tryz.results24 (.tmp rfl (.tmp rfl .nil)) rfl rfl
 obtain⟨q,s,h,hj,u,rfl⟩:=G;have f:=rD (show Nat.beq L.1 0=false by rw[←hj];rfl) f;cases f
def nU(K:Nat):Option Bool:=
 some true
def nB(K:Nat)(f:Int)(e:Int→Option (LR Bool Unit)):Option (LR Bool Unit):=
 (aV (f+1)).bind fun v10=>e v10
def d9(K:Nat)(h:List (List Rat))(e:Int):Nat→Int→Option (LR Bool Unit)
 |0,_=>none
 |k+1,f=>bif(decide (f<e)) then((bR h e).bind fun j=>(bR j f).bind fun q=>(bR h f).bind fun s=>(bR s e).bind fun t=>(aFq q t).bind fun u=>bif(!u) then(some (.ret false)) else((aV (f+1)).bind fun x=>d9 K h e k x)) else(some (.go ()))
def dI(K:Nat)(e:List (List Rat)):Nat→Int→Option (LR Bool Unit)
 |0,_=>none
 |k+1,f=>bif(decide (f<(e.length:Int))) then((d9 K e f K 0).bind fun o=>match o with| .ret r=>some (.ret r)| .go _=>nB K f (dI K e k)) else(some (.go ()))
def kQ(K:Nat)(e:List (List Rat)):Option Bool:=
 (dI K e K 0).bind fun o=>match o with| .ret r=>some r| .go _=>nU K
theorem aAX{K:Nat}{f:List (List Rat)}{r:Bool}(e:kQ K f=some r):Ct Tryz.prog 35 [.vc (pS (eF cQ) f)] (.vc (pB r)):=by
 unfold kQ at e;refine aA Tryz.func35 rfl (by kernel_rfl) Tryz.ntmps35 rfl (fun w0 M0=>?_);refine go ?_ ?_;refine aJ (aY (fun H E=>nU K=some r∧H=[]∧E=[]) ?_ (fun t=>?_))
 ·rintro _ _ ⟨e,rfl,rfl⟩;unfold nU at e;exact bU
 obtain⟨j,u,q⟩:=aR e;refine dU (fun k a w=>∃(h:Int),dI K f k h=some j∧hs _ [] [(0,.vc (pS (eF cQ) f)),(3,vI h)] a w) K (fun a w ⟨_,e,_⟩=>by cases e) (fun k a w ⟨h,e,hh⟩=>dW ?_ hh) (fun a w hh=>⟨0,u,jG [] hh⟩);rw[dI.eq_2]at e;refine go ?_ ?_;refine aD e rfl (fun L e=>?_) (fun L e=>?_)
 ·refine go ?_ ?_;refine aJ (go ?_ ?_);refine aJ (aY (fun H E=>nB K h (dI K f k)=some j∧H=[]∧E=[(0,.vc (pS (eF cQ) f)),(3,vI h)]) ?_ (fun x=>?_))
  ·rintro _ _ ⟨e,rfl,rfl⟩;unfold nB at e;obtain⟨v10,O,e⟩:=aR e;refine go ?_ ?_;exact aF (fun a w hh=>⟨v10,e,jG [] hh⟩)
  obtain⟨y,u,s⟩:=aR e;refine dU (fun k a w=>∃(z:Int),d9 K f h k z=some y∧hs _ [] [(0,.vc (pS (eF cQ) f)),(3,vI h),(4,vI z)] a w) K (fun a w ⟨_,e,_⟩=>by cases e) (fun k a w ⟨z,e,hh⟩=>dW ?_ hh) (fun a w hh=>⟨0,u,jG [] hh⟩);rw[d9.eq_2]at e;refine go ?_ ?_;refine aD e rfl (fun F e=>?_) (fun F e=>?_)
  ·refine go ?_ ?_;refine aJ (aE ?_);obtain⟨U,V,e⟩:=aR e;obtain⟨X,Y,e⟩:=aR e;obtain⟨v19,h20,e⟩:=aR e;obtain⟨v21,h22,e⟩:=aR e;obtain⟨v23,h24,e⟩:=bE e zM;refine dr [0,0,3,7,0,31,63,0,0,384,896,0,3968,8064,16383,32767] 16 0 ?_ (fun J G13=>?_);refine aX (aH (aD e rfl (fun G e=>?_) (fun G e=>?_)))
   ·exact bU
   obtain⟨I,h27,e⟩:=aR e;refine go ?_ ?_;exact aF (fun a w hh=>⟨I,e,jG [] hh⟩)
  refine bF ?_;obtain rfl:=iO e;exact rU x ⟨s,rfl,rfl⟩ []
 refine bF ?_;obtain rfl:=iO e;exact rU t ⟨q,rfl,rfl⟩ []
def uO(K:Nat)(e:List (List Rat)):Option Bool:=
 (mA K e).bind fun v1=>bif v1 then((m6 e).bind fun v4=>some ((e.length:Int)==v4)) else(some false)
theorem aFi{K:Nat}{f:List (List Rat)}{r:Bool}(e:uO K f=some r):Ct Tryz.prog 75 [.vc (pS (eF cQ) f)] (.vc (pB r)):=by
 unfold uO at e;refine aA Tryz.func75 rfl (by kernel_rfl) Tryz.ntmps75 rfl (fun w0 M0=>?_);obtain⟨v1,j,e⟩:=bE e sA;refine go ?_ ?_;refine dK e (fun h e=>?_) (fun h e=>?_)
 ·obtain⟨v4,k,e⟩:=bE e tV;exact bU
 exact bU
end Go.Proofs.YtolfcbpgmfbgmaaGreat
set_option linter.unusedVariables false
set_option maxRecDepth 100000
namespace Go.Proofs.YtolfcbpgmfbgmaaGreat
def rI(K:Nat):Option Bool:=
 some true
def qQ(K:Nat)(j:List Nat)(k:Int)(e:(List Nat)→(List (List Rat))→Int→Option (LR Bool Unit))(f:List (List Rat)):Option (LR Bool Unit):=
 (aV (k+1)).bind fun h=>e j f h
def nM(K:Nat)(f:Int)(e:(List (List Rat))→Int→Option (List (List Rat)))(h:List (List Rat)):Option (List (List Rat)):=
 (aV (f+1)).bind fun j=>e h j
def dG(K:Nat)(q:Nat)(f:Nat)(j:Rat):Nat→(List (List Rat))→Int→Option (List (List Rat))
 |0,_,_=>none
 |k+1,e,h=>bif(decide (h<((e.getD f []).length:Int))) then((xR j).bind fun s=>bif(s != 0) then((bR (e.getD f []) h).bind fun t=>(bR (e.getD q []) h).bind fun u=>(aEf j u).bind fun x=>(aHd t x).bind fun y=>(bR (e.getD f []) h).bind fun G=>(rW (e.getD f []) h y).bind fun z=>(aV (h+1)).bind fun F=>dG K q f j k (e.set f z) F) else(some e)) else(some e)
def gQ(K:Nat)(s:List Nat)(f:Int)(q:Nat)(t:Int)(u:List (List Rat)):Nat→(List (List Rat))→Int→Option (List (List Rat))
 |0,_,_=>none
 |k+1,h,e=>bif(decide (e<(u.length:Int))) then((bR (s.drop t.toNat) e).bind fun j=>(bR (h.getD j []) f).bind fun x=>(bR (h.getD q []) f).bind fun y=>(aG7 x y).bind fun z=>(dG K q j z K h f).bind fun F=>nM K e (gQ K s f q t u k) F) else(some h)
def iJ(K:Nat)(j:List Nat):Nat→(List Nat)→(List (List Rat))→Int→Option (LR Bool Unit)
 |0,_,_,_=>none
 |k+1,f,h,e=>bif(decide (e<(j.length:Int))) then((bR f e).bind fun q=>(bR (h.getD q []) e).bind fun u=>(xR u).bind fun x=>bif(decide (x≤0)) then(some (.ret false)) else((aV (e+1)).bind fun s=>(slL (aAO h f) s ((aAO h f).length:Int)).bind fun y=>(gQ K f e q s y K h 0).bind fun t=>qQ K f e (iJ K j k) t)) else(some (.go ()))
def rN(K:Nat)(e:List Nat)(f:List (List Rat)):Option Bool:=
 (iJ K e K e f 0).bind fun o=>match o with| .ret r=>some r| .go _=>rI K
def qR(K:Nat)(h:List Nat)(j:List (List Rat))(f:Int)(k:List Rat)(e:(List Nat)→(List (List Rat))→Int→Option (LR Bool ((List Nat)×(List (List Rat))))):Option (LR Bool ((List Nat)×(List (List Rat)))):=
 (dR k).bind fun q=>(bR h f).bind fun u=>(rW h f j.length).bind fun s=>(aV (f+1)).bind fun t=>e s (j++[q]) t
def gU(K:Nat)(x:List (List Rat))(h:Int)(f:List Rat):Nat→Int→Option (LR Bool Unit)
 |0,_=>none
 |k+1,e=>bif(decide (e<h)) then((bR f e).bind fun j=>(bR x e).bind fun q=>(bR q h).bind fun s=>(aFq j s).bind fun t=>bif(!t) then(some (.ret false)) else((aV (e+1)).bind fun u=>gU K x h f k u)) else(some (.go ()))
def f8(K:Nat)(q:List (List Rat)):Nat→(List Nat)→(List (List Rat))→Int→Option (LR Bool ((List Nat)×(List (List Rat))))
 |0,_,_,_=>none
 |k+1,h,j,e=>bif(decide (e<(q.length:Int))) then((bR q e).bind fun f=>(gU K q e f K 0).bind fun o=>match o with| .ret r=>some (.ret r)| .go _=>qR K h j e f (f8 K q k)) else(some (.go (h,j)))
def sF(K:Nat)(e:List (List Rat)):Option Bool:=
 (uO K e).bind fun v1=>bif(!v1) then(some false) else((mkL (e.length:Int) (0:Nat)).bind fun j=>(f8 K e K j [([]:List Rat)] 0).bind fun o=>match o with| .ret r=>some r| .go (f,h)=>rN K f h)
theorem aDk{K:Nat}{a0:List (List Rat)}{r:Bool}(e:sF K a0=some r):Ct Tryz.prog 36 [.vc (pS (eF cQ) a0)] (.vc (pB r)):=by
 unfold sF at e;refine aA Tryz.func36 rfl (by kernel_rfl) Tryz.ntmps36 rfl (fun w0 M0=>?_);obtain⟨v1,h2,e⟩:=bE e aFi;refine go ?_ ?_;refine aD e rfl (fun h3 e=>?_) (fun h3 e=>?_)
 ·exact bU
 refine fB (aH (aE (aI (gG ?_))));refine aG (aIj rfl tyS23) zU1 ?_;obtain⟨x7,h8,e⟩:=aR e;refine aRc cQ 42 ?_;refine qE (C:=cH [(none,0,0)]) (z:=0) rfl tyS23 rfl tyZ24_oq rfl h8 (fun b6=>?_);refine go ?_ ?_;refine aJ (aY (fun H E=>∃(Y:List Nat),∃(x43:List (List Rat)),∃(b38:Option Nat),∃(c39:Nat),∃(n40:Nat),∃(g44:List rC),∃(N45:Nat),rN K Y x43=some r∧Y.length=n40∧x43.length=N45∧cN g44 x43∧(∀k∈Y,k<N45)∧H=([hO (cH g44) b38 c39 24 n40 Y]++eJ cQ 42 g44 x43)∧E=[(3,.vc (pO b38 n40 c39))]) ?_ (fun Jj50=>?_))
 ·rintro _ _ ⟨Y,x43,b38,c39,n40,g44,N45,e,q41,q46,q47,q48,rfl,rfl⟩;unfold rN at e;refine go ?_ ?_;refine aJ (aY (fun H E=>rI K=some r∧H=[]∧E=[]) ?_ (fun Jj78=>?_))
  ·rintro _ _ ⟨e,rfl,rfl⟩;unfold rI at e;exact bU
  obtain⟨ol77,hL,hRl77⟩:=aR e;refine dU (fun k a w=>∃(U:List Nat),∃(x70:List (List Rat)),∃(I:Int),∃(F:Option Nat),∃(G:Nat),∃(t:Nat),∃(f:List rC),∃(N72:Nat),iJ K Y k U x70 I=some ol77∧U.length=t∧x70.length=N72∧cN f x70∧(∀k∈U,k<N72)∧hs _ ([hO (cH f) F G 24 t U]++eJ cQ 42 f x70) [(3,.vc (pO F t G)),(50,.vc (pO F t G)),(51,vI (Y.length:Int)),(52,vI I)] a w) K (fun a w ⟨_,_,_,_,_,_,_,_,e,_,_,_,_,_⟩=>by cases e) (fun k a w ⟨U,x70,I,F,G,t,f,N72,e,q68,q73,q74,u,hh⟩=>dW ?_ hh) (fun a w hh=>⟨Y,x43,0,b38,c39,n40,g44,N45,hL,q41,q46,q47,q48,aQ 1 [0] rfl rfl (by decide) (by exact⟨rfl,rfl,rfl,rfl,zT⟩) hh⟩);rw[iJ.eq_2]at e;refine go ?_ ?_;refine aD e rfl (fun h79 e=>?_) (fun h79 e=>?_)
  ·refine go ?_ ?_;refine aJ ?_;obtain⟨j,h81,v82,h83,e⟩:=u9 e;refine go ?_ ?_;refine aG (dX (1+j) rfl tyS24 (rE 1 rfl q74 q73 (u _ (aL h81))) (cT q74 q73 (u _ (aL h81))) (aB h83).1 (aB h83).2.1) zU2 ?_;refine aG (gZ (k:=4) (1+j) rfl (rE 1 rfl q74 q73 (u _ (aL h81))) h83 rfl (.agg tyA42) rfl) zU1 ?_;obtain⟨v84,h85,e⟩:=bE e eA;refine go ?_ ?_;refine aD e rfl (fun h86 e=>?_) (fun h86 e=>?_)
   ·exact bU
   obtain⟨v87,h88,x89,J,e⟩:=u9 e;refine go ?_ ?_;refine aG (aPp (i:=0) rfl tyS23 rfl rfl rfl rfl (uI J).1 (aQl J q68)) zU2 ?_;refine aG (aU0 rfl tyS23 (aR0 J q68)) zU1 ?_;refine go ?_ ?_;refine aJ (aY (fun H E=>∃(x101:List (List Rat)),qQ K U I (iJ K Y k) x101=some ol77∧x101.length=N72∧cN f x101∧H=([hO (cH f) F G 24 t U]++eJ cQ 42 f x101)∧E=[(3,.vc (pO F t G)),(50,.vc (pO F t G)),(51,vI (Y.length:Int)),(52,vI I)]) ?_ (fun Jj106=>?_))
   ·rintro _ _ ⟨x101,e,q102,q103,rfl,rfl⟩;unfold qQ at e;have e:=uS h88 e;refine go ?_ ?_;exact aF (fun a w hh=>⟨U,x101,v87,F,G,t,f,N72,e,q68,q102,q103,u,aQ 1 [0] rfl rfl (by decide) (by exact⟨rfl,rfl,rfl,rfl,zT⟩) hh⟩)
   obtain⟨x101',hL,hRl105⟩:=aR e;refine dU (fun k a w=>∃(x96:List (List Rat)),∃(x100:Int),gQ K U I j v87 x89 k x96 x100=some x101'∧x96.length=N72∧cN f x96∧hs _ ([hO (cH f) F G 24 t U]++eJ cQ 42 f x96) [(3,.vc (pO F t G)),(7,vI I),(8,.vc (pO (eI f j).1 (eI f j).2.1 (eI f j).2.2)),(50,.vc (pO F t G)),(51,vI (Y.length:Int)),(52,vI I),(66,.vc (pC (pO F t G) v87.toNat 1)),(67,vI (x89.length:Int)),(68,vI x100)] a w) K (fun a w ⟨_,_,e,_,_,_⟩=>by cases e) (fun k a w ⟨x96,x100,e,q97,q98,hh⟩=>dW ?_ hh) (fun a w hh=>⟨x70,0,hL,q73,q74,aQ 1 [0] rfl rfl (by decide) (by exact⟨rfl,rfl,rfl,rfl,rfl,rfl,rfl,rfl,rfl,zT⟩) hh⟩);rw[gQ.eq_2]at e;refine go ?_ ?_;refine aD e rfl (fun h109 e=>?_) (fun h109 e=>?_)
   ·refine go ?_ ?_;refine aJ (aE (aI ?_));obtain⟨h,x,e⟩:=aR e;refine aG (aWc (C:=(cH f)) 0 rfl tyS23 rfl q68 (uI J).1 x) zU2 ?_;refine aG (gZ (C:=(cH f)) (k:=1) 0 rfl rfl (qW (uI J).1 x) rfl (.one tyO24) rfl) zU1 ?_;obtain⟨v114,h115,v116,h117,e⟩:=u9 e;obtain⟨v118,h119,e⟩:=bE e w6;refine go ?_ ?_;refine kO [0,0,3,7,0,0,48,112,255,0,1023] 10 1 [.v (.vc (pO (eI f h).1 (eI f h).2.1 (eI f h).2.2)),.v (vI I),.v (.vc (pE (eI f h).1 I cQ.n 0)),.v (.va (eQ v114)),.v (.vc (pO (eI f j).1 (eI f j).2.1 (eI f j).2.2)),.v (vI I),.v (.vc (pE (eI f j).1 I cQ.n 0)),.v (.va (eQ v116)),.v (.va (eQ v118)),.a 42 (eQ 0)] bC ⟨d0 (aP (.inl rfl)) zU1,d0 (aP (.inl rfl)) zU1,d0 (dX (1+h) rfl tyS24 (fD 1 rfl q98 q97 (u _ (aL (qW (uI J).1 x)))) (cT q98 q97 (u _ (aL (qW (uI J).1 x)))) (aB h115).1 (aB h115).2.1) zU2,d0 (gZ (k:=4) (1+h) rfl (fD 1 rfl q98 q97 (u _ (aL (qW (uI J).1 x)))) h115 rfl (.agg tyA42) rfl) zU1,d0 (aP (.inl rfl)) zU1,d0 (aP (.inl rfl)) zU1,d0 (dX (1+j) rfl tyS24 (fD 1 rfl q98 q97 (u _ (aL h81))) (cT q98 q97 (u _ (aL h81))) (aB h117).1 (aB h117).2.1) zU2,d0 (gZ (k:=4) (1+j) rfl (fD 1 rfl q98 q97 (u _ (aL h81))) h117 rfl (.agg tyA42) rfl) zU1,d0 (bO rfl h119 rfl) zU2,⟨rfl,.alc tyZ42q⟩,zT⟩ (fun bs113 G112=>?_);refine go ?_ ?_;refine aJ (aY (fun H E=>∃(x130:List (List Rat)),nM K x100 (gQ K U I j v87 x89 k) x130=some x101'∧x130.length=N72∧cN f x130∧H=([hO (cH f) F G 24 t U]++eJ cQ 42 f x130)∧E=[(3,.vc (pO F t G)),(7,vI I),(8,.vc (pO (eI f j).1 (eI f j).2.1 (eI f j).2.2)),(50,.vc (pO F t G)),(51,vI (Y.length:Int)),(52,vI I),(66,.vc (pC (pO F t G) v87.toNat 1)),(67,vI (x89.length:Int)),(68,vI x100)]) ?_ (fun Jj135=>?_))
    ·rintro _ _ ⟨x130,e,q131,q132,rfl,rfl⟩;unfold nM at e;obtain⟨v136,h137,e⟩:=aR e;refine go ?_ ?_;exact aF (fun a w hh=>⟨x130,v136,e,q131,q132,aQ 1 [0] rfl rfl (by decide) (by exact⟨rfl,rfl,rfl,rfl,rfl,rfl,rfl,rfl,rfl,zT⟩) hh⟩)
    obtain⟨x130',hL,hRl134⟩:=aR e;refine dU (fun k a w=>∃(O:List (List Rat)),∃(V:Int),dG K j h v118 k O V=some x130'∧O.length=N72∧cN f O∧hs _ ([⟨some (bs113 9),1,42,4,1,(eQ v118)⟩,hO (cH f) F G 24 t U]++eJ cQ 42 f O) [(3,.vc (pO F t G)),(7,vI I),(8,.vc (pO (eI f j).1 (eI f j).2.1 (eI f j).2.2)),(10,.vc (pO (eI f h).1 (eI f h).2.1 (eI f h).2.2)),(11,.vc (pP (some (bs113 9)) 0)),(12,vI V),(50,.vc (pO F t G)),(51,vI (Y.length:Int)),(52,vI I),(66,.vc (pC (pO F t G) v87.toNat 1)),(67,vI (x89.length:Int)),(68,vI x100)] a w) K (fun a w ⟨_,_,e,_,_,_⟩=>by cases e) (fun k a w ⟨O,V,e,q,y,hh⟩=>dW ?_ hh) (fun a w hh=>⟨x96,I,hL,q97,q98,aQ 2 [0,1] rfl rfl (by decide) (by exact⟨rfl,rfl,rfl,rfl,rfl,rfl,rfl,rfl,rfl,rfl,rfl,rfl,zT⟩) hh⟩);rw[dG.eq_2]at e;refine go ?_ ?_;refine aG (aBU (C:=cQ) (xs:=(O.getD h [])) (T:=42) rfl tyS24 (cT y q (u _ (aL (qW (uI J).1 x))))) zU1 ?_;refine aG (aHh rfl) zU2 ?_;refine gG ?_;refine dK e (fun h138 e=>?_) (fun h138 e=>?_)
    ·obtain⟨v139,h140,e⟩:=bE e eA;refine go ?_ ?_;refine aD e rfl (fun h141 e=>?_) (fun h141 e=>?_)
     ·refine go ?_ ?_;refine aJ ?_;obtain⟨v144,h145,e⟩:=aR e;obtain⟨v146,h147,e⟩:=aR e;obtain⟨v148,h149,e⟩:=bE e vR;obtain⟨v150,h151,e⟩:=bE e w8;have e:=uS h145 e;refine kO [0,0,0,0,12,28,0,0,0,384,896,1984,4092,8191,16383] 14 1 [.v (.vc (pO (eI f h).1 (eI f h).2.1 (eI f h).2.2)),.v (vI V),.v (.vc (pO (eI f h).1 (eI f h).2.1 (eI f h).2.2)),.v (vI V),.v (.vc (pE (eI f h).1 V cQ.n 0)),.v (.va (eQ v144)),.v (.va (eQ v118)),.v (.vc (pO (eI f j).1 (eI f j).2.1 (eI f j).2.2)),.v (vI V),.v (.vc (pE (eI f j).1 V cQ.n 0)),.v (.va (eQ v146)),.v (.va (eQ v148)),.v (.va (eQ v150)),.v (.vc (pE (eI f h).1 V cQ.n 0))] bC ⟨d0 (aP (.inl rfl)) zU1,d0 (aP (.inl rfl)) zU1,d0 (aP (.inl rfl)) zU1,d0 (aP (.inl rfl)) zU1,d0 (dX (2+h) rfl tyS24 (fD 2 rfl y q (u _ (aL (qW (uI J).1 x)))) (cT y q (u _ (aL (qW (uI J).1 x)))) (aB h145).1 (aB h145).2.1) zU2,d0 (gZ (k:=4) (2+h) rfl (fD 2 rfl y q (u _ (aL (qW (uI J).1 x)))) h145 rfl (.agg tyA42) rfl) zU1,d0 (gM 0 4 rfl rfl rfl rfl (.agg tyA42)) zU1,d0 (aP (.inl rfl)) zU1,d0 (aP (.inl rfl)) zU1,d0 (dX (2+j) rfl tyS24 (fD 2 rfl y q (u _ (aL h81))) (cT y q (u _ (aL h81))) (aB h147).1 (aB h147).2.1) zU2,d0 (gZ (k:=4) (2+j) rfl (fD 2 rfl y q (u _ (aL h81))) h147 rfl (.agg tyA42) rfl) zU1,d0 (bO rfl h149 rfl) zU2,d0 (bO rfl h151 rfl) zU2,d0 (dX (2+h) rfl tyS24 (fD 2 rfl y q (u _ (aL (qW (uI J).1 x)))) (cT y q (u _ (aL (qW (uI J).1 x)))) (aB h145).1 (aB h145).2.1) zU2,zT⟩ (fun bs143 G142=>?_);obtain⟨x154,h155,e⟩:=aR e;refine mI (xI (H':=([⟨some (bs113 9),1,42,4,1,(eQ v118)⟩,hO (cH f) F G 24 t U]++eJ cQ 42 f (O.set h x154))) (2+h) rfl (rE 2 rfl y q (u _ (aL (qW (uI J).1 x)))) h145 h155 tyA42.s (hH:=stN 2 rfl y q (u _ (aL (qW (uI J).1 x))))) zU2 ?_;obtain⟨v157,h158,e⟩:=aR e;refine go ?_ ?_;exact aF (fun a w hh=>⟨(O.set h x154),v157,e,(aCL q),(aEP y q (u _ (aL (qW (uI J).1 x))) (bI h155 rfl)),aQ 2 [0,1] rfl rfl (by decide) (by exact⟨rfl,rfl,rfl,rfl,rfl,rfl,rfl,rfl,rfl,rfl,rfl,rfl,zT⟩) hh⟩)
     refine bF ?_;obtain rfl:=iO e;exact dV Jj135 ⟨O,hRl134,q,y,rfl,rfl⟩ 2 [1] rfl rfl ⟨rfl,rfl,rfl,rfl,rfl,rfl,rfl,rfl,rfl,zT⟩
    refine go ?_ ?_;refine vN rfl ?_;refine bF ?_;obtain rfl:=iO e;exact dV Jj135 ⟨O,hRl134,q,y,rfl,rfl⟩ 2 [1] rfl rfl ⟨rfl,rfl,rfl,rfl,rfl,rfl,rfl,rfl,rfl,zT⟩
   refine bF ?_;obtain rfl:=iO e;exact dV Jj106 ⟨x96,hRl105,q97,q98,rfl,rfl⟩ 1 [0] rfl rfl ⟨rfl,rfl,rfl,rfl,zT⟩
  refine bF ?_;obtain rfl:=iO e;exact rU Jj78 ⟨hRl77,rfl,rfl⟩ []
 obtain⟨ol49,hL,hRl49⟩:=aR e;refine dU (fun k a w=>∃(x24:List Nat),∃(X:List (List Rat)),∃(x36:Int),∃(b25:Option Nat),∃(c26:Nat),∃(n27:Nat),∃(L:List rC),∃(N32:Nat),f8 K a0 k x24 X x36=some ol49∧x24.length=n27∧X.length=N32∧cN L X∧(∀k∈x24,k<N32)∧hs _ ([hO (cH L) b25 c26 24 n27 x24]++eJ cQ 42 L X) [(0,.vc (pS (eF cQ) a0)),(3,.vc (pO b25 n27 c26)),(19,.vc (pS (eF cQ) a0)),(20,vI (a0.length:Int)),(21,vI x36)] a w) K (fun a w ⟨_,_,_,_,_,_,_,_,e,_,_,_,_,_⟩=>by cases e) (fun k a w ⟨x24,X,x36,b25,c26,n27,L,N32,e,q28,q33,q34,q35,hh⟩=>dW ?_ hh) (fun a w hh=>⟨x7,[([]:List Rat)],0,b6,x7.length,x7.length,[(none,0,0)],1,hL,rfl,rfl,aN5,(aT5 h8),aQ 1 [0] rfl rfl (by decide) (by exact⟨rfl,rfl,rfl,rfl,rfl,zT⟩) hh⟩);rw[f8.eq_2]at e;refine go ?_ ?_;refine aD e rfl (fun h159 e=>?_) (fun h159 e=>?_)
 ·refine go ?_ ?_;refine aJ ?_;obtain⟨v160,h161,e⟩:=aR e;refine go ?_ ?_;refine aJ (aY (fun H E=>qR K x24 X x36 v160 (f8 K a0 k)=some ol49∧H=([hO (cH L) b25 c26 24 n27 x24]++eJ cQ 42 L X)∧E=[(0,.vc (pS (eF cQ) a0)),(3,.vc (pO b25 n27 c26)),(4,vI x36),(5,.vc (pS cQ v160)),(19,.vc (pS (eF cQ) a0)),(20,vI (a0.length:Int)),(21,vI x36)]) ?_ (fun Jj165=>?_))
  ·rintro _ _ ⟨e,rfl,rfl⟩;unfold qR at e;obtain⟨v166,h167,e⟩:=aR e;refine go ?_ ?_;refine aRD rfl (sP h167) zU1 ?_;rintro _ _ ⟨b169,c170,n171,q172,rfl,rfl⟩;obtain⟨v174,h175,e⟩:=aR e;refine aG (dX (C:=(cH L)) 1 rfl tyS23 rfl q28 (aB h175).1 (aB h175).2.1) zU2 ?_;obtain⟨x176,h177,e⟩:=aR e;refine aSD (show([hO cQ b169 c170 42 n171 v166,hO (cH (L++[(b169,n171,c170)])) b25 c26 24 n27 x24]++eJ cQ 42 L X)=([hO cQ b169 c170 42 n171 v166,hO (cH L) b25 c26 24 n27 x24]++eJ cQ 42 L X) from by rw[aGi (N:=X.length) (b169,n171,c170) q34.1 (aDK q33 q35)]) ?_;refine mI (xI (C:=cH (L++[(b169,n171,c170)])) (z':=X.length) 1 rfl rfl h175 h177 tyO24.s (hq:=aKK (b169,n171,c170) q34.1)) zU2 ?_;refine aEw (g:=(b169,n171,c170)) 0 2 rfl rfl rfl q34 ?_;obtain⟨v180,h181,e⟩:=aR e;refine go ?_ ?_;exact aF (fun a w hh=>⟨x176,(X++[v166]),v180,b25,c26,n27,(L++[(b169,n171,c170)]),(N32+1),e,(bI h177 q28),(aB8 q33),(yK q34 q172),(u8 q35 h177 q33),aQ 1 [0] rfl rfl (by decide) (by exact⟨rfl,rfl,rfl,rfl,rfl,zT⟩) hh⟩)
  obtain⟨ol164,hL,hRl164⟩:=aR e;refine dU (fun k a w=>∃(x163:Int),gU K a0 x36 v160 k x163=some ol164∧hs _ ([hO (cH L) b25 c26 24 n27 x24]++eJ cQ 42 L X) [(0,.vc (pS (eF cQ) a0)),(3,.vc (pO b25 n27 c26)),(4,vI x36),(5,.vc (pS cQ v160)),(19,.vc (pS (eF cQ) a0)),(20,vI (a0.length:Int)),(21,vI x36),(26,vI x36),(27,vI x163)] a w) K (fun a w ⟨_,e,_⟩=>by cases e) (fun k a w ⟨x163,e,hh⟩=>dW ?_ hh) (fun a w hh=>⟨0,hL,aQ 1 [0] rfl rfl (by decide) (by exact⟨rfl,rfl,rfl,rfl,rfl,rfl,rfl,rfl,rfl,zT⟩) hh⟩);rw[gU.eq_2]at e;refine go ?_ ?_;refine aD e rfl (fun h182 e=>?_) (fun h182 e=>?_)
  ·refine go ?_ ?_;refine aJ ?_;obtain⟨v185,h186,v187,h188,v189,h190,e⟩:=bn3 e;obtain⟨v191,h192,e⟩:=bE e aFu;refine go ?_ ?_;refine dr [0,0,3,7,0,0,48,112,0,496,1008,2047,4095] 13 0 ?_ (fun bs184 G183=>?_);refine aX (aH (aD e rfl (fun h193 e=>?_) (fun h193 e=>?_)))
   ·exact bU
   obtain⟨v194,h195,e⟩:=aR e;refine go ?_ ?_;exact aF (fun a w hh=>⟨v194,e,aQ 1 [0] rfl rfl (by decide) (by exact⟨rfl,rfl,rfl,rfl,rfl,rfl,rfl,rfl,rfl,zT⟩) hh⟩)
  refine bF ?_;obtain rfl:=iO e;exact dV Jj165 ⟨hRl164,rfl,rfl⟩ 1 [0] rfl rfl ⟨rfl,rfl,rfl,rfl,rfl,rfl,rfl,zT⟩
 refine bF ?_;obtain rfl:=iO e;exact dV Jj50 ⟨x24,X,b25,c26,n27,L,N32,hRl49,q28,q33,q34,q35,rfl,rfl⟩ 1 [0] rfl rfl zU1
def tR(K:Nat)(e:List (List Rat)):Option (List (List Rat)):=
 some e
def tS(K:Nat)(f:List (List Rat))(h:Int)(e:(List (List Rat))→Int→Option (List (List Rat)))(j:List Rat):Option (List (List Rat)):=
 (tC f [j]).bind fun k=>(aV (h+1)).bind fun q=>e k q
def lN(K:Nat)(j:List (List Rat))(h:Int):Nat→(List Rat)→Int→Option (List Rat)
 |0,_,_=>none
 |k+1,f,e=>bif(decide (e<(j.length:Int))) then((bR j e).bind fun q=>(bR q h).bind fun s=>(bR f e).bind fun x=>(rW f e s).bind fun t=>(aV (e+1)).bind fun u=>lN K j h k t u) else(some f)
def jZ(K:Nat)(h:List (List Rat))(s:Int):Nat→(List (List Rat))→Int→Option (List (List Rat))
 |0,_,_=>none
 |k+1,f,e=>bif(decide (e<s)) then((mkL (h.length:Int) 0).bind fun j=>(lN K h e K j 0).bind fun q=>tS K f e (jZ K h s k) q) else(some f)
def sB(K:Nat)(f:List (List Rat)):Option (List (List Rat)):=
 (m6 f).bind fun h=>(jZ K f h K ([]:List (List Rat)) 0).bind fun e=>tR K e
theorem aBo{K:Nat}{y:List (List Rat)}{r:List (List Rat)}(e:sB K y=some r):Ct Tryz.prog 81 [.vc (pS (eF cQ) y)] (.vc (pS (eF cQ) r)):=by
 unfold sB at e;refine aA Tryz.func81 rfl (by kernel_rfl) Tryz.ntmps81 rfl (fun w0 M0=>?_);refine aE (aI (aG (aP (.inr rfl)) ⟨eG (eF cQ),zT⟩ ?_));refine aX (aH (aE (aI (rF (eF cQ) 24 rfl ?_))));obtain⟨Y,h4,e⟩:=bE e tV;refine go ?_ ?_;refine aJ (aY (fun H E=>∃(z:List (List Rat)),∃(J:Option Nat),∃(L:Nat),∃(F:Nat),tR K z=some r∧z.length=F∧H=[hO (eF cQ) J L 24 F z]∧E=[(3,.vc (pO J F L))]) ?_ (fun Jj26=>?_))
 ·rintro _ _ ⟨z,J,L,F,e,q23,rfl,rfl⟩;unfold tR at e;refine go ?_ ?_;refine gV (gW (tU 0 [2,3,36] rfl q23 ⟨rfl,rfl,rfl,zT⟩ rfl ?_));obtain rfl:=iO e;exact kJ (.inl rfl) Tryz.results81 (.tmp rfl .nil) rfl rfl
 obtain⟨I,hL,O⟩:=aR e;refine dU (fun k a w=>∃(j:List (List Rat)),∃(q:Int),∃(s:Option Nat),∃(t:Nat),∃(h:Nat),jZ K y Y k j q=some I∧j.length=h∧hs _ [hO (eF cQ) s t 24 h j] [(0,.vc (pS (eF cQ) y)),(3,.vc (pO s h t)),(8,vI Y),(9,vI q)] a w) K (fun a w ⟨_,_,_,_,_,e,_,_⟩=>by cases e) (fun k a w ⟨j,q,s,t,h,e,U,hh⟩=>dW ?_ hh) (fun a w hh=>⟨([]:List (List Rat)),0,none,0,0,hL,rfl,jG [0] hh⟩);rw[jZ.eq_2]at e;refine go ?_ ?_;refine aD e rfl (fun h27 e=>?_) (fun h27 e=>?_)
 ·refine go ?_ ?_;refine aJ ?_;obtain⟨f,h29,e⟩:=aR e;refine go ?_ ?_;refine qE (C:=cQ) rfl tyS24 rfl tyZ42q rfl h29 (fun G=>?_);refine go ?_ ?_;refine aJ (aY (fun H E=>∃(u:List Rat),tS K j q (jZ K y Y k) u=some I∧u.length=f.length∧H=[hO cQ G f.length 42 f.length u,hO (eF cQ) s t 24 h j]∧E=[(0,.vc (pS (eF cQ) y)),(3,.vc (pO s h t)),(5,.vc (pO G f.length f.length)),(8,vI Y),(9,vI q)]) ?_ (fun Jj54=>?_))
  ·rintro _ _ ⟨u,e,q51,rfl,rfl⟩;unfold tS at e;refine aH (aI (gG ?_));refine gG ?_;refine xC 0 [5,32] rfl q51 zU2 rfl ?_;refine aG (iH (C:=(eF cQ)) (xs:=[.tmp 32]) (ps:=[.vc (pS cQ u)]) (zs:=[u]) rfl tyS23 rfl ⟨⟨zT,rfl⟩,zT⟩ rfl) zU1 ?_;obtain⟨x55,h56,e⟩:=aR e;refine nZ 0 rfl tyS23 rfl rfl U rfl rfl h56 (fun b57 c58 H59 e60=>?_);cases e60;obtain⟨v62,h63,e⟩:=aR e;refine go ?_ ?_;exact aF (fun a w hh=>⟨x55,v62,b57,c58,(h+[u].length),e,(dN h56 U),jG [0] hh⟩)
  obtain⟨x47',hL,V⟩:=aR e;refine dU (fun k a w=>∃(x:List Rat),∃(X:Int),lN K y q k x X=some x47'∧x.length=f.length∧hs _ [hO cQ G f.length 42 f.length x,hO (eF cQ) s t 24 h j] [(0,.vc (pS (eF cQ) y)),(3,.vc (pO s h t)),(4,vI q),(5,.vc (pO G f.length f.length)),(8,vI Y),(9,vI q),(16,vI (y.length:Int)),(17,vI X)] a w) K (fun a w ⟨_,_,e,_,_⟩=>by cases e) (fun k a w ⟨x,X,e,q44,hh⟩=>dW ?_ hh) (fun a w hh=>⟨f,0,hL,rfl,jG [0,1] hh⟩);rw[lN.eq_2]at e;refine go ?_ ?_;refine aD e rfl (fun h64 e=>?_) (fun h64 e=>?_)
  ·refine go ?_ ?_;refine aJ ?_;obtain⟨v65,h66,v67,h68,v69,h70,x71,h72,e⟩:=bn4 e;obtain⟨v74,h75,e⟩:=aR e;refine go ?_ ?_;exact aF (fun a w hh=>⟨x71,v74,e,(bI h72 q44),jG [0,1] hh⟩)
  refine bF ?_;obtain rfl:=iO e;exact rU Jj54 ⟨x,V,q44,rfl,rfl⟩ [0,1]
 refine bF ?_;obtain rfl:=iO e;exact rU Jj26 ⟨j,s,t,h,O,U,rfl,rfl⟩ [0]
def wM(K:Nat)(e:List (List Rat)):Option ((List (List Rat))×Int):=
 (mA K e).bind fun v1=>bif(!v1) then(some ([],1)) else((sB K e).bind fun v4=>some (v4,0))
theorem aGr{K:Nat}{f:List (List Rat)}{r:(List (List Rat))×Int}(e:wM K f=some r):Ct Tryz.prog 37 [.vc (pS (eF cQ) f)] (.t2 (.vc (pS (eF cQ) r.1)) (vI r.2)):=by
 unfold wM at e;refine aA Tryz.func37 rfl (by kernel_rfl) Tryz.ntmps37 rfl (fun w0 M0=>?_);refine aE (aI (aG (aP (.inr rfl)) ⟨eG (eF cQ),zT⟩ ?_));obtain⟨v1,j,e⟩:=bE e sA;refine go ?_ ?_;refine aD e rfl (fun h e=>?_) (fun h e=>?_)
 ·refine aE (aI (aG (aP (.inr rfl)) ⟨eG (eF cQ),zT⟩ ?_));exact bU
 obtain⟨v4,k,e⟩:=bE e aBo;exact bU
def sZ(K:Nat)(e:List Rat):Option (List Rat):=
 some e
def kX(K:Nat)(h:List (List Rat))(a1:List Rat):Nat→(List Rat)→Int→Option (List Rat)
 |0,_,_=>none
 |k+1,f,e=>bif(decide (e<(h.length:Int))) then((bR h e).bind fun j=>(wC K j a1).bind fun q=>(tC f [q]).bind fun s=>(aV (e+1)).bind fun t=>kX K h a1 k s t) else(some f)
def vZ(K:Nat)(f:List (List Rat))(a1:List Rat):Option (List Rat):=
 (kX K f a1 K ([]:List Rat) 0).bind fun e=>sZ K e
theorem aEJ{K:Nat}{I:List (List Rat)}{a1:List Rat}{r:List Rat}(e:vZ K I a1=some r):Ct Tryz.prog 83 [.vc (pS (eF cQ) I),.vc (pS cQ a1)] (.vc (pS cQ r)):=by
 unfold vZ at e;refine aA Tryz.func83 rfl (by kernel_rfl) Tryz.ntmps83 rfl (fun w0 M0=>?_);refine aE (aI (aG (aP (.inr rfl)) ⟨eG cQ,zT⟩ ?_));refine aX (aH (aE (aI (rF cQ 42 rfl ?_))));refine go ?_ ?_;refine aJ (aY (fun H E=>∃(j:List Rat),∃(u:Option Nat),∃(x:Nat),∃(q:Nat),sZ K j=some r∧j.length=q∧H=[hO cQ u x 42 q j]∧E=[(5,.vc (pO u q x))]) ?_ (fun J=>?_))
 ·rintro _ _ ⟨j,u,x,q,e,U,rfl,rfl⟩;unfold sZ at e;refine go ?_ ?_;refine gV (gW (tU 0 [4,5,21] rfl U ⟨rfl,rfl,rfl,zT⟩ rfl ?_));obtain rfl:=iO e;exact kJ (.inl rfl) Tryz.results83 (.tmp rfl .nil) rfl rfl
 obtain⟨L,hL,y⟩:=aR e;refine dU (fun k a w=>∃(h:List Rat),∃(z:Int),∃(s:Option Nat),∃(t:Nat),∃(f:Nat),kX K I a1 k h z=some L∧h.length=f∧hs _ [hO cQ s t 42 f h] [(1,.vc (pS cQ a1)),(5,.vc (pO s f t)),(8,.vc (pS (eF cQ) I)),(9,vI (I.length:Int)),(10,vI z)] a w) K (fun a w ⟨_,_,_,_,_,e,_,_⟩=>by cases e) (fun k a w ⟨h,z,s,t,f,e,F,hh⟩=>dW ?_ hh) (fun a w hh=>⟨([]:List Rat),0,none,0,0,hL,rfl,jG [0] hh⟩);rw[kX.eq_2]at e;refine go ?_ ?_;refine aD e rfl (fun V e=>?_) (fun V e=>?_)
 ·refine go ?_ ?_;refine aJ ?_;obtain⟨v26,h27,e⟩:=aR e;obtain⟨G,h29,e⟩:=bE e aBE;refine go ?_ ?_;refine aG (iH (C:=cQ) (xs:=[.tmp 17]) (ps:=[.va (eQ G)]) (zs:=[G]) rfl tyS24 rfl ⟨⟨zT,rfl⟩,zT⟩ rfl) zU1 ?_;obtain⟨X,O,e⟩:=aR e;refine nZ 0 rfl tyS24 rfl rfl F rfl rfl O (fun Y c33 H34 e35=>?_);cases e35;obtain⟨v37,h38,e⟩:=aR e;refine go ?_ ?_;exact aF (fun a w hh=>⟨X,v37,Y,c33,(f+[G].length),e,(dN O F),jG [0] hh⟩)
 refine bF ?_;obtain rfl:=iO e;exact rU J ⟨h,s,t,f,y,F,rfl,rfl⟩ [0]
def vW(K:Nat)(e:List (List Rat)):Option ((List (List Rat))×Int):=
 some (e,0)
def oP(K:Nat)(h:List (List Rat))(v10:List (List Rat)):Nat→(List (List Rat))→Int→Option (List (List Rat))
 |0,_,_=>none
 |k+1,f,e=>bif(decide (e<(h.length:Int))) then((bR h e).bind fun j=>(vZ K v10 j).bind fun q=>(tC f [q]).bind fun s=>(aV (e+1)).bind fun t=>oP K h v10 k s t) else(some f)
def vY(K:Nat)(e:List (List Rat))(a1:List (List Rat)):Option ((List (List Rat))×Int):=
 (mA K e).bind fun v1=>bif(!v1) then(some ([],1)) else((mA K a1).bind fun v4=>bif(!v4) then(some ([],1)) else((m6 e).bind fun h=>bif(h != (a1.length:Int)) then(some ([],1)) else((sB K a1).bind fun v10=>(oP K e v10 K ([]:List (List Rat)) 0).bind fun f=>vW K f)))
theorem aHb{K:Nat}{I:List (List Rat)}{a1:List (List Rat)}{r:(List (List Rat))×Int}(e:vY K I a1=some r):Ct Tryz.prog 38 [.vc (pS (eF cQ) I),.vc (pS (eF cQ) a1)] (.t2 (.vc (pS (eF cQ) r.1)) (vI r.2)):=by
 unfold vY at e;refine aA Tryz.func38 rfl (by kernel_rfl) Tryz.ntmps38 rfl (fun w0 M0=>?_);refine aE (aI (aG (aP (.inr rfl)) ⟨eG (eF cQ),zT⟩ ?_));obtain⟨v1,h2,e⟩:=bE e sA;refine go ?_ ?_;refine dK e (fun h3 e=>?_) (fun h3 e=>?_)
 ·refine go ?_ ?_;refine kA rfl ?_;refine aE (aI (aG (aP (.inr rfl)) ⟨eG (eF cQ),zT⟩ ?_));exact bU
 obtain⟨v4,h5,e⟩:=bE e sA;refine go ?_ ?_;refine dK e (fun h6 e=>?_) (fun h6 e=>?_)
 ·refine go ?_ ?_;refine kA rfl ?_;refine aE (aI (aG (aP (.inr rfl)) ⟨eG (eF cQ),zT⟩ ?_));exact bU
 obtain⟨v7,h8,e⟩:=bE e tV;refine go ?_ ?_;refine aD e rfl (fun h9 e=>?_) (fun h9 e=>?_)
 ·refine aE (aI (aG (aP (.inr rfl)) ⟨eG (eF cQ),zT⟩ ?_));exact bU
 refine fB (aH (aE (aI (gG ?_))));obtain⟨v10,U,e⟩:=bE e aBo;refine aG (bO rfl U rfl) zU1 ?_;refine zH ?_;refine aX (aH (aE (aI (rF (eF cQ) 24 rfl ?_))));refine go ?_ ?_;refine aJ (aY (fun H E=>∃(j:List (List Rat)),∃(u:Option Nat),∃(x:Nat),∃(q:Nat),vW K j=some r∧j.length=q∧H=[hO (eF cQ) u x 24 q j]∧E=[(7,.vc (pO u q x))]) ?_ (fun J=>?_))
 ·rintro _ _ ⟨j,u,x,q,e,V,rfl,rfl⟩;unfold vW at e;refine go ?_ ?_;refine gV (gW (tU 0 [4,7,40] rfl V ⟨rfl,rfl,rfl,zT⟩ rfl ?_));obtain rfl:=iO e;exact kJ (.inl rfl) Tryz.results38 (.tmp rfl (.tmp rfl .nil)) rfl rfl
 obtain⟨L,hL,y⟩:=aR e;refine dU (fun k a w=>∃(h:List (List Rat)),∃(z:Int),∃(s:Option Nat),∃(t:Nat),∃(f:Nat),oP K I v10 k h z=some L∧h.length=f∧hs _ [hO (eF cQ) s t 24 f h] [(6,.vc (pS (eF cQ) v10)),(7,.vc (pO s f t)),(27,.vc (pS (eF cQ) I)),(28,vI (I.length:Int)),(29,vI z)] a w) K (fun a w ⟨_,_,_,_,_,e,_,_⟩=>by cases e) (fun k a w ⟨h,z,s,t,f,e,F,hh⟩=>dW ?_ hh) (fun a w hh=>⟨([]:List (List Rat)),0,none,0,0,hL,rfl,jG [0] hh⟩);rw[oP.eq_2]at e;refine go ?_ ?_;refine aD e rfl (fun X e=>?_) (fun X e=>?_)
 ·refine go ?_ ?_;refine aJ ?_;obtain⟨v37,h38,e⟩:=aR e;obtain⟨G,h40,e⟩:=bE e aEJ;refine go ?_ ?_;refine aG (iH (C:=(eF cQ)) (xs:=[.tmp 36]) (ps:=[.vc (pS cQ G)]) (zs:=[G]) rfl tyS23 rfl ⟨⟨zT,rfl⟩,zT⟩ rfl) zU1 ?_;obtain⟨Y,O,e⟩:=aR e;refine nZ 0 rfl tyS23 rfl rfl F rfl rfl O (fun b43 c44 H45 e46=>?_);cases e46;obtain⟨v48,h49,e⟩:=aR e;refine go ?_ ?_;exact aF (fun a w hh=>⟨Y,v48,b43,c44,(f+[G].length),e,(dN O F),jG [0] hh⟩)
 refine bF ?_;obtain rfl:=iO e;exact rU J ⟨h,s,t,f,y,F,rfl,rfl⟩ [0]
def bK(K:Nat)(a1:List Int)(v1:(List (List Rat))×(List Rat)):Option Bool:=
 (tC [(v1.2.length:Int),0] a1).bind fun q=>(gA K q 5).bind fun f=>bif((f.1.length:Int) != (v1.2.length:Int)) then((kB K).bind fun s=>some s) else(bif((v1.2.length:Int)==0) then((kB K).bind fun t=>some t) else((wM K f.1).bind fun j=>(vY K f.1 j.1).bind fun e=>bif(j.2 != 0) then(some false) else(bif(e.2 != 0) then(some false) else(bif((e.1.length:Int) != (v1.2.length:Int)) then(some false) else((fX K e.1 v1.2 800).bind fun k=>(lQ K e.1 v1.2).bind fun h=>bif(k.2==15) then(bif(h.2==0) then((mU K e.1 v1.2 h.1).bind fun u=>bif u then((kB K).bind fun x=>some x) else(some false)) else(some false)) else(bif(k.2==0) then(bif(h.2==6) then((kB K).bind fun y=>some y) else(some false)) else(some false)))))))
def kK(K:Nat)(s:List Int)(a1:List Int):Option Bool:=
 (gA K s 5).bind fun v1=>(fX K v1.1 v1.2 800).bind fun q=>bif(decide (0<(v1.2.length:Int))) then((kQ K v1.1).bind fun f=>bif f then((sF K v1.1).bind fun h=>bif h then((tY K v1.1 v1.2).bind fun e=>bif(q.2 != 0) then(some false) else(bif(e.2 != 0) then(some false) else(bif((e.1.length:Int) != 1) then(some false) else((bR e.1 0).bind fun j=>(lD K j q.1.z).bind fun k=>bif(!k) then(some false) else(bK K a1 v1))))) else(bK K a1 v1)) else(bK K a1 v1)) else(bK K a1 v1)
theorem xD{K:Nat}{a0:List Int}{a1:List Int}{r:Bool}(e:kK K a0 a1=some r):Ct Tryz.prog 9 [.vc (pS cI a0),.vc (pS cI a1)] (.vc (pB r)):=by
 unfold kK at e;refine aA Tryz.func9 rfl (by kernel_rfl) Tryz.ntmps9 rfl (fun w0 M0=>?_);obtain⟨v1,h2,e⟩:=bE e xP;obtain⟨v3,h4,e⟩:=bE e qK;refine go ?_ ?_;refine aM rfl tyZ30q (fun b5=>?_);refine mI (t_s 0 rfl rfl rfl tyA30.s) zU2 ?_;refine zH ?_;refine aX (aH (aE (zK (fun H E=>bK K a1 v1=some r∧H=[]∧E=[(1,.vc (pS cI a1)),(6,.vc (pS cQ v1.2))]) ?_ (fun h=>?_))))
 ·rintro _ _ ⟨e,rfl,rfl⟩;unfold bK at e;refine go ?_ ?_;refine aNR (aJ4 (C:=cI) (xs:=[.tmp 71,.const (.int .i64 (0))]) (ps:=[vI (v1.2.length:Int),vI 0]) (zs:=[(v1.2.length:Int),0]) rfl tyS22 rfl ⟨⟨zT,rfl⟩,⟨zT,rfl⟩,zT⟩ rfl) ⟨rfl,rR _ _,zT⟩ (fun b8 _=>?_);refine gG ?_;obtain⟨x11,u,e⟩:=aR e;refine nZ 0 rfl tyS22 rfl rfl rfl rfl rfl u (fun b13 c14 H15 y=>?_);cases y;refine xC 0 [74] rfl (dN u rfl) zU1 rfl ?_;obtain⟨v18,h19,e⟩:=bE e xP;refine go ?_ ?_;refine dK e (fun z e=>?_) (fun z e=>?_)
  ·refine go ?_ ?_;refine kA rfl ?_;obtain⟨v21,h22,e⟩:=bE e sI;exact bU
  refine go ?_ ?_;refine aD e rfl (fun F e=>?_) (fun F e=>?_)
  ·obtain⟨v24,h25,e⟩:=bE e sI;exact bU
  obtain⟨v26,h27,e⟩:=bE e aGr;obtain⟨v28,h29,e⟩:=bE e aHb;refine go ?_ ?_;refine dK e (fun G e=>?_) (fun G e=>?_)
  ·refine go ?_ ?_;refine kA rfl ?_;exact bU
  refine go ?_ ?_;refine dK e (fun I e=>?_) (fun I e=>?_)
  ·refine go ?_ ?_;refine kA rfl ?_;exact bU
  refine go ?_ ?_;refine aD e rfl (fun J e=>?_) (fun J e=>?_)
  ·exact bU
  obtain⟨v33,h34,e⟩:=bE e qK;refine go ?_ ?_;refine aM rfl tyZ30q (fun b35=>?_);obtain⟨v36,h37,e⟩:=bE e zD;refine go ?_ ?_;refine aD e rfl (fun L e=>?_) (fun L e=>?_)
  ·refine go ?_ ?_;refine dK e (fun O e=>?_) (fun O e=>?_)
   ·obtain⟨v40,h41,e⟩:=bE e yB;refine go ?_ ?_;refine dK e (fun U e=>?_) (fun U e=>?_)
    ·obtain⟨v43,h44,e⟩:=bE e sI;exact bU
    exact bU
   exact bU
  refine go ?_ ?_;refine dK e (fun V e=>?_) (fun V e=>?_)
  ·refine go ?_ ?_;refine dK e (fun X e=>?_) (fun X e=>?_)
   ·obtain⟨v47,h48,e⟩:=bE e sI;exact bU
   exact bU
  exact bU
 refine go ?_ ?_;refine dK e (fun Y e=>?_) (fun Y e=>?_)
 ·obtain⟨v50,h51,e⟩:=bE e aAX;refine go ?_ ?_;refine dK e (fun h52 e=>?_) (fun h52 e=>?_)
  ·obtain⟨v53,h54,e⟩:=bE e aDk;refine go ?_ ?_;refine aD e rfl (fun h55 e=>?_) (fun h55 e=>?_)
   ·obtain⟨x,h57,e⟩:=bE e aEl;refine go ?_ ?_;rcases Bool.eq_false_or_eq_true (v3.2 != 0) with j|j
    ·have e:=tH j e;refine drb [0,1,3,7,15,31,63,127,255,511,1023,2047,4095,8191,16383,4095,36863,131071,262143,524287] 20 0 ?_ (fun f k=>?_);refine aX (aH (kA rfl ?_));exact bU
    have e:=rD j e;rcases Bool.eq_false_or_eq_true (x.2 != 0) with q|q
    ·have e:=tH q e;refine drb [0,1,3,7,15,31,63,127,255,511,1023,2047,4095,8191,16383,4095,36863,131071,262143,524287] 20 0 ?_ (fun f k=>?_);refine aX (aH (kA rfl ?_));exact bU
    have e:=rD q e;rcases Bool.eq_false_or_eq_true ((x.1.length:Int) != 1) with t|t
    ·have e:=tH t e;refine drb [0,1,3,7,15,31,63,127,255,511,1023,2047,4095,8191,16383,4095,36863,131071,262143,524287] 20 0 ?_ (fun f k=>?_);refine aX (aH (kA rfl ?_));exact bU
    have e:=rD t e;obtain⟨v63,h64,e⟩:=aR e;obtain⟨v65,h66,e⟩:=bE e tP;refine drb [0,1,3,7,15,31,63,127,255,511,1023,2047,4095,8191,16383,4095,36863,131071,262143,524287] 20 0 ?_ (fun f k=>?_);refine aX (aH (aD e rfl (fun h67 e=>?_) (fun h67 e=>?_)))
    ·exact bU
    refine fB ?_;exact rU h ⟨e,rfl,rfl⟩ []
   refine fB ?_;exact rU h ⟨e,rfl,rfl⟩ []
  refine go ?_ ?_;refine vN rfl ?_;refine fB ?_;exact rU h ⟨e,rfl,rfl⟩ []
 refine go ?_ ?_;refine vN rfl ?_;refine fB ?_;exact rU h ⟨e,rfl,rfl⟩ []
def yH(K:Nat):Option Bool:=
 some true
def oL(K:Nat)(e:List Rat):Nat→Int→Option (LR Bool Unit)
 |0,_=>none
 |k+1,f=>bif(decide (f<(e.length:Int))) then((bR e f).bind fun v6=>(aQo v6).bind fun h=>bif(!h) then(some (.ret false)) else((aV (f+1)).bind fun v11=>oL K e k v11)) else(some (.go ()))
def qY(K:Nat)(e:List Rat):Option Bool:=
 (oL K e K 0).bind fun o=>match o with| .ret r=>some r| .go _=>yH K
def xQ(K:Nat):Option Bool:=
 some true
def nS(K:Nat)(e:List (List Rat))(a1:List Rat):Nat→Int→Option (LR Bool Unit)
 |0,_=>none
 |k+1,f=>bif(decide (f<(e.length:Int))) then((bR e f).bind fun v11=>bif((v11.length:Int) != (a1.length:Int)) then(some (.ret false)) else((bR e f).bind fun h=>(qY K h).bind fun j=>bif(!j) then(some (.ret false)) else((aV (f+1)).bind fun q=>nS K e a1 k q))) else(some (.go ()))
def wI(K:Nat)(e:List (List Rat))(a1:List Rat):Option Bool:=
 bif((e.length:Int) != (a1.length:Int)) then(some false) else(bif(decide (32<(a1.length:Int))) then(some false) else((qY K a1).bind fun f=>bif(!f) then(some false) else((nS K e a1 K 0).bind fun o=>match o with| .ret r=>some r| .go _=>xQ K)))
def wG(K:Nat):Option Bool:=
 some false
def lG(K:Nat)(e:List Rat):Nat→Int→Option (LR Bool Unit)
 |0,_=>none
 |k+1,f=>bif(decide (f<(e.length:Int))) then((bR e f).bind fun v6=>(xR v6).bind fun h=>bif(decide (h<0)) then(some (.ret true)) else((aV (f+1)).bind fun v11=>lG K e k v11)) else(some (.go ()))
def uN(K:Nat)(e:List Rat):Option Bool:=
 (lG K e K 0).bind fun o=>match o with| .ret r=>some r| .go _=>wG K
def wH(K:Nat)(a1:List Rat)(a2:List Rat):Option Bool:=
 (lV K a1 a2).bind fun e=>(xR e).bind fun f=>some (decide (f<0))
def wF(K:Nat)(f:Int)(e:Int→Option (LR Bool Unit))(h:Rat):Option (LR Bool Unit):=
 (xR h).bind fun j=>bif(decide (0<j)) then(some (.ret false)) else((aV (f+1)).bind fun k=>e k)
def lK(K:Nat)(y:List (List Rat))(a1:List Rat)(a2:List Rat)(f:Int):Nat→Rat→Int→Option Rat
 |0,_,_=>none
 |k+1,h,e=>bif(decide (e<(a1.length:Int))) then((bR a2 e).bind fun j=>(bR y e).bind fun q=>(bR q f).bind fun s=>(aEf j s).bind fun t=>(aGb h t).bind fun u=>(aV (e+1)).bind fun x=>lK K y a1 a2 f k u x) else(some h)
def lJ(K:Nat)(h:List (List Rat))(a1:List Rat)(a2:List Rat):Nat→Int→Option (LR Bool Unit)
 |0,_=>none
 |k+1,e=>bif(decide (e<(a1.length:Int))) then((lK K h a1 a2 e K 0 0).bind fun f=>wF K e (lJ K h a1 a2 k) f) else(some (.go ()))
def yG(K:Nat)(e:List (List Rat))(a1:List Rat)(a2:List Rat):Option Bool:=
 (wI K e a1).bind fun v1=>bif(!v1) then(some false) else(bif((a2.length:Int) != (a1.length:Int)) then(some false) else((qY K a2).bind fun v5=>bif(!v5) then(some false) else((uN K a2).bind fun f=>bif f then(some false) else((lJ K e a1 a2 K 0).bind fun o=>match o with| .ret r=>some r| .go _=>wH K a1 a2))))
end Go.Proofs.YtolfcbpgmfbgmaaGreat
set_option linter.unusedVariables false
set_option maxRecDepth 100000
namespace Go.Proofs.YtolfcbpgmfbgmaaGreat
theorem aHE{x m:Int}(e:-9223372036854775808≤x∧x≤9223372036854775807)(hm:0<m):∃r,kZ x m=some r∧0≤r∧r<m:=by
 unfold kZ;by_cases h:x<0
 ·refine⟨(-(x+1))%m,?_,Int.emod_nonneg _ (by omega),Int.emod_lt_of_pos _ hm⟩;rw[dT h,bL,tI (by omega),oB,tI (by omega),oB,vM (by omega) hm,oB]
 ·refine⟨x%m,?_,Int.emod_nonneg _ (by omega),Int.emod_lt_of_pos _ hm⟩;rw[dF h,bG,vM (by omega) hm,oB]
theorem aFw{l:List Int}(f:aAB l)(i:Int){m:Int}(hm:0<m):∃r,cE l i m=some r∧0≤r∧r<m:=by
 unfold cE;by_cases h:i<0
 ·exact⟨0,by rw[dT h,bL],by omega,hm⟩
 ·rw[dF h,bG];by_cases e:(l.length:Int)≤i
  ·exact⟨0,by rw[dT e,bL],by omega,hm⟩
  ·rw[dF e,bG];obtain⟨n,rfl⟩:∃n:Nat,i=n:=⟨i.toNat,by omega⟩;obtain⟨x,j,_,hr⟩:=rdM (xs:=l) (i:=n) (by omega);obtain⟨r,k,q,s⟩:=aHE (f x j) hm;exact⟨r,by rw[hr,oB,k,oB],q,s⟩
theorem aQy{a m:Int}(h:0≤a)(hm:0<m):0≤a%m∧a%m<m:=⟨Int.emod_nonneg _ (by omega),Int.emod_lt_of_pos _ hm⟩
def Bds(k:Nat)(xs:List Rat):Prop:=∀x∈xs,Bd k x
theorem apS{α:Type}{xs:List α}{x:α}(h:xs.length≤60000000000):tC xs [x]=some (xs++[x]):=aBx (by simp;omega)
theorem rdD{α:Type}{xs:List α}{i:Nat}(d:α)(h:i<xs.length):bR xs (i:Int)=some (xs.getD i d):=by
 rw[rdG (x:=xs.getD i d)];simp[List.getD_eq_getElem?_getD,h]
def at'(l:List Rat)(i:Nat):Rat:=l.getD i 0
theorem aNP{l:List Rat}{i:Nat}(h:i<l.length):bR l (i:Int)=some (at' l i):=rdD _ h
theorem aET{l:List Rat}{i:Nat}(h:i<l.length):at' l i∈l:=by
 have:at' l i=l[i]:=by unfold at';simp[List.getD_eq_getElem?_getD,h]
 rw[this];exact List.getElem_mem h
theorem aPQ:((1:Int):Rat)/((1:Int):Rat)=1:=by decide+kernel
def mp{α:Type}(g:Nat→α)(n:Nat):List α:=(List.range n).map g
theorem wD{α:Type}(g:Nat→α):mp g 0=[]:=rfl
theorem aAL{α:Type}(g:Nat→α)(n:Nat):mp g (n+1)=mp g n++[g n]:=by unfold mp;rw[List.range_succ,List.map_append];rfl
theorem aO{α:Type}(g:Nat→α)(n:Nat):(mp g n).length=n:=by simp[mp]
theorem wJ{α:Type}{g:Nat→α}{n i:Nat}(h:i<n):(mp g n)[i]?=some (g i):=by simp[mp,h]
theorem aWw{g:Nat→Rat}{n i:Nat}(h:i<n):at' (mp g n) i=g i:=by
 unfold at' mp;simp[List.getD_eq_getElem?_getD,h]
theorem yT{g:Nat→Rat}{n k:Nat}(h:∀i,i<n→Bd k (g i)):Bds k (mp g n):=fun x e=>by
 obtain⟨i,f,rfl⟩:=List.mem_map.1 e;exact h i (List.mem_range.1 f)
theorem apM{α:Type}{g:Nat→α}{i:Nat}(h:i≤1000000):tC (mp g i) [g i]=some (mp g (i+1)):=by rw[aAL];exact apS (by rw[aO];omega)
theorem bW{α:Type}{f g:Nat→α}{n:Nat}(h:∀i,i<n→f i=g i):mp f n=mp g n:=by
 unfold mp;exact List.map_congr_left fun i e=>h i (List.mem_range.1 e)
def gN{α:Type}(f:Nat→α)(i:Nat)(v:α)(j:Nat):α:=if j=i then v else f j
theorem aN{α:Type}{f:Nat→α}{i:Nat}{v:α}:gN f i v i=v:=if_pos rfl
theorem aZ{α:Type}{f:Nat→α}{i j:Nat}{v:α}(h:j≠i):gN f i v j=f j:=if_neg h
theorem aT7{α:Type}{f:Nat→α}{n i:Nat}{v:α}:(mp f n).set i v=mp (gN f i v) n:=by
 apply List.ext_getElem?;intro j;by_cases e:j<n
 ·rw[List.getElem?_set,wJ e,aO,wJ e];by_cases he:i=j
  ·subst he;rw[if_pos rfl,if_pos e,aN]
  ·rw[if_neg he,aZ (by omega)]
 ·rw[List.getElem?_eq_none (by simp[mp];omega),List.getElem?_eq_none (by simp[mp];omega)]
theorem cD{α:Type}{f:Nat→α}{n i:Nat}(h:i<n):bR (mp f n) (i:Int)=some (f i):=rdG (wJ h)
theorem vA{α:Type}{f:Nat→α}{n i:Nat}{v:α}(h:i<n):rW (mp f n) (i:Int) v=some (mp (gN f i v) n):=by
 rw[stG (by rw[aO];exact h),aT7]
theorem aPg{α:Type}(z:α):∀n,List.replicate n z=mp (fun _=>z) n
 |0=>rfl
 |n+1=>by rw[aAL,←aPg z n,List.replicate_succ']
theorem aC4{α:Type}{n:Nat}{z:α}(h:n≤68719476736):mkL (n:Int) z=some (mp (fun _=>z) n):=by rw[aBz h,aPg]
theorem aUu{α:Type}{f:Nat→α}{n i:Nat}(h:i≤n):slL (mp f n) (i:Int) (n:Int)=some (mp (fun j=>f (i+j)) (n-i)):=by
 unfold slL;rw[if_pos ⟨by omega,by omega,by rw[aO];omega⟩];congr 1;apply List.ext_getElem?;intro j;simp only[Int.toNat_natCast];rw[List.getElem?_take,List.getElem?_drop];by_cases e:j<n-i
 ·rw[if_pos e,wJ e,wJ (by omega)]
 ·rw[if_neg e,List.getElem?_eq_none (by simp[mp];omega)]
theorem qG{i:Nat}(h:i≤1000000000):aV ((i:Int)+1)=some ((i+1:Nat):Int):=xH (m:=0) (n:=i+1) (by omega) (by omega)
theorem zC{a:Rat}:a.num.sign=0↔a=0:=by rw[Int.sign_eq_zero_iff_zero,Rat.num_eq_zero]
def sm(f:Nat→Rat):Nat→Rat
 |0=>0
 |n+1=>sm f n+f n
/-- A matrix of h rows and w columns. -/
def mx(g:Nat→Nat→Rat)(h w:Nat):List (List Rat):=mp (fun i=>mp (g i) w) h
theorem yO{g:Nat→Nat→Rat}{h w i:Nat}(e:i<h):bR (mx g h w) (i:Int)=some (mp (g i) w):=cD e
theorem iE{g:Nat→Nat→Rat}{h w:Nat}:(mx g h w).length=h:=aO _ _
def qX(h w b:Nat)(g:Nat→Nat→Rat):Prop:=∀i c,i<h→c<w→Bd b (g i c)
theorem qX.mono{h w b b':Nat}{g:Nat→Nat→Rat}(e:qX h w b g)(hb:b≤b'):qX h w b' g:=fun i c f hc=>(e i c f hc).mono hb
def piv(g:Nat→Nat→Rat)(k:Nat):Nat→Nat→Nat
 |0,i=>i
 |t+1,i=>if g i k=0 then piv g k t (i+1) else i
theorem aFj{g:Nat→Nat→Rat}{k:Nat}:∀(t i:Nat),i≤piv g k t i∧piv g k t i≤i+t
 |0,i=>⟨Nat.le_refl _,Nat.le_refl _⟩
 |t+1,i=>by
  have h:=aFj (g:=g) (k:=k) t (i+1);unfold piv;split<;>omega
theorem aOi{g:Nat→Nat→Rat}{k:Nat}:∀(t i j:Nat),i≤j→j<piv g k t i→g j k=0
 |0,i,j,f,e=>by simp only[piv]at e;omega
 |t+1,i,j,f,e=>by
  unfold piv at e;split at e
  ·rename_i h;by_cases he:j=i
   ·rw[he];exact h
   ·exact aOi t (i+1) j (by omega) e
  ·omega
theorem aHr{g:Nat→Nat→Rat}{k:Nat}:∀(t i:Nat),piv g k t i<i+t→g (piv g k t i) k≠0
 |0,i,h=>by simp only[piv]at h;omega
 |t+1,i,h=>by
  unfold piv at h ⊢;split at h
  ·rename_i e;rw[if_pos e];exact aHr t (i+1) (by omega)
  ·rename_i e;rw[if_neg e];exact e
def yI(g:Nat→Nat→Rat)(n at0 i:Nat):Nat→Rat:=g (if i=n then at0 else if i=at0 then n else i)
def pr(g:Nat→Nat→Rat)(at0 k c:Nat):Rat:=g at0 c/g at0 k
def stp(g:Nat→Nat→Rat)(n at0 k i c:Nat):Rat:=if i=n then pr g at0 k c else yI g n at0 i c-yI g n at0 i k*pr g at0 k c
structure RS where
 ps:List Nat
 g:Nat→Nat→Rat
 d:Rat
def aCk(h k:Nat)(s:RS):RS:=
 if piv s.g k (h-s.ps.length) s.ps.length=h then s
 else⟨s.ps++[k],stp s.g s.ps.length (piv s.g k (h-s.ps.length) s.ps.length) k,(if piv s.g k (h-s.ps.length) s.ps.length=s.ps.length then s.d else -s.d)*s.g (piv s.g k (h-s.ps.length) s.ps.length) k⟩
def vO(g:Nat→Nat→Rat)(h:Nat):Nat→RS
 |0=>⟨[],g,1⟩
 |k+1=>aCk h k (vO g h k)
structure RI (h w b k:Nat) (s:RS):Prop where
 ph:s.ps.length≤h
 pk:∀j,j∈s.ps→j<k
 z:∀i c,s.ps.length≤i→i<h→c<k→s.g i c=0
 bd:qX h w (5^k*b) s.g
 bdd:Bd (5^k*b) s.d
theorem aOt{g:Nat→Nat→Rat}{h w b at0 k c:Nat}(e:qX h w b g)(f:at0<h)(j:k<w)(hc:c<w):Bd (b+b) (pr g at0 k c):=(e _ _ f hc).div (e _ _ f j)
theorem aE2{h n at0 i:Nat}(e:n<h)(f:at0<h)(j:i<h):(if i=n then at0 else if i=at0 then n else i)<h:=by split;exact f;split;exact e;exact j
theorem aK5{g:Nat→Nat→Rat}{h w b n at0 i c:Nat}(e:qX h w b g)(f:n<h)(j:at0<h)(k:i<h)(hc:c<w):Bd b (yI g n at0 i c):=e _ _ (aE2 f j k) hc
theorem aTU{g:Nat→Nat→Rat}{h w b n at0 k:Nat}(e:qX h w b g)(hb:1≤b)(q:n<h)(f:at0<h)(j:k<w):qX h w (5*b) (stp g n at0 k):=fun i c s hc=>by
 unfold stp;split
 ·exact(aOt e f j hc).mono (by omega)
 ·exact((aK5 e q f s hc).sub ((aK5 e q f s j).mul (aOt e f j hc))).mono (by omega)
theorem aGc(k b:Nat)(hb:2≤b):2≤5^k*b:=Nat.le_trans hb (Nat.le_mul_of_pos_left b (Nat.pow_pos (by omega)))
theorem aNn{h w b k:Nat}{s:RS}(hs:RI h w b k s)(hb:2≤b)(t:k<w):RI h w b (k+1) (aCk h k s):=by
 have hp:=aFj (g:=s.g) (k:=k) (h-s.ps.length) s.ps.length;have F:s.ps.length+(h-s.ps.length)=h:=by have:=hs.ph;omega
 have u:5^(k+1)*b=5*(5^k*b):=by rw[Nat.pow_succ,Nat.mul_comm (5^k) 5,Nat.mul_assoc]
 have x:=aGc k b hb;unfold aCk;split
 ·rename_i hat;refine⟨hs.ph,fun j e=>Nat.lt_succ_of_lt (hs.pk j e),fun i c f hh hc=>?_,hs.bd.mono (by omega),hs.bdd.mono (by omega)⟩;by_cases he:c=k
  ·subst he;exact aOi (h-s.ps.length) s.ps.length i f (by omega)
  ·exact hs.z i c f hh (by omega)
 ·rename_i hat;have hlt:piv s.g k (h-s.ps.length) s.ps.length<h:=by omega
  have hne:=aHr (g:=s.g) (k:=k) (h-s.ps.length) s.ps.length (by omega);generalize G:piv s.g k (h-s.ps.length) s.ps.length=at0 at *;refine⟨by simp only[List.length_append,List.length_singleton];omega,fun j e=>?_,fun i c f hh hc=>?_,?_,?_⟩
  ·simp only[List.mem_append,List.mem_singleton]at e;rcases e with e|e
   ·exact Nat.lt_succ_of_lt (hs.pk j e)
   ·omega
  ·simp only[List.length_append,List.length_singleton]at f;have y:∀c',c'<k→s.g at0 c'=0:=fun c' q=>hs.z at0 c' hp.1 hlt q
   show stp s.g s.ps.length at0 k i c=0;unfold stp;rw[if_neg (by omega)];by_cases he:c=k
   ·subst he;unfold pr;rw[Rat.div_def,Rat.mul_inv_cancel _ hne,Rat.mul_one,Rat.sub_self]
   ·unfold pr;rw[y c (by omega)];have:yI s.g s.ps.length at0 i c=0:=by
     unfold yI;rw[if_neg (by omega)];split
     ·exact hs.z _ c (Nat.le_refl _) (by omega) (by omega)
     ·exact hs.z _ c (by omega) hh (by omega)
    rw[this];grind
  ·rw[u];exact aTU hs.bd (by omega) (by omega) hlt t
  ·rw[u];refine Bd.mono (Bd.mul (m:=5^k*b) ?_ (hs.bd _ _ hlt t)) (by omega);split
   ·exact hs.bdd
   ·exact hs.bdd.neg
theorem aIJ{g:Nat→Nat→Rat}{h w b:Nat}(e:qX h w b g)(hb:2≤b):∀k,k≤w→RI h w b k (vO g h k)
 |0,_=>⟨Nat.zero_le _,fun j f=>by simp[vO]at f,fun i c _ _ hc=>absurd hc (by omega),by simpa [vO] using e,by
   have:Bd 2 1:=by constructor<;>decide
   simpa [vO] using this.mono hb⟩
 |k+1,q=>aNn (aIJ e hb k (by omega)) hb (by omega)
def yM(l:List Nat):List Int:=l.map fun(k:Nat)=>(k:Int)
theorem oJ(l:List Nat):(yM l).length=l.length:=by simp[yM]
theorem aNC(l:List Nat)(k:Nat):yM (l++[k])=yM l++[(k:Int)]:=by simp[yM]
theorem apI{l:List Nat}{k:Nat}(h:l.length≤1000000):tC (yM l) [(k:Int)]=some (yM (l++[k])):=by rw[aNC];exact apS (by rw[oJ];omega)
theorem aR5{i w b:Nat}(e:i≤w):5^i*b≤5^w*b:=Nat.mul_le_mul_right b (Nat.pow_le_pow_right (by omega) e)
/-- The rows that the list of indices names, in a pool of rows. -/
structure Rep (ι:Nat→Nat) (pool:List (List Rat)) (g:Nat→Nat→Rat) (h w:Nat):Prop where
 inj:∀i j,i<h→j<h→ι i=ι j→i=j
 lt:∀i,i<h→ι i<pool.length
 el:∀i,i<h→pool.getD (ι i) []=mp (g i) w
theorem Rep.set{ι:Nat→Nat}{pool:List (List Rat)}{g:Nat→Nat→Rat}{h w i:Nat}(r:Rep ι pool g h w)(k:i<h)(f:Nat→Rat):Rep ι (pool.set (ι i) (mp f w)) (gN g i f) h w:=by
 refine⟨r.inj,fun j e=>by rw[List.length_set];exact r.lt j e,fun j e=>?_⟩;rw[List.getD_eq_getElem?_getD,List.getElem?_set];by_cases he:j=i
 ·subst he;rw[if_pos rfl,if_pos (r.lt j e),aN];rfl
 ·rw[if_neg (fun h=>he (r.inj j i e k h.symm)),←List.getD_eq_getElem?_getD,r.el j e,aZ he]
theorem Rep.congr{ι:Nat→Nat}{pool:List (List Rat)}{g g':Nat→Nat→Rat}{h w:Nat}(r:Rep ι pool g h w)(e:∀i c,i<h→c<w→g i c=g' i c):Rep ι pool g' h w:=
 ⟨r.inj,r.lt,fun i f=>by rw[r.el i f];exact bW fun c hc=>e i c f hc⟩
theorem Rep.sel{ι:Nat→Nat}{pool:List (List Rat)}{g:Nat→Nat→Rat}{h w:Nat}(r:Rep ι pool g h w):aAO pool (mp ι h)=mx g h w:=by
 unfold aAO mx;apply List.ext_getElem?;intro j;by_cases e:j<h
 ·rw[List.getElem?_map,wJ e,wJ e,←r.el j e];rfl
 ·rw[List.getElem?_map,List.getElem?_eq_none (by simp[mp];omega),List.getElem?_eq_none (by simp[mp];omega)];rfl
theorem Rep.swap{ι:Nat→Nat}{pool:List (List Rat)}{g:Nat→Nat→Rat}{h w n a:Nat}(r:Rep ι pool g h w)(q:n<h)(s:a<h)(hne:n≠a):Rep (gN (gN ι n (ι a)) a (ι n)) pool (yI g n a) h w:=by
 have key:∀i,gN (gN ι n (ι a)) a (ι n) i=ι (if i=n then a else if i=a then n else i):=fun i=>by
  unfold gN;by_cases f:i=n
  ·rw[if_pos f,if_neg (by omega),if_pos f]
  ·rw[if_neg f];by_cases t:i=a
   ·rw[if_pos t,if_pos t,if_neg f]
   ·rw[if_neg t,if_neg f,if_neg t]
 refine⟨fun i j k u e=>?_,fun i k=>?_,fun i k=>?_⟩
 ·rw[key,key]at e;have:=r.inj _ _ (aE2 q s k) (aE2 q s u) e;split at this<;>split at this<;>(try split at this)<;>(try split at this)<;>omega
 ·rw[key];exact r.lt _ (aE2 q s k)
 ·rw[key];exact r.el _ (aE2 q s k)
def mid(f e:Nat→Rat)(c j:Nat):Rat:=if j<c then f j else e j
theorem aK7{f e:Nat→Rat}{c:Nat}:mid f e c c=e c:=if_neg (Nat.lt_irrefl c)
theorem aAn{f e:Nat→Rat}{c:Nat}:gN (mid f e c) c (f c)=mid f e (c+1):=by
 funext j;unfold gN mid;by_cases h:j=c
 ·rw[if_pos h,if_pos (by omega),h]
 ·rw[if_neg h];by_cases k:j<c
  ·rw[if_pos k,if_pos (by omega)]
  ·rw[if_neg k,if_neg (by omega)]
theorem aPE{f e:Nat→Rat}{c:Nat}(h:f c=e c):mid f e c=mid f e (c+1):=by
 funext j;unfold mid;by_cases q:j=c
 ·rw[if_neg (by omega),if_pos (by omega),q,h]
 ·by_cases k:j<c
  ·rw[if_pos k,if_pos (by omega)]
  ·rw[if_neg k,if_neg (by omega)]
theorem aFN{f e:Nat→Rat}{c j:Nat}(h:j<c):mid f e c j=f j:=if_pos h
theorem aIN{α:Type}{g:Nat→α}{i:Nat}{x y:α}:gN (gN g i x) i y=gN g i y:=by
 funext j;unfold gN;split<;>rfl
def clr(g:Nat→Nat→Rat)(i p:Nat)(v:Rat)(c:Nat):Rat:=g i c-v*g p c
theorem aE1{ι:Nat→Nat}{g:Nat→Nat→Rat}{h w b b' i p:Nat}{v:Rat}(s:∀c,c<w→Bd b (g i c))(e:∀c,c<w→Bd b' (g p c))(hv:Bd b v)(hb:b+b+b'≤1073741824)(hw:w≤1000)(q:i<h)(hp:p<h)(hne:p≠i)(K:Nat):∀(t c k:Nat) (pool:List (List Rat)),c+t=w→t<k→Rep ι pool (gN g i (mid (clr g i p v) (g i) c)) h w→
  ∃pool',Rep ι pool' (gN g i (clr g i p v)) h w∧iI K (i:Int) (p:Int) v k (mp ι h) pool (c:Int)=some (mp ι h,pool')
 |0,c,k,pool,hc,u,r=>by
  have:c=w:=by omega
  subst this;obtain⟨y,rfl,_⟩:=aT u;refine⟨pool,r.congr fun j x U L=>?_,?_⟩
  ·by_cases he:j=i
   ·rw[he,aN,aN,aFN L]
   ·rw[aZ he,aZ he]
  ·simp only[iI,cD (f:=ι) q,oB,r.el i q,aO,dF (show¬(c:Int)<(c:Int) by omega),bG]
 |t+1,c,k,pool,hc,u,r=>by
  obtain⟨y,rfl,_⟩:=aT u;have hcw:c<w:=by omega
  have F:=r.el i q;rw[aN]at F;have G:=r.el p hp;rw[aZ hne]at G;simp only[iI,cD (f:=ι) q,cD (f:=ι) hp,oB,F,G,aO,dT (show(c:Int)<(w:Int) by omega),bL,cD (f:=g p) hcw,kI (e c hcw) (by omega)];by_cases z:g p c=0
  ·simp only[nF (zC.2 z),bG,qG (i:=c) (by omega),oB];refine aE1 s e hv hb hw q hp hne K t (c+1) y pool (by omega) (by omega) ?_;rw[←aPE (show clr g i p v c=g i c by unfold clr;rw[z];grind)];exact r
  ·have I:=r.set q (gN (mid (clr g i p v) (g i) c) c (clr g i p v c));rw[aIN,aAn]at I;obtain⟨pool',O,J⟩:=aE1 s e hv hb hw q hp hne K t (c+1) y _ (by omega) (by omega) I;refine⟨pool',O,?_⟩;simp only[nT (fun h=>z (zC.1 h)),bL,cD (f:=mid (clr g i p v) (g i) c) hcw,aK7,yX hv (e c hcw) (by omega) (by omega),aBF (s c hcw) (hv.mul (e c hcw)) (by omega) (by omega),oB,vA (f:=mid (clr g i p v) (g i) c) hcw,qG (i:=c) (by omega)];rw[←aAn]at J;exact J
theorem aOS{ι:Nat→Nat}{pool:List (List Rat)}{g:Nat→Nat→Rat}{h w b b' i p c0:Nat}{ps:List Int}{d:Rat}(k:∀c,c<w→Bd b (g i c))(q:∀c,c<w→Bd b' (g p c))(hb:b+b+b'≤1073741824)(hw:w≤1000)(e:i<h)(hp:p<h)(hc:c0<w)(hne:p≠i)(u:∀c,c<c0→g p c=0){K:Nat}(I:w<K)(r:Rep ι pool g h w):
  ∃pool',Rep ι pool' (gN g i (clr g i p (g i c0))) h w∧pT K ((mp ι h,pool),ps,d) (i:Int) (p:Int) (c0:Int)=some ((mp ι h,pool'),ps,d):=by
 by_cases s:g i c0=0
 ·refine⟨pool,r.congr fun j x t y=>?_,?_⟩
  ·by_cases he:j=i
   ·rw[he,aN];unfold clr;rw[s];grind
   ·rw[aZ he]
  ·simp only[pT,cD (f:=ι) e,oB,r.el i e,cD (f:=g i) hc,kI (k c0 hc) (by omega),qT (zC.2 s),bL]
 ·have z:mid (clr g i p (g i c0)) (g i) c0=g i:=by
   funext j;unfold mid;split
   ·rename_i t;unfold clr;rw[u j t];grind
   ·rfl
  obtain⟨pool',F,G⟩:=aE1 (v:=g i c0) k q (k c0 hc) hb hw e hp hne K (w-c0) c0 K pool (by omega) (by omega) (by
   rw[z];exact r.congr fun j x t y=>by
    by_cases he:j=i
    ·rw[he,aN]
    ·rw[aZ he])
  refine⟨pool',F,?_⟩;simp only[pT,cD (f:=ι) e,oB,r.el i e,cD (f:=g i) hc,kI (k c0 hc) (by omega),qF (fun h=>s (zC.1 h)),bG,G,rV]
theorem aFr{ι:Nat→Nat}{g:Nat→Nat→Rat}{h w b:Nat}{ps:List Nat}{v:Rat}(q:∀c,c<w→Bd b (g ps.length c))(hv:Bd b v)(hb:b≤1073741824)(hw:w≤1000)(hp:ps.length<h)(K:Nat):∀(t c k:Nat) (pool:List (List Rat)),c+t=w→t<k→Rep ι pool (gN g ps.length (mid (fun c=>g ps.length c/v) (g ps.length) c)) h w→
  ∃pool',Rep ι pool' (gN g ps.length (fun c=>g ps.length c/v)) h w∧lC K (yM ps) v k (mp ι h) pool (c:Int)=some (mp ι h,pool')
 |0,c,k,pool,hc,e,r=>by
  have:c=w:=by omega
  subst this;obtain⟨s,rfl,_⟩:=aT e;refine⟨pool,r.congr fun j x I F=>?_,?_⟩
  ·by_cases he:j=ps.length
   ·rw[he,aN,aN,aFN F]
   ·rw[aZ he,aZ he]
  ·simp only[lC,oJ,cD (f:=ι) hp,oB,r.el _ hp,aO,dF (show¬(c:Int)<(c:Int) by omega),bG]
 |t+1,c,k,pool,hc,e,r=>by
  obtain⟨s,rfl,_⟩:=aT e;have hcw:c<w:=by omega
  have u:=r.el _ hp;rw[aN]at u;have y:=r.set hp (gN (mid (fun c=>g ps.length c/v) (g ps.length) c) c (g ps.length c/v));rw[aIN,aAn (f:=fun c=>g ps.length c/v)]at y;obtain⟨pool',G,z⟩:=aFr q hv hb hw hp K t (c+1) s _ (by omega) (by omega) y;refine⟨pool',G,?_⟩;simp only[lC,oJ,cD (f:=ι) hp,oB,u,aO,dT (show(c:Int)<(w:Int) by omega),bL,cD (f:=mid (fun c=>g ps.length c/v) (g ps.length) c) hcw,aK7,aBw (q c hcw) hv hb hb,vA (f:=mid (fun c=>g ps.length c/v) (g ps.length) c) hcw,qG (i:=c) (by omega)];rw[←aAn]at z;exact z
def els(g:Nat→Nat→Rat)(p c0 i j c:Nat):Rat:=if j<i∧j≠p then g j c-g j c0*g p c else g j c
theorem aER{ι:Nat→Nat}{g:Nat→Nat→Rat}{h w b b' c0:Nat}{ps:List Nat}{d:Rat}(u:∀j c,j<h→j≠ps.length→c<w→Bd b (g j c))(f:∀c,c<w→Bd b' (g ps.length c))(hb:b+b+b'≤1073741824)(hw:w≤1000)(hh:h≤1000)(hp:ps.length<h)(hc:c0<w)(x:∀c,c<c0→g ps.length c=0){K:Nat}(y:w<K):∀(t i k:Nat) (pool:List (List Rat)),i+t=h→t<k→Rep ι pool (els g ps.length c0 i) h w→
  ∃pool',Rep ι pool' (els g ps.length c0 h) h w∧gR K (yM ps) (c0:Int) (mp ι h) k (yM ps) (mp ι h) pool d (i:Int)=some (yM ps,mp ι h,pool',d)
 |0,i,k,pool,U,z,r=>by
  have:i=h:=by omega
  subst this;obtain⟨F,rfl,_⟩:=aT z;exact⟨pool,r,by simp only[gR,aO,dF (show¬(i:Int)<(i:Int) by omega),bG]⟩
 |t+1,i,k,pool,U,z,r=>by
  obtain⟨F,rfl,_⟩:=aT z;have hih:i<h:=by omega
  by_cases he:i=ps.length
  ·have e:els g ps.length c0 i=els g ps.length c0 (i+1):=by
    funext j c;unfold els;by_cases q:j=ps.length
    ·rw[if_neg (by omega),if_neg (by omega)]
    ·by_cases s:j<i
     ·rw[if_pos ⟨s,q⟩,if_pos ⟨by omega,q⟩]
     ·rw[if_neg (by omega),if_neg (by omega)]
   rw[e]at r;obtain⟨pool',G,I⟩:=aER u f hb hw hh hp hc x y t (i+1) F pool (by omega) (by omega) r;refine⟨pool',G,?_⟩;simp only[gR,aO,dT (show(i:Int)<(h:Int) by omega),bL,oJ,nF (show(i:Int)=(ps.length:Int) by omega),bG,qG (i:=i) (by omega),oB];exact I
  ·have L:els g ps.length c0 i i=g i:=by funext c;unfold els;rw[if_neg (by omega)]
   have J:els g ps.length c0 i ps.length=g ps.length:=by funext c;unfold els;rw[if_neg (by omega)]
   obtain⟨V,O,X⟩:=aOS (ps:=yM ps) (d:=d) (g:=els g ps.length c0 i) (i:=i) (p:=ps.length) (c0:=c0) (b:=b) (b':=b') (by rw[L];exact fun c hc=>u i c hih he hc) (by rw[J];exact f) hb hw hih hp hc (fun h=>he h.symm) (by rw[J];exact x) y r;have e:gN (els g ps.length c0 i) i (clr (els g ps.length c0 i) i ps.length (els g ps.length c0 i i c0))=els g ps.length c0 (i+1):=by
    funext j c;by_cases q:j=i
    ·rw[q,aN];unfold clr;rw[L,J];unfold els;rw[if_pos ⟨by omega,he⟩]
    ·rw[aZ q];unfold els;by_cases s:j<i∧j≠ps.length
     ·rw[if_pos s,if_pos ⟨by omega,s.2⟩]
     ·rw[if_neg s,if_neg (by omega)]
   rw[e]at O;obtain⟨pool',G,I⟩:=aER u f hb hw hh hp hc x y t (i+1) F V (by omega) (by omega) O;refine⟨pool',G,?_⟩;simp only[gR,aO,dT (show(i:Int)<(h:Int) by omega),bL,oJ,nT (show(i:Int)≠(ps.length:Int) by omega),X,qG (i:=i) (by omega),oB];exact I
theorem aKr{g:Nat→Nat→Rat}{h w b c n:Nat}(u:qX h w b g)(hb:b≤1073741824)(hh:h≤1000)(hc:c<w)(y:n≤h)(K:Nat):∀(t i k:Nat),n+i+t=h→t<k→cM K (mp (fun j=>mp (g (n+j)) w) (h-n)) (l4 (c:Int)) k (i:Int)=some (if piv g c t (n+i)=h then .go () else .ret ((piv g c t (n+i):Int)-n))
 |0,i,k,z,s=>by
  obtain⟨x,rfl,_⟩:=aT s;have e:piv g c 0 (n+i)=h:=by simp only[piv];omega
  rw[if_pos e];simp only[cM,aO,dF (show¬(i:Int)<((h-n:Nat):Int) by omega),bG]
 |t+1,i,k,z,s=>by
  obtain⟨x,rfl,_⟩:=aT s;have F:=u (n+i) c (by omega) hc;simp only[cM,aO,dT (show(i:Int)<((h-n:Nat):Int) by omega),bL,cD (f:=fun j=>mp (g (n+j)) w) (show i<h-n by omega),oB,l4,cD (f:=g (n+i)) hc,kI F hb,piv];by_cases q:g (n+i) c=0
  ·simp only[nF (zC.2 q),bG,if_pos q,qG (i:=i) (by omega),oB];exact aKr u hb hh hc y K t (i+1) x (by omega) (by omega)
  ·simp only[nT (fun h=>q (zC.1 h)),bL,if_neg q,if_neg (show¬n+i=h by omega)];congr 2;omega
theorem aO2{g:Nat→Nat→Rat}{h w b c n:Nat}(e:qX h w b g)(hb:b≤1073741824)(hh:h≤1000)(hc:c<w)(f:n≤h){K:Nat}(k:h<K):gB K (mp (fun j=>mp (g (n+j)) w) (h-n)) (l4 (c:Int))=some (if piv g c (h-n) n=h then -1 else(piv g c (h-n) n:Int)-n):=by
 have:=aKr e hb hh hc f K (h-n) 0 K (by omega) (by omega);simp only[Int.natCast_zero,Nat.add_zero]at this;by_cases hat:piv g c (h-n) n=h
 ·rw[if_pos hat]at this ⊢;simp only[gB,this,oB,kV]
 ·rw[if_neg hat]at this ⊢;simp only[gB,this,oB]
theorem aFs{g:Nat→Nat→Rat}{h w n b:Nat}(U:qX h w b g)(hb:2≤b)(hn:n≤w)(hB:5^n*b≤200000000)(hh:h≤1000)(hw:w≤1000){K:Nat}(hK:w+h<K):∀(t i k:Nat) (ι:Nat→Nat) (pool:List (List Rat)),i+t=n→t<k→Rep ι pool (vO g h i).g h w→
  ∃ι' pool',Rep ι' pool' (vO g h n).g h w∧cV K (n:Int) k (yM (vO g h i).ps) (mp ι h) pool (vO g h i).d (i:Int)=some (yM (vO g h n).ps,mp ι' h,pool',(vO g h n).d)
 |0,i,k,ι,pool,hi,J,r=>by
  have:i=n:=by omega
  subst this;obtain⟨L,rfl,_⟩:=aT J;exact⟨ι,pool,r,by simp only[cV,dF (show¬(i:Int)<(i:Int) by omega),bG]⟩
 |t+1,i,k,ι,pool,hi,J,r=>by
  obtain⟨L,rfl,_⟩:=aT J;have hs:=aIJ U hb i (by omega);have ih:=aFs U hb hn hB hh hw hK t (i+1) L;have h5:5^i*b≤200000000:=Nat.le_trans (aR5 (by omega)) hB;simp only[vO]at ih;generalize vO g h i=s at *;have hp:=aFj (g:=s.g) (k:=i) (h-s.ps.length) s.ps.length;have hl:s.ps.length+(h-s.ps.length)=h:=by have:=hs.ph;omega
  have hc:i<w:=by omega
  have hsl:=aUu (f:=fun j=>mp (s.g j) w) hs.ph;simp only[cV,dT (show(i:Int)<(n:Int) by omega),bL,oJ,r.sel,iE];unfold mx;simp only[hsl,oB,aO2 hs.bd (by omega) hh hc hs.ph (K:=K) (by omega)];unfold aCk at ih;by_cases hat:piv s.g i (h-s.ps.length) s.ps.length=h
  ·simp only[if_pos hat]at ih ⊢;obtain⟨ι',pool',q,u⟩:=ih ι pool (by omega) (by omega) r;refine⟨ι',pool',q,?_⟩;simp only[show decide ((-1:Int)<0)=true from rfl,bL,qG (i:=i) (by omega),oB];exact u
  ·simp only[if_neg hat]at ih ⊢;have hlt:piv s.g i (h-s.ps.length) s.ps.length<h:=by omega
   have hnz:=aHr (g:=s.g) (k:=i) (h-s.ps.length) s.ps.length (by omega);generalize ha:piv s.g i (h-s.ps.length) s.ps.length=at0 at *;have hpl:s.ps.length<h:=by omega
   have hsb:qX h w (5^i*b) (yI s.g s.ps.length at0):=fun j c e hc=>aK5 hs.bd hpl hlt e hc
   have y:yI s.g s.ps.length at0 s.ps.length=s.g at0:=by unfold yI;rw[if_pos rfl]
   have go:∀(ι1:Nat→Nat) (d1:Rat),Rep ι1 pool (yI s.g s.ps.length at0) h w→Bd (5^i*b) d1→d1=(if at0=s.ps.length then s.d else -s.d)→
     ∃ι' pool',Rep ι' pool' (vO g h n).g h w∧mT K (yM s.ps) (i:Int) (cV K (n:Int) L) (mp ι1 h) pool d1=some (yM (vO g h n).ps,mp ι' h,pool',(vO g h n).d):=by
    intro ι1 d1 V O ed;have X:=V.el _ hpl;rw[y]at X;have hrow:∀c,c<w→Bd (5^i*b) (yI s.g s.ps.length at0 s.ps.length c):=fun c hc=>hsb _ c hpl hc
    have F:∀c,c<i→s.g at0 c=0:=fun c hc=>hs.z at0 c hp.1 hlt hc
    obtain⟨p2,r2,q2⟩:=aFr (ps:=s.ps) (v:=s.g at0 i) hrow (hs.bd at0 i hlt hc) (by omega) hw hpl K (w-i) i K pool (by omega) (by omega) (by
     refine V.congr fun j x e Y=>?_
     by_cases he:j=s.ps.length
     ·rw[he,aN];unfold mid;split
      ·rename_i hxi;rw[y,F x hxi];grind
      ·rfl
     ·rw[aZ he])
    generalize hG:gN (yI s.g s.ps.length at0) s.ps.length (fun c=>yI s.g s.ps.length at0 s.ps.length c/s.g at0 i)=G at *;have I:G s.ps.length=pr s.g at0 i:=by rw[←hG,aN];funext c;rw[y];rfl
    have G1:∀j,j≠s.ps.length→G j=yI s.g s.ps.length at0 j:=fun j e=>by rw[←hG,aZ e]
    obtain⟨p3,r3,q3⟩:=aER (g:=G) (b:=5^i*b) (b':=5^i*b+5^i*b) (c0:=i) (ps:=s.ps) (d:=d1*s.g at0 i) (fun j c e hne hc=>by rw[G1 j hne];exact hsb j c e hc) (fun c hc=>by rw[I];exact aOt hs.bd hlt (by omega) hc) (by omega) hw hh hpl hc (fun c hc=>by rw[I];unfold pr;rw[F c hc];grind) (K:=K) (by omega) h 0 K p2 (by omega) (by omega) (r2.congr fun j x e Y=>by unfold els;rw[if_neg (by omega)]);obtain⟨ι',pool',q,u⟩:=ih ι1 p3 (by omega) (by omega) (r3.congr fun j x e Y=>by
     unfold els stp;by_cases he:j=s.ps.length
     ·rw[if_neg (by omega),if_pos he,he,I]
     ·rw[if_pos ⟨e,he⟩,if_neg he,I,G1 j he])
    refine⟨ι',pool',q,?_⟩;simp only[Int.natCast_zero]at q3;simp only[mT,oJ,cD (f:=ι1) hpl,oB,X,cD (f:=s.g at0) hc,yX O (hs.bd at0 i hlt hc) (by omega) (by omega),q2,s8,q3,sK,apI (k:=i) (l:=s.ps) (by have:=hs.ph;omega),qG (i:=i) (by omega)];rw[ed];exact u
   by_cases he:at0=s.ps.length
   ·have ew:yI s.g s.ps.length at0=s.g:=by
     funext j;unfold yI;split
     ·rename_i e;rw[he,e]
     ·split
      ·rename_i q u;exact absurd (u.trans he) q
      ·rfl
    obtain⟨ι',pool',q,u⟩:=go ι s.d (by rw[ew];exact r) hs.bdd (by rw[if_pos he]);refine⟨ι',pool',q,?_⟩;simp only[dF (show¬((at0:Int)-(s.ps.length:Int)<0) by omega),bG,dF (show¬(0<(at0:Int)-(s.ps.length:Int)) by omega)];exact u
   ·obtain⟨ι',pool',q,u⟩:=go _ (-s.d) (r.swap hpl hlt (fun h=>he h.symm)) hs.bdd.neg (by rw[if_neg he]);refine⟨ι',pool',q,?_⟩;have e3:aV ((s.ps.length:Int)+((at0:Int)-(s.ps.length:Int)))=some (at0:Int):=xH (m:=0) (n:=at0) (by omega) (by omega);simp only[dF (show¬((at0:Int)-(s.ps.length:Int)<0) by omega),bG,dT (show(0<(at0:Int)-(s.ps.length:Int)) by omega),bL,e3,oB,cD (f:=ι) hlt,cD (f:=ι) hpl,vA (f:=ι) hpl,cD (f:=gN ι s.ps.length (ι at0)) hlt,vA (f:=gN ι s.ps.length (ι at0)) hlt,yU hs.bdd (by omega)];exact u
theorem aGE{g:Nat→Nat→Rat}{h w:Nat}(hh:h≤1000)(hw:w≤1000)(K:Nat):∀(t i k:Nat),i+t=h→t<k→lR K (mx g h w) k (mp id i) (mp (fun i=>mp (g i) w) i) (i:Int)=some (mp id h,mx g h w)
 |0,i,k,j,e=>by
  have:i=h:=by omega
  subst this;obtain⟨f,rfl,_⟩:=aT e;simp only[lR,iE,dF (show¬(i:Int)<(i:Int) by omega),bG];rfl
 |t+1,i,k,j,e=>by
  obtain⟨f,rfl,_⟩:=aT e;have q:tC ([]:List Rat) (mp (g i) w)=some (mp (g i) w):=by rw[aBx (by rw[aO,List.length_nil];omega),List.nil_append]
  have s:=apM (g:=(id:Nat→Nat)) (i:=i) (by omega);simp only[id]at s;simp only[lR,iE,dT (show(i:Int)<(h:Int) by omega),bL,yO (g:=g) (w:=w) (show i<h by omega),oB,dR,q,aO,qG (i:=i) (by omega)];have u:tC (mp id i) [i]=some (mp id (i+1)):=apM (g:=(id:Nat→Nat)) (i:=i) (by omega);rw[u];simp only[oB];rw[←aAL (fun i=>mp (g i) w) i];exact aGE hh hw K t (i+1) f (by omega) (by omega)
theorem aEo:qof 1 1=some 1:=by rw[aIL (by omega) (by omega),aPQ]
theorem aHK{g:Nat→Nat→Rat}{h w n b:Nat}(s:qX h w b g)(hb:2≤b)(t:n≤w)(hB:5^n*b≤200000000)(hh:h≤1000)(hw:w≤1000){K:Nat}(u:w+h<K):rZ K (mx g h w) (n:Int)=some ⟨mx (vO g h n).g h w,yM (vO g h n).ps,(vO g h n).d⟩:=by
 have q:=aGE (g:=g) hh hw K h 0 K (by omega) (by omega);have x:Rep id (mx g h w) g h w:=⟨fun i j _ _ e=>e,fun i f=>by rw[iE];exact f,fun i f=>by
  rw[List.getD_eq_getElem?_getD];unfold mx;rw[wJ (show id i<h from f)];rfl⟩
 obtain⟨ι',pool',y,k⟩:=aFs s hb t hB hh hw u n 0 K id (mx g h w) (by omega) (by omega) x;simp only[Int.natCast_zero,wD]at q k;have e:yM (vO g h 0).ps=[]:=rfl;have z:(vO g h 0).d=1:=rfl;rw[e,z]at k;simp only[rZ,aEo,oB,q,tJ,k,sT,y.sel]
/-- A list of numbers read by index. -/
def qZ(ps:List Nat)(i:Nat):Nat:=ps.getD i 0
theorem aEs{ps:List Nat}{i:Nat}(h:i<ps.length):qZ ps i∈ps:=by
 unfold qZ;simp only[List.getD_eq_getElem?_getD,List.getElem?_eq_getElem h,Option.getD_some];exact List.getElem_mem h
theorem rdI{ps:List Nat}{i:Nat}(h:i<ps.length):bR (yM ps) (i:Int)=some ((qZ ps i:Nat):Int):=by
 refine rdG ?_;unfold yM qZ;rw[List.getElem?_map,List.getD_eq_getElem?_getD,List.getElem?_eq_getElem h];rfl
def aFx(s:RS)(k:Nat):Nat→Nat→Rat
 |0=>gN (fun _=>0) k 1
 |m+1=>gN (aFx s k m) (qZ s.ps m) (-(s.g m k))
def aK0(s:RS)(w:Nat):Nat→List (List Rat)
 |0=>[]
 |k+1=>if k∈s.ps then aK0 s w k else aK0 s w k++[mp (aFx s k s.ps.length) w]
theorem aHu(s:RS)(w k:Nat):aK0 s w (k+1)=if k∈s.ps then aK0 s w k else aK0 s w k++[mp (aFx s k s.ps.length) w]:=rfl
def Cok(h w:Nat):Prop:=h=0→w=0
theorem aCx{g:Nat→Nat→Rat}{h w:Nat}(hc:Cok h w):m6 (mx g h w)=some (w:Int):=by
 by_cases f:h=0
 ·subst f;rw[hc rfl];rfl
 ·have e:=yO (g:=g) (w:=w) (show 0<h by omega);simp only[Int.natCast_zero]at e;simp only[m6,iE,qF (show¬(h:Int)=0 by omega),bG,e,oB,aO]
theorem aJX{g:Nat→Nat→Rat}{h w:Nat}(hh:h≤1000)(K:Nat):∀(t i k:Nat),i+t=h→t<k→cM K (mx g h w) (qV (mx g h w)) k (i:Int)=some (.go ())
 |0,i,k,q,e=>by
  obtain⟨f,rfl,_⟩:=aT e;simp only[cM,iE,dF (show¬(i:Int)<(h:Int) by omega),bG]
 |t+1,i,k,q,e=>by
  obtain⟨f,rfl,_⟩:=aT e;have j:=yO (g:=g) (w:=w) (show 0<h by omega);simp only[Int.natCast_zero]at j;simp only[cM,iE,dT (show(i:Int)<(h:Int) by omega),bL,yO (g:=g) (w:=w) (show i<h by omega),oB,qV,j,aO,nF (rfl:(w:Int)=(w:Int)),bG,qG (i:=i) (by omega)];exact aJX hh K t (i+1) f (by omega) (by omega)
theorem aA8{g:Nat→Nat→Rat}{h w:Nat}(hc:Cok h w)(hh:h≤64)(hw:w≤64){K:Nat}(e:h<K):mA K (mx g h w)=some true:=by
 have:=aJX (g:=g) (w:=w) (show h≤1000 by omega) K h 0 K (by omega) e;simp only[Int.natCast_zero]at this;simp only[mA,iE,dT (show(h:Int)≤64 by omega),bL,aCx hc,oB,dT (show(w:Int)≤64 by omega),nO,gB,this,kV];rfl
theorem w7(f g:Nat→Rat)(a:Rat):∀n,sm (fun c=>f c-a*g c) n=sm f n-a*sm g n
 |0=>by simp only[sm];grind
 |n+1=>by
  have ih:=w7 f g a n;simp only[sm];rw[ih];grind
theorem y3(f:Nat→Rat)(a:Rat):∀n,sm (fun c=>f c*a) n=sm f n*a
 |0=>by simp only[sm];grind
 |n+1=>by
  have ih:=y3 f a n;simp only[sm];rw[ih];grind
theorem aK{f g:Nat→Rat}:∀{n:Nat},(∀i,i<n→f i=g i)→sm f n=sm g n
 |0,_=>rfl
 |n+1,h=>by
  simp only[sm];rw[aK fun i e=>h i (by omega),h n (by omega)]
theorem dM{f:Nat→Rat}{n:Nat}(h:∀i,i<n→f i=0):sm f n=0:=by
 rw[aK (g:=fun _=>0) h]
 induction n with
 |zero=>rfl
 |succ n ih=>simp only[sm];rw[ih fun i e=>h i (by omega)];grind
theorem kP{f:Nat→Rat}{n p:Nat}(hp:p<n)(h:∀i,i<n→i≠p→f i=0):sm f n=f p:=by
 induction n with
 |zero=>omega
 |succ n ih=>
  simp only[sm];by_cases he:p=n
  ·rw[dM fun i e=>h i (by omega) (by omega),he];grind
  ·rw[ih (by omega) fun i e hne=>h i (by omega) hne,h n (by omega) (by omega)];grind
theorem aA1(f g:Nat→Rat):∀n,sm (fun c=>f c+g c) n=sm f n+sm g n
 |0=>by simp only[sm];grind
 |n+1=>by
  have ih:=aA1 f g n;simp only[sm];rw[ih];grind
def rd(g:Nat→Nat→Rat)(y:Nat→Rat)(n i:Nat):Rat:=sm (fun c=>g i c*y c) n
theorem aTs{g:Nat→Nat→Rat}{y:Nat→Rat}{n at0 k:Nat}:sm (fun c=>pr g at0 k c*y c) n=rd g y n at0*(g at0 k)⁻¹:=by
 unfold rd;rw[←y3];refine aK fun c _=>?_
 unfold pr;rw[Rat.div_def];grind
theorem aLv{g:Nat→Nat→Rat}{y:Nat→Rat}{n p at0 k i:Nat}(e:i≠p):rd (stp g p at0 k) y n i=rd g y n (if i=p then at0 else if i=at0 then p else i)-yI g p at0 i k*(rd g y n at0*(g at0 k)⁻¹):=by
 rw[←aTs];unfold rd;rw[←w7];refine aK fun c _=>?_
 unfold stp;rw[if_neg e];unfold yI;grind
theorem aMF{g:Nat→Nat→Rat}{y:Nat→Rat}{n p at0 k:Nat}:rd (stp g p at0 k) y n p=rd g y n at0*(g at0 k)⁻¹:=by
 rw[←aTs];unfold rd;refine aK fun c _=>?_
 unfold stp;rw[if_pos rfl]
theorem aRR{g:Nat→Nat→Rat}{y:Nat→Rat}{n p at0 k h:Nat}(hp:p<h)(f:at0<h)(hne:g at0 k≠0):(∀i,i<h→rd (stp g p at0 k) y n i=0)↔(∀i,i<h→rd g y n i=0):=by
 constructor
 ·intro hh;have q:rd g y n at0=0:=by
   have:=hh p hp;rw[aMF]at this;have hinv:(g at0 k)⁻¹*g at0 k=1:=Rat.inv_mul_cancel _ hne
   calc rd g y n at0=rd g y n at0*((g at0 k)⁻¹*g at0 k):=by rw[hinv,Rat.mul_one]
    _=rd g y n at0*(g at0 k)⁻¹*g at0 k:=by rw[Rat.mul_assoc]
    _=0:=by rw[this,Rat.zero_mul]
  intro j x;by_cases t:j=at0
  ·rw[t];exact q
  ·by_cases s:j=p
   ·have:=hh at0 f;by_cases u:at0=p
    ·omega
    ·rw[aLv u,if_neg u,if_pos rfl,q]at this;rw[s];grind
   ·have:=hh j x;rw[aLv s,if_neg s,if_neg t,q]at this;grind
 ·intro hh i z;by_cases e:i=p
  ·rw[e,aMF,hh at0 f,Rat.zero_mul]
  ·rw[aLv e,hh _ (aE2 hp f z),hh at0 f];grind
structure RJ (h k:Nat) (s:RS):Prop where
 ph:s.ps.length≤h
 pk:∀i,i<s.ps.length→qZ s.ps i<k
 z:∀i c,s.ps.length≤i→i<h→c<k→s.g i c=0
 one:∀i i',i<s.ps.length→i'<h→s.g i' (qZ s.ps i)=if i'=i then 1 else 0
 lead:∀i c,i<s.ps.length→c<qZ s.ps i→s.g i c=0
 inc:∀i j,i<j→j<s.ps.length→qZ s.ps i<qZ s.ps j
 gap:∀c,c<k→c∉s.ps→∀i,i<s.ps.length→c<qZ s.ps i→s.g i c=0
theorem aCO{ps:List Nat}{k i:Nat}(h:i<ps.length):qZ (ps++[k]) i=qZ ps i:=by
 unfold qZ;rw[List.getD_eq_getElem?_getD,List.getD_eq_getElem?_getD,List.getElem?_append_left h]
theorem aFM{ps:List Nat}{k:Nat}:qZ (ps++[k]) ps.length=k:=by
 unfold qZ;rw[List.getD_eq_getElem?_getD,List.getElem?_append_right (Nat.le_refl _),Nat.sub_self];rfl
theorem aOn{h k:Nat}{s:RS}(hs:RJ h k s):RJ h (k+1) (aCk h k s):=by
 have hp:=aFj (g:=s.g) (k:=k) (h-s.ps.length) s.ps.length;have hph:=hs.ph;unfold aCk;split
 ·rename_i hat;refine⟨hs.ph,fun i e=>Nat.lt_succ_of_lt (hs.pk i e),fun i c e hh hc=>?_,hs.one,hs.lead,hs.inc,fun c _ _ i e hlt=>hs.lead i c e hlt⟩;by_cases he:c=k
  ·subst he;exact aOi (h-s.ps.length) s.ps.length i e (by omega)
  ·exact hs.z i c e hh (by omega)
 ·rename_i hat;have hlt:piv s.g k (h-s.ps.length) s.ps.length<h:=by omega
  have hne:=aHr (g:=s.g) (k:=k) (h-s.ps.length) s.ps.length (by omega);generalize G:piv s.g k (h-s.ps.length) s.ps.length=at0 at *;have x:∀c,c<k→s.g at0 c=0:=fun c hc=>hs.z at0 c hp.1 hlt hc
  have hpr:∀c,c<k→pr s.g at0 k c=0:=fun c hc=>by unfold pr;rw[x c hc,Rat.div_def,Rat.zero_mul]
  have hprk:pr s.g at0 k k=1:=by unfold pr;rw[Rat.div_def,Rat.mul_inv_cancel _ hne]
  have hswz:∀i c,s.ps.length<i→i<h→c<k→yI s.g s.ps.length at0 i c=0:=fun i c e hih hc=>by
   unfold yI;rw[if_neg (by omega)];split
   ·exact hs.z _ c (Nat.le_refl _) (by omega) hc
   ·exact hs.z _ c (by omega) hih hc
  have hsw:∀i c,i<s.ps.length→yI s.g s.ps.length at0 i c=s.g i c:=fun i c e=>by
   unfold yI;rw[if_neg (by omega),if_neg (by omega)]
  have hlead:∀i c,i<s.ps.length+1→c<qZ (s.ps++[k]) i→stp s.g s.ps.length at0 k i c=0:=fun i c e hc=>by
   by_cases he:i=s.ps.length
   ·subst he;rw[aFM]at hc;unfold stp;rw[if_pos rfl];exact hpr c hc
   ·have f:i<s.ps.length:=by omega
    rw[aCO f]at hc;unfold stp;rw[if_neg he,hsw i c f,hsw i k f,hs.lead i c f hc,hpr c (by have:=hs.pk i f;omega)];grind
  refine⟨by simp only[List.length_append,List.length_singleton];omega,fun i e=>?_,fun i c e hh hc=>?_,fun i t e f=>?_,fun i c e hc=>hlead i c (by simpa using e) hc,fun i j hij y=>?_,fun c _ _ i e hlt=>hlead i c (by simpa using e) hlt⟩
  ·simp only[List.length_append,List.length_singleton]at e;by_cases he:i=s.ps.length
   ·subst he;simp only[aFM];omega
   ·simp only[aCO (show i<s.ps.length by omega)];have:=hs.pk i (by omega);omega
  ·simp only[List.length_append,List.length_singleton]at e;show stp s.g s.ps.length at0 k i c=0;unfold stp;rw[if_neg (by omega)];by_cases he:c=k
   ·subst he;rw[hprk,Rat.mul_one,Rat.sub_self]
   ·rw[hswz i c (by omega) hh (by omega),hpr c (by omega)];grind
  ·simp only[List.length_append,List.length_singleton]at e;show stp s.g s.ps.length at0 k t (qZ (s.ps++[k]) i)=_;unfold stp;by_cases he:i=s.ps.length
   ·subst he;rw[aFM];by_cases u:t=s.ps.length
    ·rw[if_pos u,if_pos u,hprk]
    ·rw[if_neg u,if_neg u,hprk,Rat.mul_one,Rat.sub_self]
   ·have q:i<s.ps.length:=by omega
    rw[aCO q,hpr _ (hs.pk i q)];by_cases u:t=s.ps.length
    ·rw[if_pos u,if_neg (by omega)]
    ·rw[if_neg u];by_cases F:t<s.ps.length
     ·rw[hsw t _ F,hs.one i t q (by omega)];grind
     ·rw[hswz t _ (by omega) f (hs.pk i q),if_neg (by omega)];grind
  ·simp only[List.length_append,List.length_singleton]at y;by_cases he:j=s.ps.length
   ·subst he;simp only[aFM,aCO (show i<s.ps.length by omega)];exact hs.pk i (by omega)
   ·simp only[aCO (show i<s.ps.length by omega),aCO (show j<s.ps.length by omega)];exact hs.inc i j hij (by omega)
theorem aDb{g:Nat→Nat→Rat}{h:Nat}:∀k,RJ h k (vO g h k)
 |0=>⟨Nat.zero_le _,fun i e=>absurd e (by simp[vO]),fun i c _ _ hc=>absurd hc (by omega),fun i q e _=>absurd e (by simp[vO]),fun i c e _=>absurd e (by simp[vO]),fun i j _ f=>absurd f (by simp[vO]),fun c hc=>absurd hc (by omega)⟩
 |k+1=>aOn (aDb k)
theorem aFU{g:Nat→Nat→Rat}{y:Nat→Rat}{n h:Nat}:∀k,(∀i,i<h→rd (vO g h k).g y n i=0)↔(∀i,i<h→rd g y n i=0)
 |0=>Iff.rfl
 |k+1=>by
  refine Iff.trans ?_ (aFU k);have e:=(aDb (g:=g) (h:=h) k).ph;simp only[vO];generalize vO g h k=s at *;unfold aCk;split
  ·exact Iff.rfl
  ·rename_i hat;have hp:=aFj (g:=s.g) (k:=k) (h-s.ps.length) s.ps.length;have hlt:piv s.g k (h-s.ps.length) s.ps.length<h:=by omega
   exact aRR (by omega) hlt (aHr (h-s.ps.length) s.ps.length (by omega))
theorem wE(F:Nat→Nat→Rat)(m:Nat):∀n,sm (fun i=>sm (F i) m) n=sm (fun j=>sm (fun i=>F i j) n) m
 |0=>by
  simp only[sm];exact(dM fun i _=>rfl).symm
 |n+1=>by
  simp only[sm];rw[wE F m n,aA1]
theorem mY(f:Nat→Rat)(a:Rat)(n:Nat):sm (fun c=>a*f c) n=a*sm f n:=by
 rw[Rat.mul_comm,←y3];exact aK fun i _=>Rat.mul_comm _ _
theorem uB(f:Nat→Rat)(n:Nat):sm (fun c=>-(f c)) n=-(sm f n):=by
 have:=mY f (-1) n;rw[aK (g:=fun c=>-1*f c) fun i _=>by grind,this];grind
def skp(k c:Nat):Nat:=if c<k then c else c+1
theorem aOJ(F:Nat→Rat){k:Nat}:∀{n:Nat},k≤n→sm (fun l=>F (skp k l)) n=sm (fun m=>if m=k then 0 else F m) (n+1)
 |0,h=>by
  have:k=0:=by omega
  subst this;simp only[sm];grind
 |n+1,h=>by
  by_cases f:k≤n
  ·have ih:=aOJ F f;rw[sm,ih,sm,sm,sm];have j:skp k n=n+1:=by unfold skp;rw[if_neg (by omega)]
   rw[j,if_neg (show¬n+1=k by omega)]
  ·have:k=n+1:=by omega
   subst this;rw[sm.eq_2 _ (n+1),if_pos rfl];rw[aK (g:=F) fun i e=>by unfold skp;rw[if_pos e],aK (g:=F) fun i e=>if_neg (by omega)];grind
def sgn(k:Nat):Rat:=if k%2=0 then 1 else -1
def mnr(g:Nat→Nat→Rat)(k i c:Nat):Rat:=g (i+1) (skp k c)
def dt:Nat→(Nat→Nat→Rat)→Rat
 |0,_=>1
 |n+1,g=>sm (fun k=>sgn k*(g 0 k*dt n (mnr g k))) (n+1)
theorem aPZ{k c n:Nat}(hc:c<n):skp k c<n+1:=by unfold skp;split<;>omega
theorem wL:∀{n:Nat} {g g':Nat→Nat→Rat},(∀i c,i<n→c<n→g i c=g' i c)→dt n g=dt n g'
 |0,_,_,_=>rfl
 |n+1,g,g',h=>by
  simp only[dt];refine aK fun k e=>?_
  rw[h 0 k (by omega) e,wL (g:=mnr g k) (g':=mnr g' k) fun i c f hc=>h (i+1) _ (by omega) (aPZ hc)]
theorem aOu{g:Nat→Nat→Rat}{f:Nat→Rat}{k:Nat}:mnr (gN g 0 f) k=mnr g k:=by
 funext i c;unfold mnr;rw[aZ (by omega)]
theorem aQ2{g:Nat→Nat→Rat}{f:Nat→Rat}{k j:Nat}:mnr (gN g (j+1) f) k=gN (mnr g k) j (fun c=>f (skp k c)):=by
 funext i c;unfold mnr;by_cases h:i=j
 ·subst h;rw[aN,aN]
 ·rw[aZ (by omega),aZ h]
theorem aLj{u v:Nat→Rat}{a:Rat}:∀{n:Nat} {g:Nat→Nat→Rat} {i:Nat},i<n→dt n (gN g i (fun c=>u c-a*v c))=dt n (gN g i u)-a*dt n (gN g i v)
 |0,_,_,h=>by omega
 |n+1,g,0,_=>by
  simp only[dt,aOu,aN];rw[←w7];exact aK fun k _=>by grind
 |n+1,g,j+1,h=>by
  simp only[dt,aQ2,aZ (show 0≠j+1 by omega)];rw[←w7];refine aK fun k _=>?_
  rw[aLj (u:=fun c=>u (skp k c)) (v:=fun c=>v (skp k c)) (a:=a) (show j<n by omega)];grind
theorem aEr(k:Nat):sgn (k+1)=-(sgn k):=by
 unfold sgn;by_cases h:k%2=0
 ·rw[if_pos h,if_neg (by omega)]
 ·rw[if_neg h,if_pos (by omega)];grind
theorem aIt(k:Nat):∀l,sgn (k+l)=sgn k*sgn l
 |0=>by
  have:sgn 0=1:=rfl;rw[this,Nat.add_zero];grind
 |l+1=>by
  rw[←Nat.add_assoc,aEr,aIt k l,aEr];grind
def aNs(k m c:Nat):Nat:=if c<min k m then c else if c+1<max k m then c+1 else c+2
theorem aRK(k l c:Nat):skp k (skp l c)=aNs k (skp k l) c:=by
 unfold aNs skp;by_cases e:l<k
 ·rw[if_pos e]
  repeat' split
  all_goals omega
 ·rw[if_neg e]
  repeat' split
  all_goals omega
theorem aN0(k m c:Nat):aNs k m c=aNs m k c:=by
 unfold aNs;rw[Nat.min_comm,Nat.max_comm]
def eps(k m:Nat):Rat:=if k<m then sgn (k+m+1) else sgn (k+m)
theorem aPB{k m:Nat}(h:m≠k):eps k m=-(eps m k):=by
 unfold eps;by_cases e:k<m
 ·rw[if_pos e,if_neg (by omega),aEr,Nat.add_comm]
 ·rw[if_neg e,if_pos (by omega),aEr,Nat.add_comm];grind
theorem aRb(k l:Nat):sgn k*sgn l=eps k (skp k l):=by
 unfold eps skp;by_cases h:l<k
 ·rw[if_pos h,if_neg (by omega),aIt]
 ·rw[if_neg h,if_pos (by omega)];rw[show k+(l+1)+1=k+l+2 by omega,show sgn (k+l+2)=sgn (k+l) by unfold sgn;rw[show(k+l+2)%2=(k+l)%2 by omega],aIt]
def aLa(g:Nat→Nat→Rat)(k m i c:Nat):Rat:=g (i+2) (aNs k m c)
theorem aP9{n:Nat}{g:Nat→Nat→Rat}:dt (n+2) g=sm (fun k=>sm (fun m=>if m=k then 0 else eps k m*(g 0 k*(g 1 m*dt n (aLa g k m)))) (n+2)) (n+2):=by
 rw[dt];refine aK fun k e=>?_
 rw[←aOJ (fun m=>eps k m*(g 0 k*(g 1 m*dt n (aLa g k m)))) (show k≤n+1 by omega),dt,←mY,←mY];refine aK fun l _=>?_
 rw[←aRb,show dt n (mnr (mnr g k) l)=dt n (aLa g k (skp k l)) from congrArg (dt n) (by
  funext i c;unfold mnr aLa;rw[aRK])]
 unfold mnr;grind
theorem aNp{n:Nat}{g:Nat→Nat→Rat}:dt (n+2) (yI g 0 1)=-(dt (n+2) g):=by
 rw[aP9,aP9,wE,←uB];refine aK fun k _=>?_
 rw[←uB];refine aK fun m _=>?_
 by_cases h:k=m
 ·rw[if_pos h,if_pos h.symm];grind
 ·rw[if_neg h,if_neg (fun e=>h e.symm),aPB (by exact fun e=>h e)];have e:aLa (yI g 0 1) m k=aLa g k m:=by
   funext i c;unfold aLa yI;rw[if_neg (by omega),if_neg (by omega),aN0]
  rw[e];have f:yI g 0 1 0=g 1:=by unfold yI;rw[if_pos rfl]
  have j:yI g 0 1 1=g 0:=by unfold yI;rw[if_neg (by omega),if_pos rfl]
  rw[f,j];grind
theorem aQ8{g:Nat→Nat→Rat}{a b k:Nat}:mnr (yI g (a+1) (b+1)) k=yI (mnr g k) a b:=by
 funext i c;unfold mnr yI;congr 1;by_cases e:i=a
 ·rw[if_pos (by omega),if_pos e]
 ·rw[if_neg (by omega),if_neg e];by_cases f:i=b
  ·rw[if_pos (by omega),if_pos f]
  ·rw[if_neg (by omega),if_neg f]
theorem aI3:∀{n:Nat} {g:Nat→Nat→Rat} {i:Nat},i+1<n→dt n (yI g i (i+1))=-(dt n g)
 |0,_,_,h=>by omega
 |1,_,_,h=>by omega
 |n+2,g,0,_=>aNp
 |n+2,g,i+1,h=>by
  rw[dt,dt,←uB];refine aK fun k _=>?_
  rw[aQ8,aI3 (show i+1<n+1 by omega)];have e:yI g (i+1) (i+1+1) 0=g 0:=by unfold yI;rw[if_neg (by omega),if_neg (by omega)]
  rw[e];grind
theorem aLp{n:Nat}:∀(t:Nat) {g:Nat→Nat→Rat} {i:Nat},i+t+1<n→dt n (yI g i (i+t+1))=-(dt n g)
 |0,g,i,h=>aI3 h
 |t+1,g,i,h=>by
  have e:yI g i (i+(t+1)+1)=yI (yI (yI g (i+t+1) (i+t+1+1)) i (i+t+1)) (i+t+1) (i+t+1+1):=by
   funext j;unfold yI;congr 1
   repeat' split
   all_goals omega
  rw[e,aI3 (by omega),aLp t (by omega),aI3 (by omega)];grind
theorem aP2{g:Nat→Nat→Rat}{a b:Nat}:yI g a b=yI g b a:=by
 funext j;unfold yI;congr 1
 repeat' split
 all_goals omega
structure Alt (h:Nat) (D:(Nat→Nat→Rat)→Rat):Prop where
 cong:∀g g':Nat→Nat→Rat,(∀i,i<h→g i=g' i)→D g=D g'
 lin:∀(g:Nat→Nat→Rat) (u v:Nat→Rat) (a:Rat) (i:Nat),i<h→D (gN g i (fun c=>u c-a*v c))=D (gN g i u)-a*D (gN g i v)
 swap:∀(g:Nat→Nat→Rat) (i j:Nat),i<h→j<h→i≠j→D (yI g i j)=-(D g)
theorem aF1(n:Nat):Alt n (dt n):=⟨fun g g' h=>wL fun i c e _=>by rw[h i e],fun g u v a i e=>aLj e,fun g i j e f hne=>by
 by_cases h:i<j
 ·obtain⟨t,rfl⟩:∃t,j=i+t+1:=⟨j-i-1,by omega⟩;exact aLp t f
 ·obtain⟨t,rfl⟩:∃t,i=j+t+1:=⟨i-j-1,by omega⟩;rw[aP2];exact aLp t e⟩
theorem Alt.zero{h:Nat}{D:(Nat→Nat→Rat)→Rat}(a:Alt h D){g:Nat→Nat→Rat}{i:Nat}(f:i<h)(k:g i=fun _=>0):D g=0:=by
 have:=a.lin g (g i) (g i) 1 i f;have e:(fun c=>g i c-1*g i c)=g i:=by funext c;rw[k];grind
 have q:gN g i (g i)=g:=by
  funext j;unfold gN;split
  ·rename_i h;rw[h]
  ·rfl
 rw[e,q]at this;grind
theorem aPU{α:Type}{g:Nat→α}{i:Nat}:gN g i (g i)=g:=by
 funext j;unfold gN;split
 ·rename_i h;rw[h]
 ·rfl
theorem Alt.scale{h:Nat}{D:(Nat→Nat→Rat)→Rat}(a:Alt h D){g:Nat→Nat→Rat}{u:Nat→Rat}{b:Rat}{i:Nat}(j:i<h):D (gN g i (fun c=>b*u c))=b*D (gN g i u):=by
 have f:=a.lin g (fun _=>0) u (-b) i j;have k:D (gN g i (fun _=>0))=0:=a.zero j aN;rw[k]at f;have e:(fun c=>(0:Rat)- -b*u c)=fun c=>b*u c:=by funext c;grind
 rw[e]at f;rw[f];grind
theorem Alt.same{h:Nat}{D:(Nat→Nat→Rat)→Rat}(a:Alt h D){g:Nat→Nat→Rat}{i j:Nat}(f:i<h)(k:j<h)(hne:i≠j)(he:g i=g j):D g=0:=by
 have q:=a.swap g i j f k hne;have e:yI g i j=g:=by
  funext l;unfold yI;split
  ·rename_i h;rw[h,he]
  ·split
   ·rename_i h;rw[h,he]
   ·rfl
 rw[e]at q;grind
theorem Alt.add{h:Nat}{D:(Nat→Nat→Rat)→Rat}(a:Alt h D){g:Nat→Nat→Rat}{b:Rat}{i j:Nat}(f:i<h)(k:j<h)(hne:i≠j):D (gN g i (fun c=>g i c-b*g j c))=D g:=by
 rw[a.lin g (g i) (g j) b i f,aPU,a.same (g:=gN g i (g j)) f k hne (by rw[aN,aZ (fun e=>hne e.symm)])];grind
def elm(g:Nat→Nat→Rat)(n k j i c:Nat):Rat:=if i<j∧i≠n then g i c-g i k*g n c else g i c
theorem Alt.elm0{h:Nat}{D:(Nat→Nat→Rat)→Rat}(a:Alt h D){g:Nat→Nat→Rat}{n k:Nat}(q:n<h):∀j,j≤h→D (elm g n k j)=D g
 |0,_=>a.cong _ _ fun i _=>by
  funext c;exact if_neg (by omega)
 |j+1,s=>by
  refine Eq.trans ?_ (Alt.elm0 (k:=k) a q j (by omega));by_cases he:j=n
  ·refine a.cong _ _ fun i _=>?_
   funext c;unfold elm;by_cases e:i<j
   ·rw[if_pos ⟨by omega,by omega⟩,if_pos ⟨e,by omega⟩]
   ·rw[if_neg (by omega),if_neg (by omega)]
  ·refine Eq.trans ?_ (a.add (g:=elm g n k j) (b:=g j k) (show j<h by omega) q he);refine a.cong _ _ fun i _=>?_
   funext c;by_cases e:i=j
   ·subst e;rw[aN];unfold elm;rw[if_pos ⟨by omega,he⟩,if_neg (by omega),if_neg (by omega)]
   ·rw[aZ e];unfold elm;by_cases f:i<j∧i≠n
    ·rw[if_pos ⟨by omega,f.2⟩,if_pos f]
    ·rw[if_neg (by omega),if_neg f]
theorem Alt.stp0{h:Nat}{D:(Nat→Nat→Rat)→Rat}(a:Alt h D){g:Nat→Nat→Rat}{n at0 k:Nat}(j:n<h)(q:at0<h)(hne:g at0 k≠0):D g=(if at0=n then 1 else -1)*g at0 k*D (stp g n at0 k):=by
 have s:D (yI g n at0)=(if at0=n then 1 else -1)*D g:=by
  by_cases f:at0=n
  ·rw[if_pos f];have:yI g n at0=g:=by
    funext i;unfold yI;split
    ·rw[f];congr 1;omega
    ·split
     ·congr 1;omega
     ·rfl
   rw[this];grind
  ·rw[if_neg f,a.swap g n at0 j q (fun e=>f e.symm)];grind
 have t:D (yI g n at0)=g at0 k*D (gN (yI g n at0) n (pr g at0 k)):=by
  rw[←a.scale j];congr 1;funext i;by_cases f:i=n
  ·subst f;rw[aN];funext c;unfold yI pr;rw[if_pos rfl,Rat.div_def,Rat.mul_comm (g at0 c),←Rat.mul_assoc,Rat.mul_inv_cancel _ hne,Rat.one_mul]
  ·rw[aZ f]
 have u:D (stp g n at0 k)=D (gN (yI g n at0) n (pr g at0 k)):=by
  rw[←a.elm0 (g:=gN (yI g n at0) n (pr g at0 k)) (n:=n) (k:=k) j h (Nat.le_refl _)];refine a.cong _ _ fun i x=>?_
  funext c;unfold stp elm;by_cases f:i=n
  ·subst f;rw[if_pos rfl,if_neg (by omega),aN]
  ·rw[if_neg f,if_pos ⟨x,f⟩,aZ f,aN]
 rw[u];have y:D g=(if at0=n then 1 else -1)*D (yI g n at0):=by
  rw[s];split<;>grind
 rw[y,t];grind
theorem Alt.red0{h:Nat}{D:(Nat→Nat→Rat)→Rat}(a:Alt h D){g:Nat→Nat→Rat}:∀k,D g=(vO g h k).d*D (vO g h k).g
 |0=>by simp only[vO];grind
 |k+1=>by
  refine(Alt.red0 a k).trans ?_;have e:=(aDb (g:=g) (h:=h) k).ph;simp only[vO];generalize vO g h k=s at *;unfold aCk;split
  ·rfl
  ·rename_i hat;have hp:=aFj (g:=s.g) (k:=k) (h-s.ps.length) s.ps.length;have hlt:piv s.g k (h-s.ps.length) s.ps.length<h:=by omega
   have hne:=aHr (g:=s.g) (k:=k) (h-s.ps.length) s.ps.length (by omega);rw[a.stp0 (g:=s.g) (n:=s.ps.length) (at0:=piv s.g k (h-s.ps.length) s.ps.length) (k:=k) (by omega) hlt hne];simp only;split<;>grind
/-- A matrix with a column more. -/
def wid(g:Nat→Nat→Rat)(f:Nat→Rat)(w i c:Nat):Rat:=if c<w then g i c else f i
theorem aRH{g:Nat→Nat→Rat}{f:Nat→Rat}{w i:Nat}:mp (g i) w++[f i]=mp (wid g f w i) (w+1):=by
 rw[aAL];have e:wid g f w i w=f i:=if_neg (Nat.lt_irrefl w);rw[e,bW (f:=wid g f w i) (g:=g i) fun c hc=>if_pos hc]
theorem aQa{g:Nat→Nat→Rat}{f:Nat→Rat}{h w b:Nat}(j:qX h w b g)(k:∀i,i<h→Bd b (f i)):qX h (w+1) b (wid g f w):=fun i c e hc=>by
 unfold wid;split
 ·exact j i c e ‹_›
 ·exact k i e
theorem aHD{g:Nat→Nat→Rat}{f:Nat→Rat}{h w:Nat}(hh:h≤64)(hw:w≤64)(K:Nat):∀(t i k:Nat),i+t=h→t<k→mJ K (mx g h w) (mp f h) k (mx (wid g f w) i (w+1)) (i:Int)=some (mx (wid g f w) h (w+1))
 |0,i,k,q,e=>by
  obtain⟨j,rfl,_⟩:=aT e;have:i=h:=by omega
  subst this;simp only[mJ,iE,dF (show¬(i:Int)<(i:Int) by omega),bG]
 |t+1,i,k,q,e=>by
  obtain⟨j,rfl,_⟩:=aT e;have s:tC ([]:List Rat) (mp (g i) w)=some (mp (g i) w):=by rw[aBx (by rw[aO,List.length_nil];omega),List.nil_append]
  have u:tC (mp (g i) w) [f i]=some (mp (wid g f w i) (w+1)):=by rw[apS (by rw[aO];omega),aRH]
  have x:tC (mx (wid g f w) i (w+1)) [mp (wid g f w i) (w+1)]=some (mx (wid g f w) (i+1) (w+1)):=apM (g:=fun i=>mp (wid g f w i) (w+1)) (by omega);simp only[mJ,iE,dT (show(i:Int)<(h:Int) by omega),bL,yO (g:=g) (w:=w) (show i<h by omega),oB,dR,s,cD (f:=f) (show i<h by omega),u,x,qG (i:=i) (by omega)];exact aHD hh hw K t (i+1) j (by omega) (by omega)
def aDf(g:Nat→Nat→Rat)(w:Nat):Nat→Nat→Bool
 |0,_=>false
 |t+1,i=>if g i w=0 then aDf g w t (i+1) else true
theorem aHm{g:Nat→Nat→Rat}{h w b n:Nat}(s:qX h (w+1) b g)(hb:b≤1073741824)(hh:h≤1000)(x:n≤h)(K:Nat):∀(t i k:Nat),n+i+t=h→t<k→mM K (w:Int) (mp (fun j=>mp (g (n+j)) (w+1)) (h-n)) k (i:Int)=some (if aDf g w t (n+i)=true then .ret ([],6) else .go ())
 |0,i,k,y,q=>by
  obtain⟨u,rfl,_⟩:=aT q;simp only[mM,aO,dF (show¬(i:Int)<((h-n:Nat):Int) by omega),bG,aDf];rfl
 |t+1,i,k,y,q=>by
  obtain⟨u,rfl,_⟩:=aT q;have z:=s (n+i) w (by omega) (by omega);simp only[mM,aO,dT (show(i:Int)<((h-n:Nat):Int) by omega),bL,cD (f:=fun j=>mp (g (n+j)) (w+1)) (show i<h-n by omega),oB,cD (f:=g (n+i)) (show w<w+1 by omega),kI z hb,aDf];by_cases e:g (n+i) w=0
  ·simp only[nF (zC.2 e),bG,if_pos e,qG (i:=i) (by omega),oB];exact aHm s hb hh x K t (i+1) u (by omega) (by omega)
  ·simp only[nT (fun h=>e (zC.1 h)),bL,if_neg e,if_true]
def aCw(s:RS)(w:Nat):Nat→Nat→Rat
 |0=>fun _=>0
 |m+1=>gN (aCw s w m) (qZ s.ps m) (s.g m w)
theorem aMN{s:RS}{h w b:Nat}(hb:qX h (w+1) b s.g)(e:1≤b)(hp:s.ps.length≤h):∀m,m≤s.ps.length→∀c,Bd b (aCw s w m c)
 |0,_,c=>Bd.zero.mono e
 |m+1,hm,c=>by
  unfold aCw gN;split
  ·exact hb m w (by omega) (by omega)
  ·exact aMN hb e hp m (by omega) c
theorem aH1{s:RS}{h w:Nat}(hp:s.ps.length≤h)(hh:h≤1000)(hpw:∀j∈s.ps,j<w)(d:Rat)(K:Nat):∀(t i k:Nat),i+t=s.ps.length→t<k→mK K (w:Int) ⟨mx s.g h (w+1),yM s.ps,d⟩ k (mp (aCw s w i) w) (i:Int)=some (mp (aCw s w s.ps.length) w)
 |0,i,k,y,q=>by
  obtain⟨u,rfl,_⟩:=aT q;have:i=s.ps.length:=by omega
  subst this;simp only[mK,oJ,dF (show¬(s.ps.length:Int)<(s.ps.length:Int) by omega),bG]
 |t+1,i,k,y,q=>by
  obtain⟨u,rfl,_⟩:=aT q;have x:i<s.ps.length:=by omega
  have e:=hpw _ (aEs x);simp only[mK,oJ,dT (show(i:Int)<(s.ps.length:Int) by omega),bL,rdI x,oB,yO (g:=s.g) (w:=w+1) (show i<h by omega),cD (f:=s.g i) (show w<w+1 by omega),cD (f:=aCw s w i) e,vA (f:=aCw s w i) e,qG (i:=i) (by omega)];exact aH1 hp hh hpw d K t (i+1) u (by omega) (by omega)
def aCg(g:Nat→Nat→Rat)(f:Nat→Rat)(h w:Nat):Option (List Rat):=
 let s:=vO (wid g f w) h w
 if aDf s.g w (h-s.ps.length) s.ps.length=true then none else some (mp (aCw s w s.ps.length) w)
theorem aNW{g:Nat→Nat→Rat}{f:Nat→Rat}{h w b:Nat}(t:qX h w b g)(u:∀i,i<h→Bd b (f i))(hc:Cok h w)(hb:2≤b)(hB:5^w*b≤200000000)(hh:h≤64)(hw:w≤63){K:Nat}(y:w+1+h<K):
  vH K (mx g h w) (mp f h)=some (match aCg g f h w with|none=>([],6)|some x=>(x,0)):=by
 have hgw:=aQa t u;have r:=aIJ hgw hb w (by omega);have e:=aHD (g:=g) (f:=f) hh (show w≤64 by omega) K h 0 K (by omega) (by omega);have z1:mx (wid g f w) 0 (w+1)=[]:=rfl;rw[z1]at e;simp only[Int.natCast_zero,wD]at e;have hrd:=aHK hgw hb (show w≤w+1 by omega) hB (show h≤1000 by omega) (show w+1≤1000 by omega) (K:=K) (by omega);have hpk:∀j∈(vO (wid g f w) h w).ps,j<w:=r.pk;have hbig:5^w*b≤1073741824:=by omega
 unfold aCg;generalize vO (wid g f w) h w=s at *;have hp:=r.ph;have k:=aHm r.bd hbig (show h≤1000 by omega) hp K (h-s.ps.length) 0 K (by omega) (by omega);have q:=aH1 hp (show h≤1000 by omega) hpk s.d K s.ps.length 0 K (by omega) (by omega);simp only[Int.natCast_zero,Nat.add_zero,aCw]at k q;have hsl:slL (mx s.g h (w+1)) (s.ps.length:Int) (h:Int)=some (mp (fun j=>mp (s.g (s.ps.length+j)) (w+1)) (h-s.ps.length)):=aUu (f:=fun j=>mp (s.g j) (w+1)) hp;simp only[vH,aA8 hc hh (show w≤64 by omega) (K:=K) (by omega),oB,Bool.not_true,bG,aO,iE,nF (rfl:(h:Int)=(h:Int)),aCx hc,e,uM,hrd,oJ,hsl,k];by_cases hin:aDf s.g w (h-s.ps.length) s.ps.length=true
 ·simp only[if_pos hin]
 ·simp only[if_neg hin,uG,aC4 (n:=w) (z:=(0:Rat)) (by omega),oB,q,uD]
theorem aNY{g:Nat→Nat→Rat}{f:Nat→Rat}{h w b:Nat}(j:qX h w b g)(k:∀i,i<h→Bd b (f i))(hb:2≤b){x:List Rat}(e:aCg g f h w=some x):x.length=w∧Bds (5^w*b) x:=by
 have r:=aIJ (aQa j k) hb w (by omega);unfold aCg at e;generalize vO (wid g f w) h w=s at *;by_cases hin:aDf s.g w (h-s.ps.length) s.ps.length=true
 ·simp only[if_pos hin]at e;cases e
 ·simp only[if_neg hin,Option.some.injEq]at e;subst e;exact⟨aO _ _,yT fun i _=>aMN r.bd (by have:=aGc w b hb;omega) r.ph _ (Nat.le_refl _) i⟩
/-- The size of a sum of products. -/
theorem aDj{f e:Nat→Rat}{w b b':Nat}(h:∀c,c<w→Bd b (f c))(he:∀c,c<w→Bd b' (e c)):∀i,i≤w→Bd (1+i*(b+b'+1)) (sm (fun c=>f c*e c) i)
 |0,_=>Bd.zero.mono (by omega)
 |i+1,j=>by
  simp only[sm];have hs:1+i*(b+b'+1)+(b+b')+1=1+(i+1)*(b+b'+1):=by rw[Nat.add_mul];omega
  exact((aDj h he i (by omega)).add ((h i (by omega)).mul (he i (by omega)))).mono (by omega)
def yP(g:Nat→Nat→Rat)(v:Nat→Rat)(w i:Nat):Rat:=sm (fun c=>g i c*v c) w
theorem aPj{f e:Nat→Rat}{w b:Nat}(u:∀c,c<w→Bd b (f c))(he:∀c,c<w→Bd b (e c))(hb:b≤1000000)(hw:w≤100)(K:Nat):∀(t i k:Nat),i+t=w→t<k→Bd (1+i*(b+b+1)) (sm (fun c=>f c*e c) i)→Bd (1+w*(b+b+1)) (sm (fun c=>f c*e c) w)∧k8 K (mp f w) (mp e w) k (sm (fun c=>f c*e c) i) (i:Int)=some (sm (fun c=>f c*e c) w)
 |0,i,k,y,j,h=>by
  obtain⟨x,rfl,_⟩:=aT j;have:i=w:=by omega
  subst this;exact⟨h,by simp only[k8,aO,dF (show¬(i:Int)<(i:Int) by omega),bG]⟩
 |t+1,i,k,y,j,h=>by
  obtain⟨x,rfl,_⟩:=aT j;have q:=u i (by omega);have s:=he i (by omega);have hib:i*(b+b+1)≤100*2000001:=Nat.mul_le_mul (by omega) (by omega);have hs:1+i*(b+b+1)+(b+b)+1=1+(i+1)*(b+b+1):=by rw[Nat.add_mul];omega
  obtain⟨z,F⟩:=aPj u he hb hw K t (i+1) x (by omega) (by omega) (by simp only[sm];exact(h.add (q.mul s)).mono (by omega));refine⟨z,?_⟩;simp only[k8,aO,dT (show(i:Int)<(w:Int) by omega),bL,cD (f:=f) (show i<w by omega),cD (f:=e) (show i<w by omega),oB,yX q s (by omega) (by omega),aBL h (q.mul s) (by omega) (by omega),qG (i:=i) (by omega)];exact F
theorem aOh{f e:Nat→Rat}{w b:Nat}(j:∀c,c<w→Bd b (f c))(he:∀c,c<w→Bd b (e c))(hb:b≤1000000)(hw:w≤100){K:Nat}(k:w<K):Bd (1+w*(b+b+1)) (sm (fun c=>f c*e c) w)∧lV K (mp f w) (mp e w)=some (sm (fun c=>f c*e c) w):=by
 obtain⟨q,h⟩:=aPj j he hb hw K w 0 K (by omega) k (Bd.zero.mono (by omega));simp only[Int.natCast_zero,sm]at h;exact⟨q,by simp only[lV,h,oB,sR]⟩
end Go.Proofs.YtolfcbpgmfbgmaaGreat
