/- Texts of the proof, part 5: Q2 Q3 QZ LB MA MB MC MR MT LG. -/
import Derived.Test.YtolfcbpgmfbgmaaGreatZ4
set_option linter.unusedSimpArgs false
set_option linter.unusedVariables false
set_option maxRecDepth 100000
namespace Go.Proofs.YtolfcbpgmfbgmaaGreat
def n8 (K:Nat) (a0:Int) (a1:Int) (a6:List Rat) (a7:List Int) (x75:List Nat) (x81:List (List Rat)):Option ((List Nat)×(List Rat)×(List Int)×(List (List Rat))):=
 (bK x75 a0).bind fun v91=>(tR K v91 a1 a6 x81).bind fun v93=>(bK a7 a0).bind fun v97=>(pN a7 a0 a1).bind fun x99=>some (x75,v93,x99,x81)
def iG (K:Nat) (a0:Int) (a1:Int) (a5:List Nat):Nat→(List Nat)→(List (List Rat))→Int→Option ((List Nat)×(List (List Rat)))
 |0,_,_,_=>none
 |k+1,x62,x68,x74=>bif(decide (x74<(a5.length:Int))) then((bK x62 x74).bind fun v103=>bif(x74 != a0) then((bK x62 a0).bind fun v106=>(vZ K v103 v106 a1 x68).bind fun v108=>(aQ (x74+1)).bind fun v113=>iG K a0 a1 a5 k x62 v108 v113) else((aQ (x74+1)).bind fun v115=>iG K a0 a1 a5 k x62 x68 v115)) else(some (x62,x68))
def oD (K:Nat) (a0:Int) (a1:Int) (a5:List Nat) (a6:List Rat) (a7:List Int) (x43:List (List Rat)):Option ((List Nat)×(List Rat)×(List Int)×(List (List Rat))):=
 (iG K a0 a1 a5 K a5 x43 0).bind fun(x75,x81)=>n8 K a0 a1 a6 a7 x75 x81
def kP (K:Nat) (a0:Int) (a5:List Nat) (a8:List (List Rat)) (v28:Rat) (v31:Nat):Nat→(List (List Rat))→Int→Option (List (List Rat))
 |0,_,_=>none
 |k+1,x38,x42=>bif(decide (x42<((a8.getD v31 []).length:Int))) then((bK (x38.getD v31 []) x42).bind fun v118=>(bK a5 a0).bind fun v123=>(aD0 v118 v28).bind fun v125=>(bK (x38.getD v123 []) x42).bind fun v127=>(pN (x38.getD v123 []) x42 v125).bind fun x129=>(aQ (x42+1)).bind fun v132=>kP K a0 a5 a8 v28 v31 k (x38.set v123 x129) v132) else(some x38)
def m6 (K:Nat) (a0:Int) (a1:Int) (a2:Int) (a3:Int) (a4:Int) (a5:List Nat) (a6:List Rat) (a7:List Int) (a8:List (List Rat)):Option ((List Nat)×(List Rat)×(List Int)×(List (List Rat))):=
 (bK a5 a0).bind fun v26=>(bK (a8.getD v26 []) a1).bind fun v28=>(bK a5 a0).bind fun v31=>(kP K a0 a5 a8 v28 v31 K a8 0).bind fun x43=>oD K a0 a1 a5 a6 a7 x43
theorem t6 {K:Nat} {a0:Int} {a1:Int} {a2:Int} {a3:Int} {a4:Int} {a5:List Nat} {a6:List Rat} {a7:List Int} {a8:List (List Rat)} {r:(List Nat)×(List Rat)×(List Int)×(List (List Rat))} (hF:m6 K a0 a1 a2 a3 a4 a5 a6 a7 a8=some r) {p0:Nat} {b5:Option Nat} {c6 n7:Nat} {b10:Option Nat} {c11 n12:Nat} {b15:Option Nat} {c16 n17:Nat} {g20:List p7} {N21:Nat} (q8:a5.length=n7) (q13:a6.length=n12) (q18:a7.length=n17) (q22:a8.length=N21) (q23:cL g20 a8) (q24:∀k∈a5,k<N21):CtO Tryz.prog 151 ([⟨some p0,1,123,6,1,([pI .i64 a2]++[pI .i64 a3]++[pI .i64 a4]++[pO b5 n7 c6]++[pO b10 n12 c11]++[pO b15 n17 c16])⟩,hO (cH g20) b5 c6 24 n7 a5,hO cQ b10 c11 42 n12 a6,hO cI b15 c16 3 n17 a7]++eA cQ 42 g20 a8) [.vc (pP (some p0) 0),.vc (pI .i64 a0),.vc (pI .i64 a1)] (fun Ho q=>∃b1134 c1135 n1136 g1143 N1144,r.1.length=n1136∧r.2.1.length=n12∧r.2.2.1.length=n17∧r.2.2.2.length=N1144∧cL g1143 r.2.2.2∧(∀k∈r.1,k<N1144)∧Ho=([⟨some p0,1,123,6,1,([pI .i64 a2]++[pI .i64 a3]++[pI .i64 a4]++[pO b1134 n1136 c1135]++[pO b10 n12 c11]++[pO b15 n17 c16])⟩,hO (cH g1143) b1134 c1135 24 n1136 r.1,hO cQ b10 c11 42 n12 r.2.1,hO cI b15 c16 3 n17 r.2.2.1]++eA cQ 42 g1143 r.2.2.2)∧q=.any):=by
 unfold m6 at hF
 refine aA Tryz.func151 rfl (by kernel_rfl) Tryz.ntmps151 rfl (fun w0 M0=>?_)
 obtain⟨v26,h27,v28,h29,hF⟩:=tY hF
 refine go ?_ ?_
 refine aG (d7 (4+v26) rfl tyS24 (rN 4 rfl q23 q22 (q24 _ (aN h27))) (cY q23 q22 (q24 _ (aN h27))) (aC h29).1 (aC h29).2.1) zU2 ?_
 refine aG (iC (k:=4) (4+v26) rfl (rN 4 rfl q23 q22 (q24 _ (aN h27))) h29 rfl (.agg tyA42) rfl) zU1 ?_
 refine aK rfl tyZ42q (fun b30=>?_)
 have hF:=tX h27 hF
 refine go ?_ ?_
 refine aG (aBx (C:=cQ) (xs:=(a8.getD v26 [])) (T:=42) rfl tyS24 (cY q23 q22 (q24 _ (aN h27)))) zU1 ?_
 refine go ?_ ?_
 refine aJ (aX (fun H E=>∃(x43:List (List Rat)),oD K a0 a1 a5 a6 a7 x43=some r∧x43.length=N21∧cL g20 x43∧H=([⟨some p0,1,123,6,1,([pI .i64 a2]++[pI .i64 a3]++[pI .i64 a4]++[pO b5 n7 c6]++[pO b10 n12 c11]++[pO b15 n17 c16])⟩,hO (cH g20) b5 c6 24 n7 a5,hO cQ b10 c11 42 n12 a6,hO cI b15 c16 3 n17 a7]++eA cQ 42 g20 x43)∧E=[(0,.vc (pP (some p0) 0)),(1,.vc (pI .i64 a0)),(2,.vc (pI .i64 a1))]) ?_ (fun Jj48=>?_))
 ·rintro _ _ ⟨x43,hF,q44,q45,rfl,rfl⟩
  unfold oD at hF
  refine go ?_ ?_
  refine aJ (aX (fun H E=>∃(x75:List Nat),∃(x81:List (List Rat)),∃(b76:Option Nat),∃(c77:Nat),∃(n78:Nat),∃(g82:List p7),∃(N83:Nat),n8 K a0 a1 a6 a7 x75 x81=some r∧x75.length=n78∧x81.length=N83∧cL g82 x81∧(∀k∈x75,k<N83)∧H=([⟨some p0,1,123,6,1,([pI .i64 a2]++[pI .i64 a3]++[pI .i64 a4]++[pO b76 n78 c77]++[pO b10 n12 c11]++[pO b15 n17 c16])⟩,hO (cH g82) b76 c77 24 n78 x75,hO cQ b10 c11 42 n12 a6,hO cI b15 c16 3 n17 a7]++eA cQ 42 g82 x81)∧E=[(0,.vc (pP (some p0) 0)),(1,.vc (pI .i64 a0)),(2,.vc (pI .i64 a1))]) ?_ (fun Jj88=>?_))
  ·rintro _ _ ⟨x75,x81,b76,c77,n78,g82,N83,hF,q79,q84,q85,q86,rfl,rfl⟩
   unfold n8 at hF
   refine aH (aD ?_)
   obtain⟨v91,h92,hF⟩:=aP hF
   refine dr [0,1,3,7,0,16,48,112,0,496,1008,0,4095] 12 1 ?_ (fun bs90 G89=>?_)
   obtain⟨v93,h94,hF⟩:=aP hF
   refine m7 4 [2] [0,1,3] rfl (xX h94 q13 q84 q85 (q86 _ (aN h92))) ⟨rfl,rfl,rfl,trivial⟩ rfl rfl rfl (by decide) ?_
   rintro _ _ ⟨q95,rfl,rfl⟩
   refine lE (iQ [hO cQ b10 c11 42 n12 v93] (eA cQ 42 g82 x81) [⟨some p0,1,123,6,1,([pI .i64 a2]++[pI .i64 a3]++[pI .i64 a4]++[pO b76 n78 c77]++[pO b10 n12 c11]++[pO b15 n17 c16])⟩,hO (cH g82) b76 c77 24 n78 x75,hO cI b15 c16 3 n17 a7]) ?_
   obtain⟨v97,h98,x99,h100,hF⟩:=tY hF
   obtain rfl:=iD hF
   refine go ?_ ?_
   exact iT (.inr rfl) Tryz.results151 .nil rfl 4 [1,2,0,3] rfl rfl (by decide) ⟨b76,c77,n78,g82,N83,q79,q95,(bG h100 q18),q84,q85,q86,rfl,rfl⟩
  obtain⟨⟨x75',x81'⟩,hL,hRl87⟩:=aP hF
  refine dQ (fun k a w=>∃(x62:List Nat),∃(x68:List (List Rat)),∃(x74:Int),∃(b63:Option Nat),∃(c64:Nat),∃(n65:Nat),∃(g69:List p7),∃(N70:Nat),iG K a0 a1 a5 k x62 x68 x74=some (x75',x81')∧x62.length=n65∧x68.length=N70∧cL g69 x68∧(∀k∈x62,k<N70)∧hs _ ([⟨some p0,1,123,6,1,([pI .i64 a2]++[pI .i64 a3]++[pI .i64 a4]++[pO b63 n65 c64]++[pO b10 n12 c11]++[pO b15 n17 c16])⟩,hO (cH g69) b63 c64 24 n65 x62,hO cQ b10 c11 42 n12 a6,hO cI b15 c16 3 n17 a7]++eA cQ 42 g69 x68) [(0,.vc (pP (some p0) 0)),(1,.vc (pI .i64 a0)),(2,.vc (pI .i64 a1)),(50,.vc (pO b63 n65 c64)),(51,.vc (pI .i64 (a5.length:Int))),(52,.vc (pI .i64 x74))] a w) K (fun a w ⟨_,_,_,_,_,_,_,_,hF,_,_,_,_,_⟩=>by cases hF) (fun k a w ⟨x62,x68,x74,b63,c64,n65,g69,N70,hF,q66,q71,q72,q73,hh⟩=>dP ?_ hh) (fun a w hh=>⟨a5,x43,0,b5,c6,n7,g20,N21,hL,q8,q44,q45,q24,aR 4 [0,1,2,3] rfl rfl (by decide) (by exact⟨rfl,rfl,rfl,rfl,rfl,rfl,trivial⟩) hh⟩)
  rw [iG.eq_2] at hF
  refine go ?_ ?_
  refine aE hF rfl (fun h102 hF=>?_) (fun h102 hF=>?_)
  ·refine go ?_ ?_
   refine aJ ?_
   obtain⟨v103,h104,hF⟩:=aP hF
   refine go ?_ ?_
   refine aE hF rfl (fun h105 hF=>?_) (fun h105 hF=>?_)
   ·obtain⟨v106,h107,v108,h109,hF⟩:=tY hF
    refine go ?_ ?_
    refine m7 4 [] [0,1,2,3] rfl (aB4 h109 q71 q72 (q73 _ (aN h104)) (q73 _ (aN h107))) ⟨rfl,rfl,rfl,trivial⟩ rfl rfl rfl (by decide) ?_
    rintro _ _ ⟨q110,q111,rfl,rfl⟩
    refine lE (iQ [] (eA cQ 42 g69 v108) [⟨some p0,1,123,6,1,([pI .i64 a2]++[pI .i64 a3]++[pI .i64 a4]++[pO b63 n65 c64]++[pO b10 n12 c11]++[pO b15 n17 c16])⟩,hO (cH g69) b63 c64 24 n65 x62,hO cQ b10 c11 42 n12 a6,hO cI b15 c16 3 n17 a7]) ?_
    obtain⟨v113,h114,hF⟩:=aP hF
    refine go ?_ ?_
    exact aF (fun a w hh=>⟨x62,v108,v113,b63,c64,n65,g69,N70,hF,q66,q110,q111,q73,aR 4 [0,1,2,3] rfl rfl (by decide) (by exact⟨rfl,rfl,rfl,rfl,rfl,rfl,trivial⟩) hh⟩)
   obtain⟨v115,h116,hF⟩:=aP hF
   refine go ?_ ?_
   exact aF (fun a w hh=>⟨x62,x68,v115,b63,c64,n65,g69,N70,hF,q66,q71,q72,q73,aR 4 [0,1,2,3] rfl rfl (by decide) (by exact⟨rfl,rfl,rfl,rfl,rfl,rfl,trivial⟩) hh⟩)
  refine bH ?_
  obtain⟨rfl,rfl⟩:=sm2 hF
  exact eG Jj88 ⟨x62,x68,b63,c64,n65,g69,N70,hRl87,q66,q71,q72,q73,rfl,rfl⟩ 4 [0,1,2,3] rfl rfl ⟨rfl,rfl,rfl,trivial⟩
 obtain⟨x43',hL,hRl47⟩:=aP hF
 refine dQ (fun k a w=>∃(x38:List (List Rat)),∃(x42:Int),kP K a0 a5 a8 v28 v26 k x38 x42=some x43'∧x38.length=N21∧cL g20 x38∧hs _ ([⟨some b30,1,42,4,1,(eQ v28)⟩,⟨some p0,1,123,6,1,([pI .i64 a2]++[pI .i64 a3]++[pI .i64 a4]++[pO b5 n7 c6]++[pO b10 n12 c11]++[pO b15 n17 c16])⟩,hO (cH g20) b5 c6 24 n7 a5,hO cQ b10 c11 42 n12 a6,hO cI b15 c16 3 n17 a7]++eA cQ 42 g20 x38) [(0,.vc (pP (some p0) 0)),(1,.vc (pI .i64 a0)),(2,.vc (pI .i64 a1)),(6,.vc (pP (some b30) 0)),(27,.vc (pO (fL g20 v26).1 (fL g20 v26).2.1 (fL g20 v26).2.2)),(28,.vc (pI .i64 ((a8.getD v26 []).length:Int))),(29,.vc (pI .i64 x42))] a w) K (fun a w ⟨_,_,hF,_,_,_⟩=>by cases hF) (fun k a w ⟨x38,x42,hF,q39,q40,hh⟩=>dP ?_ hh) (fun a w hh=>⟨a8,0,hL,q22,q23,aR 5 [0,1,2,3,4] rfl rfl (by decide) (by exact⟨rfl,rfl,rfl,rfl,rfl,rfl,rfl,trivial⟩) hh⟩)
 rw [kP.eq_2] at hF
 refine go ?_ ?_
 refine aE hF rfl (fun h117 hF=>?_) (fun h117 hF=>?_)
 ·refine go ?_ ?_
  refine aJ ?_
  obtain⟨v118,h119,hF⟩:=aP hF
  refine go ?_ ?_
  refine aG (d7 (5+v26) rfl tyS24 (rN 5 rfl q40 q39 (q24 _ (aN h27))) (cY q40 q39 (q24 _ (aN h27))) (aC h119).1 (aC h119).2.1) zU2 ?_
  refine aG (iC (k:=4) (5+v26) rfl (rN 5 rfl q40 q39 (q24 _ (aN h27))) h119 rfl (.agg tyA42) rfl) zU1 ?_
  refine aK rfl tyZ42q (fun b120=>?_)
  have hF:=tX h27 hF
  obtain⟨v125,h126,hF⟩:=bC hF w7
  have hF:=tX h119 hF
  refine go ?_ ?_
  refine iV [0,1,3,7,0,31,63,0,0,0,768,2047,4095] 12 1 [.v (.vc (pP (some p0) 0)),.v (.vc (pP (some p0) 0)),.v (.vc (pP (some p0) 3)),.v (.vc (pO b5 n7 c6)),.v (.vc (pI .i64 a0)),.v (.vc (pE b5 a0 (cH g20).n 0)),.v (.vc (pO (fL g20 v26).1 (fL g20 v26).2.1 (fL g20 v26).2.2)),.v (.vc (pI .i64 x42)),.v (.va (eQ v118)),.v (.va (eQ v28)),.v (.va (eQ v125)),.v (.vc (pE (fL g20 v26).1 x42 cQ.n 0))] aY ⟨d0 (aM (.inl rfl)) zU1,d0 (qX rfl) zU1,d0 (f7 (off:=0) (k:=3) rfl tyF123_3) zU1,d0 (fF 2 1 rfl rfl rfl rfl (.one tyO23)) zU1,d0 (aM (.inl rfl)) zU1,d0 (d7 (C:=(cH g20)) 3 rfl tyS23 rfl q8 (aC h27).1 (aC h27).2.1) zU2,d0 (iC (C:=(cH g20)) (k:=1) 3 rfl rfl h27 rfl (.one tyO24) rfl) zU1,d0 (aM (.inl rfl)) zU1,d0 (fF 0 4 rfl rfl rfl rfl (.agg tyA42)) zU1,d0 (fF 1 4 rfl rfl rfl rfl (.agg tyA42)) zU1,d0 (bJ rfl h126 rfl) zU2,d0 (d7 (6+v26) rfl tyS24 (gL 6 rfl q40 q39 (q24 _ (aN h27))) (cY q40 q39 (q24 _ (aN h27))) (aC h119).1 (aC h119).2.1) zU2,trivial⟩ (fun bs122 G121=>?_)
  obtain⟨x129,h130,hF⟩:=aP hF
  refine kY (xM (H':=([⟨some b120,1,42,4,1,(eQ v118)⟩,⟨some b30,1,42,4,1,(eQ v28)⟩,⟨some p0,1,123,6,1,([pI .i64 a2]++[pI .i64 a3]++[pI .i64 a4]++[pO b5 n7 c6]++[pO b10 n12 c11]++[pO b15 n17 c16])⟩,hO (cH g20) b5 c6 24 n7 a5,hO cQ b10 c11 42 n12 a6,hO cI b15 c16 3 n17 a7]++eA cQ 42 g20 (x38.set v26 x129))) (6+v26) rfl (rN 6 rfl q40 q39 (q24 _ (aN h27))) h119 h130 tyA42.s (hH:=stN 6 rfl q40 q39 (q24 _ (aN h27)))) zU2 ?_
  obtain⟨v132,h133,hF⟩:=aP hF
  refine go ?_ ?_
  exact aF (fun a w hh=>⟨(x38.set v26 x129),v132,hF,(aDf q39),(aEu q40 q39 (q24 _ (aN h27)) (bG h130 rfl)),aR 6 [1,2,3,4,5] rfl rfl (by decide) (by exact⟨rfl,rfl,rfl,rfl,rfl,rfl,rfl,trivial⟩) hh⟩)
 refine bH ?_
 obtain rfl:=iD hF
 exact eG Jj48 ⟨x38,hRl47,q39,q40,rfl,rfl⟩ 5 [1,2,3,4] rfl rfl ⟨rfl,rfl,rfl,trivial⟩
def kR (K:Nat) (x106:List Nat) (x112:List Rat) (x118:List Int) (x124:List (List Rat)) (x130:Bool) (x131:Int):Option (Nat×(List Nat)×(List Rat)×(List Int)×(List (List Rat))×Bool×Int):=
 some (0,(x106,x112,x118,x124,x130,x131))
def eP (K:Nat) (a3:Int) (yF:Int→(List Nat)→(List Rat)→(List Int)→(List (List Rat))→Bool→Int→Option (Nat×(List Nat)×(List Rat)×(List Int)×(List (List Rat))×Bool×Int)):Nat→(List Nat)→(List Rat)→(List Int)→(List (List Rat))→Bool→Int→Int→Option (LR (Nat×(List Nat)×(List Rat)×(List Int)×(List (List Rat))×Bool×Int) ((List Nat)×(List Rat)×(List Int)×(List (List Rat))×Bool×Int))
 |0,_,_,_,_,_,_,_=>none
 |k+1,x79,x85,x91,x97,x103,x104,x105=>bif(decide (x105<a3)) then((bK x85 x105).bind fun v135=>(xP v135).bind fun v137=>bif(decide (v137<0)) then((yF x105 x79 x85 x91 x97 x103 x104).bind fun v140=>bif Nat.beq v140.1 0 then((aQ (x105+1)).bind fun v169=>eP K a3 yF k v140.2.1 v140.2.2.1 v140.2.2.2.1 v140.2.2.2.2.1 v140.2.2.2.2.2.1 v140.2.2.2.2.2.2 v169) else(some (.ret (v140.1,(v140.2.1,v140.2.2.1,v140.2.2.2.1,v140.2.2.2.2.1,v140.2.2.2.2.2.1,v140.2.2.2.2.2.2))))) else((aQ (x105+1)).bind fun v199=>eP K a3 yF k x79 x85 x91 x97 x103 x104 v199)) else(some (.go (x79,x85,x91,x97,x103,x104)))
def nM (K:Nat) (yF:Int→(List Nat)→(List Rat)→(List Int)→(List (List Rat))→Bool→Int→Option (Nat×(List Nat)×(List Rat)×(List Int)×(List (List Rat))×Bool×Int)) (a0:Int) (a1:Int) (a2:Int) (a3:Int) (a4:Bool) (a5:Int) (a6:List Nat) (a7:List Rat) (a8:List Int) (a9:List (List Rat)):Option (Nat×(List Nat)×(List Rat)×(List Int)×(List (List Rat))×Bool×Int):=
 (eP K a3 yF K a6 a7 a8 a9 a4 a5 0).bind fun o=>match o with| .ret r=>some r| .go (x106,x112,x118,x124,x130,x131)=>kR K x106 x112 x118 x124 x130 x131
theorem wQ {K:Nat} {yF:Int→(List Nat)→(List Rat)→(List Int)→(List (List Rat))→Bool→Int→Option (Nat×(List Nat)×(List Rat)×(List Int)×(List (List Rat))×Bool×Int)} {l:Nat} {x:LX} {jump:Nat→Code} {Mb:iB} {a0:Int} {a1:Int} {a2:Int} {a3:Int} {a4:Bool} {a5:Int} {a6:List Nat} {a7:List Rat} {a8:List Int} {a9:List (List Rat)} {p0:Nat} {p1:Nat} {p2:Nat} {p3:Nat} {p4:Nat} {p5:Nat} {b5:Option Nat} {c6 n7:Nat} {b10:Option Nat} {c11 n12:Nat} {b15:Option Nat} {c16 n17:Nat} {g20:List p7} {N21:Nat} (hY:∀(k0:Int) (x26:List Nat) (x32:List Rat) (x38:List Int) (x44:List (List Rat)) (x50:Bool) (x51:Int) (r:Nat×(List Nat)×(List Rat)×(List Int)×(List (List Rat))×Bool×Int) (b27:Option Nat) (c28:Nat) (n29:Nat) (g45:List p7) (N46:Nat),x26.length=n29→x32.length=n12→x38.length=n17→x44.length=N46→cL g45 x44→(∀k∈x26,k<N46)→yF k0 x26 x32 x38 x44 x50 x51=some r→CtY Tryz.prog l x jump Mb ([⟨some p0,1,123,6,1,([pI .i64 a0]++[pI .i64 a1]++[pI .i64 a2]++[pO b27 n29 c28]++[pO b10 n12 c11]++[pO b15 n17 c16])⟩,⟨some p1,1,3,1,1,[pI .i64 a3]⟩,⟨some p2,1,120,1,1,[pP (some p0) 0]⟩,⟨some p3,1,4,1,1,[pB x50]⟩,⟨some p4,1,3,1,1,[pI .i64 x51]⟩,⟨some p5,1,120,1,1,[pP (some p0) 0]⟩,hO (cH g45) b27 c28 24 n29 x26,hO cQ b10 c11 42 n12 x32,hO cI b15 c16 3 n17 x38]++eA cQ 42 g45 x44) [.vc (pI .i64 k0)] (fun j Ho=>∃(b27':Option Nat),∃(c28':Nat),∃(n29':Nat),∃(g45':List p7),∃(N46':Nat),j=r.1∧r.2.1.length=n29'∧r.2.2.1.length=n12∧r.2.2.2.1.length=n17∧r.2.2.2.2.1.length=N46'∧cL g45' r.2.2.2.2.1∧(∀k∈r.2.1,k<N46')∧Ho=([⟨some p0,1,123,6,1,([pI .i64 a0]++[pI .i64 a1]++[pI .i64 a2]++[pO b27' n29' c28']++[pO b10 n12 c11]++[pO b15 n17 c16])⟩,⟨some p1,1,3,1,1,[pI .i64 a3]⟩,⟨some p2,1,120,1,1,[pP (some p0) 0]⟩,⟨some p3,1,4,1,1,[pB r.2.2.2.2.2.1]⟩,⟨some p4,1,3,1,1,[pI .i64 r.2.2.2.2.2.2]⟩,⟨some p5,1,120,1,1,[pP (some p0) 0]⟩,hO (cH g45') b27' c28' 24 n29' r.2.1,hO cQ b10 c11 42 n12 r.2.2.1,hO cI b15 c16 3 n17 r.2.2.2.1]++eA cQ 42 g45' r.2.2.2.2.1))) {r:Nat×(List Nat)×(List Rat)×(List Int)×(List (List Rat))×Bool×Int} (hF:nM K yF a0 a1 a2 a3 a4 a5 a6 a7 a8 a9=some r) (q8:a6.length=n7) (q13:a7.length=n12) (q18:a8.length=n17) (q22:a9.length=N21) (q23:cL g20 a9) (q24:∀k∈a6,k<N21):CtI Tryz.prog 169 l x jump Mb ([⟨some p0,1,123,6,1,([pI .i64 a0]++[pI .i64 a1]++[pI .i64 a2]++[pO b5 n7 c6]++[pO b10 n12 c11]++[pO b15 n17 c16])⟩,⟨some p1,1,3,1,1,[pI .i64 a3]⟩,⟨some p2,1,120,1,1,[pP (some p0) 0]⟩,⟨some p3,1,4,1,1,[pB a4]⟩,⟨some p4,1,3,1,1,[pI .i64 a5]⟩,⟨some p5,1,120,1,1,[pP (some p0) 0]⟩,hO (cH g20) b5 c6 24 n7 a6,hO cQ b10 c11 42 n12 a7,hO cI b15 c16 3 n17 a8]++eA cQ 42 g20 a9) [.vc (pY l),.vc (pP (some p1) 0),.vc (pP (some p2) 0)] (fun j Ho=>∃(b27':Option Nat),∃(c28':Nat),∃(n29':Nat),∃(g45':List p7),∃(N46':Nat),j=r.1∧r.2.1.length=n29'∧r.2.2.1.length=n12∧r.2.2.2.1.length=n17∧r.2.2.2.2.1.length=N46'∧cL g45' r.2.2.2.2.1∧(∀k∈r.2.1,k<N46')∧Ho=([⟨some p0,1,123,6,1,([pI .i64 a0]++[pI .i64 a1]++[pI .i64 a2]++[pO b27' n29' c28']++[pO b10 n12 c11]++[pO b15 n17 c16])⟩,⟨some p1,1,3,1,1,[pI .i64 a3]⟩,⟨some p2,1,120,1,1,[pP (some p0) 0]⟩,⟨some p3,1,4,1,1,[pB r.2.2.2.2.2.1]⟩,⟨some p4,1,3,1,1,[pI .i64 r.2.2.2.2.2.2]⟩,⟨some p5,1,120,1,1,[pP (some p0) 0]⟩,hO (cH g45') b27' c28' 24 n29' r.2.1,hO cQ b10 c11 42 n12 r.2.2.1,hO cI b15 c16 3 n17 r.2.2.2.1]++eA cQ 42 g45' r.2.2.2.2.1)):=by
 unfold nM at hF
 refine aF2 Tryz.func169 rfl (by kernel_rfl) Tryz.ntmps169 rfl (fun w0 M0 h0 hMb=>?_)
 refine go ?_ ?_
 refine aJ (aX (fun H E=>∃(x106:List Nat),∃(x112:List Rat),∃(x118:List Int),∃(x124:List (List Rat)),∃(x130:Bool),∃(x131:Int),∃(b107:Option Nat),∃(c108:Nat),∃(n109:Nat),∃(g125:List p7),∃(N126:Nat),kR K x106 x112 x118 x124 x130 x131=some r∧x106.length=n109∧x112.length=n12∧x118.length=n17∧x124.length=N126∧cL g125 x124∧(∀k∈x106,k<N126)∧H=([⟨some p0,1,123,6,1,([pI .i64 a0]++[pI .i64 a1]++[pI .i64 a2]++[pO b107 n109 c108]++[pO b10 n12 c11]++[pO b15 n17 c16])⟩,⟨some p1,1,3,1,1,[pI .i64 a3]⟩,⟨some p2,1,120,1,1,[pP (some p0) 0]⟩,⟨some p3,1,4,1,1,[pB x130]⟩,⟨some p4,1,3,1,1,[pI .i64 x131]⟩,⟨some p5,1,120,1,1,[pP (some p0) 0]⟩,hO (cH g125) b107 c108 24 n109 x106,hO cQ b10 c11 42 n12 x112,hO cI b15 c16 3 n17 x118]++eA cQ 42 g125 x124)∧E=[]) ?_ (fun Jj133=>?_))
 ·rintro _ _ ⟨x106,x112,x118,x124,x130,x131,b107,c108,n109,g125,N126,hF,q110,q116,q122,q127,q128,q129,rfl,rfl⟩
  unfold kR at hF
  obtain rfl:=iD hF
  exact aD7 0 (.inr rfl) Tryz.results169 h0 (aCJ 9 [0,1,2,3,4,5,6,7,8] rfl rfl) ⟨b107,c108,n109,g125,N126,rfl,q110,q116,q122,q127,q128,q129,rfl⟩
 obtain⟨ol132,hL,hRl132⟩:=aP hF
 refine dQ (fun k a w=>∃(x79:List Nat),∃(x85:List Rat),∃(x91:List Int),∃(x97:List (List Rat)),∃(x103:Bool),∃(x104:Int),∃(x105:Int),∃(b80:Option Nat),∃(c81:Nat),∃(n82:Nat),∃(g98:List p7),∃(N99:Nat),eP K a3 yF k x79 x85 x91 x97 x103 x104 x105=some ol132∧x79.length=n82∧x85.length=n12∧x91.length=n17∧x97.length=N99∧cL g98 x97∧(∀k∈x79,k<N99)∧hs _ ([⟨some p0,1,123,6,1,([pI .i64 a0]++[pI .i64 a1]++[pI .i64 a2]++[pO b80 n82 c81]++[pO b10 n12 c11]++[pO b15 n17 c16])⟩,⟨some p1,1,3,1,1,[pI .i64 a3]⟩,⟨some p2,1,120,1,1,[pP (some p0) 0]⟩,⟨some p3,1,4,1,1,[pB x103]⟩,⟨some p4,1,3,1,1,[pI .i64 x104]⟩,⟨some p5,1,120,1,1,[pP (some p0) 0]⟩,hO (cH g98) b80 c81 24 n82 x79,hO cQ b10 c11 42 n12 x85,hO cI b15 c16 3 n17 x91]++eA cQ 42 g98 x97) [(0,.vc (pY l)),(2,.vc (pP (some p2) 0)),(5,.vc (pI .i64 a3)),(6,.vc (pI .i64 x105))] a w) K (fun a w ⟨_,_,_,_,_,_,_,_,_,_,_,_,hF,_,_,_,_,_,_,_⟩=>by cases hF) (fun k a w ⟨x79,x85,x91,x97,x103,x104,x105,b80,c81,n82,g98,N99,hF,q83,q89,q95,q100,q101,q102,hh⟩=>dP ?_ hh) (fun a w hh=>⟨a6,a7,a8,a9,a4,a5,0,b5,c6,n7,g20,N21,hL,q8,q13,q18,q22,q23,q24,aR 9 [0,1,2,3,4,5,6,7,8] rfl rfl (by decide) (by exact⟨rfl,rfl,rfl,rfl,trivial⟩) hh⟩)
 rw [eP.eq_2] at hF
 refine go ?_ ?_
 refine aE hF rfl (fun h134 hF=>?_) (fun h134 hF=>?_)
 ·refine go ?_ ?_
  refine aJ ?_
  obtain⟨v135,h136,hF⟩:=aP hF
  obtain⟨v137,h138,hF⟩:=bC hF d8
  refine go ?_ ?_
  refine dV hF (fun h139 hF=>?_) (fun h139 hF=>?_)
  ·refine uX (aM (.inl rfl)) zU1 ?_
   refine uX (aM (.inl rfl)) zU1 ?_
   obtain⟨v140,h141,hF⟩:=aP hF
   refine aNO rfl (hY _ _ _ _ _ _ _ _ _ _ _ _ _ q83 q89 q95 q100 q101 q102 h141) h0 hMb zU2 ?_ ?_
   ·skip
    rintro _ ⟨b144,c145,n146,g162,N163,hj142,q147,q153,q159,q164,q165,q166,rfl⟩
    have hF:=rY (show Nat.beq v140.1 0=true by rw [←hj142];rfl) hF
    refine go ?_ ?_
    refine vM rfl ?_
    obtain⟨v169,h170,hF⟩:=aP hF
    refine go ?_ ?_
    exact aF (fun a w hh=>⟨v140.2.1,v140.2.2.1,v140.2.2.2.1,v140.2.2.2.2.1,v140.2.2.2.2.2.1,v140.2.2.2.2.2.2,v169,b144,c145,n146,g162,N163,hF,q147,q153,q159,q164,q165,q166,aR 9 [0,1,2,3,4,5,6,7,8] rfl rfl (by decide) (by exact⟨rfl,rfl,rfl,rfl,trivial⟩) hh⟩)
   rintro j171 _ ⟨b174,c175,n176,g192,N193,hj172,q177,q183,q189,q194,q195,q196,rfl⟩
   have hF:=p8 (show Nat.beq v140.1 0=false by rw [←hj172];rfl) hF
   refine go ?_ ?_
   refine jS rfl ?_
   refine fY (fZ ?_)
   obtain rfl:=iD hF
   obtain rfl:=iD hRl132
   exact aD7 (j171+1) (.inl rfl) Tryz.results169 h0 (aCJ 9 [0,1,2,3,4,5,6,7,8] rfl rfl) ⟨b174,c175,n176,g192,N193,hj172,q177,q183,q189,q194,q195,q196,rfl⟩
  refine go ?_ ?_
  refine vM rfl ?_
  obtain⟨v199,h200,hF⟩:=aP hF
  refine go ?_ ?_
  exact aF (fun a w hh=>⟨x79,x85,x91,x97,x103,x104,v199,b80,c81,n82,g98,N99,hF,q83,q89,q95,q100,q101,q102,aR 9 [0,1,2,3,4,5,6,7,8] rfl rfl (by decide) (by exact⟨rfl,rfl,rfl,rfl,trivial⟩) hh⟩)
 refine bH ?_
 obtain rfl:=iD hF
 exact eG Jj133 ⟨x79,x85,x91,x97,x103,x104,b80,c81,n82,g98,N99,hRl132,q83,q89,q95,q100,q101,q102,rfl,rfl⟩ 9 [0,1,2,3,4,5,6,7,8] rfl rfl trivial
def oQ (K:Nat) (x83:List Nat) (x89:List Rat) (x95:List Int) (x101:List (List Rat)) (x107:Int):Option (Int×(List Nat)×(List Rat)×(List Int)×(List (List Rat))):=
 some ((-1),x83,x89,x95,x101)
def tW (K:Nat) (a1:Int) (a2:Int) (a3:Int) (k142:Int) (x116:List Nat) (x122:List Rat) (x128:List Int) (x134:List (List Rat)) (x140:Bool) (x141:Int):Option (Nat×(List Nat)×(List Rat)×(List Int)×(List (List Rat))×Bool×Int):=
 (pH K k142 a1 a2 a3 x116 x122 x128 x134).bind fun v146=>bif(decide (v146<0)) then(some (1,(x116,x122,x128,x134,x140,k142))) else((m6 K v146 k142 a1 a2 a3 x116 x122 x128 x134).bind fun v149=>some (2,(v149.1,v149.2.1,v149.2.2.1,v149.2.2.2,true,x141)))
def iS (K:Nat) (a0:Int) (a1:Int) (a2:Int) (a3:Int):Nat→(List Nat)→(List Rat)→(List Int)→(List (List Rat))→Bool→Int→Option (LR (Int×(List Nat)×(List Rat)×(List Int)×(List (List Rat))) ((List Nat)×(List Rat)×(List Int)×(List (List Rat))×Int))
 |0,_,_,_,_,_,_=>none
 |k+1,x57,x63,x69,x75,x81,x82=>bif x81 then((oT a0 a1 a2 a3 x57 x63 x69 x75).bind fun v111=>(nM K (tW K a1 a2 a3) a1 a2 a3 a0 false x82 x57 x63 x69 x75).bind fun v144=>bif Nat.beq v144.1 0 then(iS K a0 a1 a2 a3 k v144.2.1 v144.2.2.1 v144.2.2.2.1 v144.2.2.2.2.1 v144.2.2.2.2.2.1 v144.2.2.2.2.2.2) else(bif Nat.beq v144.1 1 then(some (.ret (v144.2.2.2.2.2.2,v144.2.1,v144.2.2.1,v144.2.2.2.1,v144.2.2.2.2.1))) else(bif Nat.beq v144.1 2 then(iS K a0 a1 a2 a3 k v144.2.1 v144.2.2.1 v144.2.2.2.1 v144.2.2.2.2.1 v144.2.2.2.2.2.1 v144.2.2.2.2.2.2) else(none)))) else(some (.go (x57,x63,x69,x75,x82)))
def oM (K:Nat) (a0:Int) (a1:Int) (a2:Int) (a3:Int) (a4:List Nat) (a5:List Rat) (a6:List Int) (a7:List (List Rat)):Option (Int×(List Nat)×(List Rat)×(List Int)×(List (List Rat))):=
 (iS K a0 a1 a2 a3 K a4 a5 a6 a7 true 0).bind fun o=>match o with| .ret r=>some r| .go (x83,x89,x95,x101,x107)=>oQ K x83 x89 x95 x101 x107
theorem u7 {K:Nat} {a0:Int} {a1:Int} {a2:Int} {a3:Int} {a4:List Nat} {a5:List Rat} {a6:List Int} {a7:List (List Rat)} {r:Int×(List Nat)×(List Rat)×(List Int)×(List (List Rat))} (hF:oM K a0 a1 a2 a3 a4 a5 a6 a7=some r) {p0:Nat} {b5:Option Nat} {c6 n7:Nat} {b10:Option Nat} {c11 n12:Nat} {b15:Option Nat} {c16 n17:Nat} {g20:List p7} {N21:Nat} (q8:a4.length=n7) (q13:a5.length=n12) (q18:a6.length=n17) (q22:a7.length=N21) (q23:cL g20 a7) (q24:∀k∈a4,k<N21):CtO Tryz.prog 114 ([⟨some p0,1,123,6,1,([pI .i64 a1]++[pI .i64 a2]++[pI .i64 a3]++[pO b5 n7 c6]++[pO b10 n12 c11]++[pO b15 n17 c16])⟩,hO (cH g20) b5 c6 24 n7 a4,hO cQ b10 c11 42 n12 a5,hO cI b15 c16 3 n17 a6]++eA cQ 42 g20 a7) [.vc (pP (some p0) 0),.vc (pI .i64 a0)] (fun Ho q=>∃b1276 c1277 n1278 g1285 N1286,r.2.1.length=n1278∧r.2.2.1.length=n12∧r.2.2.2.1.length=n17∧r.2.2.2.2.length=N1286∧cL g1285 r.2.2.2.2∧(∀k∈r.2.1,k<N1286)∧Ho=([⟨some p0,1,123,6,1,([pI .i64 a1]++[pI .i64 a2]++[pI .i64 a3]++[pO b1276 n1278 c1277]++[pO b10 n12 c11]++[pO b15 n17 c16])⟩,hO (cH g1285) b1276 c1277 24 n1278 r.2.1,hO cQ b10 c11 42 n12 r.2.2.1,hO cI b15 c16 3 n17 r.2.2.2.1]++eA cQ 42 g1285 r.2.2.2.2)∧q=.vc (pI .i64 r.1)):=by
 unfold oM at hF
 refine aA Tryz.func114 rfl (by kernel_rfl) Tryz.ntmps114 rfl (fun w0 M0=>?_)
 refine aD (aI (cP rfl rfl trivial (fun b26=>?_)))
 refine aK rfl tyZ3q (fun b27=>?_)
 refine go ?_ ?_
 refine aK rfl tyZ4q (fun b28=>?_)
 refine go ?_ ?_
 refine aJ (aX (fun H E=>∃(x83:List Nat),∃(x89:List Rat),∃(x95:List Int),∃(x101:List (List Rat)),∃(x107:Int),∃(b84:Option Nat),∃(c85:Nat),∃(n86:Nat),∃(g102:List p7),∃(N103:Nat),oQ K x83 x89 x95 x101 x107=some r∧x83.length=n86∧x89.length=n12∧x95.length=n17∧x101.length=N103∧cL g102 x101∧(∀k∈x83,k<N103)∧H=([⟨some b27,1,3,1,1,[pI .i64 x107]⟩,⟨some p0,1,123,6,1,([pI .i64 a1]++[pI .i64 a2]++[pI .i64 a3]++[pO b84 n86 c85]++[pO b10 n12 c11]++[pO b15 n17 c16])⟩,hO (cH g102) b84 c85 24 n86 x83,hO cQ b10 c11 42 n12 x89,hO cI b15 c16 3 n17 x95]++eA cQ 42 g102 x101)∧E=[(4,.vc (pP (some b27) 0))]) ?_ (fun Jj109=>?_))
 ·rintro _ _ ⟨x83,x89,x95,x101,x107,b84,c85,n86,g102,N103,hF,q87,q93,q99,q104,q105,q106,rfl,rfl⟩
  unfold oQ at hF
  refine go ?_ ?_
  refine fY (fZ ?_)
  obtain rfl:=iD hF
  exact iT (.inl rfl) Tryz.results114 (vY 0 1 rfl rfl rfl rfl (.one tyO3) .nil) rfl 5 [1,2,3,4] rfl rfl (by decide) ⟨b84,c85,n86,g102,N103,q87,q93,q99,q104,q105,q106,rfl,rfl⟩
 obtain⟨ol108,hL,hRl108⟩:=aP hF
 refine dQ (fun k a w=>∃(x57:List Nat),∃(x63:List Rat),∃(x69:List Int),∃(x75:List (List Rat)),∃(x81:Bool),∃(x82:Int),∃(b58:Option Nat),∃(c59:Nat),∃(n60:Nat),∃(g76:List p7),∃(N77:Nat),∃(b56:Nat),iS K a0 a1 a2 a3 k x57 x63 x69 x75 x81 x82=some ol108∧x57.length=n60∧x63.length=n12∧x69.length=n17∧x75.length=N77∧cL g76 x75∧(∀k∈x57,k<N77)∧hs _ ([⟨some b56,1,4,1,1,[pB x81]⟩,⟨some b27,1,3,1,1,[pI .i64 x82]⟩,⟨some b26,1,120,1,1,[pP (some p0) 0]⟩,⟨some p0,1,123,6,1,([pI .i64 a1]++[pI .i64 a2]++[pI .i64 a3]++[pO b58 n60 c59]++[pO b10 n12 c11]++[pO b15 n17 c16])⟩,hO (cH g76) b58 c59 24 n60 x57,hO cQ b10 c11 42 n12 x63,hO cI b15 c16 3 n17 x69]++eA cQ 42 g76 x75) [(1,.vc (pI .i64 a0)),(2,.vc (pP (some b26) 0)),(4,.vc (pP (some b27) 0)),(5,.vc (pP (some b56) 0))] a w) K (fun a w ⟨_,_,_,_,_,_,_,_,_,_,_,_,hF,_,_,_,_,_,_,_⟩=>by cases hF) (fun k a w ⟨x57,x63,x69,x75,x81,x82,b58,c59,n60,g76,N77,b56,hF,q61,q67,q73,q78,q79,q80,hh⟩=>dP ?_ hh) (fun a w hh=>⟨a4,a5,a6,a7,true,0,b5,c6,n7,g20,N21,b28,hL,q8,q13,q18,q22,q23,q24,aR 7 [0,1,2,3,4,5,6] rfl rfl (by decide) (by exact⟨rfl,rfl,rfl,rfl,trivial⟩) hh⟩)
 rw [iS.eq_2] at hF
 refine go ?_ ?_
 refine aE hF rfl (fun h110 hF=>?_) (fun h110 hF=>?_)
 ·refine go ?_ ?_
  refine aJ ?_
  obtain⟨v111,h112,hF⟩:=aP hF
  refine go ?_ ?_
  refine m7 7 [3,4,5,6] [0,1,2] rfl (xK h112 q61 q67 q73 q78 q79 q80) zU2 rfl rfl rfl (by decide) ?_
  rintro _ _ ⟨b113,b114,rfl,rfl⟩
  refine lE (iQ [⟨some p0,1,123,6,1,([pI .i64 a1]++[pI .i64 a2]++[pI .i64 a3]++[pO b58 n60 c59]++[pO b10 n12 c11]++[pO b15 n17 c16])⟩,⟨some b113,1,3,1,1,[pI .i64 a0]⟩,⟨some b114,1,120,1,1,[pP (some p0) 0]⟩,hO (cH g76) b58 c59 24 n60 x57,hO cQ b10 c11 42 n12 x63,hO cI b15 c16 3 n17 x69] (eA cQ 42 g76 x75) [⟨some b56,1,4,1,1,[pB false]⟩,⟨some b27,1,3,1,1,[pI .i64 x82]⟩,⟨some b26,1,120,1,1,[pP (some p0) 0]⟩]) ?_
  refine aU (aH (aJ (aP3 9 [0,1,2,6,7,8,3,4,5] rfl rfl ?_)))
  obtain⟨v144,h145,hF⟩:=aP hF
  refine aNk (fun j=>match j with|0=>Go.Code.ret|1=>Go.Code.exit 2|_=>Go.Code.skip) rfl (fun x l Mb hx1 hx2 hx3 ht=>wQ (fun k142 x116 x122 x128 x134 x140 x141 rb143 b117 c118 n119 g135 N136 q120 q126 q132 q137 q138 q139 hF=>?_) h145 q61 q67 q73 q78 q79 q80) (fun Ho hHo=>?_) (fun j Ho hHo=>?_)
  ·refine aFI ht hx1 rfl (fun w0 M0 h0 hMb=>?_)
   rw [hx2,hx3]
   unfold tW at hF
   refine go ?_ ?_
   refine aJB h0 ?_
   refine aJ ?_
   obtain⟨v146,h147,hF⟩:=aP hF
   refine go ?_ ?_
   refine m7 9 [0,6,7,8] [1,2,3,4,5] rfl (xS h147 q120 q126 q132 q137 q138 q139) zU2 rfl rfl rfl (by decide) ?_
   rintro _ _ ⟨rfl,rfl⟩
   refine lE (iQ [⟨some p0,1,123,6,1,([pI .i64 a1]++[pI .i64 a2]++[pI .i64 a3]++[pO b117 n119 c118]++[pO b10 n12 c11]++[pO b15 n17 c16])⟩,hO (cH g135) b117 c118 24 n119 x116,hO cQ b10 c11 42 n12 x122,hO cI b15 c16 3 n17 x128] (eA cQ 42 g135 x134) [⟨some b113,1,3,1,1,[pI .i64 a0]⟩,⟨some b114,1,120,1,1,[pP (some p0) 0]⟩,⟨some b56,1,4,1,1,[pB x140]⟩,⟨some b27,1,3,1,1,[pI .i64 x141]⟩,⟨some b26,1,120,1,1,[pP (some p0) 0]⟩]) ?_
   refine go ?_ ?_
   refine aE hF rfl (fun h148 hF=>?_) (fun h148 hF=>?_)
   ·refine go ?_ ?_
    refine fY (fZ ?_)
    obtain rfl:=iD hF
    exact aQ3 0 rfl h0 (aCJ 9 [0,4,5,6,7,8,1,2,3] rfl rfl) ⟨b117,c118,n119,g135,N136,rfl,q120,q126,q132,q137,q138,q139,rfl⟩
   obtain⟨v149,h150,hF⟩:=aP hF
   refine go ?_ ?_
   refine m7 9 [0,1,2,3] [4,5,6,7,8] rfl (t6 h150 q120 q126 q132 q137 q138 q139) ⟨rfl,rfl,rfl,trivial⟩ rfl rfl rfl (by decide) ?_
   rintro _ _ ⟨b151,c152,n153,g160,N161,q154,q156,q158,q162,q163,q164,rfl,rfl⟩
   refine lE (iQ [⟨some p0,1,123,6,1,([pI .i64 a1]++[pI .i64 a2]++[pI .i64 a3]++[pO b151 n153 c152]++[pO b10 n12 c11]++[pO b15 n17 c16])⟩,hO (cH g160) b151 c152 24 n153 v149.1,hO cQ b10 c11 42 n12 v149.2.1,hO cI b15 c16 3 n17 v149.2.2.1] (eA cQ 42 g160 v149.2.2.2) [⟨some b113,1,3,1,1,[pI .i64 a0]⟩,⟨some b114,1,120,1,1,[pP (some p0) 0]⟩,⟨some b56,1,4,1,1,[pB x140]⟩,⟨some b27,1,3,1,1,[pI .i64 x141]⟩,⟨some b26,1,120,1,1,[pP (some p0) 0]⟩]) ?_
   refine go ?_ ?_
   refine bH ?_
   obtain rfl:=iD hF
   exact aRX 1 rfl h0 (aCJ 9 [0,4,5,6,7,8,1,2,3] rfl rfl) ⟨b151,c152,n153,g160,N161,rfl,q154,q156,q158,q162,q163,q164,rfl⟩
  ·skip
   obtain⟨b168,c169,n170,g186,N187,hj166,q171,q177,q183,q188,q189,q190,rfl⟩:=hHo
   have hF:=rY (show Nat.beq v144.1 0=true by rw [←hj166];rfl) hF
   refine go ?_ ?_
   refine aK rfl tyZ4q (fun b193=>?_)
   refine kY (t_s 0 rfl rfl rfl tyO4.s) zU2 ?_
   refine aU ?_
   exact aF (fun a w hh=>⟨v144.2.1,v144.2.2.1,v144.2.2.2.1,v144.2.2.2.2.1,v144.2.2.2.2.2.1,v144.2.2.2.2.2.2,b168,c169,n170,g186,N187,b193,hF,q171,q177,q183,q188,q189,q190,aR 10 [0,5,6,1,7,8,9] rfl rfl (by decide) (by exact⟨rfl,rfl,rfl,rfl,trivial⟩) hh⟩)
  rcases j with _|_|j
  ·skip
   obtain⟨b196,c197,n198,g214,N215,hj194,q199,q205,q211,q216,q217,q218,rfl⟩:=hHo
   have hF:=p8 (show Nat.beq v144.1 0=false by rw [←hj194];rfl) hF
   have hF:=rY (show Nat.beq v144.1 1=true by rw [←hj194];rfl) hF
   refine fY (fZ ?_)
   obtain rfl:=iD hF
   obtain rfl:=iD hRl108
   exact iT (.inl rfl) Tryz.results114 (vY 4 1 rfl rfl rfl rfl (.one tyO3) .nil) rfl 9 [0,6,7,8] rfl rfl (by decide) ⟨b196,c197,n198,g214,N215,q199,q205,q211,q216,q217,q218,rfl,rfl⟩
  ·skip
   obtain⟨b223,c224,n225,g241,N242,hj221,q226,q232,q238,q243,q244,q245,rfl⟩:=hHo
   have hF:=p8 (show Nat.beq v144.1 0=false by rw [←hj221];rfl) hF
   have hF:=p8 (show Nat.beq v144.1 1=false by rw [←hj221];rfl) hF
   have hF:=rY (show Nat.beq v144.1 2=true by rw [←hj221];rfl) hF
   refine bH (go ?_ ?_)
   refine aK rfl tyZ4q (fun b248=>?_)
   refine kY (t_s 0 rfl rfl rfl tyO4.s) zU2 ?_
   refine aU ?_
   exact aF (fun a w hh=>⟨v144.2.1,v144.2.2.1,v144.2.2.2.1,v144.2.2.2.2.1,v144.2.2.2.2.2.1,v144.2.2.2.2.2.2,b223,c224,n225,g241,N242,b248,hF,q226,q232,q238,q243,q244,q245,aR 10 [0,5,6,1,7,8,9] rfl rfl (by decide) (by exact⟨rfl,rfl,rfl,rfl,trivial⟩) hh⟩)
  obtain⟨b251,c252,n253,g269,N270,hj249,q254,q260,q266,q271,q272,q273,rfl⟩:=hHo
  have hF:=p8 (show Nat.beq v144.1 0=false by rw [←hj249];exact z4 (by omega)) hF
  have hF:=p8 (show Nat.beq v144.1 1=false by rw [←hj249];exact z4 (by omega)) hF
  have hF:=p8 (show Nat.beq v144.1 2=false by rw [←hj249];exact z4 (by omega)) hF
  cases hF
 refine bH ?_
 obtain rfl:=iD hF
 exact eG Jj109 ⟨x57,x63,x69,x75,x82,b58,c59,n60,g76,N77,hRl108,q61,q67,q73,q78,q79,q80,rfl,rfl⟩ 7 [1,3,4,5,6] rfl rfl zU1
def qA (a0:Int) (a1:Int) (a2:Int) (a3:List Nat) (a4:List Rat) (a5:List Int) (a6:List (List Rat)):Option (List Rat):=
 (aQ (2*a0)).bind fun v28=>(aQ (2*a0)).bind fun v30=>(aQ (v30+a1)).bind fun v32=>(slL a4 v28 v32).bind fun x34=>(g8 x34).bind fun v36=>some v36
theorem yJ {a0:Int} {a1:Int} {a2:Int} {a3:List Nat} {a4:List Rat} {a5:List Int} {a6:List (List Rat)} {r:List Rat} (hF:qA a0 a1 a2 a3 a4 a5 a6=some r) {p0:Nat} {b5:Option Nat} {c6 n7:Nat} {b10:Option Nat} {c11 n12:Nat} {b15:Option Nat} {c16 n17:Nat} {g20:List p7} {N21:Nat} (q8:a3.length=n7) (q13:a4.length=n12) (q18:a5.length=n17) (q22:a6.length=N21) (q23:cL g20 a6) (q24:∀k∈a3,k<N21):CtO Tryz.prog 115 ([⟨some p0,1,123,6,1,([pI .i64 a0]++[pI .i64 a1]++[pI .i64 a2]++[pO b5 n7 c6]++[pO b10 n12 c11]++[pO b15 n17 c16])⟩,hO (cH g20) b5 c6 24 n7 a3,hO cQ b10 c11 42 n12 a4,hO cI b15 c16 3 n17 a5]++eA cQ 42 g20 a6) [.vc (pP (some p0) 0)] (fun Ho q=>Ho=([⟨some p0,1,123,6,1,([pI .i64 a0]++[pI .i64 a1]++[pI .i64 a2]++[pO b5 n7 c6]++[pS cQ a4]++[pO b15 n17 c16])⟩,hO (cH g20) b5 c6 24 n7 a3,hO cI b15 c16 3 n17 a5]++eA cQ 42 g20 a6)∧q=.vc (pS cQ r)):=by
 unfold qA at hF
 refine aA Tryz.func115 rfl (by kernel_rfl) Tryz.ntmps115 rfl (fun w0 M0=>?_)
 refine aD (aI (aG (aM (.inr rfl)) ⟨eI cQ,trivial⟩ ?_))
 refine go ?_ ?_
 refine aO1 2 0 4 rfl q13 rfl rfl rfl rfl rfl ?_
 obtain⟨v28,h29,hF⟩:=aP hF
 have hF:=tX h29 hF
 obtain⟨v32,h33,hF⟩:=aP hF
 obtain⟨x34,h35,hF⟩:=aP hF
 obtain⟨v36,h37,hF⟩:=bC hF xW
 refine dr [0,1,3,7,0,16,48,112,240,0,512,1536,3584,7680,0,16384,49152,114688,261632,524287,1048575,2097151] 22 0 ?_ (fun bs27 G26=>?_)
 refine aU (aH (fY (fZ ?_)))
 obtain rfl:=iD hF
 exact iT (.inl rfl) Tryz.results115 (.tmp rfl .nil) rfl 3 [0,1,2] rfl rfl (by decide) ⟨rfl,rfl⟩
def nH (K:Nat) (x76:List Nat) (x82:List Rat) (x88:List Int) (x94:List (List Rat)):Option ((List Nat)×(List Rat)×(List Int)×(List (List Rat))):=
 some (x76,x82,x88,x94)
def eY (K:Nat) (a0:Int) (a1:Int) (a2:Int) (a3:Int) (a6:List Int):Nat→(List Nat)→(List Rat)→(List Int)→(List (List Rat))→Int→Option ((List Nat)×(List Rat)×(List Int)×(List (List Rat)))
 |0,_,_,_,_,_=>none
 |k+1,x51,x57,x63,x69,x75=>bif(decide (x75<(a6.length:Int))) then((bK x63 x75).bind fun v103=>bif(decide (v103<a0)) then((aQ (x75+1)).bind fun v106=>eY K a0 a1 a2 a3 a6 k x51 x57 x63 x69 v106) else((bK x51 x75).bind fun v108=>(slL (x69.getD v108 []) 0 a0).bind fun x110=>(s7 K x110 (k6)).bind fun v112=>bif(decide (0≤v112)) then((m6 K x75 v112 a1 a2 a3 x51 x57 x63 x69).bind fun v115=>(aQ (x75+1)).bind fun v132=>eY K a0 a1 a2 a3 a6 k v115.1 v115.2.1 v115.2.2.1 v115.2.2.2 v132) else((aQ (x75+1)).bind fun v134=>eY K a0 a1 a2 a3 a6 k x51 x57 x63 x69 v134))) else(some (x51,x57,x63,x69))
def rF (K:Nat) (a0:Int) (a1:Int) (a2:Int) (a3:Int) (a4:List Nat) (a5:List Rat) (a6:List Int) (a7:List (List Rat)):Option ((List Nat)×(List Rat)×(List Int)×(List (List Rat))):=
 (eY K a0 a1 a2 a3 a6 K a4 a5 a6 a7 0).bind fun(x76,x82,x88,x94)=>nH K x76 x82 x88 x94
theorem zC {K:Nat} {a0:Int} {a1:Int} {a2:Int} {a3:Int} {a4:List Nat} {a5:List Rat} {a6:List Int} {a7:List (List Rat)} {r:(List Nat)×(List Rat)×(List Int)×(List (List Rat))} (hF:rF K a0 a1 a2 a3 a4 a5 a6 a7=some r) {p0:Nat} {b5:Option Nat} {c6 n7:Nat} {b10:Option Nat} {c11 n12:Nat} {b15:Option Nat} {c16 n17:Nat} {g20:List p7} {N21:Nat} (q8:a4.length=n7) (q13:a5.length=n12) (q18:a6.length=n17) (q22:a7.length=N21) (q23:cL g20 a7) (q24:∀k∈a4,k<N21):CtO Tryz.prog 116 ([⟨some p0,1,123,6,1,([pI .i64 a1]++[pI .i64 a2]++[pI .i64 a3]++[pO b5 n7 c6]++[pO b10 n12 c11]++[pO b15 n17 c16])⟩,hO (cH g20) b5 c6 24 n7 a4,hO cQ b10 c11 42 n12 a5,hO cI b15 c16 3 n17 a6]++eA cQ 42 g20 a7) [.vc (pP (some p0) 0),.vc (pI .i64 a0)] (fun Ho q=>∃b1136 c1137 n1138 g1145 N1146,r.1.length=n1138∧r.2.1.length=n12∧r.2.2.1.length=n17∧r.2.2.2.length=N1146∧cL g1145 r.2.2.2∧(∀k∈r.1,k<N1146)∧Ho=([⟨some p0,1,123,6,1,([pI .i64 a1]++[pI .i64 a2]++[pI .i64 a3]++[pO b1136 n1138 c1137]++[pO b10 n12 c11]++[pO b15 n17 c16])⟩,hO (cH g1145) b1136 c1137 24 n1138 r.1,hO cQ b10 c11 42 n12 r.2.1,hO cI b15 c16 3 n17 r.2.2.1]++eA cQ 42 g1145 r.2.2.2)∧q=.any):=by
 unfold rF at hF
 refine aA Tryz.func116 rfl (by kernel_rfl) Tryz.ntmps116 rfl (fun w0 M0=>?_)
 refine go ?_ ?_
 refine aJ (aX (fun H E=>∃(x76:List Nat),∃(x82:List Rat),∃(x88:List Int),∃(x94:List (List Rat)),∃(b77:Option Nat),∃(c78:Nat),∃(n79:Nat),∃(g95:List p7),∃(N96:Nat),nH K x76 x82 x88 x94=some r∧x76.length=n79∧x82.length=n12∧x88.length=n17∧x94.length=N96∧cL g95 x94∧(∀k∈x76,k<N96)∧H=([⟨some p0,1,123,6,1,([pI .i64 a1]++[pI .i64 a2]++[pI .i64 a3]++[pO b77 n79 c78]++[pO b10 n12 c11]++[pO b15 n17 c16])⟩,hO (cH g95) b77 c78 24 n79 x76,hO cQ b10 c11 42 n12 x82,hO cI b15 c16 3 n17 x88]++eA cQ 42 g95 x94)∧E=[]) ?_ (fun Jj101=>?_))
 ·rintro _ _ ⟨x76,x82,x88,x94,b77,c78,n79,g95,N96,hF,q80,q86,q92,q97,q98,q99,rfl,rfl⟩
  unfold nH at hF
  obtain rfl:=iD hF
  exact iT (.inr rfl) Tryz.results116 .nil rfl 4 [0,1,2,3] rfl rfl (by decide) ⟨b77,c78,n79,g95,N96,q80,q86,q92,q97,q98,q99,rfl,rfl⟩
 obtain⟨⟨x76',x82',x88',x94'⟩,hL,hRl100⟩:=aP hF
 refine dQ (fun k a w=>∃(x51:List Nat),∃(x57:List Rat),∃(x63:List Int),∃(x69:List (List Rat)),∃(x75:Int),∃(b52:Option Nat),∃(c53:Nat),∃(n54:Nat),∃(g70:List p7),∃(N71:Nat),eY K a0 a1 a2 a3 a6 k x51 x57 x63 x69 x75=some (x76',x82',x88',x94')∧x51.length=n54∧x57.length=n12∧x63.length=n17∧x69.length=N71∧cL g70 x69∧(∀k∈x51,k<N71)∧hs _ ([⟨some p0,1,123,6,1,([pI .i64 a1]++[pI .i64 a2]++[pI .i64 a3]++[pO b52 n54 c53]++[pO b10 n12 c11]++[pO b15 n17 c16])⟩,hO (cH g70) b52 c53 24 n54 x51,hO cQ b10 c11 42 n12 x57,hO cI b15 c16 3 n17 x63]++eA cQ 42 g70 x69) [(0,.vc (pP (some p0) 0)),(1,.vc (pI .i64 a0)),(10,.vc (pO b15 n17 c16)),(11,.vc (pI .i64 (a6.length:Int))),(12,.vc (pI .i64 x75))] a w) K (fun a w ⟨_,_,_,_,_,_,_,_,_,_,hF,_,_,_,_,_,_,_⟩=>by cases hF) (fun k a w ⟨x51,x57,x63,x69,x75,b52,c53,n54,g70,N71,hF,q55,q61,q67,q72,q73,q74,hh⟩=>dP ?_ hh) (fun a w hh=>⟨a4,a5,a6,a7,0,b5,c6,n7,g20,N21,hL,q8,q13,q18,q22,q23,q24,aR 4 [0,1,2,3] rfl rfl (by decide) (by exact⟨rfl,rfl,rfl,rfl,rfl,trivial⟩) hh⟩)
 rw [eY.eq_2] at hF
 refine go ?_ ?_
 refine aE hF rfl (fun h102 hF=>?_) (fun h102 hF=>?_)
 ·refine go ?_ ?_
  refine aJ ?_
  obtain⟨v103,h104,hF⟩:=aP hF
  refine go ?_ ?_
  refine aE hF rfl (fun h105 hF=>?_) (fun h105 hF=>?_)
  ·refine bH ?_
   obtain⟨v106,h107,hF⟩:=aP hF
   refine go ?_ ?_
   exact aF (fun a w hh=>⟨x51,x57,x63,x69,v106,b52,c53,n54,g70,N71,hF,q55,q61,q67,q72,q73,q74,aR 4 [0,1,2,3] rfl rfl (by decide) (by exact⟨rfl,rfl,rfl,rfl,rfl,trivial⟩) hh⟩)
  obtain⟨v108,h109,x110,h111,hF⟩:=tY hF
  refine go ?_ ?_
  refine aG (aP5 (i:=(4+v108)) rfl tyS24 (rN 4 rfl q73 q72 (q74 _ (aN h109))) rfl rfl rfl (zB h111).2.2.1 (aOh h111 (cY q73 q72 (q74 _ (aN h109))))) zU2 ?_
  obtain⟨v112,h113,hF⟩:=bC hF aAr
  refine aG (aEg (pre':=[.vc (pK (pO (fL g70 v108).1 (fL g70 v108).2.1 (fL g70 v108).2.2) a0.toNat cQ.n),.vc (pFn Tryz.prog (fun x:Rat=>[.va (eQ x)]) (fun r:Bool=>.vc (pB r)) (k6))]) rfl h113 rfl (aLQ (aKL (C:=cQ) (4+v108) (rN 4 rfl q73 q72 (q74 _ (aN h109))) (cY q73 q72 (q74 _ (aN h109))) h111) ⟨.inr ⟨rfl,rfl⟩,.inl rfl,trivial⟩) (fun _ _ _ h=>h)) ⟨rfl,(aQK (P:=Tryz.prog) (φ:=(k6)) (pre:=fun x:Rat=>[.va (eQ x)]) (post:=fun r:Bool=>.vc (pB r)) (fun x r h=>zZ h)),trivial⟩ ?_
  refine go ?_ ?_
  refine aE hF rfl (fun h114 hF=>?_) (fun h114 hF=>?_)
  ·obtain⟨v115,h116,hF⟩:=aP hF
   refine go ?_ ?_
   refine m7 4 [0,1,2,3] [] rfl (t6 h116 q55 q61 q67 q72 q73 q74) ⟨rfl,rfl,rfl,trivial⟩ rfl rfl rfl (by decide) ?_
   rintro _ _ ⟨b117,c118,n119,g126,N127,q120,q122,q124,q128,q129,q130,rfl,rfl⟩
   refine lE (iQ [⟨some p0,1,123,6,1,([pI .i64 a1]++[pI .i64 a2]++[pI .i64 a3]++[pO b117 n119 c118]++[pO b10 n12 c11]++[pO b15 n17 c16])⟩,hO (cH g126) b117 c118 24 n119 v115.1,hO cQ b10 c11 42 n12 v115.2.1,hO cI b15 c16 3 n17 v115.2.2.1] (eA cQ 42 g126 v115.2.2.2) []) ?_
   obtain⟨v132,h133,hF⟩:=aP hF
   refine go ?_ ?_
   exact aF (fun a w hh=>⟨v115.1,v115.2.1,v115.2.2.1,v115.2.2.2,v132,b117,c118,n119,g126,N127,hF,q120,q122,q124,q128,q129,q130,aR 4 [0,1,2,3] rfl rfl (by decide) (by exact⟨rfl,rfl,rfl,rfl,rfl,trivial⟩) hh⟩)
  obtain⟨v134,h135,hF⟩:=aP hF
  refine go ?_ ?_
  exact aF (fun a w hh=>⟨x51,x57,x63,x69,v134,b52,c53,n54,g70,N71,hF,q55,q61,q67,q72,q73,q74,aR 4 [0,1,2,3] rfl rfl (by decide) (by exact⟨rfl,rfl,rfl,rfl,rfl,trivial⟩) hh⟩)
 refine bH ?_
 obtain⟨rfl,rfl,rfl,rfl⟩:=sm4 hF
 exact eG Jj101 ⟨x51,x57,x63,x69,b52,c53,n54,g70,N71,hRl100,q55,q61,q67,q72,q73,q74,rfl,rfl⟩ 4 [0,1,2,3] rfl rfl trivial
def sN (K:Nat) (a0:Int) (a1:Int) (a2:Int) (a3:Int) (a4:Int) (a5:List Nat) (a6:List Rat) (a7:List Int) (a8:List (List Rat)):Option Rat:=
 bif(a0==a1) then((qof 1 1).bind fun v28=>some v28) else((sY K a7 a0).bind fun v30=>bif(decide (0≤v30)) then((bK a5 v30).bind fun v33=>(bK (a8.getD v33 []) a1).bind fun v35=>(aBs v35).bind fun v37=>some v37) else(some 0))
theorem zV {K:Nat} {a0:Int} {a1:Int} {a2:Int} {a3:Int} {a4:Int} {a5:List Nat} {a6:List Rat} {a7:List Int} {a8:List (List Rat)} {r:Rat} (hF:sN K a0 a1 a2 a3 a4 a5 a6 a7 a8=some r) {p0:Nat} {b5:Option Nat} {c6 n7:Nat} {b10:Option Nat} {c11 n12:Nat} {b15:Option Nat} {c16 n17:Nat} {g20:List p7} {N21:Nat} (q8:a5.length=n7) (q13:a6.length=n12) (q18:a7.length=n17) (q22:a8.length=N21) (q23:cL g20 a8) (q24:∀k∈a5,k<N21):CtO Tryz.prog 120 ([⟨some p0,1,123,6,1,([pI .i64 a2]++[pI .i64 a3]++[pI .i64 a4]++[pO b5 n7 c6]++[pO b10 n12 c11]++[pO b15 n17 c16])⟩,hO (cH g20) b5 c6 24 n7 a5,hO cQ b10 c11 42 n12 a6,hO cI b15 c16 3 n17 a7]++eA cQ 42 g20 a8) [.vc (pP (some p0) 0),.vc (pI .i64 a0),.vc (pI .i64 a1)] (fun Ho q=>Ho=([⟨some p0,1,123,6,1,([pI .i64 a2]++[pI .i64 a3]++[pI .i64 a4]++[pO b5 n7 c6]++[pO b10 n12 c11]++[pO b15 n17 c16])⟩,hO (cH g20) b5 c6 24 n7 a5,hO cQ b10 c11 42 n12 a6,hO cI b15 c16 3 n17 a7]++eA cQ 42 g20 a8)∧q=.va (eQ r)):=by
 unfold sN at hF
 refine aA Tryz.func120 rfl (by kernel_rfl) Tryz.ntmps120 rfl (fun w0 M0=>?_)
 refine aD (aI (aK rfl tyZ42q (fun b26=>?_)))
 refine go ?_ ?_
 refine aE hF rfl (fun h27 hF=>?_) (fun h27 hF=>?_)
 ·obtain⟨v28,h29,hF⟩:=bC hF rW
  refine go ?_ ?_
  refine fY (fZ ?_)
  obtain rfl:=iD hF
  exact iT (.inl rfl) Tryz.results120 (vY 0 4 rfl rfl rfl rfl (.agg tyA42) .nil) rfl 5 [1,2,3,4] rfl rfl (by decide) ⟨rfl,rfl⟩
 obtain⟨v30,h31,hF⟩:=bC hF x0
 refine go ?_ ?_
 refine aG (aEg (pre':=[.vc (pO b15 n17 c16),.vc (pI .i64 a0)]) rfl h31 rfl (aLQ (aFj (C:=cI) 4 rfl q18) ⟨.inr ⟨rfl,rfl⟩,.inl rfl,trivial⟩) (fun _ _ _ h=>h)) zU2 ?_
 refine go ?_ ?_
 refine aE hF rfl (fun h32 hF=>?_) (fun h32 hF=>?_)
 ·obtain⟨v33,h34,v35,h36,hF⟩:=tY hF
  refine go ?_ ?_
  refine aG (d7 (5+v33) rfl tyS24 (rN 5 rfl q23 q22 (q24 _ (aN h34))) (cY q23 q22 (q24 _ (aN h34))) (aC h36).1 (aC h36).2.1) zU2 ?_
  refine aG (iC (k:=4) (5+v33) rfl (rN 5 rfl q23 q22 (q24 _ (aN h34))) h36 rfl (.agg tyA42) rfl) zU1 ?_
  obtain⟨v37,h38,hF⟩:=bC hF tZ
  refine go ?_ ?_
  refine fY (fZ ?_)
  obtain rfl:=iD hF
  exact iT (.inl rfl) Tryz.results120 (vY 0 4 rfl rfl rfl rfl (.agg tyA42) .nil) rfl 5 [1,2,3,4] rfl rfl (by decide) ⟨rfl,rfl⟩
 refine go ?_ ?_
 refine aG (gH (is:=[]) (xs:=[]) (ps:=[]) rfl tyB42q rfl rfl trivial rfl) trivial ?_
 refine go ?_ ?_
 refine fY (fZ ?_)
 obtain rfl:=iD hF
 exact iT (.inl rfl) Tryz.results120 (vY 0 4 rfl rfl rfl rfl (.agg tyA42) .nil) rfl 5 [1,2,3,4] rfl rfl (by decide) ⟨rfl,rfl⟩
def qR (K:Nat) (a0:Int) (a1:Int) (a2:Int) (a3:Int) (a4:Int) (a5:List Nat) (a6:List Rat) (a7:List Int) (a8:List (List Rat)):Option Rat:=
 (sN K a0 a1 a2 a3 a4 a5 a6 a7 a8).bind fun v27=>some v27
theorem wK {K:Nat} {a0:Int} {a1:Int} {a2:Int} {a3:Int} {a4:Int} {a5:List Nat} {a6:List Rat} {a7:List Int} {a8:List (List Rat)} {r:Rat} (hF:qR K a0 a1 a2 a3 a4 a5 a6 a7 a8=some r) {p0:Nat} {p1:Nat} {p2:Nat} {b5:Option Nat} {c6 n7:Nat} {b10:Option Nat} {c11 n12:Nat} {b15:Option Nat} {c16 n17:Nat} {g20:List p7} {N21:Nat} (q8:a5.length=n7) (q13:a6.length=n12) (q18:a7.length=n17) (q22:a8.length=N21) (q23:cL g20 a8) (q24:∀k∈a5,k<N21):CtO Tryz.prog 119 ([⟨some p0,1,120,1,1,[pP (some p2) 0]⟩,⟨some p1,1,3,1,1,[pI .i64 a1]⟩,⟨some p2,1,123,6,1,([pI .i64 a2]++[pI .i64 a3]++[pI .i64 a4]++[pO b5 n7 c6]++[pO b10 n12 c11]++[pO b15 n17 c16])⟩,hO (cH g20) b5 c6 24 n7 a5,hO cQ b10 c11 42 n12 a6,hO cI b15 c16 3 n17 a7]++eA cQ 42 g20 a8) [.vc (pI .i64 a0),.vc (pP (some p0) 0),.vc (pP (some p1) 0)] (fun Ho q=>Ho=([⟨some p0,1,120,1,1,[pP (some p2) 0]⟩,⟨some p1,1,3,1,1,[pI .i64 a1]⟩,⟨some p2,1,123,6,1,([pI .i64 a2]++[pI .i64 a3]++[pI .i64 a4]++[pO b5 n7 c6]++[pO b10 n12 c11]++[pO b15 n17 c16])⟩,hO (cH g20) b5 c6 24 n7 a5,hO cQ b10 c11 42 n12 a6,hO cI b15 c16 3 n17 a7]++eA cQ 42 g20 a8)∧q=.va (eQ r)):=by
 unfold qR at hF
 refine aA Tryz.func119 rfl (by kernel_rfl) Tryz.ntmps119 rfl (fun w0 M0=>?_)
 refine aD (aI (aK rfl tyZ42q (fun b26=>?_)))
 obtain⟨v27,h28,hF⟩:=aP hF
 refine go ?_ ?_
 refine m7 7 [3,4,5,6] [0,1,2] rfl (zV h28 q8 q13 q18 q22 q23 q24) ⟨rfl,rfl,rfl,trivial⟩ rfl rfl rfl (by decide) ?_
 rintro _ _ ⟨rfl,rfl⟩
 refine lE (iQ [⟨some p2,1,123,6,1,([pI .i64 a2]++[pI .i64 a3]++[pI .i64 a4]++[pO b5 n7 c6]++[pO b10 n12 c11]++[pO b15 n17 c16])⟩,hO (cH g20) b5 c6 24 n7 a5,hO cQ b10 c11 42 n12 a6,hO cI b15 c16 3 n17 a7] (eA cQ 42 g20 a8) [⟨some b26,1,42,4,1,(eQ 0)⟩,⟨some p0,1,120,1,1,[pP (some p2) 0]⟩,⟨some p1,1,3,1,1,[pI .i64 a1]⟩]) ?_
 refine go ?_ ?_
 refine fY (fZ ?_)
 obtain rfl:=iD hF
 exact iT (.inl rfl) Tryz.results119 (vY 4 4 rfl rfl rfl rfl (.agg tyA42) .nil) rfl 7 [5,6,0,1,2,3] rfl rfl (by decide) ⟨rfl,rfl⟩
def oC (K:Nat) (x45:List Rat):Option (List Rat):=
 some x45
def kO (K:Nat) (a0:Int) (a1:Int) (a2:Int) (a3:Int) (a4:List Nat) (a5:List Rat) (a6:List Int) (a7:List (List Rat)) (x26:List Rat):Nat→(List Rat)→Int→Option (List Rat)
 |0,_,_=>none
 |k+1,x38,x44=>bif(decide (x44<(x26.length:Int))) then((qR K x44 a3 a0 a1 a2 a4 a5 a6 a7).bind fun v56=>(aQ (a0+x44)).bind fun v58=>(qR K v58 a3 a0 a1 a2 a4 a5 a6 a7).bind fun v60=>(aFv v56 v60).bind fun v62=>(bK x38 x44).bind fun v64=>(pN x38 x44 v62).bind fun x66=>(aQ (x44+1)).bind fun v69=>kO K a0 a1 a2 a3 a4 a5 a6 a7 x26 k x66 v69) else(some x38)
def rL (K:Nat) (a0:Int) (a1:Int) (a2:Int) (a3:Int) (a4:List Nat) (a5:List Rat) (a6:List Int) (a7:List (List Rat)):Option (List Rat):=
 (y5 a0 0).bind fun x26=>(kO K a0 a1 a2 a3 a4 a5 a6 a7 x26 K x26 0).bind fun x45=>oC K x45
theorem yX {K:Nat} {a0:Int} {a1:Int} {a2:Int} {a3:Int} {a4:List Nat} {a5:List Rat} {a6:List Int} {a7:List (List Rat)} {r:List Rat} (hF:rL K a0 a1 a2 a3 a4 a5 a6 a7=some r) {p0:Nat} {p1:Nat} {p2:Nat} {b5:Option Nat} {c6 n7:Nat} {b10:Option Nat} {c11 n12:Nat} {b15:Option Nat} {c16 n17:Nat} {g20:List p7} {N21:Nat} (q8:a4.length=n7) (q13:a5.length=n12) (q18:a6.length=n17) (q22:a7.length=N21) (q23:cL g20 a7) (q24:∀k∈a4,k<N21):CtO Tryz.prog 118 ([⟨some p0,1,123,6,1,([pI .i64 a0]++[pI .i64 a1]++[pI .i64 a2]++[pO b5 n7 c6]++[pO b10 n12 c11]++[pO b15 n17 c16])⟩,⟨some p1,1,120,1,1,[pP (some p0) 0]⟩,⟨some p2,1,3,1,1,[pI .i64 a3]⟩,hO (cH g20) b5 c6 24 n7 a4,hO cQ b10 c11 42 n12 a5,hO cI b15 c16 3 n17 a6]++eA cQ 42 g20 a7) [.vc (pP (some p0) 0),.vc (pF 119 [pP (some p1) 0,pP (some p2) 0])] (fun Ho q=>Ho=([⟨some p0,1,123,6,1,([pI .i64 a0]++[pI .i64 a1]++[pI .i64 a2]++[pO b5 n7 c6]++[pO b10 n12 c11]++[pO b15 n17 c16])⟩,⟨some p1,1,120,1,1,[pP (some p0) 0]⟩,⟨some p2,1,3,1,1,[pI .i64 a3]⟩,hO (cH g20) b5 c6 24 n7 a4,hO cQ b10 c11 42 n12 a5,hO cI b15 c16 3 n17 a6]++eA cQ 42 g20 a7)∧q=.vc (pS cQ r)):=by
 unfold rL at hF
 refine aA Tryz.func118 rfl (by kernel_rfl) Tryz.ntmps118 rfl (fun w0 M0=>?_)
 refine aD (aI (aG (aM (.inr rfl)) ⟨eI cQ,trivial⟩ ?_))
 obtain⟨x26,h27,hF⟩:=aP hF
 refine go ?_ ?_
 refine o7 (C:=cQ) rfl tyS24 rfl tyZ42q rfl h27 (fun b28=>?_)
 refine go ?_ ?_
 refine aJ (aX (fun H E=>∃(x45:List Rat),oC K x45=some r∧x45.length=x26.length∧H=([hO cQ b28 x26.length 42 x26.length x45,⟨some p0,1,123,6,1,([pI .i64 a0]++[pI .i64 a1]++[pI .i64 a2]++[pO b5 n7 c6]++[pO b10 n12 c11]++[pO b15 n17 c16])⟩,⟨some p1,1,120,1,1,[pP (some p0) 0]⟩,⟨some p2,1,3,1,1,[pI .i64 a3]⟩,hO (cH g20) b5 c6 24 n7 a4,hO cQ b10 c11 42 n12 a5,hO cI b15 c16 3 n17 a6]++eA cQ 42 g20 a7)∧E=[(5,.vc (pO b28 x26.length x26.length))]) ?_ (fun Jj52=>?_))
 ·rintro _ _ ⟨x45,hF,q49,rfl,rfl⟩
  unfold oC at hF
  refine go ?_ ?_
  refine fY (fZ (tC 0 [4,5,33] rfl q49 ⟨rfl,rfl,rfl,trivial⟩ rfl ?_))
  obtain rfl:=iD hF
  exact iT (.inl rfl) Tryz.results118 (.tmp rfl .nil) rfl 6 [0,1,2,3,4,5] rfl rfl (by decide) ⟨rfl,rfl⟩
 obtain⟨x45',hL,hRl51⟩:=aP hF
 refine dQ (fun k a w=>∃(x38:List Rat),∃(x44:Int),kO K a0 a1 a2 a3 a4 a5 a6 a7 x26 k x38 x44=some x45'∧x38.length=x26.length∧hs _ ([hO cQ b28 x26.length 42 x26.length x38,⟨some p0,1,123,6,1,([pI .i64 a0]++[pI .i64 a1]++[pI .i64 a2]++[pO b5 n7 c6]++[pO b10 n12 c11]++[pO b15 n17 c16])⟩,⟨some p1,1,120,1,1,[pP (some p0) 0]⟩,⟨some p2,1,3,1,1,[pI .i64 a3]⟩,hO (cH g20) b5 c6 24 n7 a4,hO cQ b10 c11 42 n12 a5,hO cI b15 c16 3 n17 a6]++eA cQ 42 g20 a7) [(0,.vc (pP (some p0) 0)),(1,.vc (pF 119 [pP (some p1) 0,pP (some p2) 0])),(5,.vc (pO b28 x26.length x26.length)),(13,.vc (pI .i64 (x26.length:Int))),(14,.vc (pI .i64 x44))] a w) K (fun a w ⟨_,_,hF,_,_⟩=>by cases hF) (fun k a w ⟨x38,x44,hF,q42,hh⟩=>dP ?_ hh) (fun a w hh=>⟨x26,0,hL,rfl,aR 7 [0,1,2,3,4,5,6] rfl rfl (by decide) (by exact⟨rfl,rfl,rfl,rfl,rfl,trivial⟩) hh⟩)
 rw [kO.eq_2] at hF
 refine go ?_ ?_
 refine aE hF rfl (fun h53 hF=>?_) (fun h53 hF=>?_)
 ·refine go ?_ ?_
  refine aJ ?_
  obtain⟨v56,h57,v58,h59,v60,h61,hF⟩:=bn3 hF
  obtain⟨v62,h63,hF⟩:=bC hF xA
  obtain⟨v64,h65,hF⟩:=aP hF
  refine go ?_ ?_
  refine iV [0,0,0,0,12,0,0,64,192,448,0,1984,4092,8188,16383,32767] 15 1 [.v (.vc (pO b28 x26.length x26.length)),.v (.vc (pI .i64 x44)),.v (.vc (pF 119 [pP (some p1) 0,pP (some p2) 0])),.v (.vc (pI .i64 x44)),.v (.va (eQ v56)),.v (.vc (pF 119 [pP (some p1) 0,pP (some p2) 0])),.v (.vc (pP (some p0) 0)),.v (.vc (pP (some p0) 0)),.v (.vc (pP (some p0) 0)),.v (.vc (pI .i64 a0)),.v (.vc (pI .i64 x44)),.v (.vc (pI .i64 v58)),.v (.va (eQ v60)),.v (.va (eQ v62)),.v (.vc (pE b28 x44 cQ.n 0))] aY ⟨d0 (aM (.inl rfl)) zU1,d0 (aM (.inl rfl)) zU1,d0 (aM (.inl rfl)) zU1,d0 (aM (.inl rfl)) zU1,d0 (aFL (f:=119) (cs:=[pP (some p1) 0,pP (some p2) 0]) (pre:=[.vc (pI .i64 x44)]) 7 [2,3,1,4,5,6] [0] [6,2,0,1,3,4,5] rfl (wK h57 q8 q13 q18 q22 q23 q24) rfl rfl rfl rfl (by decide) (by decide) rfl) zU2,d0 (aM (.inl rfl)) zU1,d0 (aM (.inl rfl)) zU1,d0 (qX rfl) zU1,d0 (f7 (off:=0) (k:=0) rfl tyF123_0) zU1,d0 (fF 1 1 rfl rfl rfl rfl (.one tyO3)) zU1,d0 (aM (.inl rfl)) zU1,d0 (xQ rfl h59) zU2,d0 (aFL (f:=119) (cs:=[pP (some p1) 0,pP (some p2) 0]) (pre:=[.vc (pI .i64 v58)]) 7 [2,3,1,4,5,6] [0] [6,2,0,1,3,4,5] rfl (wK h61 q8 q13 q18 q22 q23 q24) rfl rfl rfl rfl (by decide) (by decide) rfl) zU2,d0 (bJ rfl h63 rfl) zU2,d0 (d7 (C:=cQ) 0 rfl tyS24 rfl q42 (aC h65).1 (aC h65).2.1) zU2,trivial⟩ (fun bs55 G54=>?_)
  obtain⟨x66,h67,v69,h70,hF⟩:=tY hF
  refine go ?_ ?_
  exact aF (fun a w hh=>⟨x66,v69,hF,(bG h67 q42),aR 7 [0,1,2,3,4,5,6] rfl rfl (by decide) (by exact⟨rfl,rfl,rfl,rfl,rfl,trivial⟩) hh⟩)
 refine bH ?_
 obtain rfl:=iD hF
 exact eG Jj52 ⟨x38,hRl51,q42,rfl,rfl⟩ 7 [0,1,2,3,4,5,6] rfl rfl zU1
def oN (K:Nat) (a0:Int) (a1:Int) (a2:Int) (a3:Int) (a4:List Nat) (a5:List Rat) (a6:List Int) (a7:List (List Rat)):Option Rat:=
 (sY K a6 a0).bind fun v27=>bif(decide (0≤v27)) then((bK a4 v27).bind fun v32=>(bK (a7.getD v32 []) a3).bind fun v34=>some v34) else(some 0)
theorem uT {K:Nat} {a0:Int} {a1:Int} {a2:Int} {a3:Int} {a4:List Nat} {a5:List Rat} {a6:List Int} {a7:List (List Rat)} {r:Rat} (hF:oN K a0 a1 a2 a3 a4 a5 a6 a7=some r) {p0:Nat} {b5:Option Nat} {c6 n7:Nat} {b10:Option Nat} {c11 n12:Nat} {b15:Option Nat} {c16 n17:Nat} {g20:List p7} {N21:Nat} (q8:a4.length=n7) (q13:a5.length=n12) (q18:a6.length=n17) (q22:a7.length=N21) (q23:cL g20 a7) (q24:∀k∈a4,k<N21):CtO Tryz.prog 121 ([⟨some p0,1,123,6,1,([pI .i64 a1]++[pI .i64 a2]++[pI .i64 a3]++[pO b5 n7 c6]++[pO b10 n12 c11]++[pO b15 n17 c16])⟩,hO (cH g20) b5 c6 24 n7 a4,hO cQ b10 c11 42 n12 a5,hO cI b15 c16 3 n17 a6]++eA cQ 42 g20 a7) [.vc (pP (some p0) 0),.vc (pI .i64 a0)] (fun Ho q=>Ho=([⟨some p0,1,123,6,1,([pI .i64 a1]++[pI .i64 a2]++[pI .i64 a3]++[pO b5 n7 c6]++[pO b10 n12 c11]++[pO b15 n17 c16])⟩,hO (cH g20) b5 c6 24 n7 a4,hO cQ b10 c11 42 n12 a5,hO cI b15 c16 3 n17 a6]++eA cQ 42 g20 a7)∧q=.va (eQ r)):=by
 unfold oN at hF
 refine aA Tryz.func121 rfl (by kernel_rfl) Tryz.ntmps121 rfl (fun w0 M0=>?_)
 refine aD (aI (aK rfl tyZ42q (fun b26=>?_)))
 obtain⟨v27,h28,hF⟩:=bC hF x0
 refine go ?_ ?_
 refine aG (aEg (pre':=[.vc (pO b15 n17 c16),.vc (pI .i64 a0)]) rfl h28 rfl (aLQ (aFj (C:=cI) 4 rfl q18) ⟨.inr ⟨rfl,rfl⟩,.inl rfl,trivial⟩) (fun _ _ _ h=>h)) zU2 ?_
 refine go ?_ ?_
 refine aE hF rfl (fun h29 hF=>?_) (fun h29 hF=>?_)
 ·refine aD ?_
  obtain⟨v32,h33,hF⟩:=aP hF
  obtain⟨v34,h35,hF⟩:=aP hF
  refine iV [0,1,3,7,0,31,63,0,128,384,896,2047,4095,8191] 13 1 [.v (.vc (pP (some p0) 0)),.v (.vc (pP (some p0) 0)),.v (.vc (pP (some p0) 3)),.v (.vc (pO b5 n7 c6)),.v (.vc (pI .i64 v27)),.v (.vc (pE b5 v27 (cH g20).n 0)),.v (.vc (pO (fL g20 v32).1 (fL g20 v32).2.1 (fL g20 v32).2.2)),.v (.vc (pP (some p0) 0)),.v (.vc (pP (some p0) 0)),.v (.vc (pP (some p0) 2)),.v (.vc (pI .i64 a3)),.v (.vc (pE (fL g20 v32).1 a3 cQ.n 0)),.v (.va (eQ v34))] aY ⟨d0 (aM (.inl rfl)) zU1,d0 (qX rfl) zU1,d0 (f7 (off:=0) (k:=3) rfl tyF123_3) zU1,d0 (fF 1 1 rfl rfl rfl rfl (.one tyO23)) zU1,d0 (aM (.inl rfl)) zU1,d0 (d7 (C:=(cH g20)) 2 rfl tyS23 rfl q8 (aC h33).1 (aC h33).2.1) zU2,d0 (iC (C:=(cH g20)) (k:=1) 2 rfl rfl h33 rfl (.one tyO24) rfl) zU1,d0 (aM (.inl rfl)) zU1,d0 (qX rfl) zU1,d0 (f7 (off:=0) (k:=2) rfl tyF123_2) zU1,d0 (fF 1 1 rfl rfl rfl rfl (.one tyO3)) zU1,d0 (d7 (5+v32) rfl tyS24 (gL 5 rfl q23 q22 (q24 _ (aN h33))) (cY q23 q22 (q24 _ (aN h33))) (aC h35).1 (aC h35).2.1) zU2,d0 (iC (k:=4) (5+v32) rfl (gL 5 rfl q23 q22 (q24 _ (aN h33))) h35 rfl (.agg tyA42) rfl) zU1,trivial⟩ (fun bs31 G30=>?_)
  refine go ?_ ?_
  refine fY (fZ ?_)
  obtain rfl:=iD hF
  exact iT (.inl rfl) Tryz.results121 (vY 0 4 rfl rfl rfl rfl (.agg tyA42) .nil) rfl 5 [1,2,3,4] rfl rfl (by decide) ⟨rfl,rfl⟩
 refine go ?_ ?_
 refine aG (gH (is:=[]) (xs:=[]) (ps:=[]) rfl tyB42q rfl rfl trivial rfl) trivial ?_
 refine go ?_ ?_
 refine fY (fZ ?_)
 obtain rfl:=iD hF
 exact iT (.inl rfl) Tryz.results121 (vY 0 4 rfl rfl rfl rfl (.agg tyA42) .nil) rfl 5 [1,2,3,4] rfl rfl (by decide) ⟨rfl,rfl⟩
def oG (K:Nat) (x45:List Rat):Option (List Rat):=
 some x45
def kN (K:Nat) (a0:Int) (a1:Int) (a2:Int) (a3:List Nat) (a4:List Rat) (a5:List Int) (a6:List (List Rat)) (x26:List Rat):Nat→(List Rat)→Int→Option (List Rat)
 |0,_,_=>none
 |k+1,x38,x44=>bif(decide (x44<(x26.length:Int))) then((oN K x44 a0 a1 a2 a3 a4 a5 a6).bind fun v56=>(aQ (a0+x44)).bind fun v58=>(oN K v58 a0 a1 a2 a3 a4 a5 a6).bind fun v60=>(aFv v56 v60).bind fun v62=>(bK x38 x44).bind fun v64=>(pN x38 x44 v62).bind fun x66=>(aQ (x44+1)).bind fun v69=>kN K a0 a1 a2 a3 a4 a5 a6 x26 k x66 v69) else(some x38)
def nA (K:Nat) (a0:Int) (a1:Int) (a2:Int) (a3:List Nat) (a4:List Rat) (a5:List Int) (a6:List (List Rat)):Option (List Rat):=
 (y5 a0 0).bind fun x26=>(kN K a0 a1 a2 a3 a4 a5 a6 x26 K x26 0).bind fun x45=>oG K x45
theorem t0 {K:Nat} {a0:Int} {a1:Int} {a2:Int} {a3:List Nat} {a4:List Rat} {a5:List Int} {a6:List (List Rat)} {r:List Rat} (hF:nA K a0 a1 a2 a3 a4 a5 a6=some r) {p0:Nat} {b5:Option Nat} {c6 n7:Nat} {b10:Option Nat} {c11 n12:Nat} {b15:Option Nat} {c16 n17:Nat} {g20:List p7} {N21:Nat} (q8:a3.length=n7) (q13:a4.length=n12) (q18:a5.length=n17) (q22:a6.length=N21) (q23:cL g20 a6) (q24:∀k∈a3,k<N21):CtO Tryz.prog 118 ([⟨some p0,1,123,6,1,([pI .i64 a0]++[pI .i64 a1]++[pI .i64 a2]++[pO b5 n7 c6]++[pO b10 n12 c11]++[pO b15 n17 c16])⟩,hO (cH g20) b5 c6 24 n7 a3,hO cQ b10 c11 42 n12 a4,hO cI b15 c16 3 n17 a5]++eA cQ 42 g20 a6) [.vc (pP (some p0) 0),.vc (pFB 121 [pP (some p0) 0] [])] (fun Ho q=>Ho=([⟨some p0,1,123,6,1,([pI .i64 a0]++[pI .i64 a1]++[pI .i64 a2]++[pO b5 n7 c6]++[pO b10 n12 c11]++[pO b15 n17 c16])⟩,hO (cH g20) b5 c6 24 n7 a3,hO cQ b10 c11 42 n12 a4,hO cI b15 c16 3 n17 a5]++eA cQ 42 g20 a6)∧q=.vc (pS cQ r)):=by
 unfold nA at hF
 refine aA Tryz.func118 rfl (by kernel_rfl) Tryz.ntmps118 rfl (fun w0 M0=>?_)
 refine aD (aI (aG (aM (.inr rfl)) ⟨eI cQ,trivial⟩ ?_))
 obtain⟨x26,h27,hF⟩:=aP hF
 refine go ?_ ?_
 refine o7 (C:=cQ) rfl tyS24 rfl tyZ42q rfl h27 (fun b28=>?_)
 refine go ?_ ?_
 refine aJ (aX (fun H E=>∃(x45:List Rat),oG K x45=some r∧x45.length=x26.length∧H=([hO cQ b28 x26.length 42 x26.length x45,⟨some p0,1,123,6,1,([pI .i64 a0]++[pI .i64 a1]++[pI .i64 a2]++[pO b5 n7 c6]++[pO b10 n12 c11]++[pO b15 n17 c16])⟩,hO (cH g20) b5 c6 24 n7 a3,hO cQ b10 c11 42 n12 a4,hO cI b15 c16 3 n17 a5]++eA cQ 42 g20 a6)∧E=[(5,.vc (pO b28 x26.length x26.length))]) ?_ (fun Jj52=>?_))
 ·rintro _ _ ⟨x45,hF,q49,rfl,rfl⟩
  unfold oG at hF
  refine go ?_ ?_
  refine fY (fZ (tC 0 [4,5,33] rfl q49 ⟨rfl,rfl,rfl,trivial⟩ rfl ?_))
  obtain rfl:=iD hF
  exact iT (.inl rfl) Tryz.results118 (.tmp rfl .nil) rfl 4 [0,1,2,3] rfl rfl (by decide) ⟨rfl,rfl⟩
 obtain⟨x45',hL,hRl51⟩:=aP hF
 refine dQ (fun k a w=>∃(x38:List Rat),∃(x44:Int),kN K a0 a1 a2 a3 a4 a5 a6 x26 k x38 x44=some x45'∧x38.length=x26.length∧hs _ ([hO cQ b28 x26.length 42 x26.length x38,⟨some p0,1,123,6,1,([pI .i64 a0]++[pI .i64 a1]++[pI .i64 a2]++[pO b5 n7 c6]++[pO b10 n12 c11]++[pO b15 n17 c16])⟩,hO (cH g20) b5 c6 24 n7 a3,hO cQ b10 c11 42 n12 a4,hO cI b15 c16 3 n17 a5]++eA cQ 42 g20 a6) [(0,.vc (pP (some p0) 0)),(1,.vc (pFB 121 [pP (some p0) 0] [])),(5,.vc (pO b28 x26.length x26.length)),(13,.vc (pI .i64 (x26.length:Int))),(14,.vc (pI .i64 x44))] a w) K (fun a w ⟨_,_,hF,_,_⟩=>by cases hF) (fun k a w ⟨x38,x44,hF,q42,hh⟩=>dP ?_ hh) (fun a w hh=>⟨x26,0,hL,rfl,aR 5 [0,1,2,3,4] rfl rfl (by decide) (by exact⟨rfl,rfl,rfl,rfl,rfl,trivial⟩) hh⟩)
 rw [kN.eq_2] at hF
 refine go ?_ ?_
 refine aE hF rfl (fun h53 hF=>?_) (fun h53 hF=>?_)
 ·refine go ?_ ?_
  refine aJ ?_
  obtain⟨v56,h57,v58,h59,v60,h61,hF⟩:=bn3 hF
  obtain⟨v62,h63,hF⟩:=bC hF xA
  obtain⟨v64,h65,hF⟩:=aP hF
  refine go ?_ ?_
  refine iV [0,0,0,0,12,0,0,64,192,448,0,1984,4092,8188,16383,32767] 15 1 [.v (.vc (pO b28 x26.length x26.length)),.v (.vc (pI .i64 x44)),.v (.vc (pFB 121 [pP (some p0) 0] [])),.v (.vc (pI .i64 x44)),.v (.va (eQ v56)),.v (.vc (pFB 121 [pP (some p0) 0] [])),.v (.vc (pP (some p0) 0)),.v (.vc (pP (some p0) 0)),.v (.vc (pP (some p0) 0)),.v (.vc (pI .i64 a0)),.v (.vc (pI .i64 x44)),.v (.vc (pI .i64 v58)),.v (.va (eQ v60)),.v (.va (eQ v62)),.v (.vc (pE b28 x44 cQ.n 0))] aY ⟨d0 (aM (.inl rfl)) zU1,d0 (aM (.inl rfl)) zU1,d0 (aM (.inl rfl)) zU1,d0 (aM (.inl rfl)) zU1,d0 (aFl (f:=121) (bs:=[pP (some p0) 0]) (cs:=[]) (pre:=[.vc (pI .i64 x44)]) 5 [1,2,3,4] [0] [4,0,1,2,3] rfl (uT h57 q8 q13 q18 q22 q23 q24) rfl rfl rfl rfl (by decide) (by decide) rfl) zU2,d0 (aM (.inl rfl)) zU1,d0 (aM (.inl rfl)) zU1,d0 (qX rfl) zU1,d0 (f7 (off:=0) (k:=0) rfl tyF123_0) zU1,d0 (fF 1 1 rfl rfl rfl rfl (.one tyO3)) zU1,d0 (aM (.inl rfl)) zU1,d0 (xQ rfl h59) zU2,d0 (aFl (f:=121) (bs:=[pP (some p0) 0]) (cs:=[]) (pre:=[.vc (pI .i64 v58)]) 5 [1,2,3,4] [0] [4,0,1,2,3] rfl (uT h61 q8 q13 q18 q22 q23 q24) rfl rfl rfl rfl (by decide) (by decide) rfl) zU2,d0 (bJ rfl h63 rfl) zU2,d0 (d7 (C:=cQ) 0 rfl tyS24 rfl q42 (aC h65).1 (aC h65).2.1) zU2,trivial⟩ (fun bs55 G54=>?_)
  obtain⟨x66,h67,v69,h70,hF⟩:=tY hF
  refine go ?_ ?_
  exact aF (fun a w hh=>⟨x66,v69,hF,(bG h67 q42),aR 5 [0,1,2,3,4] rfl rfl (by decide) (by exact⟨rfl,rfl,rfl,rfl,rfl,trivial⟩) hh⟩)
 refine bH ?_
 obtain rfl:=iD hF
 exact eG Jj52 ⟨x38,hRl51,q42,rfl,rfl⟩ 5 [0,1,2,3,4] rfl rfl zU1
def qC (a0:Int) (a1:Int) (a2:Int) (a3:List Rat) (a4:List Nat) (a5:List Int) (a6:List (List Rat)):Option (List Rat):=
 (aQ (2*a0)).bind fun v22=>(aQ (2*a0)).bind fun v24=>(aQ (v24+a1)).bind fun v26=>(slL a3 v22 v26).bind fun x28=>(g8 x28).bind fun v30=>some v30
theorem yM {a0:Int} {a1:Int} {a2:Int} {a3:List Rat} {a4:List Nat} {a5:List Int} {a6:List (List Rat)} {r:List Rat} (hF:qC a0 a1 a2 a3 a4 a5 a6=some r) {p0:Nat} {b4:Option Nat} {c5 n6:Nat} {b9:Option Nat} {c10 n11:Nat} {g14:List p7} {N15:Nat} (q7:a4.length=n6) (q12:a5.length=n11) (q16:a6.length=N15) (q17:cL g14 a6) (q18:∀k∈a4,k<N15):CtO Tryz.prog 115 ([⟨some p0,1,123,6,1,([pI .i64 a0]++[pI .i64 a1]++[pI .i64 a2]++[pO b4 n6 c5]++[pS cQ a3]++[pO b9 n11 c10])⟩,hO (cH g14) b4 c5 24 n6 a4,hO cI b9 c10 3 n11 a5]++eA cQ 42 g14 a6) [.vc (pP (some p0) 0)] (fun Ho q=>Ho=([⟨some p0,1,123,6,1,([pI .i64 a0]++[pI .i64 a1]++[pI .i64 a2]++[pO b4 n6 c5]++[pS cQ a3]++[pO b9 n11 c10])⟩,hO (cH g14) b4 c5 24 n6 a4,hO cI b9 c10 3 n11 a5]++eA cQ 42 g14 a6)∧q=.vc (pS cQ r)):=by
 unfold qC at hF
 refine aA Tryz.func115 rfl (by kernel_rfl) Tryz.ntmps115 rfl (fun w0 M0=>?_)
 refine aD (aI (aG (aM (.inr rfl)) ⟨eI cQ,trivial⟩ ?_))
 obtain⟨v22,h23,hF⟩:=aP hF
 have hF:=tX h23 hF
 obtain⟨v26,h27,x28,h29,hF⟩:=tY hF
 obtain⟨v30,h31,hF⟩:=bC hF xW
 refine go ?_ ?_
 refine dr [0,1,3,7,0,16,48,112,240,0,512,1536,3584,7680,0,16384,49152,114688,261632,524287,1048575,2097151] 22 0 ?_ (fun bs21 G20=>?_)
 refine aU (aH (fY (fZ ?_)))
 obtain rfl:=iD hF
 exact iT (.inl rfl) Tryz.results115 (.tmp rfl .nil) rfl 3 [0,1,2] rfl rfl (by decide) ⟨rfl,rfl⟩
def xR (K:Nat) (a0:aV):Option (oF×Int):=
 (xU K a0).bind fun v3=>bif(v3 != 0) then(some ((⟨0,([]:List Rat),([]:List Rat),0⟩:oF),v3)) else((wD K a0).bind fun v6=>(aQ (2*a0.vars)).bind fun v37=>(aQ (v37+v6.2.1)).bind fun v39=>(nC K (tU v39) v6.1 v6.2.1 v6.2.2.1 v6.2.2.2.1 v6.2.2.2.2.1 v6.2.2.2.2.2.1 v6.2.2.2.2.2.2).bind fun v41=>(oM K v6.2.2.1 v6.1 v6.2.1 v6.2.2.1 v6.2.2.2.1 v41 v6.2.2.2.2.2.1 v6.2.2.2.2.2.2).bind fun v51=>(bK v51.2.2.1 v6.2.2.1).bind fun v70=>(xP v70).bind fun v72=>bif(decide (v72<0)) then((qA v6.1 v6.2.1 v6.2.2.1 v51.2.1 v51.2.2.1 v51.2.2.2.1 v51.2.2.2.2).bind fun v75=>some ((⟨1,([]:List Rat),v75,0⟩:oF),0)) else((rF K v39 v6.1 v6.2.1 v6.2.2.1 v51.2.1 v51.2.2.1 v51.2.2.2.1 v51.2.2.2.2).bind fun v77=>(nC K (tP a0) v6.1 v6.2.1 v6.2.2.1 v77.1 v77.2.1 v77.2.2.1 v77.2.2.2).bind fun v94=>(oM K v39 v6.1 v6.2.1 v6.2.2.1 v77.1 v94 v77.2.2.1 v77.2.2.2).bind fun v102=>bif(decide (0≤v102.1)) then((rL K v6.1 v6.2.1 v6.2.2.1 v102.1 v102.2.1 v102.2.2.1 v102.2.2.2.1 v102.2.2.2.2).bind fun v121=>(nA K v6.1 v6.2.1 v6.2.2.1 v102.2.1 v102.2.2.1 v102.2.2.2.1 v102.2.2.2.2).bind fun v123=>some ((⟨2,v123,v121,0⟩:oF),0)) else((nA K v6.1 v6.2.1 v6.2.2.1 v102.2.1 v102.2.2.1 v102.2.2.2.1 v102.2.2.2.2).bind fun v125=>(qC v6.1 v6.2.1 v6.2.2.1 v102.2.2.1 v102.2.1 v102.2.2.2.1 v102.2.2.2.2).bind fun v131=>(wX K a0.goal v125).bind fun v133=>some ((⟨0,v125,v131,v133⟩:oF),0))))
theorem aDB {K:Nat} {a0:aV} {r:oF×Int} (hF:xR K a0=some r):Ct Tryz.prog 70 [.va (aV.enc a0)] (.t2 (.va (oF.enc r.1)) (.vc (pI .i64 r.2))):=by
 unfold xR at hF
 refine aA Tryz.func70 rfl (by kernel_rfl) Tryz.ntmps70 rfl (fun w0 M0=>?_)
 refine aD (aI (cP rfl rfl trivial (fun b1=>?_)))
 refine aK rfl tyZ94q (fun b2=>?_)
 obtain⟨v3,h4,hF⟩:=bC hF aDm
 refine go ?_ ?_
 refine aE hF rfl (fun h5 hF=>?_) (fun h5 hF=>?_)
 ·refine aD (aI (aG (gH (is:=[]) (xs:=[]) (ps:=[]) rfl tyB94q rfl rfl trivial rfl) trivial ?_))
  exact bQ
 obtain⟨v6,h7,hF⟩:=aP hF
 refine go ?_ ?_
 refine aD5 [] [0,1] rfl (aBZ h7) zU1 rfl rfl (by decide) ?_
 rintro _ _ ⟨b8,b13,c14,n15,b18,c19,n20,b23,c24,n25,g28,N29,q16,q21,q26,q30,q31,q32,rfl,rfl⟩
 refine lE (iQ [⟨some b8,1,123,6,1,([pI .i64 v6.1]++[pI .i64 v6.2.1]++[pI .i64 v6.2.2.1]++[pO b13 n15 c14]++[pO b18 n20 c19]++[pO b23 n25 c24])⟩,hO (cH g28) b13 c14 24 n15 v6.2.2.2.1,hO cQ b18 c19 42 n20 v6.2.2.2.2.1,hO cI b23 c24 3 n25 v6.2.2.2.2.2.1] (eA cQ 42 g28 v6.2.2.2.2.2.2) [⟨some b2,1,94,7,1,([pI .i64 0]++[pS cQ ([]:List Rat)]++[pS cQ ([]:List Rat)]++(eQ 0))⟩,⟨some b1,1,90,3,1,(aV.enc a0)⟩]) ?_
 refine aK rfl tyZ120q (fun b34=>?_)
 obtain⟨v37,h38,v39,h40,hF⟩:=tY hF
 refine go ?_ ?_
 refine dr [0,1,3,0,8,24,56,127,0,511] 9 1 ?_ (fun bs36 G35=>?_)
 refine kY (t_s 0 rfl rfl rfl tyO3.s) zU2 ?_
 refine aU (aH (aD (aI (aG (fF 1 1 rfl rfl rfl rfl (.one tyO120)) zU1 ?_))))
 refine aEQ 0 [(6,0)] rfl zU1 rfl ?_
 refine aG (aIq (φ:=(tU v39)) (pre:=fun x:Int=>[.vc (pI .i64 x)]) (post:=fun r:Rat=>.va (eQ r)) (xs:=[.tmp 6]) (cs:=[pM (cI.e v39)]) rfl rfl (fun x r h=>aCt h)) zU1 ?_
 obtain⟨v41,h42,hF⟩:=aP hF
 refine m7 7 [1,2,3,4] [0,5,6] rfl (t5 h42 q16 q21 q26 q30 q31 q32) zU2 rfl rfl rfl (by decide) ?_
 rintro _ _ ⟨b44,c45,n46,q47,rfl,rfl⟩
 refine lE (iQ [⟨some b8,1,123,6,1,([pI .i64 v6.1]++[pI .i64 v6.2.1]++[pI .i64 v6.2.2.1]++[pO b13 n15 c14]++[pO b44 n46 c45]++[pO b23 n25 c24])⟩,hO (cH g28) b13 c14 24 n15 v6.2.2.2.1,hO cQ b18 c19 42 n20 v6.2.2.2.2.1,hO cI b23 c24 3 n25 v6.2.2.2.2.2.1,hO cQ b44 c45 42 n46 v41] (eA cQ 42 g28 v6.2.2.2.2.2.2) [⟨some b34,1,120,1,1,[pP (some b8) 0]⟩,⟨some b2,1,94,7,1,([pI .i64 0]++[pS cQ ([]:List Rat)]++[pS cQ ([]:List Rat)]++(eQ 0))⟩,⟨some b1,1,90,3,1,(aV.enc a0)⟩]) ?_
 refine go ?_ ?_
 refine dr [0,0,2,6,14,31] 5 1 ?_ (fun bs50 G49=>?_)
 obtain⟨v51,h52,hF⟩:=aP hF
 refine m7 8 [0,1,4,3] [2,5,6,7] rfl (u7 h52 q16 q47 q26 q30 q31 q32) zU2 rfl rfl rfl (by decide) ?_
 rintro _ _ ⟨b53,c54,n55,g62,N63,q56,q58,q60,q64,q65,q66,rfl,rfl⟩
 refine lE (iQ [⟨some b8,1,123,6,1,([pI .i64 v6.1]++[pI .i64 v6.2.1]++[pI .i64 v6.2.2.1]++[pO b53 n55 c54]++[pO b44 n46 c45]++[pO b23 n25 c24])⟩,hO (cH g62) b53 c54 24 n55 v51.2.1,hO cQ b44 c45 42 n46 v51.2.2.1,hO cI b23 c24 3 n25 v51.2.2.2.1] (eA cQ 42 g62 v51.2.2.2.2) [hO cQ b18 c19 42 n20 v6.2.2.2.2.1,⟨some b34,1,120,1,1,[pP (some b8) 0]⟩,⟨some b2,1,94,7,1,([pI .i64 0]++[pS cQ ([]:List Rat)]++[pS cQ ([]:List Rat)]++(eQ 0))⟩,⟨some b1,1,90,3,1,(aV.enc a0)⟩]) ?_
 obtain⟨v70,h71,hF⟩:=aP hF
 obtain⟨v72,h73,hF⟩:=bC hF d8
 refine go ?_ ?_
 refine dr [0,1,3,7,0,16,48,112,255,511,1023,2047] 12 0 ?_ (fun bs69 G68=>?_)
 refine aU (aH (aE hF rfl (fun h74 hF=>?_) (fun h74 hF=>?_)))
 ·obtain⟨v75,h76,hF⟩:=aP hF
  refine go ?_ ?_
  refine m7 8 [0,1,2,3] [4,5,6,7] rfl (yJ h76 q56 q58 q60 q64 q65 q66) zU1 rfl rfl rfl (by decide) ?_
  rintro _ _ ⟨rfl,rfl⟩
  refine lE (iQ [⟨some b8,1,123,6,1,([pI .i64 v6.1]++[pI .i64 v6.2.1]++[pI .i64 v6.2.2.1]++[pO b53 n55 c54]++[pS cQ v51.2.2.1]++[pO b23 n25 c24])⟩,hO (cH g62) b53 c54 24 n55 v51.2.1,hO cI b23 c24 3 n25 v51.2.2.2.1] (eA cQ 42 g62 v51.2.2.2.2) [hO cQ b18 c19 42 n20 v6.2.2.2.2.1,⟨some b34,1,120,1,1,[pP (some b8) 0]⟩,⟨some b2,1,94,7,1,([pI .i64 0]++[pS cQ ([]:List Rat)]++[pS cQ ([]:List Rat)]++(eQ 0))⟩,⟨some b1,1,90,3,1,(aV.enc a0)⟩]) ?_
  refine aG (gH (is:=[0,2]) (xs:=[.const (.int .i64 (1)),.tmp 48]) (ps:=[.vc (pI .i64 1),.vc (pS cQ v75)]) rfl tyB94q rfl rfl ⟨trivial,trivial,trivial⟩ rfl) ⟨p6 _ _,rfl,trivial⟩ ?_
  exact bQ
 obtain⟨v77,h78,hF⟩:=aP hF
 refine go ?_ ?_
 refine m7 8 [0,1,2,3] [4,5,6,7] rfl (zC h78 q56 q58 q60 q64 q65 q66) zU2 rfl rfl rfl (by decide) ?_
 rintro _ _ ⟨b79,c80,n81,g88,N89,q82,q84,q86,q90,q91,q92,rfl,rfl⟩
 refine lE (iQ [⟨some b8,1,123,6,1,([pI .i64 v6.1]++[pI .i64 v6.2.1]++[pI .i64 v6.2.2.1]++[pO b79 n81 c80]++[pO b44 n46 c45]++[pO b23 n25 c24])⟩,hO (cH g88) b79 c80 24 n81 v77.1,hO cQ b44 c45 42 n46 v77.2.1,hO cI b23 c24 3 n25 v77.2.2.1] (eA cQ 42 g88 v77.2.2.2) [hO cQ b18 c19 42 n20 v6.2.2.2.2.1,⟨some b34,1,120,1,1,[pP (some b8) 0]⟩,⟨some b2,1,94,7,1,([pI .i64 0]++[pS cQ ([]:List Rat)]++[pS cQ ([]:List Rat)]++(eQ 0))⟩,⟨some b1,1,90,3,1,(aV.enc a0)⟩]) ?_
 refine aU (aH (aD (aI (aG (fF 5 1 rfl rfl rfl rfl (.one tyO120)) zU1 ?_))))
 refine aEQ 7 [(1,0),(18,0)] rfl zU2 rfl ?_
 refine aG (aIq (φ:=(tP a0)) (pre:=fun x:Int=>[.vc (pI .i64 x)]) (post:=fun r:Rat=>.va (eQ r)) (xs:=[.tmp 1]) (cs:=[pM (aV.cod.e a0)]) rfl rfl (fun x r h=>aCd h)) zU1 ?_
 obtain⟨v94,h95,hF⟩:=aP hF
 refine m7 7 [0,1,2,3] [4,5,6] rfl (t5 h95 q82 q84 q86 q90 q91 q92) zU2 rfl rfl rfl (by decide) ?_
 rintro _ _ ⟨b97,c98,n99,q100,rfl,rfl⟩
 refine lE (iQ [⟨some b8,1,123,6,1,([pI .i64 v6.1]++[pI .i64 v6.2.1]++[pI .i64 v6.2.2.1]++[pO b79 n81 c80]++[pO b97 n99 c98]++[pO b23 n25 c24])⟩,hO (cH g88) b79 c80 24 n81 v77.1,hO cQ b44 c45 42 n46 v77.2.1,hO cI b23 c24 3 n25 v77.2.2.1,hO cQ b97 c98 42 n99 v94] (eA cQ 42 g88 v77.2.2.2) [hO cQ b18 c19 42 n20 v6.2.2.2.2.1,⟨some b34,1,120,1,1,[pP (some b8) 0]⟩,⟨some b2,1,94,7,1,([pI .i64 0]++[pS cQ ([]:List Rat)]++[pS cQ ([]:List Rat)]++(eQ 0))⟩]) ?_
 obtain⟨v102,h103,hF⟩:=aP hF
 refine go ?_ ?_
 refine m7 8 [0,1,4,3] [2,5,6,7] rfl (u7 h103 q82 q100 q86 q90 q91 q92) zU2 rfl rfl rfl (by decide) ?_
 rintro _ _ ⟨b104,c105,n106,g113,N114,q107,q109,q111,q115,q116,q117,rfl,rfl⟩
 refine lE (iQ [⟨some b8,1,123,6,1,([pI .i64 v6.1]++[pI .i64 v6.2.1]++[pI .i64 v6.2.2.1]++[pO b104 n106 c105]++[pO b97 n99 c98]++[pO b23 n25 c24])⟩,hO (cH g113) b104 c105 24 n106 v102.2.1,hO cQ b97 c98 42 n99 v102.2.2.1,hO cI b23 c24 3 n25 v102.2.2.2.1] (eA cQ 42 g113 v102.2.2.2.2) [hO cQ b44 c45 42 n46 v77.2.1,hO cQ b18 c19 42 n20 v6.2.2.2.2.1,⟨some b34,1,120,1,1,[pP (some b8) 0]⟩,⟨some b2,1,94,7,1,([pI .i64 0]++[pS cQ ([]:List Rat)]++[pS cQ ([]:List Rat)]++(eQ 0))⟩]) ?_
 refine aK rfl tyZ3q (fun b119=>?_)
 refine go ?_ ?_
 refine aE hF rfl (fun h120 hF=>?_) (fun h120 hF=>?_)
 ·refine go ?_ ?_
  refine aG (aLq (xs:=[.tmp 5,.tmp 7]) (cs:=[pP (some b34) 0,pP (some b119) 0]) rfl rfl) zU2 ?_
  obtain⟨v121,h122,hF⟩:=aP hF
  refine m7 9 [1,7,0,2,3,4] [5,6,8] rfl (yX h122 q107 q109 q111 q115 q116 q117) zU2 rfl rfl rfl (by decide) ?_
  rintro _ _ ⟨rfl,rfl⟩
  refine lE (iQ [⟨some b8,1,123,6,1,([pI .i64 v6.1]++[pI .i64 v6.2.1]++[pI .i64 v6.2.2.1]++[pO b104 n106 c105]++[pO b97 n99 c98]++[pO b23 n25 c24])⟩,⟨some b34,1,120,1,1,[pP (some b8) 0]⟩,⟨some b119,1,3,1,1,[pI .i64 v102.1]⟩,hO (cH g113) b104 c105 24 n106 v102.2.1,hO cQ b97 c98 42 n99 v102.2.2.1,hO cI b23 c24 3 n25 v102.2.2.2.1] (eA cQ 42 g113 v102.2.2.2.2) [hO cQ b44 c45 42 n46 v77.2.1,hO cQ b18 c19 42 n20 v6.2.2.2.2.1,⟨some b2,1,94,7,1,([pI .i64 0]++[pS cQ ([]:List Rat)]++[pS cQ ([]:List Rat)]++(eQ 0))⟩]) ?_
  refine go ?_ ?_
  refine aG (aOZ (xs:=[.tmp 65]) (bs:=[pP (some b8) 0]) rfl rfl) zU1 ?_
  obtain⟨v123,h124,hF⟩:=aP hF
  refine m7 9 [0,3,4,5] [1,2,6,7,8] rfl (t0 h124 q107 q109 q111 q115 q116 q117) zU2 rfl rfl rfl (by decide) ?_
  rintro _ _ ⟨rfl,rfl⟩
  refine lE (iQ [⟨some b8,1,123,6,1,([pI .i64 v6.1]++[pI .i64 v6.2.1]++[pI .i64 v6.2.2.1]++[pO b104 n106 c105]++[pO b97 n99 c98]++[pO b23 n25 c24])⟩,hO (cH g113) b104 c105 24 n106 v102.2.1,hO cQ b97 c98 42 n99 v102.2.2.1,hO cI b23 c24 3 n25 v102.2.2.2.1] (eA cQ 42 g113 v102.2.2.2.2) [⟨some b34,1,120,1,1,[pP (some b8) 0]⟩,⟨some b119,1,3,1,1,[pI .i64 v102.1]⟩,hO cQ b44 c45 42 n46 v77.2.1,hO cQ b18 c19 42 n20 v6.2.2.2.2.1,⟨some b2,1,94,7,1,([pI .i64 0]++[pS cQ ([]:List Rat)]++[pS cQ ([]:List Rat)]++(eQ 0))⟩]) ?_
  refine fI ?_
  refine aG (gH (is:=[0,1,2]) (xs:=[.const (.int .i64 (2)),.tmp 67,.tmp 68]) (ps:=[.vc (pI .i64 2),.vc (pS cQ v123),.vc (pS cQ v121)]) rfl tyB94q rfl rfl ⟨trivial,trivial,trivial,trivial⟩ rfl) ⟨p6 _ _,rfl,rfl,trivial⟩ ?_
  exact bQ
 refine go ?_ ?_
 refine aG (aOZ (xs:=[.tmp 71]) (bs:=[pP (some b8) 0]) rfl rfl) zU1 ?_
 obtain⟨v125,h126,hF⟩:=aP hF
 refine m7 9 [1,2,3,4] [0,5,6,7,8] rfl (t0 h126 q107 q109 q111 q115 q116 q117) zU2 rfl rfl rfl (by decide) ?_
 rintro _ _ ⟨rfl,rfl⟩
 refine lE (iQ [⟨some b8,1,123,6,1,([pI .i64 v6.1]++[pI .i64 v6.2.1]++[pI .i64 v6.2.2.1]++[pO b104 n106 c105]++[pO b97 n99 c98]++[pO b23 n25 c24])⟩,hO (cH g113) b104 c105 24 n106 v102.2.1,hO cQ b97 c98 42 n99 v102.2.2.1,hO cI b23 c24 3 n25 v102.2.2.2.1] (eA cQ 42 g113 v102.2.2.2.2) [⟨some b119,1,3,1,1,[pI .i64 v102.1]⟩,hO cQ b44 c45 42 n46 v77.2.1,hO cQ b18 c19 42 n20 v6.2.2.2.2.1,⟨some b34,1,120,1,1,[pP (some b8) 0]⟩,⟨some b2,1,94,7,1,([pI .i64 0]++[pS cQ ([]:List Rat)]++[pS cQ ([]:List Rat)]++(eQ 0))⟩]) ?_
 refine go ?_ ?_
 refine aO1 2 0 4 rfl q109 rfl rfl rfl rfl rfl ?_
 obtain⟨v131,h132,hF⟩:=aP hF
 obtain⟨v133,h134,hF⟩:=bC hF aCi
 refine iV [0,0,2,0,8,0,62,127,255,511] 8 2 [.v (.vc (pS cQ v125)),.v (.vc (pP (some b8) 0)),.v (.vc (pS cQ v131)),.v (.vc (pM ((aV.cod.e a0).drop 2))),.v (.vc (pS cQ a0.goal)),.v (.vc (pS cQ v125)),.v (.va (eQ v133)),.v (.va ([pI .i64 0]++[pS cQ v125]++[pS cQ v131]++(eQ v133)))] aY ⟨d0 (aM (.inl rfl)) zU1,d0 (fF 6 1 rfl rfl rfl rfl (.one tyO120)) zU1,d0 (aHE 8 [0,1,2] [3,4,5,6,7] [0,1,2,3,4,5,6,7] rfl (yM h132 q107 q111 q115 q116 q117) rfl rfl rfl rfl (by decide) (by decide) rfl) zU1,d0 (aLL (ps:=(aV.cod.e a0)) (k:=2) rfl tyF90_2) zU1,d0 (aBh 1 rfl rfl (.one tyO24)) zU1,d0 (aM (.inl rfl)) zU1,d0 (bJ rfl h134 rfl) zU2,d0 (gH (is:=[0,1,2,3]) (xs:=[.const (.int .i64 (0)),.tmp 74,.tmp 76,.tmp 80]) (ps:=[.vc (pI .i64 0),.vc (pS cQ v125),.vc (pS cQ v131),.va (eQ v133)]) rfl tyB94q rfl rfl ⟨trivial,trivial,trivial,trivial,trivial⟩ rfl) ⟨p6 _ _,rfl,rfl,rfl,trivial⟩,trivial⟩ (fun bs130 G129=>?_)
 exact bQ
def rC (K:Nat) (a1:List Rat) (x49:List Rat) (x109:List aO):Option ((List Rat)×Int):=
 (xR K (⟨(a1.length:Int),x109,x49⟩:aV)).bind fun v117=>bif(v117.2 != 0) then(some ([],6)) else(bif(v117.1.kind != 0) then(some ([],6)) else((xP v117.1.value).bind fun v122=>bif(decide (v122≤0)) then(some ([],6)) else(some (v117.1.x,0))))
def rE (K:Nat) (x102:List aO) (x108:Int) (recl115:(List aO)→Int→Option (List aO)) (x146:List Rat):Option (List aO):=
 (rM x102 [(⟨x146,0⟩:aO)]).bind fun x154=>(aQ (x108+1)).bind fun v161=>recl115 x154 v161
def nE (K:Nat) (a0:List (List Rat)) (a1:List Rat) (x108:Int):Nat→(List Rat)→Int→Option (List Rat)
 |0,_,_=>none
 |k+1,x139,x145=>bif(decide (x145<(a1.length:Int))) then((bK a0 x145).bind fun v166=>(bK v166 x108).bind fun v168=>(bK x139 x145).bind fun v170=>(pN x139 x145 v168).bind fun x172=>(aQ (x145+1)).bind fun v175=>nE K a0 a1 x108 k x172 v175) else(some x139)
def kK (K:Nat) (a0:List (List Rat)) (a1:List Rat):Nat→(List aO)→Int→Option (List aO)
 |0,_,_=>none
 |k+1,x102,x108=>bif(decide (x108<(a1.length:Int))) then((y5 (a1.length:Int) 0).bind fun x126=>(nE K a0 a1 x108 K x126 0).bind fun x146=>rE K x102 x108 (kK K a0 a1 k) x146) else(some x102)
def sA (K:Nat) (a0:List (List Rat)) (a1:List Rat) (x43:List aO) (x49:List Rat) (v57:Rat) (x80:List Rat):Option ((List Rat)×Int):=
 (rM x43 [(⟨x80,v57⟩:aO)]).bind fun x88=>(kK K a0 a1 K x88 0).bind fun x109=>rC K a1 x49 x109
def nP (K:Nat) (a1:List Rat):Nat→(List Rat)→Int→Option (List Rat)
 |0,_,_=>none
 |k+1,x73,x79=>bif(decide (x79<(a1.length:Int))) then((qof 1 1).bind fun v180=>(rM x73 [v180]).bind fun x182=>(aQ (x79+1)).bind fun v189=>nP K a1 k x182 v189) else(some x73)
def sD (K:Nat) (a0:List (List Rat)) (a1:List Rat) (x43:List aO) (x49:List Rat):Option ((List Rat)×Int):=
 (qof 1 1).bind fun v57=>(nP K a1 K ([]:List Rat) 0).bind fun x80=>sA K a0 a1 x43 x49 v57 x80
def nY (K:Nat) (a1:List Rat):Nat→(List aO)→(List Rat)→Int→Option ((List aO)×(List Rat))
 |0,_,_,_=>none
 |k+1,x30,x36,x42=>bif(decide (x42<(a1.length:Int))) then((bK a1 x42).bind fun v194=>(aBs v194).bind fun v196=>(bK x36 x42).bind fun v198=>(pN x36 x42 v196).bind fun x200=>(y5 (a1.length:Int) 0).bind fun x203=>(qof (-1) 1).bind fun v211=>(bK x203 x42).bind fun v213=>(pN x203 x42 v211).bind fun x215=>(rM x30 [(⟨x215,0⟩:aO)]).bind fun x218=>(aQ (x42+1)).bind fun v225=>nY K a1 k x218 x200 v225) else(some (x30,x36))
def uP (K:Nat) (a0:List (List Rat)) (a1:List Rat):Option ((List Rat)×Int):=
 (iA K a0 a1).bind fun v1=>bif(!v1) then(some ([],1)) else(bif((a1.length:Int)==0) then(some ([],6)) else((y5 (a1.length:Int) 0).bind fun x5=>(nY K a1 K ([]:List aO) x5 0).bind fun(x43,x49)=>sD K a0 a1 x43 x49))
theorem aBp {K:Nat} {a0:List (List Rat)} {a1:List Rat} {r:(List Rat)×Int} (hF:uP K a0 a1=some r):Ct Tryz.prog 27 [.vc (pS (fA cQ) a0),.vc (pS cQ a1)] (.t2 (.vc (pS cQ r.1)) (.vc (pI .i64 r.2))):=by
 unfold uP at hF
 refine aA Tryz.func27 rfl (by kernel_rfl) Tryz.ntmps27 rfl (fun w0 M0=>?_)
 refine aD (aI (aG (aM (.inr rfl)) ⟨eI cQ,trivial⟩ ?_))
 refine aG (aM (.inr rfl)) ⟨p6 _ _,trivial⟩ ?_
 refine aU (aH (aD (aD (aI (fI ?_)))))
 refine fI ?_
 obtain⟨v1,h2,hF⟩:=aP hF
 refine aG (bJ rfl (oI h2) rfl) zU2 ?_
 refine aG (aJJ rfl) zU1 ?_
 refine aU (aH (aFw rfl (fun h3=>?_) (fun h3=>?_)))
 ·have hF:=rY h3 hF
  refine aD (aI (aG (aM (.inr rfl)) ⟨eI cQ,trivial⟩ ?_))
  refine aG (aM (.inr rfl)) ⟨p6 _ _,trivial⟩ ?_
  refine aU (aH (fY (fZ ?_)))
  obtain rfl:=iD hF
  exact jL (.inl rfl) Tryz.results27 (.tmp rfl (.tmp rfl .nil)) rfl rfl
 have hF:=p8 h3 hF
 refine fN (aH (aD (aI (fI ?_))))
 refine aG (aHt rfl tyS24) zU1 ?_
 refine yK ?_
 refine aU (aH (aD (aD (aI (fI ?_)))))
 refine aG (aOy rfl) ⟨rfl,p6 _ _,trivial⟩ ?_
 refine aU (aH (aFw rfl (fun h4=>?_) (fun h4=>?_)))
 ·have hF:=rY h4 hF
  refine aD (aI (aG (aM (.inr rfl)) ⟨eI cQ,trivial⟩ ?_))
  refine aG (aM (.inr rfl)) ⟨p6 _ _,trivial⟩ ?_
  refine aU (aH (fY (fZ ?_)))
  obtain rfl:=iD hF
  exact jL (.inl rfl) Tryz.results27 (.tmp rfl (.tmp rfl .nil)) rfl rfl
 have hF:=p8 h4 hF
 refine fN (aH (aD (aI (fI ?_))))
 refine fI ?_
 obtain⟨x5,h6,hF⟩:=aP hF
 refine o7 (C:=cQ) rfl tyS24 rfl tyZ42q rfl h6 (fun b7=>?_)
 refine zU aO.cod 92 ?_
 refine aG (gH (is:=[0,2]) (xs:=[.tmp 24,.tmp 26]) (ps:=[.vc (pI .i64 (a1.length:Int)),.vc (pO b7 x5.length x5.length)]) rfl tyB90_o1q rfl rfl ⟨trivial,trivial,trivial⟩ rfl) zU2 ?_
 refine aK rfl tyZ90q (fun b16=>?_)
 refine kY (t_s 0 rfl rfl rfl tyA90.s) zU2 ?_
 refine aU (aH (aD (aD (aI (fI ?_)))))
 refine aG (aM (.inl rfl)) ⟨p6 _ _,trivial⟩ ?_
 refine aU (aH (aJ (aX (fun H E=>∃(x43:List aO),∃(x49:List Rat),∃(b44:Option Nat),∃(c45:Nat),∃(n46:Nat),sD K a0 a1 x43 x49=some r∧x43.length=n46∧x49.length=x5.length∧H=[⟨some b16,1,90,3,1,([pI .i64 (a1.length:Int)]++[pO b44 n46 c45]++[pO b7 x5.length x5.length])⟩,hO aO.cod b44 c45 92 n46 x43,hO cQ b7 x5.length 42 x5.length x49]∧E=[(0,.vc (pS (fA cQ) a0)),(6,.vc (pI .i64 (a1.length:Int))),(7,.vc (pP (some b16) 0))]) ?_ (fun Jj56=>?_))))
 ·rintro _ _ ⟨x43,x49,b44,c45,n46,hF,q47,q53,rfl,rfl⟩
  unfold sD at hF
  refine aH (aD (aI ?_))
  obtain⟨v57,h58,hF⟩:=aP hF
  refine aG (bJ rfl (rW h58) rfl) ⟨p6 _ _,p6 _ _,trivial⟩ ?_
  refine zU cQ 42 ?_
  refine aG (gH (is:=[1]) (xs:=[.tmp 56]) (ps:=[.va (eQ v57)]) rfl tyB92_o0q rfl rfl ⟨trivial,trivial⟩ rfl) zU1 ?_
  refine aK rfl tyZ92q (fun b65=>?_)
  refine kY (t_s 0 rfl rfl rfl tyA92.s) zU2 ?_
  refine aU (aH (aD (aD (aI (fI ?_)))))
  refine aG (aM (.inl rfl)) ⟨p6 _ _,trivial⟩ ?_
  refine aU (aH (aJ (aX (fun H E=>∃(x80:List Rat),∃(b81:Option Nat),∃(c82:Nat),∃(n83:Nat),sA K a0 a1 x43 x49 v57 x80=some r∧x80.length=n83∧H=[⟨some b65,1,92,5,1,([pO b81 n83 c82]++(eQ v57))⟩,hO cQ b81 c82 42 n83 x80,⟨some b16,1,90,3,1,([pI .i64 (a1.length:Int)]++[pO b44 n46 c45]++[pO b7 x5.length x5.length])⟩,hO aO.cod b44 c45 92 n46 x43,hO cQ b7 x5.length 42 x5.length x49]∧E=[(0,.vc (pS (fA cQ) a0)),(6,.vc (pI .i64 (a1.length:Int))),(7,.vc (pP (some b16) 0)),(10,.vc (pP (some b65) 0))]) ?_ (fun Jj87=>?_))))
  ·rintro _ _ ⟨x80,b81,c82,n83,hF,q84,rfl,rfl⟩
   unfold sA at hF
   refine aH (aD (aI (aG (f7 (off:=0) (k:=1) rfl tyF90_1) zU1 ?_)))
   refine aG (fF 2 1 rfl rfl rfl rfl (.one tyO88)) zU1 ?_
   refine aDS 1 0 0 rfl q84 rfl rfl rfl rfl rfl ?_
   refine aG (fF 0 5 rfl rfl rfl rfl (.agg tyA92)) zU1 ?_
   refine aG (gG (C:=aO.cod) (xs:=[.tmp 70]) (ps:=[.va ([pS cQ x80]++(eQ v57))]) (zs:=[(⟨x80,v57⟩:aO)]) rfl tyS88 rfl ⟨⟨trivial,rfl⟩,trivial⟩ rfl) zU1 ?_
   obtain⟨x88,h89,hF⟩:=aP hF
   refine mN 2 rfl tyS88 rfl rfl q47 rfl rfl h89 (fun b90 c91 H92 e93=>?_)
   cases e93
   refine aG (f7 (off:=0) (k:=1) rfl tyF90_1) zU1 ?_
   refine kY (t_s 1 rfl rfl rfl tyO88.s) zU2 ?_
   refine aU (aH (aD (aD (aI (fI ?_)))))
   refine aG (aM (.inl rfl)) ⟨p6 _ _,trivial⟩ ?_
   refine aU (aH (aJ (aX (fun H E=>∃(x109:List aO),∃(b110:Option Nat),∃(c111:Nat),∃(n112:Nat),rC K a1 x49 x109=some r∧x109.length=n112∧H=[⟨some b16,1,90,3,1,([pI .i64 (a1.length:Int)]++[pO b110 n112 c111]++[pO b7 x5.length x5.length])⟩,hO aO.cod b110 c111 92 n112 x109,hO cQ b7 x5.length 42 x5.length x49]∧E=[(7,.vc (pP (some b16) 0))]) ?_ (fun Jj116=>?_))))
   ·rintro _ _ ⟨x109,b110,c111,n112,hF,q113,rfl,rfl⟩
    unfold rC at hF
    refine aH (aD (aI (aDS 1 0 1 rfl q113 rfl rfl rfl rfl rfl ?_)))
    refine aDS 1 0 2 rfl q53 rfl rfl rfl rfl rfl ?_
    refine aG (fF 0 3 rfl rfl rfl rfl (.agg tyA90)) zU1 ?_
    obtain⟨v117,h118,hF⟩:=aP hF
    refine aG (bJ rfl (aDB h118) rfl) zU1 ?_
    refine fI ?_
    refine aG (aHc rfl) zU1 ?_
    refine aG (aGU rfl) zU1 ?_
    refine aK rfl tyZ94q (fun b119=>?_)
    refine kY (t_s 0 rfl rfl rfl tyA94.s) zU2 ?_
    refine yK ?_
    refine aU (aH (aD (aD (aI (fI ?_)))))
    refine aG (aL0 rfl) ⟨rfl,p6 _ _,trivial⟩ ?_
    refine fI ?_
    refine aIF (fun h120=>?_) (fun h120=>?_)
    ·have hF:=rY h120 hF
     refine aAU ?_
     refine aAU ?_
     refine aAU ?_
     refine aG (wE rfl) ⟨rfl,k_B _,trivial⟩ ?_
     refine fI ?_
     refine aAU ?_
     refine aAU ?_
     refine aAU ?_
     refine aAU ?_
     refine aG (wE rfl) ⟨rfl,k_B _,trivial⟩ ?_
     refine aU (aH (jS rfl ?_))
     refine aD (aI (aG (aM (.inr rfl)) ⟨eI cQ,trivial⟩ ?_))
     refine aG (aM (.inr rfl)) ⟨p6 _ _,trivial⟩ ?_
     refine aU (aH (fY (fZ ?_)))
     obtain rfl:=iD hF
     exact jL (.inl rfl) Tryz.results27 (.tmp rfl (.tmp rfl .nil)) rfl rfl
    have hF:=p8 h120 hF
    refine uX (f7 (off:=0) (k:=0) rfl tyF94_0) zU1 ?_
    refine uX (fF 0 1 rfl rfl rfl rfl (.one tyO3)) zU1 ?_
    refine uX (aL0 rfl) ⟨rfl,p6 _ _,trivial⟩ ?_
    refine aG (aAQ rfl) zU2 ?_
    refine fI ?_
    refine aIF (fun h121=>?_) (fun h121=>?_)
    ·have hF:=rY h121 hF
     refine aAU ?_
     refine aAU ?_
     refine aAU ?_
     refine aAU ?_
     refine aG (wE rfl) ⟨rfl,k_B _,trivial⟩ ?_
     refine aU (aH (jS rfl ?_))
     refine aD (aI (aG (aM (.inr rfl)) ⟨eI cQ,trivial⟩ ?_))
     refine aG (aM (.inr rfl)) ⟨p6 _ _,trivial⟩ ?_
     refine aU (aH (fY (fZ ?_)))
     obtain rfl:=iD hF
     exact jL (.inl rfl) Tryz.results27 (.tmp rfl (.tmp rfl .nil)) rfl rfl
    have hF:=p8 h121 hF
    refine uX (f7 (off:=0) (k:=3) rfl tyF94_3) zU1 ?_
    refine uX (fF 0 4 rfl rfl rfl rfl (.agg tyA42)) zU1 ?_
    obtain⟨v122,h123,hF⟩:=aP hF
    refine uX (bJ rfl (d8 h123) rfl) zU1 ?_
    refine uX (aNV rfl) ⟨rfl,p6 _ _,trivial⟩ ?_
    refine aG (aAQ rfl) zU2 ?_
    refine aU (aH (aFw rfl (fun h124=>?_) (fun h124=>?_)))
    ·have hF:=rY h124 hF
     refine aD (aI (aG (aM (.inr rfl)) ⟨eI cQ,trivial⟩ ?_))
     refine aG (aM (.inr rfl)) ⟨p6 _ _,trivial⟩ ?_
     refine aU (aH (fY (fZ ?_)))
     obtain rfl:=iD hF
     exact jL (.inl rfl) Tryz.results27 (.tmp rfl (.tmp rfl .nil)) rfl rfl
    have hF:=p8 h124 hF
    refine fN (aH (aD (aI (aG (f7 (off:=0) (k:=1) rfl tyF94_1) zU1 ?_))))
    refine aG (fF 0 1 rfl rfl rfl rfl (.one tyO24)) zU1 ?_
    refine yK ?_
    refine aG (aM (.inr rfl)) ⟨p6 _ _,trivial⟩ ?_
    refine aU (aH (fY (fZ ?_)))
    obtain rfl:=iD hF
    exact jL (.inl rfl) Tryz.results27 (.tmp rfl (.tmp rfl .nil)) rfl rfl
   obtain⟨x109',hL,hRl115⟩:=aP hF
   refine dQ (fun k a w=>∃(x102:List aO),∃(x108:Int),∃(b103:Option Nat),∃(c104:Nat),∃(n105:Nat),kK K a0 a1 k x102 x108=some x109'∧x102.length=n105∧hs _ [⟨some b16,1,90,3,1,([pI .i64 (a1.length:Int)]++[pO b103 n105 c104]++[pO b7 x5.length x5.length])⟩,hO aO.cod b103 c104 92 n105 x102,hO cQ b7 x5.length 42 x5.length x49] [(0,.vc (pS (fA cQ) a0)),(6,.vc (pI .i64 (a1.length:Int))),(7,.vc (pP (some b16) 0)),(74,.vc (pI .i64 (a1.length:Int))),(75,.vc (pI .i64 x108))] a w) K (fun a w ⟨_,_,_,_,_,hF,_,_⟩=>by cases hF) (fun k a w ⟨x102,x108,b103,c104,n105,hF,q106,hh⟩=>dP ?_ hh) (fun a w hh=>⟨x88,0,b90,c91,(n46+[(⟨x80,v57⟩:aO)].length),hL,(cX h89 q47),xD [1,2,3] rfl (by decide) (by exact⟨rfl,rfl,rfl,rfl,rfl,trivial⟩) hh⟩)
   rw [kK.eq_2] at hF
   refine aD (aI (aG (aHf rfl) zU2 ?_))
   refine aU (aH (aD (aFw rfl (fun h125=>?_) (fun h125=>?_))))
   ·have hF:=rY h125 hF
    refine fN (aH (aD (aJ (aD (aI (fI ?_))))))
    refine yK ?_
    refine aU (aH (aD (aI (fI ?_))))
    obtain⟨x126,h127,hF⟩:=aP hF
    refine o7 (C:=cQ) rfl tyS24 rfl tyZ42q rfl h127 (fun b128=>?_)
    refine aG (gH (is:=[0]) (xs:=[.tmp 79]) (ps:=[.vc (pO b128 x126.length x126.length)]) rfl tyB92q rfl rfl ⟨trivial,trivial⟩ rfl) zU1 ?_
    refine aK rfl tyZ92q (fun b131=>?_)
    refine kY (t_s 0 rfl rfl rfl tyA92.s) zU2 ?_
    refine aU (aH (aD (aD (aI (fI ?_)))))
    refine aG (aM (.inl rfl)) ⟨p6 _ _,trivial⟩ ?_
    refine aU (aH (aJ (aX (fun H E=>∃(x146:List Rat),rE K x102 x108 (kK K a0 a1 k) x146=some x109'∧x146.length=x126.length∧H=[⟨some b131,1,92,5,1,([pO b128 x126.length x126.length]++(eQ 0))⟩,hO cQ b128 x126.length 42 x126.length x146,⟨some b16,1,90,3,1,([pI .i64 (a1.length:Int)]++[pO b103 n105 c104]++[pO b7 x5.length x5.length])⟩,hO aO.cod b103 c104 92 n105 x102,hO cQ b7 x5.length 42 x5.length x49]∧E=[(0,.vc (pS (fA cQ) a0)),(6,.vc (pI .i64 (a1.length:Int))),(7,.vc (pP (some b16) 0)),(12,.vc (pP (some b131) 0)),(74,.vc (pI .i64 (a1.length:Int))),(75,.vc (pI .i64 x108))]) ?_ (fun Jj153=>?_))))
    ·rintro _ _ ⟨x146,hF,q150,rfl,rfl⟩
     unfold rE at hF
     refine aH (aI (aG (f7 (off:=0) (k:=1) rfl tyF90_1) zU1 ?_))
     refine aG (fF 2 1 rfl rfl rfl rfl (.one tyO88)) zU1 ?_
     refine aDS 1 0 0 rfl q150 rfl rfl rfl rfl rfl ?_
     refine aG (fF 0 5 rfl rfl rfl rfl (.agg tyA92)) zU1 ?_
     refine aG (gG (C:=aO.cod) (xs:=[.tmp 99]) (ps:=[.va ([pS cQ x146]++(eQ 0))]) (zs:=[(⟨x146,0⟩:aO)]) rfl tyS88 rfl ⟨⟨trivial,rfl⟩,trivial⟩ rfl) zU1 ?_
     obtain⟨x154,h155,hF⟩:=aP hF
     refine mN 2 rfl tyS88 rfl rfl q106 rfl rfl h155 (fun b156 c157 H158 e159=>?_)
     cases e159
     refine aG (f7 (off:=0) (k:=1) rfl tyF90_1) zU1 ?_
     refine kY (t_s 1 rfl rfl rfl tyO88.s) zU2 ?_
     refine aU (aBc (aH (aI ?_)))
     obtain⟨v161,h162,hF⟩:=aP hF
     refine aG (xQ rfl h162) ⟨rfl,p6 _ _,trivial⟩ ?_
     refine fI ?_
     refine aU ?_
     exact aF (fun a w hh=>⟨x154,v161,b156,c157,(n105+[(⟨x146,0⟩:aO)].length),hF,(cX h155 q106),xD [1,2,3] rfl (by decide) (by exact⟨rfl,rfl,rfl,rfl,rfl,trivial⟩) hh⟩)
    obtain⟨x146',hL,hRl152⟩:=aP hF
    refine dQ (fun k a w=>∃(x139:List Rat),∃(x145:Int),nE K a0 a1 x108 k x139 x145=some x146'∧x139.length=x126.length∧hs _ [⟨some b131,1,92,5,1,([pO b128 x126.length x126.length]++(eQ 0))⟩,hO cQ b128 x126.length 42 x126.length x139,⟨some b16,1,90,3,1,([pI .i64 (a1.length:Int)]++[pO b103 n105 c104]++[pO b7 x5.length x5.length])⟩,hO aO.cod b103 c104 92 n105 x102,hO cQ b7 x5.length 42 x5.length x49] [(0,.vc (pS (fA cQ) a0)),(6,.vc (pI .i64 (a1.length:Int))),(7,.vc (pP (some b16) 0)),(11,.vc (pI .i64 x108)),(12,.vc (pP (some b131) 0)),(74,.vc (pI .i64 (a1.length:Int))),(75,.vc (pI .i64 x108)),(81,.vc (pI .i64 (a1.length:Int))),(82,.vc (pI .i64 x145))] a w) K (fun a w ⟨_,_,hF,_,_⟩=>by cases hF) (fun k a w ⟨x139,x145,hF,q143,hh⟩=>dP ?_ hh) (fun a w hh=>⟨x126,0,hL,rfl,xD [0,1,2,3,4] rfl (by decide) (by exact⟨rfl,rfl,rfl,rfl,rfl,rfl,rfl,rfl,rfl,trivial⟩) hh⟩)
    rw [nE.eq_2] at hF
    refine aD (aI (aG (aHf rfl) zU2 ?_))
    refine aU (aH (aD (aFw rfl (fun h163=>?_) (fun h163=>?_))))
    ·have hF:=rY h163 hF
     refine fN (aH (aD (aJ (aD (aI (fI ?_))))))
     refine yK ?_
     refine aU (aH ?_)
     obtain⟨v166,h167,hF⟩:=aP hF
     obtain⟨v168,h169,hF⟩:=aP hF
     obtain⟨v170,h171,hF⟩:=aP hF
     refine iV [0,1,0,0,0,24,56,0,248,504,1023,2047] 11 1 [.v (.vc (pP (some b131) 0)),.v (.vc (pO b128 x126.length x126.length)),.v (.vc (pI .i64 x145)),.v (.vc (pS (fA cQ) a0)),.v (.vc (pI .i64 x145)),.v (.vc (pM ((fA cQ).e v166))),.v (.vc (pS cQ v166)),.v (.vc (pI .i64 x108)),.v (.vc (pM (cQ.e v168))),.v (.va (eQ v168)),.v (.vc (pE b128 x145 cQ.n 0))] aY ⟨d0 (f7 (off:=0) (k:=0) rfl tyF92_0) zU1,d0 (fF 0 1 rfl rfl rfl rfl (.one tyO24)) zU1,d0 (aM (.inl rfl)) zU1,d0 (aM (.inl rfl)) zU1,d0 (aM (.inl rfl)) zU1,d0 (aDu rfl tyS23 h167) zU2,d0 (aBh 1 rfl rfl (.one tyO24)) zU1,d0 (aM (.inl rfl)) zU1,d0 (aDu rfl tyS24 h169) zU2,d0 (aBh 4 rfl rfl (.agg tyA42)) zU1,d0 (d7 (C:=cQ) 1 rfl tyS24 rfl q143 (aC h171).1 (aC h171).2.1) zU2,trivial⟩ (fun bs165 G164=>?_)
     obtain⟨x172,h173,hF⟩:=aP hF
     refine kY (xM 1 rfl rfl h171 h173 tyA42.s) zU2 ?_
     refine aU (aBc (aH (aI ?_)))
     obtain⟨v175,h176,hF⟩:=aP hF
     refine aG (xQ rfl h176) ⟨rfl,p6 _ _,trivial⟩ ?_
     refine fI ?_
     refine aU ?_
     exact aF (fun a w hh=>⟨x172,v175,hF,(bG h173 q143),xD [0,1,2,3,4] rfl (by decide) (by exact⟨rfl,rfl,rfl,rfl,rfl,rfl,rfl,rfl,rfl,trivial⟩) hh⟩)
    have hF:=p8 h163 hF
    refine bH ?_
    obtain rfl:=iD hF
    exact aC3 Jj153 ⟨x139,hRl152,q143,rfl,rfl⟩ [0,1,2,3,4] rfl ⟨rfl,rfl,rfl,rfl,rfl,rfl,trivial⟩
   have hF:=p8 h125 hF
   refine bH ?_
   obtain rfl:=iD hF
   exact aC3 Jj116 ⟨x102,b103,c104,n105,hRl115,q106,rfl,rfl⟩ [0,1,2] rfl zU1
  obtain⟨x80',hL,hRl86⟩:=aP hF
  refine dQ (fun k a w=>∃(x73:List Rat),∃(x79:Int),∃(b74:Option Nat),∃(c75:Nat),∃(n76:Nat),nP K a1 k x73 x79=some x80'∧x73.length=n76∧hs _ [⟨some b65,1,92,5,1,([pO b74 n76 c75]++(eQ v57))⟩,hO cQ b74 c75 42 n76 x73,⟨some b16,1,90,3,1,([pI .i64 (a1.length:Int)]++[pO b44 n46 c45]++[pO b7 x5.length x5.length])⟩,hO aO.cod b44 c45 92 n46 x43,hO cQ b7 x5.length 42 x5.length x49] [(0,.vc (pS (fA cQ) a0)),(6,.vc (pI .i64 (a1.length:Int))),(7,.vc (pP (some b16) 0)),(10,.vc (pP (some b65) 0)),(58,.vc (pI .i64 (a1.length:Int))),(59,.vc (pI .i64 x79))] a w) K (fun a w ⟨_,_,_,_,_,hF,_,_⟩=>by cases hF) (fun k a w ⟨x73,x79,b74,c75,n76,hF,q77,hh⟩=>dP ?_ hh) (fun a w hh=>⟨([]:List Rat),0,none,0,0,hL,rfl,xD [0,1,2,3,4] rfl (by decide) (by exact⟨rfl,rfl,rfl,rfl,rfl,rfl,trivial⟩) hh⟩)
  rw [nP.eq_2] at hF
  refine aD (aI (aG (aHf rfl) zU2 ?_))
  refine aU (aH (aD (aFw rfl (fun h177=>?_) (fun h177=>?_))))
  ·have hF:=rY h177 hF
   refine fN (aH (aD (aJ ?_)))
   obtain⟨v180,h181,hF⟩:=aP hF
   refine iV [0,1,0,4,15,31,63] 4 3 [.v (.vc (pP (some b65) 0)),.v (.vc (pO b74 n76 c75)),.v (.va (eQ v180)),.v (.vc (pS cQ [v180]))] aY ⟨d0 (f7 (off:=0) (k:=0) rfl tyF92_0) zU1,d0 (fF 0 1 rfl rfl rfl rfl (.one tyO24)) zU1,d0 (bJ rfl (rW h181) rfl) ⟨p6 _ _,p6 _ _,trivial⟩,d0 (gG (C:=cQ) (xs:=[.tmp 63]) (ps:=[.va (eQ v180)]) (zs:=[v180]) rfl tyS24 rfl ⟨⟨trivial,rfl⟩,trivial⟩ rfl) zU1,trivial⟩ (fun bs179 G178=>?_)
   obtain⟨x182,h183,hF⟩:=aP hF
   refine mN 1 rfl tyS24 rfl rfl q77 rfl rfl h183 (fun b184 c185 H186 e187=>?_)
   cases e187
   refine aG (f7 (off:=0) (k:=0) rfl tyF92_0) zU1 ?_
   refine kY (t_s 0 rfl rfl rfl tyO24.s) zU2 ?_
   refine aU (aBc (aH (aI ?_)))
   obtain⟨v189,h190,hF⟩:=aP hF
   refine aG (xQ rfl h190) ⟨rfl,p6 _ _,trivial⟩ ?_
   refine fI ?_
   refine aU ?_
   exact aF (fun a w hh=>⟨x182,v189,b184,c185,(n76+[v180].length),hF,(cX h183 q77),xD [0,1,2,3,4] rfl (by decide) (by exact⟨rfl,rfl,rfl,rfl,rfl,rfl,trivial⟩) hh⟩)
  have hF:=p8 h177 hF
  refine bH ?_
  obtain rfl:=iD hF
  exact aC3 Jj87 ⟨x73,b74,c75,n76,hRl86,q77,rfl,rfl⟩ [0,1,2,3,4] rfl ⟨rfl,rfl,rfl,rfl,trivial⟩
 obtain⟨⟨x43',x49'⟩,hL,hRl55⟩:=aP hF
 refine dQ (fun k a w=>∃(x30:List aO),∃(x36:List Rat),∃(x42:Int),∃(b31:Option Nat),∃(c32:Nat),∃(n33:Nat),nY K a1 k x30 x36 x42=some (x43',x49')∧x30.length=n33∧x36.length=x5.length∧hs _ [⟨some b16,1,90,3,1,([pI .i64 (a1.length:Int)]++[pO b31 n33 c32]++[pO b7 x5.length x5.length])⟩,hO aO.cod b31 c32 92 n33 x30,hO cQ b7 x5.length 42 x5.length x36] [(0,.vc (pS (fA cQ) a0)),(1,.vc (pS cQ a1)),(6,.vc (pI .i64 (a1.length:Int))),(7,.vc (pP (some b16) 0)),(28,.vc (pI .i64 (a1.length:Int))),(29,.vc (pI .i64 x42))] a w) K (fun a w ⟨_,_,_,_,_,_,hF,_,_,_⟩=>by cases hF) (fun k a w ⟨x30,x36,x42,b31,c32,n33,hF,q34,q40,hh⟩=>dP ?_ hh) (fun a w hh=>⟨([]:List aO),x5,0,none,0,0,hL,rfl,rfl,xD [0,1,2] rfl (by decide) (by exact⟨rfl,rfl,rfl,rfl,rfl,rfl,trivial⟩) hh⟩)
 rw [nY.eq_2] at hF
 refine aD (aI (aG (aHf rfl) zU2 ?_))
 refine aU (aH (aD (aFw rfl (fun h191=>?_) (fun h191=>?_))))
 ·have hF:=rY h191 hF
  refine fN (aH (aD (aJ (aD (aI (fI ?_))))))
  refine yK ?_
  refine aU (aH (aD ?_))
  obtain⟨v194,h195,hF⟩:=aP hF
  obtain⟨v196,h197,hF⟩:=aP hF
  obtain⟨v198,h199,hF⟩:=aP hF
  refine iV [0,1,0,0,0,24,56,120,255,511] 9 1 [.v (.vc (pP (some b16) 2)),.v (.vc (pO b7 x5.length x5.length)),.v (.vc (pI .i64 x42)),.v (.vc (pS cQ a1)),.v (.vc (pI .i64 x42)),.v (.vc (pM (cQ.e v194))),.v (.va (eQ v194)),.v (.va (eQ v196)),.v (.vc (pE b7 x42 cQ.n 0))] aY ⟨d0 (f7 (off:=0) (k:=2) rfl tyF90_2) zU1,d0 (fF 0 1 rfl rfl rfl rfl (.one tyO24)) zU1,d0 (aM (.inl rfl)) zU1,d0 (aM (.inl rfl)) zU1,d0 (aM (.inl rfl)) zU1,d0 (aDu rfl tyS24 h195) zU2,d0 (aBh 4 rfl rfl (.agg tyA42)) zU1,d0 (bJ rfl (tZ h197) rfl) zU1,d0 (d7 (C:=cQ) 2 rfl tyS24 rfl q40 (aC h199).1 (aC h199).2.1) zU2,trivial⟩ (fun bs193 G192=>?_)
  obtain⟨x200,h201,hF⟩:=aP hF
  refine kY (xM 2 rfl rfl h199 h201 tyA42.s) zU2 ?_
  refine aU (aH (aD (aI (fI ?_))))
  obtain⟨x203,h204,hF⟩:=aP hF
  refine o7 (C:=cQ) rfl tyS24 rfl tyZ42q rfl h204 (fun b205=>?_)
  refine aG (gH (is:=[0]) (xs:=[.tmp 42]) (ps:=[.vc (pO b205 x203.length x203.length)]) rfl tyB92q rfl rfl ⟨trivial,trivial⟩ rfl) zU1 ?_
  refine aK rfl tyZ92q (fun b208=>?_)
  refine kY (t_s 0 rfl rfl rfl tyA92.s) zU2 ?_
  refine aU (aH (aD ?_))
  obtain⟨v211,h212,hF⟩:=aP hF
  obtain⟨v213,h214,hF⟩:=aP hF
  refine iV [0,1,0,0,15,31] 5 1 [.v (.vc (pP (some b208) 0)),.v (.vc (pO b205 x203.length x203.length)),.v (.vc (pI .i64 x42)),.v (.va (eQ v211)),.v (.vc (pE b205 x42 cQ.n 0))] aY ⟨d0 (f7 (off:=0) (k:=0) rfl tyF92_0) zU1,d0 (fF 0 1 rfl rfl rfl rfl (.one tyO24)) zU1,d0 (aM (.inl rfl)) zU1,d0 (bJ rfl (rW h212) rfl) ⟨p6 _ _,p6 _ _,trivial⟩,d0 (d7 (C:=cQ) 1 rfl tyS24 rfl rfl (aC h214).1 (aC h214).2.1) zU2,trivial⟩ (fun bs210 G209=>?_)
  obtain⟨x215,h216,hF⟩:=aP hF
  refine kY (xM 1 rfl rfl h214 h216 tyA42.s) zU2 ?_
  refine aU (aH (aI (aG (f7 (off:=0) (k:=1) rfl tyF90_1) zU1 ?_)))
  refine aG (fF 2 1 rfl rfl rfl rfl (.one tyO88)) zU1 ?_
  refine aPT 1 0 0 [42,45] rfl (bG h216 rfl) rfl rfl rfl rfl rfl zU2 ?_
  refine aG (fF 0 5 rfl rfl rfl rfl (.agg tyA92)) zU1 ?_
  refine aG (gG (C:=aO.cod) (xs:=[.tmp 51]) (ps:=[.va ([pS cQ x215]++(eQ 0))]) (zs:=[(⟨x215,0⟩:aO)]) rfl tyS88 rfl ⟨⟨trivial,rfl⟩,trivial⟩ rfl) zU1 ?_
  obtain⟨x218,h219,hF⟩:=aP hF
  refine mN 2 rfl tyS88 rfl rfl q34 rfl rfl h219 (fun b220 c221 H222 e223=>?_)
  cases e223
  refine aG (f7 (off:=0) (k:=1) rfl tyF90_1) zU1 ?_
  refine kY (t_s 1 rfl rfl rfl tyO88.s) zU2 ?_
  refine aU (aBc (aH (aI ?_)))
  obtain⟨v225,h226,hF⟩:=aP hF
  refine aG (xQ rfl h226) ⟨rfl,p6 _ _,trivial⟩ ?_
  refine fI ?_
  refine aU ?_
  exact aF (fun a w hh=>⟨x218,x200,v225,b220,c221,(n33+[(⟨x215,0⟩:aO)].length),hF,(cX h219 q34),(bG h201 q40),xD [1,2,3] rfl (by decide) (by exact⟨rfl,rfl,rfl,rfl,rfl,rfl,trivial⟩) hh⟩)
 have hF:=p8 h191 hF
 refine bH ?_
 obtain⟨rfl,rfl⟩:=sm2 hF
 exact aC3 Jj56 ⟨x30,x36,b31,c32,n33,hRl55,q34,q40,rfl,rfl⟩ [0,1,2] rfl ⟨rfl,rfl,rfl,trivial⟩
def rD (K:Nat) (a1:List Rat) (a2:List Rat):Option Bool:=
 (wX K a1 a2).bind fun v15=>(xP v15).bind fun v17=>some (decide (v17<0))
def rH (K:Nat) (x12:Int) (recl13:Int→Option (LR Bool Unit)) (x25:Rat):Option (LR Bool Unit):=
 (xP x25).bind fun v28=>bif(decide (0<v28)) then(some (.ret false)) else((aQ (x12+1)).bind fun v31=>recl13 v31)
def nD (K:Nat) (a0:List (List Rat)) (a1:List Rat) (a2:List Rat) (x12:Int):Nat→Rat→Int→Option Rat
 |0,_,_=>none
 |k+1,x23,x24=>bif(decide (x24<(a1.length:Int))) then((bK a2 x24).bind fun v36=>(bK a0 x24).bind fun v38=>(bK v38 x12).bind fun v40=>(aC1 v36 v40).bind fun v42=>(aFu x23 v42).bind fun v44=>(aQ (x24+1)).bind fun v46=>nD K a0 a1 a2 x12 k v44 v46) else(some x23)
def kJ (K:Nat) (a0:List (List Rat)) (a1:List Rat) (a2:List Rat):Nat→Int→Option (LR Bool Unit)
 |0,_=>none
 |k+1,x12=>bif(decide (x12<(a1.length:Int))) then((nD K a0 a1 a2 x12 K 0 0).bind fun x25=>rH K x12 (kJ K a0 a1 a2 k) x25) else(some (.go ()))
def uF (K:Nat) (a0:List (List Rat)) (a1:List Rat) (a2:List Rat):Option Bool:=
 (iA K a0 a1).bind fun v1=>bif(!v1) then(some false) else(bif((a2.length:Int) != (a1.length:Int)) then(some false) else((kB K a2).bind fun v5=>bif(!v5) then(some false) else((gC K a2).bind fun v8=>bif v8 then(some false) else((kJ K a0 a1 a2 K 0).bind fun o=>match o with| .ret r=>some r| .go _=>rD K a1 a2))))
theorem aA3 {K:Nat} {a0:List (List Rat)} {a1:List Rat} {a2:List Rat} {r:Bool} (hF:uF K a0 a1 a2=some r):Ct Tryz.prog 31 [.vc (pS (fA cQ) a0),.vc (pS cQ a1),.vc (pS cQ a2)] (.vc (pB r)):=by
 unfold uF at hF
 refine aA Tryz.func31 rfl (by kernel_rfl) Tryz.ntmps31 rfl (fun w0 M0=>?_)
 obtain⟨v1,h2,hF⟩:=bC hF oI
 refine go ?_ ?_
 refine dV hF (fun h3 hF=>?_) (fun h3 hF=>?_)
 ·refine go ?_ ?_
  refine jS rfl ?_
  exact bQ
 refine go ?_ ?_
 refine dV hF (fun h4 hF=>?_) (fun h4 hF=>?_)
 ·refine go ?_ ?_
  refine jS rfl ?_
  exact bQ
 obtain⟨v5,h6,hF⟩:=bC hF sO
 refine go ?_ ?_
 refine dV hF (fun h7 hF=>?_) (fun h7 hF=>?_)
 ·refine go ?_ ?_
  refine jS rfl ?_
  exact bQ
 obtain⟨v8,h9,hF⟩:=bC hF oU
 refine go ?_ ?_
 refine aE hF rfl (fun h10 hF=>?_) (fun h10 hF=>?_)
 ·exact bQ
 refine go ?_ ?_
 refine aJ (aX (fun H E=>rD K a1 a2=some r∧H=[]∧E=[(1,.vc (pS cQ a1)),(2,.vc (pS cQ a2))]) ?_ (fun Jj14=>?_))
 ·rintro _ _ ⟨hF,rfl,rfl⟩
  unfold rD at hF
  obtain⟨v15,h16,hF⟩:=bC hF aCi
  obtain⟨v17,h18,hF⟩:=bC hF d8
  exact bQ
 obtain⟨ol13,hL,hRl13⟩:=aP hF
 refine dQ (fun k a w=>∃(x12:Int),kJ K a0 a1 a2 k x12=some ol13∧hs _ [] [(0,.vc (pS (fA cQ) a0)),(1,.vc (pS cQ a1)),(2,.vc (pS cQ a2)),(31,.vc (pI .i64 (a1.length:Int))),(32,.vc (pI .i64 x12))] a w) K (fun a w ⟨_,hF,_⟩=>by cases hF) (fun k a w ⟨x12,hF,hh⟩=>dP ?_ hh) (fun a w hh=>⟨0,hL,iF [] hh⟩)
 rw [kJ.eq_2] at hF
 refine go ?_ ?_
 refine aE hF rfl (fun h19 hF=>?_) (fun h19 hF=>?_)
 ·refine go ?_ ?_
  refine aJ (go ?_ ?_)
  refine aG (gH (is:=[]) (xs:=[]) (ps:=[]) rfl tyB42q rfl rfl trivial rfl) trivial ?_
  refine aK rfl tyZ42q (fun b20=>?_)
  refine go ?_ ?_
  refine aJ (aX (fun H E=>∃(x25:Rat),rH K x12 (kJ K a0 a1 a2 k) x25=some ol13∧H=[⟨some b20,1,42,4,1,(eQ x25)⟩]∧E=[(0,.vc (pS (fA cQ) a0)),(1,.vc (pS cQ a1)),(2,.vc (pS cQ a2)),(8,.vc (pP (some b20) 0)),(31,.vc (pI .i64 (a1.length:Int))),(32,.vc (pI .i64 x12))]) ?_ (fun Jj27=>?_))
  ·rintro _ _ ⟨x25,hF,rfl,rfl⟩
   unfold rH at hF
   obtain⟨v28,h29,hF⟩:=bC hF d8
   refine go ?_ ?_
   refine aE hF rfl (fun h30 hF=>?_) (fun h30 hF=>?_)
   ·exact bQ
   obtain⟨v31,h32,hF⟩:=aP hF
   refine go ?_ ?_
   exact aF (fun a w hh=>⟨v31,hF,iF [] hh⟩)
  obtain⟨x25',hL,hRl26⟩:=aP hF
  refine dQ (fun k a w=>∃(x23:Rat),∃(x24:Int),nD K a0 a1 a2 x12 k x23 x24=some x25'∧hs _ [⟨some b20,1,42,4,1,(eQ x23)⟩] [(0,.vc (pS (fA cQ) a0)),(1,.vc (pS cQ a1)),(2,.vc (pS cQ a2)),(7,.vc (pI .i64 x12)),(8,.vc (pP (some b20) 0)),(31,.vc (pI .i64 (a1.length:Int))),(32,.vc (pI .i64 x12)),(37,.vc (pI .i64 (a1.length:Int))),(38,.vc (pI .i64 x24))] a w) K (fun a w ⟨_,_,hF,_⟩=>by cases hF) (fun k a w ⟨x23,x24,hF,hh⟩=>dP ?_ hh) (fun a w hh=>⟨0,0,hL,iF [0] hh⟩)
  rw [nD.eq_2] at hF
  refine go ?_ ?_
  refine aE hF rfl (fun h33 hF=>?_) (fun h33 hF=>?_)
  ·refine go ?_ ?_
   refine aJ ?_
   obtain⟨v36,h37,v38,h39,v40,h41,hF⟩:=bn3 hF
   obtain⟨v42,h43,hF⟩:=bC hF vG
   obtain⟨v44,h45,hF⟩:=bC hF aCc
   refine go ?_ ?_
   refine dr [0,0,0,6,14,0,0,96,224,0,992,2016,4094,8191,16383] 14 1 ?_ (fun bs35 G34=>?_)
   obtain⟨v46,h47,hF⟩:=aP hF
   refine go ?_ ?_
   exact aF (fun a w hh=>⟨v44,v46,hF,iF [0] hh⟩)
  refine bH ?_
  obtain rfl:=iD hF
  exact rO Jj27 ⟨x23,hRl26,rfl,rfl⟩ [0]
 refine bH ?_
 obtain rfl:=iD hF
 exact rO Jj14 ⟨hRl13,rfl,rfl⟩ []
def oH (K:Nat):Option Bool:=
 (dJ K [2,1]).bind fun v1=>(dJ K [1,2]).bind fun v3=>(dJ K [(-5),(-6)]).bind fun v5=>(eN K [v1,v3] v5 9).bind fun v7=>(dJ K [(-4),1]).bind fun v10=>(eN K [v1,v3] v10 9).bind fun v12=>(dJ K [0]).bind fun v15=>(dJ K [(-1)]).bind fun v17=>(eN K [v15] v17 9).bind fun v19=>(dJ K [(-5),(-6)]).bind fun v22=>(uP K [v1,v3] v22).bind fun v24=>bif(v7.2 != 0) then(some false) else(bif(v12.2 != 0) then(some false) else(bif(v19.2 != 15) then(some false) else(bif(v24.2 != 6) then(some false) else((dJ K [(-1)]).bind fun v30=>(dJ K [1]).bind fun v32=>(uF K [v15] v30 v32).bind fun v34=>bif(!v34) then(some false) else((qof 4 3).bind fun v37=>(qof 7 3).bind fun v39=>(fW K v7.1.z [v37,v39]).bind fun v43=>bif v43 then((dJ K [2,0]).bind fun v46=>(fW K v12.1.z v46).bind fun v48=>bif v48 then((dJ K [0,3]).bind fun v51=>(fW K v12.1.w v51).bind fun v53=>bif v53 then((dJ K [(-5),(-6)]).bind fun v56=>(mT K [v1,v3] v56 [v37,v39]).bind fun v58=>some v58) else(some false)) else(some false)) else(some false))))))
theorem aBj {K:Nat} {r:Bool} (hF:oH K=some r):Ct Tryz.prog 18 [] (.vc (pB r)):=by
 unfold oH at hF
 refine aA Tryz.func18 rfl (by kernel_rfl) Tryz.ntmps18 rfl (fun w0 M0=>?_)
 refine go ?_ ?_
 refine aG (gG (C:=cI) (xs:=[.const (.int .i64 (2)),.const (.int .i64 (1))]) (ps:=[.vc (pI .i64 2),.vc (pI .i64 1)]) (zs:=[2,1]) rfl tyS22 rfl ⟨⟨trivial,rfl⟩,⟨trivial,rfl⟩,trivial⟩ rfl) ⟨p6 _ _,p6 _ _,trivial⟩ ?_
 obtain⟨v1,h2,hF⟩:=bC hF eF
 refine aG (bJ rfl h2 rfl) zU1 ?_
 refine aG (gG (C:=cI) (xs:=[.const (.int .i64 (1)),.const (.int .i64 (2))]) (ps:=[.vc (pI .i64 1),.vc (pI .i64 2)]) (zs:=[1,2]) rfl tyS22 rfl ⟨⟨trivial,rfl⟩,⟨trivial,rfl⟩,trivial⟩ rfl) ⟨p6 _ _,p6 _ _,trivial⟩ ?_
 obtain⟨v3,h4,hF⟩:=bC hF eF
 refine aG (bJ rfl h4 rfl) zU1 ?_
 refine aG (gG (C:=(fA cQ)) (xs:=[.tmp 13,.tmp 15]) (ps:=[.vc (pS cQ v1),.vc (pS cQ v3)]) (zs:=[v1,v3]) rfl tyS23 rfl ⟨⟨trivial,rfl⟩,⟨trivial,rfl⟩,trivial⟩ rfl) zU2 ?_
 refine go ?_ ?_
 refine aG (gG (C:=cI) (xs:=[.const (.int .i64 (-5)),.const (.int .i64 (-6))]) (ps:=[.vc (pI .i64 (-5)),.vc (pI .i64 (-6))]) (zs:=[(-5),(-6)]) rfl tyS22 rfl ⟨⟨trivial,rfl⟩,⟨trivial,rfl⟩,trivial⟩ rfl) ⟨p6 _ _,p6 _ _,trivial⟩ ?_
 obtain⟨v5,h6,hF⟩:=bC hF eF
 obtain⟨v7,h8,hF⟩:=bC hF l8
 refine go ?_ ?_
 refine aK rfl tyZ30q (fun b9=>?_)
 refine go ?_ ?_
 refine aG (gG (C:=cI) (xs:=[.const (.int .i64 (-4)),.const (.int .i64 (1))]) (ps:=[.vc (pI .i64 (-4)),.vc (pI .i64 1)]) (zs:=[(-4),1]) rfl tyS22 rfl ⟨⟨trivial,rfl⟩,⟨trivial,rfl⟩,trivial⟩ rfl) ⟨p6 _ _,p6 _ _,trivial⟩ ?_
 obtain⟨v10,h11,hF⟩:=bC hF eF
 obtain⟨v12,h13,hF⟩:=bC hF l8
 refine go ?_ ?_
 refine aK rfl tyZ30q (fun b14=>?_)
 refine go ?_ ?_
 refine aG (gG (C:=cI) (xs:=[.const (.int .i64 (0))]) (ps:=[.vc (pI .i64 0)]) (zs:=[0]) rfl tyS22 rfl ⟨⟨trivial,rfl⟩,trivial⟩ rfl) ⟨p6 _ _,trivial⟩ ?_
 obtain⟨v15,h16,hF⟩:=bC hF eF
 refine aG (bJ rfl h16 rfl) zU1 ?_
 refine aG (gG (C:=(fA cQ)) (xs:=[.tmp 32]) (ps:=[.vc (pS cQ v15)]) (zs:=[v15]) rfl tyS23 rfl ⟨⟨trivial,rfl⟩,trivial⟩ rfl) zU1 ?_
 refine go ?_ ?_
 refine aG (gG (C:=cI) (xs:=[.const (.int .i64 (-1))]) (ps:=[.vc (pI .i64 (-1))]) (zs:=[(-1)]) rfl tyS22 rfl ⟨⟨trivial,rfl⟩,trivial⟩ rfl) ⟨p6 _ _,trivial⟩ ?_
 obtain⟨v17,h18,hF⟩:=bC hF eF
 obtain⟨v19,h20,hF⟩:=bC hF l8
 refine go ?_ ?_
 refine aK rfl tyZ30q (fun b21=>?_)
 refine go ?_ ?_
 refine aG (gG (C:=cI) (xs:=[.const (.int .i64 (-5)),.const (.int .i64 (-6))]) (ps:=[.vc (pI .i64 (-5)),.vc (pI .i64 (-6))]) (zs:=[(-5),(-6)]) rfl tyS22 rfl ⟨⟨trivial,rfl⟩,⟨trivial,rfl⟩,trivial⟩ rfl) ⟨p6 _ _,p6 _ _,trivial⟩ ?_
 obtain⟨v22,h23,hF⟩:=bC hF eF
 obtain⟨v24,h25,hF⟩:=bC hF aBp
 refine go ?_ ?_
 refine dV hF (fun h26 hF=>?_) (fun h26 hF=>?_)
 ·refine go ?_ ?_
  refine jS rfl ?_
  exact bQ
 refine go ?_ ?_
 refine dV hF (fun h27 hF=>?_) (fun h27 hF=>?_)
 ·refine go ?_ ?_
  refine jS rfl ?_
  exact bQ
 refine go ?_ ?_
 refine dV hF (fun h28 hF=>?_) (fun h28 hF=>?_)
 ·refine go ?_ ?_
  refine jS rfl ?_
  exact bQ
 refine go ?_ ?_
 refine dV hF (fun h29 hF=>?_) (fun h29 hF=>?_)
 ·refine go ?_ ?_
  refine jS rfl ?_
  exact bQ
 refine uX (aM (.inl rfl)) zU1 ?_
 refine uX (gG (C:=cI) (xs:=[.const (.int .i64 (-1))]) (ps:=[.vc (pI .i64 (-1))]) (zs:=[(-1)]) rfl tyS22 rfl ⟨⟨trivial,rfl⟩,trivial⟩ rfl) ⟨p6 _ _,trivial⟩ ?_
 obtain⟨v30,h31,hF⟩:=bC hF eF
 refine uX (bJ rfl h31 rfl) zU1 ?_
 refine uX (gG (C:=cI) (xs:=[.const (.int .i64 (1))]) (ps:=[.vc (pI .i64 1)]) (zs:=[1]) rfl tyS22 rfl ⟨⟨trivial,rfl⟩,trivial⟩ rfl) ⟨p6 _ _,trivial⟩ ?_
 obtain⟨v32,h33,hF⟩:=bC hF eF
 obtain⟨v34,h35,hF⟩:=bC hF aA3
 refine go ?_ ?_
 refine aE hF rfl (fun h36 hF=>?_) (fun h36 hF=>?_)
 ·exact bQ
 obtain⟨v37,h38,hF⟩:=bC hF dK
 obtain⟨v39,h40,hF⟩:=bC hF dK
 refine go ?_ ?_
 refine aG (gG (C:=cQ) (xs:=[.tmp 71,.tmp 72]) (ps:=[.va (eQ v37),.va (eQ v39)]) (zs:=[v37,v39]) rfl tyS24 rfl ⟨⟨trivial,rfl⟩,⟨trivial,rfl⟩,trivial⟩ rfl) zU2 ?_
 obtain⟨v43,h44,hF⟩:=bC hF l6
 refine go ?_ ?_
 rcases Bool.eq_false_or_eq_true v43 with h45|h45
 ·have hF:=rY h45 hF
  obtain⟨v46,h47,hF⟩:=bC hF eF
  obtain⟨v48,h49,hF⟩:=bC hF l6
  rcases Bool.eq_false_or_eq_true v48 with h50|h50
  ·have hF:=rY h50 hF
   obtain⟨v51,h52,hF⟩:=bC hF eF
   obtain⟨v53,h54,hF⟩:=bC hF l6
   rcases Bool.eq_false_or_eq_true v53 with h55|h55
   ·have hF:=rY h55 hF
    obtain⟨v56,h57,hF⟩:=bC hF eF
    obtain⟨v58,h59,hF⟩:=bC hF yA
    refine iV (0::1::0::7::15::31::63::31::159::511::1023::2047::4095::8191::4095::20479::65535::131071::262143::524287::524287::1572863::524287::8388607::16777215::33554431::[]) 26 0 (.v (.vc (pP (some b9) 0))::.v (.vc (pS cQ v7.1.z))::.v (.vc (pS cQ [v37,v39]))::.v (.vc (pB v43))::.v (.vc (pB true))::.v (.vc (pP (some b14) 0))::.v (.vc (pS cQ v12.1.z))::.v (.vc (pS cI [2,0]))::.v (.vc (pS cQ v46))::.v (.vc (pB v48))::.v (.vc (pB v48))::.v (.vc (pB true))::.v (.vc (pP (some b14) 1))::.v (.vc (pS cQ v12.1.w))::.v (.vc (pS cI [0,3]))::.v (.vc (pS cQ v51))::.v (.vc (pB v53))::.v (.vc (pB v53))::.v (.vc (pB true))::.v (.vc (pS (fA cQ) [v1,v3]))::.v (.vc (pS cI [(-5),(-6)]))::.v (.vc (pS cQ v56))::.v (.vc (pS cQ [v37,v39]))::.v (.vc (pB v58))::.v (.vc (pB v58))::.v (.vc (pB v58))::[]) aY ⟨d0 (f7 (off:=0) (k:=0) rfl tyF30_0) zU1,d0 (fF 2 1 rfl rfl rfl rfl (.one tyO24)) zU1,d0 (aM (.inl rfl)) zU1,d0 (bJ rfl h44 rfl) zU2,d0 (mE (aM (.inl rfl)) h45) zU1,g0 (f7 (off:=0) (k:=0) rfl tyF30_0) zU1,g0 (fF 1 1 rfl rfl rfl rfl (.one tyO24)) zU1,g0 (gG (C:=cI) (xs:=[.const (.int .i64 (2)),.const (.int .i64 (0))]) (ps:=[.vc (pI .i64 2),.vc (pI .i64 0)]) (zs:=[2,0]) rfl tyS22 rfl ⟨⟨trivial,rfl⟩,⟨trivial,rfl⟩,trivial⟩ rfl) ⟨p6 _ _,p6 _ _,trivial⟩,g0 (bJ rfl h47 rfl) zU1,g0 (bJ rfl h49 rfl) zU2,d0 (wE rfl) zU2,d0 (mE (aM (.inl rfl)) h50) zU1,g0 (f7 (off:=0) (k:=1) rfl tyF30_1) zU1,g0 (fF 1 1 rfl rfl rfl rfl (.one tyO24)) zU1,g0 (gG (C:=cI) (xs:=[.const (.int .i64 (0)),.const (.int .i64 (3))]) (ps:=[.vc (pI .i64 0),.vc (pI .i64 3)]) (zs:=[0,3]) rfl tyS22 rfl ⟨⟨trivial,rfl⟩,⟨trivial,rfl⟩,trivial⟩ rfl) ⟨p6 _ _,p6 _ _,trivial⟩,g0 (bJ rfl h52 rfl) zU1,g0 (bJ rfl h54 rfl) zU2,d0 (wE rfl) zU2,d0 (mE (aM (.inl rfl)) h55) zU1,g0 (aM (.inl rfl)) zU1,g0 (gG (C:=cI) (xs:=[.const (.int .i64 (-5)),.const (.int .i64 (-6))]) (ps:=[.vc (pI .i64 (-5)),.vc (pI .i64 (-6))]) (zs:=[(-5),(-6)]) rfl tyS22 rfl ⟨⟨trivial,rfl⟩,⟨trivial,rfl⟩,trivial⟩ rfl) ⟨p6 _ _,p6 _ _,trivial⟩,g0 (bJ rfl h57 rfl) zU1,g0 (aM (.inl rfl)) zU1,g0 (bJ rfl h59 rfl) ⟨rfl,rfl,rfl,trivial⟩,d0 (wE rfl) zU2,d0 (aM (.inr rfl)) zU1,trivial⟩ (fun bs42 G41=>?_)
    refine aU (aH ?_)
    exact bQ
   have hF:=p8 h55 hF
   refine iV (0::1::0::7::15::31::63::31::159::511::1023::2047::4095::8191::4095::20479::65535::131071::262143::524287::524287::1572863::524287::8388607::16777215::33554431::[]) 26 0 (.v (.vc (pP (some b9) 0))::.v (.vc (pS cQ v7.1.z))::.v (.vc (pS cQ [v37,v39]))::.v (.vc (pB v43))::.v (.vc (pB true))::.v (.vc (pP (some b14) 0))::.v (.vc (pS cQ v12.1.z))::.v (.vc (pS cI [2,0]))::.v (.vc (pS cQ v46))::.v (.vc (pB v48))::.v (.vc (pB v48))::.v (.vc (pB true))::.v (.vc (pP (some b14) 1))::.v (.vc (pS cQ v12.1.w))::.v (.vc (pS cI [0,3]))::.v (.vc (pS cQ v51))::.v (.vc (pB v53))::.v (.vc (pB v53))::.v (.vc (pB false))::.v .un::.v .un::.v .un::.v .un::.v .un::.v (.vc (pB false))::.v (.vc (pB false))::[]) aY ⟨d0 (f7 (off:=0) (k:=0) rfl tyF30_0) zU1,d0 (fF 2 1 rfl rfl rfl rfl (.one tyO24)) zU1,d0 (aM (.inl rfl)) zU1,d0 (bJ rfl h44 rfl) zU2,d0 (mE (aM (.inl rfl)) h45) zU1,g0 (f7 (off:=0) (k:=0) rfl tyF30_0) zU1,g0 (fF 1 1 rfl rfl rfl rfl (.one tyO24)) zU1,g0 (gG (C:=cI) (xs:=[.const (.int .i64 (2)),.const (.int .i64 (0))]) (ps:=[.vc (pI .i64 2),.vc (pI .i64 0)]) (zs:=[2,0]) rfl tyS22 rfl ⟨⟨trivial,rfl⟩,⟨trivial,rfl⟩,trivial⟩ rfl) ⟨p6 _ _,p6 _ _,trivial⟩,g0 (bJ rfl h47 rfl) zU1,g0 (bJ rfl h49 rfl) zU2,d0 (wE rfl) zU2,d0 (mE (aM (.inl rfl)) h50) zU1,g0 (f7 (off:=0) (k:=1) rfl tyF30_1) zU1,g0 (fF 1 1 rfl rfl rfl rfl (.one tyO24)) zU1,g0 (gG (C:=cI) (xs:=[.const (.int .i64 (0)),.const (.int .i64 (3))]) (ps:=[.vc (pI .i64 0),.vc (pI .i64 3)]) (zs:=[0,3]) rfl tyS22 rfl ⟨⟨trivial,rfl⟩,⟨trivial,rfl⟩,trivial⟩ rfl) ⟨p6 _ _,p6 _ _,trivial⟩,g0 (bJ rfl h52 rfl) zU1,g0 (bJ rfl h54 rfl) zU2,d0 (wE rfl) zU2,d0 (mE (aM (.inl rfl)) h55) zU1,⟨rfl,.skipN⟩,⟨rfl,.skipN⟩,⟨rfl,.skipN⟩,⟨rfl,.skipN⟩,⟨rfl,.skipN⟩,d0 (aAQ rfl) ⟨rfl,k_B _,trivial⟩,d0 (aM (.inr rfl)) zU1,trivial⟩ (fun bs42 G41=>?_)
   refine aU (aH ?_)
   exact bQ
  have hF:=p8 h50 hF
  refine iV (0::1::0::7::15::31::63::31::159::511::1023::2047::4095::8191::4095::20479::65535::131071::262143::524287::524287::1572863::524287::8388607::16777215::33554431::[]) 26 0 (.v (.vc (pP (some b9) 0))::.v (.vc (pS cQ v7.1.z))::.v (.vc (pS cQ [v37,v39]))::.v (.vc (pB v43))::.v (.vc (pB true))::.v (.vc (pP (some b14) 0))::.v (.vc (pS cQ v12.1.z))::.v (.vc (pS cI [2,0]))::.v (.vc (pS cQ v46))::.v (.vc (pB v48))::.v (.vc (pB v48))::.v (.vc (pB false))::.v .un::.v .un::.v .un::.v .un::.v .un::.v (.vc (pB false))::.v (.vc (pB false))::.v .un::.v .un::.v .un::.v .un::.v .un::.v (.vc (pB false))::.v (.vc (pB false))::[]) aY ⟨d0 (f7 (off:=0) (k:=0) rfl tyF30_0) zU1,d0 (fF 2 1 rfl rfl rfl rfl (.one tyO24)) zU1,d0 (aM (.inl rfl)) zU1,d0 (bJ rfl h44 rfl) zU2,d0 (mE (aM (.inl rfl)) h45) zU1,g0 (f7 (off:=0) (k:=0) rfl tyF30_0) zU1,g0 (fF 1 1 rfl rfl rfl rfl (.one tyO24)) zU1,g0 (gG (C:=cI) (xs:=[.const (.int .i64 (2)),.const (.int .i64 (0))]) (ps:=[.vc (pI .i64 2),.vc (pI .i64 0)]) (zs:=[2,0]) rfl tyS22 rfl ⟨⟨trivial,rfl⟩,⟨trivial,rfl⟩,trivial⟩ rfl) ⟨p6 _ _,p6 _ _,trivial⟩,g0 (bJ rfl h47 rfl) zU1,g0 (bJ rfl h49 rfl) zU2,d0 (wE rfl) zU2,d0 (mE (aM (.inl rfl)) h50) zU1,⟨rfl,.skipN⟩,⟨rfl,.skipN⟩,⟨rfl,.skipN⟩,⟨rfl,.skipN⟩,⟨rfl,.skipN⟩,d0 (aAQ rfl) ⟨rfl,k_B _,trivial⟩,d0 (aM (.inl rfl)) zU1,⟨rfl,.skipN⟩,⟨rfl,.skipN⟩,⟨rfl,.skipN⟩,⟨rfl,.skipN⟩,⟨rfl,.skipN⟩,d0 (aAQ rfl) ⟨rfl,k_B _,trivial⟩,d0 (aM (.inr rfl)) zU1,trivial⟩ (fun bs42 G41=>?_)
  refine aU (aH ?_)
  exact bQ
 have hF:=p8 h45 hF
 refine drb (0::1::0::7::15::31::63::31::159::511::1023::2047::4095::8191::4095::20479::65535::131071::262143::524287::524287::1572863::524287::8388607::16777215::33554431::[]) 26 0 ?_ (fun bs42 G41=>?_)
 refine aU (aH ?_)
 exact bQ
def rI (a0:List (List Rat)):Option Int:=
 bif((a0.length:Int)==0) then(some 0) else((bK a0 0).bind fun v2=>some (v2.length:Int))
theorem yR {a0:List (List Rat)} {r:Int} (hF:rI a0=some r):Ct Tryz.prog 82 [.vc (pS (fA cQ) a0)] (.vc (pI .i64 r)):=by
 unfold rI at hF
 refine aA Tryz.func82 rfl (by kernel_rfl) Tryz.ntmps82 rfl (fun w0 M0=>?_)
 refine go ?_ ?_
 refine aE hF rfl (fun h1 hF=>?_) (fun h1 hF=>?_)
 ·exact bQ
 obtain⟨v2,h3,hF⟩:=aP hF
 exact bQ
def jA (K:Nat):Option Int:=
 some (-1)
def bW (K:Nat) (a0:List (List Rat)) (a1:((List Rat)→Option Bool)):Nat→Int→Option (LR Int Unit)
 |0,_=>none
 |k+1,x2=>bif(decide (x2<(a0.length:Int))) then((bK a0 x2).bind fun v6=>(a1 v6).bind fun v8=>bif v8 then(some (.ret x2)) else((aQ (x2+1)).bind fun v11=>bW K a0 a1 k v11)) else(some (.go ()))
def eZ (K:Nat) (a0:List (List Rat)) (a1:((List Rat)→Option Bool)):Option Int:=
 (bW K a0 a1 K 0).bind fun o=>match o with| .ret r=>some r| .go _=>jA K
theorem uS {K:Nat} {a0:List (List Rat)} {a1:((List Rat)→Option Bool)} {r:Int} (hF:eZ K a0 a1=some r):Ct Tryz.prog 160 [.vc (pS (fA cQ) a0),.vc (pFn Tryz.prog (fun x:(List Rat)=>[.vc (pS cQ x)]) (fun r:Bool=>.vc (pB r)) a1)] (.vc (pI .i64 r)):=by
 unfold eZ at hF
 refine aA Tryz.func160 rfl (by kernel_rfl) Tryz.ntmps160 rfl (fun w0 M0=>?_)
 refine go ?_ ?_
 refine aJ (aX (fun H E=>jA K=some r∧H=[]∧E=[]) ?_ (fun Jj4=>?_))
 ·rintro _ _ ⟨hF,rfl,rfl⟩
  unfold jA at hF
  exact bQ
 obtain⟨ol3,hL,hRl3⟩:=aP hF
 refine dQ (fun k a w=>∃(x2:Int),bW K a0 a1 k x2=some ol3∧hs _ [] [(0,.vc (pS (fA cQ) a0)),(1,.vc (pFn Tryz.prog (fun x:(List Rat)=>[.vc (pS cQ x)]) (fun r:Bool=>.vc (pB r)) a1)),(7,.vc (pI .i64 (a0.length:Int))),(8,.vc (pI .i64 x2))] a w) K (fun a w ⟨_,hF,_⟩=>by cases hF) (fun k a w ⟨x2,hF,hh⟩=>dP ?_ hh) (fun a w hh=>⟨0,hL,iF [] hh⟩)
 rw [bW.eq_2] at hF
 refine go ?_ ?_
 refine aE hF rfl (fun h5 hF=>?_) (fun h5 hF=>?_)
 ·refine go ?_ ?_
  refine aJ ?_
  obtain⟨v6,h7,v8,h9,hF⟩:=tY hF
  refine go ?_ ?_
  refine aG (aCF (pre:=fun x:(List Rat)=>[.vc (pS cQ x)]) (post:=fun r:Bool=>.vc (pB r)) (x:=v6) (r:=v8) rfl h9 rfl) zU2 ?_
  refine aU (aH (aE hF rfl (fun h10 hF=>?_) (fun h10 hF=>?_)))
  ·exact bQ
  obtain⟨v11,h12,hF⟩:=aP hF
  refine go ?_ ?_
  exact aF (fun a w hh=>⟨v11,hF,iF [] hh⟩)
 refine bH ?_
 obtain rfl:=iD hF
 exact rO Jj4 ⟨hRl3,rfl,rfl⟩ []
def lV (K:Nat) (a0:List (List Rat)) (a1:((List Rat)→Option Bool)):Option Bool:=
 (eZ K a0 a1).bind fun v1=>some (decide (0≤v1))
theorem yI {K:Nat} {a0:List (List Rat)} {a1:((List Rat)→Option Bool)} {r:Bool} (hF:lV K a0 a1=some r):Ct Tryz.prog 129 [.vc (pS (fA cQ) a0),.vc (pFn Tryz.prog (fun x:(List Rat)=>[.vc (pS cQ x)]) (fun r:Bool=>.vc (pB r)) a1)] (.vc (pB r)):=by
 unfold lV at hF
 refine aA Tryz.func129 rfl (by kernel_rfl) Tryz.ntmps129 rfl (fun w0 M0=>?_)
 obtain⟨v1,h2,hF⟩:=bC hF uS
 exact bQ
def oY (c0:List (List Rat)) (a0:List Rat):Option Bool:=
 (bK c0 0).bind fun v1=>some ((a0.length:Int) != (v1.length:Int))
theorem aDc {c0:List (List Rat)} {a0:List Rat} {r:Bool} (hF:oY c0 a0=some r):Ct Tryz.prog 130 [.vc (pS cQ a0),.vc (pM ((fA (fA cQ)).e c0))] (.vc (pB r)):=by
 unfold oY at hF
 refine aA Tryz.func130 rfl (by kernel_rfl) Tryz.ntmps130 rfl (fun w0 M0=>?_)
 obtain⟨v1,h2,hF⟩:=aP hF
 exact bQ
def sB (K:Nat) (a0:List (List Rat)):Option Bool:=
 bif(decide ((a0.length:Int)≤64)) then((rI a0).bind fun v3=>bif(decide (v3≤64)) then((lV K a0 (oY a0)).bind fun v6=>some (!v6)) else(some false)) else(some false)
theorem aAV {K:Nat} {a0:List (List Rat)} {r:Bool} (hF:sB K a0=some r):Ct Tryz.prog 80 [.vc (pS (fA cQ) a0)] (.vc (pB r)):=by
 unfold sB at hF
 refine aA Tryz.func80 rfl (by kernel_rfl) Tryz.ntmps80 rfl (fun w0 M0=>?_)
 refine aD (aI (cP rfl rfl trivial (fun b1=>?_)))
 refine go ?_ ?_
 refine dV hF (fun h2 hF=>?_) (fun h2 hF=>?_)
 ·obtain⟨v3,h4,hF⟩:=bC hF yR
  refine go ?_ ?_
  refine dV hF (fun h5 hF=>?_) (fun h5 hF=>?_)
  ·refine uX (fF 0 1 rfl rfl rfl rfl (.one tyO23)) zU1 ?_
   refine aEQ 0 [(1,0)] rfl zU1 rfl ?_
   refine uX (aIq (φ:=(oY a0)) (pre:=fun x:(List Rat)=>[.vc (pS cQ x)]) (post:=fun r:Bool=>.vc (pB r)) (xs:=[.tmp 1]) (cs:=[pM ((fA (fA cQ)).e a0)]) rfl rfl (fun x r h=>aDc h)) zU1 ?_
   obtain⟨v6,h7,hF⟩:=bC hF yI
   exact bQ
  exact bQ
 exact bQ
def pV (K:Nat) (c0:((List Nat×List (List Rat))×List Int×Rat)) (x54:List Nat) (x60:List (List Rat)):Option ((List Nat×List (List Rat))×List Int×Rat):=
 some ((x54,x60),c0.2.1,c0.2.2)
def gA (K:Nat) (a0:Int) (a1:Int) (v22:Rat):Nat→(List Nat)→(List (List Rat))→Int→Option ((List Nat)×(List (List Rat)))
 |0,_,_,_=>none
 |k+1,x41,x47,x53=>(bK x41 a0).bind fun v68=>bif(decide (x53<((x47.getD v68 []).length:Int))) then((bK x41 a1).bind fun v71=>(bK (x47.getD v71 []) x53).bind fun v73=>(xP v73).bind fun v75=>bif(v75 != 0) then((bK x41 a0).bind fun v80=>(bK x41 a0).bind fun v82=>(bK (x47.getD v82 []) x53).bind fun v84=>(bK x41 a1).bind fun v86=>(bK (x47.getD v86 []) x53).bind fun v88=>(aC1 v22 v88).bind fun v90=>(aFv v84 v90).bind fun v92=>(bK (x47.getD v80 []) x53).bind fun v94=>(pN (x47.getD v80 []) x53 v92).bind fun x96=>(aQ (x53+1)).bind fun v99=>gA K a0 a1 v22 k x41 (x47.set v80 x96) v99) else((aQ (x53+1)).bind fun v101=>gA K a0 a1 v22 k x41 x47 v101)) else(some (x41,x47))
def n0 (K:Nat) (c0:((List Nat×List (List Rat))×List Int×Rat)) (a0:Int) (a1:Int) (a2:Int):Option ((List Nat×List (List Rat))×List Int×Rat):=
 (bK c0.1.1 a0).bind fun v20=>(bK (c0.1.2.getD v20 []) a2).bind fun v22=>(xP v22).bind fun v25=>bif(v25==0) then(some ((c0.1.1,c0.1.2),c0.2.1,c0.2.2)) else((gA K a0 a1 v22 K c0.1.1 c0.1.2 a2).bind fun(x54,x60)=>pV K c0 x54 x60)
theorem aB1 {K:Nat} {c0:((List Nat×List (List Rat))×List Int×Rat)} {a0:Int} {a1:Int} {a2:Int} {r:((List Nat×List (List Rat))×List Int×Rat)} (hF:n0 K c0 a0 a1 a2=some r) {p0:Nat} {b5:Option Nat} {c6 n4:Nat} {g3:List p7} {N9:Nat} (q7:c0.1.1.length=n4) (q10:c0.1.2.length=N9) (q11:cL g3 c0.1.2) (q12:(∀k∈c0.1.1,k<N9)) {b16:Option Nat} {c17 n15:Nat} (q18:c0.2.1.length=n15):CtO Tryz.prog 166 ([⟨some p0,1,139,6,1,([pO b5 n4 c6]++[pO b16 n15 c17]++(eQ c0.2.2))⟩,hO (cH g3) b5 c6 24 n4 c0.1.1,hO cI b16 c17 3 n15 c0.2.1]++eA cQ 42 g3 c0.1.2) [.vc (pI .i64 a0),.vc (pI .i64 a1),.vc (pI .i64 a2),.vc (pP (some p0) 0)] (fun Ho q=>∃b107 c108 n106 g105 N111,∃b118 c119 n117,r.1.1.length=n106∧r.1.2.length=N111∧cL g105 r.1.2∧(∀k∈r.1.1,k<N111)∧r.2.1.length=n117∧Ho=([⟨some p0,1,139,6,1,([pO b107 n106 c108]++[pO b118 n117 c119]++(eQ r.2.2))⟩,hO (cH g105) b107 c108 24 n106 r.1.1,hO cI b118 c119 3 n117 r.2.1]++eA cQ 42 g105 r.1.2)∧q=.any):=by
 unfold n0 at hF
 refine aA Tryz.func166 rfl (by kernel_rfl) Tryz.ntmps166 rfl (fun w0 M0=>?_)
 obtain⟨v20,h21,v22,h23,hF⟩:=tY hF
 refine go ?_ ?_
 refine aG (d7 (3+v20) rfl tyS24 (rN 3 rfl q11 q10 (q12 _ (aN h21))) (cY q11 q10 (q12 _ (aN h21))) (aC h23).1 (aC h23).2.1) zU2 ?_
 refine aG (iC (k:=4) (3+v20) rfl (rN 3 rfl q11 q10 (q12 _ (aN h21))) h23 rfl (.agg tyA42) rfl) zU1 ?_
 refine aK rfl tyZ42q (fun b24=>?_)
 obtain⟨v25,h26,hF⟩:=bC hF d8
 refine go ?_ ?_
 refine aE hF rfl (fun h27 hF=>?_) (fun h27 hF=>?_)
 ·refine fY (fZ ?_)
  obtain rfl:=iD hF
  exact iT (.inl rfl) Tryz.results166 .nil rfl 4 [1,2,3] rfl rfl (by decide) ⟨b5,c6,n4,g3,N9,b16,c17,n15,q7,q10,q11,q12,q18,rfl,rfl⟩
 refine go ?_ ?_
 refine aJ (aX (fun H E=>∃(x54:List Nat),∃(x60:List (List Rat)),∃(b55:Option Nat),∃(c56:Nat),∃(n57:Nat),∃(g61:List p7),∃(N62:Nat),pV K c0 x54 x60=some r∧x54.length=n57∧x60.length=N62∧cL g61 x60∧(∀k∈x54,k<N62)∧H=([⟨some p0,1,139,6,1,([pO b55 n57 c56]++[pO b16 n15 c17]++(eQ c0.2.2))⟩,hO (cH g61) b55 c56 24 n57 x54,hO cI b16 c17 3 n15 c0.2.1]++eA cQ 42 g61 x60)∧E=[(3,.vc (pP (some p0) 0))]) ?_ (fun Jj67=>?_))
 ·rintro _ _ ⟨x54,x60,b55,c56,n57,g61,N62,hF,q58,q63,q64,q65,rfl,rfl⟩
  unfold pV at hF
  obtain rfl:=iD hF
  exact iT (.inr rfl) Tryz.results166 .nil rfl 3 [0,1,2] rfl rfl (by decide) ⟨b55,c56,n57,g61,N62,b16,c17,n15,q58,q63,q64,q65,q18,rfl,rfl⟩
 obtain⟨⟨x54',x60'⟩,hL,hRl66⟩:=aP hF
 refine dQ (fun k a w=>∃(x41:List Nat),∃(x47:List (List Rat)),∃(x53:Int),∃(b42:Option Nat),∃(c43:Nat),∃(n44:Nat),∃(g48:List p7),∃(N49:Nat),gA K a0 a1 v22 k x41 x47 x53=some (x54',x60')∧x41.length=n44∧x47.length=N49∧cL g48 x47∧(∀k∈x41,k<N49)∧hs _ ([⟨some b24,1,42,4,1,(eQ v22)⟩,⟨some p0,1,139,6,1,([pO b42 n44 c43]++[pO b16 n15 c17]++(eQ c0.2.2))⟩,hO (cH g48) b42 c43 24 n44 x41,hO cI b16 c17 3 n15 c0.2.1]++eA cQ 42 g48 x47) [(0,.vc (pI .i64 a0)),(1,.vc (pI .i64 a1)),(3,.vc (pP (some p0) 0)),(7,.vc (pP (some b24) 0)),(8,.vc (pI .i64 x53))] a w) K (fun a w ⟨_,_,_,_,_,_,_,_,hF,_,_,_,_,_⟩=>by cases hF) (fun k a w ⟨x41,x47,x53,b42,c43,n44,g48,N49,hF,q45,q50,q51,q52,hh⟩=>dP ?_ hh) (fun a w hh=>⟨c0.1.1,c0.1.2,a2,b5,c6,n4,g3,N9,hL,q7,q10,q11,q12,aR 4 [0,1,2,3] rfl rfl (by decide) (by exact⟨rfl,rfl,rfl,rfl,rfl,trivial⟩) hh⟩)
 rw [gA.eq_2] at hF
 obtain⟨v68,h69,hF⟩:=aP hF
 refine go ?_ ?_
 refine aG (aBx (C:=cQ) (xs:=(x47.getD v68 [])) (T:=42) rfl tyS24 (cY q51 q50 (q52 _ (aN h69)))) zU1 ?_
 refine go ?_ ?_
 refine aE hF rfl (fun h70 hF=>?_) (fun h70 hF=>?_)
 ·refine go ?_ ?_
  refine aJ ?_
  obtain⟨v71,h72,v73,h74,hF⟩:=tY hF
  refine go ?_ ?_
  refine aG (d7 (4+v71) rfl tyS24 (rN 4 rfl q51 q50 (q52 _ (aN h72))) (cY q51 q50 (q52 _ (aN h72))) (aC h74).1 (aC h74).2.1) zU2 ?_
  refine aG (iC (k:=4) (4+v71) rfl (rN 4 rfl q51 q50 (q52 _ (aN h72))) h74 rfl (.agg tyA42) rfl) zU1 ?_
  obtain⟨v75,h76,hF⟩:=bC hF d8
  refine go ?_ ?_
  refine aE hF rfl (fun h77 hF=>?_) (fun h77 hF=>?_)
  ·have hF:=tX h69 hF
   have hF:=tX h69 hF
   obtain⟨v84,h85,hF⟩:=aP hF
   have hF:=tX h72 hF
   have hF:=tX h74 hF
   obtain⟨v90,h91,hF⟩:=bC hF vG
   obtain⟨v92,h93,hF⟩:=bC hF xA
   have hF:=tX h85 hF
   refine iV (0::1::0::7::15::0::0::64::0::448::960::0::4032::8128::0::0::32768::0::229376::491520::0::2064384::4161536::8372224::16777152::33554431::67108863::[]) 26 1 (.v (.vc (pP (some p0) 0))::.v (.vc (pO b42 n44 c43))::.v (.vc (pI .i64 a0))::.v (.vc (pE b42 a0 (cH g48).n 0))::.v (.vc (pO (fL g48 v68).1 (fL g48 v68).2.1 (fL g48 v68).2.2))::.v (.vc (pI .i64 x53))::.v (.vc (pP (some p0) 0))::.v (.vc (pO b42 n44 c43))::.v (.vc (pI .i64 a0))::.v (.vc (pE b42 a0 (cH g48).n 0))::.v (.vc (pO (fL g48 v68).1 (fL g48 v68).2.1 (fL g48 v68).2.2))::.v (.vc (pI .i64 x53))::.v (.vc (pE (fL g48 v68).1 x53 cQ.n 0))::.v (.va (eQ v84))::.v (.va (eQ v22))::.v (.vc (pP (some p0) 0))::.v (.vc (pO b42 n44 c43))::.v (.vc (pI .i64 a1))::.v (.vc (pE b42 a1 (cH g48).n 0))::.v (.vc (pO (fL g48 v71).1 (fL g48 v71).2.1 (fL g48 v71).2.2))::.v (.vc (pI .i64 x53))::.v (.vc (pE (fL g48 v71).1 x53 cQ.n 0))::.v (.va (eQ v73))::.v (.va (eQ v90))::.v (.va (eQ v92))::.v (.vc (pE (fL g48 v68).1 x53 cQ.n 0))::[]) aY ⟨d0 (f7 (off:=0) (k:=0) rfl tyF139_0) zU1,d0 (fF 1 1 rfl rfl rfl rfl (.one tyO23)) zU1,d0 (aM (.inl rfl)) zU1,d0 (d7 (C:=(cH g48)) 2 rfl tyS23 rfl q45 (aC h69).1 (aC h69).2.1) zU2,d0 (iC (C:=(cH g48)) (k:=1) 2 rfl rfl h69 rfl (.one tyO24) rfl) zU1,d0 (aM (.inl rfl)) zU1,d0 (f7 (off:=0) (k:=0) rfl tyF139_0) zU1,d0 (fF 1 1 rfl rfl rfl rfl (.one tyO23)) zU1,d0 (aM (.inl rfl)) zU1,d0 (d7 (C:=(cH g48)) 2 rfl tyS23 rfl q45 (aC h69).1 (aC h69).2.1) zU2,d0 (iC (C:=(cH g48)) (k:=1) 2 rfl rfl h69 rfl (.one tyO24) rfl) zU1,d0 (aM (.inl rfl)) zU1,d0 (d7 (4+v68) rfl tyS24 (gL 4 rfl q51 q50 (q52 _ (aN h69))) (cY q51 q50 (q52 _ (aN h69))) (aC h85).1 (aC h85).2.1) zU2,d0 (iC (k:=4) (4+v68) rfl (gL 4 rfl q51 q50 (q52 _ (aN h69))) h85 rfl (.agg tyA42) rfl) zU1,d0 (fF 0 4 rfl rfl rfl rfl (.agg tyA42)) zU1,d0 (f7 (off:=0) (k:=0) rfl tyF139_0) zU1,d0 (fF 1 1 rfl rfl rfl rfl (.one tyO23)) zU1,d0 (aM (.inl rfl)) zU1,d0 (d7 (C:=(cH g48)) 2 rfl tyS23 rfl q45 (aC h72).1 (aC h72).2.1) zU2,d0 (iC (C:=(cH g48)) (k:=1) 2 rfl rfl h72 rfl (.one tyO24) rfl) zU1,d0 (aM (.inl rfl)) zU1,d0 (d7 (4+v71) rfl tyS24 (gL 4 rfl q51 q50 (q52 _ (aN h72))) (cY q51 q50 (q52 _ (aN h72))) (aC h74).1 (aC h74).2.1) zU2,d0 (iC (k:=4) (4+v71) rfl (gL 4 rfl q51 q50 (q52 _ (aN h72))) h74 rfl (.agg tyA42) rfl) zU1,d0 (bJ rfl h91 rfl) zU2,d0 (bJ rfl h93 rfl) zU2,d0 (d7 (4+v68) rfl tyS24 (gL 4 rfl q51 q50 (q52 _ (aN h69))) (cY q51 q50 (q52 _ (aN h69))) (aC h85).1 (aC h85).2.1) zU2,trivial⟩ (fun bs79 G78=>?_)
   obtain⟨x96,h97,hF⟩:=aP hF
   refine kY (xM (H':=([⟨some b24,1,42,4,1,(eQ v22)⟩,⟨some p0,1,139,6,1,([pO b42 n44 c43]++[pO b16 n15 c17]++(eQ c0.2.2))⟩,hO (cH g48) b42 c43 24 n44 x41,hO cI b16 c17 3 n15 c0.2.1]++eA cQ 42 g48 (x47.set v68 x96))) (4+v68) rfl (rN 4 rfl q51 q50 (q52 _ (aN h69))) h85 h97 tyA42.s (hH:=stN 4 rfl q51 q50 (q52 _ (aN h69)))) zU2 ?_
   obtain⟨v99,h100,hF⟩:=aP hF
   refine go ?_ ?_
   exact aF (fun a w hh=>⟨x41,(x47.set v68 x96),v99,b42,c43,n44,g48,N49,hF,q45,(aDf q50),(aEu q51 q50 (q52 _ (aN h69)) (bG h97 rfl)),q52,aR 4 [0,1,2,3] rfl rfl (by decide) (by exact⟨rfl,rfl,rfl,rfl,rfl,trivial⟩) hh⟩)
  obtain⟨v101,h102,hF⟩:=aP hF
  refine go ?_ ?_
  exact aF (fun a w hh=>⟨x41,x47,v101,b42,c43,n44,g48,N49,hF,q45,q50,q51,q52,aR 4 [0,1,2,3] rfl rfl (by decide) (by exact⟨rfl,rfl,rfl,rfl,rfl,trivial⟩) hh⟩)
 refine bH ?_
 obtain⟨rfl,rfl⟩:=sm2 hF
 exact eG Jj67 ⟨x41,x47,b42,c43,n44,g48,N49,hRl66,q45,q50,q51,q52,rfl,rfl⟩ 4 [1,2,3] rfl rfl zU1
def jX (c0:Int) (a0:List Rat):Option Bool:=
 (bK a0 c0).bind fun v1=>(xP v1).bind fun v3=>some (v3 != 0)
theorem aCm {c0:Int} {a0:List Rat} {r:Bool} (hF:jX c0 a0=some r):Ct Tryz.prog 167 [.vc (pS cQ a0),.vc (pM (cI.e c0))] (.vc (pB r)):=by
 unfold jX at hF
 refine aA Tryz.func167 rfl (by kernel_rfl) Tryz.ntmps167 rfl (fun w0 M0=>?_)
 obtain⟨v1,h2,hF⟩:=aP hF
 obtain⟨v3,h4,hF⟩:=bC hF d8
 exact bQ
def qL (K:Nat) (x104:List Int) (x110:List Nat) (x116:List (List Rat)) (x122:Rat):Option iK:=
 some (⟨(aBq x116 x110),x104,x122⟩:iK)
def qJ (K:Nat) (x103:Int) (recl123:(List Int)→(List Nat)→(List (List Rat))→Rat→Int→Option ((List Int)×(List Nat)×(List (List Rat))×Rat)) (x238:List Int) (x244:List Nat) (x250:List (List Rat)) (x256:Rat):Option ((List Int)×(List Nat)×(List (List Rat))×Rat):=
 (rM x238 [x103]).bind fun x259=>(aQ (x103+1)).bind fun v266=>recl123 x259 x244 x250 x256 v266
def fK (K:Nat) (x84:List Int) (x103:Int) (x184:List Nat):Nat→(List Int)→(List Nat)→(List (List Rat))→Rat→Int→Option ((List Int)×(List Nat)×(List (List Rat))×Rat)
 |0,_,_,_,_,_=>none
 |k+1,x218,x224,x230,x236,x237=>bif(decide (x237<(x184.length:Int))) then(bif(x237 != (x84.length:Int)) then((n0 K ((x224,x230),x218,x236) x237 (x84.length:Int) x103).bind fun v270=>(aQ (x237+1)).bind fun v291=>fK K x84 x103 x184 k v270.2.1 v270.1.1 v270.1.2 v270.2.2 v291) else((aQ (x237+1)).bind fun v293=>fK K x84 x103 x184 k x218 x224 x230 x236 v293)) else(some (x218,x224,x230,x236))
def qY (K:Nat) (x84:List Int) (x103:Int) (v156:Rat) (recl123:(List Int)→(List Nat)→(List (List Rat))→Rat→Int→Option ((List Int)×(List Nat)×(List (List Rat))×Rat)) (x184:List Nat) (x190:List (List Rat)):Option ((List Int)×(List Nat)×(List (List Rat))×Rat):=
 (fK K x84 x103 x184 K x84 x184 x190 v156 0).bind fun(x238,x244,x250,x256)=>qJ K x103 recl123 x238 x244 x250 x256
def jC (K:Nat) (x84:List Int) (v154:Rat):Nat→(List Nat)→(List (List Rat))→Int→Option ((List Nat)×(List (List Rat)))
 |0,_,_,_=>none
 |k+1,x171,x177,x183=>(bK x171 (x84.length:Int)).bind fun v295=>bif(decide (x183<((x177.getD v295 []).length:Int))) then((bK x171 (x84.length:Int)).bind fun v300=>(bK x171 (x84.length:Int)).bind fun v302=>(bK (x177.getD v302 []) x183).bind fun v304=>(aD0 v304 v154).bind fun v306=>(bK (x177.getD v300 []) x183).bind fun v308=>(pN (x177.getD v300 []) x183 v306).bind fun x310=>(aQ (x183+1)).bind fun v313=>jC K x84 v154 k x171 (x177.set v300 x310) v313) else(some (x171,x177))
def lA (K:Nat) (x84:List Int) (x103:Int) (recl123:(List Int)→(List Nat)→(List (List Rat))→Rat→Int→Option ((List Int)×(List Nat)×(List (List Rat))×Rat)) (x136:List Nat) (x142:List (List Rat)) (x148:Rat):Option ((List Int)×(List Nat)×(List (List Rat))×Rat):=
 (bK x136 (x84.length:Int)).bind fun v152=>(bK (x142.getD v152 []) x103).bind fun v154=>(aC1 x148 v154).bind fun v156=>(jC K x84 v154 K x136 x142 x103).bind fun(x184,x190)=>qY K x84 x103 v156 recl123 x184 x190
def cC (K:Nat) (a1:Int):Nat→(List Int)→(List Nat)→(List (List Rat))→Rat→Int→Option ((List Int)×(List Nat)×(List (List Rat))×Rat)
 |0,_,_,_,_,_=>none
 |k+1,x84,x90,x96,x102,x103=>bif(decide (x103<a1)) then((slL (aBq x96 x90) (x84.length:Int) ((aBq x96 x90).length:Int)).bind fun x128=>(eZ K x128 (jX x103)).bind fun v130=>bif(decide (v130<0)) then((aQ (x103+1)).bind fun v133=>cC K a1 k x84 x90 x96 x102 v133) else(bif(decide (0<v130)) then((aQ ((x84.length:Int)+v130)).bind fun v318=>(aQ ((x84.length:Int)+v130)).bind fun v320=>(bK x90 v320).bind fun v322=>(bK x90 (x84.length:Int)).bind fun v324=>(bK x90 (x84.length:Int)).bind fun v326=>(pN x90 (x84.length:Int) v322).bind fun x328=>(bK x328 v318).bind fun v331=>(pN x328 v318 v324).bind fun x334=>(aBs x102).bind fun v337=>lA K x84 x103 (cC K a1 k) x334 x96 v337) else(lA K x84 x103 (cC K a1 k) x90 x96 x102))) else(some (x84,x90,x96,x102))
def rQ (K:Nat) (a1:Int) (v2:Rat) (x50:List Nat) (x56:List (List Rat)):Option iK:=
 (cC K a1 K ([]:List Int) x50 x56 v2 0).bind fun(x104,x110,x116,x122)=>qL K x104 x110 x116 x122
def jU (K:Nat) (a0:List (List Rat)):Nat→(List Nat)→(List (List Rat))→Int→Option ((List Nat)×(List (List Rat)))
 |0,_,_,_=>none
 |k+1,x37,x43,x49=>bif(decide (x49<(a0.length:Int))) then((bK a0 x49).bind fun v340=>(g8 v340).bind fun v344=>(rM x37 [x43.length]).bind fun x353=>(aQ (x49+1)).bind fun v360=>jU K a0 k x353 (x43++[v344]) v360) else(some (x37,x43))
def qH (K:Nat) (a0:List (List Rat)) (a1:Int):Option iK:=
 (qof 1 1).bind fun v2=>(jU K a0 K ([]:List Nat) ([]:List (List Rat)) 0).bind fun(x50,x56)=>rQ K a1 v2 x50 x56
theorem aAl {K:Nat} {a0:List (List Rat)} {a1:Int} {r:iK} (hF:qH K a0 a1=some r):Ct Tryz.prog 142 [.vc (pS (fA cQ) a0),.vc (pI .i64 a1)] (.va (iK.enc r)):=by
 unfold qH at hF
 refine aA Tryz.func142 rfl (by kernel_rfl) Tryz.ntmps142 rfl (fun w0 M0=>?_)
 refine aD (aI (aK rfl tyZ139q (fun b1=>?_)))
 refine aU (aH (aD (aI ?_)))
 obtain⟨v2,h3,hF⟩:=bC hF rW
 refine aG (bJ rfl h3 rfl) ⟨p6 _ _,p6 _ _,trivial⟩ ?_
 refine aG1 cQ 42 ?_
 refine zU (cH ([]:List p7)) 24 ?_
 refine zU cI 3 ?_
 refine aG (gH (is:=[2]) (xs:=[.tmp 15]) (ps:=[.va (eQ v2)]) rfl tyB139_o0_o1q rfl rfl ⟨trivial,trivial⟩ rfl) zU1 ?_
 refine aK rfl tyZ139q (fun b23=>?_)
 refine go ?_ ?_
 refine aJ (aX (fun H E=>∃(x50:List Nat),∃(x56:List (List Rat)),∃(b51:Option Nat),∃(c52:Nat),∃(n53:Nat),∃(g57:List p7),∃(N58:Nat),rQ K a1 v2 x50 x56=some r∧x50.length=n53∧x56.length=N58∧cL g57 x56∧(∀k∈x50,k<N58)∧H=([⟨some b23,1,139,6,1,([pO b51 n53 c52]++[pO none 0 0]++(eQ v2))⟩,hO cI none 0 3 0 ([]:List Int),hO (cH g57) b51 c52 24 n53 x50,⟨some b1,1,139,6,1,([pS (fA cQ) ([]:List (List Rat))]++[pS cI ([]:List Int)]++(eQ 0))⟩]++eA cQ 42 g57 x56)∧E=[(1,.vc (pI .i64 a1)),(4,.vc (pP (some b1) 0)),(5,.vc (pP (some b23) 0))]) ?_ (fun Jj63=>?_))
 ·rintro _ _ ⟨x50,x56,b51,c52,n53,g57,N58,hF,q54,q59,q60,q61,rfl,rfl⟩
  unfold rQ at hF
  refine go ?_ ?_
  refine aG (aLq (xs:=[.tmp 5]) (cs:=[pP (some b23) 0]) rfl rfl) zU1 ?_
  refine go ?_ ?_
  refine aJ (aX (fun H E=>∃(x104:List Int),∃(x110:List Nat),∃(x116:List (List Rat)),∃(x122:Rat),∃(b105:Option Nat),∃(c106:Nat),∃(n107:Nat),∃(b111:Option Nat),∃(c112:Nat),∃(n113:Nat),∃(g117:List p7),∃(N118:Nat),qL K x104 x110 x116 x122=some r∧x104.length=n107∧x110.length=n113∧x116.length=N118∧cL g117 x116∧(∀k∈x110,k<N118)∧H=([⟨some b23,1,139,6,1,([pO b111 n113 c112]++[pO b105 n107 c106]++(eQ x122))⟩,hO cI b105 c106 3 n107 x104,hO (cH g117) b111 c112 24 n113 x110,⟨some b1,1,139,6,1,([pS (fA cQ) ([]:List (List Rat))]++[pS cI ([]:List Int)]++(eQ 0))⟩]++eA cQ 42 g117 x116)∧E=[(4,.vc (pP (some b1) 0)),(5,.vc (pP (some b23) 0))]) ?_ (fun Jj124=>?_))
  ·rintro _ _ ⟨x104,x110,x116,x122,b105,c106,n107,b111,c112,n113,g117,N118,hF,q108,q114,q119,q120,q121,rfl,rfl⟩
   unfold qL at hF
   refine aH (aD (aI (aRe 2 4 rfl rfl q120 (aDJ q119 q121) ?_)))
   refine aDS 2 0 0 rfl ((aCY _ _).trans q114) rfl rfl rfl rfl rfl ?_
   refine aDS 1 0 1 rfl q108 rfl rfl rfl rfl rfl ?_
   exact bQ
  obtain⟨⟨x104',x110',x116',x122'⟩,hL,hRl123⟩:=aP hF
  refine dQ (fun k a w=>∃(x84:List Int),∃(x90:List Nat),∃(x96:List (List Rat)),∃(x102:Rat),∃(x103:Int),∃(b85:Option Nat),∃(c86:Nat),∃(n87:Nat),∃(b91:Option Nat),∃(c92:Nat),∃(n93:Nat),∃(g97:List p7),∃(N98:Nat),cC K a1 k x84 x90 x96 x102 x103=some (x104',x110',x116',x122')∧x84.length=n87∧x90.length=n93∧x96.length=N98∧cL g97 x96∧(∀k∈x90,k<N98)∧hs _ ([⟨some b23,1,139,6,1,([pO b91 n93 c92]++[pO b85 n87 c86]++(eQ x102))⟩,hO cI b85 c86 3 n87 x84,hO (cH g97) b91 c92 24 n93 x90,⟨some b1,1,139,6,1,([pS (fA cQ) ([]:List (List Rat))]++[pS cI ([]:List Int)]++(eQ 0))⟩]++eA cQ 42 g97 x96) [(4,.vc (pP (some b1) 0)),(5,.vc (pP (some b23) 0)),(8,.vc (pF 166 [pP (some b23) 0])),(32,.vc (pI .i64 a1)),(33,.vc (pI .i64 x103))] a w) K (fun a w ⟨_,_,_,_,_,_,_,_,_,_,_,_,_,hF,_,_,_,_,_,_⟩=>by cases hF) (fun k a w ⟨x84,x90,x96,x102,x103,b85,c86,n87,b91,c92,n93,g97,N98,hF,q88,q94,q99,q100,q101,hh⟩=>dP ?_ hh) (fun a w hh=>⟨([]:List Int),x50,x56,v2,0,none,0,0,b51,c52,n53,g57,N58,hL,rfl,q54,q59,q60,q61,aR 4 [0,1,2,3] rfl rfl (by decide) (by exact⟨rfl,rfl,rfl,rfl,rfl,trivial⟩) hh⟩)
  rw [cC.eq_2] at hF
  refine go ?_ ?_
  refine aE hF rfl (fun h126 hF=>?_) (fun h126 hF=>?_)
  ·refine go ?_ ?_
   refine aJ (go ?_ ?_)
   refine aK rfl tyZ3q (fun b127=>?_)
   obtain⟨x128,h129,hF⟩:=aP hF
   refine go ?_ ?_
   refine aG (aQF (i:=3) rfl tyS23 rfl rfl rfl rfl (aI8 h129).1 (aP2 h129 q94)) zU2 ?_
   refine aEQ 0 [(9,0)] rfl zU1 rfl ?_
   refine aG (aIq (φ:=(jX x103)) (pre:=fun x:(List Rat)=>[.vc (pS cQ x)]) (post:=fun r:Bool=>.vc (pB r)) (xs:=[.tmp 9]) (cs:=[pM (cI.e x103)]) rfl rfl (fun x r h=>aCm h)) zU1 ?_
   obtain⟨v130,h131,hF⟩:=bC hF uS
   refine aG (aEg (pre':=[.vc (pC (pO b91 n93 c92) (x84.length:Int).toNat 1),.vc (pFn Tryz.prog (fun x:(List Rat)=>[.vc (pS cQ x)]) (fun r:Bool=>.vc (pB r)) (jX x103))]) rfl h131 rfl (aR2 (aI8 h129).2.2 (aLR 2 4 [] (by rw [List.append_nil];rfl) rfl q100 (aDJ q99 q101) q94)) (fun _ _ _ h=>h)) zU2 ?_
   refine go ?_ ?_
   refine aE hF rfl (fun h132 hF=>?_) (fun h132 hF=>?_)
   ·refine bH ?_
    obtain⟨v133,h134,hF⟩:=aP hF
    refine go ?_ ?_
    exact aF (fun a w hh=>⟨x84,x90,x96,x102,v133,b85,c86,n87,b91,c92,n93,g97,N98,hF,q88,q94,q99,q100,q101,aR 4 [0,1,2,3] rfl rfl (by decide) (by exact⟨rfl,rfl,rfl,rfl,rfl,trivial⟩) hh⟩)
   refine fN (aH (aD (yP (fun H E=>∃(x136:List Nat),∃(x142:List (List Rat)),∃(x148:Rat),∃(b137:Option Nat),∃(c138:Nat),∃(n139:Nat),∃(g143:List p7),∃(N144:Nat),lA K x84 x103 (cC K a1 k) x136 x142 x148=some (x104',x110',x116',x122')∧x136.length=n139∧x142.length=N144∧cL g143 x142∧(∀k∈x136,k<N144)∧H=([⟨some b23,1,139,6,1,([pO b137 n139 c138]++[pO b85 n87 c86]++(eQ x148))⟩,hO cI b85 c86 3 n87 x84,hO (cH g143) b137 c138 24 n139 x136,⟨some b1,1,139,6,1,([pS (fA cQ) ([]:List (List Rat))]++[pS cI ([]:List Int)]++(eQ 0))⟩]++eA cQ 42 g143 x142)∧E=[(4,.vc (pP (some b1) 0)),(5,.vc (pP (some b23) 0)),(8,.vc (pF 166 [pP (some b23) 0])),(9,.vc (pM (cI.e x103))),(10,.vc (pI .i64 (x84.length:Int))),(32,.vc (pI .i64 a1)),(33,.vc (pI .i64 x103))]) ?_ (fun Jj149=>?_))))
   ·rintro _ _ ⟨x136,x142,x148,b137,c138,n139,g143,N144,hF,q140,q145,q146,q147,rfl,rfl⟩
    unfold lA at hF
    refine aD ?_
    obtain⟨v152,h153,hF⟩:=aP hF
    obtain⟨v154,h155,hF⟩:=aP hF
    refine iV [0,1,0,7,15,0,63,127,0,511] 9 1 [.v (.vc (pP (some b23) 0)),.v (.vc (pO b137 n139 c138)),.v (.vc (pI .i64 (x84.length:Int))),.v (.vc (pE b137 (x84.length:Int) (cH g143).n 0)),.v (.vc (pO (fL g143 v152).1 (fL g143 v152).2.1 (fL g143 v152).2.2)),.v (.vc (pI .i64 x103)),.v (.vc (pE (fL g143 v152).1 x103 cQ.n 0)),.v (.va (eQ v154)),.a 42 (eQ 0)] aY ⟨d0 (f7 (off:=0) (k:=0) rfl tyF139_0) zU1,d0 (fF 0 1 rfl rfl rfl rfl (.one tyO23)) zU1,d0 (aM (.inl rfl)) zU1,d0 (d7 (C:=(cH g143)) 2 rfl tyS23 rfl q140 (aC h153).1 (aC h153).2.1) zU2,d0 (iC (C:=(cH g143)) (k:=1) 2 rfl rfl h153 rfl (.one tyO24) rfl) zU1,d0 (aBh 1 rfl rfl (.one tyO3)) zU1,d0 (d7 (4+v152) rfl tyS24 (gL 4 rfl q146 q145 (q147 _ (aN h153))) (cY q146 q145 (q147 _ (aN h153))) (aC h155).1 (aC h155).2.1) zU2,d0 (iC (k:=4) (4+v152) rfl (gL 4 rfl q146 q145 (q147 _ (aN h153))) h155 rfl (.agg tyA42) rfl) zU1,⟨rfl,.alc tyZ42q⟩,trivial⟩ (fun bs151 G150=>?_)
    obtain⟨v156,h157,hF⟩:=bC hF vG
    refine go ?_ ?_
    refine aJ (aX (fun H E=>∃(x184:List Nat),∃(x190:List (List Rat)),∃(b185:Option Nat),∃(c186:Nat),∃(n187:Nat),∃(g191:List p7),∃(N192:Nat),qY K x84 x103 v156 (cC K a1 k) x184 x190=some (x104',x110',x116',x122')∧x184.length=n187∧x190.length=N192∧cL g191 x190∧(∀k∈x184,k<N192)∧H=([⟨some b23,1,139,6,1,([pO b185 n187 c186]++[pO b85 n87 c86]++(eQ v156))⟩,hO cI b85 c86 3 n87 x84,hO (cH g191) b185 c186 24 n187 x184,⟨some b1,1,139,6,1,([pS (fA cQ) ([]:List (List Rat))]++[pS cI ([]:List Int)]++(eQ 0))⟩]++eA cQ 42 g191 x190)∧E=[(4,.vc (pP (some b1) 0)),(5,.vc (pP (some b23) 0)),(8,.vc (pF 166 [pP (some b23) 0])),(9,.vc (pM (cI.e x103))),(10,.vc (pI .i64 (x84.length:Int))),(32,.vc (pI .i64 a1)),(33,.vc (pI .i64 x103))]) ?_ (fun Jj197=>?_))
    ·rintro _ _ ⟨x184,x190,b185,c186,n187,g191,N192,hF,q188,q193,q194,q195,rfl,rfl⟩
     unfold qY at hF
     refine go ?_ ?_
     refine aJ (aX (fun H E=>∃(x238:List Int),∃(x244:List Nat),∃(x250:List (List Rat)),∃(x256:Rat),∃(b239:Option Nat),∃(c240:Nat),∃(n241:Nat),∃(b245:Option Nat),∃(c246:Nat),∃(n247:Nat),∃(g251:List p7),∃(N252:Nat),qJ K x103 (cC K a1 k) x238 x244 x250 x256=some (x104',x110',x116',x122')∧x238.length=n241∧x244.length=n247∧x250.length=N252∧cL g251 x250∧(∀k∈x244,k<N252)∧H=([⟨some b23,1,139,6,1,([pO b245 n247 c246]++[pO b239 n241 c240]++(eQ x256))⟩,hO cI b239 c240 3 n241 x238,hO (cH g251) b245 c246 24 n247 x244,⟨some b1,1,139,6,1,([pS (fA cQ) ([]:List (List Rat))]++[pS cI ([]:List Int)]++(eQ 0))⟩]++eA cQ 42 g251 x250)∧E=[(4,.vc (pP (some b1) 0)),(5,.vc (pP (some b23) 0)),(8,.vc (pF 166 [pP (some b23) 0])),(9,.vc (pM (cI.e x103))),(32,.vc (pI .i64 a1)),(33,.vc (pI .i64 x103))]) ?_ (fun Jj258=>?_))
     ·rintro _ _ ⟨x238,x244,x250,x256,b239,c240,n241,b245,c246,n247,g251,N252,hF,q242,q248,q253,q254,q255,rfl,rfl⟩
      unfold qJ at hF
      refine go ?_ ?_
      refine aG (gG (C:=cI) (xs:=[.tmp 133]) (ps:=[.vc (pI .i64 x103)]) (zs:=[x103]) rfl tyS22 rfl ⟨⟨trivial,rfl⟩,trivial⟩ rfl) zU1 ?_
      obtain⟨x259,h260,hF⟩:=aP hF
      refine mN 1 rfl tyS22 rfl rfl q242 rfl rfl h260 (fun b261 c262 H263 e264=>?_)
      cases e264
      obtain⟨v266,h267,hF⟩:=aP hF
      refine go ?_ ?_
      exact aF (fun a w hh=>⟨x259,x244,x250,x256,v266,b261,c262,(n241+[x103].length),b245,c246,n247,g251,N252,hF,(cX h260 q242),q248,q253,q254,q255,aR 4 [0,1,2,3] rfl rfl (by decide) (by exact⟨rfl,rfl,rfl,rfl,rfl,trivial⟩) hh⟩)
     obtain⟨⟨x238',x244',x250',x256'⟩,hL,hRl257⟩:=aP hF
     refine dQ (fun k a w=>∃(x218:List Int),∃(x224:List Nat),∃(x230:List (List Rat)),∃(x236:Rat),∃(x237:Int),∃(b219:Option Nat),∃(c220:Nat),∃(n221:Nat),∃(b225:Option Nat),∃(c226:Nat),∃(n227:Nat),∃(g231:List p7),∃(N232:Nat),fK K x84 x103 x184 k x218 x224 x230 x236 x237=some (x238',x244',x250',x256')∧x218.length=n221∧x224.length=n227∧x230.length=N232∧cL g231 x230∧(∀k∈x224,k<N232)∧hs _ ([⟨some b23,1,139,6,1,([pO b225 n227 c226]++[pO b219 n221 c220]++(eQ x236))⟩,hO cI b219 c220 3 n221 x218,hO (cH g231) b225 c226 24 n227 x224,⟨some b1,1,139,6,1,([pS (fA cQ) ([]:List (List Rat))]++[pS cI ([]:List Int)]++(eQ 0))⟩]++eA cQ 42 g231 x230) [(4,.vc (pP (some b1) 0)),(5,.vc (pP (some b23) 0)),(8,.vc (pF 166 [pP (some b23) 0])),(9,.vc (pM (cI.e x103))),(10,.vc (pI .i64 (x84.length:Int))),(32,.vc (pI .i64 a1)),(33,.vc (pI .i64 x103)),(118,.vc (pI .i64 (x184.length:Int))),(119,.vc (pI .i64 x237))] a w) K (fun a w ⟨_,_,_,_,_,_,_,_,_,_,_,_,_,hF,_,_,_,_,_,_⟩=>by cases hF) (fun k a w ⟨x218,x224,x230,x236,x237,b219,c220,n221,b225,c226,n227,g231,N232,hF,q222,q228,q233,q234,q235,hh⟩=>dP ?_ hh) (fun a w hh=>⟨x84,x184,x190,v156,0,b85,c86,n87,b185,c186,n187,g191,N192,hL,q88,q188,q193,q194,q195,aR 4 [0,1,2,3] rfl rfl (by decide) (by exact⟨rfl,rfl,rfl,rfl,rfl,rfl,rfl,rfl,rfl,trivial⟩) hh⟩)
     rw [fK.eq_2] at hF
     refine go ?_ ?_
     refine aE hF rfl (fun h268 hF=>?_) (fun h268 hF=>?_)
     ·refine go ?_ ?_
      refine aJ (go ?_ ?_)
      refine aE hF rfl (fun h269 hF=>?_) (fun h269 hF=>?_)
      ·obtain⟨v270,h271,hF⟩:=aP hF
       refine go ?_ ?_
       refine aMy (f:=166) (cs:=[pP (some b23) 0]) (pre:=[.vc (pI .i64 x237),.vc (pI .i64 (x84.length:Int)),.vc (pI .i64 x103)]) (xs:=[.tmp 126,.tmp 127,.tmp 128]) 4 [0,2,1] [3] rfl (aB1 h271 q228 q233 q234 q235 q222) ⟨rfl,rfl,rfl,rfl,trivial⟩ rfl rfl rfl (by decide) ?_
       rintro _ _ ⟨b276,c277,n275,g274,N280,b287,c288,n286,q278,q281,q282,q283,q289,rfl,rfl⟩
       refine lE (iQ [⟨some b23,1,139,6,1,([pO b276 n275 c277]++[pO b287 n286 c288]++(eQ v270.2.2))⟩,hO (cH g274) b276 c277 24 n275 v270.1.1,hO cI b287 c288 3 n286 v270.2.1] (eA cQ 42 g274 v270.1.2) [⟨some b1,1,139,6,1,([pS (fA cQ) ([]:List (List Rat))]++[pS cI ([]:List Int)]++(eQ 0))⟩]) ?_
       obtain⟨v291,h292,hF⟩:=aP hF
       refine go ?_ ?_
       exact aF (fun a w hh=>⟨v270.2.1,v270.1.1,v270.1.2,v270.2.2,v291,b287,c288,n286,b276,c277,n275,g274,N280,hF,q289,q278,q281,q282,q283,aR 4 [0,2,1,3] rfl rfl (by decide) (by exact⟨rfl,rfl,rfl,rfl,rfl,rfl,rfl,rfl,rfl,trivial⟩) hh⟩)
      obtain⟨v293,h294,hF⟩:=aP hF
      refine go ?_ ?_
      exact aF (fun a w hh=>⟨x218,x224,x230,x236,v293,b219,c220,n221,b225,c226,n227,g231,N232,hF,q222,q228,q233,q234,q235,aR 4 [0,1,2,3] rfl rfl (by decide) (by exact⟨rfl,rfl,rfl,rfl,rfl,rfl,rfl,rfl,rfl,trivial⟩) hh⟩)
     refine bH ?_
     obtain⟨rfl,rfl,rfl,rfl⟩:=sm4 hF
     exact eG Jj258 ⟨x218,x224,x230,x236,b219,c220,n221,b225,c226,n227,g231,N232,hRl257,q222,q228,q233,q234,q235,rfl,rfl⟩ 4 [0,1,2,3] rfl rfl ⟨rfl,rfl,rfl,rfl,rfl,rfl,trivial⟩
    obtain⟨⟨x184',x190'⟩,hL,hRl196⟩:=aP hF
    refine dQ (fun k a w=>∃(x171:List Nat),∃(x177:List (List Rat)),∃(x183:Int),∃(b172:Option Nat),∃(c173:Nat),∃(n174:Nat),∃(g178:List p7),∃(N179:Nat),jC K x84 v154 k x171 x177 x183=some (x184',x190')∧x171.length=n174∧x177.length=N179∧cL g178 x177∧(∀k∈x171,k<N179)∧hs _ ([⟨some (bs151 8),1,42,4,1,(eQ v154)⟩,⟨some b23,1,139,6,1,([pO b172 n174 c173]++[pO b85 n87 c86]++(eQ v156))⟩,hO cI b85 c86 3 n87 x84,hO (cH g178) b172 c173 24 n174 x171,⟨some b1,1,139,6,1,([pS (fA cQ) ([]:List (List Rat))]++[pS cI ([]:List Int)]++(eQ 0))⟩]++eA cQ 42 g178 x177) [(4,.vc (pP (some b1) 0)),(5,.vc (pP (some b23) 0)),(8,.vc (pF 166 [pP (some b23) 0])),(9,.vc (pM (cI.e x103))),(10,.vc (pI .i64 (x84.length:Int))),(12,.vc (pP (some (bs151 8)) 0)),(13,.vc (pI .i64 x183)),(32,.vc (pI .i64 a1)),(33,.vc (pI .i64 x103))] a w) K (fun a w ⟨_,_,_,_,_,_,_,_,hF,_,_,_,_,_⟩=>by cases hF) (fun k a w ⟨x171,x177,x183,b172,c173,n174,g178,N179,hF,q175,q180,q181,q182,hh⟩=>dP ?_ hh) (fun a w hh=>⟨x136,x142,x103,b137,c138,n139,g143,N144,hL,q140,q145,q146,q147,aR 5 [0,1,2,3,4] rfl rfl (by decide) (by exact⟨rfl,rfl,rfl,rfl,rfl,rfl,rfl,rfl,rfl,trivial⟩) hh⟩)
    rw [jC.eq_2] at hF
    obtain⟨v295,h296,hF⟩:=aP hF
    refine go ?_ ?_
    refine aG (aBx (C:=cQ) (xs:=(x177.getD v295 [])) (T:=42) rfl tyS24 (cY q181 q180 (q182 _ (aN h296)))) zU1 ?_
    refine go ?_ ?_
    refine aE hF rfl (fun h297 hF=>?_) (fun h297 hF=>?_)
    ·refine go ?_ ?_
     refine aJ ?_
     have hF:=tX h296 hF
     have hF:=tX h296 hF
     obtain⟨v304,h305,hF⟩:=aP hF
     obtain⟨v306,h307,hF⟩:=bC hF w7
     have hF:=tX h305 hF
     refine iV [0,1,0,7,15,0,0,64,0,448,960,0,4032,8128,0,32704,65535,131071] 17 1 [.v (.vc (pP (some b23) 0)),.v (.vc (pO b172 n174 c173)),.v (.vc (pI .i64 (x84.length:Int))),.v (.vc (pE b172 (x84.length:Int) (cH g178).n 0)),.v (.vc (pO (fL g178 v295).1 (fL g178 v295).2.1 (fL g178 v295).2.2)),.v (.vc (pI .i64 x183)),.v (.vc (pP (some b23) 0)),.v (.vc (pO b172 n174 c173)),.v (.vc (pI .i64 (x84.length:Int))),.v (.vc (pE b172 (x84.length:Int) (cH g178).n 0)),.v (.vc (pO (fL g178 v295).1 (fL g178 v295).2.1 (fL g178 v295).2.2)),.v (.vc (pI .i64 x183)),.v (.vc (pE (fL g178 v295).1 x183 cQ.n 0)),.v (.va (eQ v304)),.v (.va (eQ v154)),.v (.va (eQ v306)),.v (.vc (pE (fL g178 v295).1 x183 cQ.n 0))] aY ⟨d0 (f7 (off:=0) (k:=0) rfl tyF139_0) zU1,d0 (fF 1 1 rfl rfl rfl rfl (.one tyO23)) zU1,d0 (aM (.inl rfl)) zU1,d0 (d7 (C:=(cH g178)) 3 rfl tyS23 rfl q175 (aC h296).1 (aC h296).2.1) zU2,d0 (iC (C:=(cH g178)) (k:=1) 3 rfl rfl h296 rfl (.one tyO24) rfl) zU1,d0 (aM (.inl rfl)) zU1,d0 (f7 (off:=0) (k:=0) rfl tyF139_0) zU1,d0 (fF 1 1 rfl rfl rfl rfl (.one tyO23)) zU1,d0 (aM (.inl rfl)) zU1,d0 (d7 (C:=(cH g178)) 3 rfl tyS23 rfl q175 (aC h296).1 (aC h296).2.1) zU2,d0 (iC (C:=(cH g178)) (k:=1) 3 rfl rfl h296 rfl (.one tyO24) rfl) zU1,d0 (aM (.inl rfl)) zU1,d0 (d7 (5+v295) rfl tyS24 (gL 5 rfl q181 q180 (q182 _ (aN h296))) (cY q181 q180 (q182 _ (aN h296))) (aC h305).1 (aC h305).2.1) zU2,d0 (iC (k:=4) (5+v295) rfl (gL 5 rfl q181 q180 (q182 _ (aN h296))) h305 rfl (.agg tyA42) rfl) zU1,d0 (fF 0 4 rfl rfl rfl rfl (.agg tyA42)) zU1,d0 (bJ rfl h307 rfl) zU2,d0 (d7 (5+v295) rfl tyS24 (gL 5 rfl q181 q180 (q182 _ (aN h296))) (cY q181 q180 (q182 _ (aN h296))) (aC h305).1 (aC h305).2.1) zU2,trivial⟩ (fun bs299 G298=>?_)
     obtain⟨x310,h311,hF⟩:=aP hF
     refine kY (xM (H':=([⟨some (bs151 8),1,42,4,1,(eQ v154)⟩,⟨some b23,1,139,6,1,([pO b172 n174 c173]++[pO b85 n87 c86]++(eQ v156))⟩,hO cI b85 c86 3 n87 x84,hO (cH g178) b172 c173 24 n174 x171,⟨some b1,1,139,6,1,([pS (fA cQ) ([]:List (List Rat))]++[pS cI ([]:List Int)]++(eQ 0))⟩]++eA cQ 42 g178 (x177.set v295 x310))) (5+v295) rfl (rN 5 rfl q181 q180 (q182 _ (aN h296))) h305 h311 tyA42.s (hH:=stN 5 rfl q181 q180 (q182 _ (aN h296)))) zU2 ?_
     obtain⟨v313,h314,hF⟩:=aP hF
     refine go ?_ ?_
     exact aF (fun a w hh=>⟨x171,(x177.set v295 x310),v313,b172,c173,n174,g178,N179,hF,q175,(aDf q180),(aEu q181 q180 (q182 _ (aN h296)) (bG h311 rfl)),q182,aR 5 [0,1,2,3,4] rfl rfl (by decide) (by exact⟨rfl,rfl,rfl,rfl,rfl,rfl,rfl,rfl,rfl,trivial⟩) hh⟩)
    refine bH ?_
    obtain⟨rfl,rfl⟩:=sm2 hF
    exact eG Jj197 ⟨x171,x177,b172,c173,n174,g178,N179,hRl196,q175,q180,q181,q182,rfl,rfl⟩ 5 [1,2,3,4] rfl rfl ⟨rfl,rfl,rfl,rfl,rfl,rfl,rfl,trivial⟩
   refine go ?_ ?_
   refine aE hF rfl (fun h315 hF=>?_) (fun h315 hF=>?_)
   ·refine aD ?_
    obtain⟨v318,h319,hF⟩:=aP hF
    have hF:=tX h319 hF
    obtain⟨v322,h323,hF⟩:=aP hF
    obtain⟨v324,h325,hF⟩:=aP hF
    have hF:=tX h325 hF
    obtain⟨x328,h329,hF⟩:=aP hF
    obtain⟨v331,h332,hF⟩:=aP hF
    refine rR (HsM [(0,fun G316=>([⟨some b23,1,139,6,1,([pO b91 n93 c92]++[pO b85 n87 c86]++(eQ x102))⟩,hO cI b85 c86 3 n87 x84,hO (cH g97) b91 c92 24 n93 x90,⟨some b1,1,139,6,1,([pS (fA cQ) ([]:List (List Rat))]++[pS cI ([]:List Int)]++(eQ 0))⟩]++eA cQ 42 g97 x96)),(1,fun G316=>([⟨some b23,1,139,6,1,([pO b91 n93 c92]++[pO b85 n87 c86]++(eQ x102))⟩,hO cI b85 c86 3 n87 x84,hO (cH g97) b91 c92 24 n93 x328,⟨some b1,1,139,6,1,([pS (fA cQ) ([]:List (List Rat))]++[pS cI ([]:List Int)]++(eQ 0))⟩]++eA cQ 42 g97 x96))]) [21] [0,1,0,0,8,0,0,96,0,256,0,0,3072,7936,16128,0,32768,0,229376,491520,1048327,2096903,4194303,8388607] 23 1 [.v (.vc (pP (some b23) 0)),.v (.vc (pO b91 n93 c92)),.v (.vc (pI .i64 (x84.length:Int))),.v (.vc (pP (some b23) 0)),.v (.vc (pO b91 n93 c92)),.v (.vc (pI .i64 (x84.length:Int))),.v (.vc (pI .i64 v130)),.v (.vc (pI .i64 v318)),.v (.vc (pP (some b23) 0)),.v (.vc (pO b91 n93 c92)),.v (.vc (pI .i64 (x84.length:Int))),.v (.vc (pI .i64 v130)),.v (.vc (pI .i64 v318)),.v (.vc (pE b91 v318 (cH g97).n 0)),.v (.vc (pO (fL g97 v322).1 (fL g97 v322).2.1 (fL g97 v322).2.2)),.v (.vc (pP (some b23) 0)),.v (.vc (pO b91 n93 c92)),.v (.vc (pI .i64 (x84.length:Int))),.v (.vc (pE b91 (x84.length:Int) (cH g97).n 0)),.v (.vc (pO (fL g97 v324).1 (fL g97 v324).2.1 (fL g97 v324).2.2)),.v (.vc (pE b91 (x84.length:Int) (cH g97).n 0)),.g (fun _ _=>.any),.v (.vc (pE b91 v318 (cH g97).n 0))] aY ⟨d1 0 (f7 (off:=0) (k:=0) rfl tyF139_0) zU1,d1 0 (fF 0 1 rfl rfl rfl rfl (.one tyO23)) zU1,d1 0 (aM (.inl rfl)) zU1,⟨rfl,.run (L:=[0,1]) ⟨fun G316 A=>f7 (off:=0) (k:=0) rfl tyF139_0,fun G316 A=>f7 (off:=0) (k:=0) rfl tyF139_0,trivial⟩ (fun G316=>zU1)⟩,⟨rfl,.run (L:=[0,1]) ⟨fun G316 A=>fF 0 1 rfl rfl rfl rfl (.one tyO23),fun G316 A=>fF 0 1 rfl rfl rfl rfl (.one tyO23),trivial⟩ (fun G316=>zU1)⟩,⟨rfl,.run (L:=[0,1]) ⟨fun G316 A=>aM (.inl rfl),fun G316 A=>aM (.inl rfl),trivial⟩ (fun G316=>zU1)⟩,⟨rfl,.run (L:=[0,1]) ⟨fun G316 A=>aM (.inl rfl),fun G316 A=>aM (.inl rfl),trivial⟩ (fun G316=>zU1)⟩,⟨rfl,.run (L:=[0,1]) ⟨fun G316 A=>xQ rfl h319,fun G316 A=>xQ rfl h319,trivial⟩ (fun G316=>zU2)⟩,d1 0 (f7 (off:=0) (k:=0) rfl tyF139_0) zU1,d1 0 (fF 0 1 rfl rfl rfl rfl (.one tyO23)) zU1,d1 0 (aM (.inl rfl)) zU1,d1 0 (aM (.inl rfl)) zU1,d1 0 (xQ rfl h319) zU2,d1 0 (d7 (C:=(cH g97)) 2 rfl tyS23 rfl q94 (aC h323).1 (aC h323).2.1) zU2,d1 0 (iC (C:=(cH g97)) (k:=1) 2 rfl rfl h323 rfl (.one tyO24) rfl) zU1,d1 0 (f7 (off:=0) (k:=0) rfl tyF139_0) zU1,d1 0 (fF 0 1 rfl rfl rfl rfl (.one tyO23)) zU1,d1 0 (aM (.inl rfl)) zU1,d1 0 (d7 (C:=(cH g97)) 2 rfl tyS23 rfl q94 (aC h325).1 (aC h325).2.1) zU2,d1 0 (iC (C:=(cH g97)) (k:=1) 2 rfl rfl h325 rfl (.one tyO24) rfl) zU1,d1 0 (d7 (C:=(cH g97)) 2 rfl tyS23 rfl q94 (aC h325).1 (aC h325).2.1) zU2,⟨rfl,.hvy [0] ⟨fun G316 A=>aB7 (xM (C:=(cH g97)) 2 rfl rfl h325 h329 tyO24.s),trivial⟩ (fun G316=>zU2)⟩,d1 1 (d7 (C:=(cH g97)) 2 rfl tyS23 rfl (bG h329 q94) (aC h332).1 (aC h332).2.1) zU2,trivial⟩ (fun bs317 G316=>?_)
    obtain⟨x334,h335,hF⟩:=aP hF
    refine kY (xM (C:=(cH g97)) 2 rfl rfl h332 h335 tyO24.s) zU2 ?_
    refine aU (aH (aI (aG (f7 (off:=0) (k:=2) rfl tyF139_2) zU1 ?_)))
    refine aG (fF 0 4 rfl rfl rfl rfl (.agg tyA42)) zU1 ?_
    obtain⟨v337,h338,hF⟩:=bC hF tZ
    refine aG (bJ rfl h338 rfl) zU1 ?_
    refine aG (f7 (off:=0) (k:=2) rfl tyF139_2) zU1 ?_
    refine kY (t_s 0 rfl rfl rfl tyA42.s) zU2 ?_
    refine aU ?_
    exact eG Jj149 ⟨x334,x96,v337,b91,c92,n93,g97,N98,hF,(bG h335 (bG h329 q94)),q99,q100,(aI3 (aI3 q101 h329 (q101 _ (aN h323))) h335 (q101 _ (aN h325))),rfl,rfl⟩ 4 [0,1,2,3] rfl rfl ⟨rfl,rfl,rfl,rfl,rfl,rfl,rfl,trivial⟩
   refine fN ?_
   exact eG Jj149 ⟨x90,x96,x102,b91,c92,n93,g97,N98,hF,q94,q99,q100,q101,rfl,rfl⟩ 4 [0,1,2,3] rfl rfl ⟨rfl,rfl,rfl,rfl,rfl,rfl,rfl,trivial⟩
  refine bH ?_
  obtain⟨rfl,rfl,rfl,rfl⟩:=sm4 hF
  exact eG Jj124 ⟨x84,x90,x96,x102,b85,c86,n87,b91,c92,n93,g97,N98,hRl123,q88,q94,q99,q100,q101,rfl,rfl⟩ 4 [0,1,2,3] rfl rfl zU2
 obtain⟨⟨x50',x56'⟩,hL,hRl62⟩:=aP hF
 refine dQ (fun k a w=>∃(x37:List Nat),∃(x43:List (List Rat)),∃(x49:Int),∃(b38:Option Nat),∃(c39:Nat),∃(n40:Nat),∃(g44:List p7),∃(N45:Nat),jU K a0 k x37 x43 x49=some (x50',x56')∧x37.length=n40∧x43.length=N45∧cL g44 x43∧(∀k∈x37,k<N45)∧hs _ ([⟨some b23,1,139,6,1,([pO b38 n40 c39]++[pO none 0 0]++(eQ v2))⟩,hO cI none 0 3 0 ([]:List Int),hO (cH g44) b38 c39 24 n40 x37,⟨some b1,1,139,6,1,([pS (fA cQ) ([]:List (List Rat))]++[pS cI ([]:List Int)]++(eQ 0))⟩]++eA cQ 42 g44 x43) [(1,.vc (pI .i64 a1)),(4,.vc (pP (some b1) 0)),(5,.vc (pP (some b23) 0)),(17,.vc (pS (fA cQ) a0)),(18,.vc (pI .i64 (a0.length:Int))),(19,.vc (pI .i64 x49))] a w) K (fun a w ⟨_,_,_,_,_,_,_,_,hF,_,_,_,_,_⟩=>by cases hF) (fun k a w ⟨x37,x43,x49,b38,c39,n40,g44,N45,hF,q41,q46,q47,q48,hh⟩=>dP ?_ hh) (fun a w hh=>⟨([]:List Nat),([]:List (List Rat)),0,none,0,0,([]:List p7),0,hL,rfl,(rfl),aDQ,(by simp),aR 4 [0,1,2,3] rfl rfl (by decide) (by exact⟨rfl,rfl,rfl,rfl,rfl,rfl,trivial⟩) hh⟩)
 rw [jU.eq_2] at hF
 refine go ?_ ?_
 refine aE hF rfl (fun h339 hF=>?_) (fun h339 hF=>?_)
 ·refine go ?_ ?_
  refine aJ ?_
  obtain⟨v340,h341,v344,h345,hF⟩:=tY hF
  refine go ?_ ?_
  refine rR (HsM [(0,fun G342=>([⟨some b23,1,139,6,1,([pO b38 n40 c39]++[pO none 0 0]++(eQ v2))⟩,hO cI none 0 3 0 ([]:List Int),hO (cH g44) b38 c39 24 n40 x37,⟨some b1,1,139,6,1,([pS (fA cQ) ([]:List (List Rat))]++[pS cI ([]:List Int)]++(eQ 0))⟩]++eA cQ 42 g44 x43)),(1,fun G342=>([hO cQ ((G342 3).1) ((G342 3).2) 42 v344.length v344,⟨some b23,1,139,6,1,([pO b38 n40 c39]++[pO none 0 0]++(eQ v2))⟩,hO cI none 0 3 0 ([]:List Int),hO (cH g44) b38 c39 24 n40 x37,⟨some b1,1,139,6,1,([pS (fA cQ) ([]:List (List Rat))]++[pS cI ([]:List Int)]++(eQ 0))⟩]++eA cQ 42 g44 x43)),(3,fun G342=>([hO cQ ((G342 4).1) ((G342 4).2) 42 v344.length v344,⟨some b23,1,139,6,1,([pO b38 n40 c39]++[pO none 0 0]++(eQ v2))⟩,hO cI none 0 3 0 ([]:List Int),hO (cH (g44++[((G342 4).1,v344.length,(G342 4).2)])) b38 c39 24 n40 x37,⟨some b1,1,139,6,1,([pS (fA cQ) ([]:List (List Rat))]++[pS cI ([]:List Int)]++(eQ 0))⟩]++eA cQ 42 g44 x43))]) [3,4] [0,1,0,4,12,31,63,127] 5 3 [.v (.vc (pP (some b23) 0)),.v (.vc (pO b38 n40 c39)),.v (.vc (pS cQ v340)),.g (fun b c=>.vc (pO b v344.length c)),.g (fun b c=>.vc (pS (cH (g44++[(b,v344.length,c)])) [x43.length]))] aY ⟨⟨rfl,.run (L:=[0,1,3]) ⟨fun G342 A=>f7 (off:=0) (k:=0) rfl tyF139_0,fun G342 A=>f7 (off:=0) (k:=0) rfl tyF139_0,fun G342 A=>f7 (off:=0) (k:=0) rfl tyF139_0,trivial⟩ (fun G342=>zU1)⟩,⟨rfl,.run (L:=[0,1,3]) ⟨fun G342 A=>fF 0 1 rfl rfl rfl rfl (.one tyO23),fun G342 A=>fF 1 1 rfl rfl rfl rfl (.one tyO23),fun G342 A=>fF 1 1 rfl rfl rfl rfl (.one tyO23),trivial⟩ (fun G342=>zU1)⟩,d1 0 (aM (.inl rfl)) zU1,⟨rfl,.hvy [0] ⟨fun G342 A=>aGF rfl (uE h345) rfl,trivial⟩ (fun G342=>zU1)⟩,⟨rfl,.hvy [1] ⟨fun G342 A=>aHv ((G342 3).1) ((G342 3).2) (aLJ (rs:=x43) rfl tyS23 q47.1 (show([hO cQ ((G342 3).1) ((G342 3).2) 42 v344.length v344,⟨some b23,1,139,6,1,([pO b38 n40 c39]++[pO none 0 0]++(eQ v2))⟩,hO cI none 0 3 0 ([]:List Int),hO (cH (g44++[((G342 3).1,v344.length,(G342 3).2)])) b38 c39 24 n40 x37,⟨some b1,1,139,6,1,([pS (fA cQ) ([]:List (List Rat))]++[pS cI ([]:List Int)]++(eQ 0))⟩]++eA cQ 42 g44 x43)++A=([hO cQ ((G342 3).1) ((G342 3).2) 42 v344.length v344,⟨some b23,1,139,6,1,([pO b38 n40 c39]++[pO none 0 0]++(eQ v2))⟩,hO cI none 0 3 0 ([]:List Int),hO (cH g44) b38 c39 24 n40 x37,⟨some b1,1,139,6,1,([pS (fA cQ) ([]:List (List Rat))]++[pS cI ([]:List Int)]++(eQ 0))⟩]++eA cQ 42 g44 x43)++A from by rw [aG5 (N:=x43.length) ((G342 3).1,v344.length,(G342 3).2) q47.1 (aDJ q46 q48)])),trivial⟩ (fun G342=>zU1)⟩,trivial⟩ (fun bs343 G342=>?_)
  refine aE8 (g:=((G342 4).1,v344.length,(G342 4).2)) 0 5 rfl rfl rfl q47 ?_
  obtain⟨x353,h354,hF⟩:=aP hF
  refine mN 2 rfl tyS23 rfl rfl q41 rfl rfl h354 (fun b355 c356 H357 e358=>?_)
  cases e358
  obtain⟨v360,h361,hF⟩:=aP hF
  refine go ?_ ?_
  exact aF (fun a w hh=>⟨x353,(x43++[v344]),v360,b355,c356,(n40+[x43.length].length),(g44++[((G342 4).1,v344.length,(G342 4).2)]),(N45+1),hF,(cX h354 q41),(aCI q46),(aAy q47 rfl),(aJg q48 q46 h354),aR 4 [0,1,2,3] rfl rfl (by decide) (by exact⟨rfl,rfl,rfl,rfl,rfl,rfl,trivial⟩) hh⟩)
 refine bH ?_
 obtain⟨rfl,rfl⟩:=sm2 hF
 exact eG Jj63 ⟨x37,x43,b38,c39,n40,g44,N45,hRl62,q41,q46,q47,q48,rfl,rfl⟩ 4 [0,1,2,3] rfl rfl ⟨rfl,rfl,rfl,trivial⟩
def u5 (K:Nat) (a0:List (List Rat)):Option (Int×Int):=
 (sB K a0).bind fun v1=>bif(!v1) then(some (0,1)) else((rI a0).bind fun v4=>(qH K a0 v4).bind fun v6=>some ((v6.pivots.length:Int),0))
theorem aEt {K:Nat} {a0:List (List Rat)} {r:Int×Int} (hF:u5 K a0=some r):Ct Tryz.prog 103 [.vc (pS (fA cQ) a0)] (.t2 (.vc (pI .i64 r.1)) (.vc (pI .i64 r.2))):=by
 unfold u5 at hF
 refine aA Tryz.func103 rfl (by kernel_rfl) Tryz.ntmps103 rfl (fun w0 M0=>?_)
 obtain⟨v1,h2,hF⟩:=bC hF aAV
 refine go ?_ ?_
 refine aE hF rfl (fun h3 hF=>?_) (fun h3 hF=>?_)
 ·exact bQ
 obtain⟨v4,h5,hF⟩:=bC hF yR
 obtain⟨v6,h7,hF⟩:=bC hF aAl
 refine go ?_ ?_
 refine aG (aQO (off:=1) (p:=pS cI v6.pivots) rfl tyG139_1 rfl) zU1 ?_
 exact bQ
def sP (K:Nat) (x59:List Rat):Option ((List Rat)×Int):=
 some (x59,0)
def kW (K:Nat) (v5:Int) (v31:iK):Nat→(List Rat)→Int→Option (List Rat)
 |0,_,_=>none
 |k+1,x52,x58=>bif(decide (x58<(v31.pivots.length:Int))) then((bK v31.pivots x58).bind fun v68=>(bK v31.rows x58).bind fun v70=>(bK v70 v5).bind fun v72=>(bK x52 v68).bind fun v74=>(pN x52 v68 v72).bind fun x76=>(aQ (x58+1)).bind fun v79=>kW K v5 v31 k x76 v79) else(some x52)
def s8 (K:Nat) (v5:Int) (v31:iK):Option ((List Rat)×Int):=
 (y5 v5 0).bind fun x40=>(kW K v5 v31 K x40 0).bind fun x59=>sP K x59
def kQ (K:Nat) (v5:Int) (x34:List (List Rat)):Nat→Int→Option (LR ((List Rat)×Int) Unit)
 |0,_=>none
 |k+1,x37=>bif(decide (x37<(x34.length:Int))) then((bK x34 x37).bind fun v82=>(bK v82 v5).bind fun v84=>(xP v84).bind fun v86=>bif(v86 != 0) then(some (.ret ([],6))) else((aQ (x37+1)).bind fun v89=>kQ K v5 x34 k v89)) else(some (.go ()))
def s0 (K:Nat) (v5:Int) (x23:List (List Rat)):Option ((List Rat)×Int):=
 (qH K x23 v5).bind fun v31=>(slL v31.rows (v31.pivots.length:Int) (v31.rows.length:Int)).bind fun x34=>(kQ K v5 x34 K 0).bind fun o=>match o with| .ret r=>some r| .go _=>s8 K v5 v31
def kT (K:Nat) (a0:List (List Rat)) (a1:List Rat):Nat→(List (List Rat))→Int→Option (List (List Rat))
 |0,_,_=>none
 |k+1,x16,x22=>bif(decide (x22<(a0.length:Int))) then((bK a0 x22).bind fun v92=>(g8 v92).bind fun v96=>(bK a1 x22).bind fun v100=>(rM v96 [v100]).bind fun x102=>(rM x16 [x102]).bind fun x106=>(aQ (x22+1)).bind fun v113=>kT K a0 a1 k x106 v113) else(some x16)
def uD (K:Nat) (a0:List (List Rat)) (a1:List Rat):Option ((List Rat)×Int):=
 (sB K a0).bind fun v1=>bif(!v1) then(some ([],1)) else(bif((a1.length:Int) != (a0.length:Int)) then(some ([],1)) else((rI a0).bind fun v5=>(kT K a0 a1 K ([]:List (List Rat)) 0).bind fun x23=>s0 K v5 x23))
theorem aD2 {K:Nat} {a0:List (List Rat)} {a1:List Rat} {r:(List Rat)×Int} (hF:uD K a0 a1=some r):Ct Tryz.prog 104 [.vc (pS (fA cQ) a0),.vc (pS cQ a1)] (.t2 (.vc (pS cQ r.1)) (.vc (pI .i64 r.2))):=by
 unfold uD at hF
 refine aA Tryz.func104 rfl (by kernel_rfl) Tryz.ntmps104 rfl (fun w0 M0=>?_)
 refine aD (aI (aG (aM (.inr rfl)) ⟨eI cQ,trivial⟩ ?_))
 obtain⟨v1,h2,hF⟩:=bC hF aAV
 refine go ?_ ?_
 refine dV hF (fun h3 hF=>?_) (fun h3 hF=>?_)
 ·refine go ?_ ?_
  refine jS rfl ?_
  refine aD (aI (aG (aM (.inr rfl)) ⟨eI cQ,trivial⟩ ?_))
  exact bQ
 refine go ?_ ?_
 refine aE hF rfl (fun h4 hF=>?_) (fun h4 hF=>?_)
 ·refine aD (aI (aG (aM (.inr rfl)) ⟨eI cQ,trivial⟩ ?_))
  exact bQ
 refine fN (aH (aD (aI (fI ?_))))
 obtain⟨v5,h6,hF⟩:=bC hF yR
 refine aG (bJ rfl h6 rfl) zU1 ?_
 refine yK ?_
 refine aU (aH (aD (aI (qE (fA cQ) 24 rfl ?_))))
 refine go ?_ ?_
 refine aJ (aX (fun H E=>∃(x23:List (List Rat)),∃(b24:Option Nat),∃(c25:Nat),∃(n26:Nat),s0 K v5 x23=some r∧x23.length=n26∧H=[hO (fA cQ) b24 c25 24 n26 x23]∧E=[(6,.vc (pI .i64 v5)),(7,.vc (pO b24 n26 c25))]) ?_ (fun Jj30=>?_))
 ·rintro _ _ ⟨x23,b24,c25,n26,hF,q27,rfl,rfl⟩
  unfold s0 at hF
  refine aH (aD (aI (fI ?_)))
  refine fI ?_
  refine vX 0 [7,47] rfl q27 zU2 rfl ?_
  obtain⟨v31,h32,hF⟩:=bC hF aAl
  refine aG (bJ rfl h32 rfl) zU2 ?_
  refine aK rfl tyZ139q (fun b33=>?_)
  obtain⟨x34,h35,hF⟩:=aP hF
  refine go ?_ ?_
  refine aJ (aX (fun H E=>s8 K v5 v31=some r∧H=[⟨some b33,1,139,6,1,(iK.enc v31)⟩]∧E=[(6,.vc (pI .i64 v5)),(10,.vc (pP (some b33) 0))]) ?_ (fun Jj39=>?_))
  ·rintro _ _ ⟨hF,rfl,rfl⟩
   unfold s8 at hF
   obtain⟨x40,h41,hF⟩:=aP hF
   refine go ?_ ?_
   refine o7 (C:=cQ) rfl tyS24 rfl tyZ42q rfl h41 (fun b42=>?_)
   refine go ?_ ?_
   refine aJ (aX (fun H E=>∃(x59:List Rat),sP K x59=some r∧x59.length=x40.length∧H=[hO cQ b42 x40.length 42 x40.length x59]∧E=[(13,.vc (pO b42 x40.length x40.length))]) ?_ (fun Jj66=>?_))
   ·rintro _ _ ⟨x59,hF,q63,rfl,rfl⟩
    unfold sP at hF
    refine go ?_ ?_
    refine fY (fZ (tC 0 [4,13,90] rfl q63 ⟨rfl,rfl,rfl,trivial⟩ rfl ?_))
    obtain rfl:=iD hF
    exact jL (.inl rfl) Tryz.results104 (.tmp rfl (.tmp rfl .nil)) rfl rfl
   obtain⟨x59',hL,hRl65⟩:=aP hF
   refine dQ (fun k a w=>∃(x52:List Rat),∃(x58:Int),kW K v5 v31 k x52 x58=some x59'∧x52.length=x40.length∧hs _ [hO cQ b42 x40.length 42 x40.length x52,⟨some b33,1,139,6,1,(iK.enc v31)⟩] [(6,.vc (pI .i64 v5)),(10,.vc (pP (some b33) 0)),(13,.vc (pO b42 x40.length x40.length)),(71,.vc (pS cI v31.pivots)),(72,.vc (pI .i64 (v31.pivots.length:Int))),(73,.vc (pI .i64 x58))] a w) K (fun a w ⟨_,_,hF,_,_⟩=>by cases hF) (fun k a w ⟨x52,x58,hF,q56,hh⟩=>dP ?_ hh) (fun a w hh=>⟨x40,0,hL,rfl,iF [0,1] hh⟩)
   rw [kW.eq_2] at hF
   refine go ?_ ?_
   refine aE hF rfl (fun h67 hF=>?_) (fun h67 hF=>?_)
   ·refine go ?_ ?_
    refine aJ ?_
    obtain⟨v68,h69,v70,h71,v72,h73,v74,h75,hF⟩:=bn4 hF
    obtain⟨x76,h77,v79,h80,hF⟩:=tY hF
    refine go ?_ ?_
    exact aF (fun a w hh=>⟨x76,v79,hF,(bG h77 q56),iF [0,1] hh⟩)
   refine bH ?_
   obtain rfl:=iD hF
   exact rO Jj66 ⟨x52,hRl65,q56,rfl,rfl⟩ [0]
  obtain⟨ol38,hL,hRl38⟩:=aP hF
  refine dQ (fun k a w=>∃(x37:Int),kQ K v5 x34 k x37=some ol38∧hs _ [⟨some b33,1,139,6,1,(iK.enc v31)⟩] [(6,.vc (pI .i64 v5)),(10,.vc (pP (some b33) 0)),(55,.vc (pS (fA cQ) x34)),(56,.vc (pI .i64 (x34.length:Int))),(57,.vc (pI .i64 x37))] a w) K (fun a w ⟨_,hF,_⟩=>by cases hF) (fun k a w ⟨x37,hF,hh⟩=>dP ?_ hh) (fun a w hh=>⟨0,hL,iF [0] hh⟩)
  rw [kQ.eq_2] at hF
  refine go ?_ ?_
  refine aE hF rfl (fun h81 hF=>?_) (fun h81 hF=>?_)
  ·refine go ?_ ?_
   refine aJ ?_
   obtain⟨v82,h83,v84,h85,hF⟩:=tY hF
   obtain⟨v86,h87,hF⟩:=bC hF d8
   refine go ?_ ?_
   refine aE hF rfl (fun h88 hF=>?_) (fun h88 hF=>?_)
   ·refine aD (aI (aG (aM (.inr rfl)) ⟨eI cQ,trivial⟩ ?_))
    exact bQ
   obtain⟨v89,h90,hF⟩:=aP hF
   refine go ?_ ?_
   exact aF (fun a w hh=>⟨v89,hF,iF [0] hh⟩)
  refine bH ?_
  obtain rfl:=iD hF
  exact rO Jj39 ⟨hRl38,rfl,rfl⟩ [0]
 obtain⟨x23',hL,hRl29⟩:=aP hF
 refine dQ (fun k a w=>∃(x16:List (List Rat)),∃(x22:Int),∃(b17:Option Nat),∃(c18:Nat),∃(n19:Nat),kT K a0 a1 k x16 x22=some x23'∧x16.length=n19∧hs _ [hO (fA cQ) b17 c18 24 n19 x16] [(1,.vc (pS cQ a1)),(6,.vc (pI .i64 v5)),(7,.vc (pO b17 n19 c18)),(28,.vc (pS (fA cQ) a0)),(29,.vc (pI .i64 (a0.length:Int))),(30,.vc (pI .i64 x22))] a w) K (fun a w ⟨_,_,_,_,_,hF,_,_⟩=>by cases hF) (fun k a w ⟨x16,x22,b17,c18,n19,hF,q20,hh⟩=>dP ?_ hh) (fun a w hh=>⟨([]:List (List Rat)),0,none,0,0,hL,rfl,iF [0] hh⟩)
 rw [kT.eq_2] at hF
 refine go ?_ ?_
 refine aE hF rfl (fun h91 hF=>?_) (fun h91 hF=>?_)
 ·refine go ?_ ?_
  refine aJ ?_
  obtain⟨v92,h93,v96,h97,v100,h101,x102,h103,hF⟩:=bn4 hF
  refine go ?_ ?_
  refine rR (HsM [(0,fun G94=>[hO (fA cQ) b17 c18 24 n19 x16]),(1,fun G94=>[hO cQ ((G94 2).1) ((G94 2).2) 42 v96.length v96,hO (fA cQ) b17 c18 24 n19 x16]),(3,fun G94=>[hO (fA cQ) b17 c18 24 n19 x16])]) [2,8] [0,0,2,0,0,24,56,120,254,510,1023,2047] 10 2 [.v (.vc (pO b17 n19 c18)),.v (.vc (pS cQ v92)),.g (fun b c=>.vc (pO b v96.length c)),.v (.vc (pS cQ a1)),.v (.vc (pI .i64 x22)),.v (.vc (pM (cQ.e v100))),.v (.va (eQ v100)),.v (.vc (pS cQ [v100])),.g (fun _ _=>.vc (pS cQ x102)),.v (.vc (pS (fA cQ) [x102]))] aY ⟨⟨rfl,.run (L:=[0,1,3]) ⟨fun G94 A=>aM (.inl rfl),fun G94 A=>aM (.inl rfl),fun G94 A=>aM (.inl rfl),trivial⟩ (fun G94=>zU1)⟩,d1 0 (aM (.inl rfl)) zU1,⟨rfl,.hvy [0] ⟨fun G94 A=>aGF rfl (uE h97) rfl,trivial⟩ (fun G94=>zU1)⟩,⟨rfl,.run (L:=[0,1]) ⟨fun G94 A=>aM (.inl rfl),fun G94 A=>aM (.inl rfl),trivial⟩ (fun G94=>zU1)⟩,⟨rfl,.run (L:=[0,1]) ⟨fun G94 A=>aM (.inl rfl),fun G94 A=>aM (.inl rfl),trivial⟩ (fun G94=>zU1)⟩,⟨rfl,.run (L:=[0,1]) ⟨fun G94 A=>aDu rfl tyS24 h101,fun G94 A=>aDu rfl tyS24 h101,trivial⟩ (fun G94=>zU2)⟩,⟨rfl,.run (L:=[0,1]) ⟨fun G94 A=>aBh 4 rfl rfl (.agg tyA42),fun G94 A=>aBh 4 rfl rfl (.agg tyA42),trivial⟩ (fun G94=>zU1)⟩,⟨rfl,.run (L:=[0,1]) ⟨fun G94 A=>gG (C:=cQ) (xs:=[.tmp 41]) (ps:=[.va (eQ v100)]) (zs:=[v100]) rfl tyS24 rfl ⟨⟨trivial,rfl⟩,trivial⟩ rfl,fun G94 A=>gG (C:=cQ) (xs:=[.tmp 41]) (ps:=[.va (eQ v100)]) (zs:=[v100]) rfl tyS24 rfl ⟨⟨trivial,rfl⟩,trivial⟩ rfl,trivial⟩ (fun G94=>zU1)⟩,⟨rfl,.hvy [1] ⟨fun G94 A=>aB7 (aPN 0 (aDE 0 rfl tyS24 rfl rfl rfl h103) (fun _ _=>rfl) (cX h103 rfl) (fun _ _=>rfl)),trivial⟩ (fun G94=>zU2)⟩,d1 3 (gG (C:=(fA cQ)) (xs:=[.tmp 43]) (ps:=[.vc (pS cQ x102)]) (zs:=[x102]) rfl tyS23 rfl ⟨⟨trivial,rfl⟩,trivial⟩ rfl) zU1,trivial⟩ (fun bs95 G94=>?_)
  obtain⟨x106,h107,hF⟩:=aP hF
  refine mN 0 rfl tyS23 rfl rfl q20 rfl rfl h107 (fun b108 c109 H110 e111=>?_)
  cases e111
  obtain⟨v113,h114,hF⟩:=aP hF
  refine go ?_ ?_
  exact aF (fun a w hh=>⟨x106,v113,b108,c109,(n19+[x102].length),hF,(cX h107 q20),iF [0] hh⟩)
 refine bH ?_
 obtain rfl:=iD hF
 exact rO Jj30 ⟨x16,b17,c18,n19,hRl29,q20,rfl,rfl⟩ [0]
def lD (K:Nat) (x96:List Rat):Option ((List Rat)×Bool):=
 some (x96,true)
def dZ (K:Nat) (x17:List Int) (v79:(List Rat)×Int):Nat→(List Rat)→Int→Option (List Rat)
 |0,_,_=>none
 |k+1,x89,x95=>bif(decide (x95<(x17.length:Int))) then((bK x17 x95).bind fun v105=>(bK v79.1 x95).bind fun v107=>(bK x89 v105).bind fun v109=>(pN x89 v105 v107).bind fun x111=>(aQ (x95+1)).bind fun v114=>dZ K x17 v79 k x111 v114) else(some x89)
def l4 (K:Nat) (a1:List Rat) (x17:List Int) (x55:List Rat) (x61:List (List Rat)):Option ((List Rat)×Bool):=
 (y5 (a1.length:Int) 0).bind fun x69=>bif((x17.length:Int)==0) then(some (x69,true)) else((u5 K x61).bind fun v75=>bif(v75.2 != 0) then(some ([],false)) else(bif(v75.1 != (x17.length:Int)) then(some ([],false)) else((uD K x61 x55).bind fun v79=>bif(v79.2 != 0) then(some ([],false)) else((dZ K x17 v79 K x69 0).bind fun x96=>lD K x96))))
def lF (K:Nat) (a1:List Rat) (x42:List Rat) (x48:List (List Rat)) (x54:Int) (v117:Int) (recl67:(List Rat)→(List (List Rat))→Int→Option ((List Rat)×(List (List Rat)))) (x135:List Rat):Option ((List Rat)×(List (List Rat))):=
 (rM x48 [x135]).bind fun x143=>(bK a1 v117).bind fun v150=>(aBs v150).bind fun v152=>(rM x42 [v152]).bind fun x154=>(aQ (x54+1)).bind fun v161=>recl67 x154 x143 v161
def dX (K:Nat) (a0:List (List Rat)) (x17:List Int) (v117:Int):Nat→(List Rat)→Int→Option (List Rat)
 |0,_,_=>none
 |k+1,x128,x134=>bif(decide (x134<(x17.length:Int))) then((bK x17 x134).bind fun v164=>(bK a0 v117).bind fun v166=>(bK v166 v164).bind fun v168=>(rM x128 [v168]).bind fun x170=>(aQ (x134+1)).bind fun v177=>dX K a0 x17 v117 k x170 v177) else(some x128)
def dD (K:Nat) (a0:List (List Rat)) (a1:List Rat) (x17:List Int):Nat→(List Rat)→(List (List Rat))→Int→Option ((List Rat)×(List (List Rat)))
 |0,_,_,_=>none
 |k+1,x42,x48,x54=>bif(decide (x54<(x17.length:Int))) then((bK x17 x54).bind fun v117=>(dX K a0 x17 v117 K ([]:List Rat) 0).bind fun x135=>lF K a1 x42 x48 x54 v117 (dD K a0 a1 x17 k) x135) else(some (x42,x48))
def lW (K:Nat) (a0:List (List Rat)) (a1:List Rat) (x17:List Int):Option ((List Rat)×Bool):=
 (dD K a0 a1 x17 K ([]:List Rat) ([]:List (List Rat)) 0).bind fun(x55,x61)=>l4 K a1 x17 x55 x61
def dE (K:Nat) (a2:List Bool):Nat→(List Int)→Int→Option (List Int)
 |0,_,_=>none
 |k+1,x10,x16=>bif(decide (x16<(a2.length:Int))) then((bK a2 x16).bind fun v180=>bif v180 then((rM x10 [x16]).bind fun x183=>(aQ (x16+1)).bind fun v190=>dE K a2 k x183 v190) else((aQ (x16+1)).bind fun v192=>dE K a2 k x10 v192)) else(some x10)
def lI (K:Nat) (a0:List (List Rat)) (a1:List Rat) (a2:List Bool):Option ((List Rat)×Bool):=
 (dE K a2 K ([]:List Int) 0).bind fun x17=>lW K a0 a1 x17
theorem aAe {K:Nat} {a0:List (List Rat)} {a1:List Rat} {a2:List Bool} {r:(List Rat)×Bool} (hF:lI K a0 a1 a2=some r):Ct Tryz.prog 65 [.vc (pS (fA cQ) a0),.vc (pS cQ a1),.vc (pS cB a2)] (.t2 (.vc (pS cQ r.1)) (.vc (pB r.2))):=by
 unfold lI at hF
 refine aA Tryz.func65 rfl (by kernel_rfl) Tryz.ntmps65 rfl (fun w0 M0=>?_)
 refine aD (aI (aG (aM (.inr rfl)) ⟨eI cQ,trivial⟩ ?_))
 refine aG (aM (.inr rfl)) ⟨k_B _,trivial⟩ ?_
 refine aU (aH (aD (aI (qE cI 3 rfl ?_))))
 refine go ?_ ?_
 refine aJ (aX (fun H E=>∃(x17:List Int),∃(b18:Option Nat),∃(c19:Nat),∃(n20:Nat),lW K a0 a1 x17=some r∧x17.length=n20∧H=[hO cI b18 c19 3 n20 x17]∧E=[(0,.vc (pS (fA cQ) a0)),(1,.vc (pS cQ a1)),(8,.vc (pO b18 n20 c19))]) ?_ (fun Jj24=>?_))
 ·rintro _ _ ⟨x17,b18,c19,n20,hF,q21,rfl,rfl⟩
  unfold lW at hF
  refine aH (aD (aI (qE (fA cQ) 24 rfl ?_)))
  refine aU (aH (aD (aI (qE cQ 42 rfl ?_))))
  refine go ?_ ?_
  refine aJ (aX (fun H E=>∃(x55:List Rat),∃(x61:List (List Rat)),∃(b56:Option Nat),∃(c57:Nat),∃(n58:Nat),∃(b62:Option Nat),∃(c63:Nat),∃(n64:Nat),l4 K a1 x17 x55 x61=some r∧x55.length=n58∧x61.length=n64∧H=[hO cQ b56 c57 42 n58 x55,hO (fA cQ) b62 c63 24 n64 x61,hO cI b18 c19 3 n20 x17]∧E=[(1,.vc (pS cQ a1)),(8,.vc (pO b18 n20 c19)),(11,.vc (pO b62 n64 c63)),(12,.vc (pO b56 n58 c57))]) ?_ (fun Jj68=>?_))
  ·rintro _ _ ⟨x55,x61,b56,c57,n58,b62,c63,n64,hF,q59,q65,rfl,rfl⟩
   unfold l4 at hF
   obtain⟨x69,h70,hF⟩:=aP hF
   refine go ?_ ?_
   refine o7 (C:=cQ) rfl tyS24 rfl tyZ42q rfl h70 (fun b71=>?_)
   refine go ?_ ?_
   refine aE hF rfl (fun h74 hF=>?_) (fun h74 hF=>?_)
   ·refine go ?_ ?_
    refine fY (fZ (tC 0 [6,18,76,80] rfl rfl ⟨rfl,rfl,rfl,rfl,trivial⟩ rfl ?_))
    obtain rfl:=iD hF
    exact jL (.inl rfl) Tryz.results65 (.tmp rfl (.tmp rfl .nil)) rfl rfl
   refine fN (aH (aD (aD (aI (fI ?_)))))
   refine vX 2 [11,82] rfl q65 zU2 rfl ?_
   obtain⟨v75,h76,hF⟩:=bC hF aEt
   refine go ?_ ?_
   refine dV hF (fun h77 hF=>?_) (fun h77 hF=>?_)
   ·refine go ?_ ?_
    refine jS rfl ?_
    refine aD (aI (aG (aM (.inr rfl)) ⟨eI cQ,trivial⟩ ?_))
    exact bQ
   refine go ?_ ?_
   refine aE hF rfl (fun h78 hF=>?_) (fun h78 hF=>?_)
   ·refine aD (aI (aG (aM (.inr rfl)) ⟨eI cQ,trivial⟩ ?_))
    exact bQ
   refine fN (aH (aD (aI (fI ?_))))
   refine fI ?_
   refine vX 1 [12,96] rfl q59 zU2 rfl ?_
   obtain⟨v79,h80,hF⟩:=bC hF aD2
   refine go ?_ ?_
   refine aE hF rfl (fun h81 hF=>?_) (fun h81 hF=>?_)
   ·refine aD (aI (aG (aM (.inr rfl)) ⟨eI cQ,trivial⟩ ?_))
    exact bQ
   refine go ?_ ?_
   refine aJ (aX (fun H E=>∃(x96:List Rat),lD K x96=some r∧x96.length=x69.length∧H=[hO cQ b71 x69.length 42 x69.length x96]∧E=[(18,.vc (pO b71 x69.length x69.length))]) ?_ (fun Jj103=>?_))
   ·rintro _ _ ⟨x96,hF,q100,rfl,rfl⟩
    unfold lD at hF
    refine go ?_ ?_
    refine fY (fZ (tC 0 [6,18,117] rfl q100 ⟨rfl,rfl,rfl,trivial⟩ rfl ?_))
    obtain rfl:=iD hF
    exact jL (.inl rfl) Tryz.results65 (.tmp rfl (.tmp rfl .nil)) rfl rfl
   obtain⟨x96',hL,hRl102⟩:=aP hF
   refine dQ (fun k a w=>∃(x89:List Rat),∃(x95:Int),dZ K x17 v79 k x89 x95=some x96'∧x89.length=x69.length∧hs _ [hO cQ b71 x69.length 42 x69.length x89,hO cI b18 c19 3 n20 x17] [(18,.vc (pO b71 x69.length x69.length)),(21,.vc (pS cQ v79.1)),(102,.vc (pO b18 n20 c19)),(103,.vc (pI .i64 (x17.length:Int))),(104,.vc (pI .i64 x95))] a w) K (fun a w ⟨_,_,hF,_,_⟩=>by cases hF) (fun k a w ⟨x89,x95,hF,q93,hh⟩=>dP ?_ hh) (fun a w hh=>⟨x69,0,hL,rfl,iF [0,1] hh⟩)
   rw [dZ.eq_2] at hF
   refine go ?_ ?_
   refine aE hF rfl (fun h104 hF=>?_) (fun h104 hF=>?_)
   ·refine go ?_ ?_
    refine aJ ?_
    obtain⟨v105,h106,v107,h108,v109,h110,x111,h112,hF⟩:=bn4 hF
    obtain⟨v114,h115,hF⟩:=aP hF
    refine go ?_ ?_
    exact aF (fun a w hh=>⟨x111,v114,hF,(bG h112 q93),iF [0,1] hh⟩)
   refine bH ?_
   obtain rfl:=iD hF
   exact rO Jj103 ⟨x89,hRl102,q93,rfl,rfl⟩ [0]
  obtain⟨⟨x55',x61'⟩,hL,hRl67⟩:=aP hF
  refine dQ (fun k a w=>∃(x42:List Rat),∃(x48:List (List Rat)),∃(x54:Int),∃(b43:Option Nat),∃(c44:Nat),∃(n45:Nat),∃(b49:Option Nat),∃(c50:Nat),∃(n51:Nat),dD K a0 a1 x17 k x42 x48 x54=some (x55',x61')∧x42.length=n45∧x48.length=n51∧hs _ [hO cQ b43 c44 42 n45 x42,hO (fA cQ) b49 c50 24 n51 x48,hO cI b18 c19 3 n20 x17] [(0,.vc (pS (fA cQ) a0)),(1,.vc (pS cQ a1)),(8,.vc (pO b18 n20 c19)),(11,.vc (pO b49 n51 c50)),(12,.vc (pO b43 n45 c44)),(38,.vc (pO b18 n20 c19)),(39,.vc (pI .i64 (x17.length:Int))),(40,.vc (pI .i64 x54))] a w) K (fun a w ⟨_,_,_,_,_,_,_,_,_,hF,_,_,_⟩=>by cases hF) (fun k a w ⟨x42,x48,x54,b43,c44,n45,b49,c50,n51,hF,q46,q52,hh⟩=>dP ?_ hh) (fun a w hh=>⟨([]:List Rat),([]:List (List Rat)),0,none,0,0,none,0,0,hL,rfl,rfl,iF [0,1,2] hh⟩)
  rw [dD.eq_2] at hF
  refine go ?_ ?_
  refine aE hF rfl (fun h116 hF=>?_) (fun h116 hF=>?_)
  ·refine go ?_ ?_
   refine aJ (aD (aI ?_))
   obtain⟨v117,h118,hF⟩:=aP hF
   refine aG (d7 (C:=cI) 2 rfl tyS22 rfl q21 (aC h118).1 (aC h118).2.1) zU2 ?_
   refine aG (iC (k:=1) 2 rfl rfl h118 rfl (.one tyO3) rfl) zU1 ?_
   refine yK ?_
   refine aU (aH (aD (aI (qE cQ 42 rfl ?_))))
   refine go ?_ ?_
   refine aJ (aX (fun H E=>∃(x135:List Rat),∃(b136:Option Nat),∃(c137:Nat),∃(n138:Nat),lF K a1 x42 x48 x54 v117 (dD K a0 a1 x17 k) x135=some (x55',x61')∧x135.length=n138∧H=[hO cQ b136 c137 42 n138 x135,hO cQ b43 c44 42 n45 x42,hO (fA cQ) b49 c50 24 n51 x48,hO cI b18 c19 3 n20 x17]∧E=[(0,.vc (pS (fA cQ) a0)),(1,.vc (pS cQ a1)),(8,.vc (pO b18 n20 c19)),(11,.vc (pO b49 n51 c50)),(12,.vc (pO b43 n45 c44)),(14,.vc (pI .i64 v117)),(15,.vc (pO b136 n138 c137)),(38,.vc (pO b18 n20 c19)),(39,.vc (pI .i64 (x17.length:Int))),(40,.vc (pI .i64 x54))]) ?_ (fun Jj142=>?_))
   ·rintro _ _ ⟨x135,b136,c137,n138,hF,q139,rfl,rfl⟩
    unfold lF at hF
    refine aH (aD (aI (fI ?_)))
    refine fI ?_
    refine vX 0 [15,62] rfl q139 zU2 rfl ?_
    refine aG (gG (C:=(fA cQ)) (xs:=[.tmp 62]) (ps:=[.vc (pS cQ x135)]) (zs:=[x135]) rfl tyS23 rfl ⟨⟨trivial,rfl⟩,trivial⟩ rfl) zU1 ?_
    obtain⟨x143,h144,hF⟩:=aP hF
    refine mN 1 rfl tyS23 rfl rfl q52 rfl rfl h144 (fun b145 c146 H147 e148=>?_)
    cases e148
    obtain⟨v150,h151,hF⟩:=aP hF
    obtain⟨v152,h153,hF⟩:=bC hF tZ
    refine go ?_ ?_
    refine aG (gG (C:=cQ) (xs:=[.tmp 70]) (ps:=[.va (eQ v152)]) (zs:=[v152]) rfl tyS24 rfl ⟨⟨trivial,rfl⟩,trivial⟩ rfl) zU1 ?_
    obtain⟨x154,h155,hF⟩:=aP hF
    refine mN 0 rfl tyS24 rfl rfl q46 rfl rfl h155 (fun b156 c157 H158 e159=>?_)
    cases e159
    obtain⟨v161,h162,hF⟩:=aP hF
    refine go ?_ ?_
    exact aF (fun a w hh=>⟨x154,x143,v161,b156,c157,(n45+[v152].length),b145,c146,(n51+[x135].length),hF,(cX h155 q46),(cX h144 q52),iF [0,1,2] hh⟩)
   obtain⟨x135',hL,hRl141⟩:=aP hF
   refine dQ (fun k a w=>∃(x128:List Rat),∃(x134:Int),∃(b129:Option Nat),∃(c130:Nat),∃(n131:Nat),dX K a0 x17 v117 k x128 x134=some x135'∧x128.length=n131∧hs _ [hO cQ b129 c130 42 n131 x128,hO cQ b43 c44 42 n45 x42,hO (fA cQ) b49 c50 24 n51 x48,hO cI b18 c19 3 n20 x17] [(0,.vc (pS (fA cQ) a0)),(1,.vc (pS cQ a1)),(8,.vc (pO b18 n20 c19)),(11,.vc (pO b49 n51 c50)),(12,.vc (pO b43 n45 c44)),(14,.vc (pI .i64 v117)),(15,.vc (pO b129 n131 c130)),(38,.vc (pO b18 n20 c19)),(39,.vc (pI .i64 (x17.length:Int))),(40,.vc (pI .i64 x54)),(44,.vc (pO b18 n20 c19)),(45,.vc (pI .i64 (x17.length:Int))),(46,.vc (pI .i64 x134))] a w) K (fun a w ⟨_,_,_,_,_,hF,_,_⟩=>by cases hF) (fun k a w ⟨x128,x134,b129,c130,n131,hF,q132,hh⟩=>dP ?_ hh) (fun a w hh=>⟨([]:List Rat),0,none,0,0,hL,rfl,iF [0,1,2,3] hh⟩)
   rw [dX.eq_2] at hF
   refine go ?_ ?_
   refine aE hF rfl (fun h163 hF=>?_) (fun h163 hF=>?_)
   ·refine go ?_ ?_
    refine aJ ?_
    obtain⟨v164,h165,v166,h167,v168,h169,hF⟩:=bn3 hF
    refine go ?_ ?_
    refine aG (gG (C:=cQ) (xs:=[.tmp 57]) (ps:=[.va (eQ v168)]) (zs:=[v168]) rfl tyS24 rfl ⟨⟨trivial,rfl⟩,trivial⟩ rfl) zU1 ?_
    obtain⟨x170,h171,hF⟩:=aP hF
    refine mN 0 rfl tyS24 rfl rfl q132 rfl rfl h171 (fun b172 c173 H174 e175=>?_)
    cases e175
    obtain⟨v177,h178,hF⟩:=aP hF
    refine go ?_ ?_
    exact aF (fun a w hh=>⟨x170,v177,b172,c173,(n131+[v168].length),hF,(cX h171 q132),iF [0,1,2,3] hh⟩)
   refine bH ?_
   obtain rfl:=iD hF
   exact rO Jj142 ⟨x128,b129,c130,n131,hRl141,q132,rfl,rfl⟩ [0,1,2,3]
  refine bH ?_
  obtain⟨rfl,rfl⟩:=sm2 hF
  exact rO Jj68 ⟨x42,x48,b43,c44,n45,b49,c50,n51,hRl67,q46,q52,rfl,rfl⟩ [0,1,2]
 obtain⟨x17',hL,hRl23⟩:=aP hF
 refine dQ (fun k a w=>∃(x10:List Int),∃(x16:Int),∃(b11:Option Nat),∃(c12:Nat),∃(n13:Nat),dE K a2 k x10 x16=some x17'∧x10.length=n13∧hs _ [hO cI b11 c12 3 n13 x10] [(0,.vc (pS (fA cQ) a0)),(1,.vc (pS cQ a1)),(8,.vc (pO b11 n13 c12)),(25,.vc (pS cB a2)),(26,.vc (pI .i64 (a2.length:Int))),(27,.vc (pI .i64 x16))] a w) K (fun a w ⟨_,_,_,_,_,hF,_,_⟩=>by cases hF) (fun k a w ⟨x10,x16,b11,c12,n13,hF,q14,hh⟩=>dP ?_ hh) (fun a w hh=>⟨([]:List Int),0,none,0,0,hL,rfl,iF [0] hh⟩)
 rw [dE.eq_2] at hF
 refine go ?_ ?_
 refine aE hF rfl (fun h179 hF=>?_) (fun h179 hF=>?_)
 ·refine go ?_ ?_
  refine aJ ?_
  obtain⟨v180,h181,hF⟩:=aP hF
  refine go ?_ ?_
  refine aE hF rfl (fun h182 hF=>?_) (fun h182 hF=>?_)
  ·refine go ?_ ?_
   refine aG (gG (C:=cI) (xs:=[.tmp 34]) (ps:=[.vc (pI .i64 x16)]) (zs:=[x16]) rfl tyS22 rfl ⟨⟨trivial,rfl⟩,trivial⟩ rfl) zU1 ?_
   obtain⟨x183,h184,hF⟩:=aP hF
   refine mN 0 rfl tyS22 rfl rfl q14 rfl rfl h184 (fun b185 c186 H187 e188=>?_)
   cases e188
   obtain⟨v190,h191,hF⟩:=aP hF
   refine go ?_ ?_
   exact aF (fun a w hh=>⟨x183,v190,b185,c186,(n13+[x16].length),hF,(cX h184 q14),iF [0] hh⟩)
  obtain⟨v192,h193,hF⟩:=aP hF
  refine go ?_ ?_
  exact aF (fun a w hh=>⟨x10,v192,b11,c12,n13,hF,q14,iF [0] hh⟩)
 refine bH ?_
 obtain rfl:=iD hF
 exact rO Jj24 ⟨x10,b11,c12,n13,hRl23,q14,rfl,rfl⟩ [0]
def qN (K:Nat) (a0:List Rat) (a1:List Rat):Option Bool:=
 some ((a0.length:Int)==(a1.length:Int))
def jD (K:Nat) (a0:List Rat) (a1:List Rat):Nat→Int→Option (LR Bool Unit)
 |0,_=>none
 |k+1,x2=>bif(decide (x2<(a0.length:Int))) then((bK a0 x2).bind fun v8=>(bK a1 x2).bind fun v10=>(aFA v8 v10).bind fun v12=>bif(!v12) then(some (.ret false)) else((aQ (x2+1)).bind fun v15=>jD K a0 a1 k v15)) else(some (.go ()))
def rA (K:Nat) (a0:List Rat) (a1:List Rat):Option Bool:=
 (jD K a0 a1 K 0).bind fun o=>match o with| .ret r=>some r| .go _=>qN K a0 a1
theorem aCx {K:Nat} {a0:List Rat} {a1:List Rat} {r:Bool} (hF:rA K a0 a1=some r):Ct Tryz.prog 66 [.vc (pS cQ a0),.vc (pS cQ a1)] (.vc (pB r)):=by
 unfold rA at hF
 refine aA Tryz.func66 rfl (by kernel_rfl) Tryz.ntmps66 rfl (fun w0 M0=>?_)
 refine go ?_ ?_
 refine aJ (aX (fun H E=>qN K a0 a1=some r∧H=[]∧E=[(0,.vc (pS cQ a0)),(1,.vc (pS cQ a1))]) ?_ (fun Jj4=>?_))
 ·rintro _ _ ⟨hF,rfl,rfl⟩
  unfold qN at hF
  exact bQ
 obtain⟨ol3,hL,hRl3⟩:=aP hF
 refine dQ (fun k a w=>∃(x2:Int),jD K a0 a1 k x2=some ol3∧hs _ [] [(0,.vc (pS cQ a0)),(1,.vc (pS cQ a1)),(7,.vc (pI .i64 (a0.length:Int))),(8,.vc (pI .i64 x2))] a w) K (fun a w ⟨_,hF,_⟩=>by cases hF) (fun k a w ⟨x2,hF,hh⟩=>dP ?_ hh) (fun a w hh=>⟨0,hL,iF [] hh⟩)
 rw [jD.eq_2] at hF
 refine go ?_ ?_
 refine aE hF rfl (fun h5 hF=>?_) (fun h5 hF=>?_)
 ·refine go ?_ ?_
  refine aJ ?_
  obtain⟨v8,h9,v10,h11,hF⟩:=tY hF
  obtain⟨v12,h13,hF⟩:=bC hF aIn
  refine go ?_ ?_
  refine dr [0,0,3,7,0,0,48,112,255,511] 10 0 ?_ (fun bs7 G6=>?_)
  refine aU (aH (aE hF rfl (fun h14 hF=>?_) (fun h14 hF=>?_)))
  ·exact bQ
  obtain⟨v15,h16,hF⟩:=aP hF
  refine go ?_ ?_
  exact aF (fun a w hh=>⟨v15,hF,iF [] hh⟩)
 refine bH ?_
 obtain rfl:=iD hF
 exact rO Jj4 ⟨hRl3,rfl,rfl⟩ []
def nW (a0:Int):Option Int:=
 some a0
theorem zF {a0:Int} {r:Int} (hF:nW a0=some r):CtO Tryz.prog 64 [] [.vc (pI .i64 a0)] (fun Ho q=>Ho=[]∧q=.vc (pF 102 [pM (cI.e r)])):=by
 unfold nW at hF
 refine aA Tryz.func64 rfl (by kernel_rfl) Tryz.ntmps64 rfl (fun w0 M0=>?_)
 refine aD (aI (cP rfl rfl trivial (fun b1=>?_)))
 refine aG (aM (p:=.any) (.inr rfl)) ⟨fun _=>trivial,trivial⟩ ?_
 refine aU (aH (aD (aI (aEQ 0 [(1,0)] rfl zU1 rfl ?_))))
 refine aG (aLq (xs:=[.tmp 1]) (cs:=[pM (cI.e a0)]) rfl rfl) zU1 ?_
 refine go ?_ ?_
 refine fY (fZ ?_)
 obtain rfl:=iD hF
 exact aCn (.inl rfl) Tryz.results64 (.tmp rfl .nil) rfl [] rfl (by decide) ⟨rfl,rfl⟩
def jZ (K:Nat) (x29:List (List Rat)):Option (Nat×(List (List Rat))):=
 some (0,x29)
def jY (K:Nat) (yF:(List Bool)→(List (List Rat))→Option (Nat×(List (List Rat)))) (x22:List (List Rat)) (x28:Int) (recl35:(List (List Rat))→Int→Option (LR (Nat×(List (List Rat))) (List (List Rat)))) (x57:List Bool):Option (LR (Nat×(List (List Rat))) (List (List Rat))):=
 (yF x57 x22).bind fun v65=>bif Nat.beq v65.1 0 then((aQ (x28+1)).bind fun v74=>recl35 v65.2 v74) else(some (.ret (v65.1,v65.2)))
def dC (K:Nat) (x28:Int) (x38:List Bool):Nat→(List Bool)→Int→Option (List Bool)
 |0,_,_=>none
 |k+1,x50,x56=>bif(decide (x56<(x38.length:Int))) then((aNL x28 x56).bind fun v85=>(bK x50 x56).bind fun v87=>(pN x50 x56 ((ian v85 1)==1)).bind fun x89=>(aQ (x56+1)).bind fun v92=>dC K x28 x38 k x89 v92) else(some x50)
def cG (K:Nat) (a0:Int) (yF:(List Bool)→(List (List Rat))→Option (Nat×(List (List Rat)))) (v13:Int):Nat→(List (List Rat))→Int→Option (LR (Nat×(List (List Rat))) (List (List Rat)))
 |0,_,_=>none
 |k+1,x22,x28=>bif(decide (x28<v13)) then((y5 a0 false).bind fun x38=>(dC K x28 x38 K x38 0).bind fun x57=>jY K yF x22 x28 (cG K a0 yF v13 k) x57) else(some (.go x22))
def mC (K:Nat) (yF:(List Bool)→(List (List Rat))→Option (Nat×(List (List Rat)))) (a0:Int) (a1:List Rat) (a2:List (List Rat)) (a3:List (List Rat)):Option (Nat×(List (List Rat))):=
 (aNR 1 a0).bind fun v13=>(cG K a0 yF v13 K a3 0).bind fun o=>match o with| .ret r=>some r| .go x29=>jZ K x29
theorem yL {K:Nat} {yF:(List Bool)→(List (List Rat))→Option (Nat×(List (List Rat)))} {l:Nat} {x:LX} {jump:Nat→Code} {Mb:iB} {a0:Int} {a1:List Rat} {a2:List (List Rat)} {a3:List (List Rat)} {p0:Nat} {p1:Nat} {p2:Nat} {b2:Option Nat} {c3 n4:Nat} (hY:∀(k0:List Bool) (x7:List (List Rat)) (r:Nat×(List (List Rat))) (b8:Option Nat) (c9:Nat) (n10:Nat),x7.length=n10→yF k0 x7=some r→CtY Tryz.prog l x jump Mb [⟨some p0,1,23,1,1,[pO b8 n10 c9]⟩,⟨some p1,1,24,1,1,[pS cQ a1]⟩,⟨some p2,1,23,1,1,[pS (fA cQ) a2]⟩,hO (fA cQ) b8 c9 24 n10 x7] [.vc (pS cB k0)] (fun j Ho=>∃(b8':Option Nat),∃(c9':Nat),∃(n10':Nat),j=r.1∧r.2.length=n10'∧Ho=[⟨some p0,1,23,1,1,[pO b8' n10' c9']⟩,⟨some p1,1,24,1,1,[pS cQ a1]⟩,⟨some p2,1,23,1,1,[pS (fA cQ) a2]⟩,hO (fA cQ) b8' c9' 24 n10' r.2])) {r:Nat×(List (List Rat))} (hF:mC K yF a0 a1 a2 a3=some r) (q5:a3.length=n4):CtI Tryz.prog 102 l x jump Mb [⟨some p0,1,23,1,1,[pO b2 n4 c3]⟩,⟨some p1,1,24,1,1,[pS cQ a1]⟩,⟨some p2,1,23,1,1,[pS (fA cQ) a2]⟩,hO (fA cQ) b2 c3 24 n4 a3] [.vc (pY l),.vc (pM (cI.e a0))] (fun j Ho=>∃(b8':Option Nat),∃(c9':Nat),∃(n10':Nat),j=r.1∧r.2.length=n10'∧Ho=[⟨some p0,1,23,1,1,[pO b8' n10' c9']⟩,⟨some p1,1,24,1,1,[pS cQ a1]⟩,⟨some p2,1,23,1,1,[pS (fA cQ) a2]⟩,hO (fA cQ) b8' c9' 24 n10' r.2]):=by
 unfold mC at hF
 refine aF2 Tryz.func102 rfl (by kernel_rfl) Tryz.ntmps102 rfl (fun w0 M0 h0 hMb=>?_)
 obtain⟨v13,h14,hF⟩:=aP hF
 refine go ?_ ?_
 refine aG (aRq rfl h14) ⟨p6 _ _,rfl,trivial⟩ ?_
 refine go ?_ ?_
 refine aJ (aX (fun H E=>∃(x29:List (List Rat)),∃(b30:Option Nat),∃(c31:Nat),∃(n32:Nat),jZ K x29=some r∧x29.length=n32∧H=[⟨some p0,1,23,1,1,[pO b30 n32 c31]⟩,⟨some p1,1,24,1,1,[pS cQ a1]⟩,⟨some p2,1,23,1,1,[pS (fA cQ) a2]⟩,hO (fA cQ) b30 c31 24 n32 x29]∧E=[]) ?_ (fun Jj36=>?_))
 ·rintro _ _ ⟨x29,b30,c31,n32,hF,q33,rfl,rfl⟩
  unfold jZ at hF
  obtain rfl:=iD hF
  exact aD7 0 (.inr rfl) Tryz.results102 h0 (aAm [0,1,2,3] rfl) ⟨b30,c31,n32,rfl,q33,rfl⟩
 obtain⟨ol35,hL,hRl35⟩:=aP hF
 refine dQ (fun k a w=>∃(x22:List (List Rat)),∃(x28:Int),∃(b23:Option Nat),∃(c24:Nat),∃(n25:Nat),cG K a0 yF v13 k x22 x28=some ol35∧x22.length=n25∧hs _ [⟨some p0,1,23,1,1,[pO b23 n25 c24]⟩,⟨some p1,1,24,1,1,[pS cQ a1]⟩,⟨some p2,1,23,1,1,[pS (fA cQ) a2]⟩,hO (fA cQ) b23 c24 24 n25 x22] [(0,.vc (pY l)),(1,.vc (pM (cI.e a0))),(7,.vc (pI .i64 v13)),(8,.vc (pI .i64 x28))] a w) K (fun a w ⟨_,_,_,_,_,hF,_,_⟩=>by cases hF) (fun k a w ⟨x22,x28,b23,c24,n25,hF,q26,hh⟩=>dP ?_ hh) (fun a w hh=>⟨a3,0,b2,c3,n4,hL,q5,iF [0,1,2,3] hh⟩)
 rw [cG.eq_2] at hF
 refine go ?_ ?_
 refine aE hF rfl (fun h37 hF=>?_) (fun h37 hF=>?_)
 ·refine go ?_ ?_
  refine aJ ?_
  obtain⟨x38,h39,hF⟩:=aP hF
  refine go ?_ ?_
  refine o7 (C:=cB) rfl tyS85 rfl tyZ4q rfl h39 (fun b40=>?_)
  refine go ?_ ?_
  refine aJ (aX (fun H E=>∃(x57:List Bool),jY K yF x22 x28 (cG K a0 yF v13 k) x57=some ol35∧x57.length=x38.length∧H=[hO cB b40 x38.length 4 x38.length x57,⟨some p0,1,23,1,1,[pO b23 n25 c24]⟩,⟨some p1,1,24,1,1,[pS cQ a1]⟩,⟨some p2,1,23,1,1,[pS (fA cQ) a2]⟩,hO (fA cQ) b23 c24 24 n25 x22]∧E=[(0,.vc (pY l)),(1,.vc (pM (cI.e a0))),(4,.vc (pO b40 x38.length x38.length)),(7,.vc (pI .i64 v13)),(8,.vc (pI .i64 x28))]) ?_ (fun Jj64=>?_))
  ·rintro _ _ ⟨x57,hF,q61,rfl,rfl⟩
   unfold jY at hF
   refine aH (aD (aI (fI ?_)))
   refine fI ?_
   refine vX 0 [4,28] rfl q61 zU2 rfl ?_
   obtain⟨v65,h66,hF⟩:=aP hF
   refine aPK rfl (hY _ _ _ _ _ _ q26 h66) h0 hMb zU2 ?_ ?_
   ·skip
    rintro _ ⟨b69,c70,n71,hj67,q72,rfl⟩
    have hF:=rY (show Nat.beq v65.1 0=true by rw [←hj67];rfl) hF
    refine go ?_ ?_
    refine vM rfl ?_
    obtain⟨v74,h75,hF⟩:=aP hF
    refine go ?_ ?_
    exact aF (fun a w hh=>⟨v65.2,v74,b69,c70,n71,hF,q72,iF [0,1,2,3] hh⟩)
   rintro j76 _ ⟨b79,c80,n81,hj77,q82,rfl⟩
   have hF:=p8 (show Nat.beq v65.1 0=false by rw [←hj77];rfl) hF
   refine go ?_ ?_
   refine jS rfl ?_
   refine fY (fZ ?_)
   obtain rfl:=iD hF
   obtain rfl:=iD hRl35
   exact aD7 (j76+1) (.inl rfl) Tryz.results102 h0 (aAm [0,1,2,3] rfl) ⟨b79,c80,n81,hj77,q82,rfl⟩
  obtain⟨x57',hL,hRl63⟩:=aP hF
  refine dQ (fun k a w=>∃(x50:List Bool),∃(x56:Int),dC K x28 x38 k x50 x56=some x57'∧x50.length=x38.length∧hs _ [hO cB b40 x38.length 4 x38.length x50,⟨some p0,1,23,1,1,[pO b23 n25 c24]⟩,⟨some p1,1,24,1,1,[pS cQ a1]⟩,⟨some p2,1,23,1,1,[pS (fA cQ) a2]⟩,hO (fA cQ) b23 c24 24 n25 x22] [(0,.vc (pY l)),(1,.vc (pM (cI.e a0))),(3,.vc (pI .i64 x28)),(4,.vc (pO b40 x38.length x38.length)),(7,.vc (pI .i64 v13)),(8,.vc (pI .i64 x28)),(14,.vc (pI .i64 (x38.length:Int))),(15,.vc (pI .i64 x56))] a w) K (fun a w ⟨_,_,hF,_,_⟩=>by cases hF) (fun k a w ⟨x50,x56,hF,q54,hh⟩=>dP ?_ hh) (fun a w hh=>⟨x38,0,hL,rfl,iF [0,1,2,3,4] hh⟩)
  rw [dC.eq_2] at hF
  refine go ?_ ?_
  refine aE hF rfl (fun h84 hF=>?_) (fun h84 hF=>?_)
  ·refine go ?_ ?_
   refine aJ ?_
   obtain⟨v85,h86,hF⟩:=aP hF
   refine go ?_ ?_
   refine aG (aQ2 rfl h86) zU2 ?_
   refine aG (aQW rfl) ⟨rfl,p6 _ _,trivial⟩ ?_
   obtain⟨v87,h88,x89,h90,v92,h93,hF⟩:=bn3 hF
   refine go ?_ ?_
   exact aF (fun a w hh=>⟨x89,v92,hF,(bG h90 q54),iF [0,1,2,3,4] hh⟩)
  refine bH ?_
  obtain rfl:=iD hF
  exact rO Jj64 ⟨x50,hRl63,q54,rfl,rfl⟩ [0,1,2,3,4]
 refine bH ?_
 obtain rfl:=iD hF
 exact rO Jj36 ⟨x22,b23,c24,n25,hRl35,q26,rfl,rfl⟩ [0,1,2,3]
def qK (K:Nat) (x17:List (List Rat)) (v27:(List Rat)×Bool):Option (Nat×(List (List Rat))):=
 (rM x17 [v27.1]).bind fun x37=>some (0,x37)
def iZ (K:Nat) (x17:List (List Rat)) (v27:(List Rat)×Bool):Nat→Int→Option (LR (Nat×(List (List Rat))) Unit)
 |0,_=>none
 |k+1,x34=>bif(decide (x34<(x17.length:Int))) then((bK x17 x34).bind fun v45=>(rA K v45 v27.1).bind fun v47=>bif v47 then(some (.ret (0,x17))) else((aQ (x34+1)).bind fun v50=>iZ K x17 v27 k v50)) else(some (.go ()))
def nI (K:Nat) (a0:List (List Rat)) (a1:List Rat) (k23:List Bool) (x17:List (List Rat)):Option (Nat×(List (List Rat))):=
 (lI K a0 a1 k23).bind fun v27=>bif(!v27.2) then(some (0,x17)) else((mT K a0 a1 v27.1).bind fun v30=>bif(!v30) then(some (0,x17)) else((iZ K x17 v27 K 0).bind fun o=>match o with| .ret r=>some r| .go _=>qK K x17 v27))
def o5 (K:Nat) (a0:List (List Rat)) (a1:List Rat):Option ((List (List Rat))×Int):=
 (iA K a0 a1).bind fun v3=>bif(!v3) then(some ([],1)) else(bif(decide (8<(a1.length:Int))) then(some ([],4)) else((nW (a1.length:Int)).bind fun v14=>(mC K (nI K a0 a1) v14 a1 a0 ([]:List (List Rat))).bind fun v25=>bif Nat.beq v25.1 0 then(some (v25.2,0)) else(none)))
theorem zN {K:Nat} {a0:List (List Rat)} {a1:List Rat} {r:(List (List Rat))×Int} (hF:o5 K a0 a1=some r):Ct Tryz.prog 24 [.vc (pS (fA cQ) a0),.vc (pS cQ a1)] (.t2 (.vc (pS (fA cQ) r.1)) (.vc (pI .i64 r.2))):=by
 unfold o5 at hF
 refine aA Tryz.func24 rfl (by kernel_rfl) Tryz.ntmps24 rfl (fun w0 M0=>?_)
 refine aD (aI (cP rfl rfl trivial (fun b1=>?_)))
 refine cP rfl rfl trivial (fun b2=>?_)
 refine aG (aM (.inr rfl)) ⟨eI (fA cQ),trivial⟩ ?_
 obtain⟨v3,h4,hF⟩:=bC hF oI
 refine go ?_ ?_
 refine aE hF rfl (fun h5 hF=>?_) (fun h5 hF=>?_)
 ·refine aD (aI (aG (aM (.inr rfl)) ⟨eI (fA cQ),trivial⟩ ?_))
  exact bQ
 refine go ?_ ?_
 refine aE hF rfl (fun h6 hF=>?_) (fun h6 hF=>?_)
 ·refine aD (aI (aG (aM (.inr rfl)) ⟨eI (fA cQ),trivial⟩ ?_))
  exact bQ
 refine fN (aH (aD (aI (zU (fA cQ) 24 ?_))))
 refine aK rfl tyZ23_oq (fun b13=>?_)
 obtain⟨v14,h15,hF⟩:=aP hF
 refine go ?_ ?_
 refine aD5 [] [0,1,2,3] rfl (zF h15) zU1 rfl rfl (by decide) ?_
 rintro _ _ ⟨rfl,rfl⟩
 refine aU (aH (aJ (aN0 [0,2,3,1] rfl ?_)))
 obtain⟨v25,h26,hF⟩:=aP hF
 refine aNk (fun _=>Go.Code.skip) rfl (fun x l Mb hx1 hx2 hx3 ht=>yL (fun k23 x17 rb24 b18 c19 n20 q21 hF=>?_) h26 rfl) (fun Ho hHo=>?_) (fun j Ho hHo=>?_)
 ·refine aFI ht hx1 rfl (fun w0 M0 h0 hMb=>?_)
  rw [hx2,hx3]
  unfold nI at hF
  refine go ?_ ?_
  refine aJB h0 ?_
  refine aJ ?_
  obtain⟨v27,h28,hF⟩:=bC hF aAe
  refine go ?_ ?_
  refine dV hF (fun h29 hF=>?_) (fun h29 hF=>?_)
  ·refine go ?_ ?_
   refine jS rfl ?_
   refine bH ?_
   obtain rfl:=iD hF
   exact aKC h0 (aAm [0,1,2,3] rfl) ⟨b18,c19,n20,rfl,q21,rfl⟩
  obtain⟨v30,h31,hF⟩:=bC hF yA
  refine go ?_ ?_
  refine aE hF rfl (fun h32 hF=>?_) (fun h32 hF=>?_)
  ·refine bH ?_
   obtain rfl:=iD hF
   exact aKC h0 (aAm [0,1,2,3] rfl) ⟨b18,c19,n20,rfl,q21,rfl⟩
  refine go ?_ ?_
  refine aJ (aX (fun H E=>qK K x17 v27=some rb24∧H=[⟨some b13,1,23,1,1,[pO b18 n20 c19]⟩,⟨some b2,1,24,1,1,[pS cQ a1]⟩,⟨some b1,1,23,1,1,[pS (fA cQ) a0]⟩,hO (fA cQ) b18 c19 24 n20 x17]∧E=[(2,.vc (pP (some b1) 0)),(3,.vc (pP (some b2) 0)),(4,.vc (pS (fA cQ) [])),(5,.vc (pI .i64 0)),(6,.vc (pP (some b13) 0)),(8,.vc (pS cQ v27.1)),(21,.vc (pF 102 [pM (cI.e v14)]))]) ?_ (fun Jj36=>?_))
  ·rintro _ _ ⟨hF,rfl,rfl⟩
   unfold qK at hF
   refine go ?_ ?_
   refine aG (gG (C:=(fA cQ)) (xs:=[.tmp 50]) (ps:=[.vc (pS cQ v27.1)]) (zs:=[v27.1]) rfl tyS23 rfl ⟨⟨trivial,rfl⟩,trivial⟩ rfl) zU1 ?_
   obtain⟨x37,h38,hF⟩:=aP hF
   refine mN 3 rfl tyS23 rfl rfl q21 rfl rfl h38 (fun b39 c40 H41 e42=>?_)
   cases e42
   obtain rfl:=iD hF
   refine go ?_ ?_
   exact aKC h0 (aAm [0,1,2,3] rfl) ⟨b39,c40,(n20+[v27.1].length),rfl,(cX h38 q21),rfl⟩
  obtain⟨ol35,hL,hRl35⟩:=aP hF
  refine dQ (fun k a w=>∃(x34:Int),iZ K x17 v27 k x34=some ol35∧hs _ [⟨some b13,1,23,1,1,[pO b18 n20 c19]⟩,⟨some b2,1,24,1,1,[pS cQ a1]⟩,⟨some b1,1,23,1,1,[pS (fA cQ) a0]⟩,hO (fA cQ) b18 c19 24 n20 x17] [(2,.vc (pP (some b1) 0)),(3,.vc (pP (some b2) 0)),(4,.vc (pS (fA cQ) [])),(5,.vc (pI .i64 0)),(6,.vc (pP (some b13) 0)),(8,.vc (pS cQ v27.1)),(21,.vc (pF 102 [pM (cI.e v14)])),(39,.vc (pO b18 n20 c19)),(40,.vc (pI .i64 (x17.length:Int))),(41,.vc (pI .i64 x34))] a w) K (fun a w ⟨_,hF,_⟩=>by cases hF) (fun k a w ⟨x34,hF,hh⟩=>dP ?_ hh) (fun a w hh=>⟨0,hL,iF [0,1,2,3] hh⟩)
  rw [iZ.eq_2] at hF
  refine go ?_ ?_
  refine aE hF rfl (fun h44 hF=>?_) (fun h44 hF=>?_)
  ·refine go ?_ ?_
   refine aJ ?_
   obtain⟨v45,h46,hF⟩:=aP hF
   obtain⟨v47,h48,hF⟩:=bC hF aCx
   refine go ?_ ?_
   refine aE hF rfl (fun h49 hF=>?_) (fun h49 hF=>?_)
   ·refine bH ?_
    obtain rfl:=iD hF
    obtain rfl:=iD hRl35
    exact aKC h0 (aAm [0,1,2,3] rfl) ⟨b18,c19,n20,rfl,q21,rfl⟩
   obtain⟨v50,h51,hF⟩:=aP hF
   refine go ?_ ?_
   exact aF (fun a w hh=>⟨v50,hF,iF [0,1,2,3] hh⟩)
  refine bH ?_
  obtain rfl:=iD hF
  exact rO Jj36 ⟨hRl35,rfl,rfl⟩ [0,1,2,3]
 ·skip
  obtain⟨b54,c55,n56,hj52,q57,rfl⟩:=hHo
  have hF:=rY (show Nat.beq v25.1 0=true by rw [←hj52];rfl) hF
  refine go ?_ ?_
  refine fY (fZ (aQw 3 0 0 [4,53] rfl q57 rfl rfl rfl rfl rfl zU2 ?_))
  obtain rfl:=iD hF
  exact jL (.inl rfl) Tryz.results24 (.tmp rfl (.tmp rfl .nil)) rfl rfl
 obtain⟨b18,c19,n20,hj,q21,rfl⟩:=hHo
 have hF:=p8 (show Nat.beq v25.1 0=false by rw [←hj];rfl) hF
 cases hF
def m5 (K:Nat):Option Bool:=
 some true
def fT (K:Nat) (a0:List (List Rat)) (a1:List (List Rat)):Nat→Int→Option (LR Bool Unit)
 |0,_=>none
 |k+1,x3=>bif(decide (x3<(a0.length:Int))) then((bK a0 x3).bind fun v9=>(bK a1 x3).bind fun v11=>(fW K v9 v11).bind fun v13=>bif(!v13) then(some (.ret false)) else((aQ (x3+1)).bind fun v16=>fT K a0 a1 k v16)) else(some (.go ()))
def mJ (K:Nat) (a0:List (List Rat)) (a1:List (List Rat)):Option Bool:=
 bif((a0.length:Int) != (a1.length:Int)) then(some false) else((fT K a0 a1 K 0).bind fun o=>match o with| .ret r=>some r| .go _=>m5 K)
theorem aAB {K:Nat} {a0:List (List Rat)} {a1:List (List Rat)} {r:Bool} (hF:mJ K a0 a1=some r):Ct Tryz.prog 26 [.vc (pS (fA cQ) a0),.vc (pS (fA cQ) a1)] (.vc (pB r)):=by
 unfold mJ at hF
 refine aA Tryz.func26 rfl (by kernel_rfl) Tryz.ntmps26 rfl (fun w0 M0=>?_)
 refine go ?_ ?_
 refine aE hF rfl (fun h1 hF=>?_) (fun h1 hF=>?_)
 ·exact bQ
 refine go ?_ ?_
 refine aJ (aX (fun H E=>m5 K=some r∧H=[]∧E=[]) ?_ (fun Jj5=>?_))
 ·rintro _ _ ⟨hF,rfl,rfl⟩
  unfold m5 at hF
  exact bQ
 obtain⟨ol4,hL,hRl4⟩:=aP hF
 refine dQ (fun k a w=>∃(x3:Int),fT K a0 a1 k x3=some ol4∧hs _ [] [(0,.vc (pS (fA cQ) a0)),(1,.vc (pS (fA cQ) a1)),(5,.vc (pI .i64 x3))] a w) K (fun a w ⟨_,hF,_⟩=>by cases hF) (fun k a w ⟨x3,hF,hh⟩=>dP ?_ hh) (fun a w hh=>⟨0,hL,iF [] hh⟩)
 rw [fT.eq_2] at hF
 refine go ?_ ?_
 refine aE hF rfl (fun h6 hF=>?_) (fun h6 hF=>?_)
 ·refine go ?_ ?_
  refine aJ (aD ?_)
  obtain⟨v9,h10,hF⟩:=aP hF
  obtain⟨v11,h12,hF⟩:=aP hF
  obtain⟨v13,h14,hF⟩:=bC hF l6
  refine dr [0,0,3,7,0,0,48,112,255,511] 10 0 ?_ (fun bs8 G7=>?_)
  refine aU (aH (aE hF rfl (fun h15 hF=>?_) (fun h15 hF=>?_)))
  ·exact bQ
  obtain⟨v16,h17,hF⟩:=aP hF
  refine go ?_ ?_
  exact aF (fun a w hh=>⟨v16,hF,iF [] hh⟩)
 refine bH ?_
 obtain rfl:=iD hF
 exact rO Jj5 ⟨hRl4,rfl,rfl⟩ []
def nQ (K:Nat) (x18:List Rat):Option (List Rat):=
 some x18
def gJ (K:Nat) (a0:List Rat) (a1:Rat):Nat→(List Rat)→Int→Option (List Rat)
 |0,_,_=>none
 |k+1,x11,x17=>bif(decide (x17<(a0.length:Int))) then((bK a0 x17).bind fun v29=>(aC1 v29 a1).bind fun v31=>(rM x11 [v31]).bind fun x33=>(aQ (x17+1)).bind fun v40=>gJ K a0 a1 k x33 v40) else(some x11)
def fD (K:Nat) (a0:List Rat) (a1:Rat):Option (List Rat):=
 (gJ K a0 a1 K ([]:List Rat) 0).bind fun x18=>nQ K x18
theorem nJ {K:Nat} {a0:List Rat} {a1:Rat} {r:List Rat} (hF:fD K a0 a1=some r):Ct Tryz.prog 34 [.vc (pS cQ a0),.va (eQ a1)] (.vc (pS cQ r)):=by
 unfold fD at hF
 refine aA Tryz.func34 rfl (by kernel_rfl) Tryz.ntmps34 rfl (fun w0 M0=>?_)
 refine aD (aI (cP rfl rfl trivial (fun b1=>?_)))
 refine aG (aM (.inr rfl)) ⟨eI cQ,trivial⟩ ?_
 refine aU (aH (aD (aI (qE cQ 42 rfl ?_))))
 refine go ?_ ?_
 refine aJ (aX (fun H E=>∃(x18:List Rat),∃(b19:Option Nat),∃(c20:Nat),∃(n21:Nat),nQ K x18=some r∧x18.length=n21∧H=[hO cQ b19 c20 42 n21 x18]∧E=[(5,.vc (pO b19 n21 c20))]) ?_ (fun Jj25=>?_))
 ·rintro _ _ ⟨x18,b19,c20,n21,hF,q22,rfl,rfl⟩
  unfold nQ at hF
  refine go ?_ ?_
  refine fY (fZ (tC 0 [4,5,22] rfl q22 ⟨rfl,rfl,rfl,trivial⟩ rfl ?_))
  obtain rfl:=iD hF
  exact jL (.inl rfl) Tryz.results34 (.tmp rfl .nil) rfl rfl
 obtain⟨x18',hL,hRl24⟩:=aP hF
 refine dQ (fun k a w=>∃(x11:List Rat),∃(x17:Int),∃(b12:Option Nat),∃(c13:Nat),∃(n14:Nat),gJ K a0 a1 k x11 x17=some x18'∧x11.length=n14∧hs _ [hO cQ b12 c13 42 n14 x11,⟨some b1,1,42,4,1,(eQ a1)⟩] [(0,.vc (pS cQ a0)),(3,.vc (pP (some b1) 0)),(5,.vc (pO b12 n14 c13)),(6,.vc (pI .i64 x17))] a w) K (fun a w ⟨_,_,_,_,_,hF,_,_⟩=>by cases hF) (fun k a w ⟨x11,x17,b12,c13,n14,hF,q15,hh⟩=>dP ?_ hh) (fun a w hh=>⟨([]:List Rat),0,none,0,0,hL,rfl,iF [0,1] hh⟩)
 rw [gJ.eq_2] at hF
 refine go ?_ ?_
 refine aE hF rfl (fun h26 hF=>?_) (fun h26 hF=>?_)
 ·refine go ?_ ?_
  refine aJ ?_
  obtain⟨v29,h30,hF⟩:=aP hF
  obtain⟨v31,h32,hF⟩:=bC hF y9
  refine iV [0,0,0,6,14,0,62,126,255,511] 8 2 [.v (.vc (pO b12 n14 c13)),.v (.vc (pS cQ a0)),.v (.vc (pI .i64 x17)),.v (.vc (pM (cQ.e v29))),.v (.va (eQ v29)),.v (.va (eQ a1)),.v (.va (eQ v31)),.v (.vc (pS cQ [v31]))] aY ⟨d0 (aM (.inl rfl)) zU1,d0 (aM (.inl rfl)) zU1,d0 (aM (.inl rfl)) zU1,d0 (aDu rfl tyS24 h30) zU2,d0 (aBh 4 rfl rfl (.agg tyA42)) zU1,d0 (fF 1 4 rfl rfl rfl rfl (.agg tyA42)) zU1,d0 (bJ rfl h32 rfl) zU2,d0 (gG (C:=cQ) (xs:=[.tmp 19]) (ps:=[.va (eQ v31)]) (zs:=[v31]) rfl tyS24 rfl ⟨⟨trivial,rfl⟩,trivial⟩ rfl) zU1,trivial⟩ (fun bs28 G27=>?_)
  obtain⟨x33,h34,hF⟩:=aP hF
  refine mN 0 rfl tyS24 rfl rfl q15 rfl rfl h34 (fun b35 c36 H37 e38=>?_)
  cases e38
  obtain⟨v40,h41,hF⟩:=aP hF
  refine go ?_ ?_
  exact aF (fun a w hh=>⟨x33,v40,b35,c36,(n14+[v31].length),hF,(cX h34 q15),iF [0,1] hh⟩)
 refine bH ?_
 obtain rfl:=iD hF
 exact rO Jj25 ⟨x11,b12,c13,n14,hRl24,q15,rfl,rfl⟩ [0]
def hU (K:Nat) (v1:(List (List Rat))×(List Rat)) (v11:Rat) (x30:List (List Rat)):Option Bool:=
 (eN K v1.1 v1.2 800).bind fun v38=>(fD K v1.2 v11).bind fun v41=>(eN K x30 v41 800).bind fun v43=>(fD K v1.2 v11).bind fun v46=>(eN K v1.1 v46 800).bind fun v48=>(o5 K v1.1 v1.2).bind fun v51=>(fD K v1.2 v11).bind fun v53=>(o5 K x30 v53).bind fun v55=>bif(v38.2 != v43.2) then(some false) else(bif(v38.2 != v48.2) then(some false) else(bif(v51.2 != v55.2) then(some false) else((mJ K v51.1 v55.1).bind fun v60=>bif(!v60) then(some false) else((fW K v38.1.z v43.1.z).bind fun v65=>bif v65 then((fD K v38.1.z v11).bind fun v68=>(fW K v68 v48.1.z).bind fun v70=>bif v70 then((oH K).bind fun v73=>some v73) else(some false)) else(some false)))))
def bZ (K:Nat) (v1:(List (List Rat))×(List Rat)) (v11:Rat):Nat→(List (List Rat))→Int→Option (List (List Rat))
 |0,_,_=>none
 |k+1,x23,x29=>bif(decide (x29<(v1.1.length:Int))) then((bK v1.1 x29).bind fun v78=>(fD K v78 v11).bind fun v80=>(rM x23 [v80]).bind fun x82=>(aQ (x29+1)).bind fun v89=>bZ K v1 v11 k x82 v89) else(some x23)
def jN (K:Nat) (a0:List Int) (a1:Int) (a2:Int):Option Bool:=
 (kG K a0 5).bind fun v1=>(gV a1 9).bind fun v3=>(aQ (1+v3)).bind fun v5=>(gV a2 9).bind fun v7=>(aQ (1+v7)).bind fun v9=>(qof v5 v9).bind fun v11=>(bZ K v1 v11 K ([]:List (List Rat)) 0).bind fun x30=>hU K v1 v11 x30
theorem wO {K:Nat} {a0:List Int} {a1:Int} {a2:Int} {r:Bool} (hF:jN K a0 a1 a2=some r):Ct Tryz.prog 8 [.vc (pS cI a0),.vc (pI .i64 a1),.vc (pI .i64 a2)] (.vc (pB r)):=by
 unfold jN at hF
 refine aA Tryz.func8 rfl (by kernel_rfl) Tryz.ntmps8 rfl (fun w0 M0=>?_)
 obtain⟨v1,h2,hF⟩:=bC hF aAF
 obtain⟨v3,h4,hF⟩:=bC hF pX
 obtain⟨v5,h6,hF⟩:=aP hF
 obtain⟨v7,h8,hF⟩:=bC hF pX
 obtain⟨v9,h10,hF⟩:=aP hF
 obtain⟨v11,h12,hF⟩:=bC hF dK
 refine go ?_ ?_
 refine aK rfl tyZ42q (fun b13=>?_)
 refine kY (t_s 0 rfl rfl rfl tyA42.s) zU2 ?_
 refine aU (aH (aD (aI (qE (fA cQ) 24 rfl ?_))))
 refine go ?_ ?_
 refine aJ (aX (fun H E=>∃(x30:List (List Rat)),∃(b31:Option Nat),∃(c32:Nat),∃(n33:Nat),hU K v1 v11 x30=some r∧x30.length=n33∧H=[hO (fA cQ) b31 c32 24 n33 x30,⟨some b13,1,42,4,1,(eQ v11)⟩]∧E=[(7,.vc (pS (fA cQ) v1.1)),(8,.vc (pS cQ v1.2)),(9,.vc (pP (some b13) 0)),(10,.vc (pO b31 n33 c32))]) ?_ (fun Jj37=>?_))
 ·rintro _ _ ⟨x30,b31,c32,n33,hF,q34,rfl,rfl⟩
  unfold hU at hF
  obtain⟨v38,h39,hF⟩:=bC hF l8
  refine go ?_ ?_
  refine aK rfl tyZ30q (fun b40=>?_)
  refine kY (t_s 0 rfl rfl rfl tyA30.s) zU2 ?_
  refine yK ?_
  refine aU (aH (aD (aI (fI ?_))))
  refine fI ?_
  refine aG (fF 2 4 rfl rfl rfl rfl (.agg tyA42)) zU1 ?_
  obtain⟨v41,h42,hF⟩:=bC hF nJ
  refine aG (bJ rfl h42 rfl) zU2 ?_
  refine vX 1 [10,56] rfl q34 zU2 rfl ?_
  obtain⟨v43,h44,hF⟩:=bC hF l8
  refine go ?_ ?_
  refine aK rfl tyZ30q (fun b45=>?_)
  obtain⟨v46,h47,hF⟩:=bC hF nJ
  obtain⟨v48,h49,hF⟩:=bC hF l8
  refine go ?_ ?_
  refine aK rfl tyZ30q (fun b50=>?_)
  obtain⟨v51,h52,hF⟩:=bC hF zN
  obtain⟨v53,h54,hF⟩:=bC hF nJ
  obtain⟨v55,h56,hF⟩:=bC hF zN
  refine go ?_ ?_
  refine dV hF (fun h57 hF=>?_) (fun h57 hF=>?_)
  ·refine go ?_ ?_
   refine jS rfl ?_
   exact bQ
  refine go ?_ ?_
  refine dV hF (fun h58 hF=>?_) (fun h58 hF=>?_)
  ·refine go ?_ ?_
   refine jS rfl ?_
   exact bQ
  refine go ?_ ?_
  refine dV hF (fun h59 hF=>?_) (fun h59 hF=>?_)
  ·refine go ?_ ?_
   refine jS rfl ?_
   exact bQ
  obtain⟨v60,h61,hF⟩:=bC hF aAB
  refine go ?_ ?_
  refine aE hF rfl (fun h62 hF=>?_) (fun h62 hF=>?_)
  ·exact bQ
  obtain⟨v65,h66,hF⟩:=bC hF l6
  refine go ?_ ?_
  rcases Bool.eq_false_or_eq_true v65 with h67|h67
  ·have hF:=rY h67 hF
   obtain⟨v68,h69,hF⟩:=bC hF nJ
   obtain⟨v70,h71,hF⟩:=bC hF l6
   rcases Bool.eq_false_or_eq_true v70 with h72|h72
   ·have hF:=rY h72 hF
    obtain⟨v73,h74,hF⟩:=bC hF aBj
    refine drb [0,1,0,4,15,31,63,127,63,511,63,1087,4095,8191,16383,32767,65535,131071] 18 0 ?_ (fun bs64 G63=>?_)
    refine aU (aH ?_)
    exact bQ
   have hF:=p8 h72 hF
   refine drb [0,1,0,4,15,31,63,127,63,511,63,1087,4095,8191,16383,32767,65535,131071] 18 0 ?_ (fun bs64 G63=>?_)
   refine aU (aH ?_)
   exact bQ
  have hF:=p8 h67 hF
  refine drb [0,1,0,4,15,31,63,127,63,511,63,1087,4095,8191,16383,32767,65535,131071] 18 0 ?_ (fun bs64 G63=>?_)
  refine aU (aH ?_)
  exact bQ
 obtain⟨x30',hL,hRl36⟩:=aP hF
 refine dQ (fun k a w=>∃(x23:List (List Rat)),∃(x29:Int),∃(b24:Option Nat),∃(c25:Nat),∃(n26:Nat),bZ K v1 v11 k x23 x29=some x30'∧x23.length=n26∧hs _ [hO (fA cQ) b24 c25 24 n26 x23,⟨some b13,1,42,4,1,(eQ v11)⟩] [(7,.vc (pS (fA cQ) v1.1)),(8,.vc (pS cQ v1.2)),(9,.vc (pP (some b13) 0)),(10,.vc (pO b24 n26 c25)),(11,.vc (pI .i64 x29))] a w) K (fun a w ⟨_,_,_,_,_,hF,_,_⟩=>by cases hF) (fun k a w ⟨x23,x29,b24,c25,n26,hF,q27,hh⟩=>dP ?_ hh) (fun a w hh=>⟨([]:List (List Rat)),0,none,0,0,hL,rfl,iF [0,1] hh⟩)
 rw [bZ.eq_2] at hF
 refine go ?_ ?_
 refine aE hF rfl (fun h75 hF=>?_) (fun h75 hF=>?_)
 ·refine go ?_ ?_
  refine aJ ?_
  obtain⟨v78,h79,hF⟩:=aP hF
  obtain⟨v80,h81,hF⟩:=bC hF nJ
  refine iV [0,0,0,6,14,0,62,126,255,511] 8 2 [.v (.vc (pO b24 n26 c25)),.v (.vc (pS (fA cQ) v1.1)),.v (.vc (pI .i64 x29)),.v (.vc (pM ((fA cQ).e v78))),.v (.vc (pS cQ v78)),.v (.va (eQ v11)),.v (.vc (pS cQ v80)),.v (.vc (pS (fA cQ) [v80]))] aY ⟨d0 (aM (.inl rfl)) zU1,d0 (aM (.inl rfl)) zU1,d0 (aM (.inl rfl)) zU1,d0 (aDu rfl tyS23 h79) zU2,d0 (aBh 1 rfl rfl (.one tyO24)) zU1,d0 (fF 1 4 rfl rfl rfl rfl (.agg tyA42)) zU1,d0 (bJ rfl h81 rfl) zU2,d0 (gG (C:=(fA cQ)) (xs:=[.tmp 46]) (ps:=[.vc (pS cQ v80)]) (zs:=[v80]) rfl tyS23 rfl ⟨⟨trivial,rfl⟩,trivial⟩ rfl) zU1,trivial⟩ (fun bs77 G76=>?_)
  obtain⟨x82,h83,hF⟩:=aP hF
  refine mN 0 rfl tyS23 rfl rfl q27 rfl rfl h83 (fun b84 c85 H86 e87=>?_)
  cases e87
  obtain⟨v89,h90,hF⟩:=aP hF
  refine go ?_ ?_
  exact aF (fun a w hh=>⟨x82,v89,b84,c85,(n26+[v80].length),hF,(cX h83 q27),iF [0,1] hh⟩)
 refine bH ?_
 obtain rfl:=iD hF
 exact rO Jj37 ⟨x23,b24,c25,n26,hRl36,q27,rfl,rfl⟩ [0,1]
end Go.Proofs.YtolfcbpgmfbgmaaGreat
set_option linter.unusedVariables false
set_option maxRecDepth 100000
namespace Go.Proofs.YtolfcbpgmfbgmaaGreat
def wU (K:Nat):Option Bool:=
 some true
def mH (K:Nat) (a0:List Rat):Nat→Int→Option (LR Bool Unit)
 |0,_=>none
 |k+1,x2=>bif(decide (x2<(a0.length:Int))) then((bK a0 x2).bind fun v6=>(aLD v6).bind fun v8=>bif(!v8) then(some (.ret false)) else((aQ (x2+1)).bind fun v11=>mH K a0 k v11)) else(some (.go ()))
def sM (K:Nat) (a0:List Rat):Option Bool:=
 (mH K a0 K 0).bind fun o=>match o with| .ret r=>some r| .go _=>wU K
def wC (K:Nat):Option Bool:=
 some true
def lP (K:Nat) (a0:List (List Rat)) (a1:List Rat):Nat→Int→Option (LR Bool Unit)
 |0,_=>none
 |k+1,x7=>bif(decide (x7<(a0.length:Int))) then((bK a0 x7).bind fun v11=>bif((v11.length:Int) != (a1.length:Int)) then(some (.ret false)) else((bK a0 x7).bind fun v14=>(sM K v14).bind fun v16=>bif(!v16) then(some (.ret false)) else((aQ (x7+1)).bind fun v19=>lP K a0 a1 k v19))) else(some (.go ()))
def uN (K:Nat) (a0:List (List Rat)) (a1:List Rat):Option Bool:=
 bif((a0.length:Int) != (a1.length:Int)) then(some false) else(bif(decide (32<(a1.length:Int))) then(some false) else((sM K a1).bind fun v3=>bif(!v3) then(some false) else((lP K a0 a1 K 0).bind fun o=>match o with| .ret r=>some r| .go _=>wC K)))
def uM (K:Nat):Option Bool:=
 some false
def jO (K:Nat) (a0:List Rat):Nat→Int→Option (LR Bool Unit)
 |0,_=>none
 |k+1,x2=>bif(decide (x2<(a0.length:Int))) then((bK a0 x2).bind fun v6=>(xP v6).bind fun v8=>bif(decide (v8<0)) then(some (.ret true)) else((aQ (x2+1)).bind fun v11=>jO K a0 k v11)) else(some (.go ()))
def sK (K:Nat) (a0:List Rat):Option Bool:=
 (jO K a0 K 0).bind fun o=>match o with| .ret r=>some r| .go _=>uM K
def vO (K:Nat):Option Bool:=
 some false
def iY (K:Nat) (a0:List Rat) (a1:List Rat):Nat→Int→Option (LR Bool Unit)
 |0,_=>none
 |k+1,x2=>bif(decide (x2<(a0.length:Int))) then(bif(decide (x2<(a1.length:Int))) then((bK a0 x2).bind fun v9=>(bK a1 x2).bind fun v11=>(aLg v9 v11).bind fun v13=>bif(v13 != 0) then(some (.ret (decide (v13<0)))) else((aQ (x2+1)).bind fun v16=>iY K a0 a1 k v16)) else(some (.go ()))) else(some (.go ()))
def nL (K:Nat) (a0:List Rat) (a1:List Rat):Option Bool:=
 (iY K a0 a1 K 0).bind fun o=>match o with| .ret r=>some r| .go _=>vO K
def wT (K:Nat) (x29:List Rat):Option (List Rat):=
 some x29
def mG (K:Nat) (a0:List Rat) (a1:Int) (a2:Rat):Nat→(List Rat)→Int→Option (List Rat)
 |0,_,_=>none
 |k+1,x22,x28=>bif(decide (x28<a1)) then((bK a0 x28).bind fun v40=>(aD0 v40 a2).bind fun v42=>(rM x22 [v42]).bind fun x44=>(aQ (x28+1)).bind fun v51=>mG K a0 a1 a2 k x44 v51) else(some x22)
def nV (K:Nat) (a0:List Rat) (a1:Int) (a2:Rat):Option (List Rat):=
 (aQ (2*a1)).bind fun v4=>(aQ (v4+1)).bind fun v6=>(bK a0 v6).bind fun v8=>(aD0 v8 a2).bind fun v10=>(mG K a0 a1 a2 K [v10] 0).bind fun x29=>wT K x29
def vS (K:Nat) (x41:List (List Rat)):Option (List (List Rat)):=
 some x41
def vR (K:Nat) (x34:List (List Rat)) (x40:Int) (recl47:(List (List Rat))→Int→Option (List (List Rat))) (x76:List Rat):Option (List (List Rat)):=
 (rM x34 [x76]).bind fun x84=>(aQ (x40+1)).bind fun v91=>recl47 x84 v91
def k5 (K:Nat) (a0:List (List Rat)) (a2:Int) (x17:List Rat) (x40:Int):Nat→(List Rat)→Int→Option (List Rat)
 |0,_,_=>none
 |k+1,x69,x75=>bif(decide (x75<(x17.length:Int))) then((bK a0 x40).bind fun v96=>(bK v96 x75).bind fun v98=>(bK a0 x40).bind fun v100=>(bK v100 a2).bind fun v102=>(bK x17 x75).bind fun v104=>(aC1 v102 v104).bind fun v106=>(aFv v98 v106).bind fun v108=>(rM x69 [v108]).bind fun x110=>(aQ (x75+1)).bind fun v117=>k5 K a0 a2 x17 x40 k x110 v117) else(some x69)
def gM (K:Nat) (a0:List (List Rat)) (a1:Int) (a2:Int) (x17:List Rat):Nat→(List (List Rat))→Int→Option (List (List Rat))
 |0,_,_=>none
 |k+1,x34,x40=>bif(decide (x40<(a0.length:Int))) then(bif(x40==a1) then((rM x34 [x17]).bind fun x51=>(aQ (x40+1)).bind fun v58=>gM K a0 a1 a2 x17 k x51 v58) else((k5 K a0 a2 x17 x40 K ([]:List Rat) 0).bind fun x76=>vR K x34 x40 (gM K a0 a1 a2 x17 k) x76)) else(some x34)
def vN (K:Nat) (a0:List (List Rat)) (a1:Int) (a2:Int) (x17:List Rat):Option (List (List Rat)):=
 (gM K a0 a1 a2 x17 K ([]:List (List Rat)) 0).bind fun x41=>vS K x41
def k8 (K:Nat) (a0:List (List Rat)) (a1:Int) (a2:Int):Nat→(List Rat)→Int→Option (List Rat)
 |0,_,_=>none
 |k+1,x10,x16=>(bK a0 a1).bind fun v119=>bif(decide (x16<(v119.length:Int))) then((bK a0 a1).bind fun v124=>(bK v124 x16).bind fun v126=>(bK a0 a1).bind fun v128=>(bK v128 a2).bind fun v130=>(aD0 v126 v130).bind fun v132=>(rM x10 [v132]).bind fun x134=>(aQ (x16+1)).bind fun v141=>k8 K a0 a1 a2 k x134 v141) else(some x10)
def uR (K:Nat) (a0:List (List Rat)) (a1:Int) (a2:Int):Option (List (List Rat)):=
 (k8 K a0 a1 a2 K ([]:List Rat) 0).bind fun x17=>vN K a0 a1 a2 x17
def aAb (K:Nat):Option (aL×Int):=
 none
def uY (K:Nat) (v95:Int) (x155:List Rat) (x161:List Rat):Option (LR (aL×Int) Unit):=
 some (.ret ((⟨x161,x155,v95⟩:aL),0))
def fX (K:Nat) (a1:List Rat) (v93:List (List Rat)) (x101:List Int):Nat→(List Rat)→(List Rat)→Int→Option ((List Rat)×(List Rat))
 |0,_,_,_=>none
 |k+1,x142,x148,x154=>bif(decide (x154<(a1.length:Int))) then((bK x101 x154).bind fun v170=>bif(decide (v170<(a1.length:Int))) then((bK x101 x154).bind fun v175=>(bK v93 x154).bind fun v177=>(aQ (2*(a1.length:Int))).bind fun v179=>(aQ (v179+1)).bind fun v181=>(bK v177 v181).bind fun v183=>(bK x142 v175).bind fun v185=>(pN x142 v175 v183).bind fun x187=>(aQ (x154+1)).bind fun v190=>fX K a1 v93 x101 k x187 x148 v190) else((bK x101 x154).bind fun v194=>(aQ (v194-(a1.length:Int))).bind fun v196=>(bK v93 x154).bind fun v198=>(aQ (2*(a1.length:Int))).bind fun v200=>(aQ (v200+1)).bind fun v202=>(bK v198 v202).bind fun v204=>(bK x148 v196).bind fun v206=>(pN x148 v196 v204).bind fun x208=>(aQ (x154+1)).bind fun v211=>fX K a1 v93 x101 k x142 x208 v211)) else(some (x142,x148))
def u6 (K:Nat) (v93:List (List Rat)) (v95:Int) (x101:List Int) (v217:Int) (recl90:(List Int)→(List (List Rat))→Int→Int→Int→Option (LR (aL×Int) Unit)) (x223:Int):Option (LR (aL×Int) Unit):=
 bif(decide (x223<0)) then(some (.ret ((⟨([]:List Rat),([]:List Rat),0⟩:aL),15))) else(recl90 x101 v93 x223 v217 v95)
def d9 (K:Nat) (a1:List Rat) (v93:List (List Rat)) (v217:Int):Nat→Int→Int→Option Int
 |0,_,_=>none
 |k+1,x221,x222=>bif(decide (x222<(a1.length:Int))) then((bK v93 x222).bind fun v228=>(bK v228 v217).bind fun v230=>(xP v230).bind fun v232=>bif(decide (v232≤0)) then((aQ (x222+1)).bind fun v235=>d9 K a1 v93 v217 k x221 v235) else(bif(decide (x221<0)) then((aQ (x222+1)).bind fun v240=>d9 K a1 v93 v217 k x222 v240) else((bK v93 x222).bind fun v242=>(bK v93 x222).bind fun v244=>(bK v244 v217).bind fun v246=>(nV K v242 (a1.length:Int) v246).bind fun v248=>(bK v93 x221).bind fun v250=>(bK v93 x221).bind fun v252=>(bK v252 v217).bind fun v254=>(nV K v250 (a1.length:Int) v254).bind fun v256=>(nL K v248 v256).bind fun v258=>bif v258 then((aQ (x222+1)).bind fun v261=>d9 K a1 v93 v217 k x222 v261) else((aQ (x222+1)).bind fun v263=>d9 K a1 v93 v217 k x221 v263)))) else(some x221)
def k7 (K:Nat) (a1:List Rat) (a2:Int):Nat→(List Int)→(List (List Rat))→Int→Int→Int→Option (LR (aL×Int) Unit)
 |0,_,_,_,_,_=>none
 |k+1,x80,x86,x87,x88,x89=>bif(x89==a2) then(some (.ret ((⟨([]:List Rat),([]:List Rat),0⟩:aL),16))) else((uR K x86 x87 x88).bind fun v93=>(aQ (x89+1)).bind fun v95=>(bK x80 x87).bind fun v97=>(bK x80 x87).bind fun v99=>(pN x80 x87 x88).bind fun x101=>(aQ (2*(a1.length:Int))).bind fun v104=>bif(v97==v104) then((y5 (a1.length:Int) 0).bind fun x109=>(y5 (a1.length:Int) 0).bind fun x113=>(fX K a1 v93 x101 K x113 x109 0).bind fun(x155,x161)=>uY K v95 x155 x161) else((aQ (v97+(a1.length:Int))).bind fun v213=>(aQ (2*(a1.length:Int))).bind fun v215=>(zX v213 v215).bind fun v217=>(d9 K a1 v93 v217 K (-1) 0).bind fun x223=>u6 K v93 v95 x101 v217 (k7 K a1 a2 k) x223))
def vL (K:Nat) (a1:List Rat) (a2:Int) (x47:List Int) (x53:List (List Rat)) (x65:Int):Option (aL×Int):=
 (aQ (2*(a1.length:Int))).bind fun v68=>(k7 K a1 a2 K x47 x53 x65 v68 0).bind fun o=>match o with| .ret r=>some r| .go _=>aAb K
def iX (K:Nat) (a1:List Rat) (v14:Rat) (x53:List (List Rat)):Nat→Int→Int→Option Int
 |0,_,_=>none
 |k+1,x63,x64=>bif(decide (x64<(a1.length:Int))) then((bK x53 x64).bind fun v268=>(nV K v268 (a1.length:Int) v14).bind fun v270=>(bK x53 x63).bind fun v272=>(nV K v272 (a1.length:Int) v14).bind fun v274=>(nL K v270 v274).bind fun v276=>bif v276 then((aQ (x64+1)).bind fun v279=>iX K a1 v14 x53 k x64 v279) else((aQ (x64+1)).bind fun v281=>iX K a1 v14 x53 k x63 v281)) else(some x63)
def vQ (K:Nat) (a1:List Rat) (a2:Int) (v14:Rat) (x47:List Int) (x53:List (List Rat)):Option (aL×Int):=
 (iX K a1 v14 x53 K 0 1).bind fun x65=>vL K a1 a2 x47 x53 x65
def uW (K:Nat) (a1:List Rat) (x34:List Int) (x40:List (List Rat)) (x46:Int) (recl59:(List Int)→(List (List Rat))→Int→Option ((List Int)×(List (List Rat)))) (x312:List Rat):Option ((List Int)×(List (List Rat))):=
 (aQ (2*(a1.length:Int))).bind fun v320=>(qof (-1) 1).bind fun v322=>(bK x312 v320).bind fun v324=>(pN x312 v320 v322).bind fun x326=>(aQ (2*(a1.length:Int))).bind fun v329=>(aQ (v329+1)).bind fun v331=>(bK a1 x46).bind fun v333=>(bK x326 v331).bind fun v335=>(pN x326 v331 v333).bind fun x337=>(rM x40 [x337]).bind fun x340=>(rM x34 [x46]).bind fun x347=>(aQ (x46+1)).bind fun v354=>recl59 x347 x340 v354
def kI (K:Nat) (a0:List (List Rat)) (a1:List Rat) (x46:Int):Nat→(List Rat)→Int→Option (List Rat)
 |0,_,_=>none
 |k+1,x305,x311=>bif(decide (x311<(a1.length:Int))) then((aQ ((a1.length:Int)+x311)).bind fun v357=>(bK a0 x46).bind fun v359=>(bK v359 x311).bind fun v361=>(aBs v361).bind fun v363=>(bK x305 v357).bind fun v365=>(pN x305 v357 v363).bind fun x367=>(aQ (x311+1)).bind fun v370=>kI K a0 a1 x46 k x367 v370) else(some x305)
def lC (K:Nat) (a0:List (List Rat)) (a1:List Rat) (v14:Rat):Nat→(List Int)→(List (List Rat))→Int→Option ((List Int)×(List (List Rat)))
 |0,_,_,_=>none
 |k+1,x34,x40,x46=>bif(decide (x46<(a1.length:Int))) then((aQ (2*(a1.length:Int))).bind fun v284=>(aQ (v284+2)).bind fun v286=>(y5 v286 0).bind fun x288=>(bK x288 x46).bind fun v293=>(pN x288 x46 v14).bind fun x295=>(kI K a0 a1 x46 K x295 0).bind fun x312=>uW K a1 x34 x40 x46 (lC K a0 a1 v14 k) x312) else(some (x34,x40))
def uQ (K:Nat) (a0:List (List Rat)) (a1:List Rat) (a2:Int):Option (aL×Int):=
 (uN K a0 a1).bind fun v2=>bif(!v2) then(some ((⟨([]:List Rat),([]:List Rat),0⟩:aL),1)) else(bif(decide (a2<0)) then(some ((⟨([]:List Rat),([]:List Rat),0⟩:aL),1)) else((sK K a1).bind fun v6=>bif(!v6) then((y5 (a1.length:Int) 0).bind fun x9=>some ((⟨x9,a1,0⟩:aL),0)) else((qof 1 1).bind fun v14=>(lC K a0 a1 v14 K ([]:List Int) ([]:List (List Rat)) 0).bind fun(x47,x53)=>vQ K a1 a2 v14 x47 x53)))
end Go.Proofs.YtolfcbpgmfbgmaaGreat
set_option linter.unusedVariables false
set_option maxRecDepth 100000
namespace Go.Proofs.YtolfcbpgmfbgmaaGreat
end Go.Proofs.YtolfcbpgmfbgmaaGreat
set_option linter.unusedVariables false
namespace Go.Proofs.YtolfcbpgmfbgmaaGreat
theorem aBO {x m:Int} (hx:-9223372036854775808≤x∧x≤9223372036854775807) (hm:0<m):∃r,gV x m=some r∧0≤r∧r<m:=by
 unfold gV
 by_cases h:x<0
 ·refine⟨(-(x+1))%m,?_,Int.emod_nonneg _ (by omega),Int.emod_lt_of_pos _ hm⟩
  rw [dT h,bY,oX (by omega),oB,oX (by omega),oB,tG (by omega) hm,oB]
 ·refine⟨x%m,?_,Int.emod_nonneg _ (by omega),Int.emod_lt_of_pos _ hm⟩
  rw [dF h,bU,tG (by omega) hm,oB]
theorem aEK {l:List Int} (hl:aA1 l) (i:Int) {m:Int} (hm:0<m):∃r,cD l i m=some r∧0≤r∧r<m:=by
 unfold cD
 by_cases h:i<0
 ·exact⟨0,by rw [dT h,bY],by omega,hm⟩
 ·rw [dF h,bU]
  by_cases h2:(l.length:Int)≤i
  ·exact⟨0,by rw [dT h2,bY],by omega,hm⟩
  ·rw [dF h2,bU]
   obtain⟨n,rfl⟩:∃n:Nat,i=n:=⟨i.toNat,by omega⟩
   obtain⟨x,hx,_,hr⟩:=rdM (xs:=l) (i:=n) (by omega)
   obtain⟨r,h3,h4,h5⟩:=aBO (hl x hx) hm
   exact⟨r,by rw [hr,oB,h3,oB],h4,h5⟩
theorem aMa {a m:Int} (h:0≤a) (hm:0<m):0≤a%m∧a%m<m:=⟨Int.emod_nonneg _ (by omega),Int.emod_lt_of_pos _ hm⟩
def Bds (k:Nat) (xs:List Rat):Prop:=∀x∈xs,Bd k x
theorem Bds.snoc {k:Nat} {xs:List Rat} {x:Rat} (h:Bds k xs) (hx:Bd k x):Bds k (xs++[x]):=fun y hy=>by
 rcases List.mem_append.1 hy with h1|h1
 ·exact h y h1
 ·rw [List.mem_singleton.1 h1];exact hx
theorem apS {α:Type} {xs:List α} {x:α} (h:xs.length≤60000000000):rM xs [x]=some (xs++[x]):=aDv (by simp;omega)
theorem rdD {α:Type} {xs:List α} {i:Nat} (d:α) (h:i<xs.length):bK xs (i:Int)=some (xs.getD i d):=by
 rw [rdG (x:=xs.getD i d)]
 simp [List.getD_eq_getElem?_getD,h]
def at' (l:List Rat) (i:Nat):Rat:=l.getD i 0
theorem aKQ {l:List Rat} {i:Nat} (h:i<l.length):bK l (i:Int)=some (at' l i):=rdD _ h
theorem aCq {l:List Rat} {i:Nat} (h:i<l.length):at' l i∈l:=by
 have:at' l i=l[i]:=by unfold at';simp [List.getD_eq_getElem?_getD,h]
 rw [this];exact List.getElem_mem h
theorem aMC:((1:Int):Rat)/((1:Int):Rat)=1:=by decide+kernel
def mp {α:Type} (g:Nat→α) (n:Nat):List α:=(List.range n).map g
theorem vA {α:Type} (g:Nat→α):mp g 0=[]:=rfl
theorem aBW {α:Type} (g:Nat→α) (n:Nat):mp g (n+1)=mp g n++[g n]:=by unfold mp;rw [List.range_succ,List.map_append];rfl
theorem aZ {α:Type} (g:Nat→α) (n:Nat):(mp g n).length=n:=by simp [mp]
theorem xV {α:Type} {g:Nat→α} {n i:Nat} (h:i<n):(mp g n)[i]?=some (g i):=by simp [mp,h]
theorem z5 {g:Nat→Rat} {n k:Nat} (h:∀i,i<n→Bd k (g i)):Bds k (mp g n):=fun x hx=>by
 obtain⟨i,hi,rfl⟩:=List.mem_map.1 hx
 exact h i (List.mem_range.1 hi)
theorem apM {α:Type} {g:Nat→α} {i:Nat} (h:i≤1000000):rM (mp g i) [g i]=some (mp g (i+1)):=by rw [aBW];exact apS (by rw [aZ];omega)
theorem gS {α:Type} {f g:Nat→α} {n:Nat} (h:∀i,i<n→f i=g i):mp f n=mp g n:=by
 unfold mp
 exact List.map_congr_left fun i hi=>h i (List.mem_range.1 hi)
def kX {α:Type} (f:Nat→α) (i:Nat) (v:α) (j:Nat):α:=if j=i then v else f j
theorem aT {α:Type} {f:Nat→α} {i:Nat} {v:α}:kX f i v i=v:=if_pos rfl
theorem bN {α:Type} {f:Nat→α} {i j:Nat} {v:α} (h:j≠i):kX f i v j=f j:=if_neg h
theorem aPV {α:Type} {f:Nat→α} {n i:Nat} {v:α}:(mp f n).set i v=mp (kX f i v) n:=by
 apply List.ext_getElem?
 intro j
 by_cases hj:j<n
 ·rw [List.getElem?_set,xV hj,aZ,xV hj]
  by_cases he:i=j
  ·subst he;rw [if_pos rfl,if_pos hj,aT]
  ·rw [if_neg he,bN (by omega)]
 ·rw [List.getElem?_eq_none (by simp [mp];omega),List.getElem?_eq_none (by simp [mp];omega)]
theorem dW {α:Type} {f:Nat→α} {n i:Nat} (h:i<n):bK (mp f n) (i:Int)=some (f i):=rdG (xV h)
theorem w6 {α:Type} {f:Nat→α} {n i:Nat} {v:α} (h:i<n):pN (mp f n) (i:Int) v=some (mp (kX f i v) n):=by
 rw [stG (by rw [aZ];exact h),aPV]
theorem aMB {α:Type} (z:α):∀n,List.replicate n z=mp (fun _=>z) n
 |0=>rfl
 |n+1=>by rw [aBW,←aMB z n,List.replicate_succ']
theorem aFq {α:Type} {n:Nat} {z:α} (h:n≤68719476736):y5 (n:Int) z=some (mp (fun _=>z) n):=by rw [aAG h,aMB]
theorem aLE (l:List Rat):l=mp (at' l) l.length:=by
 apply List.ext_getElem?
 intro j
 by_cases hj:j<l.length
 ·rw [xV hj];simp [at',hj]
 ·rw [List.getElem?_eq_none (by omega),List.getElem?_eq_none (by simp [mp];omega)]
theorem aR3 {α:Type} {f:Nat→α} {n i:Nat} (h:i≤n):slL (mp f n) (i:Int) (n:Int)=some (mp (fun j=>f (i+j)) (n-i)):=by
 unfold slL
 rw [if_pos ⟨by omega,by omega,by rw [aZ];omega⟩]
 congr 1
 apply List.ext_getElem?
 intro j
 simp only [Int.toNat_natCast]
 rw [List.getElem?_take,List.getElem?_drop]
 by_cases hj:j<n-i
 ·rw [if_pos hj,xV hj,xV (by omega)]
 ·rw [if_neg hj,List.getElem?_eq_none (by simp [mp];omega)]
theorem sW {i:Nat} (h:i≤1000000000):aQ ((i:Int)+1)=some ((i+1:Nat):Int):=zH (m:=0) (n:=i+1) (by omega) (by omega)
theorem aD3 {a:Rat}:a.num.sign=0↔a=0:=by rw [Int.sign_eq_zero_iff_zero,Rat.num_eq_zero]
def sm (f:Nat→Rat):Nat→Rat
 |0=>0
 |n+1=>sm f n+f n
end Go.Proofs.YtolfcbpgmfbgmaaGreat
set_option linter.unusedVariables false
namespace Go.Proofs.YtolfcbpgmfbgmaaGreat
/-- A matrix of h rows and w columns. -/
def mx (g:Nat→Nat→Rat) (h w:Nat):List (List Rat):=mp (fun i=>mp (g i) w) h
theorem xN {g:Nat→Nat→Rat} {h w i:Nat} (hi:i<h):bK (mx g h w) (i:Int)=some (mp (g i) w):=dW hi
theorem nG {g:Nat→Nat→Rat} {h w:Nat}:(mx g h w).length=h:=aZ _ _
def vU (h w b:Nat) (g:Nat→Nat→Rat):Prop:=∀i c,i<h→c<w→Bd b (g i c)
theorem vU.mono {h w b b':Nat} {g:Nat→Nat→Rat} (hg:vU h w b g) (hb:b≤b'):vU h w b' g:=fun i c hi hc=>(hg i c hi hc).mono hb
def piv (g:Nat→Nat→Rat) (k:Nat):Nat→Nat→Nat
 |0,i=>i
 |t+1,i=>if g i k=0 then piv g k t (i+1) else i
theorem aDO {g:Nat→Nat→Rat} {k:Nat}:∀(t i:Nat),i≤piv g k t i∧piv g k t i≤i+t
 |0,i=>⟨Nat.le_refl _,Nat.le_refl _⟩
 |t+1,i=>by
  have h:=aDO (g:=g) (k:=k) t (i+1)
  unfold piv
  split<;>omega
theorem aLN {g:Nat→Nat→Rat} {k:Nat}:∀(t i j:Nat),i≤j→j<piv g k t i→g j k=0
 |0,i,j,h1,h2=>by simp only [piv] at h2;omega
 |t+1,i,j,h1,h2=>by
  unfold piv at h2
  split at h2
  ·rename_i hz
   by_cases he:j=i
   ·rw [he];exact hz
   ·exact aLN t (i+1) j (by omega) h2
  ·omega
theorem aIh {g:Nat→Nat→Rat} {k:Nat}:∀(t i:Nat),piv g k t i<i+t→g (piv g k t i) k≠0
 |0,i,h=>by simp only [piv] at h;omega
 |t+1,i,h=>by
  unfold piv at h ⊢
  split at h
  ·rename_i hz
   rw [if_pos hz]
   exact aIh t (i+1) (by omega)
  ·rename_i hz
   rw [if_neg hz];exact hz
def w5 (g:Nat→Nat→Rat) (n at0 i:Nat):Nat→Rat:=g (if i=n then at0 else if i=at0 then n else i)
def pr (g:Nat→Nat→Rat) (at0 k c:Nat):Rat:=g at0 c/g at0 k
def stp (g:Nat→Nat→Rat) (n at0 k i c:Nat):Rat:=if i=n then pr g at0 k c else w5 g n at0 i c-w5 g n at0 i k*pr g at0 k c
structure RS where
 ps:List Nat
 g:Nat→Nat→Rat
 d:Rat
def wM (h k:Nat) (s:RS):RS:=
 if piv s.g k (h-s.ps.length) s.ps.length=h then s
 else⟨s.ps++[k],stp s.g s.ps.length (piv s.g k (h-s.ps.length) s.ps.length) k,(if piv s.g k (h-s.ps.length) s.ps.length=s.ps.length then s.d else -s.d)*s.g (piv s.g k (h-s.ps.length) s.ps.length) k⟩
def vV (g:Nat→Nat→Rat) (h:Nat):Nat→RS
 |0=>⟨[],g,1⟩
 |k+1=>wM h k (vV g h k)
structure RI (h w b k:Nat) (s:RS):Prop where
 ph:s.ps.length≤h
 pk:∀j,j∈s.ps→j<k
 z:∀i c,s.ps.length≤i→i<h→c<k→s.g i c=0
 bd:vU h w (5^k*b) s.g
 bdd:Bd (5^k*b) s.d
theorem aMX {g:Nat→Nat→Rat} {h w b at0 k c:Nat} (hg:vU h w b g) (ha:at0<h) (hk:k<w) (hc:c<w):Bd (b+b) (pr g at0 k c):=(hg _ _ ha hc).div (hg _ _ ha hk)
theorem aEy {h n at0 i:Nat} (hn:n<h) (ha:at0<h) (hi:i<h):(if i=n then at0 else if i=at0 then n else i)<h:=by split;exact ha;split;exact hn;exact hi
theorem aIO {g:Nat→Nat→Rat} {h w b n at0 i c:Nat} (hg:vU h w b g) (hn:n<h) (ha:at0<h) (hi:i<h) (hc:c<w):Bd b (w5 g n at0 i c):=hg _ _ (aEy hn ha hi) hc
theorem aQm {g:Nat→Nat→Rat} {h w b n at0 k:Nat} (hg:vU h w b g) (hb:1≤b) (hn:n<h) (ha:at0<h) (hk:k<w):vU h w (5*b) (stp g n at0 k):=fun i c hi hc=>by
 unfold stp
 split
 ·exact(aMX hg ha hk hc).mono (by omega)
 ·exact((aIO hg hn ha hi hc).sub ((aIO hg hn ha hi hk).mul (aMX hg ha hk hc))).mono (by omega)
theorem aIw (k b:Nat) (hb:2≤b):2≤5^k*b:=Nat.le_trans hb (Nat.le_mul_of_pos_left b (Nat.pow_pos (by omega)))
theorem aLe {h w b k:Nat} {s:RS} (hs:RI h w b k s) (hb:2≤b) (hk:k<w):RI h w b (k+1) (wM h k s):=by
 have hp:=aDO (g:=s.g) (k:=k) (h-s.ps.length) s.ps.length
 have hl:s.ps.length+(h-s.ps.length)=h:=by have:=hs.ph;omega
 have h5:5^(k+1)*b=5*(5^k*b):=by rw [Nat.pow_succ,Nat.mul_comm (5^k) 5,Nat.mul_assoc]
 have hb':=aIw k b hb
 unfold wM
 split
 ·rename_i hat
  refine⟨hs.ph,fun j hj=>Nat.lt_succ_of_lt (hs.pk j hj),fun i c hi hh hc=>?_,hs.bd.mono (by omega),hs.bdd.mono (by omega)⟩
  by_cases he:c=k
  ·subst he;exact aLN (h-s.ps.length) s.ps.length i hi (by omega)
  ·exact hs.z i c hi hh (by omega)
 ·rename_i hat
  have hlt:piv s.g k (h-s.ps.length) s.ps.length<h:=by omega
  have hne:=aIh (g:=s.g) (k:=k) (h-s.ps.length) s.ps.length (by omega)
  generalize ha:piv s.g k (h-s.ps.length) s.ps.length=at0 at *
  refine⟨by simp only [List.length_append,List.length_singleton];omega,fun j hj=>?_,fun i c hi hh hc=>?_,?_,?_⟩
  ·simp only [List.mem_append,List.mem_singleton] at hj
   rcases hj with hj|hj
   ·exact Nat.lt_succ_of_lt (hs.pk j hj)
   ·omega
  ·simp only [List.length_append,List.length_singleton] at hi
   have hz:∀c',c'<k→s.g at0 c'=0:=fun c' hc'=>hs.z at0 c' hp.1 hlt hc'
   show stp s.g s.ps.length at0 k i c=0
   unfold stp
   rw [if_neg (by omega)]
   by_cases he:c=k
   ·subst he
    unfold pr
    rw [Rat.div_def,Rat.mul_inv_cancel _ hne,Rat.mul_one,Rat.sub_self]
   ·unfold pr
    rw [hz c (by omega)]
    have:w5 s.g s.ps.length at0 i c=0:=by
     unfold w5
     rw [if_neg (by omega)]
     split
     ·exact hs.z _ c (Nat.le_refl _) (by omega) (by omega)
     ·exact hs.z _ c (by omega) hh (by omega)
    rw [this]
    grind
  ·rw [h5]
   exact aQm hs.bd (by omega) (by omega) hlt hk
  ·rw [h5]
   refine Bd.mono (Bd.mul (m:=5^k*b) ?_ (hs.bd _ _ hlt hk)) (by omega)
   split
   ·exact hs.bdd
   ·exact hs.bdd.neg
theorem aGv {g:Nat→Nat→Rat} {h w b:Nat} (hg:vU h w b g) (hb:2≤b):∀k,k≤w→RI h w b k (vV g h k)
 |0,_=>⟨Nat.zero_le _,fun j hj=>by simp [vV] at hj,fun i c _ _ hc=>absurd hc (by omega),by simpa [vV] using hg,by
   have:Bd 2 1:=by constructor<;>decide
   simpa [vV] using this.mono hb⟩
 |k+1,hk=>aLe (aGv hg hb k (by omega)) hb (by omega)
def wZ (l:List Nat):List Int:=l.map fun(k:Nat)=>(k:Int)
theorem mM (l:List Nat):(wZ l).length=l.length:=by simp [wZ]
theorem aLo (l:List Nat) (k:Nat):wZ (l++[k])=wZ l++[(k:Int)]:=by simp [wZ]
theorem apI {l:List Nat} {k:Nat} (h:l.length≤1000000):rM (wZ l) [(k:Int)]=some (wZ (l++[k])):=by rw [aLo];exact apS (by rw [mM];omega)
theorem aOq {i w b:Nat} (hi:i≤w):5^i*b≤5^w*b:=Nat.mul_le_mul_right b (Nat.pow_le_pow_right (by omega) hi)
end Go.Proofs.YtolfcbpgmfbgmaaGreat
set_option linter.unusedVariables false
namespace Go.Proofs.YtolfcbpgmfbgmaaGreat
/-- The rows that the list of indices names, in a pool of rows. -/
structure Rep (ι:Nat→Nat) (pool:List (List Rat)) (g:Nat→Nat→Rat) (h w:Nat):Prop where
 inj:∀i j,i<h→j<h→ι i=ι j→i=j
 lt:∀i,i<h→ι i<pool.length
 el:∀i,i<h→pool.getD (ι i) []=mp (g i) w
theorem Rep.set {ι:Nat→Nat} {pool:List (List Rat)} {g:Nat→Nat→Rat} {h w i:Nat} (r:Rep ι pool g h w) (hi:i<h) (f:Nat→Rat):Rep ι (pool.set (ι i) (mp f w)) (kX g i f) h w:=by
 refine⟨r.inj,fun j hj=>by rw [List.length_set];exact r.lt j hj,fun j hj=>?_⟩
 rw [List.getD_eq_getElem?_getD,List.getElem?_set]
 by_cases he:j=i
 ·subst he
  rw [if_pos rfl,if_pos (r.lt j hj),aT];rfl
 ·rw [if_neg (fun h=>he (r.inj j i hj hi h.symm)),←List.getD_eq_getElem?_getD,r.el j hj,bN he]
theorem Rep.congr {ι:Nat→Nat} {pool:List (List Rat)} {g g':Nat→Nat→Rat} {h w:Nat} (r:Rep ι pool g h w) (e:∀i c,i<h→c<w→g i c=g' i c):Rep ι pool g' h w:=
 ⟨r.inj,r.lt,fun i hi=>by rw [r.el i hi];exact gS fun c hc=>e i c hi hc⟩
theorem Rep.sel {ι:Nat→Nat} {pool:List (List Rat)} {g:Nat→Nat→Rat} {h w:Nat} (r:Rep ι pool g h w):aBq pool (mp ι h)=mx g h w:=by
 unfold aBq mx
 apply List.ext_getElem?
 intro j
 by_cases hj:j<h
 ·rw [List.getElem?_map,xV hj,xV hj,←r.el j hj];rfl
 ·rw [List.getElem?_map,List.getElem?_eq_none (by simp [mp];omega),List.getElem?_eq_none (by simp [mp];omega)];rfl
theorem Rep.swap {ι:Nat→Nat} {pool:List (List Rat)} {g:Nat→Nat→Rat} {h w n a:Nat} (r:Rep ι pool g h w) (hn:n<h) (ha:a<h) (hne:n≠a):Rep (kX (kX ι n (ι a)) a (ι n)) pool (w5 g n a) h w:=by
 have key:∀i,kX (kX ι n (ι a)) a (ι n) i=ι (if i=n then a else if i=a then n else i):=fun i=>by
  unfold kX
  by_cases h1:i=n
  ·rw [if_pos h1,if_neg (by omega),if_pos h1]
  ·rw [if_neg h1]
   by_cases h2:i=a
   ·rw [if_pos h2,if_pos h2,if_neg h1]
   ·rw [if_neg h2,if_neg h1,if_neg h2]
 refine⟨fun i j hi hj e=>?_,fun i hi=>?_,fun i hi=>?_⟩
 ·rw [key,key] at e
  have:=r.inj _ _ (aEy hn ha hi) (aEy hn ha hj) e
  split at this<;>split at this<;>(try split at this)<;>(try split at this)<;>omega
 ·rw [key];exact r.lt _ (aEy hn ha hi)
 ·rw [key];exact r.el _ (aEy hn ha hi)
def mid (f e:Nat→Rat) (c j:Nat):Rat:=if j<c then f j else e j
theorem aM5 {f e:Nat→Rat} {c:Nat}:mid f e c c=e c:=if_neg (Nat.lt_irrefl c)
theorem aC9 {f e:Nat→Rat} {c:Nat}:kX (mid f e c) c (f c)=mid f e (c+1):=by
 funext j
 unfold kX mid
 by_cases h:j=c
 ·rw [if_pos h,if_pos (by omega),h]
 ·rw [if_neg h]
  by_cases hl:j<c
  ·rw [if_pos hl,if_pos (by omega)]
  ·rw [if_neg hl,if_neg (by omega)]
theorem aLt {f e:Nat→Rat} {c:Nat} (h:f c=e c):mid f e c=mid f e (c+1):=by
 funext j
 unfold mid
 by_cases hj:j=c
 ·rw [if_neg (by omega),if_pos (by omega),hj,h]
 ·by_cases hl:j<c
  ·rw [if_pos hl,if_pos (by omega)]
  ·rw [if_neg hl,if_neg (by omega)]
theorem aKf {f e:Nat→Rat} {c j:Nat} (h:j<c):mid f e c j=f j:=if_pos h
theorem aKc {α:Type} {g:Nat→α} {i:Nat} {x y:α}:kX (kX g i x) i y=kX g i y:=by
 funext j
 unfold kX
 split<;>rfl
def clr (g:Nat→Nat→Rat) (i p:Nat) (v:Rat) (c:Nat):Rat:=g i c-v*g p c
theorem aDI {ι:Nat→Nat} {g:Nat→Nat→Rat} {h w b b' i p:Nat} {v:Rat} (hg:∀c,c<w→Bd b (g i c)) (hp':∀c,c<w→Bd b' (g p c)) (hv:Bd b v) (hb:b+b+b'≤1073741824) (hw:w≤1000) (hi:i<h) (hp:p<h) (hne:p≠i) (K:Nat):∀(t c k:Nat) (pool:List (List Rat)),c+t=w→t<k→Rep ι pool (kX g i (mid (clr g i p v) (g i) c)) h w→
  ∃pool',Rep ι pool' (kX g i (clr g i p v)) h w∧gA K (i:Int) (p:Int) v k (mp ι h) pool (c:Int)=some (mp ι h,pool')
 |0,c,k,pool,hc,hk,r=>by
  have:c=w:=by omega
  subst this
  obtain⟨k',rfl,_⟩:=bB hk
  refine⟨pool,r.congr fun j x hj hx=>?_,?_⟩
  ·by_cases he:j=i
   ·rw [he,aT,aT,aKf hx]
   ·rw [bN he,bN he]
  ·simp only [gA,dW (f:=ι) hi,oB,r.el i hi,aZ,dF (show¬(c:Int)<(c:Int) by omega),bU]
 |t+1,c,k,pool,hc,hk,r=>by
  obtain⟨k',rfl,_⟩:=bB hk
  have hcw:c<w:=by omega
  have e1:=r.el i hi
  rw [aT] at e1
  have e2:=r.el p hp
  rw [bN hne] at e2
  simp only [gA,dW (f:=ι) hi,dW (f:=ι) hp,oB,e1,e2,aZ,dT (show(c:Int)<(w:Int) by omega),bY,dW (f:=g p) hcw,uJ (hp' c hcw) (by omega)]
  by_cases hz:g p c=0
  ·simp only [nF (aD3.2 hz),bU,sW (i:=c) (by omega),oB]
   refine aDI hg hp' hv hb hw hi hp hne K t (c+1) k' pool (by omega) (by omega) ?_
   rw [←aLt (show clr g i p v c=g i c by unfold clr;rw [hz];grind)]
   exact r
  ·have r':=r.set hi (kX (mid (clr g i p v) (g i) c) c (clr g i p v c))
   rw [aKc,aC9] at r'
   obtain⟨pool',h1,h2⟩:=aDI hg hp' hv hb hw hi hp hne K t (c+1) k' _ (by omega) (by omega) r'
   refine⟨pool',h1,?_⟩
   simp only [nT (fun h=>hz (aD3.1 h)),bY,dW (f:=mid (clr g i p v) (g i) c) hcw,aM5,aAL hv (hp' c hcw) (by omega) (by omega),aGR (hg c hcw) (hv.mul (hp' c hcw)) (by omega) (by omega),oB,w6 (f:=mid (clr g i p v) (g i) c) hcw,sW (i:=c) (by omega)]
   rw [←aC9] at h2
   exact h2
theorem aL1 {ι:Nat→Nat} {pool:List (List Rat)} {g:Nat→Nat→Rat} {h w b b' i p c0:Nat} {ps:List Int} {d:Rat} (hg:∀c,c<w→Bd b (g i c)) (hp':∀c,c<w→Bd b' (g p c)) (hb:b+b+b'≤1073741824) (hw:w≤1000) (hi:i<h) (hp:p<h) (hc:c0<w) (hne:p≠i) (hz:∀c,c<c0→g p c=0) {K:Nat} (hK:w<K) (r:Rep ι pool g h w):
  ∃pool',Rep ι pool' (kX g i (clr g i p (g i c0))) h w∧n0 K ((mp ι h,pool),ps,d) (i:Int) (p:Int) (c0:Int)=some ((mp ι h,pool'),ps,d):=by
 by_cases h0:g i c0=0
 ·refine⟨pool,r.congr fun j x hj hx=>?_,?_⟩
  ·by_cases he:j=i
   ·rw [he,aT];unfold clr;rw [h0];grind
   ·rw [bN he]
  ·simp only [n0,dW (f:=ι) hi,oB,r.el i hi,dW (f:=g i) hc,uJ (hg c0 hc) (by omega),qT (aD3.2 h0),bY]
 ·have e0:mid (clr g i p (g i c0)) (g i) c0=g i:=by
   funext j
   unfold mid
   split
   ·rename_i hj
    unfold clr
    rw [hz j hj];grind
   ·rfl
  obtain⟨pool',h1,h2⟩:=aDI (v:=g i c0) hg hp' (hg c0 hc) hb hw hi hp hne K (w-c0) c0 K pool (by omega) (by omega) (by
   rw [e0]
   exact r.congr fun j x hj hx=>by
    by_cases he:j=i
    ·rw [he,aT]
    ·rw [bN he])
  refine⟨pool',h1,?_⟩
  simp only [n0,dW (f:=ι) hi,oB,r.el i hi,dW (f:=g i) hc,uJ (hg c0 hc) (by omega),qF (fun h=>h0 (aD3.1 h)),bU,h2,pV]
theorem aDT {ι:Nat→Nat} {g:Nat→Nat→Rat} {h w b:Nat} {ps:List Nat} {v:Rat} (hg:∀c,c<w→Bd b (g ps.length c)) (hv:Bd b v) (hb:b≤1073741824) (hw:w≤1000) (hp:ps.length<h) (K:Nat):∀(t c k:Nat) (pool:List (List Rat)),c+t=w→t<k→Rep ι pool (kX g ps.length (mid (fun c=>g ps.length c/v) (g ps.length) c)) h w→
  ∃pool',Rep ι pool' (kX g ps.length (fun c=>g ps.length c/v)) h w∧jC K (wZ ps) v k (mp ι h) pool (c:Int)=some (mp ι h,pool')
 |0,c,k,pool,hc,hk,r=>by
  have:c=w:=by omega
  subst this
  obtain⟨k',rfl,_⟩:=bB hk
  refine⟨pool,r.congr fun j x hj hx=>?_,?_⟩
  ·by_cases he:j=ps.length
   ·rw [he,aT,aT,aKf hx]
   ·rw [bN he,bN he]
  ·simp only [jC,mM,dW (f:=ι) hp,oB,r.el _ hp,aZ,dF (show¬(c:Int)<(c:Int) by omega),bU]
 |t+1,c,k,pool,hc,hk,r=>by
  obtain⟨k',rfl,_⟩:=bB hk
  have hcw:c<w:=by omega
  have e1:=r.el _ hp
  rw [aT] at e1
  have r':=r.set hp (kX (mid (fun c=>g ps.length c/v) (g ps.length) c) c (g ps.length c/v))
  rw [aKc,aC9 (f:=fun c=>g ps.length c/v)] at r'
  obtain⟨pool',h1,h2⟩:=aDT hg hv hb hw hp K t (c+1) k' _ (by omega) (by omega) r'
  refine⟨pool',h1,?_⟩
  simp only [jC,mM,dW (f:=ι) hp,oB,e1,aZ,dT (show(c:Int)<(w:Int) by omega),bY,dW (f:=mid (fun c=>g ps.length c/v) (g ps.length) c) hcw,aM5,aAO (hg c hcw) hv hb hb,w6 (f:=mid (fun c=>g ps.length c/v) (g ps.length) c) hcw,sW (i:=c) (by omega)]
  rw [←aC9] at h2
  exact h2
def els (g:Nat→Nat→Rat) (p c0 i j c:Nat):Rat:=if j<i∧j≠p then g j c-g j c0*g p c else g j c
theorem aDp {ι:Nat→Nat} {g:Nat→Nat→Rat} {h w b b' c0:Nat} {ps:List Nat} {d:Rat} (hg:∀j c,j<h→j≠ps.length→c<w→Bd b (g j c)) (hp':∀c,c<w→Bd b' (g ps.length c)) (hb:b+b+b'≤1073741824) (hw:w≤1000) (hh:h≤1000) (hp:ps.length<h) (hc:c0<w) (hz:∀c,c<c0→g ps.length c=0) {K:Nat} (hK:w<K):∀(t i k:Nat) (pool:List (List Rat)),i+t=h→t<k→Rep ι pool (els g ps.length c0 i) h w→
  ∃pool',Rep ι pool' (els g ps.length c0 h) h w∧fK K (wZ ps) (c0:Int) (mp ι h) k (wZ ps) (mp ι h) pool d (i:Int)=some (wZ ps,mp ι h,pool',d)
 |0,i,k,pool,hi,hk,r=>by
  have:i=h:=by omega
  subst this
  obtain⟨k',rfl,_⟩:=bB hk
  exact⟨pool,r,by simp only [fK,aZ,dF (show¬(i:Int)<(i:Int) by omega),bU]⟩
 |t+1,i,k,pool,hi,hk,r=>by
  obtain⟨k',rfl,_⟩:=bB hk
  have hih:i<h:=by omega
  by_cases he:i=ps.length
  ·have e:els g ps.length c0 i=els g ps.length c0 (i+1):=by
    funext j c
    unfold els
    by_cases hj:j=ps.length
    ·rw [if_neg (by omega),if_neg (by omega)]
    ·by_cases hl:j<i
     ·rw [if_pos ⟨hl,hj⟩,if_pos ⟨by omega,hj⟩]
     ·rw [if_neg (by omega),if_neg (by omega)]
   rw [e] at r
   obtain⟨pool',h1,h2⟩:=aDp hg hp' hb hw hh hp hc hz hK t (i+1) k' pool (by omega) (by omega) r
   refine⟨pool',h1,?_⟩
   simp only [fK,aZ,dT (show(i:Int)<(h:Int) by omega),bY,mM,nF (show(i:Int)=(ps.length:Int) by omega),bU,sW (i:=i) (by omega),oB]
   exact h2
  ·have e1:els g ps.length c0 i i=g i:=by funext c;unfold els;rw [if_neg (by omega)]
   have e2:els g ps.length c0 i ps.length=g ps.length:=by funext c;unfold els;rw [if_neg (by omega)]
   obtain⟨p1,r1,q1⟩:=aL1 (ps:=wZ ps) (d:=d) (g:=els g ps.length c0 i) (i:=i) (p:=ps.length) (c0:=c0) (b:=b) (b':=b') (by rw [e1];exact fun c hc=>hg i c hih he hc) (by rw [e2];exact hp') hb hw hih hp hc (fun h=>he h.symm) (by rw [e2];exact hz) hK r
   have e:kX (els g ps.length c0 i) i (clr (els g ps.length c0 i) i ps.length (els g ps.length c0 i i c0))=els g ps.length c0 (i+1):=by
    funext j c
    by_cases hj:j=i
    ·rw [hj,aT]
     unfold clr
     rw [e1,e2]
     unfold els
     rw [if_pos ⟨by omega,he⟩]
    ·rw [bN hj]
     unfold els
     by_cases hl:j<i∧j≠ps.length
     ·rw [if_pos hl,if_pos ⟨by omega,hl.2⟩]
     ·rw [if_neg hl,if_neg (by omega)]
   rw [e] at r1
   obtain⟨pool',h1,h2⟩:=aDp hg hp' hb hw hh hp hc hz hK t (i+1) k' p1 (by omega) (by omega) r1
   refine⟨pool',h1,?_⟩
   simp only [fK,aZ,dT (show(i:Int)<(h:Int) by omega),bY,mM,nT (show(i:Int)≠(ps.length:Int) by omega),q1,sW (i:=i) (by omega),oB]
   exact h2
theorem aH7 {g:Nat→Nat→Rat} {h w b c n:Nat} (hg:vU h w b g) (hb:b≤1073741824) (hh:h≤1000) (hc:c<w) (hn:n≤h) (K:Nat):∀(t i k:Nat),n+i+t=h→t<k→bW K (mp (fun j=>mp (g (n+j)) w) (h-n)) (jX (c:Int)) k (i:Int)=some (if piv g c t (n+i)=h then .go () else .ret ((piv g c t (n+i):Int)-n))
 |0,i,k,hi,hk=>by
  obtain⟨k',rfl,_⟩:=bB hk
  have e:piv g c 0 (n+i)=h:=by simp only [piv];omega
  rw [if_pos e]
  simp only [bW,aZ,dF (show¬(i:Int)<((h-n:Nat):Int) by omega),bU]
 |t+1,i,k,hi,hk=>by
  obtain⟨k',rfl,_⟩:=bB hk
  have hx:=hg (n+i) c (by omega) hc
  simp only [bW,aZ,dT (show(i:Int)<((h-n:Nat):Int) by omega),bY,dW (f:=fun j=>mp (g (n+j)) w) (show i<h-n by omega),oB,jX,dW (f:=g (n+i)) hc,uJ hx hb,piv]
  by_cases hz:g (n+i) c=0
  ·simp only [nF (aD3.2 hz),bU,if_pos hz,sW (i:=i) (by omega),oB]
   exact aH7 hg hb hh hc hn K t (i+1) k' (by omega) (by omega)
  ·simp only [nT (fun h=>hz (aD3.1 h)),bY,if_neg hz,if_neg (show¬n+i=h by omega)]
   congr 2
   omega
theorem aLu {g:Nat→Nat→Rat} {h w b c n:Nat} (hg:vU h w b g) (hb:b≤1073741824) (hh:h≤1000) (hc:c<w) (hn:n≤h) {K:Nat} (hK:h<K):eZ K (mp (fun j=>mp (g (n+j)) w) (h-n)) (jX (c:Int))=some (if piv g c (h-n) n=h then -1 else(piv g c (h-n) n:Int)-n):=by
 have:=aH7 hg hb hh hc hn K (h-n) 0 K (by omega) (by omega)
 simp only [Int.natCast_zero,Nat.add_zero] at this
 by_cases hat:piv g c (h-n) n=h
 ·rw [if_pos hat] at this ⊢
  simp only [eZ,this,oB,jA]
 ·rw [if_neg hat] at this ⊢
  simp only [eZ,this,oB]
theorem aDW {g:Nat→Nat→Rat} {h w n b:Nat} (hg:vU h w b g) (hb:2≤b) (hn:n≤w) (hB:5^n*b≤200000000) (hh:h≤1000) (hw:w≤1000) {K:Nat} (hK:w+h<K):∀(t i k:Nat) (ι:Nat→Nat) (pool:List (List Rat)),i+t=n→t<k→Rep ι pool (vV g h i).g h w→
  ∃ι' pool',Rep ι' pool' (vV g h n).g h w∧cC K (n:Int) k (wZ (vV g h i).ps) (mp ι h) pool (vV g h i).d (i:Int)=some (wZ (vV g h n).ps,mp ι' h,pool',(vV g h n).d)
 |0,i,k,ι,pool,hi,hk,r=>by
  have:i=n:=by omega
  subst this
  obtain⟨k',rfl,_⟩:=bB hk
  exact⟨ι,pool,r,by simp only [cC,dF (show¬(i:Int)<(i:Int) by omega),bU]⟩
 |t+1,i,k,ι,pool,hi,hk,r=>by
  obtain⟨k',rfl,_⟩:=bB hk
  have hs:=aGv hg hb i (by omega)
  have ih:=aDW hg hb hn hB hh hw hK t (i+1) k'
  have h5:5^i*b≤200000000:=Nat.le_trans (aOq (by omega)) hB
  simp only [vV] at ih
  generalize vV g h i=s at *
  have hp:=aDO (g:=s.g) (k:=i) (h-s.ps.length) s.ps.length
  have hl:s.ps.length+(h-s.ps.length)=h:=by have:=hs.ph;omega
  have hc:i<w:=by omega
  have hsl:=aR3 (f:=fun j=>mp (s.g j) w) hs.ph
  simp only [cC,dT (show(i:Int)<(n:Int) by omega),bY,mM,r.sel,nG]
  unfold mx
  simp only [hsl,oB,aLu hs.bd (by omega) hh hc hs.ph (K:=K) (by omega)]
  unfold wM at ih
  by_cases hat:piv s.g i (h-s.ps.length) s.ps.length=h
  ·simp only [if_pos hat] at ih ⊢
   obtain⟨ι',pool',h1,h2⟩:=ih ι pool (by omega) (by omega) r
   refine⟨ι',pool',h1,?_⟩
   simp only [show decide ((-1:Int)<0)=true from rfl,bY,sW (i:=i) (by omega),oB]
   exact h2
  ·simp only [if_neg hat] at ih ⊢
   have hlt:piv s.g i (h-s.ps.length) s.ps.length<h:=by omega
   have hnz:=aIh (g:=s.g) (k:=i) (h-s.ps.length) s.ps.length (by omega)
   generalize ha:piv s.g i (h-s.ps.length) s.ps.length=at0 at *
   have hpl:s.ps.length<h:=by omega
   have hsb:vU h w (5^i*b) (w5 s.g s.ps.length at0):=fun j c hj hc=>aIO hs.bd hpl hlt hj hc
   have hs0:w5 s.g s.ps.length at0 s.ps.length=s.g at0:=by unfold w5;rw [if_pos rfl]
   have go:∀(ι1:Nat→Nat) (d1:Rat),Rep ι1 pool (w5 s.g s.ps.length at0) h w→Bd (5^i*b) d1→d1=(if at0=s.ps.length then s.d else -s.d)→
     ∃ι' pool',Rep ι' pool' (vV g h n).g h w∧lA K (wZ s.ps) (i:Int) (cC K (n:Int) k') (mp ι1 h) pool d1=some (wZ (vV g h n).ps,mp ι' h,pool',(vV g h n).d):=by
    intro ι1 d1 r1 hd1 ed
    have e1:=r1.el _ hpl
    rw [hs0] at e1
    have hrow:∀c,c<w→Bd (5^i*b) (w5 s.g s.ps.length at0 s.ps.length c):=fun c hc=>hsb _ c hpl hc
    have hz0:∀c,c<i→s.g at0 c=0:=fun c hc=>hs.z at0 c hp.1 hlt hc
    obtain⟨p2,r2,q2⟩:=aDT (ps:=s.ps) (v:=s.g at0 i) hrow (hs.bd at0 i hlt hc) (by omega) hw hpl K (w-i) i K pool (by omega) (by omega) (by
     refine r1.congr fun j x hj hx=>?_
     by_cases he:j=s.ps.length
     ·rw [he,aT]
      unfold mid
      split
      ·rename_i hxi
       rw [hs0,hz0 x hxi];grind
      ·rfl
     ·rw [bN he])
    generalize hG:kX (w5 s.g s.ps.length at0) s.ps.length (fun c=>w5 s.g s.ps.length at0 s.ps.length c/s.g at0 i)=G at *
    have G0:G s.ps.length=pr s.g at0 i:=by rw [←hG,aT];funext c;rw [hs0];rfl
    have G1:∀j,j≠s.ps.length→G j=w5 s.g s.ps.length at0 j:=fun j hj=>by rw [←hG,bN hj]
    obtain⟨p3,r3,q3⟩:=aDp (g:=G) (b:=5^i*b) (b':=5^i*b+5^i*b) (c0:=i) (ps:=s.ps) (d:=d1*s.g at0 i) (fun j c hj hne hc=>by rw [G1 j hne];exact hsb j c hj hc) (fun c hc=>by rw [G0];exact aMX hs.bd hlt (by omega) hc) (by omega) hw hh hpl hc (fun c hc=>by rw [G0];unfold pr;rw [hz0 c hc];grind) (K:=K) (by omega) h 0 K p2 (by omega) (by omega) (r2.congr fun j x hj hx=>by unfold els;rw [if_neg (by omega)])
    obtain⟨ι',pool',h1,h2⟩:=ih ι1 p3 (by omega) (by omega) (r3.congr fun j x hj hx=>by
     unfold els stp
     by_cases he:j=s.ps.length
     ·rw [if_neg (by omega),if_pos he,he,G0]
     ·rw [if_pos ⟨hj,he⟩,if_neg he,G0,G1 j he])
    refine⟨ι',pool',h1,?_⟩
    simp only [Int.natCast_zero] at q3
    simp only [lA,mM,dW (f:=ι1) hpl,oB,e1,dW (f:=s.g at0) hc,aAL hd1 (hs.bd at0 i hlt hc) (by omega) (by omega),q2,qY,q3,qJ,apI (k:=i) (l:=s.ps) (by have:=hs.ph;omega),sW (i:=i) (by omega)]
    rw [ed]
    exact h2
   by_cases he:at0=s.ps.length
   ·have ew:w5 s.g s.ps.length at0=s.g:=by
     funext j
     unfold w5
     split
     ·rename_i hj;rw [he,hj]
     ·split
      ·rename_i h1 h2;exact absurd (h2.trans he) h1
      ·rfl
    obtain⟨ι',pool',h1,h2⟩:=go ι s.d (by rw [ew];exact r) hs.bdd (by rw [if_pos he])
    refine⟨ι',pool',h1,?_⟩
    simp only [dF (show¬((at0:Int)-(s.ps.length:Int)<0) by omega),bU,dF (show¬(0<(at0:Int)-(s.ps.length:Int)) by omega)]
    exact h2
   ·obtain⟨ι',pool',h1,h2⟩:=go _ (-s.d) (r.swap hpl hlt (fun h=>he h.symm)) hs.bdd.neg (by rw [if_neg he])
    refine⟨ι',pool',h1,?_⟩
    have e3:aQ ((s.ps.length:Int)+((at0:Int)-(s.ps.length:Int)))=some (at0:Int):=zH (m:=0) (n:=at0) (by omega) (by omega)
    simp only [dF (show¬((at0:Int)-(s.ps.length:Int)<0) by omega),bU,dT (show(0<(at0:Int)-(s.ps.length:Int)) by omega),bY,e3,oB,dW (f:=ι) hlt,dW (f:=ι) hpl,w6 (f:=ι) hpl,dW (f:=kX ι s.ps.length (ι at0)) hlt,w6 (f:=kX ι s.ps.length (ι at0)) hlt,aBU hs.bdd (by omega)]
    exact h2
theorem aFf {g:Nat→Nat→Rat} {h w:Nat} (hh:h≤1000) (hw:w≤1000) (K:Nat):∀(t i k:Nat),i+t=h→t<k→jU K (mx g h w) k (mp id i) (mp (fun i=>mp (g i) w) i) (i:Int)=some (mp id h,mx g h w)
 |0,i,k,hi,hk=>by
  have:i=h:=by omega
  subst this
  obtain⟨k',rfl,_⟩:=bB hk
  simp only [jU,nG,dF (show¬(i:Int)<(i:Int) by omega),bU]
  rfl
 |t+1,i,k,hi,hk=>by
  obtain⟨k',rfl,_⟩:=bB hk
  have e2:rM ([]:List Rat) (mp (g i) w)=some (mp (g i) w):=by rw [aDv (by rw [aZ,List.length_nil];omega),List.nil_append]
  have e3:=apM (g:=(id:Nat→Nat)) (i:=i) (by omega)
  simp only [id] at e3
  simp only [jU,nG,dT (show(i:Int)<(h:Int) by omega),bY,xN (g:=g) (w:=w) (show i<h by omega),oB,g8,e2,aZ,sW (i:=i) (by omega)]
  have e4:rM (mp id i) [i]=some (mp id (i+1)):=apM (g:=(id:Nat→Nat)) (i:=i) (by omega)
  rw [e4]
  simp only [oB]
  rw [←aBW (fun i=>mp (g i) w) i]
  exact aFf hh hw K t (i+1) k' (by omega) (by omega)
theorem aJI:qof 1 1=some 1:=by rw [aG0 (by omega) (by omega),aMC]
theorem aFK {g:Nat→Nat→Rat} {h w n b:Nat} (hg:vU h w b g) (hb:2≤b) (hn:n≤w) (hB:5^n*b≤200000000) (hh:h≤1000) (hw:w≤1000) {K:Nat} (hK:w+h<K):qH K (mx g h w) (n:Int)=some ⟨mx (vV g h n).g h w,wZ (vV g h n).ps,(vV g h n).d⟩:=by
 have h1:=aFf (g:=g) hh hw K h 0 K (by omega) (by omega)
 have r0:Rep id (mx g h w) g h w:=⟨fun i j _ _ e=>e,fun i hi=>by rw [nG];exact hi,fun i hi=>by
  rw [List.getD_eq_getElem?_getD];unfold mx;rw [xV (show id i<h from hi)];rfl⟩
 obtain⟨ι',pool',h2,h3⟩:=aDW hg hb hn hB hh hw hK n 0 K id (mx g h w) (by omega) (by omega) r0
 simp only [Int.natCast_zero,vA] at h1 h3
 have e:wZ (vV g h 0).ps=[]:=rfl
 have e':(vV g h 0).d=1:=rfl
 rw [e,e'] at h3
 simp only [qH,aJI,oB,h1,rQ,h3,qL,h2.sel]
end Go.Proofs.YtolfcbpgmfbgmaaGreat
set_option linter.unusedVariables false
namespace Go.Proofs.YtolfcbpgmfbgmaaGreat
/-- A list of numbers read by index. -/
def pat (ps:List Nat) (i:Nat):Nat:=ps.getD i 0
theorem aKk {ps:List Nat} {i:Nat} (h:i<ps.length):pat ps i∈ps:=by
 unfold pat
 simp only [List.getD_eq_getElem?_getD,List.getElem?_eq_getElem h,Option.getD_some]
 exact List.getElem_mem h
theorem rdI {ps:List Nat} {i:Nat} (h:i<ps.length):bK (wZ ps) (i:Int)=some ((pat ps i:Nat):Int):=by
 refine rdG ?_
 unfold wZ pat
 rw [List.getElem?_map,List.getD_eq_getElem?_getD,List.getElem?_eq_getElem h];rfl
def Cok (h w:Nat):Prop:=h=0→w=0
theorem aGZ {g:Nat→Nat→Rat} {h w:Nat} (hc:Cok h w):rI (mx g h w)=some (w:Int):=by
 by_cases h0:h=0
 ·subst h0
  rw [hc rfl];rfl
 ·have r0:=xN (g:=g) (w:=w) (show 0<h by omega)
  simp only [Int.natCast_zero] at r0
  simp only [rI,nG,qF (show¬(h:Int)=0 by omega),bU,r0,oB,aZ]
theorem aIu {g:Nat→Nat→Rat} {h w:Nat} (hh:h≤1000) (K:Nat):∀(t i k:Nat),i+t=h→t<k→bW K (mx g h w) (oY (mx g h w)) k (i:Int)=some (.go ())
 |0,i,k,hi,hk=>by
  obtain⟨k',rfl,_⟩:=bB hk
  simp only [bW,nG,dF (show¬(i:Int)<(h:Int) by omega),bU]
 |t+1,i,k,hi,hk=>by
  obtain⟨k',rfl,_⟩:=bB hk
  have r0:=xN (g:=g) (w:=w) (show 0<h by omega)
  simp only [Int.natCast_zero] at r0
  simp only [bW,nG,dT (show(i:Int)<(h:Int) by omega),bY,xN (g:=g) (w:=w) (show i<h by omega),oB,oY,r0,aZ,nF (rfl:(w:Int)=(w:Int)),bU,sW (i:=i) (by omega)]
  exact aIu hh K t (i+1) k' (by omega) (by omega)
theorem aHA {g:Nat→Nat→Rat} {h w:Nat} (hc:Cok h w) (hh:h≤64) (hw:w≤64) {K:Nat} (hK:h<K):sB K (mx g h w)=some true:=by
 have:=aIu (g:=g) (w:=w) (show h≤1000 by omega) K h 0 K (by omega) hK
 simp only [Int.natCast_zero] at this
 simp only [sB,nG,dT (show(h:Int)≤64 by omega),bY,aGZ hc,oB,dT (show(w:Int)≤64 by omega),lV,eZ,this,jA]
 rfl
end Go.Proofs.YtolfcbpgmfbgmaaGreat
set_option linter.unusedVariables false
namespace Go.Proofs.YtolfcbpgmfbgmaaGreat
theorem aDH (f g:Nat→Rat) (a:Rat):∀n,sm (fun c=>f c-a*g c) n=sm f n-a*sm g n
 |0=>by simp only [sm];grind
 |n+1=>by
  have ih:=aDH f g a n
  simp only [sm]
  rw [ih];grind
theorem aE7 (f:Nat→Rat) (a:Rat):∀n,sm (fun c=>f c*a) n=sm f n*a
 |0=>by simp only [sm];grind
 |n+1=>by
  have ih:=aE7 f a n
  simp only [sm]
  rw [ih];grind
theorem fO {f g:Nat→Rat}:∀{n:Nat},(∀i,i<n→f i=g i)→sm f n=sm g n
 |0,_=>rfl
 |n+1,h=>by
  simp only [sm]
  rw [fO fun i hi=>h i (by omega),h n (by omega)]
theorem aD8 {f:Nat→Rat} {n:Nat} (h:∀i,i<n→f i=0):sm f n=0:=by
 rw [fO (g:=fun _=>0) h]
 induction n with
 |zero=>rfl
 |succ n ih=>simp only [sm];rw [ih fun i hi=>h i (by omega)];grind
theorem aDN {f:Nat→Rat} {n p:Nat} (hp:p<n) (h:∀i,i<n→i≠p→f i=0):sm f n=f p:=by
 induction n with
 |zero=>omega
 |succ n ih=>
  simp only [sm]
  by_cases he:p=n
  ·rw [aD8 fun i hi=>h i (by omega) (by omega),he];grind
  ·rw [ih (by omega) fun i hi hne=>h i (by omega) hne,h n (by omega) (by omega)];grind
theorem aGe (f g:Nat→Rat):∀n,sm (fun c=>f c+g c) n=sm f n+sm g n
 |0=>by simp only [sm];grind
 |n+1=>by
  have ih:=aGe f g n
  simp only [sm]
  rw [ih];grind
def rd (g:Nat→Nat→Rat) (y:Nat→Rat) (n i:Nat):Rat:=sm (fun c=>g i c*y c) n
structure RJ (h k:Nat) (s:RS):Prop where
 ph:s.ps.length≤h
 pk:∀i,i<s.ps.length→pat s.ps i<k
 z:∀i c,s.ps.length≤i→i<h→c<k→s.g i c=0
 one:∀i i',i<s.ps.length→i'<h→s.g i' (pat s.ps i)=if i'=i then 1 else 0
 lead:∀i c,i<s.ps.length→c<pat s.ps i→s.g i c=0
 inc:∀i j,i<j→j<s.ps.length→pat s.ps i<pat s.ps j
 gap:∀c,c<k→c∉s.ps→∀i,i<s.ps.length→c<pat s.ps i→s.g i c=0
theorem aBH {ps:List Nat} {k i:Nat} (h:i<ps.length):pat (ps++[k]) i=pat ps i:=by
 unfold pat
 rw [List.getD_eq_getElem?_getD,List.getD_eq_getElem?_getD,List.getElem?_append_left h]
theorem aD9 {ps:List Nat} {k:Nat}:pat (ps++[k]) ps.length=k:=by
 unfold pat
 rw [List.getD_eq_getElem?_getD,List.getElem?_append_right (Nat.le_refl _),Nat.sub_self];rfl
theorem aLK {h k:Nat} {s:RS} (hs:RJ h k s):RJ h (k+1) (wM h k s):=by
 have hp:=aDO (g:=s.g) (k:=k) (h-s.ps.length) s.ps.length
 have hph:=hs.ph
 unfold wM
 split
 ·rename_i hat
  refine⟨hs.ph,fun i hi=>Nat.lt_succ_of_lt (hs.pk i hi),fun i c hi hh hc=>?_,hs.one,hs.lead,hs.inc,fun c _ _ i hi hlt=>hs.lead i c hi hlt⟩
  by_cases he:c=k
  ·subst he;exact aLN (h-s.ps.length) s.ps.length i hi (by omega)
  ·exact hs.z i c hi hh (by omega)
 ·rename_i hat
  have hlt:piv s.g k (h-s.ps.length) s.ps.length<h:=by omega
  have hne:=aIh (g:=s.g) (k:=k) (h-s.ps.length) s.ps.length (by omega)
  generalize ha:piv s.g k (h-s.ps.length) s.ps.length=at0 at *
  have hz:∀c,c<k→s.g at0 c=0:=fun c hc=>hs.z at0 c hp.1 hlt hc
  have hpr:∀c,c<k→pr s.g at0 k c=0:=fun c hc=>by unfold pr;rw [hz c hc,Rat.div_def,Rat.zero_mul]
  have hprk:pr s.g at0 k k=1:=by unfold pr;rw [Rat.div_def,Rat.mul_inv_cancel _ hne]
  have hswz:∀i c,s.ps.length<i→i<h→c<k→w5 s.g s.ps.length at0 i c=0:=fun i c hi hih hc=>by
   unfold w5
   rw [if_neg (by omega)]
   split
   ·exact hs.z _ c (Nat.le_refl _) (by omega) hc
   ·exact hs.z _ c (by omega) hih hc
  have hsw:∀i c,i<s.ps.length→w5 s.g s.ps.length at0 i c=s.g i c:=fun i c hi=>by
   unfold w5
   rw [if_neg (by omega),if_neg (by omega)]
  have hlead:∀i c,i<s.ps.length+1→c<pat (s.ps++[k]) i→stp s.g s.ps.length at0 k i c=0:=fun i c hi hc=>by
   by_cases he:i=s.ps.length
   ·subst he
    rw [aD9] at hc
    unfold stp
    rw [if_pos rfl];exact hpr c hc
   ·have hi':i<s.ps.length:=by omega
    rw [aBH hi'] at hc
    unfold stp
    rw [if_neg he,hsw i c hi',hsw i k hi',hs.lead i c hi' hc,hpr c (by have:=hs.pk i hi';omega)]
    grind
  refine⟨by simp only [List.length_append,List.length_singleton];omega,fun i hi=>?_,fun i c hi hh hc=>?_,fun i i' hi hi'=>?_,fun i c hi hc=>hlead i c (by simpa using hi) hc,fun i j hij hj=>?_,fun c _ _ i hi hlt=>hlead i c (by simpa using hi) hlt⟩
  ·simp only [List.length_append,List.length_singleton] at hi
   by_cases he:i=s.ps.length
   ·subst he;simp only [aD9];omega
   ·simp only [aBH (show i<s.ps.length by omega)]
    have:=hs.pk i (by omega);omega
  ·simp only [List.length_append,List.length_singleton] at hi
   show stp s.g s.ps.length at0 k i c=0
   unfold stp
   rw [if_neg (by omega)]
   by_cases he:c=k
   ·subst he
    rw [hprk,Rat.mul_one,Rat.sub_self]
   ·rw [hswz i c (by omega) hh (by omega),hpr c (by omega)]
    grind
  ·simp only [List.length_append,List.length_singleton] at hi
   show stp s.g s.ps.length at0 k i' (pat (s.ps++[k]) i)=_
   unfold stp
   by_cases he:i=s.ps.length
   ·subst he
    rw [aD9]
    by_cases e2:i'=s.ps.length
    ·rw [if_pos e2,if_pos e2,hprk]
    ·rw [if_neg e2,if_neg e2,hprk,Rat.mul_one,Rat.sub_self]
   ·have hi2:i<s.ps.length:=by omega
    rw [aBH hi2,hpr _ (hs.pk i hi2)]
    by_cases e2:i'=s.ps.length
    ·rw [if_pos e2,if_neg (by omega)]
    ·rw [if_neg e2]
     by_cases e3:i'<s.ps.length
     ·rw [hsw i' _ e3,hs.one i i' hi2 (by omega)]
      grind
     ·rw [hswz i' _ (by omega) hi' (hs.pk i hi2),if_neg (by omega)]
      grind
  ·simp only [List.length_append,List.length_singleton] at hj
   by_cases he:j=s.ps.length
   ·subst he
    simp only [aD9,aBH (show i<s.ps.length by omega)]
    exact hs.pk i (by omega)
   ·simp only [aBH (show i<s.ps.length by omega),aBH (show j<s.ps.length by omega)]
    exact hs.inc i j hij (by omega)
theorem aJq {g:Nat→Nat→Rat} {h:Nat}:∀k,RJ h k (vV g h k)
 |0=>⟨Nat.zero_le _,fun i hi=>absurd hi (by simp [vV]),fun i c _ _ hc=>absurd hc (by omega),fun i i' hi _=>absurd hi (by simp [vV]),fun i c hi _=>absurd hi (by simp [vV]),fun i j _ hj=>absurd hj (by simp [vV]),fun c hc=>absurd hc (by omega)⟩
 |k+1=>aLK (aJq k)
end Go.Proofs.YtolfcbpgmfbgmaaGreat
set_option linter.unusedVariables false
namespace Go.Proofs.YtolfcbpgmfbgmaaGreat
theorem aGH (F:Nat→Nat→Rat) (m:Nat):∀n,sm (fun i=>sm (F i) m) n=sm (fun j=>sm (fun i=>F i j) n) m
 |0=>by
  simp only [sm]
  exact(aD8 fun i _=>rfl).symm
 |n+1=>by
  simp only [sm]
  rw [aGH F m n,aGe]
theorem zQ (f:Nat→Rat) (a:Rat) (n:Nat):sm (fun c=>a*f c) n=a*sm f n:=by
 rw [Rat.mul_comm,←aE7]
 exact fO fun i _=>Rat.mul_comm _ _
theorem aGY (f:Nat→Rat) (n:Nat):sm (fun c=>-(f c)) n=-(sm f n):=by
 have:=zQ f (-1) n
 rw [fO (g:=fun c=>-1*f c) fun i _=>by grind,this];grind
def skp (k c:Nat):Nat:=if c<k then c else c+1
theorem aMT (F:Nat→Rat) {k:Nat}:∀{n:Nat},k≤n→sm (fun l=>F (skp k l)) n=sm (fun m=>if m=k then 0 else F m) (n+1)
 |0,h=>by
  have:k=0:=by omega
  subst this
  simp only [sm];grind
 |n+1,h=>by
  by_cases hk:k≤n
  ·have ih:=aMT F hk
   rw [sm,ih,sm,sm,sm]
   have e1:skp k n=n+1:=by unfold skp;rw [if_neg (by omega)]
   rw [e1,if_neg (show¬n+1=k by omega)]
  ·have:k=n+1:=by omega
   subst this
   rw [sm.eq_2 _ (n+1),if_pos rfl]
   rw [fO (g:=F) fun i hi=>by unfold skp;rw [if_pos hi],fO (g:=F) fun i hi=>if_neg (by omega)]
   grind
def sgn (k:Nat):Rat:=if k%2=0 then 1 else -1
def mnr (g:Nat→Nat→Rat) (k i c:Nat):Rat:=g (i+1) (skp k c)
def dt:Nat→(Nat→Nat→Rat)→Rat
 |0,_=>1
 |n+1,g=>sm (fun k=>sgn k*(g 0 k*dt n (mnr g k))) (n+1)
theorem aLF {k c n:Nat} (hc:c<n):skp k c<n+1:=by unfold skp;split<;>omega
theorem uV:∀{n:Nat} {g g':Nat→Nat→Rat},(∀i c,i<n→c<n→g i c=g' i c)→dt n g=dt n g'
 |0,_,_,_=>rfl
 |n+1,g,g',h=>by
  simp only [dt]
  refine fO fun k hk=>?_
  rw [h 0 k (by omega) hk,uV (g:=mnr g k) (g':=mnr g' k) fun i c hi hc=>h (i+1) _ (by omega) (aLF hc)]
theorem aL4 {g:Nat→Nat→Rat} {f:Nat→Rat} {k:Nat}:mnr (kX g 0 f) k=mnr g k:=by
 funext i c
 unfold mnr
 rw [bN (by omega)]
theorem aND {g:Nat→Nat→Rat} {f:Nat→Rat} {k j:Nat}:mnr (kX g (j+1) f) k=kX (mnr g k) j (fun c=>f (skp k c)):=by
 funext i c
 unfold mnr
 by_cases h:i=j
 ·subst h;rw [aT,aT]
 ·rw [bN (by omega),bN h]
theorem aJc {u v:Nat→Rat} {a:Rat}:∀{n:Nat} {g:Nat→Nat→Rat} {i:Nat},i<n→dt n (kX g i (fun c=>u c-a*v c))=dt n (kX g i u)-a*dt n (kX g i v)
 |0,_,_,h=>by omega
 |n+1,g,0,_=>by
  simp only [dt,aL4,aT]
  rw [←aDH]
  exact fO fun k _=>by grind
 |n+1,g,j+1,h=>by
  simp only [dt,aND,bN (show 0≠j+1 by omega)]
  rw [←aDH]
  refine fO fun k _=>?_
  rw [aJc (u:=fun c=>u (skp k c)) (v:=fun c=>v (skp k c)) (a:=a) (show j<n by omega)]
  grind
theorem aCS (k:Nat):sgn (k+1)=-(sgn k):=by
 unfold sgn
 by_cases h:k%2=0
 ·rw [if_pos h,if_neg (by omega)]
 ·rw [if_neg h,if_pos (by omega)];grind
theorem aGM (k:Nat):∀l,sgn (k+l)=sgn k*sgn l
 |0=>by
  have:sgn 0=1:=rfl
  rw [this,Nat.add_zero];grind
 |l+1=>by
  rw [←Nat.add_assoc,aCS,aGM k l,aCS];grind
def aKM (k m c:Nat):Nat:=if c<min k m then c else if c+1<max k m then c+1 else c+2
theorem aNG (k l c:Nat):skp k (skp l c)=aKM k (skp k l) c:=by
 unfold aKM skp
 by_cases h1:l<k
 ·rw [if_pos h1]
  repeat' split
  all_goals omega
 ·rw [if_neg h1]
  repeat' split
  all_goals omega
theorem aKT (k m c:Nat):aKM k m c=aKM m k c:=by
 unfold aKM;rw [Nat.min_comm,Nat.max_comm]
def eps (k m:Nat):Rat:=if k<m then sgn (k+m+1) else sgn (k+m)
theorem aMY {k m:Nat} (h:m≠k):eps k m=-(eps m k):=by
 unfold eps
 by_cases h1:k<m
 ·rw [if_pos h1,if_neg (by omega),aCS,Nat.add_comm]
 ·rw [if_neg h1,if_pos (by omega),aCS,Nat.add_comm];grind
theorem aNE (k l:Nat):sgn k*sgn l=eps k (skp k l):=by
 unfold eps skp
 by_cases h:l<k
 ·rw [if_pos h,if_neg (by omega),aGM]
 ·rw [if_neg h,if_pos (by omega)]
  rw [show k+(l+1)+1=k+l+2 by omega,show sgn (k+l+2)=sgn (k+l) by unfold sgn;rw [show(k+l+2)%2=(k+l)%2 by omega],aGM]
def aIW (g:Nat→Nat→Rat) (k m i c:Nat):Rat:=g (i+2) (aKM k m c)
theorem aNr {n:Nat} {g:Nat→Nat→Rat}:dt (n+2) g=sm (fun k=>sm (fun m=>if m=k then 0 else eps k m*(g 0 k*(g 1 m*dt n (aIW g k m)))) (n+2)) (n+2):=by
 rw [dt]
 refine fO fun k hk=>?_
 rw [←aMT (fun m=>eps k m*(g 0 k*(g 1 m*dt n (aIW g k m)))) (show k≤n+1 by omega),dt,←zQ,←zQ]
 refine fO fun l _=>?_
 rw [←aNE,show dt n (mnr (mnr g k) l)=dt n (aIW g k (skp k l)) from congrArg (dt n) (by
  funext i c
  unfold mnr aIW
  rw [aNG])]
 unfold mnr
 grind
theorem aLf {n:Nat} {g:Nat→Nat→Rat}:dt (n+2) (w5 g 0 1)=-(dt (n+2) g):=by
 rw [aNr,aNr,aGH,←aGY]
 refine fO fun k _=>?_
 rw [←aGY]
 refine fO fun m _=>?_
 by_cases h:k=m
 ·rw [if_pos h,if_pos h.symm];grind
 ·rw [if_neg h,if_neg (fun e=>h e.symm),aMY (by exact fun e=>h e)]
  have e:aIW (w5 g 0 1) m k=aIW g k m:=by
   funext i c
   unfold aIW w5
   rw [if_neg (by omega),if_neg (by omega),aKT]
  rw [e]
  have e1:w5 g 0 1 0=g 1:=by unfold w5;rw [if_pos rfl]
  have e2:w5 g 0 1 1=g 0:=by unfold w5;rw [if_neg (by omega),if_pos rfl]
  rw [e1,e2]
  grind
theorem aOw {g:Nat→Nat→Rat} {a b k:Nat}:mnr (w5 g (a+1) (b+1)) k=w5 (mnr g k) a b:=by
 funext i c
 unfold mnr w5
 congr 1
 by_cases h1:i=a
 ·rw [if_pos (by omega),if_pos h1]
 ·rw [if_neg (by omega),if_neg h1]
  by_cases h2:i=b
  ·rw [if_pos (by omega),if_pos h2]
  ·rw [if_neg (by omega),if_neg h2]
theorem aGk:∀{n:Nat} {g:Nat→Nat→Rat} {i:Nat},i+1<n→dt n (w5 g i (i+1))=-(dt n g)
 |0,_,_,h=>by omega
 |1,_,_,h=>by omega
 |n+2,g,0,_=>aLf
 |n+2,g,i+1,h=>by
  rw [dt,dt,←aGY]
  refine fO fun k _=>?_
  rw [aOw,aGk (show i+1<n+1 by omega)]
  have e1:w5 g (i+1) (i+1+1) 0=g 0:=by unfold w5;rw [if_neg (by omega),if_neg (by omega)]
  rw [e1];grind
theorem aIA {n:Nat}:∀(t:Nat) {g:Nat→Nat→Rat} {i:Nat},i+t+1<n→dt n (w5 g i (i+t+1))=-(dt n g)
 |0,g,i,h=>aGk h
 |t+1,g,i,h=>by
  have e:w5 g i (i+(t+1)+1)=w5 (w5 (w5 g (i+t+1) (i+t+1+1)) i (i+t+1)) (i+t+1) (i+t+1+1):=by
   funext j
   unfold w5
   congr 1
   repeat' split
   all_goals omega
  rw [e,aGk (by omega),aIA t (by omega),aGk (by omega)];grind
theorem aNe {g:Nat→Nat→Rat} {a b:Nat}:w5 g a b=w5 g b a:=by
 funext j
 unfold w5
 congr 1
 repeat' split
 all_goals omega
structure Alt (h:Nat) (D:(Nat→Nat→Rat)→Rat):Prop where
 cong:∀g g':Nat→Nat→Rat,(∀i,i<h→g i=g' i)→D g=D g'
 lin:∀(g:Nat→Nat→Rat) (u v:Nat→Rat) (a:Rat) (i:Nat),i<h→D (kX g i (fun c=>u c-a*v c))=D (kX g i u)-a*D (kX g i v)
 swap:∀(g:Nat→Nat→Rat) (i j:Nat),i<h→j<h→i≠j→D (w5 g i j)=-(D g)
theorem aE9 (n:Nat):Alt n (dt n):=⟨fun g g' h=>uV fun i c hi _=>by rw [h i hi],fun g u v a i hi=>aJc hi,fun g i j hi hj hne=>by
 by_cases h:i<j
 ·obtain⟨t,rfl⟩:∃t,j=i+t+1:=⟨j-i-1,by omega⟩
  exact aIA t hj
 ·obtain⟨t,rfl⟩:∃t,i=j+t+1:=⟨i-j-1,by omega⟩
  rw [aNe]
  exact aIA t hi⟩
theorem Alt.zero {h:Nat} {D:(Nat→Nat→Rat)→Rat} (a:Alt h D) {g:Nat→Nat→Rat} {i:Nat} (hi:i<h) (hz:g i=fun _=>0):D g=0:=by
 have:=a.lin g (g i) (g i) 1 i hi
 have e:(fun c=>g i c-1*g i c)=g i:=by funext c;rw [hz];grind
 have e2:kX g i (g i)=g:=by
  funext j
  unfold kX
  split
  ·rename_i h;rw [h]
  ·rfl
 rw [e,e2] at this
 grind
theorem aLY {α:Type} {g:Nat→α} {i:Nat}:kX g i (g i)=g:=by
 funext j
 unfold kX
 split
 ·rename_i h;rw [h]
 ·rfl
theorem Alt.scale {h:Nat} {D:(Nat→Nat→Rat)→Rat} (a:Alt h D) {g:Nat→Nat→Rat} {u:Nat→Rat} {b:Rat} {i:Nat} (hi:i<h):D (kX g i (fun c=>b*u c))=b*D (kX g i u):=by
 have h1:=a.lin g (fun _=>0) u (-b) i hi
 have h2:D (kX g i (fun _=>0))=0:=a.zero hi aT
 rw [h2] at h1
 have e:(fun c=>(0:Rat)- -b*u c)=fun c=>b*u c:=by funext c;grind
 rw [e] at h1
 rw [h1];grind
theorem Alt.same {h:Nat} {D:(Nat→Nat→Rat)→Rat} (a:Alt h D) {g:Nat→Nat→Rat} {i j:Nat} (hi:i<h) (hj:j<h) (hne:i≠j) (he:g i=g j):D g=0:=by
 have h1:=a.swap g i j hi hj hne
 have e:w5 g i j=g:=by
  funext l
  unfold w5
  split
  ·rename_i h;rw [h,he]
  ·split
   ·rename_i h;rw [h,he]
   ·rfl
 rw [e] at h1
 grind
theorem Alt.add {h:Nat} {D:(Nat→Nat→Rat)→Rat} (a:Alt h D) {g:Nat→Nat→Rat} {b:Rat} {i j:Nat} (hi:i<h) (hj:j<h) (hne:i≠j):D (kX g i (fun c=>g i c-b*g j c))=D g:=by
 rw [a.lin g (g i) (g j) b i hi,aLY,a.same (g:=kX g i (g j)) hi hj hne (by rw [aT,bN (fun e=>hne e.symm)])]
 grind
def elm (g:Nat→Nat→Rat) (n k j i c:Nat):Rat:=if i<j∧i≠n then g i c-g i k*g n c else g i c
theorem Alt.elm0 {h:Nat} {D:(Nat→Nat→Rat)→Rat} (a:Alt h D) {g:Nat→Nat→Rat} {n k:Nat} (hn:n<h):∀j,j≤h→D (elm g n k j)=D g
 |0,_=>a.cong _ _ fun i _=>by
  funext c
  exact if_neg (by omega)
 |j+1,hj=>by
  refine Eq.trans ?_ (Alt.elm0 (k:=k) a hn j (by omega))
  by_cases he:j=n
  ·refine a.cong _ _ fun i _=>?_
   funext c
   unfold elm
   by_cases h1:i<j
   ·rw [if_pos ⟨by omega,by omega⟩,if_pos ⟨h1,by omega⟩]
   ·rw [if_neg (by omega),if_neg (by omega)]
  ·refine Eq.trans ?_ (a.add (g:=elm g n k j) (b:=g j k) (show j<h by omega) hn he)
   refine a.cong _ _ fun i _=>?_
   funext c
   by_cases h1:i=j
   ·subst h1
    rw [aT]
    unfold elm
    rw [if_pos ⟨by omega,he⟩,if_neg (by omega),if_neg (by omega)]
   ·rw [bN h1]
    unfold elm
    by_cases h2:i<j∧i≠n
    ·rw [if_pos ⟨by omega,h2.2⟩,if_pos h2]
    ·rw [if_neg (by omega),if_neg h2]
theorem Alt.stp0 {h:Nat} {D:(Nat→Nat→Rat)→Rat} (a:Alt h D) {g:Nat→Nat→Rat} {n at0 k:Nat} (hn:n<h) (ha:at0<h) (hne:g at0 k≠0):D g=(if at0=n then 1 else -1)*g at0 k*D (stp g n at0 k):=by
 have e1:D (w5 g n at0)=(if at0=n then 1 else -1)*D g:=by
  by_cases h1:at0=n
  ·rw [if_pos h1]
   have:w5 g n at0=g:=by
    funext i
    unfold w5
    split
    ·rw [h1];congr 1;omega
    ·split
     ·congr 1;omega
     ·rfl
   rw [this];grind
  ·rw [if_neg h1,a.swap g n at0 hn ha (fun e=>h1 e.symm)];grind
 have e2:D (w5 g n at0)=g at0 k*D (kX (w5 g n at0) n (pr g at0 k)):=by
  rw [←a.scale hn]
  congr 1
  funext i
  by_cases h1:i=n
  ·subst h1
   rw [aT]
   funext c
   unfold w5 pr
   rw [if_pos rfl,Rat.div_def,Rat.mul_comm (g at0 c),←Rat.mul_assoc,Rat.mul_inv_cancel _ hne,Rat.one_mul]
  ·rw [bN h1]
 have e3:D (stp g n at0 k)=D (kX (w5 g n at0) n (pr g at0 k)):=by
  rw [←a.elm0 (g:=kX (w5 g n at0) n (pr g at0 k)) (n:=n) (k:=k) hn h (Nat.le_refl _)]
  refine a.cong _ _ fun i hi=>?_
  funext c
  unfold stp elm
  by_cases h1:i=n
  ·subst h1
   rw [if_pos rfl,if_neg (by omega),aT]
  ·rw [if_neg h1,if_pos ⟨hi,h1⟩,bN h1,aT]
 rw [e3]
 have e4:D g=(if at0=n then 1 else -1)*D (w5 g n at0):=by
  rw [e1]
  split<;>grind
 rw [e4,e2];grind
theorem Alt.red0 {h:Nat} {D:(Nat→Nat→Rat)→Rat} (a:Alt h D) {g:Nat→Nat→Rat}:∀k,D g=(vV g h k).d*D (vV g h k).g
 |0=>by simp only [vV];grind
 |k+1=>by
  refine(Alt.red0 a k).trans ?_
  have hl:=(aJq (g:=g) (h:=h) k).ph
  simp only [vV]
  generalize vV g h k=s at *
  unfold wM
  split
  ·rfl
  ·rename_i hat
   have hp:=aDO (g:=s.g) (k:=k) (h-s.ps.length) s.ps.length
   have hlt:piv s.g k (h-s.ps.length) s.ps.length<h:=by omega
   have hne:=aIh (g:=s.g) (k:=k) (h-s.ps.length) s.ps.length (by omega)
   rw [a.stp0 (g:=s.g) (n:=s.ps.length) (at0:=piv s.g k (h-s.ps.length) s.ps.length) (k:=k) (by omega) hlt hne]
   simp only
   split<;>grind
end Go.Proofs.YtolfcbpgmfbgmaaGreat
set_option linter.unusedVariables false
namespace Go.Proofs.YtolfcbpgmfbgmaaGreat
/-- What a machine's integer is. -/
def I64 (x:Int):Prop:=-9223372036854775808≤x∧x≤9223372036854775807
end Go.Proofs.YtolfcbpgmfbgmaaGreat
