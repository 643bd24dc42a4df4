/- Texts of the proof, part 5: Q2 QZ LB MA MB MC MR MT LG LV MS MN MP MU YC YD LD LS XL XF XA XU XV XW XX XY YE YF YG YH YI YJ YK YL YV WA WB WC WG YM XZ YN. -/
import Derived.Test.YtolfcbpgmfbgmaaGreatZ4
set_option linter.unusedSimpArgs false
set_option linter.unusedVariables false
set_option maxRecDepth 100000
namespace Go.Proofs.YtolfcbpgmfbgmaaGreat
def jJ (K:Nat) (x106:List Nat) (x112:List Rat) (x118:List Int) (x124:List (List Rat)) (x130:Bool) (x131:Int):Option (Nat×(List Nat)×(List Rat)×(List Int)×(List (List Rat))×Bool×Int):=
 some (0,(x106,x112,x118,x124,x130,x131))
def dV (K:Nat) (a3:Int) (yF:Int→(List Nat)→(List Rat)→(List Int)→(List (List Rat))→Bool→Int→Option (Nat×(List Nat)×(List Rat)×(List Int)×(List (List Rat))×Bool×Int)):Nat→(List Nat)→(List Rat)→(List Int)→(List (List Rat))→Bool→Int→Int→Option (LR (Nat×(List Nat)×(List Rat)×(List Int)×(List (List Rat))×Bool×Int) ((List Nat)×(List Rat)×(List Int)×(List (List Rat))×Bool×Int))
 |0,_,_,_,_,_,_,_=>none
 |k+1,x79,x85,x91,x97,x103,x104,x105=>bif(decide (x105<a3)) then((bP x85 x105).bind fun v135=>(wD v135).bind fun v137=>bif(decide (v137<0)) then((yF x105 x79 x85 x91 x97 x103 x104).bind fun v140=>bif Nat.beq v140.1 0 then((aO (x105+1)).bind fun v169=>dV K a3 yF k v140.2.1 v140.2.2.1 v140.2.2.2.1 v140.2.2.2.2.1 v140.2.2.2.2.2.1 v140.2.2.2.2.2.2 v169) else(some (.ret (v140.1,(v140.2.1,v140.2.2.1,v140.2.2.2.1,v140.2.2.2.2.1,v140.2.2.2.2.2.1,v140.2.2.2.2.2.2))))) else((aO (x105+1)).bind fun v199=>dV K a3 yF k x79 x85 x91 x97 x103 x104 v199)) else(some (.go (x79,x85,x91,x97,x103,x104)))
def lX (K:Nat) (yF:Int→(List Nat)→(List Rat)→(List Int)→(List (List Rat))→Bool→Int→Option (Nat×(List Nat)×(List Rat)×(List Int)×(List (List Rat))×Bool×Int)) (a0:Int) (a1:Int) (a2:Int) (a3:Int) (a4:Bool) (a5:Int) (a6:List Nat) (a7:List Rat) (a8:List Int) (a9:List (List Rat)):Option (Nat×(List Nat)×(List Rat)×(List Int)×(List (List Rat))×Bool×Int):=
 (dV K a3 yF K a6 a7 a8 a9 a4 a5 0).bind fun o=>match o with| .ret r=>some r| .go (x106,x112,x118,x124,x130,x131)=>jJ K x106 x112 x118 x124 x130 x131
theorem tY {K:Nat} {yF:Int→(List Nat)→(List Rat)→(List Int)→(List (List Rat))→Bool→Int→Option (Nat×(List Nat)×(List Rat)×(List Int)×(List (List Rat))×Bool×Int)} {l:Nat} {x:LX} {jump:Nat→Code} {Mb:gD} {a0:Int} {a1:Int} {a2:Int} {a3:Int} {a4:Bool} {a5:Int} {a6:List Nat} {a7:List Rat} {a8:List Int} {a9:List (List Rat)} {p0:Nat} {p1:Nat} {p2:Nat} {p3:Nat} {p4:Nat} {p5:Nat} {b5:Option Nat} {c6 n7:Nat} {b10:Option Nat} {c11 n12:Nat} {b15:Option Nat} {c16 n17:Nat} {g20:List q0} {N21:Nat} (hY:∀(k0:Int) (x26:List Nat) (x32:List Rat) (x38:List Int) (x44:List (List Rat)) (x50:Bool) (x51:Int) (r:Nat×(List Nat)×(List Rat)×(List Int)×(List (List Rat))×Bool×Int) (b27:Option Nat) (c28:Nat) (n29:Nat) (g45:List q0) (N46:Nat),x26.length=n29→x32.length=n12→x38.length=n17→x44.length=N46→eF g45 x44→(∀k∈x26,k<N46)→yF k0 x26 x32 x38 x44 x50 x51=some r→CtY Tryz.prog l x jump Mb ([⟨some p0,1,123,6,1,([pI .i64 a0]++[pI .i64 a1]++[pI .i64 a2]++[pO b27 n29 c28]++[pO b10 n12 c11]++[pO b15 n17 c16])⟩,⟨some p1,1,3,1,1,[pI .i64 a3]⟩,⟨some p2,1,120,1,1,[pP (some p0) 0]⟩,⟨some p3,1,4,1,1,[pB x50]⟩,⟨some p4,1,3,1,1,[pI .i64 x51]⟩,⟨some p5,1,120,1,1,[pP (some p0) 0]⟩,hO (cH g45) b27 c28 24 n29 x26,hO cQ b10 c11 42 n12 x32,hO cI b15 c16 3 n17 x38]++fP cQ 42 g45 x44) [.vc (pI .i64 k0)] (fun j Ho=>∃(b27':Option Nat),∃(c28':Nat),∃(n29':Nat),∃(g45':List q0),∃(N46':Nat),j=r.1∧r.2.1.length=n29'∧r.2.2.1.length=n12∧r.2.2.2.1.length=n17∧r.2.2.2.2.1.length=N46'∧eF g45' r.2.2.2.2.1∧(∀k∈r.2.1,k<N46')∧Ho=([⟨some p0,1,123,6,1,([pI .i64 a0]++[pI .i64 a1]++[pI .i64 a2]++[pO b27' n29' c28']++[pO b10 n12 c11]++[pO b15 n17 c16])⟩,⟨some p1,1,3,1,1,[pI .i64 a3]⟩,⟨some p2,1,120,1,1,[pP (some p0) 0]⟩,⟨some p3,1,4,1,1,[pB r.2.2.2.2.2.1]⟩,⟨some p4,1,3,1,1,[pI .i64 r.2.2.2.2.2.2]⟩,⟨some p5,1,120,1,1,[pP (some p0) 0]⟩,hO (cH g45') b27' c28' 24 n29' r.2.1,hO cQ b10 c11 42 n12 r.2.2.1,hO cI b15 c16 3 n17 r.2.2.2.1]++fP cQ 42 g45' r.2.2.2.2.1))) {r:Nat×(List Nat)×(List Rat)×(List Int)×(List (List Rat))×Bool×Int} (hF:lX K yF a0 a1 a2 a3 a4 a5 a6 a7 a8 a9=some r) (q8:a6.length=n7) (q13:a7.length=n12) (q18:a8.length=n17) (q22:a9.length=N21) (q23:eF g20 a9) (q24:∀k∈a6,k<N21):CtI Tryz.prog 169 l x jump Mb ([⟨some p0,1,123,6,1,([pI .i64 a0]++[pI .i64 a1]++[pI .i64 a2]++[pO b5 n7 c6]++[pO b10 n12 c11]++[pO b15 n17 c16])⟩,⟨some p1,1,3,1,1,[pI .i64 a3]⟩,⟨some p2,1,120,1,1,[pP (some p0) 0]⟩,⟨some p3,1,4,1,1,[pB a4]⟩,⟨some p4,1,3,1,1,[pI .i64 a5]⟩,⟨some p5,1,120,1,1,[pP (some p0) 0]⟩,hO (cH g20) b5 c6 24 n7 a6,hO cQ b10 c11 42 n12 a7,hO cI b15 c16 3 n17 a8]++fP cQ 42 g20 a9) [.vc (pY l),.vc (pP (some p1) 0),.vc (pP (some p2) 0)] (fun j Ho=>∃(b27':Option Nat),∃(c28':Nat),∃(n29':Nat),∃(g45':List q0),∃(N46':Nat),j=r.1∧r.2.1.length=n29'∧r.2.2.1.length=n12∧r.2.2.2.1.length=n17∧r.2.2.2.2.1.length=N46'∧eF g45' r.2.2.2.2.1∧(∀k∈r.2.1,k<N46')∧Ho=([⟨some p0,1,123,6,1,([pI .i64 a0]++[pI .i64 a1]++[pI .i64 a2]++[pO b27' n29' c28']++[pO b10 n12 c11]++[pO b15 n17 c16])⟩,⟨some p1,1,3,1,1,[pI .i64 a3]⟩,⟨some p2,1,120,1,1,[pP (some p0) 0]⟩,⟨some p3,1,4,1,1,[pB r.2.2.2.2.2.1]⟩,⟨some p4,1,3,1,1,[pI .i64 r.2.2.2.2.2.2]⟩,⟨some p5,1,120,1,1,[pP (some p0) 0]⟩,hO (cH g45') b27' c28' 24 n29' r.2.1,hO cQ b10 c11 42 n12 r.2.2.1,hO cI b15 c16 3 n17 r.2.2.2.1]++fP cQ 42 g45' r.2.2.2.2.1)):=by
 unfold lX at hF
 refine aH4 Tryz.func169 rfl (by kernel_rfl) Tryz.ntmps169 rfl (fun w0 M0 h0 hMb=>?_)
 refine go ?_ ?_
 refine aK (bE (fun H E=>∃(x106:List Nat),∃(x112:List Rat),∃(x118:List Int),∃(x124:List (List Rat)),∃(x130:Bool),∃(x131:Int),∃(b107:Option Nat),∃(c108:Nat),∃(n109:Nat),∃(g125:List q0),∃(N126:Nat),jJ K x106 x112 x118 x124 x130 x131=some r∧x106.length=n109∧x112.length=n12∧x118.length=n17∧x124.length=N126∧eF g125 x124∧(∀k∈x106,k<N126)∧H=([⟨some p0,1,123,6,1,([pI .i64 a0]++[pI .i64 a1]++[pI .i64 a2]++[pO b107 n109 c108]++[pO b10 n12 c11]++[pO b15 n17 c16])⟩,⟨some p1,1,3,1,1,[pI .i64 a3]⟩,⟨some p2,1,120,1,1,[pP (some p0) 0]⟩,⟨some p3,1,4,1,1,[pB x130]⟩,⟨some p4,1,3,1,1,[pI .i64 x131]⟩,⟨some p5,1,120,1,1,[pP (some p0) 0]⟩,hO (cH g125) b107 c108 24 n109 x106,hO cQ b10 c11 42 n12 x112,hO cI b15 c16 3 n17 x118]++fP cQ 42 g125 x124)∧E=[]) ?_ (fun Jj133=>?_))
 ·rintro _ _ ⟨x106,x112,x118,x124,x130,x131,b107,c108,n109,g125,N126,hF,q110,q116,q122,q127,q128,q129,rfl,rfl⟩
  unfold jJ at hF
  obtain rfl:=jN hF
  exact aGW 0 (.inr rfl) Tryz.results169 h0 (aBh 9 [0,1,2,3,4,5,6,7,8] rfl rfl) ⟨b107,c108,n109,g125,N126,rfl,q110,q116,q122,q127,q128,q129,rfl⟩
 obtain⟨ol132,hL,hRl132⟩:=aR hF
 refine fO (fun k a w=>∃(x79:List Nat),∃(x85:List Rat),∃(x91:List Int),∃(x97:List (List Rat)),∃(x103:Bool),∃(x104:Int),∃(x105:Int),∃(b80:Option Nat),∃(c81:Nat),∃(n82:Nat),∃(g98:List q0),∃(N99:Nat),dV K a3 yF k x79 x85 x91 x97 x103 x104 x105=some ol132∧x79.length=n82∧x85.length=n12∧x91.length=n17∧x97.length=N99∧eF g98 x97∧(∀k∈x79,k<N99)∧hs _ ([⟨some p0,1,123,6,1,([pI .i64 a0]++[pI .i64 a1]++[pI .i64 a2]++[pO b80 n82 c81]++[pO b10 n12 c11]++[pO b15 n17 c16])⟩,⟨some p1,1,3,1,1,[pI .i64 a3]⟩,⟨some p2,1,120,1,1,[pP (some p0) 0]⟩,⟨some p3,1,4,1,1,[pB x103]⟩,⟨some p4,1,3,1,1,[pI .i64 x104]⟩,⟨some p5,1,120,1,1,[pP (some p0) 0]⟩,hO (cH g98) b80 c81 24 n82 x79,hO cQ b10 c11 42 n12 x85,hO cI b15 c16 3 n17 x91]++fP cQ 42 g98 x97) [(0,.vc (pY l)),(2,.vc (pP (some p2) 0)),(5,.vc (pI .i64 a3)),(6,.vc (pI .i64 x105))] a w) K (fun a w ⟨_,_,_,_,_,_,_,_,_,_,_,_,hF,_,_,_,_,_,_,_⟩=>by cases hF) (fun k a w ⟨x79,x85,x91,x97,x103,x104,x105,b80,c81,n82,g98,N99,hF,q83,q89,q95,q100,q101,q102,hh⟩=>fN ?_ hh) (fun a w hh=>⟨a6,a7,a8,a9,a4,a5,0,b5,c6,n7,g20,N21,hL,q8,q13,q18,q22,q23,q24,aS 9 [0,1,2,3,4,5,6,7,8] rfl rfl (by decide) (by exact⟨rfl,rfl,rfl,rfl,trivial⟩) hh⟩)
 rw [dV.eq_2] at hF
 refine go ?_ ?_
 refine aD hF rfl (fun h134 hF=>?_) (fun h134 hF=>?_)
 ·refine go ?_ ?_
  refine aK ?_
  obtain⟨v135,h136,hF⟩:=aR hF
  obtain⟨v137,h138,hF⟩:=aZ hF fT
  refine go ?_ ?_
  refine dG hF (fun h139 hF=>?_) (fun h139 hF=>?_)
  ·refine t5 (aP (.inl rfl)) zU1 ?_
   refine t5 (aP (.inl rfl)) zU1 ?_
   obtain⟨v140,h141,hF⟩:=aR hF
   refine aKi rfl (hY _ _ _ _ _ _ _ _ _ _ _ _ _ q83 q89 q95 q100 q101 q102 h141) h0 hMb zU2 ?_ ?_
   ·skip
    rintro _ ⟨b144,c145,n146,g162,N163,hj142,q147,q153,q159,q164,q165,q166,rfl⟩
    have hF:=rA (show Nat.beq v140.1 0=true by rw [←hj142];rfl) hF
    refine go ?_ ?_
    refine tT rfl ?_
    obtain⟨v169,h170,hF⟩:=aR hF
    refine go ?_ ?_
    exact aG (fun a w hh=>⟨v140.2.1,v140.2.2.1,v140.2.2.2.1,v140.2.2.2.2.1,v140.2.2.2.2.2.1,v140.2.2.2.2.2.2,v169,b144,c145,n146,g162,N163,hF,q147,q153,q159,q164,q165,q166,aS 9 [0,1,2,3,4,5,6,7,8] rfl rfl (by decide) (by exact⟨rfl,rfl,rfl,rfl,trivial⟩) hh⟩)
   rintro j171 _ ⟨b174,c175,n176,g192,N193,hj172,q177,q183,q189,q194,q195,q196,rfl⟩
   have hF:=pD (show Nat.beq v140.1 0=false by rw [←hj172];rfl) hF
   refine go ?_ ?_
   refine iR rfl ?_
   refine gL (gN ?_)
   obtain rfl:=jN hF
   obtain rfl:=jN hRl132
   exact aGW (j171+1) (.inl rfl) Tryz.results169 h0 (aBh 9 [0,1,2,3,4,5,6,7,8] rfl rfl) ⟨b174,c175,n176,g192,N193,hj172,q177,q183,q189,q194,q195,q196,rfl⟩
  refine go ?_ ?_
  refine tT rfl ?_
  obtain⟨v199,h200,hF⟩:=aR hF
  refine go ?_ ?_
  exact aG (fun a w hh=>⟨x79,x85,x91,x97,x103,x104,v199,b80,c81,n82,g98,N99,hF,q83,q89,q95,q100,q101,q102,aS 9 [0,1,2,3,4,5,6,7,8] rfl rfl (by decide) (by exact⟨rfl,rfl,rfl,rfl,trivial⟩) hh⟩)
 refine bO ?_
 obtain rfl:=jN hF
 exact fY Jj133 ⟨x79,x85,x91,x97,x103,x104,b80,c81,n82,g98,N99,hRl132,q83,q89,q95,q100,q101,q102,rfl,rfl⟩ 9 [0,1,2,3,4,5,6,7,8] rfl rfl trivial
def mW (K:Nat) (x83:List Nat) (x89:List Rat) (x95:List Int) (x101:List (List Rat)) (x107:Int):Option (Int×(List Nat)×(List Rat)×(List Int)×(List (List Rat))):=
 some ((-1),x83,x89,x95,x101)
def qZ (K:Nat) (a1:Int) (a2:Int) (a3:Int) (k142:Int) (x116:List Nat) (x122:List Rat) (x128:List Int) (x134:List (List Rat)) (x140:Bool) (x141:Int):Option (Nat×(List Nat)×(List Rat)×(List Int)×(List (List Rat))×Bool×Int):=
 (nK K k142 a1 a2 a3 x116 x122 x128 x134).bind fun v146=>bif(decide (v146<0)) then(some (1,(x116,x122,x128,x134,x140,k142))) else((lN K v146 k142 a1 a2 a3 x116 x122 x128 x134).bind fun v149=>some (2,(v149.1,v149.2.1,v149.2.2.1,v149.2.2.2,true,x141)))
def gK (K:Nat) (a0:Int) (a1:Int) (a2:Int) (a3:Int):Nat→(List Nat)→(List Rat)→(List Int)→(List (List Rat))→Bool→Int→Option (LR (Int×(List Nat)×(List Rat)×(List Int)×(List (List Rat))) ((List Nat)×(List Rat)×(List Int)×(List (List Rat))×Int))
 |0,_,_,_,_,_,_=>none
 |k+1,x57,x63,x69,x75,x81,x82=>bif x81 then((mV a0 a1 a2 a3 x57 x63 x69 x75).bind fun v111=>(lX K (qZ K a1 a2 a3) a1 a2 a3 a0 false x82 x57 x63 x69 x75).bind fun v144=>bif Nat.beq v144.1 0 then(gK K a0 a1 a2 a3 k v144.2.1 v144.2.2.1 v144.2.2.2.1 v144.2.2.2.2.1 v144.2.2.2.2.2.1 v144.2.2.2.2.2.2) else(bif Nat.beq v144.1 1 then(some (.ret (v144.2.2.2.2.2.2,v144.2.1,v144.2.2.1,v144.2.2.2.1,v144.2.2.2.2.1))) else(bif Nat.beq v144.1 2 then(gK K a0 a1 a2 a3 k v144.2.1 v144.2.2.1 v144.2.2.2.1 v144.2.2.2.2.1 v144.2.2.2.2.2.1 v144.2.2.2.2.2.2) else(none)))) else(some (.go (x57,x63,x69,x75,x82)))
def m6 (K:Nat) (a0:Int) (a1:Int) (a2:Int) (a3:Int) (a4:List Nat) (a5:List Rat) (a6:List Int) (a7:List (List Rat)):Option (Int×(List Nat)×(List Rat)×(List Int)×(List (List Rat))):=
 (gK K a0 a1 a2 a3 K a4 a5 a6 a7 true 0).bind fun o=>match o with| .ret r=>some r| .go (x83,x89,x95,x101,x107)=>mW K x83 x89 x95 x101 x107
theorem sO {K:Nat} {a0:Int} {a1:Int} {a2:Int} {a3:Int} {a4:List Nat} {a5:List Rat} {a6:List Int} {a7:List (List Rat)} {r:Int×(List Nat)×(List Rat)×(List Int)×(List (List Rat))} (hF:m6 K a0 a1 a2 a3 a4 a5 a6 a7=some r) {p0:Nat} {b5:Option Nat} {c6 n7:Nat} {b10:Option Nat} {c11 n12:Nat} {b15:Option Nat} {c16 n17:Nat} {g20:List q0} {N21:Nat} (q8:a4.length=n7) (q13:a5.length=n12) (q18:a6.length=n17) (q22:a7.length=N21) (q23:eF g20 a7) (q24:∀k∈a4,k<N21):yU Tryz.prog 114 ([⟨some p0,1,123,6,1,([pI .i64 a1]++[pI .i64 a2]++[pI .i64 a3]++[pO b5 n7 c6]++[pO b10 n12 c11]++[pO b15 n17 c16])⟩,hO (cH g20) b5 c6 24 n7 a4,hO cQ b10 c11 42 n12 a5,hO cI b15 c16 3 n17 a6]++fP cQ 42 g20 a7) [.vc (pP (some p0) 0),.vc (pI .i64 a0)] (fun Ho q=>∃b1276 c1277 n1278 g1285 N1286,r.2.1.length=n1278∧r.2.2.1.length=n12∧r.2.2.2.1.length=n17∧r.2.2.2.2.length=N1286∧eF g1285 r.2.2.2.2∧(∀k∈r.2.1,k<N1286)∧Ho=([⟨some p0,1,123,6,1,([pI .i64 a1]++[pI .i64 a2]++[pI .i64 a3]++[pO b1276 n1278 c1277]++[pO b10 n12 c11]++[pO b15 n17 c16])⟩,hO (cH g1285) b1276 c1277 24 n1278 r.2.1,hO cQ b10 c11 42 n12 r.2.2.1,hO cI b15 c16 3 n17 r.2.2.2.1]++fP cQ 42 g1285 r.2.2.2.2)∧q=.vc (pI .i64 r.1)):=by
 unfold m6 at hF
 refine aB Tryz.func114 rfl (by kernel_rfl) Tryz.ntmps114 rfl (fun w0 M0=>?_)
 refine aC (aJ (dE rfl rfl trivial (fun b26=>?_)))
 refine aE rfl tyZ3q (fun b27=>?_)
 refine go ?_ ?_
 refine aE rfl tyZ4q (fun b28=>?_)
 refine go ?_ ?_
 refine aK (bE (fun H E=>∃(x83:List Nat),∃(x89:List Rat),∃(x95:List Int),∃(x101:List (List Rat)),∃(x107:Int),∃(b84:Option Nat),∃(c85:Nat),∃(n86:Nat),∃(g102:List q0),∃(N103:Nat),mW K x83 x89 x95 x101 x107=some r∧x83.length=n86∧x89.length=n12∧x95.length=n17∧x101.length=N103∧eF g102 x101∧(∀k∈x83,k<N103)∧H=([⟨some b27,1,3,1,1,[pI .i64 x107]⟩,⟨some p0,1,123,6,1,([pI .i64 a1]++[pI .i64 a2]++[pI .i64 a3]++[pO b84 n86 c85]++[pO b10 n12 c11]++[pO b15 n17 c16])⟩,hO (cH g102) b84 c85 24 n86 x83,hO cQ b10 c11 42 n12 x89,hO cI b15 c16 3 n17 x95]++fP cQ 42 g102 x101)∧E=[(4,.vc (pP (some b27) 0))]) ?_ (fun Jj109=>?_))
 ·rintro _ _ ⟨x83,x89,x95,x101,x107,b84,c85,n86,g102,N103,hF,q87,q93,q99,q104,q105,q106,rfl,rfl⟩
  unfold mW at hF
  refine go ?_ ?_
  refine gL (gN ?_)
  obtain rfl:=jN hF
  exact iE (.inl rfl) Tryz.results114 (tR 0 1 rfl rfl rfl rfl (.one tyO3) .nil) rfl 5 [1,2,3,4] rfl rfl (by decide) ⟨b84,c85,n86,g102,N103,q87,q93,q99,q104,q105,q106,rfl,rfl⟩
 obtain⟨ol108,hL,hRl108⟩:=aR hF
 refine fO (fun k a w=>∃(x57:List Nat),∃(x63:List Rat),∃(x69:List Int),∃(x75:List (List Rat)),∃(x81:Bool),∃(x82:Int),∃(b58:Option Nat),∃(c59:Nat),∃(n60:Nat),∃(g76:List q0),∃(N77:Nat),∃(b56:Nat),gK K a0 a1 a2 a3 k x57 x63 x69 x75 x81 x82=some ol108∧x57.length=n60∧x63.length=n12∧x69.length=n17∧x75.length=N77∧eF g76 x75∧(∀k∈x57,k<N77)∧hs _ ([⟨some b56,1,4,1,1,[pB x81]⟩,⟨some b27,1,3,1,1,[pI .i64 x82]⟩,⟨some b26,1,120,1,1,[pP (some p0) 0]⟩,⟨some p0,1,123,6,1,([pI .i64 a1]++[pI .i64 a2]++[pI .i64 a3]++[pO b58 n60 c59]++[pO b10 n12 c11]++[pO b15 n17 c16])⟩,hO (cH g76) b58 c59 24 n60 x57,hO cQ b10 c11 42 n12 x63,hO cI b15 c16 3 n17 x69]++fP cQ 42 g76 x75) [(1,.vc (pI .i64 a0)),(2,.vc (pP (some b26) 0)),(4,.vc (pP (some b27) 0)),(5,.vc (pP (some b56) 0))] a w) K (fun a w ⟨_,_,_,_,_,_,_,_,_,_,_,_,hF,_,_,_,_,_,_,_⟩=>by cases hF) (fun k a w ⟨x57,x63,x69,x75,x81,x82,b58,c59,n60,g76,N77,b56,hF,q61,q67,q73,q78,q79,q80,hh⟩=>fN ?_ hh) (fun a w hh=>⟨a4,a5,a6,a7,true,0,b5,c6,n7,g20,N21,b28,hL,q8,q13,q18,q22,q23,q24,aS 7 [0,1,2,3,4,5,6] rfl rfl (by decide) (by exact⟨rfl,rfl,rfl,rfl,trivial⟩) hh⟩)
 rw [gK.eq_2] at hF
 refine go ?_ ?_
 refine aD hF rfl (fun h110 hF=>?_) (fun h110 hF=>?_)
 ·refine go ?_ ?_
  refine aK ?_
  obtain⟨v111,h112,hF⟩:=aR hF
  refine go ?_ ?_
  refine lQ 7 [3,4,5,6] [0,1,2] rfl (uM h112 q61 q67 q73 q78 q79 q80) zU2 rfl rfl rfl (by decide) ?_
  rintro _ _ ⟨b113,b114,rfl,rfl⟩
  refine kE (gX [⟨some p0,1,123,6,1,([pI .i64 a1]++[pI .i64 a2]++[pI .i64 a3]++[pO b58 n60 c59]++[pO b10 n12 c11]++[pO b15 n17 c16])⟩,⟨some b113,1,3,1,1,[pI .i64 a0]⟩,⟨some b114,1,120,1,1,[pP (some p0) 0]⟩,hO (cH g76) b58 c59 24 n60 x57,hO cQ b10 c11 42 n12 x63,hO cI b15 c16 3 n17 x69] (fP cQ 42 g76 x75) [⟨some b56,1,4,1,1,[pB false]⟩,⟨some b27,1,3,1,1,[pI .i64 x82]⟩,⟨some b26,1,120,1,1,[pP (some p0) 0]⟩]) ?_
  refine aV (aH (aK (aLZ 9 [0,1,2,6,7,8,3,4,5] rfl rfl ?_)))
  obtain⟨v144,h145,hF⟩:=aR hF
  refine aL4 (fun j=>match j with|0=>Go.Code.ret|1=>Go.Code.exit 2|_=>Go.Code.skip) rfl (fun x l Mb hx1 hx2 hx3 ht=>tY (fun k142 x116 x122 x128 x134 x140 x141 rb143 b117 c118 n119 g135 N136 q120 q126 q132 q137 q138 q139 hF=>?_) h145 q61 q67 q73 q78 q79 q80) (fun Ho hHo=>?_) (fun j Ho hHo=>?_)
  ·refine aHF ht hx1 rfl (fun w0 M0 h0 hMb=>?_)
   rw [hx2,hx3]
   unfold qZ at hF
   refine go ?_ ?_
   refine aKB h0 ?_
   refine aK ?_
   obtain⟨v146,h147,hF⟩:=aR hF
   refine go ?_ ?_
   refine lQ 9 [0,6,7,8] [1,2,3,4,5] rfl (uU h147 q120 q126 q132 q137 q138 q139) zU2 rfl rfl rfl (by decide) ?_
   rintro _ _ ⟨rfl,rfl⟩
   refine kE (gX [⟨some p0,1,123,6,1,([pI .i64 a1]++[pI .i64 a2]++[pI .i64 a3]++[pO b117 n119 c118]++[pO b10 n12 c11]++[pO b15 n17 c16])⟩,hO (cH g135) b117 c118 24 n119 x116,hO cQ b10 c11 42 n12 x122,hO cI b15 c16 3 n17 x128] (fP cQ 42 g135 x134) [⟨some b113,1,3,1,1,[pI .i64 a0]⟩,⟨some b114,1,120,1,1,[pP (some p0) 0]⟩,⟨some b56,1,4,1,1,[pB x140]⟩,⟨some b27,1,3,1,1,[pI .i64 x141]⟩,⟨some b26,1,120,1,1,[pP (some p0) 0]⟩]) ?_
   refine go ?_ ?_
   refine aD hF rfl (fun h148 hF=>?_) (fun h148 hF=>?_)
   ·refine go ?_ ?_
    refine gL (gN ?_)
    obtain rfl:=jN hF
    exact aOl 0 rfl h0 (aBh 9 [0,4,5,6,7,8,1,2,3] rfl rfl) ⟨b117,c118,n119,g135,N136,rfl,q120,q126,q132,q137,q138,q139,rfl⟩
   obtain⟨v149,h150,hF⟩:=aR hF
   refine go ?_ ?_
   refine lQ 9 [0,1,2,3] [4,5,6,7,8] rfl (rE h150 q120 q126 q132 q137 q138 q139) ⟨rfl,rfl,rfl,trivial⟩ rfl rfl rfl (by decide) ?_
   rintro _ _ ⟨b151,c152,n153,g160,N161,q154,q156,q158,q162,q163,q164,rfl,rfl⟩
   refine kE (gX [⟨some p0,1,123,6,1,([pI .i64 a1]++[pI .i64 a2]++[pI .i64 a3]++[pO b151 n153 c152]++[pO b10 n12 c11]++[pO b15 n17 c16])⟩,hO (cH g160) b151 c152 24 n153 v149.1,hO cQ b10 c11 42 n12 v149.2.1,hO cI b15 c16 3 n17 v149.2.2.1] (fP cQ 42 g160 v149.2.2.2) [⟨some b113,1,3,1,1,[pI .i64 a0]⟩,⟨some b114,1,120,1,1,[pP (some p0) 0]⟩,⟨some b56,1,4,1,1,[pB x140]⟩,⟨some b27,1,3,1,1,[pI .i64 x141]⟩,⟨some b26,1,120,1,1,[pP (some p0) 0]⟩]) ?_
   refine go ?_ ?_
   refine bO ?_
   obtain rfl:=jN hF
   exact aOa 1 rfl h0 (aBh 9 [0,4,5,6,7,8,1,2,3] rfl rfl) ⟨b151,c152,n153,g160,N161,rfl,q154,q156,q158,q162,q163,q164,rfl⟩
  ·skip
   obtain⟨b168,c169,n170,g186,N187,hj166,q171,q177,q183,q188,q189,q190,rfl⟩:=hHo
   have hF:=rA (show Nat.beq v144.1 0=true by rw [←hj166];rfl) hF
   refine go ?_ ?_
   refine aE rfl tyZ4q (fun b193=>?_)
   refine lW (t_s 0 rfl rfl rfl tyO4.s) zU2 ?_
   refine aV ?_
   exact aG (fun a w hh=>⟨v144.2.1,v144.2.2.1,v144.2.2.2.1,v144.2.2.2.2.1,v144.2.2.2.2.2.1,v144.2.2.2.2.2.2,b168,c169,n170,g186,N187,b193,hF,q171,q177,q183,q188,q189,q190,aS 10 [0,5,6,1,7,8,9] rfl rfl (by decide) (by exact⟨rfl,rfl,rfl,rfl,trivial⟩) hh⟩)
  rcases j with _|_|j
  ·skip
   obtain⟨b196,c197,n198,g214,N215,hj194,q199,q205,q211,q216,q217,q218,rfl⟩:=hHo
   have hF:=pD (show Nat.beq v144.1 0=false by rw [←hj194];rfl) hF
   have hF:=rA (show Nat.beq v144.1 1=true by rw [←hj194];rfl) hF
   refine gL (gN ?_)
   obtain rfl:=jN hF
   obtain rfl:=jN hRl108
   exact iE (.inl rfl) Tryz.results114 (tR 4 1 rfl rfl rfl rfl (.one tyO3) .nil) rfl 9 [0,6,7,8] rfl rfl (by decide) ⟨b196,c197,n198,g214,N215,q199,q205,q211,q216,q217,q218,rfl,rfl⟩
  ·skip
   obtain⟨b223,c224,n225,g241,N242,hj221,q226,q232,q238,q243,q244,q245,rfl⟩:=hHo
   have hF:=pD (show Nat.beq v144.1 0=false by rw [←hj221];rfl) hF
   have hF:=pD (show Nat.beq v144.1 1=false by rw [←hj221];rfl) hF
   have hF:=rA (show Nat.beq v144.1 2=true by rw [←hj221];rfl) hF
   refine bO (go ?_ ?_)
   refine aE rfl tyZ4q (fun b248=>?_)
   refine lW (t_s 0 rfl rfl rfl tyO4.s) zU2 ?_
   refine aV ?_
   exact aG (fun a w hh=>⟨v144.2.1,v144.2.2.1,v144.2.2.2.1,v144.2.2.2.2.1,v144.2.2.2.2.2.1,v144.2.2.2.2.2.2,b223,c224,n225,g241,N242,b248,hF,q226,q232,q238,q243,q244,q245,aS 10 [0,5,6,1,7,8,9] rfl rfl (by decide) (by exact⟨rfl,rfl,rfl,rfl,trivial⟩) hh⟩)
  obtain⟨b251,c252,n253,g269,N270,hj249,q254,q260,q266,q271,q272,q273,rfl⟩:=hHo
  have hF:=pD (show Nat.beq v144.1 0=false by rw [←hj249];exact wZ (by omega)) hF
  have hF:=pD (show Nat.beq v144.1 1=false by rw [←hj249];exact wZ (by omega)) hF
  have hF:=pD (show Nat.beq v144.1 2=false by rw [←hj249];exact wZ (by omega)) hF
  cases hF
 refine bO ?_
 obtain rfl:=jN hF
 exact fY Jj109 ⟨x57,x63,x69,x75,x82,b58,c59,n60,g76,N77,hRl108,q61,q67,q73,q78,q79,q80,rfl,rfl⟩ 7 [1,3,4,5,6] rfl rfl zU1
def nU (a0:Int) (a1:Int) (a2:Int) (a3:List Nat) (a4:List Rat) (a5:List Int) (a6:List (List Rat)):Option (List Rat):=
 (aO (2*a0)).bind fun v28=>(aO (2*a0)).bind fun v30=>(aO (v30+a1)).bind fun v32=>(slL a4 v28 v32).bind fun x34=>(nH x34).bind fun v36=>some v36
theorem u7 {a0:Int} {a1:Int} {a2:Int} {a3:List Nat} {a4:List Rat} {a5:List Int} {a6:List (List Rat)} {r:List Rat} (hF:nU a0 a1 a2 a3 a4 a5 a6=some r) {p0:Nat} {b5:Option Nat} {c6 n7:Nat} {b10:Option Nat} {c11 n12:Nat} {b15:Option Nat} {c16 n17:Nat} {g20:List q0} {N21:Nat} (q8:a3.length=n7) (q13:a4.length=n12) (q18:a5.length=n17) (q22:a6.length=N21) (q23:eF g20 a6) (q24:∀k∈a3,k<N21):yU Tryz.prog 115 ([⟨some p0,1,123,6,1,([pI .i64 a0]++[pI .i64 a1]++[pI .i64 a2]++[pO b5 n7 c6]++[pO b10 n12 c11]++[pO b15 n17 c16])⟩,hO (cH g20) b5 c6 24 n7 a3,hO cQ b10 c11 42 n12 a4,hO cI b15 c16 3 n17 a5]++fP cQ 42 g20 a6) [.vc (pP (some p0) 0)] (fun Ho q=>Ho=([⟨some p0,1,123,6,1,([pI .i64 a0]++[pI .i64 a1]++[pI .i64 a2]++[pO b5 n7 c6]++[pS cQ a4]++[pO b15 n17 c16])⟩,hO (cH g20) b5 c6 24 n7 a3,hO cI b15 c16 3 n17 a5]++fP cQ 42 g20 a6)∧q=.vc (pS cQ r)):=by
 unfold nU at hF
 refine aB Tryz.func115 rfl (by kernel_rfl) Tryz.ntmps115 rfl (fun w0 M0=>?_)
 refine aC (aJ (aF (aP (.inr rfl)) ⟨gM cQ,trivial⟩ ?_))
 refine go ?_ ?_
 refine aLq 2 0 4 rfl q13 rfl rfl rfl rfl rfl ?_
 obtain⟨v28,h29,hF⟩:=aR hF
 have hF:=sR h29 hF
 obtain⟨v32,h33,hF⟩:=aR hF
 obtain⟨x34,h35,hF⟩:=aR hF
 obtain⟨v36,h37,hF⟩:=aZ hF uY
 refine dr [0,1,3,7,0,16,48,112,240,0,512,1536,3584,7680,0,16384,49152,114688,261632,524287,1048575,2097151] 22 0 ?_ (fun bs27 G26=>?_)
 refine aV (aH (gL (gN ?_)))
 obtain rfl:=jN hF
 exact iE (.inl rfl) Tryz.results115 (.tmp rfl .nil) rfl 3 [0,1,2] rfl rfl (by decide) ⟨rfl,rfl⟩
def lY (K:Nat) (x76:List Nat) (x82:List Rat) (x88:List Int) (x94:List (List Rat)):Option ((List Nat)×(List Rat)×(List Int)×(List (List Rat))):=
 some (x76,x82,x88,x94)
def d7 (K:Nat) (a0:Int) (a1:Int) (a2:Int) (a3:Int) (a6:List Int):Nat→(List Nat)→(List Rat)→(List Int)→(List (List Rat))→Int→Option ((List Nat)×(List Rat)×(List Int)×(List (List Rat)))
 |0,_,_,_,_,_=>none
 |k+1,x51,x57,x63,x69,x75=>bif(decide (x75<(a6.length:Int))) then((bP x63 x75).bind fun v103=>bif(decide (v103<a0)) then((aO (x75+1)).bind fun v106=>d7 K a0 a1 a2 a3 a6 k x51 x57 x63 x69 v106) else((bP x51 x75).bind fun v108=>(slL (x69.getD v108 []) 0 a0).bind fun x110=>(pL K x110 (jW)).bind fun v112=>bif(decide (0≤v112)) then((lN K x75 v112 a1 a2 a3 x51 x57 x63 x69).bind fun v115=>(aO (x75+1)).bind fun v132=>d7 K a0 a1 a2 a3 a6 k v115.1 v115.2.1 v115.2.2.1 v115.2.2.2 v132) else((aO (x75+1)).bind fun v134=>d7 K a0 a1 a2 a3 a6 k x51 x57 x63 x69 v134))) else(some (x51,x57,x63,x69))
def oL (K:Nat) (a0:Int) (a1:Int) (a2:Int) (a3:Int) (a4:List Nat) (a5:List Rat) (a6:List Int) (a7:List (List Rat)):Option ((List Nat)×(List Rat)×(List Int)×(List (List Rat))):=
 (d7 K a0 a1 a2 a3 a6 K a4 a5 a6 a7 0).bind fun(x76,x82,x88,x94)=>lY K x76 x82 x88 x94
theorem vX {K:Nat} {a0:Int} {a1:Int} {a2:Int} {a3:Int} {a4:List Nat} {a5:List Rat} {a6:List Int} {a7:List (List Rat)} {r:(List Nat)×(List Rat)×(List Int)×(List (List Rat))} (hF:oL K a0 a1 a2 a3 a4 a5 a6 a7=some r) {p0:Nat} {b5:Option Nat} {c6 n7:Nat} {b10:Option Nat} {c11 n12:Nat} {b15:Option Nat} {c16 n17:Nat} {g20:List q0} {N21:Nat} (q8:a4.length=n7) (q13:a5.length=n12) (q18:a6.length=n17) (q22:a7.length=N21) (q23:eF g20 a7) (q24:∀k∈a4,k<N21):yU Tryz.prog 116 ([⟨some p0,1,123,6,1,([pI .i64 a1]++[pI .i64 a2]++[pI .i64 a3]++[pO b5 n7 c6]++[pO b10 n12 c11]++[pO b15 n17 c16])⟩,hO (cH g20) b5 c6 24 n7 a4,hO cQ b10 c11 42 n12 a5,hO cI b15 c16 3 n17 a6]++fP cQ 42 g20 a7) [.vc (pP (some p0) 0),.vc (pI .i64 a0)] (fun Ho q=>∃b1136 c1137 n1138 g1145 N1146,r.1.length=n1138∧r.2.1.length=n12∧r.2.2.1.length=n17∧r.2.2.2.length=N1146∧eF g1145 r.2.2.2∧(∀k∈r.1,k<N1146)∧Ho=([⟨some p0,1,123,6,1,([pI .i64 a1]++[pI .i64 a2]++[pI .i64 a3]++[pO b1136 n1138 c1137]++[pO b10 n12 c11]++[pO b15 n17 c16])⟩,hO (cH g1145) b1136 c1137 24 n1138 r.1,hO cQ b10 c11 42 n12 r.2.1,hO cI b15 c16 3 n17 r.2.2.1]++fP cQ 42 g1145 r.2.2.2)∧q=.any):=by
 unfold oL at hF
 refine aB Tryz.func116 rfl (by kernel_rfl) Tryz.ntmps116 rfl (fun w0 M0=>?_)
 refine go ?_ ?_
 refine aK (bE (fun H E=>∃(x76:List Nat),∃(x82:List Rat),∃(x88:List Int),∃(x94:List (List Rat)),∃(b77:Option Nat),∃(c78:Nat),∃(n79:Nat),∃(g95:List q0),∃(N96:Nat),lY K x76 x82 x88 x94=some r∧x76.length=n79∧x82.length=n12∧x88.length=n17∧x94.length=N96∧eF g95 x94∧(∀k∈x76,k<N96)∧H=([⟨some p0,1,123,6,1,([pI .i64 a1]++[pI .i64 a2]++[pI .i64 a3]++[pO b77 n79 c78]++[pO b10 n12 c11]++[pO b15 n17 c16])⟩,hO (cH g95) b77 c78 24 n79 x76,hO cQ b10 c11 42 n12 x82,hO cI b15 c16 3 n17 x88]++fP cQ 42 g95 x94)∧E=[]) ?_ (fun Jj101=>?_))
 ·rintro _ _ ⟨x76,x82,x88,x94,b77,c78,n79,g95,N96,hF,q80,q86,q92,q97,q98,q99,rfl,rfl⟩
  unfold lY at hF
  obtain rfl:=jN hF
  exact iE (.inr rfl) Tryz.results116 .nil rfl 4 [0,1,2,3] rfl rfl (by decide) ⟨b77,c78,n79,g95,N96,q80,q86,q92,q97,q98,q99,rfl,rfl⟩
 obtain⟨⟨x76',x82',x88',x94'⟩,hL,hRl100⟩:=aR hF
 refine fO (fun k a w=>∃(x51:List Nat),∃(x57:List Rat),∃(x63:List Int),∃(x69:List (List Rat)),∃(x75:Int),∃(b52:Option Nat),∃(c53:Nat),∃(n54:Nat),∃(g70:List q0),∃(N71:Nat),d7 K a0 a1 a2 a3 a6 k x51 x57 x63 x69 x75=some (x76',x82',x88',x94')∧x51.length=n54∧x57.length=n12∧x63.length=n17∧x69.length=N71∧eF g70 x69∧(∀k∈x51,k<N71)∧hs _ ([⟨some p0,1,123,6,1,([pI .i64 a1]++[pI .i64 a2]++[pI .i64 a3]++[pO b52 n54 c53]++[pO b10 n12 c11]++[pO b15 n17 c16])⟩,hO (cH g70) b52 c53 24 n54 x51,hO cQ b10 c11 42 n12 x57,hO cI b15 c16 3 n17 x63]++fP cQ 42 g70 x69) [(0,.vc (pP (some p0) 0)),(1,.vc (pI .i64 a0)),(10,.vc (pO b15 n17 c16)),(11,.vc (pI .i64 (a6.length:Int))),(12,.vc (pI .i64 x75))] a w) K (fun a w ⟨_,_,_,_,_,_,_,_,_,_,hF,_,_,_,_,_,_,_⟩=>by cases hF) (fun k a w ⟨x51,x57,x63,x69,x75,b52,c53,n54,g70,N71,hF,q55,q61,q67,q72,q73,q74,hh⟩=>fN ?_ hh) (fun a w hh=>⟨a4,a5,a6,a7,0,b5,c6,n7,g20,N21,hL,q8,q13,q18,q22,q23,q24,aS 4 [0,1,2,3] rfl rfl (by decide) (by exact⟨rfl,rfl,rfl,rfl,rfl,trivial⟩) hh⟩)
 rw [d7.eq_2] at hF
 refine go ?_ ?_
 refine aD hF rfl (fun h102 hF=>?_) (fun h102 hF=>?_)
 ·refine go ?_ ?_
  refine aK ?_
  obtain⟨v103,h104,hF⟩:=aR hF
  refine go ?_ ?_
  refine aD hF rfl (fun h105 hF=>?_) (fun h105 hF=>?_)
  ·refine bO ?_
   obtain⟨v106,h107,hF⟩:=aR hF
   refine go ?_ ?_
   exact aG (fun a w hh=>⟨x51,x57,x63,x69,v106,b52,c53,n54,g70,N71,hF,q55,q61,q67,q72,q73,q74,aS 4 [0,1,2,3] rfl rfl (by decide) (by exact⟨rfl,rfl,rfl,rfl,rfl,trivial⟩) hh⟩)
  obtain⟨v108,h109,x110,h111,hF⟩:=sS hF
  refine go ?_ ?_
  refine aF (aL3 (i:=(4+v108)) rfl tyS24 (rU 4 rfl q73 q72 (q74 _ (aW h109))) rfl rfl rfl (vR h111).2.2.1 (aKp h111 (fC q73 q72 (q74 _ (aW h109))))) zU2 ?_
  obtain⟨v112,h113,hF⟩:=aZ hF xO
  refine aF (aDS (pre':=[.vc (pK (pO (iG g70 v108).1 (iG g70 v108).2.1 (iG g70 v108).2.2) a0.toNat cQ.n),.vc (pFn Tryz.prog (fun x:Rat=>[.va (eQ x)]) (fun r:Bool=>.vc (pB r)) (jW))]) rfl h113 rfl (aIq (aH5 (C:=cQ) (4+v108) (rU 4 rfl q73 q72 (q74 _ (aW h109))) (fC q73 q72 (q74 _ (aW h109))) h111) ⟨.inr ⟨rfl,rfl⟩,.inl rfl,trivial⟩) (fun _ _ _ h=>h)) ⟨rfl,(aNY (P:=Tryz.prog) (φ:=(jW)) (pre:=fun x:Rat=>[.va (eQ x)]) (post:=fun r:Bool=>.vc (pB r)) (fun x r h=>wW h)),trivial⟩ ?_
  refine go ?_ ?_
  refine aD hF rfl (fun h114 hF=>?_) (fun h114 hF=>?_)
  ·obtain⟨v115,h116,hF⟩:=aR hF
   refine go ?_ ?_
   refine lQ 4 [0,1,2,3] [] rfl (rE h116 q55 q61 q67 q72 q73 q74) ⟨rfl,rfl,rfl,trivial⟩ rfl rfl rfl (by decide) ?_
   rintro _ _ ⟨b117,c118,n119,g126,N127,q120,q122,q124,q128,q129,q130,rfl,rfl⟩
   refine kE (gX [⟨some p0,1,123,6,1,([pI .i64 a1]++[pI .i64 a2]++[pI .i64 a3]++[pO b117 n119 c118]++[pO b10 n12 c11]++[pO b15 n17 c16])⟩,hO (cH g126) b117 c118 24 n119 v115.1,hO cQ b10 c11 42 n12 v115.2.1,hO cI b15 c16 3 n17 v115.2.2.1] (fP cQ 42 g126 v115.2.2.2) []) ?_
   obtain⟨v132,h133,hF⟩:=aR hF
   refine go ?_ ?_
   exact aG (fun a w hh=>⟨v115.1,v115.2.1,v115.2.2.1,v115.2.2.2,v132,b117,c118,n119,g126,N127,hF,q120,q122,q124,q128,q129,q130,aS 4 [0,1,2,3] rfl rfl (by decide) (by exact⟨rfl,rfl,rfl,rfl,rfl,trivial⟩) hh⟩)
  obtain⟨v134,h135,hF⟩:=aR hF
  refine go ?_ ?_
  exact aG (fun a w hh=>⟨x51,x57,x63,x69,v134,b52,c53,n54,g70,N71,hF,q55,q61,q67,q72,q73,q74,aS 4 [0,1,2,3] rfl rfl (by decide) (by exact⟨rfl,rfl,rfl,rfl,rfl,trivial⟩) hh⟩)
 refine bO ?_
 obtain⟨rfl,rfl,rfl,rfl⟩:=sm4 hF
 exact fY Jj101 ⟨x51,x57,x63,x69,b52,c53,n54,g70,N71,hRl100,q55,q61,q67,q72,q73,q74,rfl,rfl⟩ 4 [0,1,2,3] rfl rfl trivial
def p7 (K:Nat) (a0:Int) (a1:Int) (a2:Int) (a3:Int) (a4:Int) (a5:List Nat) (a6:List Rat) (a7:List Int) (a8:List (List Rat)):Option Rat:=
 bif(a0==a1) then((yN 1 1).bind fun v28=>some v28) else((pZ K a7 a0).bind fun v30=>bif(decide (0≤v30)) then((bP a5 v30).bind fun v33=>(bP (a8.getD v33 []) a1).bind fun v35=>(aAo v35).bind fun v37=>some v37) else(some 0))
theorem wQ {K:Nat} {a0:Int} {a1:Int} {a2:Int} {a3:Int} {a4:Int} {a5:List Nat} {a6:List Rat} {a7:List Int} {a8:List (List Rat)} {r:Rat} (hF:p7 K a0 a1 a2 a3 a4 a5 a6 a7 a8=some r) {p0:Nat} {b5:Option Nat} {c6 n7:Nat} {b10:Option Nat} {c11 n12:Nat} {b15:Option Nat} {c16 n17:Nat} {g20:List q0} {N21:Nat} (q8:a5.length=n7) (q13:a6.length=n12) (q18:a7.length=n17) (q22:a8.length=N21) (q23:eF g20 a8) (q24:∀k∈a5,k<N21):yU Tryz.prog 120 ([⟨some p0,1,123,6,1,([pI .i64 a2]++[pI .i64 a3]++[pI .i64 a4]++[pO b5 n7 c6]++[pO b10 n12 c11]++[pO b15 n17 c16])⟩,hO (cH g20) b5 c6 24 n7 a5,hO cQ b10 c11 42 n12 a6,hO cI b15 c16 3 n17 a7]++fP cQ 42 g20 a8) [.vc (pP (some p0) 0),.vc (pI .i64 a0),.vc (pI .i64 a1)] (fun Ho q=>Ho=([⟨some p0,1,123,6,1,([pI .i64 a2]++[pI .i64 a3]++[pI .i64 a4]++[pO b5 n7 c6]++[pO b10 n12 c11]++[pO b15 n17 c16])⟩,hO (cH g20) b5 c6 24 n7 a5,hO cQ b10 c11 42 n12 a6,hO cI b15 c16 3 n17 a7]++fP cQ 42 g20 a8)∧q=.va (eQ r)):=by
 unfold p7 at hF
 refine aB Tryz.func120 rfl (by kernel_rfl) Tryz.ntmps120 rfl (fun w0 M0=>?_)
 refine aC (aJ (aE rfl tyZ42q (fun b26=>?_)))
 refine go ?_ ?_
 refine aD hF rfl (fun h27 hF=>?_) (fun h27 hF=>?_)
 ·obtain⟨v28,h29,hF⟩:=aZ hF qG
  refine go ?_ ?_
  refine gL (gN ?_)
  obtain rfl:=jN hF
  exact iE (.inl rfl) Tryz.results120 (tR 0 4 rfl rfl rfl rfl (.agg tyA42) .nil) rfl 5 [1,2,3,4] rfl rfl (by decide) ⟨rfl,rfl⟩
 obtain⟨v30,h31,hF⟩:=aZ hF uV
 refine go ?_ ?_
 refine aF (aDS (pre':=[.vc (pO b15 n17 c16),.vc (pI .i64 a0)]) rfl h31 rfl (aIq (aCX (C:=cI) 4 rfl q18) ⟨.inr ⟨rfl,rfl⟩,.inl rfl,trivial⟩) (fun _ _ _ h=>h)) zU2 ?_
 refine go ?_ ?_
 refine aD hF rfl (fun h32 hF=>?_) (fun h32 hF=>?_)
 ·obtain⟨v33,h34,v35,h36,hF⟩:=sS hF
  refine go ?_ ?_
  refine aF (iC (5+v33) rfl tyS24 (rU 5 rfl q23 q22 (q24 _ (aW h34))) (fC q23 q22 (q24 _ (aW h34))) (aI h36).1 (aI h36).2.1) zU2 ?_
  refine aF (lA (k:=4) (5+v33) rfl (rU 5 rfl q23 q22 (q24 _ (aW h34))) h36 rfl (.agg tyA42) rfl) zU1 ?_
  obtain⟨v37,h38,hF⟩:=aZ hF uA
  refine go ?_ ?_
  refine gL (gN ?_)
  obtain rfl:=jN hF
  exact iE (.inl rfl) Tryz.results120 (tR 0 4 rfl rfl rfl rfl (.agg tyA42) .nil) rfl 5 [1,2,3,4] rfl rfl (by decide) ⟨rfl,rfl⟩
 refine go ?_ ?_
 refine aF (fK (is:=[]) (xs:=[]) (ps:=[]) rfl tyB42q rfl rfl trivial rfl) trivial ?_
 refine go ?_ ?_
 refine gL (gN ?_)
 obtain rfl:=jN hF
 exact iE (.inl rfl) Tryz.results120 (tR 0 4 rfl rfl rfl rfl (.agg tyA42) .nil) rfl 5 [1,2,3,4] rfl rfl (by decide) ⟨rfl,rfl⟩
def oI (K:Nat) (a0:Int) (a1:Int) (a2:Int) (a3:Int) (a4:Int) (a5:List Nat) (a6:List Rat) (a7:List Int) (a8:List (List Rat)):Option Rat:=
 (p7 K a0 a1 a2 a3 a4 a5 a6 a7 a8).bind fun v27=>some v27
theorem tO {K:Nat} {a0:Int} {a1:Int} {a2:Int} {a3:Int} {a4:Int} {a5:List Nat} {a6:List Rat} {a7:List Int} {a8:List (List Rat)} {r:Rat} (hF:oI K a0 a1 a2 a3 a4 a5 a6 a7 a8=some r) {p0:Nat} {p1:Nat} {p2:Nat} {b5:Option Nat} {c6 n7:Nat} {b10:Option Nat} {c11 n12:Nat} {b15:Option Nat} {c16 n17:Nat} {g20:List q0} {N21:Nat} (q8:a5.length=n7) (q13:a6.length=n12) (q18:a7.length=n17) (q22:a8.length=N21) (q23:eF g20 a8) (q24:∀k∈a5,k<N21):yU Tryz.prog 119 ([⟨some p0,1,120,1,1,[pP (some p2) 0]⟩,⟨some p1,1,3,1,1,[pI .i64 a1]⟩,⟨some p2,1,123,6,1,([pI .i64 a2]++[pI .i64 a3]++[pI .i64 a4]++[pO b5 n7 c6]++[pO b10 n12 c11]++[pO b15 n17 c16])⟩,hO (cH g20) b5 c6 24 n7 a5,hO cQ b10 c11 42 n12 a6,hO cI b15 c16 3 n17 a7]++fP cQ 42 g20 a8) [.vc (pI .i64 a0),.vc (pP (some p0) 0),.vc (pP (some p1) 0)] (fun Ho q=>Ho=([⟨some p0,1,120,1,1,[pP (some p2) 0]⟩,⟨some p1,1,3,1,1,[pI .i64 a1]⟩,⟨some p2,1,123,6,1,([pI .i64 a2]++[pI .i64 a3]++[pI .i64 a4]++[pO b5 n7 c6]++[pO b10 n12 c11]++[pO b15 n17 c16])⟩,hO (cH g20) b5 c6 24 n7 a5,hO cQ b10 c11 42 n12 a6,hO cI b15 c16 3 n17 a7]++fP cQ 42 g20 a8)∧q=.va (eQ r)):=by
 unfold oI at hF
 refine aB Tryz.func119 rfl (by kernel_rfl) Tryz.ntmps119 rfl (fun w0 M0=>?_)
 refine aC (aJ (aE rfl tyZ42q (fun b26=>?_)))
 obtain⟨v27,h28,hF⟩:=aR hF
 refine go ?_ ?_
 refine lQ 7 [3,4,5,6] [0,1,2] rfl (wQ h28 q8 q13 q18 q22 q23 q24) ⟨rfl,rfl,rfl,trivial⟩ rfl rfl rfl (by decide) ?_
 rintro _ _ ⟨rfl,rfl⟩
 refine kE (gX [⟨some p2,1,123,6,1,([pI .i64 a2]++[pI .i64 a3]++[pI .i64 a4]++[pO b5 n7 c6]++[pO b10 n12 c11]++[pO b15 n17 c16])⟩,hO (cH g20) b5 c6 24 n7 a5,hO cQ b10 c11 42 n12 a6,hO cI b15 c16 3 n17 a7] (fP cQ 42 g20 a8) [⟨some b26,1,42,4,1,(eQ 0)⟩,⟨some p0,1,120,1,1,[pP (some p2) 0]⟩,⟨some p1,1,3,1,1,[pI .i64 a1]⟩]) ?_
 refine go ?_ ?_
 refine gL (gN ?_)
 obtain rfl:=jN hF
 exact iE (.inl rfl) Tryz.results119 (tR 4 4 rfl rfl rfl rfl (.agg tyA42) .nil) rfl 7 [5,6,0,1,2,3] rfl rfl (by decide) ⟨rfl,rfl⟩
def mG (K:Nat) (x45:List Rat):Option (List Rat):=
 some x45
def jB (K:Nat) (a0:Int) (a1:Int) (a2:Int) (a3:Int) (a4:List Nat) (a5:List Rat) (a6:List Int) (a7:List (List Rat)) (x26:List Rat):Nat→(List Rat)→Int→Option (List Rat)
 |0,_,_=>none
 |k+1,x38,x44=>bif(decide (x44<(x26.length:Int))) then((oI K x44 a3 a0 a1 a2 a4 a5 a6 a7).bind fun v56=>(aO (a0+x44)).bind fun v58=>(oI K v58 a3 a0 a1 a2 a4 a5 a6 a7).bind fun v60=>(aEj v56 v60).bind fun v62=>(bP x38 x44).bind fun v64=>(oK x38 x44 v62).bind fun x66=>(aO (x44+1)).bind fun v69=>jB K a0 a1 a2 a3 a4 a5 a6 a7 x26 k x66 v69) else(some x38)
def oS (K:Nat) (a0:Int) (a1:Int) (a2:Int) (a3:Int) (a4:List Nat) (a5:List Rat) (a6:List Int) (a7:List (List Rat)):Option (List Rat):=
 (wK a0 0).bind fun x26=>(jB K a0 a1 a2 a3 a4 a5 a6 a7 x26 K x26 0).bind fun x45=>mG K x45
theorem vI {K:Nat} {a0:Int} {a1:Int} {a2:Int} {a3:Int} {a4:List Nat} {a5:List Rat} {a6:List Int} {a7:List (List Rat)} {r:List Rat} (hF:oS K a0 a1 a2 a3 a4 a5 a6 a7=some r) {p0:Nat} {p1:Nat} {p2:Nat} {b5:Option Nat} {c6 n7:Nat} {b10:Option Nat} {c11 n12:Nat} {b15:Option Nat} {c16 n17:Nat} {g20:List q0} {N21:Nat} (q8:a4.length=n7) (q13:a5.length=n12) (q18:a6.length=n17) (q22:a7.length=N21) (q23:eF g20 a7) (q24:∀k∈a4,k<N21):yU Tryz.prog 118 ([⟨some p0,1,123,6,1,([pI .i64 a0]++[pI .i64 a1]++[pI .i64 a2]++[pO b5 n7 c6]++[pO b10 n12 c11]++[pO b15 n17 c16])⟩,⟨some p1,1,120,1,1,[pP (some p0) 0]⟩,⟨some p2,1,3,1,1,[pI .i64 a3]⟩,hO (cH g20) b5 c6 24 n7 a4,hO cQ b10 c11 42 n12 a5,hO cI b15 c16 3 n17 a6]++fP cQ 42 g20 a7) [.vc (pP (some p0) 0),.vc (pF 119 [pP (some p1) 0,pP (some p2) 0])] (fun Ho q=>Ho=([⟨some p0,1,123,6,1,([pI .i64 a0]++[pI .i64 a1]++[pI .i64 a2]++[pO b5 n7 c6]++[pO b10 n12 c11]++[pO b15 n17 c16])⟩,⟨some p1,1,120,1,1,[pP (some p0) 0]⟩,⟨some p2,1,3,1,1,[pI .i64 a3]⟩,hO (cH g20) b5 c6 24 n7 a4,hO cQ b10 c11 42 n12 a5,hO cI b15 c16 3 n17 a6]++fP cQ 42 g20 a7)∧q=.vc (pS cQ r)):=by
 unfold oS at hF
 refine aB Tryz.func118 rfl (by kernel_rfl) Tryz.ntmps118 rfl (fun w0 M0=>?_)
 refine aC (aJ (aF (aP (.inr rfl)) ⟨gM cQ,trivial⟩ ?_))
 obtain⟨x26,h27,hF⟩:=aR hF
 refine go ?_ ?_
 refine o8 (C:=cQ) rfl tyS24 rfl tyZ42q rfl h27 (fun b28=>?_)
 refine go ?_ ?_
 refine aK (bE (fun H E=>∃(x45:List Rat),mG K x45=some r∧x45.length=x26.length∧H=([hO cQ b28 x26.length 42 x26.length x45,⟨some p0,1,123,6,1,([pI .i64 a0]++[pI .i64 a1]++[pI .i64 a2]++[pO b5 n7 c6]++[pO b10 n12 c11]++[pO b15 n17 c16])⟩,⟨some p1,1,120,1,1,[pP (some p0) 0]⟩,⟨some p2,1,3,1,1,[pI .i64 a3]⟩,hO (cH g20) b5 c6 24 n7 a4,hO cQ b10 c11 42 n12 a5,hO cI b15 c16 3 n17 a6]++fP cQ 42 g20 a7)∧E=[(5,.vc (pO b28 x26.length x26.length))]) ?_ (fun Jj52=>?_))
 ·rintro _ _ ⟨x45,hF,q49,rfl,rfl⟩
  unfold mG at hF
  refine go ?_ ?_
  refine gL (gN (sF 0 [4,5,33] rfl q49 ⟨rfl,rfl,rfl,trivial⟩ rfl ?_))
  obtain rfl:=jN hF
  exact iE (.inl rfl) Tryz.results118 (.tmp rfl .nil) rfl 6 [0,1,2,3,4,5] rfl rfl (by decide) ⟨rfl,rfl⟩
 obtain⟨x45',hL,hRl51⟩:=aR hF
 refine fO (fun k a w=>∃(x38:List Rat),∃(x44:Int),jB K a0 a1 a2 a3 a4 a5 a6 a7 x26 k x38 x44=some x45'∧x38.length=x26.length∧hs _ ([hO cQ b28 x26.length 42 x26.length x38,⟨some p0,1,123,6,1,([pI .i64 a0]++[pI .i64 a1]++[pI .i64 a2]++[pO b5 n7 c6]++[pO b10 n12 c11]++[pO b15 n17 c16])⟩,⟨some p1,1,120,1,1,[pP (some p0) 0]⟩,⟨some p2,1,3,1,1,[pI .i64 a3]⟩,hO (cH g20) b5 c6 24 n7 a4,hO cQ b10 c11 42 n12 a5,hO cI b15 c16 3 n17 a6]++fP cQ 42 g20 a7) [(0,.vc (pP (some p0) 0)),(1,.vc (pF 119 [pP (some p1) 0,pP (some p2) 0])),(5,.vc (pO b28 x26.length x26.length)),(13,.vc (pI .i64 (x26.length:Int))),(14,.vc (pI .i64 x44))] a w) K (fun a w ⟨_,_,hF,_,_⟩=>by cases hF) (fun k a w ⟨x38,x44,hF,q42,hh⟩=>fN ?_ hh) (fun a w hh=>⟨x26,0,hL,rfl,aS 7 [0,1,2,3,4,5,6] rfl rfl (by decide) (by exact⟨rfl,rfl,rfl,rfl,rfl,trivial⟩) hh⟩)
 rw [jB.eq_2] at hF
 refine go ?_ ?_
 refine aD hF rfl (fun h53 hF=>?_) (fun h53 hF=>?_)
 ·refine go ?_ ?_
  refine aK ?_
  obtain⟨v56,h57,v58,h59,v60,h61,hF⟩:=bn3 hF
  obtain⟨v62,h63,hF⟩:=aZ hF vH
  obtain⟨v64,h65,hF⟩:=aR hF
  refine go ?_ ?_
  refine jI [0,0,0,0,12,0,0,64,192,448,0,1984,4092,8188,16383,32767] 15 1 [.v (.vc (pO b28 x26.length x26.length)),.v (.vc (pI .i64 x44)),.v (.vc (pF 119 [pP (some p1) 0,pP (some p2) 0])),.v (.vc (pI .i64 x44)),.v (.va (eQ v56)),.v (.vc (pF 119 [pP (some p1) 0,pP (some p2) 0])),.v (.vc (pP (some p0) 0)),.v (.vc (pP (some p0) 0)),.v (.vc (pP (some p0) 0)),.v (.vc (pI .i64 a0)),.v (.vc (pI .i64 x44)),.v (.vc (pI .i64 v58)),.v (.va (eQ v60)),.v (.va (eQ v62)),.v (.vc (pE b28 x44 cQ.n 0))] bB ⟨d0 (aP (.inl rfl)) zU1,d0 (aP (.inl rfl)) zU1,d0 (aP (.inl rfl)) zU1,d0 (aP (.inl rfl)) zU1,d0 (aDm (f:=119) (cs:=[pP (some p1) 0,pP (some p2) 0]) (pre:=[.vc (pI .i64 x44)]) 7 [2,3,1,4,5,6] [0] [6,2,0,1,3,4,5] rfl (tO h57 q8 q13 q18 q22 q23 q24) rfl rfl rfl rfl (by decide) (by decide) rfl) zU2,d0 (aP (.inl rfl)) zU1,d0 (aP (.inl rfl)) zU1,d0 (oH rfl) zU1,d0 (iF (off:=0) (k:=0) rfl tyF123_0) zU1,d0 (fQ 1 1 rfl rfl rfl rfl (.one tyO3)) zU1,d0 (aP (.inl rfl)) zU1,d0 (wG rfl h59) zU2,d0 (aDm (f:=119) (cs:=[pP (some p1) 0,pP (some p2) 0]) (pre:=[.vc (pI .i64 v58)]) 7 [2,3,1,4,5,6] [0] [6,2,0,1,3,4,5] rfl (tO h61 q8 q13 q18 q22 q23 q24) rfl rfl rfl rfl (by decide) (by decide) rfl) zU2,d0 (bJ rfl h63 rfl) zU2,d0 (iC (C:=cQ) 0 rfl tyS24 rfl q42 (aI h65).1 (aI h65).2.1) zU2,trivial⟩ (fun bs55 G54=>?_)
  obtain⟨x66,h67,v69,h70,hF⟩:=sS hF
  refine go ?_ ?_
  exact aG (fun a w hh=>⟨x66,v69,hF,(bH h67 q42),aS 7 [0,1,2,3,4,5,6] rfl rfl (by decide) (by exact⟨rfl,rfl,rfl,rfl,rfl,trivial⟩) hh⟩)
 refine bO ?_
 obtain rfl:=jN hF
 exact fY Jj52 ⟨x38,hRl51,q42,rfl,rfl⟩ 7 [0,1,2,3,4,5,6] rfl rfl zU1
def mU (K:Nat) (a0:Int) (a1:Int) (a2:Int) (a3:Int) (a4:List Nat) (a5:List Rat) (a6:List Int) (a7:List (List Rat)):Option Rat:=
 (pZ K a6 a0).bind fun v27=>bif(decide (0≤v27)) then((bP a4 v27).bind fun v32=>(bP (a7.getD v32 []) a3).bind fun v34=>some v34) else(some 0)
theorem sJ {K:Nat} {a0:Int} {a1:Int} {a2:Int} {a3:Int} {a4:List Nat} {a5:List Rat} {a6:List Int} {a7:List (List Rat)} {r:Rat} (hF:mU K a0 a1 a2 a3 a4 a5 a6 a7=some r) {p0:Nat} {b5:Option Nat} {c6 n7:Nat} {b10:Option Nat} {c11 n12:Nat} {b15:Option Nat} {c16 n17:Nat} {g20:List q0} {N21:Nat} (q8:a4.length=n7) (q13:a5.length=n12) (q18:a6.length=n17) (q22:a7.length=N21) (q23:eF g20 a7) (q24:∀k∈a4,k<N21):yU Tryz.prog 121 ([⟨some p0,1,123,6,1,([pI .i64 a1]++[pI .i64 a2]++[pI .i64 a3]++[pO b5 n7 c6]++[pO b10 n12 c11]++[pO b15 n17 c16])⟩,hO (cH g20) b5 c6 24 n7 a4,hO cQ b10 c11 42 n12 a5,hO cI b15 c16 3 n17 a6]++fP cQ 42 g20 a7) [.vc (pP (some p0) 0),.vc (pI .i64 a0)] (fun Ho q=>Ho=([⟨some p0,1,123,6,1,([pI .i64 a1]++[pI .i64 a2]++[pI .i64 a3]++[pO b5 n7 c6]++[pO b10 n12 c11]++[pO b15 n17 c16])⟩,hO (cH g20) b5 c6 24 n7 a4,hO cQ b10 c11 42 n12 a5,hO cI b15 c16 3 n17 a6]++fP cQ 42 g20 a7)∧q=.va (eQ r)):=by
 unfold mU at hF
 refine aB Tryz.func121 rfl (by kernel_rfl) Tryz.ntmps121 rfl (fun w0 M0=>?_)
 refine aC (aJ (aE rfl tyZ42q (fun b26=>?_)))
 obtain⟨v27,h28,hF⟩:=aZ hF uV
 refine go ?_ ?_
 refine aF (aDS (pre':=[.vc (pO b15 n17 c16),.vc (pI .i64 a0)]) rfl h28 rfl (aIq (aCX (C:=cI) 4 rfl q18) ⟨.inr ⟨rfl,rfl⟩,.inl rfl,trivial⟩) (fun _ _ _ h=>h)) zU2 ?_
 refine go ?_ ?_
 refine aD hF rfl (fun h29 hF=>?_) (fun h29 hF=>?_)
 ·refine aC ?_
  obtain⟨v32,h33,hF⟩:=aR hF
  obtain⟨v34,h35,hF⟩:=aR hF
  refine jI [0,1,3,7,0,31,63,0,128,384,896,2047,4095,8191] 13 1 [.v (.vc (pP (some p0) 0)),.v (.vc (pP (some p0) 0)),.v (.vc (pP (some p0) 3)),.v (.vc (pO b5 n7 c6)),.v (.vc (pI .i64 v27)),.v (.vc (pE b5 v27 (cH g20).n 0)),.v (.vc (pO (iG g20 v32).1 (iG g20 v32).2.1 (iG g20 v32).2.2)),.v (.vc (pP (some p0) 0)),.v (.vc (pP (some p0) 0)),.v (.vc (pP (some p0) 2)),.v (.vc (pI .i64 a3)),.v (.vc (pE (iG g20 v32).1 a3 cQ.n 0)),.v (.va (eQ v34))] bB ⟨d0 (aP (.inl rfl)) zU1,d0 (oH rfl) zU1,d0 (iF (off:=0) (k:=3) rfl tyF123_3) zU1,d0 (fQ 1 1 rfl rfl rfl rfl (.one tyO23)) zU1,d0 (aP (.inl rfl)) zU1,d0 (iC (C:=(cH g20)) 2 rfl tyS23 rfl q8 (aI h33).1 (aI h33).2.1) zU2,d0 (lA (C:=(cH g20)) (k:=1) 2 rfl rfl h33 rfl (.one tyO24) rfl) zU1,d0 (aP (.inl rfl)) zU1,d0 (oH rfl) zU1,d0 (iF (off:=0) (k:=2) rfl tyF123_2) zU1,d0 (fQ 1 1 rfl rfl rfl rfl (.one tyO3)) zU1,d0 (iC (5+v32) rfl tyS24 (jL 5 rfl q23 q22 (q24 _ (aW h33))) (fC q23 q22 (q24 _ (aW h33))) (aI h35).1 (aI h35).2.1) zU2,d0 (lA (k:=4) (5+v32) rfl (jL 5 rfl q23 q22 (q24 _ (aW h33))) h35 rfl (.agg tyA42) rfl) zU1,trivial⟩ (fun bs31 G30=>?_)
  refine go ?_ ?_
  refine gL (gN ?_)
  obtain rfl:=jN hF
  exact iE (.inl rfl) Tryz.results121 (tR 0 4 rfl rfl rfl rfl (.agg tyA42) .nil) rfl 5 [1,2,3,4] rfl rfl (by decide) ⟨rfl,rfl⟩
 refine go ?_ ?_
 refine aF (fK (is:=[]) (xs:=[]) (ps:=[]) rfl tyB42q rfl rfl trivial rfl) trivial ?_
 refine go ?_ ?_
 refine gL (gN ?_)
 obtain rfl:=jN hF
 exact iE (.inl rfl) Tryz.results121 (tR 0 4 rfl rfl rfl rfl (.agg tyA42) .nil) rfl 5 [1,2,3,4] rfl rfl (by decide) ⟨rfl,rfl⟩
def mL (K:Nat) (x45:List Rat):Option (List Rat):=
 some x45
def jG (K:Nat) (a0:Int) (a1:Int) (a2:Int) (a3:List Nat) (a4:List Rat) (a5:List Int) (a6:List (List Rat)) (x26:List Rat):Nat→(List Rat)→Int→Option (List Rat)
 |0,_,_=>none
 |k+1,x38,x44=>bif(decide (x44<(x26.length:Int))) then((mU K x44 a0 a1 a2 a3 a4 a5 a6).bind fun v56=>(aO (a0+x44)).bind fun v58=>(mU K v58 a0 a1 a2 a3 a4 a5 a6).bind fun v60=>(aEj v56 v60).bind fun v62=>(bP x38 x44).bind fun v64=>(oK x38 x44 v62).bind fun x66=>(aO (x44+1)).bind fun v69=>jG K a0 a1 a2 a3 a4 a5 a6 x26 k x66 v69) else(some x38)
def lP (K:Nat) (a0:Int) (a1:Int) (a2:Int) (a3:List Nat) (a4:List Rat) (a5:List Int) (a6:List (List Rat)):Option (List Rat):=
 (wK a0 0).bind fun x26=>(jG K a0 a1 a2 a3 a4 a5 a6 x26 K x26 0).bind fun x45=>mL K x45
theorem rL {K:Nat} {a0:Int} {a1:Int} {a2:Int} {a3:List Nat} {a4:List Rat} {a5:List Int} {a6:List (List Rat)} {r:List Rat} (hF:lP K a0 a1 a2 a3 a4 a5 a6=some r) {p0:Nat} {b5:Option Nat} {c6 n7:Nat} {b10:Option Nat} {c11 n12:Nat} {b15:Option Nat} {c16 n17:Nat} {g20:List q0} {N21:Nat} (q8:a3.length=n7) (q13:a4.length=n12) (q18:a5.length=n17) (q22:a6.length=N21) (q23:eF g20 a6) (q24:∀k∈a3,k<N21):yU Tryz.prog 118 ([⟨some p0,1,123,6,1,([pI .i64 a0]++[pI .i64 a1]++[pI .i64 a2]++[pO b5 n7 c6]++[pO b10 n12 c11]++[pO b15 n17 c16])⟩,hO (cH g20) b5 c6 24 n7 a3,hO cQ b10 c11 42 n12 a4,hO cI b15 c16 3 n17 a5]++fP cQ 42 g20 a6) [.vc (pP (some p0) 0),.vc (pFB 121 [pP (some p0) 0] [])] (fun Ho q=>Ho=([⟨some p0,1,123,6,1,([pI .i64 a0]++[pI .i64 a1]++[pI .i64 a2]++[pO b5 n7 c6]++[pO b10 n12 c11]++[pO b15 n17 c16])⟩,hO (cH g20) b5 c6 24 n7 a3,hO cQ b10 c11 42 n12 a4,hO cI b15 c16 3 n17 a5]++fP cQ 42 g20 a6)∧q=.vc (pS cQ r)):=by
 unfold lP at hF
 refine aB Tryz.func118 rfl (by kernel_rfl) Tryz.ntmps118 rfl (fun w0 M0=>?_)
 refine aC (aJ (aF (aP (.inr rfl)) ⟨gM cQ,trivial⟩ ?_))
 obtain⟨x26,h27,hF⟩:=aR hF
 refine go ?_ ?_
 refine o8 (C:=cQ) rfl tyS24 rfl tyZ42q rfl h27 (fun b28=>?_)
 refine go ?_ ?_
 refine aK (bE (fun H E=>∃(x45:List Rat),mL K x45=some r∧x45.length=x26.length∧H=([hO cQ b28 x26.length 42 x26.length x45,⟨some p0,1,123,6,1,([pI .i64 a0]++[pI .i64 a1]++[pI .i64 a2]++[pO b5 n7 c6]++[pO b10 n12 c11]++[pO b15 n17 c16])⟩,hO (cH g20) b5 c6 24 n7 a3,hO cQ b10 c11 42 n12 a4,hO cI b15 c16 3 n17 a5]++fP cQ 42 g20 a6)∧E=[(5,.vc (pO b28 x26.length x26.length))]) ?_ (fun Jj52=>?_))
 ·rintro _ _ ⟨x45,hF,q49,rfl,rfl⟩
  unfold mL at hF
  refine go ?_ ?_
  refine gL (gN (sF 0 [4,5,33] rfl q49 ⟨rfl,rfl,rfl,trivial⟩ rfl ?_))
  obtain rfl:=jN hF
  exact iE (.inl rfl) Tryz.results118 (.tmp rfl .nil) rfl 4 [0,1,2,3] rfl rfl (by decide) ⟨rfl,rfl⟩
 obtain⟨x45',hL,hRl51⟩:=aR hF
 refine fO (fun k a w=>∃(x38:List Rat),∃(x44:Int),jG K a0 a1 a2 a3 a4 a5 a6 x26 k x38 x44=some x45'∧x38.length=x26.length∧hs _ ([hO cQ b28 x26.length 42 x26.length x38,⟨some p0,1,123,6,1,([pI .i64 a0]++[pI .i64 a1]++[pI .i64 a2]++[pO b5 n7 c6]++[pO b10 n12 c11]++[pO b15 n17 c16])⟩,hO (cH g20) b5 c6 24 n7 a3,hO cQ b10 c11 42 n12 a4,hO cI b15 c16 3 n17 a5]++fP cQ 42 g20 a6) [(0,.vc (pP (some p0) 0)),(1,.vc (pFB 121 [pP (some p0) 0] [])),(5,.vc (pO b28 x26.length x26.length)),(13,.vc (pI .i64 (x26.length:Int))),(14,.vc (pI .i64 x44))] a w) K (fun a w ⟨_,_,hF,_,_⟩=>by cases hF) (fun k a w ⟨x38,x44,hF,q42,hh⟩=>fN ?_ hh) (fun a w hh=>⟨x26,0,hL,rfl,aS 5 [0,1,2,3,4] rfl rfl (by decide) (by exact⟨rfl,rfl,rfl,rfl,rfl,trivial⟩) hh⟩)
 rw [jG.eq_2] at hF
 refine go ?_ ?_
 refine aD hF rfl (fun h53 hF=>?_) (fun h53 hF=>?_)
 ·refine go ?_ ?_
  refine aK ?_
  obtain⟨v56,h57,v58,h59,v60,h61,hF⟩:=bn3 hF
  obtain⟨v62,h63,hF⟩:=aZ hF vH
  obtain⟨v64,h65,hF⟩:=aR hF
  refine go ?_ ?_
  refine jI [0,0,0,0,12,0,0,64,192,448,0,1984,4092,8188,16383,32767] 15 1 [.v (.vc (pO b28 x26.length x26.length)),.v (.vc (pI .i64 x44)),.v (.vc (pFB 121 [pP (some p0) 0] [])),.v (.vc (pI .i64 x44)),.v (.va (eQ v56)),.v (.vc (pFB 121 [pP (some p0) 0] [])),.v (.vc (pP (some p0) 0)),.v (.vc (pP (some p0) 0)),.v (.vc (pP (some p0) 0)),.v (.vc (pI .i64 a0)),.v (.vc (pI .i64 x44)),.v (.vc (pI .i64 v58)),.v (.va (eQ v60)),.v (.va (eQ v62)),.v (.vc (pE b28 x44 cQ.n 0))] bB ⟨d0 (aP (.inl rfl)) zU1,d0 (aP (.inl rfl)) zU1,d0 (aP (.inl rfl)) zU1,d0 (aP (.inl rfl)) zU1,d0 (aCw (f:=121) (bs:=[pP (some p0) 0]) (cs:=[]) (pre:=[.vc (pI .i64 x44)]) 5 [1,2,3,4] [0] [4,0,1,2,3] rfl (sJ h57 q8 q13 q18 q22 q23 q24) rfl rfl rfl rfl (by decide) (by decide) rfl) zU2,d0 (aP (.inl rfl)) zU1,d0 (aP (.inl rfl)) zU1,d0 (oH rfl) zU1,d0 (iF (off:=0) (k:=0) rfl tyF123_0) zU1,d0 (fQ 1 1 rfl rfl rfl rfl (.one tyO3)) zU1,d0 (aP (.inl rfl)) zU1,d0 (wG rfl h59) zU2,d0 (aCw (f:=121) (bs:=[pP (some p0) 0]) (cs:=[]) (pre:=[.vc (pI .i64 v58)]) 5 [1,2,3,4] [0] [4,0,1,2,3] rfl (sJ h61 q8 q13 q18 q22 q23 q24) rfl rfl rfl rfl (by decide) (by decide) rfl) zU2,d0 (bJ rfl h63 rfl) zU2,d0 (iC (C:=cQ) 0 rfl tyS24 rfl q42 (aI h65).1 (aI h65).2.1) zU2,trivial⟩ (fun bs55 G54=>?_)
  obtain⟨x66,h67,v69,h70,hF⟩:=sS hF
  refine go ?_ ?_
  exact aG (fun a w hh=>⟨x66,v69,hF,(bH h67 q42),aS 5 [0,1,2,3,4] rfl rfl (by decide) (by exact⟨rfl,rfl,rfl,rfl,rfl,trivial⟩) hh⟩)
 refine bO ?_
 obtain rfl:=jN hF
 exact fY Jj52 ⟨x38,hRl51,q42,rfl,rfl⟩ 5 [0,1,2,3,4] rfl rfl zU1
def nS (a0:Int) (a1:Int) (a2:Int) (a3:List Rat) (a4:List Nat) (a5:List Int) (a6:List (List Rat)):Option (List Rat):=
 (aO (2*a0)).bind fun v22=>(aO (2*a0)).bind fun v24=>(aO (v24+a1)).bind fun v26=>(slL a3 v22 v26).bind fun x28=>(nH x28).bind fun v30=>some v30
theorem u5 {a0:Int} {a1:Int} {a2:Int} {a3:List Rat} {a4:List Nat} {a5:List Int} {a6:List (List Rat)} {r:List Rat} (hF:nS a0 a1 a2 a3 a4 a5 a6=some r) {p0:Nat} {b4:Option Nat} {c5 n6:Nat} {b9:Option Nat} {c10 n11:Nat} {g14:List q0} {N15:Nat} (q7:a4.length=n6) (q12:a5.length=n11) (q16:a6.length=N15) (q17:eF g14 a6) (q18:∀k∈a4,k<N15):yU Tryz.prog 115 ([⟨some p0,1,123,6,1,([pI .i64 a0]++[pI .i64 a1]++[pI .i64 a2]++[pO b4 n6 c5]++[pS cQ a3]++[pO b9 n11 c10])⟩,hO (cH g14) b4 c5 24 n6 a4,hO cI b9 c10 3 n11 a5]++fP cQ 42 g14 a6) [.vc (pP (some p0) 0)] (fun Ho q=>Ho=([⟨some p0,1,123,6,1,([pI .i64 a0]++[pI .i64 a1]++[pI .i64 a2]++[pO b4 n6 c5]++[pS cQ a3]++[pO b9 n11 c10])⟩,hO (cH g14) b4 c5 24 n6 a4,hO cI b9 c10 3 n11 a5]++fP cQ 42 g14 a6)∧q=.vc (pS cQ r)):=by
 unfold nS at hF
 refine aB Tryz.func115 rfl (by kernel_rfl) Tryz.ntmps115 rfl (fun w0 M0=>?_)
 refine aC (aJ (aF (aP (.inr rfl)) ⟨gM cQ,trivial⟩ ?_))
 obtain⟨v22,h23,hF⟩:=aR hF
 have hF:=sR h23 hF
 obtain⟨v26,h27,x28,h29,hF⟩:=sS hF
 obtain⟨v30,h31,hF⟩:=aZ hF uY
 refine go ?_ ?_
 refine dr [0,1,3,7,0,16,48,112,240,0,512,1536,3584,7680,0,16384,49152,114688,261632,524287,1048575,2097151] 22 0 ?_ (fun bs21 G20=>?_)
 refine aV (aH (gL (gN ?_)))
 obtain rfl:=jN hF
 exact iE (.inl rfl) Tryz.results115 (.tmp rfl .nil) rfl 3 [0,1,2] rfl rfl (by decide) ⟨rfl,rfl⟩
def uT (K:Nat) (a0:aQ):Option (mH×Int):=
 (uS K a0).bind fun v3=>bif(v3 != 0) then(some ((⟨0,([]:List Rat),([]:List Rat),0⟩:mH),v3)) else((tI K a0).bind fun v6=>(aO (2*a0.vars)).bind fun v37=>(aO (v37+v6.2.1)).bind fun v39=>(lL K (qQ v39) v6.1 v6.2.1 v6.2.2.1 v6.2.2.2.1 v6.2.2.2.2.1 v6.2.2.2.2.2.1 v6.2.2.2.2.2.2).bind fun v41=>(m6 K v6.2.2.1 v6.1 v6.2.1 v6.2.2.1 v6.2.2.2.1 v41 v6.2.2.2.2.2.1 v6.2.2.2.2.2.2).bind fun v51=>(bP v51.2.2.1 v6.2.2.1).bind fun v70=>(wD v70).bind fun v72=>bif(decide (v72<0)) then((nU v6.1 v6.2.1 v6.2.2.1 v51.2.1 v51.2.2.1 v51.2.2.2.1 v51.2.2.2.2).bind fun v75=>some ((⟨1,([]:List Rat),v75,0⟩:mH),0)) else((oL K v39 v6.1 v6.2.1 v6.2.2.1 v51.2.1 v51.2.2.1 v51.2.2.2.1 v51.2.2.2.2).bind fun v77=>(lL K (qX a0) v6.1 v6.2.1 v6.2.2.1 v77.1 v77.2.1 v77.2.2.1 v77.2.2.2).bind fun v94=>(m6 K v39 v6.1 v6.2.1 v6.2.2.1 v77.1 v94 v77.2.2.1 v77.2.2.2).bind fun v102=>bif(decide (0≤v102.1)) then((oS K v6.1 v6.2.1 v6.2.2.1 v102.1 v102.2.1 v102.2.2.1 v102.2.2.2.1 v102.2.2.2.2).bind fun v121=>(lP K v6.1 v6.2.1 v6.2.2.1 v102.2.1 v102.2.2.1 v102.2.2.2.1 v102.2.2.2.2).bind fun v123=>some ((⟨2,v123,v121,0⟩:mH),0)) else((lP K v6.1 v6.2.1 v6.2.2.1 v102.2.1 v102.2.2.1 v102.2.2.2.1 v102.2.2.2.2).bind fun v125=>(nS v6.1 v6.2.1 v6.2.2.1 v102.2.2.1 v102.2.1 v102.2.2.2.1 v102.2.2.2.2).bind fun v131=>(w5 K a0.goal v125).bind fun v133=>some ((⟨0,v125,v131,v133⟩:mH),0))))
theorem aBy {K:Nat} {a0:aQ} {r:mH×Int} (hF:uT K a0=some r):Ct Tryz.prog 70 [.va (aQ.enc a0)] (.t2 (.va (mH.enc r.1)) (.vc (pI .i64 r.2))):=by
 unfold uT at hF
 refine aB Tryz.func70 rfl (by kernel_rfl) Tryz.ntmps70 rfl (fun w0 M0=>?_)
 refine aC (aJ (dE rfl rfl trivial (fun b1=>?_)))
 refine aE rfl tyZ94q (fun b2=>?_)
 obtain⟨v3,h4,hF⟩:=aZ hF aBA
 refine go ?_ ?_
 refine aD hF rfl (fun h5 hF=>?_) (fun h5 hF=>?_)
 ·refine aC (aJ (aF (fK (is:=[]) (xs:=[]) (ps:=[]) rfl tyB94q rfl rfl trivial rfl) trivial ?_))
  exact bV
 obtain⟨v6,h7,hF⟩:=aR hF
 refine go ?_ ?_
 refine aEk [] [0,1] rfl (aAd h7) zU1 rfl rfl (by decide) ?_
 rintro _ _ ⟨b8,b13,c14,n15,b18,c19,n20,b23,c24,n25,g28,N29,q16,q21,q26,q30,q31,q32,rfl,rfl⟩
 refine kE (gX [⟨some b8,1,123,6,1,([pI .i64 v6.1]++[pI .i64 v6.2.1]++[pI .i64 v6.2.2.1]++[pO b13 n15 c14]++[pO b18 n20 c19]++[pO b23 n25 c24])⟩,hO (cH g28) b13 c14 24 n15 v6.2.2.2.1,hO cQ b18 c19 42 n20 v6.2.2.2.2.1,hO cI b23 c24 3 n25 v6.2.2.2.2.2.1] (fP cQ 42 g28 v6.2.2.2.2.2.2) [⟨some b2,1,94,7,1,([pI .i64 0]++[pS cQ ([]:List Rat)]++[pS cQ ([]:List Rat)]++(eQ 0))⟩,⟨some b1,1,90,3,1,(aQ.enc a0)⟩]) ?_
 refine aE rfl tyZ120q (fun b34=>?_)
 obtain⟨v37,h38,v39,h40,hF⟩:=sS hF
 refine go ?_ ?_
 refine dr [0,1,3,0,8,24,56,127,0,511] 9 1 ?_ (fun bs36 G35=>?_)
 refine lW (t_s 0 rfl rfl rfl tyO3.s) zU2 ?_
 refine aV (aH (aC (aJ (aF (fQ 1 1 rfl rfl rfl rfl (.one tyO120)) zU1 ?_))))
 refine aHb 0 [(6,0)] rfl zU1 rfl ?_
 refine aF (aJC (φ:=(qQ v39)) (pre:=fun x:Int=>[.vc (pI .i64 x)]) (post:=fun r:Rat=>.va (eQ r)) (xs:=[.tmp 6]) (cs:=[pM (cI.e v39)]) rfl rfl (fun x r h=>aAz h)) zU1 ?_
 obtain⟨v41,h42,hF⟩:=aR hF
 refine lQ 7 [1,2,3,4] [0,5,6] rfl (rK h42 q16 q21 q26 q30 q31 q32) zU2 rfl rfl rfl (by decide) ?_
 rintro _ _ ⟨b44,c45,n46,q47,rfl,rfl⟩
 refine kE (gX [⟨some b8,1,123,6,1,([pI .i64 v6.1]++[pI .i64 v6.2.1]++[pI .i64 v6.2.2.1]++[pO b13 n15 c14]++[pO b44 n46 c45]++[pO b23 n25 c24])⟩,hO (cH g28) b13 c14 24 n15 v6.2.2.2.1,hO cQ b18 c19 42 n20 v6.2.2.2.2.1,hO cI b23 c24 3 n25 v6.2.2.2.2.2.1,hO cQ b44 c45 42 n46 v41] (fP cQ 42 g28 v6.2.2.2.2.2.2) [⟨some b34,1,120,1,1,[pP (some b8) 0]⟩,⟨some b2,1,94,7,1,([pI .i64 0]++[pS cQ ([]:List Rat)]++[pS cQ ([]:List Rat)]++(eQ 0))⟩,⟨some b1,1,90,3,1,(aQ.enc a0)⟩]) ?_
 refine go ?_ ?_
 refine dr [0,0,2,6,14,31] 5 1 ?_ (fun bs50 G49=>?_)
 obtain⟨v51,h52,hF⟩:=aR hF
 refine lQ 8 [0,1,4,3] [2,5,6,7] rfl (sO h52 q16 q47 q26 q30 q31 q32) zU2 rfl rfl rfl (by decide) ?_
 rintro _ _ ⟨b53,c54,n55,g62,N63,q56,q58,q60,q64,q65,q66,rfl,rfl⟩
 refine kE (gX [⟨some b8,1,123,6,1,([pI .i64 v6.1]++[pI .i64 v6.2.1]++[pI .i64 v6.2.2.1]++[pO b53 n55 c54]++[pO b44 n46 c45]++[pO b23 n25 c24])⟩,hO (cH g62) b53 c54 24 n55 v51.2.1,hO cQ b44 c45 42 n46 v51.2.2.1,hO cI b23 c24 3 n25 v51.2.2.2.1] (fP cQ 42 g62 v51.2.2.2.2) [hO cQ b18 c19 42 n20 v6.2.2.2.2.1,⟨some b34,1,120,1,1,[pP (some b8) 0]⟩,⟨some b2,1,94,7,1,([pI .i64 0]++[pS cQ ([]:List Rat)]++[pS cQ ([]:List Rat)]++(eQ 0))⟩,⟨some b1,1,90,3,1,(aQ.enc a0)⟩]) ?_
 obtain⟨v70,h71,hF⟩:=aR hF
 obtain⟨v72,h73,hF⟩:=aZ hF fT
 refine go ?_ ?_
 refine dr [0,1,3,7,0,16,48,112,255,511,1023,2047] 12 0 ?_ (fun bs69 G68=>?_)
 refine aV (aH (aD hF rfl (fun h74 hF=>?_) (fun h74 hF=>?_)))
 ·obtain⟨v75,h76,hF⟩:=aR hF
  refine go ?_ ?_
  refine lQ 8 [0,1,2,3] [4,5,6,7] rfl (u7 h76 q56 q58 q60 q64 q65 q66) zU1 rfl rfl rfl (by decide) ?_
  rintro _ _ ⟨rfl,rfl⟩
  refine kE (gX [⟨some b8,1,123,6,1,([pI .i64 v6.1]++[pI .i64 v6.2.1]++[pI .i64 v6.2.2.1]++[pO b53 n55 c54]++[pS cQ v51.2.2.1]++[pO b23 n25 c24])⟩,hO (cH g62) b53 c54 24 n55 v51.2.1,hO cI b23 c24 3 n25 v51.2.2.2.1] (fP cQ 42 g62 v51.2.2.2.2) [hO cQ b18 c19 42 n20 v6.2.2.2.2.1,⟨some b34,1,120,1,1,[pP (some b8) 0]⟩,⟨some b2,1,94,7,1,([pI .i64 0]++[pS cQ ([]:List Rat)]++[pS cQ ([]:List Rat)]++(eQ 0))⟩,⟨some b1,1,90,3,1,(aQ.enc a0)⟩]) ?_
  refine aF (fK (is:=[0,2]) (xs:=[.const (.int .i64 (1)),.tmp 48]) (ps:=[.vc (pI .i64 1),.vc (pS cQ v75)]) rfl tyB94q rfl rfl ⟨trivial,trivial,trivial⟩ rfl) ⟨oF _ _,rfl,trivial⟩ ?_
  exact bV
 obtain⟨v77,h78,hF⟩:=aR hF
 refine go ?_ ?_
 refine lQ 8 [0,1,2,3] [4,5,6,7] rfl (vX h78 q56 q58 q60 q64 q65 q66) zU2 rfl rfl rfl (by decide) ?_
 rintro _ _ ⟨b79,c80,n81,g88,N89,q82,q84,q86,q90,q91,q92,rfl,rfl⟩
 refine kE (gX [⟨some b8,1,123,6,1,([pI .i64 v6.1]++[pI .i64 v6.2.1]++[pI .i64 v6.2.2.1]++[pO b79 n81 c80]++[pO b44 n46 c45]++[pO b23 n25 c24])⟩,hO (cH g88) b79 c80 24 n81 v77.1,hO cQ b44 c45 42 n46 v77.2.1,hO cI b23 c24 3 n25 v77.2.2.1] (fP cQ 42 g88 v77.2.2.2) [hO cQ b18 c19 42 n20 v6.2.2.2.2.1,⟨some b34,1,120,1,1,[pP (some b8) 0]⟩,⟨some b2,1,94,7,1,([pI .i64 0]++[pS cQ ([]:List Rat)]++[pS cQ ([]:List Rat)]++(eQ 0))⟩,⟨some b1,1,90,3,1,(aQ.enc a0)⟩]) ?_
 refine aV (aH (aC (aJ (aF (fQ 5 1 rfl rfl rfl rfl (.one tyO120)) zU1 ?_))))
 refine aHb 7 [(1,0),(18,0)] rfl zU2 rfl ?_
 refine aF (aJC (φ:=(qX a0)) (pre:=fun x:Int=>[.vc (pI .i64 x)]) (post:=fun r:Rat=>.va (eQ r)) (xs:=[.tmp 1]) (cs:=[pM (aQ.cod.e a0)]) rfl rfl (fun x r h=>aAG h)) zU1 ?_
 obtain⟨v94,h95,hF⟩:=aR hF
 refine lQ 7 [0,1,2,3] [4,5,6] rfl (rK h95 q82 q84 q86 q90 q91 q92) zU2 rfl rfl rfl (by decide) ?_
 rintro _ _ ⟨b97,c98,n99,q100,rfl,rfl⟩
 refine kE (gX [⟨some b8,1,123,6,1,([pI .i64 v6.1]++[pI .i64 v6.2.1]++[pI .i64 v6.2.2.1]++[pO b79 n81 c80]++[pO b97 n99 c98]++[pO b23 n25 c24])⟩,hO (cH g88) b79 c80 24 n81 v77.1,hO cQ b44 c45 42 n46 v77.2.1,hO cI b23 c24 3 n25 v77.2.2.1,hO cQ b97 c98 42 n99 v94] (fP cQ 42 g88 v77.2.2.2) [hO cQ b18 c19 42 n20 v6.2.2.2.2.1,⟨some b34,1,120,1,1,[pP (some b8) 0]⟩,⟨some b2,1,94,7,1,([pI .i64 0]++[pS cQ ([]:List Rat)]++[pS cQ ([]:List Rat)]++(eQ 0))⟩]) ?_
 obtain⟨v102,h103,hF⟩:=aR hF
 refine go ?_ ?_
 refine lQ 8 [0,1,4,3] [2,5,6,7] rfl (sO h103 q82 q100 q86 q90 q91 q92) zU2 rfl rfl rfl (by decide) ?_
 rintro _ _ ⟨b104,c105,n106,g113,N114,q107,q109,q111,q115,q116,q117,rfl,rfl⟩
 refine kE (gX [⟨some b8,1,123,6,1,([pI .i64 v6.1]++[pI .i64 v6.2.1]++[pI .i64 v6.2.2.1]++[pO b104 n106 c105]++[pO b97 n99 c98]++[pO b23 n25 c24])⟩,hO (cH g113) b104 c105 24 n106 v102.2.1,hO cQ b97 c98 42 n99 v102.2.2.1,hO cI b23 c24 3 n25 v102.2.2.2.1] (fP cQ 42 g113 v102.2.2.2.2) [hO cQ b44 c45 42 n46 v77.2.1,hO cQ b18 c19 42 n20 v6.2.2.2.2.1,⟨some b34,1,120,1,1,[pP (some b8) 0]⟩,⟨some b2,1,94,7,1,([pI .i64 0]++[pS cQ ([]:List Rat)]++[pS cQ ([]:List Rat)]++(eQ 0))⟩]) ?_
 refine aE rfl tyZ3q (fun b119=>?_)
 refine go ?_ ?_
 refine aD hF rfl (fun h120 hF=>?_) (fun h120 hF=>?_)
 ·refine go ?_ ?_
  refine aF (aKJ (xs:=[.tmp 5,.tmp 7]) (cs:=[pP (some b34) 0,pP (some b119) 0]) rfl rfl) zU2 ?_
  obtain⟨v121,h122,hF⟩:=aR hF
  refine lQ 9 [1,7,0,2,3,4] [5,6,8] rfl (vI h122 q107 q109 q111 q115 q116 q117) zU2 rfl rfl rfl (by decide) ?_
  rintro _ _ ⟨rfl,rfl⟩
  refine kE (gX [⟨some b8,1,123,6,1,([pI .i64 v6.1]++[pI .i64 v6.2.1]++[pI .i64 v6.2.2.1]++[pO b104 n106 c105]++[pO b97 n99 c98]++[pO b23 n25 c24])⟩,⟨some b34,1,120,1,1,[pP (some b8) 0]⟩,⟨some b119,1,3,1,1,[pI .i64 v102.1]⟩,hO (cH g113) b104 c105 24 n106 v102.2.1,hO cQ b97 c98 42 n99 v102.2.2.1,hO cI b23 c24 3 n25 v102.2.2.2.1] (fP cQ 42 g113 v102.2.2.2.2) [hO cQ b44 c45 42 n46 v77.2.1,hO cQ b18 c19 42 n20 v6.2.2.2.2.1,⟨some b2,1,94,7,1,([pI .i64 0]++[pS cQ ([]:List Rat)]++[pS cQ ([]:List Rat)]++(eQ 0))⟩]) ?_
  refine go ?_ ?_
  refine aF (aLP (xs:=[.tmp 65]) (bs:=[pP (some b8) 0]) rfl rfl) zU1 ?_
  obtain⟨v123,h124,hF⟩:=aR hF
  refine lQ 9 [0,3,4,5] [1,2,6,7,8] rfl (rL h124 q107 q109 q111 q115 q116 q117) zU2 rfl rfl rfl (by decide) ?_
  rintro _ _ ⟨rfl,rfl⟩
  refine kE (gX [⟨some b8,1,123,6,1,([pI .i64 v6.1]++[pI .i64 v6.2.1]++[pI .i64 v6.2.2.1]++[pO b104 n106 c105]++[pO b97 n99 c98]++[pO b23 n25 c24])⟩,hO (cH g113) b104 c105 24 n106 v102.2.1,hO cQ b97 c98 42 n99 v102.2.2.1,hO cI b23 c24 3 n25 v102.2.2.2.1] (fP cQ 42 g113 v102.2.2.2.2) [⟨some b34,1,120,1,1,[pP (some b8) 0]⟩,⟨some b119,1,3,1,1,[pI .i64 v102.1]⟩,hO cQ b44 c45 42 n46 v77.2.1,hO cQ b18 c19 42 n20 v6.2.2.2.2.1,⟨some b2,1,94,7,1,([pI .i64 0]++[pS cQ ([]:List Rat)]++[pS cQ ([]:List Rat)]++(eQ 0))⟩]) ?_
  refine gF ?_
  refine aF (fK (is:=[0,1,2]) (xs:=[.const (.int .i64 (2)),.tmp 67,.tmp 68]) (ps:=[.vc (pI .i64 2),.vc (pS cQ v123),.vc (pS cQ v121)]) rfl tyB94q rfl rfl ⟨trivial,trivial,trivial,trivial⟩ rfl) ⟨oF _ _,rfl,rfl,trivial⟩ ?_
  exact bV
 refine go ?_ ?_
 refine aF (aLP (xs:=[.tmp 71]) (bs:=[pP (some b8) 0]) rfl rfl) zU1 ?_
 obtain⟨v125,h126,hF⟩:=aR hF
 refine lQ 9 [1,2,3,4] [0,5,6,7,8] rfl (rL h126 q107 q109 q111 q115 q116 q117) zU2 rfl rfl rfl (by decide) ?_
 rintro _ _ ⟨rfl,rfl⟩
 refine kE (gX [⟨some b8,1,123,6,1,([pI .i64 v6.1]++[pI .i64 v6.2.1]++[pI .i64 v6.2.2.1]++[pO b104 n106 c105]++[pO b97 n99 c98]++[pO b23 n25 c24])⟩,hO (cH g113) b104 c105 24 n106 v102.2.1,hO cQ b97 c98 42 n99 v102.2.2.1,hO cI b23 c24 3 n25 v102.2.2.2.1] (fP cQ 42 g113 v102.2.2.2.2) [⟨some b119,1,3,1,1,[pI .i64 v102.1]⟩,hO cQ b44 c45 42 n46 v77.2.1,hO cQ b18 c19 42 n20 v6.2.2.2.2.1,⟨some b34,1,120,1,1,[pP (some b8) 0]⟩,⟨some b2,1,94,7,1,([pI .i64 0]++[pS cQ ([]:List Rat)]++[pS cQ ([]:List Rat)]++(eQ 0))⟩]) ?_
 refine go ?_ ?_
 refine aLq 2 0 4 rfl q109 rfl rfl rfl rfl rfl ?_
 obtain⟨v131,h132,hF⟩:=aR hF
 obtain⟨v133,h134,hF⟩:=aZ hF aAk
 refine jI [0,0,2,0,8,0,62,127,255,511] 8 2 [.v (.vc (pS cQ v125)),.v (.vc (pP (some b8) 0)),.v (.vc (pS cQ v131)),.v (.vc (pM ((aQ.cod.e a0).drop 2))),.v (.vc (pS cQ a0.goal)),.v (.vc (pS cQ v125)),.v (.va (eQ v133)),.v (.va ([pI .i64 0]++[pS cQ v125]++[pS cQ v131]++(eQ v133)))] bB ⟨d0 (aP (.inl rfl)) zU1,d0 (fQ 6 1 rfl rfl rfl rfl (.one tyO120)) zU1,d0 (aFG 8 [0,1,2] [3,4,5,6,7] [0,1,2,3,4,5,6,7] rfl (u5 h132 q107 q111 q115 q116 q117) rfl rfl rfl rfl (by decide) (by decide) rfl) zU1,d0 (aJJ (ps:=(aQ.cod.e a0)) (k:=2) rfl tyF90_2) zU1,d0 (aBX 1 rfl rfl (.one tyO24)) zU1,d0 (aP (.inl rfl)) zU1,d0 (bJ rfl h134 rfl) zU2,d0 (fK (is:=[0,1,2,3]) (xs:=[.const (.int .i64 (0)),.tmp 74,.tmp 76,.tmp 80]) (ps:=[.vc (pI .i64 0),.vc (pS cQ v125),.vc (pS cQ v131),.va (eQ v133)]) rfl tyB94q rfl rfl ⟨trivial,trivial,trivial,trivial,trivial⟩ rfl) ⟨oF _ _,rfl,rfl,rfl,trivial⟩,trivial⟩ (fun bs130 G129=>?_)
 exact bV
def oM (K:Nat) (a1:List Rat) (x49:List Rat) (x109:List aL):Option ((List Rat)×Int):=
 (uT K (⟨(a1.length:Int),x109,x49⟩:aQ)).bind fun v117=>bif(v117.2 != 0) then(some ([],6)) else(bif(v117.1.kind != 0) then(some ([],6)) else((wD v117.1.value).bind fun v122=>bif(decide (v122≤0)) then(some ([],6)) else(some (v117.1.x,0))))
def oR (K:Nat) (x102:List aL) (x108:Int) (recl115:(List aL)→Int→Option (List aL)) (x146:List Rat):Option (List aL):=
 (sK x102 [(⟨x146,0⟩:aL)]).bind fun x154=>(aO (x108+1)).bind fun v161=>recl115 x154 v161
def lT (K:Nat) (a0:List (List Rat)) (a1:List Rat) (x108:Int):Nat→(List Rat)→Int→Option (List Rat)
 |0,_,_=>none
 |k+1,x139,x145=>bif(decide (x145<(a1.length:Int))) then((bP a0 x145).bind fun v166=>(bP v166 x108).bind fun v168=>(bP x139 x145).bind fun v170=>(oK x139 x145 v168).bind fun x172=>(aO (x145+1)).bind fun v175=>lT K a0 a1 x108 k x172 v175) else(some x139)
def iV (K:Nat) (a0:List (List Rat)) (a1:List Rat):Nat→(List aL)→Int→Option (List aL)
 |0,_,_=>none
 |k+1,x102,x108=>bif(decide (x108<(a1.length:Int))) then((wK (a1.length:Int) 0).bind fun x126=>(lT K a0 a1 x108 K x126 0).bind fun x146=>oR K x102 x108 (iV K a0 a1 k) x146) else(some x102)
def oX (K:Nat) (a0:List (List Rat)) (a1:List Rat) (x43:List aL) (x49:List Rat) (v57:Rat) (x80:List Rat):Option ((List Rat)×Int):=
 (sK x43 [(⟨x80,v57⟩:aL)]).bind fun x88=>(iV K a0 a1 K x88 0).bind fun x109=>oM K a1 x49 x109
def mE (K:Nat) (a1:List Rat):Nat→(List Rat)→Int→Option (List Rat)
 |0,_,_=>none
 |k+1,x73,x79=>bif(decide (x79<(a1.length:Int))) then((yN 1 1).bind fun v180=>(sK x73 [v180]).bind fun x182=>(aO (x79+1)).bind fun v189=>mE K a1 k x182 v189) else(some x73)
def oZ (K:Nat) (a0:List (List Rat)) (a1:List Rat) (x43:List aL) (x49:List Rat):Option ((List Rat)×Int):=
 (yN 1 1).bind fun v57=>(mE K a1 K ([]:List Rat) 0).bind fun x80=>oX K a0 a1 x43 x49 v57 x80
def mD (K:Nat) (a1:List Rat):Nat→(List aL)→(List Rat)→Int→Option ((List aL)×(List Rat))
 |0,_,_,_=>none
 |k+1,x30,x36,x42=>bif(decide (x42<(a1.length:Int))) then((bP a1 x42).bind fun v194=>(aAo v194).bind fun v196=>(bP x36 x42).bind fun v198=>(oK x36 x42 v196).bind fun x200=>(wK (a1.length:Int) 0).bind fun x203=>(yN (-1) 1).bind fun v211=>(bP x203 x42).bind fun v213=>(oK x203 x42 v211).bind fun x215=>(sK x30 [(⟨x215,0⟩:aL)]).bind fun x218=>(aO (x42+1)).bind fun v225=>mD K a1 k x218 x200 v225) else(some (x30,x36))
def rZ (K:Nat) (a0:List (List Rat)) (a1:List Rat):Option ((List Rat)×Int):=
 (g8 K a0 a1).bind fun v1=>bif(!v1) then(some ([],1)) else(bif((a1.length:Int)==0) then(some ([],6)) else((wK (a1.length:Int) 0).bind fun x5=>(mD K a1 K ([]:List aL) x5 0).bind fun(x43,x49)=>oZ K a0 a1 x43 x49))
theorem y3 {K:Nat} {a0:List (List Rat)} {a1:List Rat} {r:(List Rat)×Int} (hF:rZ K a0 a1=some r):Ct Tryz.prog 27 [.vc (pS (pC cQ) a0),.vc (pS cQ a1)] (.t2 (.vc (pS cQ r.1)) (.vc (pI .i64 r.2))):=by
 unfold rZ at hF
 refine aB Tryz.func27 rfl (by kernel_rfl) Tryz.ntmps27 rfl (fun w0 M0=>?_)
 refine aC (aJ (aF (aP (.inr rfl)) ⟨gM cQ,trivial⟩ ?_))
 refine aF (aP (.inr rfl)) ⟨oF _ _,trivial⟩ ?_
 refine aV (aH (aC (aC (aJ (gF ?_)))))
 refine gF ?_
 obtain⟨v1,h2,hF⟩:=aR hF
 refine aF (bJ rfl (oW h2) rfl) zU2 ?_
 refine aF (aHj rfl) zU1 ?_
 refine aV (aH (aC8 rfl (fun h3=>?_) (fun h3=>?_)))
 ·have hF:=rA h3 hF
  refine aC (aJ (aF (aP (.inr rfl)) ⟨gM cQ,trivial⟩ ?_))
  refine aF (aP (.inr rfl)) ⟨oF _ _,trivial⟩ ?_
  refine aV (aH (gL (gN ?_)))
  obtain rfl:=jN hF
  exact kX (.inl rfl) Tryz.results27 (.tmp rfl (.tmp rfl .nil)) rfl rfl
 have hF:=pD h3 hF
 refine f7 (aH (aC (aJ (gF ?_))))
 refine aF (aFz rfl tyS24) zU1 ?_
 refine wU ?_
 refine aV (aH (aC (aC (aJ (gF ?_)))))
 refine aF (aKs rfl) ⟨rfl,oF _ _,trivial⟩ ?_
 refine aV (aH (aC8 rfl (fun h4=>?_) (fun h4=>?_)))
 ·have hF:=rA h4 hF
  refine aC (aJ (aF (aP (.inr rfl)) ⟨gM cQ,trivial⟩ ?_))
  refine aF (aP (.inr rfl)) ⟨oF _ _,trivial⟩ ?_
  refine aV (aH (gL (gN ?_)))
  obtain rfl:=jN hF
  exact kX (.inl rfl) Tryz.results27 (.tmp rfl (.tmp rfl .nil)) rfl rfl
 have hF:=pD h4 hF
 refine f7 (aH (aC (aJ (gF ?_))))
 refine gF ?_
 obtain⟨x5,h6,hF⟩:=aR hF
 refine o8 (C:=cQ) rfl tyS24 rfl tyZ42q rfl h6 (fun b7=>?_)
 refine aAE aL.cod 92 ?_
 refine aF (fK (is:=[0,2]) (xs:=[.tmp 24,.tmp 26]) (ps:=[.vc (pI .i64 (a1.length:Int)),.vc (pO b7 x5.length x5.length)]) rfl tyB90_o1q rfl rfl ⟨trivial,trivial,trivial⟩ rfl) zU2 ?_
 refine aE rfl tyZ90q (fun b16=>?_)
 refine lW (t_s 0 rfl rfl rfl tyA90.s) zU2 ?_
 refine aV (aH (aC (aC (aJ (gF ?_)))))
 refine aF (aP (.inl rfl)) ⟨oF _ _,trivial⟩ ?_
 refine aV (aH (aK (bE (fun H E=>∃(x43:List aL),∃(x49:List Rat),∃(b44:Option Nat),∃(c45:Nat),∃(n46:Nat),oZ K a0 a1 x43 x49=some r∧x43.length=n46∧x49.length=x5.length∧H=[⟨some b16,1,90,3,1,([pI .i64 (a1.length:Int)]++[pO b44 n46 c45]++[pO b7 x5.length x5.length])⟩,hO aL.cod b44 c45 92 n46 x43,hO cQ b7 x5.length 42 x5.length x49]∧E=[(0,.vc (pS (pC cQ) a0)),(6,.vc (pI .i64 (a1.length:Int))),(7,.vc (pP (some b16) 0))]) ?_ (fun Jj56=>?_))))
 ·rintro _ _ ⟨x43,x49,b44,c45,n46,hF,q47,q53,rfl,rfl⟩
  unfold oZ at hF
  refine aH (aC (aJ ?_))
  obtain⟨v57,h58,hF⟩:=aR hF
  refine aF (bJ rfl (qG h58) rfl) ⟨oF _ _,oF _ _,trivial⟩ ?_
  refine aAE cQ 42 ?_
  refine aF (fK (is:=[1]) (xs:=[.tmp 56]) (ps:=[.va (eQ v57)]) rfl tyB92_o0q rfl rfl ⟨trivial,trivial⟩ rfl) zU1 ?_
  refine aE rfl tyZ92q (fun b65=>?_)
  refine lW (t_s 0 rfl rfl rfl tyA92.s) zU2 ?_
  refine aV (aH (aC (aC (aJ (gF ?_)))))
  refine aF (aP (.inl rfl)) ⟨oF _ _,trivial⟩ ?_
  refine aV (aH (aK (bE (fun H E=>∃(x80:List Rat),∃(b81:Option Nat),∃(c82:Nat),∃(n83:Nat),oX K a0 a1 x43 x49 v57 x80=some r∧x80.length=n83∧H=[⟨some b65,1,92,5,1,([pO b81 n83 c82]++(eQ v57))⟩,hO cQ b81 c82 42 n83 x80,⟨some b16,1,90,3,1,([pI .i64 (a1.length:Int)]++[pO b44 n46 c45]++[pO b7 x5.length x5.length])⟩,hO aL.cod b44 c45 92 n46 x43,hO cQ b7 x5.length 42 x5.length x49]∧E=[(0,.vc (pS (pC cQ) a0)),(6,.vc (pI .i64 (a1.length:Int))),(7,.vc (pP (some b16) 0)),(10,.vc (pP (some b65) 0))]) ?_ (fun Jj87=>?_))))
  ·rintro _ _ ⟨x80,b81,c82,n83,hF,q84,rfl,rfl⟩
   unfold oX at hF
   refine aH (aC (aJ (aF (iF (off:=0) (k:=1) rfl tyF90_1) zU1 ?_)))
   refine aF (fQ 2 1 rfl rfl rfl rfl (.one tyO88)) zU1 ?_
   refine aDE 1 0 0 rfl q84 rfl rfl rfl rfl rfl ?_
   refine aF (fQ 0 5 rfl rfl rfl rfl (.agg tyA92)) zU1 ?_
   refine aF (gO (C:=aL.cod) (xs:=[.tmp 70]) (ps:=[.va ([pS cQ x80]++(eQ v57))]) (zs:=[(⟨x80,v57⟩:aL)]) rfl tyS88 rfl ⟨⟨trivial,rfl⟩,trivial⟩ rfl) zU1 ?_
   obtain⟨x88,h89,hF⟩:=aR hF
   refine o9 2 rfl tyS88 rfl rfl q47 rfl rfl h89 (fun b90 c91 H92 e93=>?_)
   cases e93
   refine aF (iF (off:=0) (k:=1) rfl tyF90_1) zU1 ?_
   refine lW (t_s 1 rfl rfl rfl tyO88.s) zU2 ?_
   refine aV (aH (aC (aC (aJ (gF ?_)))))
   refine aF (aP (.inl rfl)) ⟨oF _ _,trivial⟩ ?_
   refine aV (aH (aK (bE (fun H E=>∃(x109:List aL),∃(b110:Option Nat),∃(c111:Nat),∃(n112:Nat),oM K a1 x49 x109=some r∧x109.length=n112∧H=[⟨some b16,1,90,3,1,([pI .i64 (a1.length:Int)]++[pO b110 n112 c111]++[pO b7 x5.length x5.length])⟩,hO aL.cod b110 c111 92 n112 x109,hO cQ b7 x5.length 42 x5.length x49]∧E=[(7,.vc (pP (some b16) 0))]) ?_ (fun Jj116=>?_))))
   ·rintro _ _ ⟨x109,b110,c111,n112,hF,q113,rfl,rfl⟩
    unfold oM at hF
    refine aH (aC (aJ (aDE 1 0 1 rfl q113 rfl rfl rfl rfl rfl ?_)))
    refine aDE 1 0 2 rfl q53 rfl rfl rfl rfl rfl ?_
    refine aF (fQ 0 3 rfl rfl rfl rfl (.agg tyA90)) zU1 ?_
    obtain⟨v117,h118,hF⟩:=aR hF
    refine aF (bJ rfl (aBy h118) rfl) zU1 ?_
    refine gF ?_
    refine aF (aD1 rfl) zU1 ?_
    refine aF (aEE rfl) zU1 ?_
    refine aE rfl tyZ94q (fun b119=>?_)
    refine lW (t_s 0 rfl rfl rfl tyA94.s) zU2 ?_
    refine wU ?_
    refine aV (aH (aC (aC (aJ (gF ?_)))))
    refine aF (aIY rfl) ⟨rfl,oF _ _,trivial⟩ ?_
    refine gF ?_
    refine aGf (fun h120=>?_) (fun h120=>?_)
    ·have hF:=rA h120 hF
     refine yL ?_
     refine yL ?_
     refine yL ?_
     refine aF (tK rfl) ⟨rfl,k_B _,trivial⟩ ?_
     refine gF ?_
     refine yL ?_
     refine yL ?_
     refine yL ?_
     refine yL ?_
     refine aF (tK rfl) ⟨rfl,k_B _,trivial⟩ ?_
     refine aV (aH (iR rfl ?_))
     refine aC (aJ (aF (aP (.inr rfl)) ⟨gM cQ,trivial⟩ ?_))
     refine aF (aP (.inr rfl)) ⟨oF _ _,trivial⟩ ?_
     refine aV (aH (gL (gN ?_)))
     obtain rfl:=jN hF
     exact kX (.inl rfl) Tryz.results27 (.tmp rfl (.tmp rfl .nil)) rfl rfl
    have hF:=pD h120 hF
    refine t5 (iF (off:=0) (k:=0) rfl tyF94_0) zU1 ?_
    refine t5 (fQ 0 1 rfl rfl rfl rfl (.one tyO3)) zU1 ?_
    refine t5 (aIY rfl) ⟨rfl,oF _ _,trivial⟩ ?_
    refine aF (yA rfl) zU2 ?_
    refine gF ?_
    refine aGf (fun h121=>?_) (fun h121=>?_)
    ·have hF:=rA h121 hF
     refine yL ?_
     refine yL ?_
     refine yL ?_
     refine yL ?_
     refine aF (tK rfl) ⟨rfl,k_B _,trivial⟩ ?_
     refine aV (aH (iR rfl ?_))
     refine aC (aJ (aF (aP (.inr rfl)) ⟨gM cQ,trivial⟩ ?_))
     refine aF (aP (.inr rfl)) ⟨oF _ _,trivial⟩ ?_
     refine aV (aH (gL (gN ?_)))
     obtain rfl:=jN hF
     exact kX (.inl rfl) Tryz.results27 (.tmp rfl (.tmp rfl .nil)) rfl rfl
    have hF:=pD h121 hF
    refine t5 (iF (off:=0) (k:=3) rfl tyF94_3) zU1 ?_
    refine t5 (fQ 0 4 rfl rfl rfl rfl (.agg tyA42)) zU1 ?_
    obtain⟨v122,h123,hF⟩:=aR hF
    refine t5 (bJ rfl (fT h123) rfl) zU1 ?_
    refine t5 (aKq rfl) ⟨rfl,oF _ _,trivial⟩ ?_
    refine aF (yA rfl) zU2 ?_
    refine aV (aH (aC8 rfl (fun h124=>?_) (fun h124=>?_)))
    ·have hF:=rA h124 hF
     refine aC (aJ (aF (aP (.inr rfl)) ⟨gM cQ,trivial⟩ ?_))
     refine aF (aP (.inr rfl)) ⟨oF _ _,trivial⟩ ?_
     refine aV (aH (gL (gN ?_)))
     obtain rfl:=jN hF
     exact kX (.inl rfl) Tryz.results27 (.tmp rfl (.tmp rfl .nil)) rfl rfl
    have hF:=pD h124 hF
    refine f7 (aH (aC (aJ (aF (iF (off:=0) (k:=1) rfl tyF94_1) zU1 ?_))))
    refine aF (fQ 0 1 rfl rfl rfl rfl (.one tyO24)) zU1 ?_
    refine wU ?_
    refine aF (aP (.inr rfl)) ⟨oF _ _,trivial⟩ ?_
    refine aV (aH (gL (gN ?_)))
    obtain rfl:=jN hF
    exact kX (.inl rfl) Tryz.results27 (.tmp rfl (.tmp rfl .nil)) rfl rfl
   obtain⟨x109',hL,hRl115⟩:=aR hF
   refine fO (fun k a w=>∃(x102:List aL),∃(x108:Int),∃(b103:Option Nat),∃(c104:Nat),∃(n105:Nat),iV K a0 a1 k x102 x108=some x109'∧x102.length=n105∧hs _ [⟨some b16,1,90,3,1,([pI .i64 (a1.length:Int)]++[pO b103 n105 c104]++[pO b7 x5.length x5.length])⟩,hO aL.cod b103 c104 92 n105 x102,hO cQ b7 x5.length 42 x5.length x49] [(0,.vc (pS (pC cQ) a0)),(6,.vc (pI .i64 (a1.length:Int))),(7,.vc (pP (some b16) 0)),(74,.vc (pI .i64 (a1.length:Int))),(75,.vc (pI .i64 x108))] a w) K (fun a w ⟨_,_,_,_,_,hF,_,_⟩=>by cases hF) (fun k a w ⟨x102,x108,b103,c104,n105,hF,q106,hh⟩=>fN ?_ hh) (fun a w hh=>⟨x88,0,b90,c91,(n46+[(⟨x80,v57⟩:aL)].length),hL,(fI h89 q47),uH [1,2,3] rfl (by decide) (by exact⟨rfl,rfl,rfl,rfl,rfl,trivial⟩) hh⟩)
   rw [iV.eq_2] at hF
   refine aC (aJ (aF (aDZ rfl) zU2 ?_))
   refine aV (aH (aC (aC8 rfl (fun h125=>?_) (fun h125=>?_))))
   ·have hF:=rA h125 hF
    refine f7 (aH (aC (aK (aC (aJ (gF ?_))))))
    refine wU ?_
    refine aV (aH (aC (aJ (gF ?_))))
    obtain⟨x126,h127,hF⟩:=aR hF
    refine o8 (C:=cQ) rfl tyS24 rfl tyZ42q rfl h127 (fun b128=>?_)
    refine aF (fK (is:=[0]) (xs:=[.tmp 79]) (ps:=[.vc (pO b128 x126.length x126.length)]) rfl tyB92q rfl rfl ⟨trivial,trivial⟩ rfl) zU1 ?_
    refine aE rfl tyZ92q (fun b131=>?_)
    refine lW (t_s 0 rfl rfl rfl tyA92.s) zU2 ?_
    refine aV (aH (aC (aC (aJ (gF ?_)))))
    refine aF (aP (.inl rfl)) ⟨oF _ _,trivial⟩ ?_
    refine aV (aH (aK (bE (fun H E=>∃(x146:List Rat),oR K x102 x108 (iV K a0 a1 k) x146=some x109'∧x146.length=x126.length∧H=[⟨some b131,1,92,5,1,([pO b128 x126.length x126.length]++(eQ 0))⟩,hO cQ b128 x126.length 42 x126.length x146,⟨some b16,1,90,3,1,([pI .i64 (a1.length:Int)]++[pO b103 n105 c104]++[pO b7 x5.length x5.length])⟩,hO aL.cod b103 c104 92 n105 x102,hO cQ b7 x5.length 42 x5.length x49]∧E=[(0,.vc (pS (pC cQ) a0)),(6,.vc (pI .i64 (a1.length:Int))),(7,.vc (pP (some b16) 0)),(12,.vc (pP (some b131) 0)),(74,.vc (pI .i64 (a1.length:Int))),(75,.vc (pI .i64 x108))]) ?_ (fun Jj153=>?_))))
    ·rintro _ _ ⟨x146,hF,q150,rfl,rfl⟩
     unfold oR at hF
     refine aH (aJ (aF (iF (off:=0) (k:=1) rfl tyF90_1) zU1 ?_))
     refine aF (fQ 2 1 rfl rfl rfl rfl (.one tyO88)) zU1 ?_
     refine aDE 1 0 0 rfl q150 rfl rfl rfl rfl rfl ?_
     refine aF (fQ 0 5 rfl rfl rfl rfl (.agg tyA92)) zU1 ?_
     refine aF (gO (C:=aL.cod) (xs:=[.tmp 99]) (ps:=[.va ([pS cQ x146]++(eQ 0))]) (zs:=[(⟨x146,0⟩:aL)]) rfl tyS88 rfl ⟨⟨trivial,rfl⟩,trivial⟩ rfl) zU1 ?_
     obtain⟨x154,h155,hF⟩:=aR hF
     refine o9 2 rfl tyS88 rfl rfl q106 rfl rfl h155 (fun b156 c157 H158 e159=>?_)
     cases e159
     refine aF (iF (off:=0) (k:=1) rfl tyF90_1) zU1 ?_
     refine lW (t_s 1 rfl rfl rfl tyO88.s) zU2 ?_
     refine aV (y7 (aH (aJ ?_)))
     obtain⟨v161,h162,hF⟩:=aR hF
     refine aF (wG rfl h162) ⟨rfl,oF _ _,trivial⟩ ?_
     refine gF ?_
     refine aV ?_
     exact aG (fun a w hh=>⟨x154,v161,b156,c157,(n105+[(⟨x146,0⟩:aL)].length),hF,(fI h155 q106),uH [1,2,3] rfl (by decide) (by exact⟨rfl,rfl,rfl,rfl,rfl,trivial⟩) hh⟩)
    obtain⟨x146',hL,hRl152⟩:=aR hF
    refine fO (fun k a w=>∃(x139:List Rat),∃(x145:Int),lT K a0 a1 x108 k x139 x145=some x146'∧x139.length=x126.length∧hs _ [⟨some b131,1,92,5,1,([pO b128 x126.length x126.length]++(eQ 0))⟩,hO cQ b128 x126.length 42 x126.length x139,⟨some b16,1,90,3,1,([pI .i64 (a1.length:Int)]++[pO b103 n105 c104]++[pO b7 x5.length x5.length])⟩,hO aL.cod b103 c104 92 n105 x102,hO cQ b7 x5.length 42 x5.length x49] [(0,.vc (pS (pC cQ) a0)),(6,.vc (pI .i64 (a1.length:Int))),(7,.vc (pP (some b16) 0)),(11,.vc (pI .i64 x108)),(12,.vc (pP (some b131) 0)),(74,.vc (pI .i64 (a1.length:Int))),(75,.vc (pI .i64 x108)),(81,.vc (pI .i64 (a1.length:Int))),(82,.vc (pI .i64 x145))] a w) K (fun a w ⟨_,_,hF,_,_⟩=>by cases hF) (fun k a w ⟨x139,x145,hF,q143,hh⟩=>fN ?_ hh) (fun a w hh=>⟨x126,0,hL,rfl,uH [0,1,2,3,4] rfl (by decide) (by exact⟨rfl,rfl,rfl,rfl,rfl,rfl,rfl,rfl,rfl,trivial⟩) hh⟩)
    rw [lT.eq_2] at hF
    refine aC (aJ (aF (aDZ rfl) zU2 ?_))
    refine aV (aH (aC (aC8 rfl (fun h163=>?_) (fun h163=>?_))))
    ·have hF:=rA h163 hF
     refine f7 (aH (aC (aK (aC (aJ (gF ?_))))))
     refine wU ?_
     refine aV (aH ?_)
     obtain⟨v166,h167,hF⟩:=aR hF
     obtain⟨v168,h169,hF⟩:=aR hF
     obtain⟨v170,h171,hF⟩:=aR hF
     refine jI [0,1,0,0,0,24,56,0,248,504,1023,2047] 11 1 [.v (.vc (pP (some b131) 0)),.v (.vc (pO b128 x126.length x126.length)),.v (.vc (pI .i64 x145)),.v (.vc (pS (pC cQ) a0)),.v (.vc (pI .i64 x145)),.v (.vc (pM ((pC cQ).e v166))),.v (.vc (pS cQ v166)),.v (.vc (pI .i64 x108)),.v (.vc (pM (cQ.e v168))),.v (.va (eQ v168)),.v (.vc (pE b128 x145 cQ.n 0))] bB ⟨d0 (iF (off:=0) (k:=0) rfl tyF92_0) zU1,d0 (fQ 0 1 rfl rfl rfl rfl (.one tyO24)) zU1,d0 (aP (.inl rfl)) zU1,d0 (aP (.inl rfl)) zU1,d0 (aP (.inl rfl)) zU1,d0 (aEJ rfl tyS23 h167) zU2,d0 (aBX 1 rfl rfl (.one tyO24)) zU1,d0 (aP (.inl rfl)) zU1,d0 (aEJ rfl tyS24 h169) zU2,d0 (aBX 4 rfl rfl (.agg tyA42)) zU1,d0 (iC (C:=cQ) 1 rfl tyS24 rfl q143 (aI h171).1 (aI h171).2.1) zU2,trivial⟩ (fun bs165 G164=>?_)
     obtain⟨x172,h173,hF⟩:=aR hF
     refine lW (xE 1 rfl rfl h171 h173 tyA42.s) zU2 ?_
     refine aV (y7 (aH (aJ ?_)))
     obtain⟨v175,h176,hF⟩:=aR hF
     refine aF (wG rfl h176) ⟨rfl,oF _ _,trivial⟩ ?_
     refine gF ?_
     refine aV ?_
     exact aG (fun a w hh=>⟨x172,v175,hF,(bH h173 q143),uH [0,1,2,3,4] rfl (by decide) (by exact⟨rfl,rfl,rfl,rfl,rfl,rfl,rfl,rfl,rfl,trivial⟩) hh⟩)
    have hF:=pD h163 hF
    refine bO ?_
    obtain rfl:=jN hF
    exact aA9 Jj153 ⟨x139,hRl152,q143,rfl,rfl⟩ [0,1,2,3,4] rfl ⟨rfl,rfl,rfl,rfl,rfl,rfl,trivial⟩
   have hF:=pD h125 hF
   refine bO ?_
   obtain rfl:=jN hF
   exact aA9 Jj116 ⟨x102,b103,c104,n105,hRl115,q106,rfl,rfl⟩ [0,1,2] rfl zU1
  obtain⟨x80',hL,hRl86⟩:=aR hF
  refine fO (fun k a w=>∃(x73:List Rat),∃(x79:Int),∃(b74:Option Nat),∃(c75:Nat),∃(n76:Nat),mE K a1 k x73 x79=some x80'∧x73.length=n76∧hs _ [⟨some b65,1,92,5,1,([pO b74 n76 c75]++(eQ v57))⟩,hO cQ b74 c75 42 n76 x73,⟨some b16,1,90,3,1,([pI .i64 (a1.length:Int)]++[pO b44 n46 c45]++[pO b7 x5.length x5.length])⟩,hO aL.cod b44 c45 92 n46 x43,hO cQ b7 x5.length 42 x5.length x49] [(0,.vc (pS (pC cQ) a0)),(6,.vc (pI .i64 (a1.length:Int))),(7,.vc (pP (some b16) 0)),(10,.vc (pP (some b65) 0)),(58,.vc (pI .i64 (a1.length:Int))),(59,.vc (pI .i64 x79))] a w) K (fun a w ⟨_,_,_,_,_,hF,_,_⟩=>by cases hF) (fun k a w ⟨x73,x79,b74,c75,n76,hF,q77,hh⟩=>fN ?_ hh) (fun a w hh=>⟨([]:List Rat),0,none,0,0,hL,rfl,uH [0,1,2,3,4] rfl (by decide) (by exact⟨rfl,rfl,rfl,rfl,rfl,rfl,trivial⟩) hh⟩)
  rw [mE.eq_2] at hF
  refine aC (aJ (aF (aDZ rfl) zU2 ?_))
  refine aV (aH (aC (aC8 rfl (fun h177=>?_) (fun h177=>?_))))
  ·have hF:=rA h177 hF
   refine f7 (aH (aC (aK ?_)))
   obtain⟨v180,h181,hF⟩:=aR hF
   refine jI [0,1,0,4,15,31,63] 4 3 [.v (.vc (pP (some b65) 0)),.v (.vc (pO b74 n76 c75)),.v (.va (eQ v180)),.v (.vc (pS cQ [v180]))] bB ⟨d0 (iF (off:=0) (k:=0) rfl tyF92_0) zU1,d0 (fQ 0 1 rfl rfl rfl rfl (.one tyO24)) zU1,d0 (bJ rfl (qG h181) rfl) ⟨oF _ _,oF _ _,trivial⟩,d0 (gO (C:=cQ) (xs:=[.tmp 63]) (ps:=[.va (eQ v180)]) (zs:=[v180]) rfl tyS24 rfl ⟨⟨trivial,rfl⟩,trivial⟩ rfl) zU1,trivial⟩ (fun bs179 G178=>?_)
   obtain⟨x182,h183,hF⟩:=aR hF
   refine o9 1 rfl tyS24 rfl rfl q77 rfl rfl h183 (fun b184 c185 H186 e187=>?_)
   cases e187
   refine aF (iF (off:=0) (k:=0) rfl tyF92_0) zU1 ?_
   refine lW (t_s 0 rfl rfl rfl tyO24.s) zU2 ?_
   refine aV (y7 (aH (aJ ?_)))
   obtain⟨v189,h190,hF⟩:=aR hF
   refine aF (wG rfl h190) ⟨rfl,oF _ _,trivial⟩ ?_
   refine gF ?_
   refine aV ?_
   exact aG (fun a w hh=>⟨x182,v189,b184,c185,(n76+[v180].length),hF,(fI h183 q77),uH [0,1,2,3,4] rfl (by decide) (by exact⟨rfl,rfl,rfl,rfl,rfl,rfl,trivial⟩) hh⟩)
  have hF:=pD h177 hF
  refine bO ?_
  obtain rfl:=jN hF
  exact aA9 Jj87 ⟨x73,b74,c75,n76,hRl86,q77,rfl,rfl⟩ [0,1,2,3,4] rfl ⟨rfl,rfl,rfl,rfl,trivial⟩
 obtain⟨⟨x43',x49'⟩,hL,hRl55⟩:=aR hF
 refine fO (fun k a w=>∃(x30:List aL),∃(x36:List Rat),∃(x42:Int),∃(b31:Option Nat),∃(c32:Nat),∃(n33:Nat),mD K a1 k x30 x36 x42=some (x43',x49')∧x30.length=n33∧x36.length=x5.length∧hs _ [⟨some b16,1,90,3,1,([pI .i64 (a1.length:Int)]++[pO b31 n33 c32]++[pO b7 x5.length x5.length])⟩,hO aL.cod b31 c32 92 n33 x30,hO cQ b7 x5.length 42 x5.length x36] [(0,.vc (pS (pC cQ) a0)),(1,.vc (pS cQ a1)),(6,.vc (pI .i64 (a1.length:Int))),(7,.vc (pP (some b16) 0)),(28,.vc (pI .i64 (a1.length:Int))),(29,.vc (pI .i64 x42))] a w) K (fun a w ⟨_,_,_,_,_,_,hF,_,_,_⟩=>by cases hF) (fun k a w ⟨x30,x36,x42,b31,c32,n33,hF,q34,q40,hh⟩=>fN ?_ hh) (fun a w hh=>⟨([]:List aL),x5,0,none,0,0,hL,rfl,rfl,uH [0,1,2] rfl (by decide) (by exact⟨rfl,rfl,rfl,rfl,rfl,rfl,trivial⟩) hh⟩)
 rw [mD.eq_2] at hF
 refine aC (aJ (aF (aDZ rfl) zU2 ?_))
 refine aV (aH (aC (aC8 rfl (fun h191=>?_) (fun h191=>?_))))
 ·have hF:=rA h191 hF
  refine f7 (aH (aC (aK (aC (aJ (gF ?_))))))
  refine wU ?_
  refine aV (aH (aC ?_))
  obtain⟨v194,h195,hF⟩:=aR hF
  obtain⟨v196,h197,hF⟩:=aR hF
  obtain⟨v198,h199,hF⟩:=aR hF
  refine jI [0,1,0,0,0,24,56,120,255,511] 9 1 [.v (.vc (pP (some b16) 2)),.v (.vc (pO b7 x5.length x5.length)),.v (.vc (pI .i64 x42)),.v (.vc (pS cQ a1)),.v (.vc (pI .i64 x42)),.v (.vc (pM (cQ.e v194))),.v (.va (eQ v194)),.v (.va (eQ v196)),.v (.vc (pE b7 x42 cQ.n 0))] bB ⟨d0 (iF (off:=0) (k:=2) rfl tyF90_2) zU1,d0 (fQ 0 1 rfl rfl rfl rfl (.one tyO24)) zU1,d0 (aP (.inl rfl)) zU1,d0 (aP (.inl rfl)) zU1,d0 (aP (.inl rfl)) zU1,d0 (aEJ rfl tyS24 h195) zU2,d0 (aBX 4 rfl rfl (.agg tyA42)) zU1,d0 (bJ rfl (uA h197) rfl) zU1,d0 (iC (C:=cQ) 2 rfl tyS24 rfl q40 (aI h199).1 (aI h199).2.1) zU2,trivial⟩ (fun bs193 G192=>?_)
  obtain⟨x200,h201,hF⟩:=aR hF
  refine lW (xE 2 rfl rfl h199 h201 tyA42.s) zU2 ?_
  refine aV (aH (aC (aJ (gF ?_))))
  obtain⟨x203,h204,hF⟩:=aR hF
  refine o8 (C:=cQ) rfl tyS24 rfl tyZ42q rfl h204 (fun b205=>?_)
  refine aF (fK (is:=[0]) (xs:=[.tmp 42]) (ps:=[.vc (pO b205 x203.length x203.length)]) rfl tyB92q rfl rfl ⟨trivial,trivial⟩ rfl) zU1 ?_
  refine aE rfl tyZ92q (fun b208=>?_)
  refine lW (t_s 0 rfl rfl rfl tyA92.s) zU2 ?_
  refine aV (aH (aC ?_))
  obtain⟨v211,h212,hF⟩:=aR hF
  obtain⟨v213,h214,hF⟩:=aR hF
  refine jI [0,1,0,0,15,31] 5 1 [.v (.vc (pP (some b208) 0)),.v (.vc (pO b205 x203.length x203.length)),.v (.vc (pI .i64 x42)),.v (.va (eQ v211)),.v (.vc (pE b205 x42 cQ.n 0))] bB ⟨d0 (iF (off:=0) (k:=0) rfl tyF92_0) zU1,d0 (fQ 0 1 rfl rfl rfl rfl (.one tyO24)) zU1,d0 (aP (.inl rfl)) zU1,d0 (bJ rfl (qG h212) rfl) ⟨oF _ _,oF _ _,trivial⟩,d0 (iC (C:=cQ) 1 rfl tyS24 rfl rfl (aI h214).1 (aI h214).2.1) zU2,trivial⟩ (fun bs210 G209=>?_)
  obtain⟨x215,h216,hF⟩:=aR hF
  refine lW (xE 1 rfl rfl h214 h216 tyA42.s) zU2 ?_
  refine aV (aH (aJ (aF (iF (off:=0) (k:=1) rfl tyF90_1) zU1 ?_)))
  refine aF (fQ 2 1 rfl rfl rfl rfl (.one tyO88)) zU1 ?_
  refine aMp 1 0 0 [42,45] rfl (bH h216 rfl) rfl rfl rfl rfl rfl zU2 ?_
  refine aF (fQ 0 5 rfl rfl rfl rfl (.agg tyA92)) zU1 ?_
  refine aF (gO (C:=aL.cod) (xs:=[.tmp 51]) (ps:=[.va ([pS cQ x215]++(eQ 0))]) (zs:=[(⟨x215,0⟩:aL)]) rfl tyS88 rfl ⟨⟨trivial,rfl⟩,trivial⟩ rfl) zU1 ?_
  obtain⟨x218,h219,hF⟩:=aR hF
  refine o9 2 rfl tyS88 rfl rfl q34 rfl rfl h219 (fun b220 c221 H222 e223=>?_)
  cases e223
  refine aF (iF (off:=0) (k:=1) rfl tyF90_1) zU1 ?_
  refine lW (t_s 1 rfl rfl rfl tyO88.s) zU2 ?_
  refine aV (y7 (aH (aJ ?_)))
  obtain⟨v225,h226,hF⟩:=aR hF
  refine aF (wG rfl h226) ⟨rfl,oF _ _,trivial⟩ ?_
  refine gF ?_
  refine aV ?_
  exact aG (fun a w hh=>⟨x218,x200,v225,b220,c221,(n33+[(⟨x215,0⟩:aL)].length),hF,(fI h219 q34),(bH h201 q40),uH [1,2,3] rfl (by decide) (by exact⟨rfl,rfl,rfl,rfl,rfl,rfl,trivial⟩) hh⟩)
 have hF:=pD h191 hF
 refine bO ?_
 obtain⟨rfl,rfl⟩:=sm2 hF
 exact aA9 Jj56 ⟨x30,x36,b31,c32,n33,hRl55,q34,q40,rfl,rfl⟩ [0,1,2] rfl ⟨rfl,rfl,rfl,trivial⟩
def oQ (K:Nat) (a1:List Rat) (a2:List Rat):Option Bool:=
 (w5 K a1 a2).bind fun v15=>(wD v15).bind fun v17=>some (decide (v17<0))
def oP (K:Nat) (x12:Int) (recl13:Int→Option (LR Bool Unit)) (x25:Rat):Option (LR Bool Unit):=
 (wD x25).bind fun v28=>bif(decide (0<v28)) then(some (.ret false)) else((aO (x12+1)).bind fun v31=>recl13 v31)
def lR (K:Nat) (a0:List (List Rat)) (a1:List Rat) (a2:List Rat) (x12:Int):Nat→Rat→Int→Option Rat
 |0,_,_=>none
 |k+1,x23,x24=>bif(decide (x24<(a1.length:Int))) then((bP a2 x24).bind fun v36=>(bP a0 x24).bind fun v38=>(bP v38 x12).bind fun v40=>(aCc v36 v40).bind fun v42=>(aC6 x23 v42).bind fun v44=>(aO (x24+1)).bind fun v46=>lR K a0 a1 a2 x12 k v44 v46) else(some x23)
def iX (K:Nat) (a0:List (List Rat)) (a1:List Rat) (a2:List Rat):Nat→Int→Option (LR Bool Unit)
 |0,_=>none
 |k+1,x12=>bif(decide (x12<(a1.length:Int))) then((lR K a0 a1 a2 x12 K 0 0).bind fun x25=>oP K x12 (iX K a0 a1 a2 k) x25) else(some (.go ()))
def rG (K:Nat) (a0:List (List Rat)) (a1:List Rat) (a2:List Rat):Option Bool:=
 (g8 K a0 a1).bind fun v1=>bif(!v1) then(some false) else(bif((a2.length:Int) != (a1.length:Int)) then(some false) else((iN K a2).bind fun v5=>bif(!v5) then(some false) else((fA K a2).bind fun v8=>bif v8 then(some false) else((iX K a0 a1 a2 K 0).bind fun o=>match o with| .ret r=>some r| .go _=>oQ K a1 a2))))
theorem yO {K:Nat} {a0:List (List Rat)} {a1:List Rat} {a2:List Rat} {r:Bool} (hF:rG K a0 a1 a2=some r):Ct Tryz.prog 31 [.vc (pS (pC cQ) a0),.vc (pS cQ a1),.vc (pS cQ a2)] (.vc (pB r)):=by
 unfold rG at hF
 refine aB Tryz.func31 rfl (by kernel_rfl) Tryz.ntmps31 rfl (fun w0 M0=>?_)
 obtain⟨v1,h2,hF⟩:=aZ hF oW
 refine go ?_ ?_
 refine dG hF (fun h3 hF=>?_) (fun h3 hF=>?_)
 ·refine go ?_ ?_
  refine iR rfl ?_
  exact bV
 refine go ?_ ?_
 refine dG hF (fun h4 hF=>?_) (fun h4 hF=>?_)
 ·refine go ?_ ?_
  refine iR rfl ?_
  exact bV
 obtain⟨v5,h6,hF⟩:=aZ hF qA
 refine go ?_ ?_
 refine dG hF (fun h7 hF=>?_) (fun h7 hF=>?_)
 ·refine go ?_ ?_
  refine iR rfl ?_
  exact bV
 obtain⟨v8,h9,hF⟩:=aZ hF mS
 refine go ?_ ?_
 refine aD hF rfl (fun h10 hF=>?_) (fun h10 hF=>?_)
 ·exact bV
 refine go ?_ ?_
 refine aK (bE (fun H E=>oQ K a1 a2=some r∧H=[]∧E=[(1,.vc (pS cQ a1)),(2,.vc (pS cQ a2))]) ?_ (fun Jj14=>?_))
 ·rintro _ _ ⟨hF,rfl,rfl⟩
  unfold oQ at hF
  obtain⟨v15,h16,hF⟩:=aZ hF aAk
  obtain⟨v17,h18,hF⟩:=aZ hF fT
  exact bV
 obtain⟨ol13,hL,hRl13⟩:=aR hF
 refine fO (fun k a w=>∃(x12:Int),iX K a0 a1 a2 k x12=some ol13∧hs _ [] [(0,.vc (pS (pC cQ) a0)),(1,.vc (pS cQ a1)),(2,.vc (pS cQ a2)),(31,.vc (pI .i64 (a1.length:Int))),(32,.vc (pI .i64 x12))] a w) K (fun a w ⟨_,hF,_⟩=>by cases hF) (fun k a w ⟨x12,hF,hh⟩=>fN ?_ hh) (fun a w hh=>⟨0,hL,jY [] hh⟩)
 rw [iX.eq_2] at hF
 refine go ?_ ?_
 refine aD hF rfl (fun h19 hF=>?_) (fun h19 hF=>?_)
 ·refine go ?_ ?_
  refine aK (go ?_ ?_)
  refine aF (fK (is:=[]) (xs:=[]) (ps:=[]) rfl tyB42q rfl rfl trivial rfl) trivial ?_
  refine aE rfl tyZ42q (fun b20=>?_)
  refine go ?_ ?_
  refine aK (bE (fun H E=>∃(x25:Rat),oP K x12 (iX K a0 a1 a2 k) x25=some ol13∧H=[⟨some b20,1,42,4,1,(eQ x25)⟩]∧E=[(0,.vc (pS (pC cQ) a0)),(1,.vc (pS cQ a1)),(2,.vc (pS cQ a2)),(8,.vc (pP (some b20) 0)),(31,.vc (pI .i64 (a1.length:Int))),(32,.vc (pI .i64 x12))]) ?_ (fun Jj27=>?_))
  ·rintro _ _ ⟨x25,hF,rfl,rfl⟩
   unfold oP at hF
   obtain⟨v28,h29,hF⟩:=aZ hF fT
   refine go ?_ ?_
   refine aD hF rfl (fun h30 hF=>?_) (fun h30 hF=>?_)
   ·exact bV
   obtain⟨v31,h32,hF⟩:=aR hF
   refine go ?_ ?_
   exact aG (fun a w hh=>⟨v31,hF,jY [] hh⟩)
  obtain⟨x25',hL,hRl26⟩:=aR hF
  refine fO (fun k a w=>∃(x23:Rat),∃(x24:Int),lR K a0 a1 a2 x12 k x23 x24=some x25'∧hs _ [⟨some b20,1,42,4,1,(eQ x23)⟩] [(0,.vc (pS (pC cQ) a0)),(1,.vc (pS cQ a1)),(2,.vc (pS cQ a2)),(7,.vc (pI .i64 x12)),(8,.vc (pP (some b20) 0)),(31,.vc (pI .i64 (a1.length:Int))),(32,.vc (pI .i64 x12)),(37,.vc (pI .i64 (a1.length:Int))),(38,.vc (pI .i64 x24))] a w) K (fun a w ⟨_,_,hF,_⟩=>by cases hF) (fun k a w ⟨x23,x24,hF,hh⟩=>fN ?_ hh) (fun a w hh=>⟨0,0,hL,jY [0] hh⟩)
  rw [lR.eq_2] at hF
  refine go ?_ ?_
  refine aD hF rfl (fun h33 hF=>?_) (fun h33 hF=>?_)
  ·refine go ?_ ?_
   refine aK ?_
   obtain⟨v36,h37,v38,h39,v40,h41,hF⟩:=bn3 hF
   obtain⟨v42,h43,hF⟩:=aZ hF vS
   obtain⟨v44,h45,hF⟩:=aZ hF aAi
   refine go ?_ ?_
   refine dr [0,0,0,6,14,0,0,96,224,0,992,2016,4094,8191,16383] 14 1 ?_ (fun bs35 G34=>?_)
   obtain⟨v46,h47,hF⟩:=aR hF
   refine go ?_ ?_
   exact aG (fun a w hh=>⟨v44,v46,hF,jY [0] hh⟩)
  refine bO ?_
  obtain rfl:=jN hF
  exact rD Jj27 ⟨x23,hRl26,rfl,rfl⟩ [0]
 refine bO ?_
 obtain rfl:=jN hF
 exact rD Jj14 ⟨hRl13,rfl,rfl⟩ []
def eE (K:Nat):Option Bool:=
 (cW K [2,1]).bind fun v1=>(cW K [1,2]).bind fun v3=>(cW K [(-5),(-6)]).bind fun v5=>(bU K [v1,v3] v5 9).bind fun v7=>(cW K [(-4),1]).bind fun v10=>(bU K [v1,v3] v10 9).bind fun v12=>(cW K [0]).bind fun v15=>(cW K [(-1)]).bind fun v17=>(bU K [v15] v17 9).bind fun v19=>(cW K [(-5),(-6)]).bind fun v22=>(rZ K [v1,v3] v22).bind fun v24=>bif(v7.2 != 0) then(some false) else(bif(v12.2 != 0) then(some false) else(bif(v19.2 != 15) then(some false) else(bif(v24.2 != 6) then(some false) else((cW K [(-1)]).bind fun v30=>(cW K [1]).bind fun v32=>(rG K [v15] v30 v32).bind fun v34=>bif(!v34) then(some false) else((yN 4 3).bind fun v37=>(yN 7 3).bind fun v39=>(eO K v7.1.z [v37,v39]).bind fun v43=>bif v43 then((cW K [2,0]).bind fun v46=>(eO K v12.1.z v46).bind fun v48=>bif v48 then((cW K [0,3]).bind fun v51=>(eO K v12.1.w v51).bind fun v53=>bif v53 then((cW K [(-5),(-6)]).bind fun v56=>(sT K [v1,v3] v56 [v37,v39]).bind fun v58=>some v58) else(some false)) else(some false)) else(some false))))))
theorem jS {K:Nat} {r:Bool} (hF:eE K=some r):Ct Tryz.prog 18 [] (.vc (pB r)):=by
 unfold eE at hF
 refine aB Tryz.func18 rfl (by kernel_rfl) Tryz.ntmps18 rfl (fun w0 M0=>?_)
 refine go ?_ ?_
 refine aF (gO (C:=cI) (xs:=[.const (.int .i64 (2)),.const (.int .i64 (1))]) (ps:=[.vc (pI .i64 2),.vc (pI .i64 1)]) (zs:=[2,1]) rfl tyS22 rfl ⟨⟨trivial,rfl⟩,⟨trivial,rfl⟩,trivial⟩ rfl) ⟨oF _ _,oF _ _,trivial⟩ ?_
 obtain⟨v1,h2,hF⟩:=aZ hF dO
 refine aF (bJ rfl h2 rfl) zU1 ?_
 refine aF (gO (C:=cI) (xs:=[.const (.int .i64 (1)),.const (.int .i64 (2))]) (ps:=[.vc (pI .i64 1),.vc (pI .i64 2)]) (zs:=[1,2]) rfl tyS22 rfl ⟨⟨trivial,rfl⟩,⟨trivial,rfl⟩,trivial⟩ rfl) ⟨oF _ _,oF _ _,trivial⟩ ?_
 obtain⟨v3,h4,hF⟩:=aZ hF dO
 refine aF (bJ rfl h4 rfl) zU1 ?_
 refine aF (gO (C:=(pC cQ)) (xs:=[.tmp 13,.tmp 15]) (ps:=[.vc (pS cQ v1),.vc (pS cQ v3)]) (zs:=[v1,v3]) rfl tyS23 rfl ⟨⟨trivial,rfl⟩,⟨trivial,rfl⟩,trivial⟩ rfl) zU2 ?_
 refine go ?_ ?_
 refine aF (gO (C:=cI) (xs:=[.const (.int .i64 (-5)),.const (.int .i64 (-6))]) (ps:=[.vc (pI .i64 (-5)),.vc (pI .i64 (-6))]) (zs:=[(-5),(-6)]) rfl tyS22 rfl ⟨⟨trivial,rfl⟩,⟨trivial,rfl⟩,trivial⟩ rfl) ⟨oF _ _,oF _ _,trivial⟩ ?_
 obtain⟨v5,h6,hF⟩:=aZ hF dO
 obtain⟨v7,h8,hF⟩:=aZ hF fB
 refine go ?_ ?_
 refine aE rfl tyZ30q (fun b9=>?_)
 refine go ?_ ?_
 refine aF (gO (C:=cI) (xs:=[.const (.int .i64 (-4)),.const (.int .i64 (1))]) (ps:=[.vc (pI .i64 (-4)),.vc (pI .i64 1)]) (zs:=[(-4),1]) rfl tyS22 rfl ⟨⟨trivial,rfl⟩,⟨trivial,rfl⟩,trivial⟩ rfl) ⟨oF _ _,oF _ _,trivial⟩ ?_
 obtain⟨v10,h11,hF⟩:=aZ hF dO
 obtain⟨v12,h13,hF⟩:=aZ hF fB
 refine go ?_ ?_
 refine aE rfl tyZ30q (fun b14=>?_)
 refine go ?_ ?_
 refine aF (gO (C:=cI) (xs:=[.const (.int .i64 (0))]) (ps:=[.vc (pI .i64 0)]) (zs:=[0]) rfl tyS22 rfl ⟨⟨trivial,rfl⟩,trivial⟩ rfl) ⟨oF _ _,trivial⟩ ?_
 obtain⟨v15,h16,hF⟩:=aZ hF dO
 refine aF (bJ rfl h16 rfl) zU1 ?_
 refine aF (gO (C:=(pC cQ)) (xs:=[.tmp 32]) (ps:=[.vc (pS cQ v15)]) (zs:=[v15]) rfl tyS23 rfl ⟨⟨trivial,rfl⟩,trivial⟩ rfl) zU1 ?_
 refine go ?_ ?_
 refine aF (gO (C:=cI) (xs:=[.const (.int .i64 (-1))]) (ps:=[.vc (pI .i64 (-1))]) (zs:=[(-1)]) rfl tyS22 rfl ⟨⟨trivial,rfl⟩,trivial⟩ rfl) ⟨oF _ _,trivial⟩ ?_
 obtain⟨v17,h18,hF⟩:=aZ hF dO
 obtain⟨v19,h20,hF⟩:=aZ hF fB
 refine go ?_ ?_
 refine aE rfl tyZ30q (fun b21=>?_)
 refine go ?_ ?_
 refine aF (gO (C:=cI) (xs:=[.const (.int .i64 (-5)),.const (.int .i64 (-6))]) (ps:=[.vc (pI .i64 (-5)),.vc (pI .i64 (-6))]) (zs:=[(-5),(-6)]) rfl tyS22 rfl ⟨⟨trivial,rfl⟩,⟨trivial,rfl⟩,trivial⟩ rfl) ⟨oF _ _,oF _ _,trivial⟩ ?_
 obtain⟨v22,h23,hF⟩:=aZ hF dO
 obtain⟨v24,h25,hF⟩:=aZ hF y3
 refine go ?_ ?_
 refine dG hF (fun h26 hF=>?_) (fun h26 hF=>?_)
 ·refine go ?_ ?_
  refine iR rfl ?_
  exact bV
 refine go ?_ ?_
 refine dG hF (fun h27 hF=>?_) (fun h27 hF=>?_)
 ·refine go ?_ ?_
  refine iR rfl ?_
  exact bV
 refine go ?_ ?_
 refine dG hF (fun h28 hF=>?_) (fun h28 hF=>?_)
 ·refine go ?_ ?_
  refine iR rfl ?_
  exact bV
 refine go ?_ ?_
 refine dG hF (fun h29 hF=>?_) (fun h29 hF=>?_)
 ·refine go ?_ ?_
  refine iR rfl ?_
  exact bV
 refine t5 (aP (.inl rfl)) zU1 ?_
 refine t5 (gO (C:=cI) (xs:=[.const (.int .i64 (-1))]) (ps:=[.vc (pI .i64 (-1))]) (zs:=[(-1)]) rfl tyS22 rfl ⟨⟨trivial,rfl⟩,trivial⟩ rfl) ⟨oF _ _,trivial⟩ ?_
 obtain⟨v30,h31,hF⟩:=aZ hF dO
 refine t5 (bJ rfl h31 rfl) zU1 ?_
 refine t5 (gO (C:=cI) (xs:=[.const (.int .i64 (1))]) (ps:=[.vc (pI .i64 1)]) (zs:=[1]) rfl tyS22 rfl ⟨⟨trivial,rfl⟩,trivial⟩ rfl) ⟨oF _ _,trivial⟩ ?_
 obtain⟨v32,h33,hF⟩:=aZ hF dO
 obtain⟨v34,h35,hF⟩:=aZ hF yO
 refine go ?_ ?_
 refine aD hF rfl (fun h36 hF=>?_) (fun h36 hF=>?_)
 ·exact bV
 obtain⟨v37,h38,hF⟩:=aZ hF dP
 obtain⟨v39,h40,hF⟩:=aZ hF dP
 refine go ?_ ?_
 refine aF (gO (C:=cQ) (xs:=[.tmp 71,.tmp 72]) (ps:=[.va (eQ v37),.va (eQ v39)]) (zs:=[v37,v39]) rfl tyS24 rfl ⟨⟨trivial,rfl⟩,⟨trivial,rfl⟩,trivial⟩ rfl) zU2 ?_
 obtain⟨v43,h44,hF⟩:=aZ hF mQ
 refine go ?_ ?_
 rcases Bool.eq_false_or_eq_true v43 with h45|h45
 ·have hF:=rA h45 hF
  obtain⟨v46,h47,hF⟩:=aZ hF dO
  obtain⟨v48,h49,hF⟩:=aZ hF mQ
  rcases Bool.eq_false_or_eq_true v48 with h50|h50
  ·have hF:=rA h50 hF
   obtain⟨v51,h52,hF⟩:=aZ hF dO
   obtain⟨v53,h54,hF⟩:=aZ hF mQ
   rcases Bool.eq_false_or_eq_true v53 with h55|h55
   ·have hF:=rA h55 hF
    obtain⟨v56,h57,hF⟩:=aZ hF dO
    obtain⟨v58,h59,hF⟩:=aZ hF aAc
    refine jI (0::1::0::7::15::31::63::31::159::511::1023::2047::4095::8191::4095::20479::65535::131071::262143::524287::524287::1572863::524287::8388607::16777215::33554431::[]) 26 0 (.v (.vc (pP (some b9) 0))::.v (.vc (pS cQ v7.1.z))::.v (.vc (pS cQ [v37,v39]))::.v (.vc (pB v43))::.v (.vc (pB true))::.v (.vc (pP (some b14) 0))::.v (.vc (pS cQ v12.1.z))::.v (.vc (pS cI [2,0]))::.v (.vc (pS cQ v46))::.v (.vc (pB v48))::.v (.vc (pB v48))::.v (.vc (pB true))::.v (.vc (pP (some b14) 1))::.v (.vc (pS cQ v12.1.w))::.v (.vc (pS cI [0,3]))::.v (.vc (pS cQ v51))::.v (.vc (pB v53))::.v (.vc (pB v53))::.v (.vc (pB true))::.v (.vc (pS (pC cQ) [v1,v3]))::.v (.vc (pS cI [(-5),(-6)]))::.v (.vc (pS cQ v56))::.v (.vc (pS cQ [v37,v39]))::.v (.vc (pB v58))::.v (.vc (pB v58))::.v (.vc (pB v58))::[]) bB ⟨d0 (iF (off:=0) (k:=0) rfl tyF30_0) zU1,d0 (fQ 2 1 rfl rfl rfl rfl (.one tyO24)) zU1,d0 (aP (.inl rfl)) zU1,d0 (bJ rfl h44 rfl) zU2,d0 (kZ (aP (.inl rfl)) h45) zU1,g0 (iF (off:=0) (k:=0) rfl tyF30_0) zU1,g0 (fQ 1 1 rfl rfl rfl rfl (.one tyO24)) zU1,g0 (gO (C:=cI) (xs:=[.const (.int .i64 (2)),.const (.int .i64 (0))]) (ps:=[.vc (pI .i64 2),.vc (pI .i64 0)]) (zs:=[2,0]) rfl tyS22 rfl ⟨⟨trivial,rfl⟩,⟨trivial,rfl⟩,trivial⟩ rfl) ⟨oF _ _,oF _ _,trivial⟩,g0 (bJ rfl h47 rfl) zU1,g0 (bJ rfl h49 rfl) zU2,d0 (tK rfl) zU2,d0 (kZ (aP (.inl rfl)) h50) zU1,g0 (iF (off:=0) (k:=1) rfl tyF30_1) zU1,g0 (fQ 1 1 rfl rfl rfl rfl (.one tyO24)) zU1,g0 (gO (C:=cI) (xs:=[.const (.int .i64 (0)),.const (.int .i64 (3))]) (ps:=[.vc (pI .i64 0),.vc (pI .i64 3)]) (zs:=[0,3]) rfl tyS22 rfl ⟨⟨trivial,rfl⟩,⟨trivial,rfl⟩,trivial⟩ rfl) ⟨oF _ _,oF _ _,trivial⟩,g0 (bJ rfl h52 rfl) zU1,g0 (bJ rfl h54 rfl) zU2,d0 (tK rfl) zU2,d0 (kZ (aP (.inl rfl)) h55) zU1,g0 (aP (.inl rfl)) zU1,g0 (gO (C:=cI) (xs:=[.const (.int .i64 (-5)),.const (.int .i64 (-6))]) (ps:=[.vc (pI .i64 (-5)),.vc (pI .i64 (-6))]) (zs:=[(-5),(-6)]) rfl tyS22 rfl ⟨⟨trivial,rfl⟩,⟨trivial,rfl⟩,trivial⟩ rfl) ⟨oF _ _,oF _ _,trivial⟩,g0 (bJ rfl h57 rfl) zU1,g0 (aP (.inl rfl)) zU1,g0 (bJ rfl h59 rfl) ⟨rfl,rfl,rfl,trivial⟩,d0 (tK rfl) zU2,d0 (aP (.inr rfl)) zU1,trivial⟩ (fun bs42 G41=>?_)
    refine aV (aH ?_)
    exact bV
   have hF:=pD h55 hF
   refine jI (0::1::0::7::15::31::63::31::159::511::1023::2047::4095::8191::4095::20479::65535::131071::262143::524287::524287::1572863::524287::8388607::16777215::33554431::[]) 26 0 (.v (.vc (pP (some b9) 0))::.v (.vc (pS cQ v7.1.z))::.v (.vc (pS cQ [v37,v39]))::.v (.vc (pB v43))::.v (.vc (pB true))::.v (.vc (pP (some b14) 0))::.v (.vc (pS cQ v12.1.z))::.v (.vc (pS cI [2,0]))::.v (.vc (pS cQ v46))::.v (.vc (pB v48))::.v (.vc (pB v48))::.v (.vc (pB true))::.v (.vc (pP (some b14) 1))::.v (.vc (pS cQ v12.1.w))::.v (.vc (pS cI [0,3]))::.v (.vc (pS cQ v51))::.v (.vc (pB v53))::.v (.vc (pB v53))::.v (.vc (pB false))::.v .un::.v .un::.v .un::.v .un::.v .un::.v (.vc (pB false))::.v (.vc (pB false))::[]) bB ⟨d0 (iF (off:=0) (k:=0) rfl tyF30_0) zU1,d0 (fQ 2 1 rfl rfl rfl rfl (.one tyO24)) zU1,d0 (aP (.inl rfl)) zU1,d0 (bJ rfl h44 rfl) zU2,d0 (kZ (aP (.inl rfl)) h45) zU1,g0 (iF (off:=0) (k:=0) rfl tyF30_0) zU1,g0 (fQ 1 1 rfl rfl rfl rfl (.one tyO24)) zU1,g0 (gO (C:=cI) (xs:=[.const (.int .i64 (2)),.const (.int .i64 (0))]) (ps:=[.vc (pI .i64 2),.vc (pI .i64 0)]) (zs:=[2,0]) rfl tyS22 rfl ⟨⟨trivial,rfl⟩,⟨trivial,rfl⟩,trivial⟩ rfl) ⟨oF _ _,oF _ _,trivial⟩,g0 (bJ rfl h47 rfl) zU1,g0 (bJ rfl h49 rfl) zU2,d0 (tK rfl) zU2,d0 (kZ (aP (.inl rfl)) h50) zU1,g0 (iF (off:=0) (k:=1) rfl tyF30_1) zU1,g0 (fQ 1 1 rfl rfl rfl rfl (.one tyO24)) zU1,g0 (gO (C:=cI) (xs:=[.const (.int .i64 (0)),.const (.int .i64 (3))]) (ps:=[.vc (pI .i64 0),.vc (pI .i64 3)]) (zs:=[0,3]) rfl tyS22 rfl ⟨⟨trivial,rfl⟩,⟨trivial,rfl⟩,trivial⟩ rfl) ⟨oF _ _,oF _ _,trivial⟩,g0 (bJ rfl h52 rfl) zU1,g0 (bJ rfl h54 rfl) zU2,d0 (tK rfl) zU2,d0 (kZ (aP (.inl rfl)) h55) zU1,⟨rfl,.skipN⟩,⟨rfl,.skipN⟩,⟨rfl,.skipN⟩,⟨rfl,.skipN⟩,⟨rfl,.skipN⟩,d0 (yA rfl) ⟨rfl,k_B _,trivial⟩,d0 (aP (.inr rfl)) zU1,trivial⟩ (fun bs42 G41=>?_)
   refine aV (aH ?_)
   exact bV
  have hF:=pD h50 hF
  refine jI (0::1::0::7::15::31::63::31::159::511::1023::2047::4095::8191::4095::20479::65535::131071::262143::524287::524287::1572863::524287::8388607::16777215::33554431::[]) 26 0 (.v (.vc (pP (some b9) 0))::.v (.vc (pS cQ v7.1.z))::.v (.vc (pS cQ [v37,v39]))::.v (.vc (pB v43))::.v (.vc (pB true))::.v (.vc (pP (some b14) 0))::.v (.vc (pS cQ v12.1.z))::.v (.vc (pS cI [2,0]))::.v (.vc (pS cQ v46))::.v (.vc (pB v48))::.v (.vc (pB v48))::.v (.vc (pB false))::.v .un::.v .un::.v .un::.v .un::.v .un::.v (.vc (pB false))::.v (.vc (pB false))::.v .un::.v .un::.v .un::.v .un::.v .un::.v (.vc (pB false))::.v (.vc (pB false))::[]) bB ⟨d0 (iF (off:=0) (k:=0) rfl tyF30_0) zU1,d0 (fQ 2 1 rfl rfl rfl rfl (.one tyO24)) zU1,d0 (aP (.inl rfl)) zU1,d0 (bJ rfl h44 rfl) zU2,d0 (kZ (aP (.inl rfl)) h45) zU1,g0 (iF (off:=0) (k:=0) rfl tyF30_0) zU1,g0 (fQ 1 1 rfl rfl rfl rfl (.one tyO24)) zU1,g0 (gO (C:=cI) (xs:=[.const (.int .i64 (2)),.const (.int .i64 (0))]) (ps:=[.vc (pI .i64 2),.vc (pI .i64 0)]) (zs:=[2,0]) rfl tyS22 rfl ⟨⟨trivial,rfl⟩,⟨trivial,rfl⟩,trivial⟩ rfl) ⟨oF _ _,oF _ _,trivial⟩,g0 (bJ rfl h47 rfl) zU1,g0 (bJ rfl h49 rfl) zU2,d0 (tK rfl) zU2,d0 (kZ (aP (.inl rfl)) h50) zU1,⟨rfl,.skipN⟩,⟨rfl,.skipN⟩,⟨rfl,.skipN⟩,⟨rfl,.skipN⟩,⟨rfl,.skipN⟩,d0 (yA rfl) ⟨rfl,k_B _,trivial⟩,d0 (aP (.inl rfl)) zU1,⟨rfl,.skipN⟩,⟨rfl,.skipN⟩,⟨rfl,.skipN⟩,⟨rfl,.skipN⟩,⟨rfl,.skipN⟩,d0 (yA rfl) ⟨rfl,k_B _,trivial⟩,d0 (aP (.inr rfl)) zU1,trivial⟩ (fun bs42 G41=>?_)
  refine aV (aH ?_)
  exact bV
 have hF:=pD h45 hF
 refine drb (0::1::0::7::15::31::63::31::159::511::1023::2047::4095::8191::4095::20479::65535::131071::262143::524287::524287::1572863::524287::8388607::16777215::33554431::[]) 26 0 ?_ (fun bs42 G41=>?_)
 refine aV (aH ?_)
 exact bV
def gS (K:Nat) (a1:Int) (v1:(List (List Rat))×(List Rat)) (x7:Int):Option Bool:=
 (bU K v1.1 v1.2 x7).bind fun v10=>(gY a1 1000).bind fun v13=>(aO (x7+v13)).bind fun v15=>(bU K v1.1 v1.2 v15).bind fun v17=>bif(v10.2 != v17.2) then(some false) else(bif(v10.2 != 0) then(bif(v10.2 != 15) then(some false) else(bif(v10.1.pivots != v17.1.pivots) then(some false) else((eO K v10.1.z v17.1.z).bind fun v24=>bif(!v24) then(some false) else(bif(v10.2 != 0) then((eE K).bind fun v28=>some v28) else(bif(v10.1.pivots==0) then((eE K).bind fun v31=>some v31) else((bU K v1.1 v1.2 v10.1.pivots).bind fun v33=>(aO (v10.1.pivots-1)).bind fun v36=>(bU K v1.1 v1.2 v36).bind fun v38=>bif(v33.2==0) then(bif(v38.2==16) then((eE K).bind fun v43=>some v43) else(some false)) else(some false))))))) else(bif(v10.1.pivots != v17.1.pivots) then(some false) else((eO K v10.1.z v17.1.z).bind fun v46=>bif(!v46) then(some false) else(bif(v10.2 != 0) then((eE K).bind fun v50=>some v50) else(bif(v10.1.pivots==0) then((eE K).bind fun v53=>some v53) else((bU K v1.1 v1.2 v10.1.pivots).bind fun v55=>(aO (v10.1.pivots-1)).bind fun v58=>(bU K v1.1 v1.2 v58).bind fun v60=>bif(v55.2==0) then(bif(v60.2==16) then((eE K).bind fun v65=>some v65) else(some false)) else(some false)))))))
def cF (K:Nat) (v1:(List (List Rat))×(List Rat)):Nat→Int→Int→Option Int
 |0,_,_=>none
 |k+1,x5,x6=>bif(decide (x6<(v1.2.length:Int))) then((aO (3*x5)).bind fun v68=>(aO (x6+1)).bind fun v70=>cF K v1 k v68 v70) else(some x5)
def jE (K:Nat) (a0:List Int) (a1:Int):Option Bool:=
 (iU K a0 6).bind fun v1=>(cF K v1 K 1 0).bind fun x7=>gS K a1 v1 x7
theorem uJ {K:Nat} {a0:List Int} {a1:Int} {r:Bool} (hF:jE K a0 a1=some r):Ct Tryz.prog 5 [.vc (pS cI a0),.vc (pI .i64 a1)] (.vc (pB r)):=by
 unfold jE at hF
 refine aB Tryz.func5 rfl (by kernel_rfl) Tryz.ntmps5 rfl (fun w0 M0=>?_)
 obtain⟨v1,h2,hF⟩:=aZ hF xY
 refine go ?_ ?_
 refine aK (bE (fun H E=>∃(x7:Int),gS K a1 v1 x7=some r∧H=[]∧E=[(1,.vc (pI .i64 a1)),(5,.vc (pS (pC cQ) v1.1)),(6,.vc (pS cQ v1.2)),(7,.vc (pI .i64 x7))]) ?_ (fun Jj9=>?_))
 ·rintro _ _ ⟨x7,hF,rfl,rfl⟩
  unfold gS at hF
  obtain⟨v10,h11,hF⟩:=aZ hF fB
  refine go ?_ ?_
  refine aE rfl tyZ30q (fun b12=>?_)
  obtain⟨v13,h14,hF⟩:=aZ hF qL
  obtain⟨v15,h16,hF⟩:=aR hF
  obtain⟨v17,h18,hF⟩:=aZ hF fB
  refine go ?_ ?_
  refine aE rfl tyZ30q (fun b19=>?_)
  refine go ?_ ?_
  refine dG hF (fun h20 hF=>?_) (fun h20 hF=>?_)
  ·refine go ?_ ?_
   refine iR rfl ?_
   exact bV
  refine go ?_ ?_
  refine dG hF (fun h21 hF=>?_) (fun h21 hF=>?_)
  ·refine go ?_ ?_
   refine dG hF (fun h22 hF=>?_) (fun h22 hF=>?_)
   ·refine go ?_ ?_
    refine iR rfl ?_
    exact bV
   refine go ?_ ?_
   refine dG hF (fun h23 hF=>?_) (fun h23 hF=>?_)
   ·refine go ?_ ?_
    refine iR rfl ?_
    exact bV
   obtain⟨v24,h25,hF⟩:=aZ hF mQ
   refine go ?_ ?_
   refine aD hF rfl (fun h26 hF=>?_) (fun h26 hF=>?_)
   ·exact bV
   refine go ?_ ?_
   refine dG hF (fun h27 hF=>?_) (fun h27 hF=>?_)
   ·refine go ?_ ?_
    refine iR rfl ?_
    obtain⟨v28,h29,hF⟩:=aZ hF jS
    exact bV
   refine go ?_ ?_
   refine aD hF rfl (fun h30 hF=>?_) (fun h30 hF=>?_)
   ·obtain⟨v31,h32,hF⟩:=aZ hF jS
    exact bV
   obtain⟨v33,h34,hF⟩:=aZ hF fB
   refine go ?_ ?_
   refine aE rfl tyZ30q (fun b35=>?_)
   obtain⟨v36,h37,hF⟩:=aR hF
   obtain⟨v38,h39,hF⟩:=aZ hF fB
   refine go ?_ ?_
   refine aE rfl tyZ30q (fun b40=>?_)
   refine go ?_ ?_
   refine dG hF (fun h41 hF=>?_) (fun h41 hF=>?_)
   ·refine go ?_ ?_
    refine dG hF (fun h42 hF=>?_) (fun h42 hF=>?_)
    ·obtain⟨v43,h44,hF⟩:=aZ hF jS
     exact bV
    exact bV
   exact bV
  refine go ?_ ?_
  refine dG hF (fun h45 hF=>?_) (fun h45 hF=>?_)
  ·refine go ?_ ?_
   refine iR rfl ?_
   exact bV
  obtain⟨v46,h47,hF⟩:=aZ hF mQ
  refine go ?_ ?_
  refine aD hF rfl (fun h48 hF=>?_) (fun h48 hF=>?_)
  ·exact bV
  refine go ?_ ?_
  refine dG hF (fun h49 hF=>?_) (fun h49 hF=>?_)
  ·refine go ?_ ?_
   refine iR rfl ?_
   obtain⟨v50,h51,hF⟩:=aZ hF jS
   exact bV
  refine go ?_ ?_
  refine aD hF rfl (fun h52 hF=>?_) (fun h52 hF=>?_)
  ·obtain⟨v53,h54,hF⟩:=aZ hF jS
   exact bV
  obtain⟨v55,h56,hF⟩:=aZ hF fB
  refine go ?_ ?_
  refine aE rfl tyZ30q (fun b57=>?_)
  obtain⟨v58,h59,hF⟩:=aR hF
  obtain⟨v60,h61,hF⟩:=aZ hF fB
  refine go ?_ ?_
  refine aE rfl tyZ30q (fun b62=>?_)
  refine go ?_ ?_
  refine dG hF (fun h63 hF=>?_) (fun h63 hF=>?_)
  ·refine go ?_ ?_
   refine dG hF (fun h64 hF=>?_) (fun h64 hF=>?_)
   ·obtain⟨v65,h66,hF⟩:=aZ hF jS
    exact bV
   exact bV
  exact bV
 obtain⟨x7',hL,hRl8⟩:=aR hF
 refine fO (fun k a w=>∃(x5:Int),∃(x6:Int),cF K v1 k x5 x6=some x7'∧hs _ [] [(1,.vc (pI .i64 a1)),(5,.vc (pS (pC cQ) v1.1)),(6,.vc (pS cQ v1.2)),(7,.vc (pI .i64 x5)),(8,.vc (pI .i64 x6))] a w) K (fun a w ⟨_,_,hF,_⟩=>by cases hF) (fun k a w ⟨x5,x6,hF,hh⟩=>fN ?_ hh) (fun a w hh=>⟨1,0,hL,jY [] hh⟩)
 rw [cF.eq_2] at hF
 refine go ?_ ?_
 refine aD hF rfl (fun h67 hF=>?_) (fun h67 hF=>?_)
 ·refine go ?_ ?_
  refine aK ?_
  obtain⟨v68,h69,v70,h71,hF⟩:=sS hF
  refine go ?_ ?_
  exact aG (fun a w hh=>⟨v68,v70,hF,jY [] hh⟩)
 refine bO ?_
 obtain rfl:=jN hF
 exact rD Jj9 ⟨x5,hRl8,rfl,rfl⟩ []
def t8 (K:Nat):Option Bool:=
 some true
def k7 (K:Nat) (a0:List Rat):Nat→Int→Option (LR Bool Unit)
 |0,_=>none
 |k+1,x2=>bif(decide (x2<(a0.length:Int))) then((bP a0 x2).bind fun v6=>(aIe v6).bind fun v8=>bif(!v8) then(some (.ret false)) else((aO (x2+1)).bind fun v11=>k7 K a0 k v11)) else(some (.go ()))
def pQ (K:Nat) (a0:List Rat):Option Bool:=
 (k7 K a0 K 0).bind fun o=>match o with| .ret r=>some r| .go _=>t8 K
def tG (K:Nat):Option Bool:=
 some true
def kK (K:Nat) (a0:List (List Rat)) (a1:List Rat):Nat→Int→Option (LR Bool Unit)
 |0,_=>none
 |k+1,x7=>bif(decide (x7<(a0.length:Int))) then((bP a0 x7).bind fun v11=>bif((v11.length:Int) != (a1.length:Int)) then(some (.ret false)) else((bP a0 x7).bind fun v14=>(pQ K v14).bind fun v16=>bif(!v16) then(some (.ret false)) else((aO (x7+1)).bind fun v19=>kK K a0 a1 k v19))) else(some (.go ()))
def rY (K:Nat) (a0:List (List Rat)) (a1:List Rat):Option Bool:=
 bif((a0.length:Int) != (a1.length:Int)) then(some false) else(bif(decide (32<(a1.length:Int))) then(some false) else((pQ K a1).bind fun v3=>bif(!v3) then(some false) else((kK K a0 a1 K 0).bind fun o=>match o with| .ret r=>some r| .go _=>tG K)))
def rV (K:Nat):Option Bool:=
 some false
def iI (K:Nat) (a0:List Rat):Nat→Int→Option (LR Bool Unit)
 |0,_=>none
 |k+1,x2=>bif(decide (x2<(a0.length:Int))) then((bP a0 x2).bind fun v6=>(wD v6).bind fun v8=>bif(decide (v8<0)) then(some (.ret true)) else((aO (x2+1)).bind fun v11=>iI K a0 k v11)) else(some (.go ()))
def pW (K:Nat) (a0:List Rat):Option Bool:=
 (iI K a0 K 0).bind fun o=>match o with| .ret r=>some r| .go _=>rV K
def s8 (K:Nat):Option Bool:=
 some false
def gR (K:Nat) (a0:List Rat) (a1:List Rat):Nat→Int→Option (LR Bool Unit)
 |0,_=>none
 |k+1,x2=>bif(decide (x2<(a0.length:Int))) then(bif(decide (x2<(a1.length:Int))) then((bP a0 x2).bind fun v9=>(bP a1 x2).bind fun v11=>(aHS v9 v11).bind fun v13=>bif(v13 != 0) then(some (.ret (decide (v13<0)))) else((aO (x2+1)).bind fun v16=>gR K a0 a1 k v16)) else(some (.go ()))) else(some (.go ()))
def lV (K:Nat) (a0:List Rat) (a1:List Rat):Option Bool:=
 (gR K a0 a1 K 0).bind fun o=>match o with| .ret r=>some r| .go _=>s8 K
def t0 (K:Nat) (x29:List Rat):Option (List Rat):=
 some x29
def k6 (K:Nat) (a0:List Rat) (a1:Int) (a2:Rat):Nat→(List Rat)→Int→Option (List Rat)
 |0,_,_=>none
 |k+1,x22,x28=>bif(decide (x28<a1)) then((bP a0 x28).bind fun v40=>(aCe v40 a2).bind fun v42=>(sK x22 [v42]).bind fun x44=>(aO (x28+1)).bind fun v51=>k6 K a0 a1 a2 k x44 v51) else(some x22)
def mA (K:Nat) (a0:List Rat) (a1:Int) (a2:Rat):Option (List Rat):=
 (aO (2*a1)).bind fun v4=>(aO (v4+1)).bind fun v6=>(bP a0 v6).bind fun v8=>(aCe v8 a2).bind fun v10=>(k6 K a0 a1 a2 K [v10] 0).bind fun x29=>t0 K x29
def tC (K:Nat) (x41:List (List Rat)):Option (List (List Rat)):=
 some x41
def tA (K:Nat) (x34:List (List Rat)) (x40:Int) (recl47:(List (List Rat))→Int→Option (List (List Rat))) (x76:List Rat):Option (List (List Rat)):=
 (sK x34 [x76]).bind fun x84=>(aO (x40+1)).bind fun v91=>recl47 x84 v91
def jU (K:Nat) (a0:List (List Rat)) (a2:Int) (x17:List Rat) (x40:Int):Nat→(List Rat)→Int→Option (List Rat)
 |0,_,_=>none
 |k+1,x69,x75=>bif(decide (x75<(x17.length:Int))) then((bP a0 x40).bind fun v96=>(bP v96 x75).bind fun v98=>(bP a0 x40).bind fun v100=>(bP v100 a2).bind fun v102=>(bP x17 x75).bind fun v104=>(aCc v102 v104).bind fun v106=>(aEj v98 v106).bind fun v108=>(sK x69 [v108]).bind fun x110=>(aO (x75+1)).bind fun v117=>jU K a0 a2 x17 x40 k x110 v117) else(some x69)
def fD (K:Nat) (a0:List (List Rat)) (a1:Int) (a2:Int) (x17:List Rat):Nat→(List (List Rat))→Int→Option (List (List Rat))
 |0,_,_=>none
 |k+1,x34,x40=>bif(decide (x40<(a0.length:Int))) then(bif(x40==a1) then((sK x34 [x17]).bind fun x51=>(aO (x40+1)).bind fun v58=>fD K a0 a1 a2 x17 k x51 v58) else((jU K a0 a2 x17 x40 K ([]:List Rat) 0).bind fun x76=>tA K x34 x40 (fD K a0 a1 a2 x17 k) x76)) else(some x34)
def s7 (K:Nat) (a0:List (List Rat)) (a1:Int) (a2:Int) (x17:List Rat):Option (List (List Rat)):=
 (fD K a0 a1 a2 x17 K ([]:List (List Rat)) 0).bind fun x41=>tC K x41
def jX (K:Nat) (a0:List (List Rat)) (a1:Int) (a2:Int):Nat→(List Rat)→Int→Option (List Rat)
 |0,_,_=>none
 |k+1,x10,x16=>(bP a0 a1).bind fun v119=>bif(decide (x16<(v119.length:Int))) then((bP a0 a1).bind fun v124=>(bP v124 x16).bind fun v126=>(bP a0 a1).bind fun v128=>(bP v128 a2).bind fun v130=>(aCe v126 v130).bind fun v132=>(sK x10 [v132]).bind fun x134=>(aO (x16+1)).bind fun v141=>jX K a0 a1 a2 k x134 v141) else(some x10)
def rW (K:Nat) (a0:List (List Rat)) (a1:Int) (a2:Int):Option (List (List Rat)):=
 (jX K a0 a1 a2 K ([]:List Rat) 0).bind fun x17=>s7 K a0 a1 a2 x17
def xB (K:Nat):Option (aM×Int):=
 none
def sG (K:Nat) (v95:Int) (x155:List Rat) (x161:List Rat):Option (LR (aM×Int) Unit):=
 some (.ret ((⟨x161,x155,v95⟩:aM),0))
def eR (K:Nat) (a1:List Rat) (v93:List (List Rat)) (x101:List Int):Nat→(List Rat)→(List Rat)→Int→Option ((List Rat)×(List Rat))
 |0,_,_,_=>none
 |k+1,x142,x148,x154=>bif(decide (x154<(a1.length:Int))) then((bP x101 x154).bind fun v170=>bif(decide (v170<(a1.length:Int))) then((bP x101 x154).bind fun v175=>(bP v93 x154).bind fun v177=>(aO (2*(a1.length:Int))).bind fun v179=>(aO (v179+1)).bind fun v181=>(bP v177 v181).bind fun v183=>(bP x142 v175).bind fun v185=>(oK x142 v175 v183).bind fun x187=>(aO (x154+1)).bind fun v190=>eR K a1 v93 x101 k x187 x148 v190) else((bP x101 x154).bind fun v194=>(aO (v194-(a1.length:Int))).bind fun v196=>(bP v93 x154).bind fun v198=>(aO (2*(a1.length:Int))).bind fun v200=>(aO (v200+1)).bind fun v202=>(bP v198 v202).bind fun v204=>(bP x148 v196).bind fun v206=>(oK x148 v196 v204).bind fun x208=>(aO (x154+1)).bind fun v211=>eR K a1 v93 x101 k x142 x208 v211)) else(some (x142,x148))
def sI (K:Nat) (v93:List (List Rat)) (v95:Int) (x101:List Int) (v217:Int) (recl90:(List Int)→(List (List Rat))→Int→Int→Int→Option (LR (aM×Int) Unit)) (x223:Int):Option (LR (aM×Int) Unit):=
 bif(decide (x223<0)) then(some (.ret ((⟨([]:List Rat),([]:List Rat),0⟩:aM),15))) else(recl90 x101 v93 x223 v217 v95)
def dL (K:Nat) (a1:List Rat) (v93:List (List Rat)) (v217:Int):Nat→Int→Int→Option Int
 |0,_,_=>none
 |k+1,x221,x222=>bif(decide (x222<(a1.length:Int))) then((bP v93 x222).bind fun v228=>(bP v228 v217).bind fun v230=>(wD v230).bind fun v232=>bif(decide (v232≤0)) then((aO (x222+1)).bind fun v235=>dL K a1 v93 v217 k x221 v235) else(bif(decide (x221<0)) then((aO (x222+1)).bind fun v240=>dL K a1 v93 v217 k x222 v240) else((bP v93 x222).bind fun v242=>(bP v93 x222).bind fun v244=>(bP v244 v217).bind fun v246=>(mA K v242 (a1.length:Int) v246).bind fun v248=>(bP v93 x221).bind fun v250=>(bP v93 x221).bind fun v252=>(bP v252 v217).bind fun v254=>(mA K v250 (a1.length:Int) v254).bind fun v256=>(lV K v248 v256).bind fun v258=>bif v258 then((aO (x222+1)).bind fun v261=>dL K a1 v93 v217 k x222 v261) else((aO (x222+1)).bind fun v263=>dL K a1 v93 v217 k x221 v263)))) else(some x221)
def jT (K:Nat) (a1:List Rat) (a2:Int):Nat→(List Int)→(List (List Rat))→Int→Int→Int→Option (LR (aM×Int) Unit)
 |0,_,_,_,_,_=>none
 |k+1,x80,x86,x87,x88,x89=>bif(x89==a2) then(some (.ret ((⟨([]:List Rat),([]:List Rat),0⟩:aM),16))) else((rW K x86 x87 x88).bind fun v93=>(aO (x89+1)).bind fun v95=>(bP x80 x87).bind fun v97=>(bP x80 x87).bind fun v99=>(oK x80 x87 x88).bind fun x101=>(aO (2*(a1.length:Int))).bind fun v104=>bif(v97==v104) then((wK (a1.length:Int) 0).bind fun x109=>(wK (a1.length:Int) 0).bind fun x113=>(eR K a1 v93 x101 K x113 x109 0).bind fun(x155,x161)=>sG K v95 x155 x161) else((aO (v97+(a1.length:Int))).bind fun v213=>(aO (2*(a1.length:Int))).bind fun v215=>(wV v213 v215).bind fun v217=>(dL K a1 v93 v217 K (-1) 0).bind fun x223=>sI K v93 v95 x101 v217 (jT K a1 a2 k) x223))
def tB (K:Nat) (a1:List Rat) (a2:Int) (x47:List Int) (x53:List (List Rat)) (x65:Int):Option (aM×Int):=
 (aO (2*(a1.length:Int))).bind fun v68=>(jT K a1 a2 K x47 x53 x65 v68 0).bind fun o=>match o with| .ret r=>some r| .go _=>xB K
def gP (K:Nat) (a1:List Rat) (v14:Rat) (x53:List (List Rat)):Nat→Int→Int→Option Int
 |0,_,_=>none
 |k+1,x63,x64=>bif(decide (x64<(a1.length:Int))) then((bP x53 x64).bind fun v268=>(mA K v268 (a1.length:Int) v14).bind fun v270=>(bP x53 x63).bind fun v272=>(mA K v272 (a1.length:Int) v14).bind fun v274=>(lV K v270 v274).bind fun v276=>bif v276 then((aO (x64+1)).bind fun v279=>gP K a1 v14 x53 k x64 v279) else((aO (x64+1)).bind fun v281=>gP K a1 v14 x53 k x63 v281)) else(some x63)
def tD (K:Nat) (a1:List Rat) (a2:Int) (v14:Rat) (x47:List Int) (x53:List (List Rat)):Option (aM×Int):=
 (gP K a1 v14 x53 K 0 1).bind fun x65=>tB K a1 a2 x47 x53 x65
def sH (K:Nat) (a1:List Rat) (x34:List Int) (x40:List (List Rat)) (x46:Int) (recl59:(List Int)→(List (List Rat))→Int→Option ((List Int)×(List (List Rat)))) (x312:List Rat):Option ((List Int)×(List (List Rat))):=
 (aO (2*(a1.length:Int))).bind fun v320=>(yN (-1) 1).bind fun v322=>(bP x312 v320).bind fun v324=>(oK x312 v320 v322).bind fun x326=>(aO (2*(a1.length:Int))).bind fun v329=>(aO (v329+1)).bind fun v331=>(bP a1 x46).bind fun v333=>(bP x326 v331).bind fun v335=>(oK x326 v331 v333).bind fun x337=>(sK x40 [x337]).bind fun x340=>(sK x34 [x46]).bind fun x347=>(aO (x46+1)).bind fun v354=>recl59 x347 x340 v354
def iY (K:Nat) (a0:List (List Rat)) (a1:List Rat) (x46:Int):Nat→(List Rat)→Int→Option (List Rat)
 |0,_,_=>none
 |k+1,x305,x311=>bif(decide (x311<(a1.length:Int))) then((aO ((a1.length:Int)+x311)).bind fun v357=>(bP a0 x46).bind fun v359=>(bP v359 x311).bind fun v361=>(aAo v361).bind fun v363=>(bP x305 v357).bind fun v365=>(oK x305 v357 v363).bind fun x367=>(aO (x311+1)).bind fun v370=>iY K a0 a1 x46 k x367 v370) else(some x305)
def jR (K:Nat) (a0:List (List Rat)) (a1:List Rat) (v14:Rat):Nat→(List Int)→(List (List Rat))→Int→Option ((List Int)×(List (List Rat)))
 |0,_,_,_=>none
 |k+1,x34,x40,x46=>bif(decide (x46<(a1.length:Int))) then((aO (2*(a1.length:Int))).bind fun v284=>(aO (v284+2)).bind fun v286=>(wK v286 0).bind fun x288=>(bP x288 x46).bind fun v293=>(oK x288 x46 v14).bind fun x295=>(iY K a0 a1 x46 K x295 0).bind fun x312=>sH K a1 x34 x40 x46 (jR K a0 a1 v14 k) x312) else(some (x34,x40))
def rX (K:Nat) (a0:List (List Rat)) (a1:List Rat) (a2:Int):Option (aM×Int):=
 (rY K a0 a1).bind fun v2=>bif(!v2) then(some ((⟨([]:List Rat),([]:List Rat),0⟩:aM),1)) else(bif(decide (a2<0)) then(some ((⟨([]:List Rat),([]:List Rat),0⟩:aM),1)) else((pW K a1).bind fun v6=>bif(!v6) then((wK (a1.length:Int) 0).bind fun x9=>some ((⟨x9,a1,0⟩:aM),0)) else((yN 1 1).bind fun v14=>(jR K a0 a1 v14 K ([]:List Int) ([]:List (List Rat)) 0).bind fun(x47,x53)=>tD K a1 a2 v14 x47 x53)))
end Go.Proofs.YtolfcbpgmfbgmaaGreat
set_option linter.unusedVariables false
set_option maxRecDepth 100000
namespace Go.Proofs.YtolfcbpgmfbgmaaGreat
end Go.Proofs.YtolfcbpgmfbgmaaGreat
set_option linter.unusedVariables false
namespace Go.Proofs.YtolfcbpgmfbgmaaGreat
theorem aBI {x m:Int} (hx:-9223372036854775808≤x∧x≤9223372036854775807) (hm:0<m):∃r,gY x m=some r∧0≤r∧r<m:=by
 unfold gY
 by_cases h:x<0
 ·refine⟨(-(x+1))%m,?_,Int.emod_nonneg _ (by omega),Int.emod_lt_of_pos _ hm⟩
  rw [dT h,cU,nA (by omega),oB,nA (by omega),oB,qI (by omega) hm,oB]
 ·refine⟨x%m,?_,Int.emod_nonneg _ (by omega),Int.emod_lt_of_pos _ hm⟩
  rw [dF h,cP,qI (by omega) hm,oB]
theorem aCg {l:List Int} (hl:yR l) (i:Int) {m:Int} (hm:0<m):∃r,bW l i m=some r∧0≤r∧r<m:=by
 unfold bW
 by_cases h:i<0
 ·exact⟨0,by rw [dT h,cU],by omega,hm⟩
 ·rw [dF h,cP]
  by_cases h2:(l.length:Int)≤i
  ·exact⟨0,by rw [dT h2,cU],by omega,hm⟩
  ·rw [dF h2,cP]
   obtain⟨n,rfl⟩:∃n:Nat,i=n:=⟨i.toNat,by omega⟩
   obtain⟨x,hx,_,hr⟩:=rdM (xs:=l) (i:=n) (by omega)
   obtain⟨r,h3,h4,h5⟩:=aBI (hl x hx) hm
   exact⟨r,by rw [hr,oB,h3,oB],h4,h5⟩
theorem aIp {a m:Int} (h:0≤a) (hm:0<m):0≤a%m∧a%m<m:=⟨Int.emod_nonneg _ (by omega),Int.emod_lt_of_pos _ hm⟩
def Bds (k:Nat) (xs:List Rat):Prop:=∀x∈xs,Bd k x
theorem Bds.snoc {k:Nat} {xs:List Rat} {x:Rat} (h:Bds k xs) (hx:Bd k x):Bds k (xs++[x]):=fun y hy=>by
 rcases List.mem_append.1 hy with h1|h1
 ·exact h y h1
 ·rw [List.mem_singleton.1 h1];exact hx
theorem apS {α:Type} {xs:List α} {x:α} (h:xs.length≤60000000000):sK xs [x]=some (xs++[x]):=aDQ (by simp;omega)
theorem rdD {α:Type} {xs:List α} {i:Nat} (d:α) (h:i<xs.length):bP xs (i:Int)=some (xs.getD i d):=by
 rw [rdG (x:=xs.getD i d)]
 simp [List.getD_eq_getElem?_getD,h]
def at' (l:List Rat) (i:Nat):Rat:=l.getD i 0
theorem aMH {l:List Rat} {i:Nat} (h:i<l.length):bP l (i:Int)=some (at' l i):=rdD _ h
theorem aGl {l:List Rat} {i:Nat} (h:i<l.length):at' l i∈l:=by
 have:at' l i=l[i]:=by unfold at';simp [List.getD_eq_getElem?_getD,h]
 rw [this];exact List.getElem_mem h
theorem aJy:((1:Int):Rat)/((1:Int):Rat)=1:=by decide+kernel
def mp {α:Type} (g:Nat→α) (n:Nat):List α:=(List.range n).map g
theorem zK {α:Type} (g:Nat→α):mp g 0=[]:=rfl
theorem aB0 {α:Type} (g:Nat→α) (n:Nat):mp g (n+1)=mp g n++[g n]:=by unfold mp;rw [List.range_succ,List.map_append];rfl
theorem bT {α:Type} (g:Nat→α) (n:Nat):(mp g n).length=n:=by simp [mp]
theorem y1 {α:Type} {g:Nat→α} {n i:Nat} (h:i<n):(mp g n)[i]?=some (g i):=by simp [mp,h]
theorem aBt {g:Nat→Rat} {n k:Nat} (h:∀i,i<n→Bd k (g i)):Bds k (mp g n):=fun x hx=>by
 obtain⟨i,hi,rfl⟩:=List.mem_map.1 hx
 exact h i (List.mem_range.1 hi)
theorem apM {α:Type} {g:Nat→α} {i:Nat} (h:i≤1000000):sK (mp g i) [g i]=some (mp g (i+1)):=by rw [aB0];exact apS (by rw [bT];omega)
theorem hU {α:Type} {f g:Nat→α} {n:Nat} (h:∀i,i<n→f i=g i):mp f n=mp g n:=by
 unfold mp
 exact List.map_congr_left fun i hi=>h i (List.mem_range.1 hi)
def lU {α:Type} (f:Nat→α) (i:Nat) (v:α) (j:Nat):α:=if j=i then v else f j
theorem bD {α:Type} {f:Nat→α} {i:Nat} {v:α}:lU f i v i=v:=if_pos rfl
theorem cO {α:Type} {f:Nat→α} {i j:Nat} {v:α} (h:j≠i):lU f i v j=f j:=if_neg h
theorem aMR {α:Type} {f:Nat→α} {n i:Nat} {v:α}:(mp f n).set i v=mp (lU f i v) n:=by
 apply List.ext_getElem?
 intro j
 by_cases hj:j<n
 ·rw [List.getElem?_set,y1 hj,bT,y1 hj]
  by_cases he:i=j
  ·subst he;rw [if_pos rfl,if_pos hj,bD]
  ·rw [if_neg he,cO (by omega)]
 ·rw [List.getElem?_eq_none (by simp [mp];omega),List.getElem?_eq_none (by simp [mp];omega)]
theorem jO {α:Type} {f:Nat→α} {n i:Nat} (h:i<n):bP (mp f n) (i:Int)=some (f i):=rdG (y1 h)
theorem yJ {α:Type} {f:Nat→α} {n i:Nat} {v:α} (h:i<n):oK (mp f n) (i:Int) v=some (mp (lU f i v) n):=by
 rw [stG (by rw [bT];exact h),aMR]
theorem aJT {α:Type} (z:α):∀n,List.replicate n z=mp (fun _=>z) n
 |0=>rfl
 |n+1=>by rw [aB0,←aJT z n,List.replicate_succ']
theorem aHO {α:Type} {n:Nat} {z:α} (h:n≤68719476736):wK (n:Int) z=some (mp (fun _=>z) n):=by rw [xR h,aJT]
theorem uR {i:Nat} (h:i≤1000000000):aO ((i:Int)+1)=some ((i+1:Nat):Int):=wB (m:=0) (n:=i+1) (by omega) (by omega)
theorem aN6 {a:Rat}:a.num.sign=0↔a=0:=by rw [Int.sign_eq_zero_iff_zero,Rat.num_eq_zero]
def sm (f:Nat→Rat):Nat→Rat
 |0=>0
 |n+1=>sm f n+f n
end Go.Proofs.YtolfcbpgmfbgmaaGreat
set_option linter.unusedVariables false
namespace Go.Proofs.YtolfcbpgmfbgmaaGreat
/-- A matrix of h rows and w columns. -/
def mx (g:Nat→Nat→Rat) (h w:Nat):List (List Rat):=mp (fun i=>mp (g i) w) h
theorem zB {g:Nat→Nat→Rat} {h w i:Nat} (hi:i<h):bP (mx g h w) (i:Int)=some (mp (g i) w):=jO hi
theorem vV {g:Nat→Nat→Rat} {h w:Nat}:(mx g h w).length=h:=bT _ _
def zS (h w b:Nat) (g:Nat→Nat→Rat):Prop:=∀i c,i<h→c<w→Bd b (g i c)
theorem zS.mono {h w b b':Nat} {g:Nat→Nat→Rat} (hg:zS h w b g) (hb:b≤b'):zS h w b' g:=fun i c hi hc=>(hg i c hi hc).mono hb
def piv (g:Nat→Nat→Rat) (k:Nat):Nat→Nat→Nat
 |0,i=>i
 |t+1,i=>if g i k=0 then piv g k t (i+1) else i
theorem aF8 {g:Nat→Nat→Rat} {k:Nat}:∀(t i:Nat),i≤piv g k t i∧piv g k t i≤i+t
 |0,i=>⟨Nat.le_refl _,Nat.le_refl _⟩
 |t+1,i=>by
  have h:=aF8 (g:=g) (k:=k) t (i+1)
  unfold piv
  split<;>omega
theorem aLI {g:Nat→Nat→Rat} {k:Nat}:∀(t i j:Nat),i≤j→j<piv g k t i→g j k=0
 |0,i,j,h1,h2=>by simp only [piv] at h2;omega
 |t+1,i,j,h1,h2=>by
  unfold piv at h2
  split at h2
  ·rename_i hz
   by_cases he:j=i
   ·rw [he];exact hz
   ·exact aLI t (i+1) j (by omega) h2
  ·omega
theorem aIR {g:Nat→Nat→Rat} {k:Nat}:∀(t i:Nat),piv g k t i<i+t→g (piv g k t i) k≠0
 |0,i,h=>by simp only [piv] at h;omega
 |t+1,i,h=>by
  unfold piv at h ⊢
  split at h
  ·rename_i hz
   rw [if_pos hz]
   exact aIR t (i+1) (by omega)
  ·rename_i hz
   rw [if_neg hz];exact hz
def xL (g:Nat→Nat→Rat) (n at0 i:Nat):Nat→Rat:=g (if i=n then at0 else if i=at0 then n else i)
def pr (g:Nat→Nat→Rat) (at0 k c:Nat):Rat:=g at0 c/g at0 k
def stp (g:Nat→Nat→Rat) (n at0 k i c:Nat):Rat:=if i=n then pr g at0 k c else xL g n at0 i c-xL g n at0 i k*pr g at0 k c
structure RS where
 ps:List Nat
 g:Nat→Nat→Rat
 d:Rat
def aD6 (h k:Nat) (s:RS):RS:=
 if piv s.g k (h-s.ps.length) s.ps.length=h then s
 else⟨s.ps++[k],stp s.g s.ps.length (piv s.g k (h-s.ps.length) s.ps.length) k,(if piv s.g k (h-s.ps.length) s.ps.length=s.ps.length then s.d else -s.d)*s.g (piv s.g k (h-s.ps.length) s.ps.length) k⟩
def red (g:Nat→Nat→Rat) (h:Nat):Nat→RS
 |0=>⟨[],g,1⟩
 |k+1=>aD6 h k (red g h k)
theorem aEr {h n at0 i:Nat} (hn:n<h) (ha:at0<h) (hi:i<h):(if i=n then at0 else if i=at0 then n else i)<h:=by split;exact ha;split;exact hn;exact hi
end Go.Proofs.YtolfcbpgmfbgmaaGreat
set_option linter.unusedVariables false
namespace Go.Proofs.YtolfcbpgmfbgmaaGreat
/-- The rows that the list of indices names, in a pool of rows. -/
structure Rep (ι:Nat→Nat) (pool:List (List Rat)) (g:Nat→Nat→Rat) (h w:Nat):Prop where
 inj:∀i j,i<h→j<h→ι i=ι j→i=j
 lt:∀i,i<h→ι i<pool.length
 el:∀i,i<h→pool.getD (ι i) []=mp (g i) w
theorem Rep.set {ι:Nat→Nat} {pool:List (List Rat)} {g:Nat→Nat→Rat} {h w i:Nat} (r:Rep ι pool g h w) (hi:i<h) (f:Nat→Rat):Rep ι (pool.set (ι i) (mp f w)) (lU g i f) h w:=by
 refine⟨r.inj,fun j hj=>by rw [List.length_set];exact r.lt j hj,fun j hj=>?_⟩
 rw [List.getD_eq_getElem?_getD,List.getElem?_set]
 by_cases he:j=i
 ·subst he
  rw [if_pos rfl,if_pos (r.lt j hj),bD];rfl
 ·rw [if_neg (fun h=>he (r.inj j i hj hi h.symm)),←List.getD_eq_getElem?_getD,r.el j hj,cO he]
theorem Rep.congr {ι:Nat→Nat} {pool:List (List Rat)} {g g':Nat→Nat→Rat} {h w:Nat} (r:Rep ι pool g h w) (e:∀i c,i<h→c<w→g i c=g' i c):Rep ι pool g' h w:=
 ⟨r.inj,r.lt,fun i hi=>by rw [r.el i hi];exact hU fun c hc=>e i c hi hc⟩
theorem Rep.sel {ι:Nat→Nat} {pool:List (List Rat)} {g:Nat→Nat→Rat} {h w:Nat} (r:Rep ι pool g h w):aNX pool (mp ι h)=mx g h w:=by
 unfold aNX mx
 apply List.ext_getElem?
 intro j
 by_cases hj:j<h
 ·rw [List.getElem?_map,y1 hj,y1 hj,←r.el j hj];rfl
 ·rw [List.getElem?_map,List.getElem?_eq_none (by simp [mp];omega),List.getElem?_eq_none (by simp [mp];omega)];rfl
theorem Rep.swap {ι:Nat→Nat} {pool:List (List Rat)} {g:Nat→Nat→Rat} {h w n a:Nat} (r:Rep ι pool g h w) (hn:n<h) (ha:a<h) (hne:n≠a):Rep (lU (lU ι n (ι a)) a (ι n)) pool (xL g n a) h w:=by
 have key:∀i,lU (lU ι n (ι a)) a (ι n) i=ι (if i=n then a else if i=a then n else i):=fun i=>by
  unfold lU
  by_cases h1:i=n
  ·rw [if_pos h1,if_neg (by omega),if_pos h1]
  ·rw [if_neg h1]
   by_cases h2:i=a
   ·rw [if_pos h2,if_pos h2,if_neg h1]
   ·rw [if_neg h2,if_neg h1,if_neg h2]
 refine⟨fun i j hi hj e=>?_,fun i hi=>?_,fun i hi=>?_⟩
 ·rw [key,key] at e
  have:=r.inj _ _ (aEr hn ha hi) (aEr hn ha hj) e
  split at this<;>split at this<;>(try split at this)<;>(try split at this)<;>omega
 ·rw [key];exact r.lt _ (aEr hn ha hi)
 ·rw [key];exact r.el _ (aEr hn ha hi)
def mid (f e:Nat→Rat) (c j:Nat):Rat:=if j<c then f j else e j
theorem aJr:yN 1 1=some 1:=by rw [aDO (by omega) (by omega),aJy]
end Go.Proofs.YtolfcbpgmfbgmaaGreat
set_option linter.unusedVariables false
namespace Go.Proofs.YtolfcbpgmfbgmaaGreat
/-- A list of numbers read by index. -/
def pat (ps:List Nat) (i:Nat):Nat:=ps.getD i 0
end Go.Proofs.YtolfcbpgmfbgmaaGreat
set_option linter.unusedVariables false
namespace Go.Proofs.YtolfcbpgmfbgmaaGreat
theorem aBn (f g:Nat→Rat) (a:Rat):∀n,sm (fun c=>f c-a*g c) n=sm f n-a*sm g n
 |0=>by simp only [sm];grind
 |n+1=>by
  have ih:=aBn f g a n
  simp only [sm]
  rw [ih];grind
theorem aFo (f:Nat→Rat) (a:Rat):∀n,sm (fun c=>f c*a) n=sm f n*a
 |0=>by simp only [sm];grind
 |n+1=>by
  have ih:=aFo f a n
  simp only [sm]
  rw [ih];grind
theorem eU {f g:Nat→Rat}:∀{n:Nat},(∀i,i<n→f i=g i)→sm f n=sm g n
 |0,_=>rfl
 |n+1,h=>by
  simp only [sm]
  rw [eU fun i hi=>h i (by omega),h n (by omega)]
theorem aB1 {f:Nat→Rat} {n:Nat} (h:∀i,i<n→f i=0):sm f n=0:=by
 rw [eU (g:=fun _=>0) h]
 induction n with
 |zero=>rfl
 |succ n ih=>simp only [sm];rw [ih fun i hi=>h i (by omega)];grind
theorem aAn {f:Nat→Rat} {n p:Nat} (hp:p<n) (h:∀i,i<n→i≠p→f i=0):sm f n=f p:=by
 induction n with
 |zero=>omega
 |succ n ih=>
  simp only [sm]
  by_cases he:p=n
  ·rw [aB1 fun i hi=>h i (by omega) (by omega),he];grind
  ·rw [ih (by omega) fun i hi hne=>h i (by omega) hne,h n (by omega) (by omega)];grind
theorem aEA (f g:Nat→Rat):∀n,sm (fun c=>f c+g c) n=sm f n+sm g n
 |0=>by simp only [sm];grind
 |n+1=>by
  have ih:=aEA f g n
  simp only [sm]
  rw [ih];grind
def rd (g:Nat→Nat→Rat) (y:Nat→Rat) (n i:Nat):Rat:=sm (fun c=>g i c*y c) n
structure RJ (h k:Nat) (s:RS):Prop where
 ph:s.ps.length≤h
 pk:∀i,i<s.ps.length→pat s.ps i<k
 z:∀i c,s.ps.length≤i→i<h→c<k→s.g i c=0
 one:∀i i',i<s.ps.length→i'<h→s.g i' (pat s.ps i)=if i'=i then 1 else 0
 lead:∀i c,i<s.ps.length→c<pat s.ps i→s.g i c=0
 inc:∀i j,i<j→j<s.ps.length→pat s.ps i<pat s.ps j
 gap:∀c,c<k→c∉s.ps→∀i,i<s.ps.length→c<pat s.ps i→s.g i c=0
theorem zX {ps:List Nat} {k i:Nat} (h:i<ps.length):pat (ps++[k]) i=pat ps i:=by
 unfold pat
 rw [List.getD_eq_getElem?_getD,List.getD_eq_getElem?_getD,List.getElem?_append_left h]
theorem aB9 {ps:List Nat} {k:Nat}:pat (ps++[k]) ps.length=k:=by
 unfold pat
 rw [List.getD_eq_getElem?_getD,List.getElem?_append_right (Nat.le_refl _),Nat.sub_self];rfl
theorem aJH {h k:Nat} {s:RS} (hs:RJ h k s):RJ h (k+1) (aD6 h k s):=by
 have hp:=aF8 (g:=s.g) (k:=k) (h-s.ps.length) s.ps.length
 have hph:=hs.ph
 unfold aD6
 split
 ·rename_i hat
  refine⟨hs.ph,fun i hi=>Nat.lt_succ_of_lt (hs.pk i hi),fun i c hi hh hc=>?_,hs.one,hs.lead,hs.inc,fun c _ _ i hi hlt=>hs.lead i c hi hlt⟩
  by_cases he:c=k
  ·subst he;exact aLI (h-s.ps.length) s.ps.length i hi (by omega)
  ·exact hs.z i c hi hh (by omega)
 ·rename_i hat
  have hlt:piv s.g k (h-s.ps.length) s.ps.length<h:=by omega
  have hne:=aIR (g:=s.g) (k:=k) (h-s.ps.length) s.ps.length (by omega)
  generalize ha:piv s.g k (h-s.ps.length) s.ps.length=at0 at *
  have hz:∀c,c<k→s.g at0 c=0:=fun c hc=>hs.z at0 c hp.1 hlt hc
  have hpr:∀c,c<k→pr s.g at0 k c=0:=fun c hc=>by unfold pr;rw [hz c hc,Rat.div_def,Rat.zero_mul]
  have hprk:pr s.g at0 k k=1:=by unfold pr;rw [Rat.div_def,Rat.mul_inv_cancel _ hne]
  have hswz:∀i c,s.ps.length<i→i<h→c<k→xL s.g s.ps.length at0 i c=0:=fun i c hi hih hc=>by
   unfold xL
   rw [if_neg (by omega)]
   split
   ·exact hs.z _ c (Nat.le_refl _) (by omega) hc
   ·exact hs.z _ c (by omega) hih hc
  have hsw:∀i c,i<s.ps.length→xL s.g s.ps.length at0 i c=s.g i c:=fun i c hi=>by
   unfold xL
   rw [if_neg (by omega),if_neg (by omega)]
  have hlead:∀i c,i<s.ps.length+1→c<pat (s.ps++[k]) i→stp s.g s.ps.length at0 k i c=0:=fun i c hi hc=>by
   by_cases he:i=s.ps.length
   ·subst he
    rw [aB9] at hc
    unfold stp
    rw [if_pos rfl];exact hpr c hc
   ·have hi':i<s.ps.length:=by omega
    rw [zX hi'] at hc
    unfold stp
    rw [if_neg he,hsw i c hi',hsw i k hi',hs.lead i c hi' hc,hpr c (by have:=hs.pk i hi';omega)]
    grind
  refine⟨by simp only [List.length_append,List.length_singleton];omega,fun i hi=>?_,fun i c hi hh hc=>?_,fun i i' hi hi'=>?_,fun i c hi hc=>hlead i c (by simpa using hi) hc,fun i j hij hj=>?_,fun c _ _ i hi hlt=>hlead i c (by simpa using hi) hlt⟩
  ·simp only [List.length_append,List.length_singleton] at hi
   by_cases he:i=s.ps.length
   ·subst he;simp only [aB9];omega
   ·simp only [zX (show i<s.ps.length by omega)]
    have:=hs.pk i (by omega);omega
  ·simp only [List.length_append,List.length_singleton] at hi
   show stp s.g s.ps.length at0 k i c=0
   unfold stp
   rw [if_neg (by omega)]
   by_cases he:c=k
   ·subst he
    rw [hprk,Rat.mul_one,Rat.sub_self]
   ·rw [hswz i c (by omega) hh (by omega),hpr c (by omega)]
    grind
  ·simp only [List.length_append,List.length_singleton] at hi
   show stp s.g s.ps.length at0 k i' (pat (s.ps++[k]) i)=_
   unfold stp
   by_cases he:i=s.ps.length
   ·subst he
    rw [aB9]
    by_cases e2:i'=s.ps.length
    ·rw [if_pos e2,if_pos e2,hprk]
    ·rw [if_neg e2,if_neg e2,hprk,Rat.mul_one,Rat.sub_self]
   ·have hi2:i<s.ps.length:=by omega
    rw [zX hi2,hpr _ (hs.pk i hi2)]
    by_cases e2:i'=s.ps.length
    ·rw [if_pos e2,if_neg (by omega)]
    ·rw [if_neg e2]
     by_cases e3:i'<s.ps.length
     ·rw [hsw i' _ e3,hs.one i i' hi2 (by omega)]
      grind
     ·rw [hswz i' _ (by omega) hi' (hs.pk i hi2),if_neg (by omega)]
      grind
  ·simp only [List.length_append,List.length_singleton] at hj
   by_cases he:j=s.ps.length
   ·subst he
    simp only [aB9,zX (show i<s.ps.length by omega)]
    exact hs.pk i (by omega)
   ·simp only [zX (show i<s.ps.length by omega),zX (show j<s.ps.length by omega)]
    exact hs.inc i j hij (by omega)
theorem aGQ {g:Nat→Nat→Rat} {h:Nat}:∀k,RJ h k (red g h k)
 |0=>⟨Nat.zero_le _,fun i hi=>absurd hi (by simp [red]),fun i c _ _ hc=>absurd hc (by omega),fun i i' hi _=>absurd hi (by simp [red]),fun i c hi _=>absurd hi (by simp [red]),fun i j _ hj=>absurd hj (by simp [red]),fun c hc=>absurd hc (by omega)⟩
 |k+1=>aJH (aGQ k)
end Go.Proofs.YtolfcbpgmfbgmaaGreat
set_option linter.unusedVariables false
namespace Go.Proofs.YtolfcbpgmfbgmaaGreat
theorem aEK (F:Nat→Nat→Rat) (m:Nat):∀n,sm (fun i=>sm (F i) m) n=sm (fun j=>sm (fun i=>F i j) n) m
 |0=>by
  simp only [sm]
  exact(aB1 fun i _=>rfl).symm
 |n+1=>by
  simp only [sm]
  rw [aEK F m n,aEA]
theorem wM (f:Nat→Rat) (a:Rat) (n:Nat):sm (fun c=>a*f c) n=a*sm f n:=by
 rw [Rat.mul_comm,←aFo]
 exact eU fun i _=>Rat.mul_comm _ _
theorem aEH (f:Nat→Rat) (n:Nat):sm (fun c=>-(f c)) n=-(sm f n):=by
 have:=wM f (-1) n
 rw [eU (g:=fun c=>-1*f c) fun i _=>by grind,this];grind
def skp (k c:Nat):Nat:=if c<k then c else c+1
theorem aIP (F:Nat→Rat) {k:Nat}:∀{n:Nat},k≤n→sm (fun l=>F (skp k l)) n=sm (fun m=>if m=k then 0 else F m) (n+1)
 |0,h=>by
  have:k=0:=by omega
  subst this
  simp only [sm];grind
 |n+1,h=>by
  by_cases hk:k≤n
  ·have ih:=aIP F hk
   rw [sm,ih,sm,sm,sm]
   have e1:skp k n=n+1:=by unfold skp;rw [if_neg (by omega)]
   rw [e1,if_neg (show¬n+1=k by omega)]
  ·have:k=n+1:=by omega
   subst this
   rw [sm.eq_2 _ (n+1),if_pos rfl]
   rw [eU (g:=F) fun i hi=>by unfold skp;rw [if_pos hi],eU (g:=F) fun i hi=>if_neg (by omega)]
   grind
def sgn (k:Nat):Rat:=if k%2=0 then 1 else -1
def mnr (g:Nat→Nat→Rat) (k i c:Nat):Rat:=g (i+1) (skp k c)
def dt:Nat→(Nat→Nat→Rat)→Rat
 |0,_=>1
 |n+1,g=>sm (fun k=>sgn k*(g 0 k*dt n (mnr g k))) (n+1)
theorem aJO {k c n:Nat} (hc:c<n):skp k c<n+1:=by unfold skp;split<;>omega
theorem sM:∀{n:Nat} {g g':Nat→Nat→Rat},(∀i c,i<n→c<n→g i c=g' i c)→dt n g=dt n g'
 |0,_,_,_=>rfl
 |n+1,g,g',h=>by
  simp only [dt]
  refine eU fun k hk=>?_
  rw [h 0 k (by omega) hk,sM (g:=mnr g k) (g':=mnr g' k) fun i c hi hc=>h (i+1) _ (by omega) (aJO hc)]
theorem aJS {g:Nat→Nat→Rat} {f:Nat→Rat} {k:Nat}:mnr (lU g 0 f) k=mnr g k:=by
 funext i c
 unfold mnr
 rw [cO (by omega)]
theorem aKo {g:Nat→Nat→Rat} {f:Nat→Rat} {k j:Nat}:mnr (lU g (j+1) f) k=lU (mnr g k) j (fun c=>f (skp k c)):=by
 funext i c
 unfold mnr
 by_cases h:i=j
 ·subst h;rw [bD,bD]
 ·rw [cO (by omega),cO h]
theorem aFU {u v:Nat→Rat} {a:Rat}:∀{n:Nat} {g:Nat→Nat→Rat} {i:Nat},i<n→dt n (lU g i (fun c=>u c-a*v c))=dt n (lU g i u)-a*dt n (lU g i v)
 |0,_,_,h=>by omega
 |n+1,g,0,_=>by
  simp only [dt,aJS,bD]
  rw [←aBn]
  exact eU fun k _=>by grind
 |n+1,g,j+1,h=>by
  simp only [dt,aKo,cO (show 0≠j+1 by omega)]
  rw [←aBn]
  refine eU fun k _=>?_
  rw [aFU (u:=fun c=>u (skp k c)) (v:=fun c=>v (skp k c)) (a:=a) (show j<n by omega)]
  grind
theorem aBf (k:Nat):sgn (k+1)=-(sgn k):=by
 unfold sgn
 by_cases h:k%2=0
 ·rw [if_pos h,if_neg (by omega)]
 ·rw [if_neg h,if_pos (by omega)];grind
theorem aEg (k:Nat):∀l,sgn (k+l)=sgn k*sgn l
 |0=>by
  have:sgn 0=1:=rfl
  rw [this,Nat.add_zero];grind
 |l+1=>by
  rw [←Nat.add_assoc,aBf,aEg k l,aBf];grind
def aIa (k m c:Nat):Nat:=if c<min k m then c else if c+1<max k m then c+1 else c+2
theorem aKm (k l c:Nat):skp k (skp l c)=aIa k (skp k l) c:=by
 unfold aIa skp
 by_cases h1:l<k
 ·rw [if_pos h1]
  repeat' split
  all_goals omega
 ·rw [if_neg h1]
  repeat' split
  all_goals omega
theorem aH9 (k m c:Nat):aIa k m c=aIa m k c:=by
 unfold aIa;rw [Nat.min_comm,Nat.max_comm]
def eps (k m:Nat):Rat:=if k<m then sgn (k+m+1) else sgn (k+m)
theorem aI1 {k m:Nat} (h:m≠k):eps k m=-(eps m k):=by
 unfold eps
 by_cases h1:k<m
 ·rw [if_pos h1,if_neg (by omega),aBf,Nat.add_comm]
 ·rw [if_neg h1,if_pos (by omega),aBf,Nat.add_comm];grind
theorem aKH (k l:Nat):sgn k*sgn l=eps k (skp k l):=by
 unfold eps skp
 by_cases h:l<k
 ·rw [if_pos h,if_neg (by omega),aEg]
 ·rw [if_neg h,if_pos (by omega)]
  rw [show k+(l+1)+1=k+l+2 by omega,show sgn (k+l+2)=sgn (k+l) by unfold sgn;rw [show(k+l+2)%2=(k+l)%2 by omega],aEg]
def aF3 (g:Nat→Nat→Rat) (k m i c:Nat):Rat:=g (i+2) (aIa k m c)
theorem aJR {n:Nat} {g:Nat→Nat→Rat}:dt (n+2) g=sm (fun k=>sm (fun m=>if m=k then 0 else eps k m*(g 0 k*(g 1 m*dt n (aF3 g k m)))) (n+2)) (n+2):=by
 rw [dt]
 refine eU fun k hk=>?_
 rw [←aIP (fun m=>eps k m*(g 0 k*(g 1 m*dt n (aF3 g k m)))) (show k≤n+1 by omega),dt,←wM,←wM]
 refine eU fun l _=>?_
 rw [←aKH,show dt n (mnr (mnr g k) l)=dt n (aF3 g k (skp k l)) from congrArg (dt n) (by
  funext i c
  unfold mnr aF3
  rw [aKm])]
 unfold mnr
 grind
theorem aHT {n:Nat} {g:Nat→Nat→Rat}:dt (n+2) (xL g 0 1)=-(dt (n+2) g):=by
 rw [aJR,aJR,aEK,←aEH]
 refine eU fun k _=>?_
 rw [←aEH]
 refine eU fun m _=>?_
 by_cases h:k=m
 ·rw [if_pos h,if_pos h.symm];grind
 ·rw [if_neg h,if_neg (fun e=>h e.symm),aI1 (by exact fun e=>h e)]
  have e:aF3 (xL g 0 1) m k=aF3 g k m:=by
   funext i c
   unfold aF3 xL
   rw [if_neg (by omega),if_neg (by omega),aH9]
  rw [e]
  have e1:xL g 0 1 0=g 1:=by unfold xL;rw [if_pos rfl]
  have e2:xL g 0 1 1=g 0:=by unfold xL;rw [if_neg (by omega),if_pos rfl]
  rw [e1,e2]
  grind
theorem aKL {g:Nat→Nat→Rat} {a b k:Nat}:mnr (xL g (a+1) (b+1)) k=xL (mnr g k) a b:=by
 funext i c
 unfold mnr xL
 congr 1
 by_cases h1:i=a
 ·rw [if_pos (by omega),if_pos h1]
 ·rw [if_neg (by omega),if_neg h1]
  by_cases h2:i=b
  ·rw [if_pos (by omega),if_pos h2]
  ·rw [if_neg (by omega),if_neg h2]
theorem aEp:∀{n:Nat} {g:Nat→Nat→Rat} {i:Nat},i+1<n→dt n (xL g i (i+1))=-(dt n g)
 |0,_,_,h=>by omega
 |1,_,_,h=>by omega
 |n+2,g,0,_=>aHT
 |n+2,g,i+1,h=>by
  rw [dt,dt,←aEH]
  refine eU fun k _=>?_
  rw [aKL,aEp (show i+1<n+1 by omega)]
  have e1:xL g (i+1) (i+1+1) 0=g 0:=by unfold xL;rw [if_neg (by omega),if_neg (by omega)]
  rw [e1];grind
theorem aGc {n:Nat}:∀(t:Nat) {g:Nat→Nat→Rat} {i:Nat},i+t+1<n→dt n (xL g i (i+t+1))=-(dt n g)
 |0,g,i,h=>aEp h
 |t+1,g,i,h=>by
  have e:xL g i (i+(t+1)+1)=xL (xL (xL g (i+t+1) (i+t+1+1)) i (i+t+1)) (i+t+1) (i+t+1+1):=by
   funext j
   unfold xL
   congr 1
   repeat' split
   all_goals omega
  rw [e,aEp (by omega),aGc t (by omega),aEp (by omega)];grind
theorem aIf {g:Nat→Nat→Rat} {a b:Nat}:xL g a b=xL g b a:=by
 funext j
 unfold xL
 congr 1
 repeat' split
 all_goals omega
structure Alt (h:Nat) (D:(Nat→Nat→Rat)→Rat):Prop where
 cong:∀g g':Nat→Nat→Rat,(∀i,i<h→g i=g' i)→D g=D g'
 lin:∀(g:Nat→Nat→Rat) (u v:Nat→Rat) (a:Rat) (i:Nat),i<h→D (lU g i (fun c=>u c-a*v c))=D (lU g i u)-a*D (lU g i v)
 swap:∀(g:Nat→Nat→Rat) (i j:Nat),i<h→j<h→i≠j→D (xL g i j)=-(D g)
theorem aCn (n:Nat):Alt n (dt n):=⟨fun g g' h=>sM fun i c hi _=>by rw [h i hi],fun g u v a i hi=>aFU hi,fun g i j hi hj hne=>by
 by_cases h:i<j
 ·obtain⟨t,rfl⟩:∃t,j=i+t+1:=⟨j-i-1,by omega⟩
  exact aGc t hj
 ·obtain⟨t,rfl⟩:∃t,i=j+t+1:=⟨i-j-1,by omega⟩
  rw [aIf]
  exact aGc t hi⟩
theorem Alt.zero {h:Nat} {D:(Nat→Nat→Rat)→Rat} (a:Alt h D) {g:Nat→Nat→Rat} {i:Nat} (hi:i<h) (hz:g i=fun _=>0):D g=0:=by
 have:=a.lin g (g i) (g i) 1 i hi
 have e:(fun c=>g i c-1*g i c)=g i:=by funext c;rw [hz];grind
 have e2:lU g i (g i)=g:=by
  funext j
  unfold lU
  split
  ·rename_i h;rw [h]
  ·rfl
 rw [e,e2] at this
 grind
theorem aIW {α:Type} {g:Nat→α} {i:Nat}:lU g i (g i)=g:=by
 funext j
 unfold lU
 split
 ·rename_i h;rw [h]
 ·rfl
theorem Alt.scale {h:Nat} {D:(Nat→Nat→Rat)→Rat} (a:Alt h D) {g:Nat→Nat→Rat} {u:Nat→Rat} {b:Rat} {i:Nat} (hi:i<h):D (lU g i (fun c=>b*u c))=b*D (lU g i u):=by
 have h1:=a.lin g (fun _=>0) u (-b) i hi
 have h2:D (lU g i (fun _=>0))=0:=a.zero hi bD
 rw [h2] at h1
 have e:(fun c=>(0:Rat)- -b*u c)=fun c=>b*u c:=by funext c;grind
 rw [e] at h1
 rw [h1];grind
theorem Alt.same {h:Nat} {D:(Nat→Nat→Rat)→Rat} (a:Alt h D) {g:Nat→Nat→Rat} {i j:Nat} (hi:i<h) (hj:j<h) (hne:i≠j) (he:g i=g j):D g=0:=by
 have h1:=a.swap g i j hi hj hne
 have e:xL g i j=g:=by
  funext l
  unfold xL
  split
  ·rename_i h;rw [h,he]
  ·split
   ·rename_i h;rw [h,he]
   ·rfl
 rw [e] at h1
 grind
theorem Alt.add {h:Nat} {D:(Nat→Nat→Rat)→Rat} (a:Alt h D) {g:Nat→Nat→Rat} {b:Rat} {i j:Nat} (hi:i<h) (hj:j<h) (hne:i≠j):D (lU g i (fun c=>g i c-b*g j c))=D g:=by
 rw [a.lin g (g i) (g j) b i hi,aIW,a.same (g:=lU g i (g j)) hi hj hne (by rw [bD,cO (fun e=>hne e.symm)])]
 grind
def elm (g:Nat→Nat→Rat) (n k j i c:Nat):Rat:=if i<j∧i≠n then g i c-g i k*g n c else g i c
theorem Alt.elm0 {h:Nat} {D:(Nat→Nat→Rat)→Rat} (a:Alt h D) {g:Nat→Nat→Rat} {n k:Nat} (hn:n<h):∀j,j≤h→D (elm g n k j)=D g
 |0,_=>a.cong _ _ fun i _=>by
  funext c
  exact if_neg (by omega)
 |j+1,hj=>by
  refine Eq.trans ?_ (Alt.elm0 (k:=k) a hn j (by omega))
  by_cases he:j=n
  ·refine a.cong _ _ fun i _=>?_
   funext c
   unfold elm
   by_cases h1:i<j
   ·rw [if_pos ⟨by omega,by omega⟩,if_pos ⟨h1,by omega⟩]
   ·rw [if_neg (by omega),if_neg (by omega)]
  ·refine Eq.trans ?_ (a.add (g:=elm g n k j) (b:=g j k) (show j<h by omega) hn he)
   refine a.cong _ _ fun i _=>?_
   funext c
   by_cases h1:i=j
   ·subst h1
    rw [bD]
    unfold elm
    rw [if_pos ⟨by omega,he⟩,if_neg (by omega),if_neg (by omega)]
   ·rw [cO h1]
    unfold elm
    by_cases h2:i<j∧i≠n
    ·rw [if_pos ⟨by omega,h2.2⟩,if_pos h2]
    ·rw [if_neg (by omega),if_neg h2]
theorem Alt.stp0 {h:Nat} {D:(Nat→Nat→Rat)→Rat} (a:Alt h D) {g:Nat→Nat→Rat} {n at0 k:Nat} (hn:n<h) (ha:at0<h) (hne:g at0 k≠0):D g=(if at0=n then 1 else -1)*g at0 k*D (stp g n at0 k):=by
 have e1:D (xL g n at0)=(if at0=n then 1 else -1)*D g:=by
  by_cases h1:at0=n
  ·rw [if_pos h1]
   have:xL g n at0=g:=by
    funext i
    unfold xL
    split
    ·rw [h1];congr 1;omega
    ·split
     ·congr 1;omega
     ·rfl
   rw [this];grind
  ·rw [if_neg h1,a.swap g n at0 hn ha (fun e=>h1 e.symm)];grind
 have e2:D (xL g n at0)=g at0 k*D (lU (xL g n at0) n (pr g at0 k)):=by
  rw [←a.scale hn]
  congr 1
  funext i
  by_cases h1:i=n
  ·subst h1
   rw [bD]
   funext c
   unfold xL pr
   rw [if_pos rfl,Rat.div_def,Rat.mul_comm (g at0 c),←Rat.mul_assoc,Rat.mul_inv_cancel _ hne,Rat.one_mul]
  ·rw [cO h1]
 have e3:D (stp g n at0 k)=D (lU (xL g n at0) n (pr g at0 k)):=by
  rw [←a.elm0 (g:=lU (xL g n at0) n (pr g at0 k)) (n:=n) (k:=k) hn h (Nat.le_refl _)]
  refine a.cong _ _ fun i hi=>?_
  funext c
  unfold stp elm
  by_cases h1:i=n
  ·subst h1
   rw [if_pos rfl,if_neg (by omega),bD]
  ·rw [if_neg h1,if_pos ⟨hi,h1⟩,cO h1,bD]
 rw [e3]
 have e4:D g=(if at0=n then 1 else -1)*D (xL g n at0):=by
  rw [e1]
  split<;>grind
 rw [e4,e2];grind
theorem Alt.red0 {h:Nat} {D:(Nat→Nat→Rat)→Rat} (a:Alt h D) {g:Nat→Nat→Rat}:∀k,D g=(red g h k).d*D (red g h k).g
 |0=>by simp only [red];grind
 |k+1=>by
  refine(Alt.red0 a k).trans ?_
  have hl:=(aGQ (g:=g) (h:=h) k).ph
  simp only [red]
  generalize red g h k=s at *
  unfold aD6
  split
  ·rfl
  ·rename_i hat
   have hp:=aF8 (g:=s.g) (k:=k) (h-s.ps.length) s.ps.length
   have hlt:piv s.g k (h-s.ps.length) s.ps.length<h:=by omega
   have hne:=aIR (g:=s.g) (k:=k) (h-s.ps.length) s.ps.length (by omega)
   rw [a.stp0 (g:=s.g) (n:=s.ps.length) (at0:=piv s.g k (h-s.ps.length) s.ps.length) (k:=k) (by omega) hlt hne]
   simp only
   split<;>grind
end Go.Proofs.YtolfcbpgmfbgmaaGreat
set_option linter.unusedVariables false
namespace Go.Proofs.YtolfcbpgmfbgmaaGreat
/-- What a machine's integer is. -/
def I64 (x:Int):Prop:=-9223372036854775808≤x∧x≤9223372036854775807
end Go.Proofs.YtolfcbpgmfbgmaaGreat
set_option linter.unusedVariables false
namespace Go.Proofs.YtolfcbpgmfbgmaaGreat
end Go.Proofs.YtolfcbpgmfbgmaaGreat
set_option linter.unusedVariables false
namespace Go.Proofs.YtolfcbpgmfbgmaaGreat
/-- A matrix times a vector. -/
def aEU (g:Nat→Nat→Rat) (v:Nat→Rat) (w i:Nat):Rat:=sm (fun c=>g i c*v c) w
theorem aJD {f e:Nat→Rat} {w b:Nat} (hf:∀c,c<w→Bd b (f c)) (he:∀c,c<w→Bd b (e c)) (hb:b≤1000000) (hw:w≤100) (K:Nat):∀(t i k:Nat),i+t=w→t<k→Bd (1+i*(b+b+1)) (sm (fun c=>f c*e c) i)→Bd (1+w*(b+b+1)) (sm (fun c=>f c*e c) w)∧iB K (mp f w) (mp e w) k (sm (fun c=>f c*e c) i) (i:Int)=some (sm (fun c=>f c*e c) w)
 |0,i,k,hi,hk,ha=>by
  obtain⟨k',rfl,_⟩:=bI hk
  have:i=w:=by omega
  subst this
  exact⟨ha,by simp only [iB,bT,dF (show¬(i:Int)<(i:Int) by omega),cP]⟩
 |t+1,i,k,hi,hk,ha=>by
  obtain⟨k',rfl,_⟩:=bI hk
  have hx:=hf i (by omega)
  have hy:=he i (by omega)
  have hib:i*(b+b+1)≤100*2000001:=Nat.mul_le_mul (by omega) (by omega)
  have hs:1+i*(b+b+1)+(b+b)+1=1+(i+1)*(b+b+1):=by rw [Nat.add_mul];omega
  obtain⟨r1,r2⟩:=aJD hf he hb hw K t (i+1) k' (by omega) (by omega) (by simp only [sm];exact(ha.add (hx.mul hy)).mono (by omega))
  refine⟨r1,?_⟩
  simp only [iB,bT,dT (show(i:Int)<(w:Int) by omega),cU,jO (f:=f) (show i<w by omega),jO (f:=e) (show i<w by omega),oB,aEF hx hy (by omega) (by omega),aD5 ha (hx.mul hy) (by omega) (by omega),uR (i:=i) (by omega)]
  exact r2
theorem aMj {f e:Nat→Rat} {w b:Nat} (hf:∀c,c<w→Bd b (f c)) (he:∀c,c<w→Bd b (e c)) (hb:b≤1000000) (hw:w≤100) {K:Nat} (hK:w<K):Bd (1+w*(b+b+1)) (sm (fun c=>f c*e c) w)∧kP K (mp f w) (mp e w)=some (sm (fun c=>f c*e c) w):=by
 obtain⟨r1,r2⟩:=aJD hf he hb hw K w 0 K (by omega) hK (Bd.zero.mono (by omega))
 simp only [Int.natCast_zero,sm] at r2
 exact⟨r1,by simp only [kP,r2,oB,n8]⟩
end Go.Proofs.YtolfcbpgmfbgmaaGreat
set_option linter.unusedVariables false
namespace Go.Proofs.YtolfcbpgmfbgmaaGreat
/-- A vector and the right side. -/
def ext (x:Nat→Rat) (w c:Nat):Rat:=if c<w then x c else -1
end Go.Proofs.YtolfcbpgmfbgmaaGreat
set_option linter.unusedVariables false
namespace Go.Proofs.YtolfcbpgmfbgmaaGreat
/-- A turned matrix. -/
def tr (g:Nat→Nat→Rat) (i k:Nat):Rat:=g k i
def wT (g q:Nat→Nat→Rat) (w i j:Nat):Rat:=aEU (tr q) (g i) w j
end Go.Proofs.YtolfcbpgmfbgmaaGreat
set_option linter.unusedVariables false
namespace Go.Proofs.YtolfcbpgmfbgmaaGreat
theorem aNd:sgn 0=1:=rfl
def vJ (i c:Nat):Rat:=if i=c then 1 else 0
theorem aB3:∀n,dt n vJ=1
 |0=>rfl
 |n+1=>by
  rw [dt,aAn (p:=0) (by omega) fun k _ hk=>by unfold vJ;rw [if_neg (fun e=>hk e.symm)];grind]
  have e:dt n (mnr vJ 0)=dt n vJ:=sM fun i c _ _=>by
   unfold mnr vJ skp
   rw [if_neg (Nat.not_lt_zero c)]
   by_cases h:i=c
   ·rw [if_pos h,if_pos (by omega)]
   ·rw [if_neg h,if_neg (by omega)]
  rw [e,aB3 n,aNd]
  unfold vJ
  rw [if_pos rfl];grind
theorem aIo {h k:Nat} {s:RS} (hs:RJ h k s):∀i,i<s.ps.length→i≤pat s.ps i
 |0,_=>Nat.zero_le _
 |i+1,hi=>by
  have:=aIo hs i (by omega)
  have:=hs.inc i (i+1) (by omega) hi
  omega
theorem aEV {h k:Nat} {s:RS} (hs:RJ h k s):∀t i,i+t+1=s.ps.length→pat s.ps i+t<k
 |0,i,hi=>hs.pk i (by omega)
 |t+1,i,hi=>by
  have:=aEV hs t (i+1) (by omega)
  have:=hs.inc i (i+1) (by omega) (by omega)
  omega
theorem aJm {h k:Nat} {s:RS} (hs:RJ h k s) (hf:s.ps.length=k) {i:Nat} (hi:i<k):pat s.ps i=i:=by
 have h1:=aIo hs i (by omega)
 have h2:=aEV hs (k-1-i) i (by omega)
 omega
theorem aBm {h k:Nat} {s:RS} (hs:RJ h k s) (hf:s.ps.length=k) {i c:Nat} (hi:i<h) (hc:c<k):s.g i c=if i=c then 1 else 0:=by
 have:=hs.one c i (by omega) hi
 rw [aJm hs hf hc] at this
 exact this
def aMM (g:Nat→Nat→Rat) (n:Nat):Rat:=if(red g n n).ps.length=n then(red g n n).d else 0
theorem aMz {g:Nat→Nat→Rat} {n:Nat}:dt n g=aMM g n:=by
 have hJ:=aGQ (g:=g) (h:=n) n
 unfold aMM
 rw [(aCn n).red0 (g:=g) n]
 split
 ·rename_i hf
  rw [sM (g':=vJ) fun i c hi hc=>aBm hJ hf hi hc,aB3];grind
 ·rename_i hf
  have hlt:(red g n n).ps.length<n:=by have:=hJ.ph;omega
  rw [sM (g':=fun i c=>if c<n then(red g n n).g i c else 0) fun i c hi hc=>by rw [if_pos hc],(aCn n).zero (i:=n-1) (by omega) ?_]
  ·grind
  ·funext c
   split
   ·rename_i hc
    exact hJ.z (n-1) c (by omega) (by omega) hc
   ·rfl
theorem aI8 (q:Nat→Nat→Rat) (n w:Nat):Alt n fun g=>dt n (wT g q w):=by
 have eu:∀(g:Nat→Nat→Rat) (f:Nat→Rat) (i:Nat),wT (lU g i f) q w=lU (wT g q w) i (fun j=>aEU (tr q) f w j):=by
  intro g f i
  funext j c
  unfold wT
  by_cases h:j=i
  ·subst h;rw [bD,bD]
  ·rw [cO h,cO h]
 refine⟨fun g g' h=>sM fun i c hi _=>?_,fun g u v a i hi=>?_,fun g i j hi hj hne=>?_⟩
 ·unfold wT;rw [h i hi]
 ·show dt n _=dt n _-a*dt n _
  rw [eu,eu,eu,←aFU hi]
  congr 2
  funext j
  unfold aEU
  rw [←aBn]
  exact eU fun c _=>by grind
 ·exact(aCn n).swap (wT g q w) i j hi hj hne
theorem aIO {g q:Nat→Nat→Rat} {n:Nat}:dt n (wT g q n)=dt n g*dt n q:=by
 have hJ:=aGQ (g:=g) (h:=n) n
 have hm:dt n (wT g q n)=(red g n n).d*dt n (wT (red g n n).g q n):=(aI8 q n n).red0 (g:=g) n
 rw [hm,aMz (g:=g)]
 unfold aMM
 split
 ·rename_i hf
  rw [sM (g:=wT (red g n n).g q n) (g':=q) fun i c hi hc=>?_]
  unfold wT aEU tr
  rw [aAn (p:=i) hi fun j hj hne=>by rw [aBm hJ hf hi hj,if_neg (fun e=>hne e.symm)];grind]
  rw [aBm hJ hf hi hi,if_pos rfl];grind
 ·rename_i hf
  have hlt:(red g n n).ps.length<n:=by have:=hJ.ph;omega
  rw [(aCn n).zero (g:=wT (red g n n).g q n) (i:=n-1) (by omega) (by
   funext c
   unfold wT aEU
   exact aB1 fun j hj=>by rw [hJ.z (n-1) j (by omega) (by omega) hj];grind)]
  grind
end Go.Proofs.YtolfcbpgmfbgmaaGreat
set_option linter.unusedVariables false
namespace Go.Proofs.YtolfcbpgmfbgmaaGreat
/-- The unit matrix with one column replaced. -/
def aFj (i:Nat) (x:Nat→Rat) (r c:Nat):Rat:=if c=i then x r else if r=c then 1 else 0
theorem aKe {n i:Nat} (hi:i<n) (x:Nat→Rat):dt n (aFj i x)=x i:=by
 have a:=aCn n
 have e1:aFj i x=lU (aFj i x) i (fun c=>x i*vJ i c):=by
  funext r c
  by_cases h:r=i
  ·subst h
   rw [bD]
   unfold aFj vJ
   by_cases h2:c=r
   ·rw [if_pos h2,if_pos h2.symm,Rat.mul_one]
   ·rw [if_neg h2,if_neg (show¬r=c from fun e=>h2 e.symm),Rat.mul_zero]
  ·rw [cO h]
 have e2:dt n (lU (aFj i x) i (vJ i))=1:=by
  rw [←a.elm0 (g:=lU (aFj i x) i (vJ i)) (n:=i) (k:=i) hi n (Nat.le_refl n),←aB3 n]
  refine sM fun r c hr hc=>?_
  unfold elm
  by_cases h:r=i
  ·subst h
   rw [if_neg (fun h2=>h2.2 rfl),bD]
  ·rw [if_pos ⟨hr,h⟩,cO h,bD]
   unfold aFj vJ
   rw [if_pos rfl]
   by_cases h2:c=i
   ·rw [if_pos h2,if_pos h2.symm,Rat.mul_one,Rat.sub_self,if_neg (by omega)]
   ·rw [if_neg h2,if_neg (show¬i=c from fun e=>h2 e.symm),Rat.mul_zero,Rat.sub_eq_add_neg,Rat.neg_zero,Rat.add_zero]
 rw [e1,a.scale hi,e2,Rat.mul_one]
def aGb (Z:Nat→Nat→Rat) (b:Nat→Nat) (r j:Nat):Rat:=Z r (b j)
def aDz (Z:Nat→Nat→Rat) (b:Nat→Nat) (i k:Nat) (r j:Nat):Rat:=if j=i then Z r k else Z r (b j)
theorem aMm {n w:Nat} {E Z T:Nat→Nat→Rat} {b:Nat→Nat} (hT:∀i c,i<n→c<w→T i c=wT E Z n i c) (hb:∀j,j<n→b j<w) (hu:∀i j,i<n→j<n→T i (b j)=if i=j then 1 else 0) {i k:Nat} (hi:i<n) (hk:k<w):dt n (aGb Z b)≠0∧T i k=dt n (aDz Z b i k)/dt n (aGb Z b):=by
 have h1:dt n E*dt n (aGb Z b)=1:=by
  rw [←aIO,←aB3 n]
  refine sM fun r c hr hc=>?_
  show wT E Z n r (b c)=_
  rw [←hT r (b c) hr (hb c hc),hu r c hr hc];rfl
 have h2:dt n E*dt n (aDz Z b i k)=T i k:=by
  rw [←aIO,←aKe hi (fun r=>T r k)]
  refine sM fun r c hr hc=>?_
  unfold aFj
  by_cases h:c=i
  ·rw [if_pos h]
   show _=T r k
   rw [hT r k hr hk]
   unfold wT aEU tr aDz
   simp [h]
  ·rw [if_neg h,←hu r c hr hc,hT r (b c) hr (hb c hc)]
   unfold wT aEU tr aDz
   simp [h]
 have hne:dt n (aGb Z b)≠0:=fun e=>by rw [e,Rat.mul_zero] at h1;exact absurd h1 (by decide)
 refine⟨hne,?_⟩
 rw [←h2,Rat.div_def]
 have:dt n E=(dt n (aGb Z b))⁻¹:=by
  have h3:=congrArg (·*(dt n (aGb Z b))⁻¹) h1
  simp only [Rat.mul_assoc,Rat.mul_inv_cancel _ hne,Rat.mul_one,Rat.one_mul] at h3
  exact h3
 rw [this,Rat.mul_comm]
def isZ (M:Nat) (x:Rat):Prop:=∃q:Int,x=(q:Rat)∧q.natAbs≤M
def fM (M:Nat):Nat→Nat
 |0=>1
 |n+1=>(n+1)*(M*fM M n)
theorem isZ.mono {M N:Nat} {x:Rat} (h:isZ M x) (hn:M≤N):isZ N x:=by
 obtain⟨q,h1,h2⟩:=h
 exact⟨q,h1,by omega⟩
theorem isZ.add {M N:Nat} {x y:Rat} (h:isZ M x) (k:isZ N y):isZ (M+N) (x+y):=by
 obtain⟨q,h1,h2⟩:=h
 obtain⟨p,k1,k2⟩:=k
 exact⟨q+p,by rw [h1,k1,Rat.intCast_add],by omega⟩
theorem isZ.mul {M N:Nat} {x y:Rat} (h:isZ M x) (k:isZ N y):isZ (M*N) (x*y):=by
 obtain⟨q,h1,h2⟩:=h
 obtain⟨p,k1,k2⟩:=k
 exact⟨q*p,by rw [h1,k1,Rat.intCast_mul],by rw [Int.natAbs_mul];exact Nat.mul_le_mul h2 k2⟩
theorem isZ.zero:isZ 0 0:=⟨0,rfl,Nat.le_refl _⟩
theorem aNm (k:Nat):isZ 1 (sgn k):=by
 unfold sgn
 split
 ·exact⟨1,rfl,by decide⟩
 ·exact⟨-1,rfl,by decide⟩
theorem aOc {f:Nat→Rat} {M:Nat}:∀n,(∀i,i<n→isZ M (f i))→isZ (n*M) (sm f n)
 |0,_=>by rw [Nat.zero_mul];exact isZ.zero
 |n+1,h=>by
  have:=(aOc n fun i hi=>h i (by omega)).add (h n (by omega))
  rw [Nat.succ_mul];exact this
theorem aMK {M:Nat}:∀(n:Nat) (g:Nat→Nat→Rat),(∀i c,i<n→c<n→isZ M (g i c))→isZ (fM M n) (dt n g)
 |0,g,h=>⟨1,rfl,Nat.le_refl _⟩
 |n+1,g,h=>aOc (n+1) fun k hk=>by
  have h1:=aMK n (mnr g k) fun i c hi hc=>h (i+1) (skp k c) (by omega) (aJO hc)
  have h2:=(aNm k).mul ((h 0 k (by omega) hk).mul h1)
  rw [Nat.one_mul] at h2
  first|exact h2|(rw [Rat.mul_assoc];exact h2)
theorem aH3 {n w M k:Nat} {E Z T:Nat→Nat→Rat} {b:Nat→Nat} (hT:∀i c,i<n→c<w→T i c=wT E Z n i c) (hb:∀j,j<n→b j<w) (hu:∀i j,i<n→j<n→T i (b j)=if i=j then 1 else 0) (hZ:∀i c,i<n→c<w→isZ M (Z i c)) (hM:fM M n<2^k):zS n w k T:=fun i c hi hc=>by
 obtain⟨h1,h2⟩:=aMm hT hb hu hi hc
 obtain⟨p,p1,p2⟩:=aMK n (aDz Z b i c) fun r j hr hj=>by
  unfold aDz
  split
  ·exact hZ r c hr hc
  ·exact hZ r (b j) hr (hb j hj)
 obtain⟨q,q1,q2⟩:=aMK n (aGb Z b) fun r j hr hj=>hZ r (b j) hr (hb j hj)
 rw [h2,p1,q1]
 refine Bd.of (fun e=>h1 (by rw [q1,e];rfl)) (Nat.lt_of_le_of_lt p2 hM) (Nat.lt_of_le_of_lt q2 hM)
end Go.Proofs.YtolfcbpgmfbgmaaGreat
set_option linter.unusedVariables false
namespace Go.Proofs.YtolfcbpgmfbgmaaGreat
/-- A tableau: its rows are combinations of those of Z, and the columns of the basic variables are those of the unit matrix. -/
structure TI (n w:Nat) (Z T:Nat→Nat→Rat) (b:Nat→Nat):Prop where
 ex:∃E:Nat→Nat→Rat,∀i c,i<n→c<w→T i c=wT E Z n i c
 lt:∀j,j<n→b j<w
 un:∀i j,i<n→j<n→T i (b j)=if i=j then 1 else 0
def nB (T:Nat→Nat→Rat) (r c i k:Nat):Rat:=if i=r then T r k/T r c else T i k-T i c*(T r k/T r c)
theorem vC {E Z:Nat→Nat→Rat} {n i k:Nat}:wT E Z n i k=sm (fun j=>Z j k*E i j) n:=by
 unfold wT aEU tr
 first|rfl|(refine eU fun j _=>?_;first|rfl|exact Rat.mul_comm _ _)
theorem TI.pivot {n w:Nat} {Z T:Nat→Nat→Rat} {b:Nat→Nat} (h:TI n w Z T b) {r c:Nat} (hr:r<n) (hc:c<w) (hp:T r c≠0):TI n w Z (nB T r c) (lU b r c):=by
 obtain⟨⟨E,hE⟩,hb,hu⟩:=h
 refine⟨⟨fun i j=>if i=r then E r j/T r c else E i j-T i c*(E r j/T r c),fun i k hi hk=>?_⟩,fun j hj=>?_,fun i j hi hj=>?_⟩
 ·rw [vC]
  have e1:T r k/T r c=sm (fun j=>Z j k*(E r j/T r c)) n:=by
   rw [hE r k hr hk,vC,Rat.div_def,Rat.mul_comm,←wM]
   refine eU fun j _=>?_
   rw [Rat.div_def,Rat.mul_comm,Rat.mul_assoc]
  unfold nB
  by_cases e:i=r
  ·rw [if_pos e,e1]
   exact eU fun j _=>by rw [if_pos e]
  ·rw [if_neg e,hE i k hi hk,vC,e1,←wM,Rat.sub_eq_add_neg,←aEH,←aEA]
   refine eU fun j _=>?_
   rw [if_neg e,Rat.sub_eq_add_neg,Rat.mul_add,Rat.mul_neg,←Rat.mul_assoc,←Rat.mul_assoc,Rat.mul_comm (T i c)]
 ·by_cases e:j=r
  ·rw [e,bD];exact hc
  ·rw [cO e];exact hb j hj
 ·unfold nB
  by_cases e:j=r
  ·rw [e,bD,Rat.div_def,Rat.mul_inv_cancel _ hp]
   by_cases e2:i=r
   ·rw [if_pos e2,if_pos e2]
   ·rw [if_neg e2,if_neg e2,Rat.mul_one,Rat.sub_self]
  ·have h0:T r (b j)=0:=by rw [hu r j hr hj,if_neg fun h=>e h.symm]
   rw [cO e,h0,Rat.div_def,Rat.zero_mul]
   by_cases e2:i=r
   ·rw [if_pos e2,if_neg (by omega)]
   ·rw [if_neg e2,Rat.mul_zero,Rat.sub_eq_add_neg,Rat.neg_zero,Rat.add_zero]
    exact hu i j hi hj
theorem TI.start {n w:Nat} {Z:Nat→Nat→Rat} (hw:n≤w) (hz:∀i j,i<n→j<n→Z i j=if i=j then 1 else 0):TI n w Z Z (fun j=>j):=
 ⟨⟨vJ,fun i c hi hc=>by
  rw [vC]
  have:sm (fun j=>Z j c*vJ i j) n=sm (fun j=>if j=i then Z i c else 0) n:=eU fun j _=>by
   unfold vJ
   by_cases e:j=i
   ·rw [if_pos e,e,if_pos rfl,Rat.mul_one]
   ·rw [if_neg e,if_neg (fun h=>e h.symm),Rat.mul_zero]
  rw [this]
  have key:∀m,m≤n→sm (fun j=>if j=i then Z i c else 0) m=if i<m then Z i c else 0:=by
   intro m
   induction m with
   |zero=>intro _;rw [if_neg (by omega)];rfl
   |succ m ih=>
    intro hm
    show sm _ m+(if m=i then Z i c else 0)=_
    rw [ih (by omega)]
    by_cases e:m=i
    ·rw [if_pos e,if_neg (by omega),if_pos (by omega),Rat.zero_add]
    ·rw [if_neg e,Rat.add_zero]
     by_cases e2:i<m
     ·rw [if_pos e2,if_pos (by omega)]
     ·rw [if_neg e2,if_neg (by omega)]
  rw [key n (Nat.le_refl n),if_pos hi]⟩,fun j hj=>by omega,fun i j hi hj=>hz i j hi hj⟩
theorem aLE {M:Nat}:∀n,n≤64→fM M n≤(64*M)^n
 |0,_=>Nat.le_refl _
 |n+1,h=>by
  show(n+1)*(M*fM M n)≤_
  rw [Nat.pow_succ,Nat.mul_comm ((64*M)^n),←Nat.mul_assoc]
  exact Nat.mul_le_mul (Nat.mul_le_mul_right M h) (aLE n (by omega))
theorem TI.scale {n w:Nat} {Z T:Nat→Nat→Rat} {b:Nat→Nat} (h:TI n w Z T b) {D:Rat} (hD:D≠0):TI n w (fun i c=>Z i c*D) T b:=by
 obtain⟨⟨E,hE⟩,hb,hu⟩:=h
 refine⟨⟨fun i j=>E i j/D,fun i c hi hc=>?_⟩,hb,hu⟩
 rw [hE i c hi hc,vC,vC]
 refine eU fun j _=>?_
 rw [Rat.div_def,Rat.mul_comm (E i j),Rat.mul_assoc,←Rat.mul_assoc D,Rat.mul_inv_cancel _ hD,Rat.one_mul]
theorem TI.bd {n w M k:Nat} {Z T:Nat→Nat→Rat} {b:Nat→Nat} {D:Rat} (h:TI n w Z T b) (hD:D≠0) (hZ:∀i c,i<n→c<w→isZ M (Z i c*D)) (hn:n≤64) (hM:(64*M)^n<2^k):zS n w k T:=by
 obtain⟨⟨E,hE⟩,hb,hu⟩:=h.scale hD
 exact aH3 hE hb hu hZ (Nat.lt_of_le_of_lt (aLE n hn) hM)
end Go.Proofs.YtolfcbpgmfbgmaaGreat
set_option linter.unusedVariables false
namespace Go.Proofs.YtolfcbpgmfbgmaaGreat
end Go.Proofs.YtolfcbpgmfbgmaaGreat
set_option linter.unusedVariables false
namespace Go.Proofs.YtolfcbpgmfbgmaaGreat
end Go.Proofs.YtolfcbpgmfbgmaaGreat
set_option linter.unusedVariables false
namespace Go.Proofs.YtolfcbpgmfbgmaaGreat
end Go.Proofs.YtolfcbpgmfbgmaaGreat
set_option linter.unusedVariables false
namespace Go.Proofs.YtolfcbpgmfbgmaaGreat
theorem aHp {m:Nat} {a:Rat} (ha:Bd m a) (hm:m≤1073741824):aIe a=some true:=by unfold aIe;rw [ha.qs hm];rfl
end Go.Proofs.YtolfcbpgmfbgmaaGreat
set_option linter.unusedVariables false
namespace Go.Proofs.YtolfcbpgmfbgmaaGreat
end Go.Proofs.YtolfcbpgmfbgmaaGreat
set_option linter.unusedVariables false
namespace Go.Proofs.YtolfcbpgmfbgmaaGreat
end Go.Proofs.YtolfcbpgmfbgmaaGreat
set_option linter.unusedVariables false
namespace Go.Proofs.YtolfcbpgmfbgmaaGreat
end Go.Proofs.YtolfcbpgmfbgmaaGreat
set_option linter.unusedVariables false
namespace Go.Proofs.YtolfcbpgmfbgmaaGreat
def z0:Nat→Rat:=fun _=>0
theorem aIA:yN 1 1=some 1:=by rw [aDO (by omega) (by omega),aJy]
end Go.Proofs.YtolfcbpgmfbgmaaGreat
set_option linter.unusedVariables false
namespace Go.Proofs.YtolfcbpgmfbgmaaGreat
def ord (N:Nat):List Nat:=mp (fun i=>i+1) N
end Go.Proofs.YtolfcbpgmfbgmaaGreat
set_option linter.unusedVariables false
namespace Go.Proofs.YtolfcbpgmfbgmaaGreat
theorem aBq:Bd 8 (1:Rat):=(show Bd 1 (1:Rat) by constructor<;>decide).mono (by omega)
end Go.Proofs.YtolfcbpgmfbgmaaGreat
set_option linter.unusedVariables false
namespace Go.Proofs.YtolfcbpgmfbgmaaGreat
/-- A number that is whole when it is multiplied so often. -/
def dn (D e M:Nat) (x:Rat):Prop:=isZ M (x*((D^e:Nat):Rat))
theorem dn.mono {D e M N:Nat} {x:Rat} (h:dn D e M x) (hn:M≤N):dn D e N x:=isZ.mono h hn
theorem dn.zero {D e M:Nat}:dn D e M 0:=⟨0,by rw [Rat.zero_mul];rfl,Nat.zero_le _⟩
theorem dn.add {D e M N:Nat} {x y:Rat} (h:dn D e M x) (k:dn D e N y):dn D e (M+N) (x+y):=by
 unfold dn;rw [Rat.add_mul];exact isZ.add h k
theorem dn.neg {D e M:Nat} {x:Rat} (h:dn D e M x):dn D e M (-x):=by
 obtain⟨q,h1,h2⟩:=h
 exact⟨-q,by rw [Rat.neg_mul,h1,Rat.intCast_neg],by omega⟩
theorem dn.mul {D e e' M N:Nat} {x y:Rat} (h:dn D e M x) (k:dn D e' N y):dn D (e+e') (M*N) (x*y):=by
 have:=isZ.mul h k
 unfold dn
 rw [Nat.pow_add,Rat.natCast_mul]
 have e2:x*y*(((D^e:Nat):Rat)*((D^e':Nat):Rat))=x*((D^e:Nat):Rat)*(y*((D^e':Nat):Rat)):=by
  rw [Rat.mul_assoc,←Rat.mul_assoc y,Rat.mul_comm y,Rat.mul_assoc ((D^e:Nat):Rat),←Rat.mul_assoc]
 rw [e2];exact this
theorem dn.up {D e M:Nat} {x:Rat} (h:dn D e M x):dn D (e+1) (M*D) x:=by
 have h1:dn D 1 D 1:=⟨(D:Int),by rw [Rat.one_mul,Nat.pow_one];rfl,by simp⟩
 have:=h.mul h1
 rwa [Rat.mul_one] at this
end Go.Proofs.YtolfcbpgmfbgmaaGreat
set_option linter.unusedVariables false
namespace Go.Proofs.YtolfcbpgmfbgmaaGreat
/-- The first tableau. -/
def rC (M:Nat→Nat→Rat) (q:Nat→Rat) (n i c:Nat):Rat:=
 if c<n then(if i=c then 1 else 0) else if c<2*n then -(M i (c-n)) else if c=2*n then -1 else q i
theorem aGa {M:Nat→Nat→Rat} {q:Nat→Rat} {n:Nat}:TI n (2*n+2) (rC M q n) (rC M q n) (fun j=>j):=TI.start (by omega) fun i j hi hj=>if_pos hj
end Go.Proofs.YtolfcbpgmfbgmaaGreat
set_option linter.unusedVariables false
namespace Go.Proofs.YtolfcbpgmfbgmaaGreat
/-- The rows of a tableau as they lie. -/
structure yC (n w:Nat) (rs:List (List Rat)) (od:Nat→Nat) (T:Nat→Nat→Rat):Prop where
 lt:∀i,i<n→od i<rs.length
 inj:∀i j,i<n→j<n→od i=od j→i=j
 row:∀i,i<n→rs.getD (od i) []=mp (T i) w
def l3 (n j:Nat):Nat:=if j=0 then 2*n+1 else j-1
def lx (T:Nat→Nat→Rat) (n i:Nat) (c:Rat) (k:Nat) (d:Rat):Nat→Nat→Bool
 |0,_=>false
 |t+1,j=>bif decide (T i (l3 n j)/c=T k (l3 n j)/d) then lx T n i c k d t (j+1) else decide (T i (l3 n j)/c<T k (l3 n j)/d)
def les (T:Nat→Nat→Rat) (n i:Nat) (c:Rat) (k:Nat) (d:Rat):Bool:=lx T n i c k d (n+1) 0
theorem aGq {m k:Nat} {a b:Rat} (ha:Bd m a) (hb:Bd k b) (hm:m≤1073741824) (hk:k≤1073741824):aHS a b=some (if a<b then -1 else if b<a then 1 else 0):=by
 unfold aHS;rw [ha.qs hm,hb.qs hk];rfl
theorem aBK {a b:Rat}:((if a<b then -1 else if b<a then 1 else 0:Int)=0↔a=b)∧decide ((if a<b then -1 else if b<a then 1 else 0:Int)<0)=decide (a<b):=by
 by_cases h:a<b
 ·rw [if_pos h]
  refine⟨⟨fun h2=>absurd h2 (by decide),fun h2=>?_⟩,by rw [decide_eq_true h];rfl⟩
  rw [h2] at h;exact absurd h (Rat.lt_irrefl)
 ·rw [if_neg h]
  by_cases h2:b<a
  ·rw [if_pos h2]
   refine⟨⟨fun h3=>absurd h3 (by decide),fun h3=>?_⟩,by rw [decide_eq_false h];rfl⟩
   rw [h3] at h2;exact absurd h2 (Rat.lt_irrefl)
  ·rw [if_neg h2]
   exact⟨⟨fun _=>Rat.le_antisymm (Rat.not_lt.1 h2) (Rat.not_lt.1 h),fun _=>rfl⟩,by rw [decide_eq_false h];rfl⟩
theorem aGE {n j:Nat} (h:j≤n):l3 n j<2*n+2:=by unfold l3;split<;>omega
theorem aDx {n:Nat} {rs:List (List Rat)} {od:Nat→Nat} {T:Nat→Nat→Rat} (hr:yC n (2*n+2) rs od T) {B C:Nat} (hT:zS n (2*n+2) B T) {i k:Nat} (hi:i<n) (hk:k<n) {c d:Rat} (hc:Bd C c) (hd:Bd C d) (hBC:B+C≤500000000) (hn:n≤1000) (K:Nat):
  ∀(t j fu:Nat),j+t=n+1→t<fu→aN K (i:Int) c (k:Int) d (n:Int) (mp od n) rs fu ((j:Int)-1)=some (.ret (lx T n i c k d t j))∨(lx T n i c k d t j=false∧aN K (i:Int) c (k:Int) d (n:Int) (mp od n) rs fu ((j:Int)-1)=some (.go ()))
 |0,j,fu,hj,hf=>by
  obtain⟨fu',rfl,_⟩:=bI hf
  refine .inr ⟨rfl,?_⟩
  simp only [aN,dF (show¬(j:Int)-1<(n:Int) by omega),cP]
 |t+1,j,fu,hj,hf=>by
  obtain⟨fu',rfl,_⟩:=bI hf
  have hl:=aGE (n:=n) (j:=j) (by omega)
  have b1:=(hT i _ hi hl).div hc
  have b2:=(hT k _ hk hl).div hd
  have ih:=aDx hr hT hi hk hc hd hBC hn K t (j+1) fu' (by omega) (by omega)
  have key:cX K (i:Int) c (k:Int) d (mp od n) rs ((j:Int)-1) (aN K (i:Int) c (k:Int) d (n:Int) (mp od n) rs fu') ((l3 n j:Nat):Int)=bif decide (T i (l3 n j)/c=T k (l3 n j)/d) then aN K (i:Int) c (k:Int) d (n:Int) (mp od n) rs fu' (((j+1:Nat):Int)-1) else some (.ret (decide (T i (l3 n j)/c<T k (l3 n j)/d))):=by
   simp only [cX,jO (f:=od) hi,jO (f:=od) hk,oB,hr.row i hi,hr.row k hk,jO (f:=T i) hl,jO (f:=T k) hl,zI (hT i _ hi hl) hc (by omega) (by omega),zI (hT k _ hk hl) hd (by omega) (by omega),aGq b1 b2 (by omega) (by omega)]
   by_cases h:T i (l3 n j)/c=T k (l3 n j)/d
   ·rw [nF (aBK.1.2 h),cP,decide_eq_true h,cU,nA (by omega),oB]
    congr 1
    omega
   ·rw [nT (fun h2=>h (aBK.1.1 h2)),cU,decide_eq_false h,cP,aBK.2]
  have main:aN K (i:Int) c (k:Int) d (n:Int) (mp od n) rs (fu'+1) ((j:Int)-1)=bif decide (T i (l3 n j)/c=T k (l3 n j)/d) then aN K (i:Int) c (k:Int) d (n:Int) (mp od n) rs fu' (((j+1:Nat):Int)-1) else some (.ret (decide (T i (l3 n j)/c<T k (l3 n j)/d))):=by
   rw [←key]
   by_cases h0:j=0
   ·subst h0
    have c1:aO (2*(n:Int))=some (2*(n:Int)):=nA (by omega)
    have c2:aO (2*(n:Int)+1)=some ((l3 n 0:Nat):Int):=by
     rw [nA (by omega)];congr 1
    simp only [aN,dT (show((0:Nat):Int)-1<(n:Int) by omega),cU,dT (show((0:Nat):Int)-1<0 by omega),c1,c2,oB]
   ·have e:((l3 n j:Nat):Int)=(j:Int)-1:=by unfold l3;rw [if_neg h0];omega
    rw [e]
    simp only [aN,dT (show(j:Int)-1<(n:Int) by omega),cU,dF (show¬(j:Int)-1<0 by omega),cP]
  rw [main]
  have el:lx T n i c k d (t+1) j=bif decide (T i (l3 n j)/c=T k (l3 n j)/d) then lx T n i c k d t (j+1) else decide (T i (l3 n j)/c<T k (l3 n j)/d):=rfl
  rw [el]
  by_cases h:T i (l3 n j)/c=T k (l3 n j)/d
  ·rw [decide_eq_true h,cU,cU];exact ih
  ·rw [decide_eq_false h,cP,cP];exact .inl rfl
theorem aFb {n:Nat} {rs:List (List Rat)} {od:Nat→Nat} {T:Nat→Nat→Rat} {a6:List Int} (hr:yC n (2*n+2) rs od T) {B C:Nat} (hT:zS n (2*n+2) B T) {i k:Nat} (hi:i<n) (hk:k<n) {c d:Rat} (hc:Bd C c) (hd:Bd C d) (hBC:B+C≤500000000) (hn:n≤1000) {K:Nat} (hK:2000≤K):cZ K (i:Int) c (k:Int) d (n:Int) (mp od n) a6 rs=some (les T n i c k d):=by
 have:=aDx hr hT hi hk hc hd hBC hn K (n+1) 0 K (by omega) (by omega)
 rw [show((0:Nat):Int)-1=-1 from rfl] at this
 rcases this with h|⟨h1,h2⟩
 ·simp only [cZ,h,oB];rfl
 ·simp only [cZ,h2,oB,gI]
  exact congrArg some h1.symm
def v0 (T:Nat→Nat→Rat) (n i:Nat) (c:Rat) (j:Nat):Rat:=T i (l3 n j)/c
theorem aGX {n:Nat} {T:Nat→Nat→Rat} {B C i:Nat} {c:Rat} (hT:zS n (2*n+2) B T) (hi:i<n) (hc:Bd C c) (hB:B≤1073741824) (hC:C≤1073741824) (hn:n≤1000) (K:Nat):∀(t j fu:Nat),j+t=n→t<fu→k6 K (mp (T i) (2*n+2)) (n:Int) c fu (mp (v0 T n i c) (j+1)) (j:Int)=some (mp (v0 T n i c) (n+1))
 |0,j,fu,hj,hf=>by
  obtain⟨fu',rfl,_⟩:=bI hf
  have e:j=n:=by omega
  subst e
  simp only [k6,dF (show¬(j:Int)<(j:Int) by omega),cP]
 |t+1,j,fu,hj,hf=>by
  obtain⟨fu',rfl,_⟩:=bI hf
  have e:v0 T n i c (j+1)=T i j/c:=by unfold v0 l3;rw [if_neg (by omega),Nat.add_sub_cancel]
  have ap:=apM (g:=v0 T n i c) (i:=j+1) (by omega)
  rw [e] at ap
  simp only [k6,dT (show(j:Int)<(n:Int) by omega),cU,jO (f:=T i) (n:=2*n+2) (i:=j) (by omega),oB,zI (hT i j hi (by omega)) hc hB hC,ap,uR (i:=j) (by omega)]
  exact aGX hT hi hc hB hC hn K t (j+1) fu' (by omega) (by omega)
theorem aDV {n:Nat} {T:Nat→Nat→Rat} {B C i:Nat} {c:Rat} (hT:zS n (2*n+2) B T) (hi:i<n) (hc:Bd C c) (hB:B≤1073741824) (hC:C≤1073741824) (hn:n≤1000) {K:Nat} (hK:2000≤K):mA K (mp (T i) (2*n+2)) (n:Int) c=some (mp (v0 T n i c) (n+1)):=by
 have:=aGX hT hi hc hB hC hn K n 0 K (by omega) (by omega)
 simp only [Int.natCast_zero] at this
 have c1:aO (2*(n:Int))=some (2*(n:Int)):=nA (by omega)
 have c2:aO (2*(n:Int)+1)=some ((2*n+1:Nat):Int):=by rw [nA (by omega)];congr 1
 have e:[T i (2*n+1)/c]=mp (v0 T n i c) (0+1):=rfl
 simp only [mA,c1,c2,oB,jO (f:=T i) (n:=2*n+2) (i:=2*n+1) (by omega),zI (hT i (2*n+1) hi (by omega)) hc hB hC,e,this,t0]
theorem aDp {n:Nat} {T:Nat→Nat→Rat} {B C i k:Nat} {c d:Rat} (hT:zS n (2*n+2) B T) (hi:i<n) (hk:k<n) (hc:Bd C c) (hd:Bd C d) (hBC:B+C≤500000000) (hn:n≤1000) (K:Nat):∀(t j fu:Nat),j+t=n+1→t<fu→gR K (mp (v0 T n i c) (n+1)) (mp (v0 T n k d) (n+1)) fu (j:Int)=some (.ret (lx T n i c k d t j))∨(lx T n i c k d t j=false∧gR K (mp (v0 T n i c) (n+1)) (mp (v0 T n k d) (n+1)) fu (j:Int)=some (.go ()))
 |0,j,fu,hj,hf=>by
  obtain⟨fu',rfl,_⟩:=bI hf
  refine .inr ⟨rfl,?_⟩
  simp only [gR,bT,dF (show¬(j:Int)<((n+1:Nat):Int) by omega),cP]
 |t+1,j,fu,hj,hf=>by
  obtain⟨fu',rfl,_⟩:=bI hf
  have hl:=aGE (n:=n) (j:=j) (by omega)
  have b1:Bd (B+C) (v0 T n i c j):=(hT i _ hi hl).div hc
  have b2:Bd (B+C) (v0 T n k d j):=(hT k _ hk hl).div hd
  have ih:=aDp hT hi hk hc hd hBC hn K t (j+1) fu' (by omega) (by omega)
  have el:lx T n i c k d (t+1) j=bif decide (v0 T n i c j=v0 T n k d j) then lx T n i c k d t (j+1) else decide (v0 T n i c j<v0 T n k d j):=rfl
  rw [el]
  simp only [gR,bT,dT (show(j:Int)<((n+1:Nat):Int) by omega),cU,jO (f:=v0 T n i c) (n:=n+1) (i:=j) (by omega),jO (f:=v0 T n k d) (n:=n+1) (i:=j) (by omega),oB,aGq b1 b2 (by omega) (by omega)]
  by_cases h:v0 T n i c j=v0 T n k d j
  ·rw [nF (aBK.1.2 h),cP,decide_eq_true h,cU,uR (i:=j) (by omega),oB];exact ih
  ·rw [nT (fun h2=>h (aBK.1.1 h2)),cU,decide_eq_false h,cP,aBK.2];exact .inl rfl
theorem aDo {n:Nat} {T:Nat→Nat→Rat} {B C i k:Nat} {c d:Rat} (hT:zS n (2*n+2) B T) (hi:i<n) (hk:k<n) (hc:Bd C c) (hd:Bd C d) (hBC:B+C≤500000000) (hn:n≤1000) {K:Nat} (hK:2000≤K):lV K (mp (v0 T n i c) (n+1)) (mp (v0 T n k d) (n+1))=some (les T n i c k d):=by
 have:=aDp hT hi hk hc hd hBC hn K (n+1) 0 K (by omega) (by omega)
 simp only [Int.natCast_zero] at this
 rcases this with h|⟨h1,h2⟩
 ·simp only [lV,h,oB];rfl
 ·simp only [lV,h2,oB,s8]
  exact congrArg some h1.symm
end Go.Proofs.YtolfcbpgmfbgmaaGreat
set_option linter.unusedVariables false
namespace Go.Proofs.YtolfcbpgmfbgmaaGreat
def wC (T:Nat→Nat→Rat) (r c k:Nat):Rat:=T r k/T r c
theorem aE7 {n w r c B:Nat} {T:Nat→Nat→Rat} (hT:zS n w B T) (hr:r<n) (hc:c<w) (hB:B≤500000000) (hw:w≤100000) (K:Nat):∀(t k fu:Nat),k+t=w→t<fu→jX K (mx T n w) (r:Int) (c:Int) fu (mp (wC T r c) k) (k:Int)=some (mp (wC T r c) w)
 |0,k,fu,hk,hf=>by
  obtain⟨fu',rfl,_⟩:=bI hf
  have e:k=w:=by omega
  subst e
  simp only [jX,zB (g:=T) (w:=k) hr,oB,bT,dF (show¬(k:Int)<(k:Int) by omega),cP]
 |t+1,k,fu,hk,hf=>by
  obtain⟨fu',rfl,_⟩:=bI hf
  have hkw:k<w:=by omega
  have ap:=apM (g:=wC T r c) (i:=k) (by omega)
  simp only [jX,zB (g:=T) (w:=w) hr,oB,bT,dT (show(k:Int)<(w:Int) by omega),cU,jO (f:=T r) hkw,jO (f:=T r) hc,zI (hT r k hr hkw) (hT r c hr hc) (by omega) (by omega),show T r k/T r c=wC T r c k from rfl,ap,uR (i:=k) (by omega)]
  exact aE7 hT hr hc hB hw K t (k+1) fu' (by omega) (by omega)
theorem aGs {n w r c B k:Nat} {T:Nat→Nat→Rat} (hT:zS n w B T) (hr:r<n) (hc:c<w) (hk:k<w):Bd (B+B) (wC T r c k):=(hT r k hr hk).div (hT r c hr hc)
theorem aFI {n w r c i B:Nat} {T:Nat→Nat→Rat} (hT:zS n w B T) (hr:r<n) (hc:c<w) (hi:i<n) (hne:i≠r) (hB:B≤200000000) (hw:w≤100000) (K:Nat):∀(t k fu:Nat),k+t=w→t<fu→jU K (mx T n w) (c:Int) (mp (wC T r c) w) (i:Int) fu (mp (nB T r c i) k) (k:Int)=some (mp (nB T r c i) w)
 |0,k,fu,hk,hf=>by
  obtain⟨fu',rfl,_⟩:=bI hf
  have e:k=w:=by omega
  subst e
  simp only [jU,bT,dF (show¬(k:Int)<(k:Int) by omega),cP]
 |t+1,k,fu,hk,hf=>by
  obtain⟨fu',rfl,_⟩:=bI hf
  have hkw:k<w:=by omega
  have ap:=apM (g:=nB T r c i) (i:=k) (by omega)
  have e:T i k-T i c*wC T r c k=nB T r c i k:=by unfold nB wC;rw [if_neg hne]
  have b:=aGs hT hr hc hkw
  have b2:=hT i c hi hc
  simp only [jU,bT,dT (show(k:Int)<(w:Int) by omega),cU,zB (g:=T) (w:=w) hi,oB,jO (f:=T i) hkw,jO (f:=T i) hc,jO (f:=wC T r c) hkw,aEF b2 b (by omega) (by omega),aG2 (hT i k hi hkw) (b2.mul b) (by omega) (by omega),e,ap,uR (i:=k) (by omega)]
  exact aFI hT hr hc hi hne hB hw K t (k+1) fu' (by omega) (by omega)
theorem aFB {n w r c B:Nat} {T:Nat→Nat→Rat} (hT:zS n w B T) (hr:r<n) (hc:c<w) (hB:B≤200000000) (hw:w≤100000) (hn:n≤100000) {K:Nat} (hK:w<K):∀(t i fu:Nat),i+t=n→t<fu→fD K (mx T n w) (r:Int) (c:Int) (mp (wC T r c) w) fu (mx (nB T r c) i w) (i:Int)=some (mx (nB T r c) n w)
 |0,i,fu,hk,hf=>by
  obtain⟨fu',rfl,_⟩:=bI hf
  have e:i=n:=by omega
  subst e
  simp only [fD,vV,dF (show¬(i:Int)<(i:Int) by omega),cP]
 |t+1,i,fu,hk,hf=>by
  obtain⟨fu',rfl,_⟩:=bI hf
  have hin:i<n:=by omega
  have ap:sK (mx (nB T r c) i w) [mp (nB T r c i) w]=some (mx (nB T r c) (i+1) w):=apM (g:=fun i=>mp (nB T r c i) w) (by omega)
  have ih:=aFB hT hr hc hB hw hn hK t (i+1) fu' (by omega) (by omega)
  by_cases e:i=r
  ·have e2:mp (wC T r c) w=mp (nB T r c i) w:=hU fun k _=>by unfold nB wC;rw [if_pos e]
   simp only [fD,vV,dT (show(i:Int)<(n:Int) by omega),cU,qT (show(i:Int)=(r:Int) by omega)]
   rw [e2] at ih ⊢
   simp only [ap,oB,uR (i:=i) (by omega)]
   exact ih
  ·have h82:=aFI hT hr hc hin e hB hw K w 0 K (by omega) hK
   simp only [Int.natCast_zero,zK] at h82
   simp only [fD,vV,dT (show(i:Int)<(n:Int) by omega),cU,qF (show(i:Int)≠(r:Int) by omega),cP,h82,oB,tA,ap,uR (i:=i) (by omega)]
   exact ih
theorem aKE {n w r c B:Nat} {T:Nat→Nat→Rat} (hT:zS n w B T) (hr:r<n) (hc:c<w) (hB:B≤200000000) (hw:w≤100000) (hn:n≤100000) {K:Nat} (hK:w+n<K):rW K (mx T n w) (r:Int) (c:Int)=some (mx (nB T r c) n w):=by
 have e1:=aE7 hT hr hc (by omega) hw K w 0 K (by omega) (by omega)
 have e2:=aFB hT hr hc hB hw hn (K:=K) (by omega) n 0 K (by omega) (by omega)
 have e3:mx (nB T r c) 0 w=[]:=rfl
 rw [e3] at e2
 simp only [Int.natCast_zero,zK] at e1 e2
 simp only [rW,e1,oB,s7,e2,tC]
theorem aMu {xs ys:List Rat} (h:xs.length=ys.length):cpL xs ys=ys:=by
 unfold cpL
 rw [h,Nat.min_self,List.take_length,←h,List.drop_length,List.append_nil]
theorem aCD {rs:List (List Rat)} {o p:Nat} {x:List Rat} (ho:o<rs.length):(rs.set o x).getD p []=if p=o then x else rs.getD p []:=by
 rw [List.getD_eq_getElem?_getD,List.getD_eq_getElem?_getD,List.getElem?_set]
 by_cases h:o=p
 ·subst h;rw [if_pos rfl,if_pos ho,if_pos rfl];rfl
 ·rw [if_neg h,if_neg (fun e=>h e.symm)]
theorem yC.set {n w:Nat} {rs:List (List Rat)} {od:Nat→Nat} {T:Nat→Nat→Rat} (h:yC n w rs od T) {i:Nat} (hi:i<n) (f:Nat→Rat):yC n w (rs.set (od i) (mp f w)) od (lU T i f):=
 ⟨fun j hj=>by rw [List.length_set];exact h.lt j hj,h.inj,fun j hj=>by
  rw [aCD (h.lt i hi)]
  by_cases e:j=i
  ·subst e;rw [if_pos rfl,bD]
  ·rw [if_neg (fun e2=>e (h.inj j i hj hi e2)),cO e]
   exact h.row j hj⟩
theorem yC.congr {n w:Nat} {rs:List (List Rat)} {od:Nat→Nat} {T T':Nat→Nat→Rat} (h:yC n w rs od T) (e:∀i k,i<n→k<w→T i k=T' i k):yC n w rs od T':=
 ⟨h.lt,h.inj,fun i hi=>by rw [h.row i hi];exact hU fun k hk=>e i k hi hk⟩
theorem aFF {w v27 B:Nat} {a5:List (List Rat)} {x22:List Rat} {g:Nat→Rat} {p:Rat} (hx:cpL x22 (a5.getD v27 [])=mp g w) (hg:∀k,k<w→Bd B (g k)) (hp:Bd B p) (hB:B≤1073741824) (hw:w≤100000) (K:Nat):∀(t k fu:Nat),k+t=w→t<fu→bX K a5 x22 v27 p fu (mp (fun j=>if j<k then g j/p else g j) w) (k:Int)=some (mp (fun j=>g j/p) w)
 |0,k,fu,hk,hf=>by
  obtain⟨fu',rfl,_⟩:=bI hf
  have e:k=w:=by omega
  subst e
  simp only [bX,hx,bT,dF (show¬(k:Int)<(k:Int) by omega),cP]
  exact congrArg some (hU fun j hj=>if_pos hj)
 |t+1,k,fu,hk,hf=>by
  obtain⟨fu',rfl,_⟩:=bI hf
  have hkw:k<w:=by omega
  have e1:(fun j=>if j<k then g j/p else g j) k=g k:=if_neg (by omega)
  have e2:mp (lU (fun j=>if j<k then g j/p else g j) k (g k/p)) w=mp (fun j=>if j<k+1 then g j/p else g j) w:=hU fun j _=>by
   by_cases e:j=k
   ·subst e;rw [bD,if_pos (by omega)]
   ·rw [cO e]
    by_cases hlt:j<k
    ·rw [if_pos hlt,if_pos (by omega)]
    ·rw [if_neg hlt,if_neg (by omega)]
  simp only [bX,hx,bT,dT (show(k:Int)<(w:Int) by omega),cU,jO (f:=fun j=>if j<k then g j/p else g j) hkw,e1,oB,zI (hg k hkw) hp hB hB,yJ (f:=fun j=>if j<k then g j/p else g j) hkw,e2,uR (i:=k) (by omega)]
  exact aFF hx hg hp hB hw K t (k+1) fu' (by omega) (by omega)
theorem aDD {w o B:Nat} {a5 x66:List (List Rat)} {g q:Nat→Rat} {x:Rat} (ho:o<x66.length) (hne:a5.length≠o) (h66:x66.getD o []=mp g w) (hq:x66.getD a5.length []=mp q w) (hg:∀k,k<w→Bd B (g k)) (hqb:∀k,k<w→Bd (B+B) (q k)) (hx:Bd B x) (hB:B≤200000000) (hw:w≤100000) (K:Nat):∀(t k fu:Nat),k+t=w→t<fu→bS K a5 x66 o x fu (x66.set o (mp (fun j=>if j<k then g j-x*q j else g j) w)) (k:Int)=some (x66.set o (mp (fun j=>g j-x*q j) w))
 |0,k,fu,hk,hf=>by
  obtain⟨fu',rfl,_⟩:=bI hf
  have e:k=w:=by omega
  subst e
  simp only [bS,h66,bT,dF (show¬(k:Int)<(k:Int) by omega),cP]
  exact congrArg (fun z=>some (x66.set o z)) (hU fun j hj=>if_pos hj)
 |t+1,k,fu,hk,hf=>by
  obtain⟨fu',rfl,_⟩:=bI hf
  have hkw:k<w:=by omega
  have e1:(fun j=>if j<k then g j-x*q j else g j) k=g k:=if_neg (by omega)
  have e2:mp (lU (fun j=>if j<k then g j-x*q j else g j) k (g k-x*q k)) w=mp (fun j=>if j<k+1 then g j-x*q j else g j) w:=hU fun j _=>by
   by_cases e:j=k
   ·subst e;rw [bD,if_pos (by omega)]
   ·rw [cO e]
    by_cases hlt:j<k
    ·rw [if_pos hlt,if_pos (by omega)]
    ·rw [if_neg hlt,if_neg (by omega)]
  have r1:(x66.set o (mp (fun j=>if j<k then g j-x*q j else g j) w)).getD o []=mp (fun j=>if j<k then g j-x*q j else g j) w:=by rw [aCD ho,if_pos rfl]
  have r2:(x66.set o (mp (fun j=>if j<k then g j-x*q j else g j) w)).getD a5.length []=mp q w:=by rw [aCD ho,if_neg hne];exact hq
  simp only [bS,h66,bT,dT (show(k:Int)<(w:Int) by omega),cU,r1,r2,jO (f:=fun j=>if j<k then g j-x*q j else g j) hkw,jO (f:=q) hkw,e1,oB,aEF hx (hqb k hkw) (by omega) (by omega),aG2 (hg k hkw) (hx.mul (hqb k hkw)) (by omega) (by omega),yJ (f:=fun j=>if j<k then g j-x*q j else g j) hkw,e2,List.set_set,uR (i:=k) (by omega)]
  exact aDD ho hne h66 hq hg hqb hx hB hw K t (k+1) fu' (by omega) (by omega)
def pst (T:Nat→Nat→Rat) (r c t i k:Nat):Rat:=if i<t∨i=r then nB T r c i k else T i k
theorem aI5 {T:Nat→Nat→Rat} {r c t:Nat}:∀i k,(lU (pst T r c t) t (nB T r c t)) i k=pst T r c (t+1) i k:=fun i k=>by
 by_cases e:i=t
 ·subst e;rw [bD];unfold pst;rw [if_pos (.inl (by omega))]
 ·rw [cO e];unfold pst
  by_cases h:i<t∨i=r
  ·rw [if_pos h,if_pos (by omega)]
  ·rw [if_neg h,if_neg (by omega)]
theorem aEX {T:Nat→Nat→Rat} {r c t:Nat} (h:t=r∨T t c=0):∀i k,pst T r c t i k=pst T r c (t+1) i k:=fun i k=>by
 unfold pst
 by_cases h1:i<t∨i=r
 ·rw [if_pos h1,if_pos (by omega)]
 ·rw [if_neg h1]
  by_cases e:i=t
  ·subst e
   have h2:T i c=0:=by rcases h with h|h;exact absurd (.inr h) h1;exact h
   rw [if_pos (.inl (by omega))]
   unfold nB
   rw [if_neg (fun e=>h1 (.inr e)),h2,Rat.zero_mul,Rat.sub_eq_add_neg,Rat.neg_zero,Rat.add_zero]
  ·rw [if_neg (by omega)]
theorem aAW {n w r c B:Nat} {a5:List (List Rat)} {od:Nat→Nat} {T:Nat→Nat→Rat} (hT:zS n w B T) (hr:r<n) (hc:c<w) (hor:od r=a5.length) (hB:B≤200000000) (hw:w≤100000) (hn:n≤100000) {K:Nat} (hK:w<K):∀(t i fu:Nat) (rs:List (List Rat)),i+t=n→t<fu→yC n w rs od (pst T r c i)→∃rs',aU K (r:Int) (c:Int) a5 (mp od n) fu rs (i:Int)=some rs'∧yC n w rs' od (nB T r c)
 |0,i,fu,rs,hk,hf,h=>by
  obtain⟨fu',rfl,_⟩:=bI hf
  have e:i=n:=by omega
  subst e
  refine⟨rs,by simp only [aU,bT,dF (show¬(i:Int)<(i:Int) by omega),cP],h.congr fun j k hj _=>if_pos (.inl hj)⟩
 |t+1,i,fu,rs,hk,hf,h=>by
  obtain⟨fu',rfl,_⟩:=bI hf
  have hin:i<n:=by omega
  have hrow:=h.row i hin
  by_cases e:i=r
  ·obtain⟨rs',g1,g2⟩:=aAW hT hr hc hor hB hw hn hK t (i+1) fu' rs (by omega) (by omega) (h.congr fun j k _ _=>aEX (.inl e) j k)
   refine⟨rs',?_,g2⟩
   simp only [aU,bT,dT (show(i:Int)<(n:Int) by omega),cU,jO (f:=od) hin,oB,hrow,jO (f:=pst T r c i i) hc,qT (show(i:Int)=(r:Int) by omega),uR (i:=i) (by omega)]
   exact g1
  ·have ei:pst T r c i i=T i:=by funext k;unfold pst;rw [if_neg (by omega)]
   rw [ei] at hrow
   by_cases hz:T i c=0
   ·obtain⟨rs',g1,g2⟩:=aAW hT hr hc hor hB hw hn hK t (i+1) fu' rs (by omega) (by omega) (h.congr fun j k _ _=>aEX (.inr hz) j k)
    refine⟨rs',?_,g2⟩
    simp only [aU,bT,dT (show(i:Int)<(n:Int) by omega),cU,jO (f:=od) hin,oB,hrow,jO (f:=T i) hc,qF (show(i:Int)≠(r:Int) by omega),cP,z4 (hT i c hin hc) (by omega),qT (aN6.2 hz),uR (i:=i) (by omega)]
    exact g1
   ·have hne:a5.length≠od i:=fun h2=>e (h.inj i r hin hr (by rw [←h2,hor]))
    have hq:rs.getD a5.length []=mp (wC T r c) w:=by
     rw [←hor,h.row r hr]
     exact hU fun k _=>by unfold pst nB wC;rw [if_pos (.inr rfl),if_pos rfl]
    have h112:=aDD (h.lt i hin) hne hrow hq (fun k hk=>hT i k hin hk) (fun k hk=>aGs hT hr hc hk) (hT i c hin hc) hB hw K w 0 K (by omega) hK
    have e0:rs.set (od i) (mp (fun j=>if j<0 then T i j-T i c*wC T r c j else T i j) w)=rs:=by
     have e9:mp (fun j=>if j<0 then T i j-T i c*wC T r c j else T i j) w=rs.getD (od i) []:=by
      rw [hrow];exact hU fun j _=>if_neg (by omega)
     rw [e9,List.getD_eq_getElem?_getD,List.getElem?_eq_getElem (h.lt i hin),Option.getD_some,List.set_getElem_self]
    rw [e0] at h112
    simp only [Int.natCast_zero] at h112
    have e1:mp (fun j=>T i j-T i c*wC T r c j) w=mp (nB T r c i) w:=hU fun j _=>by unfold nB wC;rw [if_neg e]
    rw [e1] at h112
    obtain⟨rs',g1,g2⟩:=aAW hT hr hc hor hB hw hn hK t (i+1) fu' _ (by omega) (by omega) ((h.set hin (nB T r c i)).congr fun j k _ _=>aI5 j k)
    refine⟨rs',?_,g2⟩
    simp only [aU,bT,dT (show(i:Int)<(n:Int) by omega),cU,jO (f:=od) hin,oB,hrow,jO (f:=T i) hc,qF (show(i:Int)≠(r:Int) by omega),cP,z4 (hT i c hin hc) (by omega),qF (fun h2=>hz (aN6.1 h2)),h112,fW,uR (i:=i) (by omega)]
    exact g1
theorem aKc {n w r c B:Nat} {rs:List (List Rat)} {od b:Nat→Nat} {T:Nat→Nat→Rat} {a2:Int} (h:yC n w rs od T) (hT:zS n w B T) (hr:r<n) (hc:c<w) (hB:B≤200000000) (hw:w≤100000) (hn:n≤100000) {K:Nat} (hK:w+n<K):∃rs' od',fR K (r:Int) (c:Int) a2 (mp od n) (mp (fun i=>((b i:Nat):Int)) n) rs=some (((b r:Nat):Int),mp od' n,mp (fun i=>((lU b r c i:Nat):Int)) n,rs')∧yC n w rs' od' (nB T r c):=by
 have hrow:=h.row r hr
 have hcp:cpL (mp (fun _=>(0:Rat)) w) (rs.getD (od r) [])=mp (T r) w:=by rw [hrow];exact aMu (by rw [bT,bT])
 have h53:=aFF hcp (fun k hk=>hT r k hr hk) (hT r c hr hc) (by omega) hw K w 0 K (by omega) (by omega)
 have e0:mp (fun j=>if j<0 then T r j/T r c else T r j) w=mp (T r) w:=hU fun j _=>if_neg (by omega)
 rw [e0] at h53
 have h0:yC n w (rs++[mp (wC T r c) w]) (lU od r rs.length) (pst T r c 0):=by
  refine⟨fun i hi=>?_,fun i j hi hj e=>?_,fun i hi=>?_⟩
  ·by_cases e:i=r
   ·rw [e,bD];simp
   ·rw [cO e];have:=h.lt i hi;simp;omega
  ·by_cases e1:i=r
   ·by_cases e2:j=r
    ·rw [e1,e2]
    ·rw [e1,bD,cO e2] at e;have:=h.lt j hj;omega
   ·by_cases e2:j=r
    ·rw [e2,bD,cO e1] at e;have:=h.lt i hi;omega
    ·rw [cO e1,cO e2] at e;exact h.inj i j hi hj e
  ·by_cases e:i=r
   ·rw [e,bD,List.getD_eq_getElem?_getD,List.getElem?_append_right (Nat.le_refl _),Nat.sub_self]
    show mp (wC T r c) w=_
    exact hU fun k _=>by unfold pst nB wC;rw [if_pos (.inr rfl),if_pos rfl]
   ·have hl:=h.lt i hi
    rw [cO e,List.getD_eq_getElem?_getD,List.getElem?_append_left hl,←List.getD_eq_getElem?_getD,h.row i hi]
    exact hU fun k _=>by unfold pst;rw [if_neg (by omega)]
 obtain⟨rs',g1,g2⟩:=aAW (a5:=rs) hT hr hc bD hB hw hn (K:=K) (by omega) n 0 K _ (by omega) (by omega) h0
 simp only [Int.natCast_zero] at h53 g1
 have e3:mp (fun j=>T r j/T r c) w=mp (wC T r c) w:=rfl
 rw [e3] at h53
 have e4:mp (lU (fun i=>((b i:Nat):Int)) r (c:Int)) n=mp (fun i=>((lU b r c i:Nat):Int)) n:=hU fun i _=>by
  by_cases e:i=r
  ·rw [e,bD,bD]
  ·rw [cO e,cO e]
 refine⟨rs',lU od r rs.length,?_,g2⟩
 simp only [fR,jO (f:=od) hr,oB,hrow,bT,aHO (z:=(0:Rat)) (n:=w) (by omega)]
 rw [←hrow,hcp]
 simp only [jO (f:=T r) hc,oB,h53,f9,jO (f:=od) hr,yJ (f:=od) hr,g1,f8,jO (f:=fun i=>((b i:Nat):Int)) hr,yJ (f:=fun i=>((b i:Nat):Int)) hr,e4]
end Go.Proofs.YtolfcbpgmfbgmaaGreat
set_option linter.unusedVariables false
namespace Go.Proofs.YtolfcbpgmfbgmaaGreat
def enc (s:Option Nat):Int:=match s with|none=>-1|some r=>(r:Int)
def sel (T:Nat→Nat→Rat) (n c:Nat):Nat→Nat→Option Nat→Option Nat
 |0,_,s=>s
 |t+1,i,s=>bif decide (0<(T i c).num.sign) then(match s with
  |none=>sel T n c t (i+1) (some i)
  |some r=>bif les T n i (T i c) r (T r c) then sel T n c t (i+1) (some i) else sel T n c t (i+1) (some r)) else sel T n c t (i+1) s
theorem w8 {T:Nat→Nat→Rat} {n c:Nat}:∀t i s r,(∀q,s=some q→q<i∧0<(T q c).num.sign)→sel T n c t i s=some r→r<i+t∧0<(T r c).num.sign
 |0,i,s,r,h,e=>by have:=h r e;exact⟨by omega,this.2⟩
 |t+1,i,s,r,h,e=>by
  unfold sel at e
  by_cases hp:0<(T i c).num.sign
  ·rw [decide_eq_true hp,cU] at e
   have hi:∀q,some i=some q→q<i+1∧0<(T q c).num.sign:=fun q hq=>by cases hq;exact⟨by omega,hp⟩
   cases s with
   |none=>have:=w8 t (i+1) (some i) r hi e;exact⟨by omega,this.2⟩
   |some p=>
    have hs:∀q,some p=some q→q<i+1∧0<(T q c).num.sign:=fun q hq=>by have:=h q hq;exact⟨by omega,this.2⟩
    simp only at e
    cases hl:les T n i (T i c) p (T p c)
    ·rw [hl,cP] at e;have:=w8 t (i+1) (some p) r hs e;exact⟨by omega,this.2⟩
    ·rw [hl,cU] at e;have:=w8 t (i+1) (some i) r hi e;exact⟨by omega,this.2⟩
  ·rw [decide_eq_false hp,cP] at e
   have:=w8 t (i+1) s r (fun q hq=>by have:=h q hq;exact⟨by omega,this.2⟩) e
   exact⟨by omega,this.2⟩
theorem aDh {n c B:Nat} {rs:List (List Rat)} {od:Nat→Nat} {T:Nat→Nat→Rat} {v6:Int×(List Nat)×(List Int)×(List (List Rat))} {x:Int} {bs:List Int} (h6:v6.1=(n:Int)) (h:yC n (2*n+2) rs od T) (hT:zS n (2*n+2) B T) (hc:c<2*n+2) (hB:B≤200000000) (hn:n≤1000) {K:Nat} (hK:2000≤K):∀(t i fu:Nat) (s:Option Nat),i+t=n→t<fu→(∀q,s=some q→q<i)→cG K v6 (x,mp od n,bs,rs) (c:Int) fu (enc s) (i:Int)=some (enc (sel T n c t i s))
 |0,i,fu,s,hi,hf,hs=>by
  obtain⟨fu',rfl,_⟩:=bI hf
  simp only [cG,bT,dF (show¬(i:Int)<(n:Int) by omega),cP,sel]
 |t+1,i,fu,s,hi,hf,hs=>by
  obtain⟨fu',rfl,_⟩:=bI hf
  have hin:i<n:=by omega
  have hb:=hT i c hin hc
  have ih:=fun s hs=>aDh (x:=x) (bs:=bs) h6 h hT hc hB hn hK t (i+1) fu' s (by omega) (by omega) hs
  simp only [cG,bT,dT (show(i:Int)<(n:Int) by omega),cU,jO (f:=od) hin,oB,h.row i hin,jO (f:=T i) hc,z4 hb (by omega),sel]
  by_cases hp:0<(T i c).num.sign
  ·simp only [dT hp,cU]
   cases s with
   |none=>
    simp only [enc,dT (show(-1:Int)<0 by omega),cU,uR (i:=i) (by omega),oB]
    exact ih (some i) (fun q hq=>by cases hq;omega)
   |some p=>
    have hpn:p<n:=by have:=hs p rfl;omega
    have hl:=aFb (a6:=bs) h hT hin hpn hb (hT p c hpn hc) (by omega) hn hK
    simp only [enc,dF (show¬(p:Int)<0 by omega),cP,jO (f:=od) hpn,h.row p hpn,jO (f:=T p) hc,oB,h6,hl]
    cases les T n i (T i c) p (T p c)
    ·simp only [cP,uR (i:=i) (by omega),oB]
     exact ih (some p) (fun q hq=>by have:=hs q hq;omega)
    ·simp only [cU,uR (i:=i) (by omega),oB]
     exact ih (some i) (fun q hq=>by cases hq;omega)
  ·simp only [dF hp,cP,uR (i:=i) (by omega),oB]
   exact ih s (fun q hq=>by have:=hs q hq;omega)
theorem aDv {n c B:Nat} {T:Nat→Nat→Rat} {a1:List Rat} (h1:a1.length=n) (hT:zS n (2*n+2) B T) (hc:c<2*n+2) (hB:B≤200000000) (hn:n≤1000) {K:Nat} (hK:2000≤K):∀(t i fu:Nat) (s:Option Nat),i+t=n→t<fu→(∀q,s=some q→q<i)→dL K a1 (mx T n (2*n+2)) (c:Int) fu (enc s) (i:Int)=some (enc (sel T n c t i s))
 |0,i,fu,s,hi,hf,hs=>by
  obtain⟨fu',rfl,_⟩:=bI hf
  simp only [dL,h1,dF (show¬(i:Int)<(n:Int) by omega),cP,sel]
 |t+1,i,fu,s,hi,hf,hs=>by
  obtain⟨fu',rfl,_⟩:=bI hf
  have hin:i<n:=by omega
  have hb:=hT i c hin hc
  have ih:=fun s hs=>aDv h1 hT hc hB hn hK t (i+1) fu' s (by omega) (by omega) hs
  simp only [dL,h1,dT (show(i:Int)<(n:Int) by omega),cU,zB (g:=T) (w:=2*n+2) hin,oB,jO (f:=T i) hc,z4 hb (by omega),sel]
  by_cases hp:0<(T i c).num.sign
  ·simp only [dT hp,dF (show¬(T i c).num.sign≤0 by omega),cU,cP]
   cases s with
   |none=>
    simp only [enc,dT (show(-1:Int)<0 by omega),cU,uR (i:=i) (by omega),oB]
    exact ih (some i) (fun q hq=>by cases hq;omega)
   |some p=>
    have hpn:p<n:=by have:=hs p rfl;omega
    have hbp:=hT p c hpn hc
    have hl:=aDo hT hin hpn hb hbp (by omega) hn hK
    simp only [enc,dF (show¬(p:Int)<0 by omega),cP,aDV hT hin hb (by omega) (by omega) hn hK,zB (g:=T) (w:=2*n+2) hpn,jO (f:=T p) hc,oB,aDV hT hpn hbp (by omega) (by omega) hn hK,hl]
    cases les T n i (T i c) p (T p c)
    ·simp only [cP,uR (i:=i) (by omega),oB]
     exact ih (some p) (fun q hq=>by have:=hs q hq;omega)
    ·simp only [cU,uR (i:=i) (by omega),oB]
     exact ih (some i) (fun q hq=>by cases hq;omega)
  ·simp only [dF hp,dT (show(T i c).num.sign≤0 by omega),cU,cP,uR (i:=i) (by omega),oB]
   exact ih s (fun q hq=>by have:=hs q hq;omega)
def swv (T:Nat→Nat→Rat) (b:Nat→Nat) (n:Nat):Nat→Nat→Rat
 |0=>z0
 |i+1=>if b i<n then lU (swv T b n i) (b i) (T i (2*n+1)) else swv T b n i
def szv (T:Nat→Nat→Rat) (b:Nat→Nat) (n:Nat):Nat→Nat→Rat
 |0=>z0
 |i+1=>if b i<n then szv T b n i else if b i<2*n then lU (szv T b n i) (b i-n) (T i (2*n+1)) else szv T b n i
theorem aE6 {n:Nat} {rs:List (List Rat)} {od b:Nat→Nat} {T:Nat→Nat→Rat} (h:yC n (2*n+2) rs od T) (hn:n≤1000) (K:Nat):∀(t i fu:Nat),i+t=n→t<fu→aY K (n:Int) (mp od n) (mp (fun i=>((b i:Nat):Int)) n) rs fu (mp (swv T b n i) n) (mp (szv T b n i) n) (i:Int)=some (mp (swv T b n n) n,mp (szv T b n n) n)
 |0,i,fu,hi,hf=>by
  obtain⟨fu',rfl,_⟩:=bI hf
  have e:i=n:=by omega
  subst e
  simp only [aY,bT,dF (show¬(i:Int)<(i:Int) by omega),cP]
 |t+1,i,fu,hi,hf=>by
  obtain⟨fu',rfl,_⟩:=bI hf
  have hin:i<n:=by omega
  have ih:=aE6 (b:=b) h hn K t (i+1) fu' (by omega) (by omega)
  have c1:aO (2*(n:Int))=some (2*(n:Int)):=nA (by omega)
  have c2:aO (2*(n:Int)+1)=some ((2*n+1:Nat):Int):=by rw [nA (by omega)];congr 1
  simp only [aY,bT,dT (show(i:Int)<(n:Int) by omega),cU,jO (f:=fun i=>((b i:Nat):Int)) hin,jO (f:=od) hin,oB,c1,c2,h.row i hin,jO (f:=T i) (n:=2*n+2) (i:=2*n+1) (by omega)]
  by_cases h1:b i<n
  ·have e1:swv T b n (i+1)=lU (swv T b n i) (b i) (T i (2*n+1)):=if_pos h1
   have e2:szv T b n (i+1)=szv T b n i:=if_pos h1
   rw [e1,e2] at ih
   simp only [dT (show((b i:Nat):Int)<(n:Int) by omega),cU,jO (f:=swv T b n i) h1,yJ (f:=swv T b n i) h1,oB,uR (i:=i) (by omega)]
   exact ih
  ·have e1:swv T b n (i+1)=swv T b n i:=if_neg h1
   by_cases h2:b i<2*n
   ·have e2:szv T b n (i+1)=lU (szv T b n i) (b i-n) (T i (2*n+1)):=by
     show(if b i<n then _ else _)=_
     rw [if_neg h1,if_pos h2]
    have c3:aO (((b i:Nat):Int)-(n:Int))=some ((b i-n:Nat):Int):=by rw [show((b i:Nat):Int)-(n:Int)=((b i-n:Nat):Int) by omega,nA (by omega)]
    rw [e1,e2] at ih
    simp only [dF (show¬((b i:Nat):Int)<(n:Int) by omega),cP,dT (show((b i:Nat):Int)<2*(n:Int) by omega),cU,c3,oB,jO (f:=szv T b n i) (n:=n) (i:=b i-n) (by omega),yJ (f:=szv T b n i) (n:=n) (i:=b i-n) (by omega),uR (i:=i) (by omega)]
    exact ih
   ·have e2:szv T b n (i+1)=szv T b n i:=by
     show(if b i<n then _ else _)=_
     rw [if_neg h1,if_neg h2]
    rw [e1,e2] at ih
    simp only [dF (show¬((b i:Nat):Int)<(n:Int) by omega),cP,dF (show¬((b i:Nat):Int)<2*(n:Int) by omega),uR (i:=i) (by omega),oB]
    exact ih
theorem aHx {n:Nat} {rs:List (List Rat)} {od b:Nat→Nat} {T:Nat→Nat→Rat} (h:yC n (2*n+2) rs od T) (hn:n≤1000) {K:Nat} (hK:2000≤K):dM K (n:Int) (mp od n) (mp (fun i=>((b i:Nat):Int)) n) rs=some ⟨mp (szv T b n n) n,mp (swv T b n n) n,0⟩:=by
 have:=aE6 (b:=b) h hn K n 0 K (by omega) (by omega)
 simp only [Int.natCast_zero] at this
 have e:mp (fun _=>(0:Rat)) n=mp (swv T b n 0) n:=rfl
 have e2:mp (swv T b n 0) n=mp (szv T b n 0) n:=rfl
 simp only [dM,aHO (z:=(0:Rat)) (n:=n) (by omega),oB,e]
 rw [show aY K (n:Int) (mp od n) (mp (fun i=>((b i:Nat):Int)) n) rs K (mp (swv T b n 0) n) (mp (swv T b n 0) n) 0=_ from this]
 rfl
theorem aDj {n:Nat} {b:Nat→Nat} {T:Nat→Nat→Rat} {a1:List Rat} (h1:a1.length=n) (hb:∀i,i<n→b i<2*n) (hn:n≤1000) (K:Nat):∀(t i fu:Nat),i+t=n→t<fu→eR K a1 (mx T n (2*n+2)) (mp (fun i=>((b i:Nat):Int)) n) fu (mp (swv T b n i) n) (mp (szv T b n i) n) (i:Int)=some (mp (swv T b n n) n,mp (szv T b n n) n)
 |0,i,fu,hi,hf=>by
  obtain⟨fu',rfl,_⟩:=bI hf
  have e:i=n:=by omega
  subst e
  simp only [eR,h1,dF (show¬(i:Int)<(i:Int) by omega),cP]
 |t+1,i,fu,hi,hf=>by
  obtain⟨fu',rfl,_⟩:=bI hf
  have hin:i<n:=by omega
  have ih:=aDj (T:=T) h1 hb hn K t (i+1) fu' (by omega) (by omega)
  have c1:aO (2*(n:Int))=some (2*(n:Int)):=nA (by omega)
  have c2:aO (2*(n:Int)+1)=some ((2*n+1:Nat):Int):=by rw [nA (by omega)];congr 1
  have h2:=hb i hin
  simp only [eR,h1,dT (show(i:Int)<(n:Int) by omega),cU,jO (f:=fun i=>((b i:Nat):Int)) hin,oB]
  by_cases h3:b i<n
  ·have e1:swv T b n (i+1)=lU (swv T b n i) (b i) (T i (2*n+1)):=if_pos h3
   have e2:szv T b n (i+1)=szv T b n i:=if_pos h3
   rw [e1,e2] at ih
   simp only [dT (show((b i:Nat):Int)<(n:Int) by omega),cU,zB (g:=T) (w:=2*n+2) hin,c1,c2,oB,jO (f:=T i) (n:=2*n+2) (i:=2*n+1) (by omega),jO (f:=swv T b n i) h3,yJ (f:=swv T b n i) h3,uR (i:=i) (by omega)]
   exact ih
  ·have e1:swv T b n (i+1)=swv T b n i:=if_neg h3
   have e2:szv T b n (i+1)=lU (szv T b n i) (b i-n) (T i (2*n+1)):=by
    show(if b i<n then _ else _)=_
    rw [if_neg h3,if_pos h2]
   have c3:aO (((b i:Nat):Int)-(n:Int))=some ((b i-n:Nat):Int):=by rw [show((b i:Nat):Int)-(n:Int)=((b i-n:Nat):Int) by omega,nA (by omega)]
   rw [e1,e2] at ih
   simp only [dF (show¬((b i:Nat):Int)<(n:Int) by omega),cP,c3,zB (g:=T) (w:=2*n+2) hin,c1,c2,oB,jO (f:=T i) (n:=2*n+2) (i:=2*n+1) (by omega),jO (f:=szv T b n i) (n:=n) (i:=b i-n) (by omega),yJ (f:=szv T b n i) (n:=n) (i:=b i-n) (by omega),uR (i:=i) (by omega)]
   exact ih
end Go.Proofs.YtolfcbpgmfbgmaaGreat
set_option linter.unusedVariables false
namespace Go.Proofs.YtolfcbpgmfbgmaaGreat
/-- The run from a tableau on. -/
def lem (n most:Nat):Nat→(Nat→Nat→Rat)→(Nat→Nat)→Nat→Nat→Nat→aM×Int
 |0,_,_,_,_,_=>(⟨[],[],0⟩,16)
 |f+1,T,b,r,c,cnt=>
  if cnt=most then(⟨[],[],0⟩,16)
  else if b r=2*n then(⟨mp (szv (nB T r c) (lU b r c) n n) n,mp (swv (nB T r c) (lU b r c) n n) n,((cnt+1:Nat):Int)⟩,0)
  else match sel (nB T r c) n (if b r<n then b r+n else b r-n) n 0 none with
   |none=>(⟨[],[],0⟩,15)
   |some r'=>lem n most f (nB T r c) (lU b r c) r' (if b r<n then b r+n else b r-n) (cnt+1)
structure LI (n:Nat) (Z T:Nat→Nat→Rat) (b:Nat→Nat) (r c:Nat):Prop where
 ti:TI n (2*n+2) Z T b
 hr:r<n
 hc:c≤2*n
 hp:T r c≠0
 hb:∀j,j<n→b j≤2*n
 fst:c=2*n→b r≠2*n
theorem TI.inj {n w:Nat} {Z T:Nat→Nat→Rat} {b:Nat→Nat} (h:TI n w Z T b) {i j:Nat} (hi:i<n) (hj:j<n) (e:b i=b j):i=j:=by
 by_cases h1:i=j
 ·exact h1
 ·have a:=h.un i i hi hi
  have c:=h.un i j hi hj
  rw [if_pos rfl,e] at a
  rw [if_neg h1,a] at c
  exact absurd c (by decide)
theorem aGk {n x:Nat} (hx:x≤2*n) (hne:x≠2*n):(if x<n then x+n else x-n)<2*n:=by split<;>omega
theorem LI.next {n:Nat} {Z T:Nat→Nat→Rat} {b:Nat→Nat} {r c r':Nat} (h:LI n Z T b r c) (hne:b r≠2*n) (hs:sel (nB T r c) n (if b r<n then b r+n else b r-n) n 0 none=some r'):LI n Z (nB T r c) (lU b r c) r' (if b r<n then b r+n else b r-n):=by
 have hlt:=aGk (h.hb r h.hr) hne
 obtain⟨s1,s2⟩:=w8 n 0 none r' (fun q hq=>by cases hq) hs
 refine⟨h.ti.pivot h.hr (by have:=h.hc;omega) h.hp,by omega,by omega,fun e=>?_,fun j hj=>?_,fun e=>by omega⟩
 ·rw [e] at s2;exact absurd s2 (by decide)
 ·by_cases e:j=r
  ·rw [e,bD];exact h.hc
  ·rw [cO e];exact h.hb j hj
def Sm (n B:Nat) (Z:Nat→Nat→Rat):Prop:=∀T b,TI n (2*n+2) Z T b→zS n (2*n+2) B T
theorem aNH {n most B:Nat} {Z:Nat→Nat→Rat} {v6:Int×(List Nat)×(List Int)×(List (List Rat))} (h6:v6.1=(n:Int)) (hZ:Sm n B Z) (hB:B≤200000000) (hn:n≤1000) (hm:most≤100000) {K:Nat} (hK:5000≤K):∀(f cnt fu:Nat) (rs:List (List Rat)) (od:Nat→Nat) (T:Nat→Nat→Rat) (b:Nat→Nat) (r c:Nat),cnt+f=most+1→0<f→f≤fu→yC n (2*n+2) rs od T→LI n Z T b r c→
  bZ K (most:Int) v6 fu (mp od n) (mp (fun i=>((b i:Nat):Int)) n) rs (r:Int) (c:Int) (cnt:Int)=some (.ret (lem n most f T b r c cnt))
 |0,cnt,fu,rs,od,T,b,r,c,hc,h0,hf,hR,h=>by omega
 |f+1,cnt,fu,rs,od,T,b,r,c,hc,h0,hf,hR,h=>by
  obtain⟨fu',rfl,hf'⟩:=bI (show f<fu by omega)
  unfold lem
  by_cases e:cnt=most
  ·rw [if_pos e]
   simp only [bZ,qT (show(cnt:Int)=(most:Int) by omega),cU]
  ·rw [if_neg e]
   have hcw:=h.hc
   have hT:=hZ T b h.ti
   have ti':=h.ti.pivot h.hr (show c<2*n+2 by omega) h.hp
   have hT':=hZ _ _ ti'
   obtain⟨rs',od',p1,p2⟩:=aKc (b:=b) (a2:=v6.1) hR hT h.hr (show c<2*n+2 by omega) hB (by omega) (by omega) (K:=K) (by omega)
   have hbr:=h.hb r h.hr
   have c1:aO (2*(n:Int))=some (2*(n:Int)):=nA (by omega)
   rw [h6] at p1
   simp only [bZ,qF (show(cnt:Int)≠(most:Int) by omega),cP,h6,p1,oB,c1]
   by_cases e2:b r=2*n
   ·rw [if_pos e2]
    simp only [qT (show((b r:Nat):Int)=2*(n:Int) by omega),cU,aHx (b:=lU b r c) p2 hn (show 2000≤K by omega),oB,uR (i:=cnt) (by omega)]
   ·rw [if_neg e2]
    have hlt:=aGk hbr e2
    have c2:aO (((b r:Nat):Int)+(n:Int))=some ((b r+n:Nat):Int):=by rw [nA (by omega)];rfl
    have hsel:=aDh (v6:=v6) (x:=((b r:Nat):Int)) (bs:=mp (fun i=>((lU b r c i:Nat):Int)) n) h6 p2 hT' (show(if b r<n then b r+n else b r-n)<2*n+2 by omega) hB hn (show 2000≤K by omega) n 0 K none (by omega) (by omega) (fun q hq=>by cases hq)
    simp only [Int.natCast_zero,show enc none=(-1:Int) from rfl] at hsel
    have key:gQ K v6 (cnt:Int) (((b r:Nat):Int),mp od' n,mp (fun i=>((lU b r c i:Nat):Int)) n,rs') (bZ K (most:Int) v6 fu') (((if b r<n then b r+n else b r-n:Nat)):Int)=some (.ret (match sel (nB T r c) n (if b r<n then b r+n else b r-n) n 0 none with|none=>(⟨[],[],0⟩,15)|some r'=>lem n most f (nB T r c) (lU b r c) r' (if b r<n then b r+n else b r-n) (cnt+1))):=by
     simp only [gQ,hsel,oB,mC]
     cases hs:sel (nB T r c) n (if b r<n then b r+n else b r-n) n 0 none with
     |none=>rfl
     |some r'=>
      simp only [enc,dF (show¬(r':Int)<0 by omega),cP,uR (i:=cnt) (by omega),oB]
      exact aNH h6 hZ hB hn hm hK f (cnt+1) fu' rs' od' _ _ r' _ (by omega) (by omega) (by omega) p2 (h.next e2 hs)
    simp only [qF (show((b r:Nat):Int)≠2*(n:Int) by omega),cP,c2,oB]
    by_cases h3:b r<n
    ·rw [if_pos h3] at key
     simp only [dF (show¬(n:Int)≤((b r:Nat):Int) by omega),cP,if_pos h3]
     exact key
    ·rw [if_neg h3] at key
     have c3:aO (((b r:Nat):Int)-(n:Int))=some ((b r-n:Nat):Int):=by rw [show((b r:Nat):Int)-(n:Int)=((b r-n:Nat):Int) by omega,nA (by omega)]
     simp only [dT (show(n:Int)≤((b r:Nat):Int) by omega),cU,c3,oB,if_neg h3]
     exact key
theorem aM8 {n most B:Nat} {Z:Nat→Nat→Rat} {a1:List Rat} (h1:a1.length=n) (hZ:Sm n B Z) (hB:B≤200000000) (hn:n≤1000) (hm:most≤100000) {K:Nat} (hK:5000≤K):∀(f cnt fu:Nat) (T:Nat→Nat→Rat) (b:Nat→Nat) (r c:Nat),cnt+f=most+1→0<f→f≤fu→LI n Z T b r c→
  jT K a1 (most:Int) fu (mp (fun i=>((b i:Nat):Int)) n) (mx T n (2*n+2)) (r:Int) (c:Int) (cnt:Int)=some (.ret (lem n most f T b r c cnt))
 |0,cnt,fu,T,b,r,c,hc,h0,hf,h=>by omega
 |f+1,cnt,fu,T,b,r,c,hc,h0,hf,h=>by
  obtain⟨fu',rfl,hf'⟩:=bI (show f<fu by omega)
  unfold lem
  by_cases e:cnt=most
  ·rw [if_pos e]
   simp only [jT,qT (show(cnt:Int)=(most:Int) by omega),cU]
  ·rw [if_neg e]
   have hcw:=h.hc
   have hr:=h.hr
   have hT:=hZ T b h.ti
   have ti':=h.ti.pivot h.hr (show c<2*n+2 by omega) h.hp
   have hT':=hZ _ _ ti'
   have p1:=aKE hT h.hr (show c<2*n+2 by omega) hB (by omega) (by omega) (K:=K) (by omega)
   have hbr:=h.hb r h.hr
   have c1:aO (2*(n:Int))=some (2*(n:Int)):=nA (by omega)
   have e4:mp (lU (fun i=>((b i:Nat):Int)) r (c:Int)) n=mp (fun i=>((lU b r c i:Nat):Int)) n:=hU fun i _=>by
    by_cases e:i=r
    ·rw [e,bD,bD]
    ·rw [cO e,cO e]
   simp only [jT,qF (show(cnt:Int)≠(most:Int) by omega),cP,p1,oB,uR (i:=cnt) (by omega),jO (f:=fun i=>((b i:Nat):Int)) hr,yJ (f:=fun i=>((b i:Nat):Int)) hr,e4,h1,c1]
   by_cases e2:b r=2*n
   ·rw [if_pos e2]
    have hb2:∀i,i<n→lU b r c i<2*n:=fun i hi=>by
     by_cases ei:i=r
     ·rw [ei,bD]
      have:=h.fst
      by_cases ec:c=2*n
      ·exact absurd e2 (this ec)
      ·omega
     ·rw [cO ei]
      have h5:=h.hb i hi
      by_cases e6:b i=2*n
      ·exact absurd (h.ti.inj hi hr (by rw [e6,e2])) ei
      ·omega
    have hs:=aDj (T:=nB T r c) h1 hb2 hn K n 0 K (by omega) (by omega)
    simp only [Int.natCast_zero] at hs
    have z1:mp (fun _=>(0:Rat)) n=mp (swv (nB T r c) (lU b r c) n 0) n:=rfl
    have hs':eR K a1 (mx (nB T r c) n (2*n+2)) (mp (fun i=>((lU b r c i:Nat):Int)) n) K (mp (fun _=>(0:Rat)) n) (mp (fun _=>(0:Rat)) n) 0=some (mp (swv (nB T r c) (lU b r c) n n) n,mp (szv (nB T r c) (lU b r c) n n) n):=hs
    simp only [qT (show((b r:Nat):Int)=2*(n:Int) by omega),cU,aHO (z:=(0:Rat)) (n:=n) (by omega),oB,hs',sG]
   ·rw [if_neg e2]
    have hlt:=aGk hbr e2
    have c2:aO (((b r:Nat):Int)+(n:Int))=some ((b r+n:Nat):Int):=by rw [nA (by omega)];rfl
    have c3:wV ((b r+n:Nat):Int) (2*(n:Int))=some (((if b r<n then b r+n else b r-n:Nat)):Int):=by
     rw [qI (by omega) (by omega)]
     congr 1
     by_cases h3:b r<n
     ·rw [if_pos h3,Int.emod_eq_of_lt (by omega) (by omega)]
     ·rw [if_neg h3,show((b r+n:Nat):Int)=((b r-n:Nat):Int)+2*(n:Int) by omega,Int.add_emod_right,Int.emod_eq_of_lt (by omega) (by omega)]
    have hsel:=aDv h1 hT' (show(if b r<n then b r+n else b r-n)<2*n+2 by omega) hB hn (show 2000≤K by omega) n 0 K none (by omega) (by omega) (fun q hq=>by cases hq)
    simp only [Int.natCast_zero,show enc none=(-1:Int) from rfl] at hsel
    simp only [qF (show((b r:Nat):Int)≠2*(n:Int) by omega),cP,c2,oB,c3,hsel,sI]
    cases hs:sel (nB T r c) n (if b r<n then b r+n else b r-n) n 0 none with
    |none=>rfl
    |some r'=>
     simp only [enc,dF (show¬(r':Int)<0 by omega),cP]
     exact aM8 h1 hZ hB hn hm hK f (cnt+1) fu' _ _ r' _ (by omega) (by omega) (by omega) (h.next e2 hs)
end Go.Proofs.YtolfcbpgmfbgmaaGreat
set_option linter.unusedVariables false
namespace Go.Proofs.YtolfcbpgmfbgmaaGreat
theorem aFA {l:List Rat} {B:Nat} (hl:Bds B l) (hB:B≤1073741824) (hn:l.length≤1000) (K:Nat):∀(t i k:Nat),i+t=l.length→t<k→gW K l k (i:Int)=some (.go ())
 |0,i,k,hi,hk=>by
  obtain⟨k',rfl,_⟩:=bI hk
  simp only [gW,dF (show¬(i:Int)<(l.length:Int) by omega),cP]
 |t+1,i,k,hi,hk=>by
  obtain⟨k',rfl,_⟩:=bI hk
  simp only [gW,dT (show(i:Int)<(l.length:Int) by omega),cU,aMH (l:=l) (i:=i) (by omega),oB,aHp (hl _ (aGl (l:=l) (i:=i) (by omega))) hB,Bool.not_true,cP,uR (i:=i) (by omega)]
  exact aFA hl hB hn K t (i+1) k' (by omega) (by omega)
theorem aFc {l:List Rat} {B:Nat} (hl:Bds B l) (hB:B≤1073741824) (hn:l.length≤1000) {K:Nat} (hK:l.length<K):iN K l=some true:=by
 have:=aFA hl hB hn K l.length 0 K (by omega) hK
 simp only [Int.natCast_zero] at this
 simp only [iN,this,oB,n4]
theorem aDn {l:List Rat} {B:Nat} (hl:Bds B l) (hB:B≤1073741824) (hn:l.length≤1000) (K:Nat):∀(t i k:Nat),i+t=l.length→t<k→k7 K l k (i:Int)=some (.go ())
 |0,i,k,hi,hk=>by
  obtain⟨k',rfl,_⟩:=bI hk
  simp only [k7,dF (show¬(i:Int)<(l.length:Int) by omega),cP]
 |t+1,i,k,hi,hk=>by
  obtain⟨k',rfl,_⟩:=bI hk
  simp only [k7,dT (show(i:Int)<(l.length:Int) by omega),cU,aMH (l:=l) (i:=i) (by omega),oB,aHp (hl _ (aGl (l:=l) (i:=i) (by omega))) hB,Bool.not_true,cP,uR (i:=i) (by omega)]
  exact aDn hl hB hn K t (i+1) k' (by omega) (by omega)
theorem aDB {l:List Rat} {B:Nat} (hl:Bds B l) (hB:B≤1073741824) (hn:l.length≤1000) {K:Nat} (hK:l.length<K):pQ K l=some true:=by
 have:=aDn hl hB hn K l.length 0 K (by omega) hK
 simp only [Int.natCast_zero] at this
 simp only [pQ,this,oB,t8]
theorem aDI {M:Nat→Nat→Rat} {q:Nat→Rat} {n B:Nat} (hM:zS n n B M) (hB:B≤1073741824) (hn:n≤32) {K:Nat} (hK:100≤K):∀(t i k:Nat),i+t=n→t<k→gG K (mx M n n) (mp q n) k (i:Int)=some (.go ())
 |0,i,k,hi,hk=>by
  obtain⟨k',rfl,_⟩:=bI hk
  simp only [gG,vV,dF (show¬(i:Int)<(n:Int) by omega),cP]
 |t+1,i,k,hi,hk=>by
  obtain⟨k',rfl,_⟩:=bI hk
  have hin:i<n:=by omega
  have g:=aFc (l:=mp (M i) n) (aBt fun c hc=>hM i c hin hc) hB (by rw [bT];omega) (K:=K) (by rw [bT];omega)
  simp only [gG,vV,dT (show(i:Int)<(n:Int) by omega),cU,zB (g:=M) (w:=n) hin,oB,bT,nF (rfl:(n:Int)=(n:Int)),cP,g,Bool.not_true,uR (i:=i) (by omega)]
  exact aDI hM hB hn hK t (i+1) k' (by omega) (by omega)
theorem aDl {M:Nat→Nat→Rat} {q:Nat→Rat} {n B:Nat} (hM:zS n n B M) (hq:∀i,i<n→Bd B (q i)) (hB:B≤1073741824) (hn:n≤32) {K:Nat} (hK:100≤K):g8 K (mx M n n) (mp q n)=some true:=by
 have g:=aFc (l:=mp q n) (aBt hq) hB (by rw [bT];omega) (K:=K) (by rw [bT];omega)
 have e:=aDI (q:=q) hM hB hn hK n 0 K (by omega) (by omega)
 simp only [Int.natCast_zero] at e
 simp only [g8,vV,bT,nF (rfl:(n:Int)=(n:Int)),cP,dF (show¬(32:Int)<(n:Int) by omega),g,oB,Bool.not_true,e,nN]
theorem aCr {M:Nat→Nat→Rat} {q:Nat→Rat} {n B:Nat} (hM:zS n n B M) (hB:B≤1073741824) (hn:n≤32) {K:Nat} (hK:100≤K):∀(t i k:Nat),i+t=n→t<k→kK K (mx M n n) (mp q n) k (i:Int)=some (.go ())
 |0,i,k,hi,hk=>by
  obtain⟨k',rfl,_⟩:=bI hk
  simp only [kK,vV,dF (show¬(i:Int)<(n:Int) by omega),cP]
 |t+1,i,k,hi,hk=>by
  obtain⟨k',rfl,_⟩:=bI hk
  have hin:i<n:=by omega
  have g:=aDB (l:=mp (M i) n) (aBt fun c hc=>hM i c hin hc) hB (by rw [bT];omega) (K:=K) (by rw [bT];omega)
  simp only [kK,vV,dT (show(i:Int)<(n:Int) by omega),cU,zB (g:=M) (w:=n) hin,oB,bT,nF (rfl:(n:Int)=(n:Int)),cP,g,Bool.not_true,uR (i:=i) (by omega)]
  exact aCr hM hB hn hK t (i+1) k' (by omega) (by omega)
theorem aCi {M:Nat→Nat→Rat} {q:Nat→Rat} {n B:Nat} (hM:zS n n B M) (hq:∀i,i<n→Bd B (q i)) (hB:B≤1073741824) (hn:n≤32) {K:Nat} (hK:100≤K):rY K (mx M n n) (mp q n)=some true:=by
 have g:=aDB (l:=mp q n) (aBt hq) hB (by rw [bT];omega) (K:=K) (by rw [bT];omega)
 have e:=aCr (q:=q) hM hB hn hK n 0 K (by omega) (by omega)
 simp only [Int.natCast_zero] at e
 simp only [rY,vV,bT,nF (rfl:(n:Int)=(n:Int)),cP,dF (show¬(32:Int)<(n:Int) by omega),g,oB,Bool.not_true,e,tG]
def ng (q:Nat→Rat):Nat→Nat→Bool
 |0,_=>false
 |t+1,i=>bif decide ((q i).num.sign<0) then true else ng q t (i+1)
theorem aIL {q:Nat→Rat} {n B:Nat} (hq:∀i,i<n→Bd B (q i)) (hB:B≤1073741824) (hn:n≤1000) (K:Nat):∀(t i k:Nat),i+t=n→t<k→eP K (mp q n) k (i:Int)=some (bif ng q t i then .ret true else .go ())
 |0,i,k,hi,hk=>by
  obtain⟨k',rfl,_⟩:=bI hk
  simp only [eP,bT,dF (show¬(i:Int)<(n:Int) by omega),cP,ng]
 |t+1,i,k,hi,hk=>by
  obtain⟨k',rfl,_⟩:=bI hk
  have hin:i<n:=by omega
  simp only [eP,bT,dT (show(i:Int)<(n:Int) by omega),cU,jO (f:=q) hin,oB,z4 (hq i hin) hB,ng]
  by_cases h:(q i).num.sign<0
  ·simp only [dT h,cU]
  ·simp only [dF h,cP,uR (i:=i) (by omega),oB]
   exact aIL hq hB hn K t (i+1) k' (by omega) (by omega)
theorem aGV {q:Nat→Rat} {n B:Nat} (hq:∀i,i<n→Bd B (q i)) (hB:B≤1073741824) (hn:n≤1000) (K:Nat):∀(t i k:Nat),i+t=n→t<k→iI K (mp q n) k (i:Int)=some (bif ng q t i then .ret true else .go ())
 |0,i,k,hi,hk=>by
  obtain⟨k',rfl,_⟩:=bI hk
  simp only [iI,bT,dF (show¬(i:Int)<(n:Int) by omega),cP,ng]
 |t+1,i,k,hi,hk=>by
  obtain⟨k',rfl,_⟩:=bI hk
  have hin:i<n:=by omega
  simp only [iI,bT,dT (show(i:Int)<(n:Int) by omega),cU,jO (f:=q) hin,oB,z4 (hq i hin) hB,ng]
  by_cases h:(q i).num.sign<0
  ·simp only [dT h,cU]
  ·simp only [dF h,cP,uR (i:=i) (by omega),oB]
   exact aGV hq hB hn K t (i+1) k' (by omega) (by omega)
theorem aMr {q:Nat→Rat} {n B:Nat} (hq:∀i,i<n→Bd B (q i)) (hB:B≤1073741824) (hn:n≤1000) {K:Nat} (hK:n<K):fA K (mp q n)=some (ng q n 0)∧pW K (mp q n)=some (ng q n 0):=by
 have e1:=aIL hq hB hn K n 0 K (by omega) hK
 have e2:=aGV hq hB hn K n 0 K (by omega) hK
 simp only [Int.natCast_zero] at e1 e2
 constructor
 ·simp only [fA,e1,oB,lS]
  cases ng q n 0<;>rfl
 ·simp only [pW,e2,oB,rV]
  cases ng q n 0<;>rfl
def rw1 (M:Nat→Nat→Rat) (n i k c:Nat):Rat:=if n≤c∧c<n+k then -(M i (c-n)) else lU z0 i 1 c
theorem aFy {M:Nat→Nat→Rat} {n i k:Nat} (hi:i<n):mp (lU (rw1 M n i k) (n+k) (-(M i k))) (2*n+2)=mp (rw1 M n i (k+1)) (2*n+2):=hU fun c _=>by
 by_cases e:c=n+k
 ·subst e;rw [bD];unfold rw1;rw [if_pos ⟨by omega,by omega⟩,Nat.add_sub_cancel_left]
 ·rw [cO e];unfold rw1
  by_cases h:n≤c∧c<n+k
  ·rw [if_pos h,if_pos ⟨h.1,by omega⟩]
  ·rw [if_neg h,if_neg (by omega)]
theorem aHv {M:Nat→Nat→Rat} {q:Nat→Rat} {n i:Nat} (hi:i<n):mp (lU (lU (rw1 M n i n) (2*n) (-1)) (2*n+1) (q i)) (2*n+2)=mp (rC M q n i) (2*n+2):=hU fun c hc=>by
 unfold rC
 by_cases e1:c=2*n+1
 ·subst e1;rw [bD,if_neg (by omega),if_neg (by omega),if_neg (by omega)]
 ·rw [cO e1]
  by_cases e2:c=2*n
  ·subst e2;rw [bD,if_neg (by omega),if_neg (by omega),if_pos rfl]
  ·rw [cO e2]
   unfold rw1
   by_cases h:c<n
   ·rw [if_neg (by omega),if_pos h]
    by_cases e3:c=i
    ·subst e3;rw [bD,if_pos rfl]
    ·rw [cO e3,if_neg (fun e=>e3 e.symm)];rfl
   ·rw [if_pos ⟨by omega,by omega⟩,if_neg h,if_pos (by omega)]
theorem aGC {M:Nat→Nat→Rat} {q:Nat→Rat} {n i B:Nat} (hM:zS n n B M) (hB:B≤1073741824) (hi:i<n) (hn:n≤1000) (K:Nat):∀(t k fu:Nat),k+t=n→t<fu→dQ K (mx M n n) (mp q n) (i:Int) fu (mp (rw1 M n i k) (2*n+2)) (k:Int)=some (mp (rw1 M n i n) (2*n+2))
 |0,k,fu,hk,hf=>by
  obtain⟨fu',rfl,_⟩:=bI hf
  have e:k=n:=by omega
  subst e
  simp only [dQ,bT,dF (show¬(k:Int)<(k:Int) by omega),cP]
 |t+1,k,fu,hk,hf=>by
  obtain⟨fu',rfl,_⟩:=bI hf
  have hkn:k<n:=by omega
  have c1:aO ((n:Int)+(k:Int))=some ((n+k:Nat):Int):=by rw [nA (by omega)];rfl
  simp only [dQ,bT,dT (show(k:Int)<(n:Int) by omega),cU,c1,oB,zB (g:=M) (w:=n) hi,jO (f:=M i) hkn,aB8 (hM i k hi hkn) hB,jO (f:=rw1 M n i k) (n:=2*n+2) (i:=n+k) (by omega),yJ (f:=rw1 M n i k) (n:=2*n+2) (i:=n+k) (by omega),aFy hi,uR (i:=k) (by omega)]
  exact aGC hM hB hi hn K t (k+1) fu' (by omega) (by omega)
theorem aES {M:Nat→Nat→Rat} {q:Nat→Rat} {n i B:Nat} (hM:zS n n B M) (hB:B≤1073741824) (hi:i<n) (hn:n≤1000) (K:Nat):∀(t k fu:Nat),k+t=n→t<fu→iY K (mx M n n) (mp q n) (i:Int) fu (mp (rw1 M n i k) (2*n+2)) (k:Int)=some (mp (rw1 M n i n) (2*n+2))
 |0,k,fu,hk,hf=>by
  obtain⟨fu',rfl,_⟩:=bI hf
  have e:k=n:=by omega
  subst e
  simp only [iY,bT,dF (show¬(k:Int)<(k:Int) by omega),cP]
 |t+1,k,fu,hk,hf=>by
  obtain⟨fu',rfl,_⟩:=bI hf
  have hkn:k<n:=by omega
  have c1:aO ((n:Int)+(k:Int))=some ((n+k:Nat):Int):=by rw [nA (by omega)];rfl
  simp only [iY,bT,dT (show(k:Int)<(n:Int) by omega),cU,c1,oB,zB (g:=M) (w:=n) hi,jO (f:=M i) hkn,aB8 (hM i k hi hkn) hB,jO (f:=rw1 M n i k) (n:=2*n+2) (i:=n+k) (by omega),yJ (f:=rw1 M n i k) (n:=2*n+2) (i:=n+k) (by omega),aFy hi,uR (i:=k) (by omega)]
  exact aES hM hB hi hn K t (k+1) fu' (by omega) (by omega)
theorem aNj:yN (-1) 1=some (-1):=by
 rw [aDO (by omega) (by omega)]
 exact congrArg some (by decide+kernel)
theorem aJL {M:Nat→Nat→Rat} {q:Nat→Rat} {n B:Nat} (hM:zS n n B M) (hB:B≤1073741824) (hn:n≤1000) {K:Nat} (hK:n<K):∀(t i fu:Nat),i+t=n→t<fu→dD K (mx M n n) (mp q n) fu (mp (fun j=>((j:Nat):Int)) i) (mp (fun j=>j) i) (mx (rC M q n) i (2*n+2)) (i:Int)=some (mp (fun j=>((j:Nat):Int)) n,mp (fun j=>j) n,mx (rC M q n) n (2*n+2))
 |0,i,fu,hi,hf=>by
  obtain⟨fu',rfl,_⟩:=bI hf
  have e:i=n:=by omega
  subst e
  simp only [dD,bT,dF (show¬(i:Int)<(i:Int) by omega),cP]
 |t+1,i,fu,hi,hf=>by
  obtain⟨fu',rfl,_⟩:=bI hf
  have hin:i<n:=by omega
  have c1:aO (2*(n:Int))=some ((2*n:Nat):Int):=by rw [nA (by omega)];rfl
  have c2:aO (((2*n:Nat):Int)+2)=some ((2*n+2:Nat):Int):=by rw [nA (by omega)];rfl
  have c3:aO (((2*n:Nat):Int)+1)=some ((2*n+1:Nat):Int):=by rw [nA (by omega)];rfl
  have e116:=aGC (q:=q) hM hB hin hn K n 0 K (by omega) hK
  have e0:mp (rw1 M n i 0) (2*n+2)=mp (lU z0 i 1) (2*n+2):=hU fun c _=>if_neg (by omega)
  rw [e0] at e116
  simp only [Int.natCast_zero] at e116
  have a1:sK (mp (fun j=>j) i) [i]=some (mp (fun j=>j) (i+1)):=apM (g:=fun j=>j) (by omega)
  have a2:sK (mp (fun j=>((j:Nat):Int)) i) [(i:Int)]=some (mp (fun j=>((j:Nat):Int)) (i+1)):=apM (g:=fun j=>((j:Nat):Int)) (by omega)
  have a3:mx (rC M q n) i (2*n+2)++[mp (rC M q n i) (2*n+2)]=mx (rC M q n) (i+1) (2*n+2):=(aB0 (fun i=>mp (rC M q n i) (2*n+2)) i).symm
  simp only [dD,bT,dT (show(i:Int)<(n:Int) by omega),cU,c1,c2,aHO (z:=(0:Rat)) (n:=2*n+2) (by omega),aIA,oB,jO (f:=fun _=>(0:Rat)) (n:=2*n+2) (i:=i) (by omega),yJ (f:=fun _=>(0:Rat)) (n:=2*n+2) (i:=i) (by omega),show lU (fun _=>(0:Rat)) i 1=lU z0 i 1 from rfl,e116,kC,aNj,jO (f:=rw1 M n i n) (n:=2*n+2) (i:=2*n) (by omega),yJ (f:=rw1 M n i n) (n:=2*n+2) (i:=2*n) (by omega),c3,jO (f:=q) hin,jO (f:=lU (rw1 M n i n) (2*n) (-1)) (n:=2*n+2) (i:=2*n+1) (by omega),yJ (f:=lU (rw1 M n i n) (2*n) (-1)) (n:=2*n+2) (i:=2*n+1) (by omega),aHv hin,vV,a1,a2,a3,uR (i:=i) (by omega)]
  exact aJL hM hB hn hK t (i+1) fu' (by omega) (by omega)
theorem aHw {M:Nat→Nat→Rat} {q:Nat→Rat} {n B:Nat} (hM:zS n n B M) (hB:B≤1073741824) (hn:n≤1000) {K:Nat} (hK:n<K):∀(t i fu:Nat),i+t=n→t<fu→jR K (mx M n n) (mp q n) 1 fu (mp (fun j=>((j:Nat):Int)) i) (mx (rC M q n) i (2*n+2)) (i:Int)=some (mp (fun j=>((j:Nat):Int)) n,mx (rC M q n) n (2*n+2))
 |0,i,fu,hi,hf=>by
  obtain⟨fu',rfl,_⟩:=bI hf
  have e:i=n:=by omega
  subst e
  simp only [jR,bT,dF (show¬(i:Int)<(i:Int) by omega),cP]
 |t+1,i,fu,hi,hf=>by
  obtain⟨fu',rfl,_⟩:=bI hf
  have hin:i<n:=by omega
  have c1:aO (2*(n:Int))=some ((2*n:Nat):Int):=by rw [nA (by omega)];rfl
  have c2:aO (((2*n:Nat):Int)+2)=some ((2*n+2:Nat):Int):=by rw [nA (by omega)];rfl
  have c3:aO (((2*n:Nat):Int)+1)=some ((2*n+1:Nat):Int):=by rw [nA (by omega)];rfl
  have e318:=aES (q:=q) hM hB hin hn K n 0 K (by omega) hK
  have e0:mp (rw1 M n i 0) (2*n+2)=mp (lU z0 i 1) (2*n+2):=hU fun c _=>if_neg (by omega)
  rw [e0] at e318
  simp only [Int.natCast_zero] at e318
  have a2:sK (mp (fun j=>((j:Nat):Int)) i) [(i:Int)]=some (mp (fun j=>((j:Nat):Int)) (i+1)):=apM (g:=fun j=>((j:Nat):Int)) (by omega)
  have a3:sK (mx (rC M q n) i (2*n+2)) [mp (rC M q n i) (2*n+2)]=some (mx (rC M q n) (i+1) (2*n+2)):=apM (g:=fun i=>mp (rC M q n i) (2*n+2)) (by omega)
  simp only [jR,bT,dT (show(i:Int)<(n:Int) by omega),cU,c1,c2,aHO (z:=(0:Rat)) (n:=2*n+2) (by omega),oB,jO (f:=fun _=>(0:Rat)) (n:=2*n+2) (i:=i) (by omega),yJ (f:=fun _=>(0:Rat)) (n:=2*n+2) (i:=i) (by omega),show lU (fun _=>(0:Rat)) i 1=lU z0 i 1 from rfl,e318,sH,aNj,jO (f:=rw1 M n i n) (n:=2*n+2) (i:=2*n) (by omega),yJ (f:=rw1 M n i n) (n:=2*n+2) (i:=2*n) (by omega),c3,jO (f:=q) hin,jO (f:=lU (rw1 M n i n) (2*n) (-1)) (n:=2*n+2) (i:=2*n+1) (by omega),yJ (f:=lU (rw1 M n i n) (2*n) (-1)) (n:=2*n+2) (i:=2*n+1) (by omega),aHv hin,a2,a3,uR (i:=i) (by omega)]
  exact aHw hM hB hn hK t (i+1) fu' (by omega) (by omega)
end Go.Proofs.YtolfcbpgmfbgmaaGreat
set_option linter.unusedVariables false
namespace Go.Proofs.YtolfcbpgmfbgmaaGreat
theorem aGJ {T:Nat→Nat→Rat} {n i:Nat} {c:Rat}:∀t j,lx T n i c i c t j=false
 |0,_=>rfl
 |t+1,j=>by unfold lx;rw [decide_eq_true (rfl:T i (l3 n j)/c=T i (l3 n j)/c),cU];exact aGJ t (j+1)
def tM (T:Nat→Nat→Rat) (n:Nat):Nat→Nat→Nat→Nat
 |0,_,r=>r
 |t+1,i,r=>bif les T n i 1 r 1 then tM T n t (i+1) i else tM T n t (i+1) r
theorem zT {T:Nat→Nat→Rat} {n:Nat}:∀t i r,r<n→i+t≤n→tM T n t i r<n
 |0,i,r,hr,_=>hr
 |t+1,i,r,hr,h=>by
  unfold tM
  cases les T n i 1 r 1
  ·exact zT t (i+1) r hr (by omega)
  ·exact zT t (i+1) i (by omega) (by omega)
theorem aIy {n B:Nat} {rs:List (List Rat)} {od:Nat→Nat} {T:Nat→Nat→Rat} {bs:List Int} (h:yC n (2*n+2) rs od T) (hT:zS n (2*n+2) B T) (hB:B≤200000000) (hn:n≤1000) {K:Nat} (hK:2000≤K):∀(t i fu r:Nat),i+t=n→t<fu→r<n→eK K ((n:Int),mp od n,bs,rs) 1 fu (r:Int) (i:Int)=some ((tM T n t i r:Nat):Int)
 |0,i,fu,r,hi,hf,hr=>by
  obtain⟨fu',rfl,_⟩:=bI hf
  simp only [eK,dF (show¬(i:Int)<(n:Int) by omega),cP,tM]
 |t+1,i,fu,r,hi,hf,hr=>by
  obtain⟨fu',rfl,_⟩:=bI hf
  have hin:i<n:=by omega
  simp only [eK,dT (show(i:Int)<(n:Int) by omega),cU,aFb (a6:=bs) h hT hin hr aBq aBq (show B+8≤500000000 by omega) hn hK,oB,uR (i:=i) (by omega),tM]
  cases les T n i 1 r 1
  ·simp only [cP];exact aIy h hT hB hn hK t (i+1) fu' r (by omega) (by omega) hr
  ·simp only [cU];exact aIy h hT hB hn hK t (i+1) fu' i (by omega) (by omega) hin
theorem aJE {n B:Nat} {T:Nat→Nat→Rat} {a1:List Rat} (h1:a1.length=n) (hT:zS n (2*n+2) B T) (hB:B≤200000000) (hn:n≤1000) {K:Nat} (hK:2000≤K):∀(t i fu r:Nat),i+t=n→t<fu→r<n→gP K a1 1 (mx T n (2*n+2)) fu (r:Int) (i:Int)=some ((tM T n t i r:Nat):Int)
 |0,i,fu,r,hi,hf,hr=>by
  obtain⟨fu',rfl,_⟩:=bI hf
  simp only [gP,h1,dF (show¬(i:Int)<(n:Int) by omega),cP,tM]
 |t+1,i,fu,r,hi,hf,hr=>by
  obtain⟨fu',rfl,_⟩:=bI hf
  have hin:i<n:=by omega
  simp only [gP,h1,dT (show(i:Int)<(n:Int) by omega),cU,zB (g:=T) (w:=2*n+2) hin,zB (g:=T) (w:=2*n+2) hr,oB,aDV hT hin aBq (by omega) (by omega) hn hK,aDV hT hr aBq (by omega) (by omega) hn hK,aDo hT hin hr aBq aBq (show B+8≤500000000 by omega) hn hK,uR (i:=i) (by omega),tM]
  cases les T n i 1 r 1
  ·simp only [cP];exact aJE h1 hT hB hn hK t (i+1) fu' r (by omega) (by omega) hr
  ·simp only [cU];exact aJE h1 hT hB hn hK t (i+1) fu' i (by omega) (by omega) hin
theorem aAS {q:Nat→Rat} {n:Nat} (h:ng q n 0=true):0<n:=by
 cases n with
 |zero=>exact absurd (show false=true from h) (by decide)
 |succ m=>exact Nat.succ_pos m
def tW (M:Nat→Nat→Rat) (q:Nat→Rat) (n most:Nat):aM×Int:=
 bif ng q n 0 then lem n most (most+1) (rC M q n) (fun j=>j) (tM (rC M q n) n n 0 0) (2*n) 0 else(⟨mp z0 n,mp q n,0⟩,0)
theorem aGm {M:Nat→Nat→Rat} {q:Nat→Rat} {n r:Nat} (hr:r<n):LI n (rC M q n) (rC M q n) (fun j=>j) r (2*n):=by
 refine⟨aGa,hr,Nat.le_refl _,?_,fun j hj=>by omega,fun _=>by omega⟩
 unfold rC
 rw [if_neg (by omega),if_neg (by omega),if_pos rfl];decide
theorem aEs {T:Nat→Nat→Rat} {n w:Nat}:yC n w (mx T n w) (fun j=>j) T:=
 ⟨fun i hi=>by rw [vV];exact hi,fun i j _ _ e=>e,fun i hi=>by unfold mx;rw [List.getD_eq_getElem?_getD,y1 hi];rfl⟩
theorem aI4 {M:Nat→Nat→Rat} {q:Nat→Rat} {n:Nat}:∀i,i≤n→swv (rC M q n) (fun j=>j) n i=(fun j=>if j<i then q j else 0)∧szv (rC M q n) (fun j=>j) n i=z0
 |0,_=>⟨funext fun j=>by show(0:Rat)=_;rw [if_neg (show¬j<0 by omega)],rfl⟩
 |i+1,h=>by
  obtain⟨e1,e2⟩:=aI4 (M:=M) (q:=q) (n:=n) i (by omega)
  have e3:rC M q n i (2*n+1)=q i:=by unfold rC;rw [if_neg (show¬2*n+1<n by omega),if_neg (show¬2*n+1<2*n by omega),if_neg (show¬2*n+1=2*n by omega)]
  unfold swv szv
  rw [if_pos (show i<n by omega),if_pos (show i<n by omega),e1,e2,e3]
  refine⟨funext fun j=>?_,rfl⟩
  by_cases e:j=i
  ·subst e;rw [bD,if_pos (by omega)]
  ·rw [cO e]
   by_cases e4:j<i
   ·rw [if_pos e4,if_pos (by omega)]
   ·rw [if_neg e4,if_neg (by omega)]
theorem aHB {M:Nat→Nat→Rat} {q:Nat→Rat} {n B most:Nat} (hM:zS n n B M) (hq:∀i,i<n→Bd B (q i)) (hZ:Sm n B (rC M q n)) (hB:B≤200000000) (hn:n≤32) (hm:most≤100000) {K:Nat} (hK:5000≤K) (hK2:most<K):
  bU K (mx M n n) (mp q n) (most:Int)=some (tW M q n most)∧rX K (mx M n n) (mp q n) (most:Int)=some (tW M q n most):=by
 have hng:=aMr hq (by omega) (show n≤1000 by omega) (show n<K by omega)
 have hT:=hZ _ _ aGa
 have s1:=aJL (q:=q) hM (by omega) (show n≤1000 by omega) (show n<K by omega) n 0 K (by omega) (by omega)
 have s2:=aHw (q:=q) hM (by omega) (show n≤1000 by omega) (show n<K by omega) n 0 K (by omega) (by omega)
 have z1:mp (fun j=>((j:Nat):Int)) 0=[]:=rfl
 have z2:mp (fun j:Nat=>j) 0=[]:=rfl
 have z3:mx (rC M q n) 0 (2*n+2)=[]:=rfl
 simp only [Int.natCast_zero,z1,z2,z3] at s1 s2
 have st:k5 K (mx M n n) (mp q n)=some ((n:Int),mp (fun j=>j) n,mp (fun j=>((j:Nat):Int)) n,mx (rC M q n) n (2*n+2)):=by
  simp only [k5,s1,oB,kY,bT]
 have c1:aO (2*(n:Int))=some ((2*n:Nat):Int):=by rw [nA (by omega)];rfl
 by_cases hneg:ng q n 0=true
 ·have hn0:=aAS hneg
  have hr:=zT (T:=rC M q n) n 0 0 hn0 (by omega)
  have l1:=aIy (bs:=mp (fun j=>((j:Nat):Int)) n) (aEs (T:=rC M q n)) hT hB (show n≤1000 by omega) (show 2000≤K by omega) n 0 K 0 (by omega) (by omega) hn0
  have l2:=aJE (a1:=mp q n) (bT _ _) hT hB (show n≤1000 by omega) (show 2000≤K by omega) (n-1) 1 K 0 (by omega) (by omega) hn0
  have e0:tM (rC M q n) n (n-1) 1 0=tM (rC M q n) n n 0 0:=by
   obtain⟨m,rfl⟩:∃m,n=m+1:=⟨n-1,by omega⟩
   have e:les (rC M q (m+1)) (m+1) 0 1 0 1=false:=aGJ _ _
   have e2:tM (rC M q (m+1)) (m+1) (m+1) 0 0=bif les (rC M q (m+1)) (m+1) 0 1 0 1 then tM (rC M q (m+1)) (m+1) m 1 0 else tM (rC M q (m+1)) (m+1) m 1 0:=rfl
   rw [e2,e,cP];rfl
  rw [e0] at l2
  simp only [Int.natCast_zero,Int.natCast_one] at l1 l2
  have r1:=aNH (v6:=((n:Int),mp (fun j=>j) n,mp (fun j=>((j:Nat):Int)) n,mx (rC M q n) n (2*n+2))) rfl hZ hB (show n≤1000 by omega) hm hK (most+1) 0 K _ _ _ _ _ _ (by omega) (by omega) (by omega) aEs (aGm (M:=M) (q:=q) hr)
  have r2:=aM8 (a1:=mp q n) (bT _ _) hZ hB (show n≤1000 by omega) hm hK (most+1) 0 K _ _ _ _ (by omega) (by omega) (by omega) (aGm (M:=M) (q:=q) hr)
  simp only [Int.natCast_zero] at r1 r2
  constructor
  ·simp only [bU,aDl hM hq (show B≤1073741824 by omega) hn (show 100≤K by omega),oB,Bool.not_true,cP,dF (show¬(most:Int)<0 by omega),st,hng.1,hneg,aIA,l1,mY,c1,r1,tW,cU]
  ·simp only [rX,aCi hM hq (show B≤1073741824 by omega) hn (show 100≤K by omega),oB,Bool.not_true,cP,dF (show¬(most:Int)<0 by omega),hng.2,hneg,aIA,s2,tD,l2,tB,bT,c1,r2,tW,cU]
 ·have hneg':ng q n 0=false:=by cases h:ng q n 0 with|true=>exact absurd h hneg|false=>rfl
  obtain⟨e1,e2⟩:=aI4 (M:=M) (q:=q) (n:=n) n (Nat.le_refl _)
  have ps:=aHx (b:=fun j=>j) (aEs (T:=rC M q n) (n:=n) (w:=2*n+2)) (show n≤1000 by omega) (show 2000≤K by omega)
  rw [e1,e2,hU (f:=fun j=>if j<n then q j else 0) (g:=q) fun i hi=>if_pos hi] at ps
  constructor
  ·simp only [bU,aDl hM hq (show B≤1073741824 by omega) hn (show 100≤K by omega),oB,Bool.not_true,cP,dF (show¬(most:Int)<0 by omega),st,hng.1,hneg',Bool.not_false,cU,ps,tW]
  ·simp only [rX,aCi hM hq (show B≤1073741824 by omega) hn (show 100≤K by omega),oB,Bool.not_true,cP,dF (show¬(most:Int)<0 by omega),hng.2,hneg',Bool.not_false,cU,bT,aHO (z:=(0:Rat)) (n:=n) (by omega),tW]
   rfl
end Go.Proofs.YtolfcbpgmfbgmaaGreat
set_option linter.unusedVariables false
namespace Go.Proofs.YtolfcbpgmfbgmaaGreat
/-- What kills the tableau kills the first one. -/
def KE (n w:Nat) (Z T:Nat→Nat→Rat):Prop:=∀x:Nat→Rat,(∀i,i<n→sm (fun k=>T i k*x k) w=0)→∀i,i<n→sm (fun k=>Z i k*x k) w=0
theorem KE.pivot {n w r c:Nat} {Z T:Nat→Nat→Rat} (h:KE n w Z T) (hr:r<n) (hp:T r c≠0):KE n w Z (nB T r c):=fun x hx=>h x fun i hi=>by
 have e0:sm (fun k=>T r k*x k) w=0:=by
  have h1:=hx r hr
  have e:sm (fun k=>nB T r c r k*x k) w=(1/T r c)*sm (fun k=>T r k*x k) w:=by
   rw [←wM];exact eU fun k _=>by unfold nB;rw [if_pos rfl];grind
  rw [e] at h1
  grind
 by_cases e:i=r
 ·rw [e];exact e0
 ·have h1:=hx i hi
  have e1:sm (fun k=>nB T r c i k*x k) w=sm (fun k=>T i k*x k) w-(T i c/T r c)*sm (fun k=>T r k*x k) w:=by
   rw [←aBn];exact eU fun k _=>by unfold nB;rw [if_neg e];grind
  rw [e1,e0] at h1
  grind
def nn (f:Nat→Rat):Nat→Nat→Prop
 |0,_=>True
 |t+1,j=>0<f j∨(f j=0∧nn f t (j+1))
theorem nn.congr {f g:Nat→Rat}:∀{t j:Nat},(∀k,f k=g k)→nn f t j→nn g t j
 |0,_,_,_=>trivial
 |t+1,j,e,h=>by
  unfold nn at h ⊢
  rw [←e j]
  exact h.imp id fun h=>⟨h.1,nn.congr e h.2⟩
theorem nn.add {f g:Nat→Rat}:∀{t j:Nat},nn f t j→nn g t j→nn (fun k=>f k+g k) t j
 |0,_,_,_=>trivial
 |t+1,j,h1,h2=>by
  unfold nn at h1 h2 ⊢
  rcases h1 with h1|⟨h1,k1⟩<;>rcases h2 with h2|⟨h2,k2⟩
  ·left;grind
  ·left;grind
  ·left;grind
  ·right;exact⟨by grind,nn.add k1 k2⟩
theorem nn.mul {f:Nat→Rat} {a:Rat} (ha:0≤a):∀{t j:Nat},nn f t j→nn (fun k=>a*f k) t j
 |0,_,_=>trivial
 |t+1,j,h=>by
  unfold nn at h ⊢
  by_cases e:a=0
  ·right
   refine⟨by rw [e,Rat.zero_mul],?_⟩
   have:∀t j,nn (fun k=>a*f k) t j:=fun t=>by
    induction t with
    |zero=>intro j;trivial
    |succ t ih=>intro j;exact Or.inr ⟨by show a*f j=0;rw [e,Rat.zero_mul],ih (j+1)⟩
   exact this t (j+1)
  ·rcases h with h|⟨h,k⟩
   ·left
    exact Rat.mul_pos (by grind) h
   ·right
    exact⟨by rw [h,Rat.mul_zero],nn.mul ha k⟩
theorem nn.head {f:Nat→Rat} {t j:Nat} (h:nn f (t+1) j):0≤f j:=by
 unfold nn at h
 rcases h with h|h
 ·exact Rat.le_of_lt h
 ·rw [h.1];exact Rat.le_refl
theorem aFs {T:Nat→Nat→Rat} {n i k:Nat} {c d:Rat}:∀t j,(lx T n i c k d t j=false→nn (fun j=>T i (l3 n j)/c-T k (l3 n j)/d) t j)∧(lx T n i c k d t j=true→nn (fun j=>T k (l3 n j)/d-T i (l3 n j)/c) t j)
 |0,j=>⟨fun _=>trivial,fun h=>absurd h (by unfold lx;decide)⟩
 |t+1,j=>by
  obtain⟨i1,i2⟩:=aFs (T:=T) (n:=n) (i:=i) (k:=k) (c:=c) (d:=d) t (j+1)
  unfold lx nn
  by_cases e:T i (l3 n j)/c=T k (l3 n j)/d
  ·rw [decide_eq_true e,cU]
   exact⟨fun h=>Or.inr ⟨by rw [e];grind,i1 h⟩,fun h=>Or.inr ⟨by rw [e];grind,i2 h⟩⟩
  ·rw [decide_eq_false e,cP]
   refine⟨fun h=>Or.inl ?_,fun h=>Or.inl ?_⟩
   ·have:=of_decide_eq_false h
    grind
   ·have:=of_decide_eq_true h
    grind
def aBC (T:Nat→Nat→Rat) (n c k r:Nat):Prop:=nn (fun j=>T k (l3 n j)/T k c-T r (l3 n j)/T r c) (n+1) 0
theorem aBk {T:Nat→Nat→Rat} {n c:Nat}:∀t i s r,(∀q,s=some q→∀k,k<i→0<(T k c).num.sign→aBC T n c k q)→(s=none→∀k,k<i→¬0<(T k c).num.sign)→sel T n c t i s=some r→∀k,k<i+t→0<(T k c).num.sign→aBC T n c k r
 |0,i,s,r,h1,h2,e,k,hk,hp=>h1 r e k (by omega) hp
 |t+1,i,s,r,h1,h2,e,k,hk,hp=>by
  unfold sel at e
  have refl:aBC T n c i i:=by
   have:∀t j,nn (fun j=>T i (l3 n j)/T i c-T i (l3 n j)/T i c) t j:=fun t=>by
    induction t with
    |zero=>intro j;trivial
    |succ t ih=>intro j;exact Or.inr ⟨by grind,ih (j+1)⟩
   exact this _ _
  by_cases hi:0<(T i c).num.sign
  ·rw [decide_eq_true hi,cU] at e
   cases s with
   |none=>
    refine aBk t (i+1) (some i) r (fun q hq k hk hp=>?_) (fun h=>by cases h) e k (by omega) hp
    cases hq
    by_cases e2:k=i
    ·rw [e2];exact refl
    ·exact absurd hp (h2 rfl k (by omega))
   |some p=>
    simp only at e
    cases hl:les T n i (T i c) p (T p c)
    ·rw [hl,cP] at e
     refine aBk t (i+1) (some p) r (fun q hq k hk hp=>?_) (fun h=>by cases h) e k (by omega) hp
     cases hq
     by_cases e2:k=i
     ·rw [e2];exact(aFs _ _).1 hl
     ·exact h1 p rfl k (by omega) hp
    ·rw [hl,cU] at e
     refine aBk t (i+1) (some i) r (fun q hq k hk hp=>?_) (fun h=>by cases h) e k (by omega) hp
     cases hq
     by_cases e2:k=i
     ·rw [e2];exact refl
     ·exact((h1 p rfl k (by omega) hp).add ((aFs _ _).2 hl)).congr fun j=>by grind
  ·rw [decide_eq_false hi,cP] at e
   refine aBk t (i+1) s r (fun q hq k hk hp=>?_) (fun h k hk=>?_) e k (by omega) hp
   ·by_cases e2:k=i
    ·rw [e2] at hp;exact absurd hp hi
    ·exact h1 q hq k (by omega) hp
   ·by_cases e2:k=i
    ·rw [e2];exact hi
    ·exact h2 h k (by omega)
theorem aIQ {a:Rat}:0<a.num↔0<a:=by
 have h1:=Rat.num_nonneg (q:=a)
 have h2:=Rat.num_eq_zero (q:=a)
 constructor
 ·intro h
  have h3:0≤a:=h1.1 (by omega)
  have h4:a≠0:=fun e=>by have:=h2.2 e;omega
  grind
 ·intro h
  have h3:0≤a.num:=h1.2 (by grind)
  have h4:a.num≠0:=fun e=>by have:=h2.1 e;grind
  omega
theorem aMW {x:Rat}:0<x.num.sign↔0<x:=by rw [Int.sign_pos_iff];exact aIQ
def aFN (n:Nat) (T:Nat→Nat→Rat):Prop:=∀i,i<n→nn (fun j=>T i (l3 n j)) (n+1) 0
theorem aFN.last {n i:Nat} {T:Nat→Nat→Rat} (h:aFN n T) (hi:i<n):0≤T i (2*n+1):=(h i hi).head
theorem aFN.pivot {n r c:Nat} {T:Nat→Nat→Rat} (h:aFN n T) (hr:r<n) (hp:0<T r c) (hm:∀k,k<n→0<T k c→aBC T n c k r):aFN n (nB T r c):=fun i hi=>by
 have hinv:(0:Rat)≤1/T r c:=by rw [Rat.div_def,Rat.one_mul];exact Rat.le_of_lt (Rat.inv_pos.2 hp)
 by_cases e:i=r
 ·exact((h r hr).mul hinv).congr fun j=>by unfold nB;rw [if_pos e];grind
 ·by_cases h2:0<T i c
  ·exact((hm i hi h2).mul (Rat.le_of_lt h2)).congr fun j=>by unfold nB;rw [if_neg e];grind
  ·have h3:0≤(-(T i c))*(1/T r c):=Rat.mul_nonneg (by grind) hinv
   exact((h i hi).add ((h r hr).mul h3)).congr fun j=>by unfold nB;rw [if_neg e];grind
theorem aCA {T:Nat→Nat→Rat} {n:Nat}:∀t i r,(∀k,k<i→nn (fun j=>T k (l3 n j)-T r (l3 n j)) (n+1) 0)→∀k,k<i+t→nn (fun j=>T k (l3 n j)-T (tM T n t i r) (l3 n j)) (n+1) 0
 |0,i,r,h,k,hk=>h k (by omega)
 |t+1,i,r,h,k,hk=>by
  unfold tM
  cases hl:les T n i 1 r 1
  ·rw [cP]
   refine aCA t (i+1) r (fun k hk=>?_) k (by omega)
   by_cases e:k=i
   ·rw [e];exact((aFs _ _).1 hl).congr fun j=>by grind
   ·exact h k (by omega)
  ·rw [cU]
   have h1:=(aFs _ _).2 hl
   refine aCA t (i+1) i (fun k hk=>?_) k (by omega)
   by_cases e:k=i
   ·rw [e]
    have:∀t j,nn (fun j=>T i (l3 n j)-T i (l3 n j)) t j:=fun t=>by
     induction t with
     |zero=>intro j;trivial
     |succ t ih=>intro j;exact Or.inr ⟨by grind,ih (j+1)⟩
    exact this _ _
   ·exact((h k (by omega)).add h1).congr fun j=>by grind
def vY (n x:Nat):Nat:=if x<n then x+n else x-n
theorem aEf {n x:Nat} (h:x<2*n):vY n x<2*n:=by unfold vY;split<;>omega
theorem zM {n x:Nat} (h:x<2*n):vY n (vY n x)=x:=by
 unfold vY
 by_cases e:x<n
 ·rw [if_pos e,if_neg (by omega)];omega
 ·rw [if_neg e,if_pos (by omega)];omega
theorem aJB {n x:Nat} (hn:0<n):vY n x≠x∨2*n≤x:=by unfold vY;split<;>omega
structure CB (n:Nat) (b:Nat→Nat) (c:Nat):Prop where
 inj:∀i j,i<n→j<n→b i=b j→i=j
 nc:∀i,i<n→b i≠c
 np:c<2*n→∀i,i<n→b i≠vY n c
 pr:∀i j,i<n→j<n→b i<2*n→b j≠vY n (b i)
theorem CB.pr' {n r c:Nat} {b:Nat→Nat} (h:CB n b c) (hr:r<n) (hc:c≤2*n):∀i j,i<n→j<n→lU b r c i<2*n→lU b r c j≠vY n (lU b r c i):=fun i j hi hj hlt=>by
 by_cases e1:i=r
 ·subst e1
  rw [bD] at hlt ⊢
  by_cases e2:j=i
  ·subst e2;rw [bD]
   intro e
   rcases aJB (n:=n) (x:=c) (by omega) with h1|h1
   ·exact h1 e.symm
   ·omega
  ·rw [cO e2];exact h.np hlt j hj
 ·rw [cO e1] at hlt ⊢
  by_cases e2:j=r
  ·subst e2;rw [bD]
   intro e
   have h1:=aEf hlt
   have h2:b i=vY n c:=by rw [e,zM hlt]
   exact h.np (by omega) i hi h2
  ·rw [cO e2];exact h.pr i j hi hj hlt
theorem CB.inj' {n r c:Nat} {b:Nat→Nat} (h:CB n b c):∀i j,i<n→j<n→lU b r c i=lU b r c j→i=j:=fun i j hi hj e=>by
 by_cases e1:i=r
 ·by_cases e2:j=r
  ·omega
  ·rw [e1,bD,cO e2] at e
   exact absurd e.symm (h.nc j hj)
 ·by_cases e2:j=r
  ·rw [e2,bD,cO e1] at e
   exact absurd e (h.nc i hi)
  ·rw [cO e1,cO e2] at e
   exact h.inj i j hi hj e
theorem CB.next {n r c:Nat} {b:Nat→Nat} (h:CB n b c) (hr:r<n) (hc:c≤2*n) (hl:b r<2*n):CB n (lU b r c) (vY n (b r)):=by
 refine⟨h.inj',fun i hi=>?_,fun _ i hi=>?_,h.pr' hr hc⟩
 ·by_cases e:i=r
  ·rw [e,bD]
   intro e2
   have h1:=aEf hl
   exact h.np (by omega) r hr (by rw [e2,zM hl])
  ·rw [cO e];exact h.pr r i hr hi hl
 ·rw [zM hl]
  by_cases e:i=r
  ·rw [e,bD];exact fun e2=>h.nc r hr e2.symm
  ·rw [cO e];exact fun e2=>e (h.inj i r hi hr e2)
theorem aBF {M:Nat→Nat→Rat} {q:Nat→Rat} {n i:Nat}:rC M q n i (2*n)=-1:=by
 unfold rC;rw [if_neg (by omega),if_neg (by omega),if_pos rfl]
theorem aFv {M:Nat→Nat→Rat} {q:Nat→Rat} {n i:Nat}:rC M q n i (2*n+1)=q i:=by
 unfold rC;rw [if_neg (by omega),if_neg (by omega),if_neg (by omega)]
theorem aK7 {q:Nat→Rat}:∀t i,ng q t i=true→∃k,i≤k∧k<i+t∧q k<0
 |0,i,h=>absurd h (by unfold ng;decide)
 |t+1,i,h=>by
  unfold ng at h
  by_cases e:(q i).num.sign<0
  ·refine⟨i,by omega,by omega,?_⟩
   rw [Int.sign_neg_iff,←Int.not_le,Rat.num_nonneg,Rat.not_le] at e;exact e
  ·rw [decide_eq_false e,cP] at h
   obtain⟨k,h1,h2,h3⟩:=aK7 t (i+1) h
   exact⟨k,by omega,by omega,h3⟩
theorem aML {M:Nat→Nat→Rat} {q:Nat→Rat} {n:Nat} (hneg:ng q n 0=true):aFN n (nB (rC M q n) (tM (rC M q n) n n 0 0) (2*n)):=fun i hi=>by
 have hm:=aCA (n:=n) (T:=rC M q n) n 0 0 (fun k hk=>by omega)
 generalize hr:tM (rC M q n) n n 0 0=r at *
 have hrn:r<n:=by rw [←hr];exact zT n 0 0 (aAS hneg) (by omega)
 by_cases e:i=r
 ·unfold nn
  left
  obtain⟨k,_,k2,k3⟩:=aK7 n 0 hneg
  have h1:=(hm k k2).head
  have e1:l3 n 0=2*n+1:=rfl
  simp only [e1,aFv] at h1
  show 0<nB (rC M q n) r (2*n) i (l3 n 0)
  unfold nB
  rw [if_pos e,e1,aFv,aBF]
  grind
 ·refine(hm i (by omega)).congr fun j=>?_
  unfold nB
  rw [if_neg e,aBF,aBF]
  grind
theorem aL5 {n:Nat}:CB n (fun j=>j) (2*n):=
 ⟨fun i j _ _ e=>e,fun i hi=>by show i≠2*n;omega,fun h=>absurd h (Nat.lt_irrefl _),fun i j hi hj _=>by show j≠vY n i;unfold vY;rw [if_pos hi];omega⟩
end Go.Proofs.YtolfcbpgmfbgmaaGreat
set_option linter.unusedVariables false
namespace Go.Proofs.YtolfcbpgmfbgmaaGreat
def psl (f:Nat→Rat):Nat→Nat→Prop
 |0,_=>False
 |t+1,j=>0<f j∨(f j=0∧psl f t (j+1))
theorem psl.congr {f g:Nat→Rat}:∀{t j:Nat},(∀k,f k=g k)→psl f t j→psl g t j
 |0,_,_,h=>h
 |t+1,j,e,h=>by
  unfold psl at h ⊢
  rw [←e j]
  exact h.imp id fun h=>⟨h.1,psl.congr e h.2⟩
theorem psl.add {f g:Nat→Rat}:∀{t j:Nat},psl f t j→nn g t j→psl (fun k=>f k+g k) t j
 |0,_,h,_=>h
 |t+1,j,h1,h2=>by
  unfold psl at h1 ⊢
  unfold nn at h2
  rcases h1 with h1|⟨h1,k1⟩<;>rcases h2 with h2|⟨h2,k2⟩
  ·left;grind
  ·left;grind
  ·left;grind
  ·right;exact⟨by grind,psl.add k1 k2⟩
theorem psl.mul {f:Nat→Rat} {a:Rat} (ha:0<a):∀{t j:Nat},psl f t j→psl (fun k=>a*f k) t j
 |0,_,h=>h
 |t+1,j,h=>by
  unfold psl at h ⊢
  rcases h with h|⟨h,k⟩
  ·left;exact Rat.mul_pos ha h
  ·right;exact⟨by rw [h,Rat.mul_zero],psl.mul ha k⟩
theorem psl.zero {f:Nat→Rat}:∀{t j:Nat},psl f t j→∃k,j≤k∧k<j+t∧f k≠0
 |0,_,h=>h.elim
 |t+1,j,h=>by
  unfold psl at h
  rcases h with h|⟨h,k⟩
  ·exact⟨j,by omega,by omega,by grind⟩
  ·obtain⟨k,h1,h2,h3⟩:=k.zero
   exact⟨k,by omega,by omega,h3⟩
theorem nn.strict {f:Nat→Rat}:∀{t j:Nat},nn f t j→(∃k,j≤k∧k<j+t∧f k≠0)→psl f t j
 |0,_,_,⟨k,h1,h2,_⟩=>by omega
 |t+1,j,h,⟨k,h1,h2,h3⟩=>by
  unfold nn at h
  unfold psl
  rcases h with h|⟨h,h'⟩
  ·exact Or.inl h
  ·refine Or.inr ⟨h,h'.strict ⟨k,?_,by omega,h3⟩⟩
   by_cases e:k=j
   ·subst e;exact absurd h h3
   ·omega
def mem (n:Nat) (b:Nat→Nat) (v:Nat):Prop:=∃i,i<n∧b i=v
structure SI (n:Nat) (Z T:Nat→Nat→Rat) (b:Nat→Nat) (c:Nat):Prop where
 ti:TI n (2*n+2) Z T b
 ke:KE n (2*n+2) Z T
 sp:∃F:Nat→Nat→Rat,∀i k,i<n→k<2*n+2→Z i k=sm (fun j=>F i j*T j k) n
 id:∀i j,i<n→j<n→Z i j=if i=j then 1 else 0
 lx:aFN n T
 cb:CB n b c
 hb:∀i,i<n→b i≤2*n
 hc:c<2*n
theorem SI.inj {n:Nat} {Z T:Nat→Nat→Rat} {b:Nat→Nat} {c:Nat} (h:SI n Z T b c):∀i j,i<n→j<n→b i=b j→i=j:=h.cb.inj
theorem SI.pos {n:Nat} {Z T:Nat→Nat→Rat} {b:Nat→Nat} {c:Nat} (h:SI n Z T b c) {i:Nat} (hi:i<n):psl (fun j=>T i (l3 n j)) (n+1) 0:=by
 refine(h.lx i hi).strict ?_
 refine Classical.byContradiction fun hno=>?_
 have zero:∀k,k<n→T i k=0:=fun k hk=>by
  refine Classical.byContradiction fun h1=>hno ⟨k+1,by omega,by omega,?_⟩
  unfold l3;rw [if_neg (by omega),show k+1-1=k by omega];exact h1
 obtain⟨E,hE⟩:=h.ti.ex
 have hE0:∀k,k<n→E i k=0:=fun k hk=>by
  have h1:=hE i k hi (by omega)
  rw [zero k hk,vC,aAn hk fun j hj hne=>by rw [h.id j k hj hk,if_neg hne,Rat.zero_mul],h.id k k hk hk,if_pos rfl,Rat.one_mul] at h1
  exact h1.symm
 have h2:=hE i (b i) hi (h.ti.lt i hi)
 rw [h.ti.un i i hi hi,if_pos rfl,vC,aB1 fun j hj=>by rw [hE0 j hj,Rat.mul_zero]] at h2
 exact absurd h2 (by decide)
theorem SI.row {n:Nat} {Z T T':Nat→Nat→Rat} {b b':Nat→Nat} {c c':Nat} (h:SI n Z T b c) (h':SI n Z T' b' c') (hm:∀v,mem n b v↔mem n b' v) {i j:Nat} (hi:i<n) (hj:j<n) (e:b i=b' j) {k:Nat} (hk:k<2*n+2):T i k=T' j k:=by
 obtain⟨E,hE⟩:=h'.ti.ex
 obtain⟨F,hF⟩:=h.sp
 let g:Nat→Rat:=fun m=>sm (fun l=>E j l*F l m) n
 have hg:∀k,k<2*n+2→T' j k=sm (fun m=>g m*T m k) n:=fun k hk=>by
  rw [hE j k hj hk,vC]
  have e1:sm (fun l=>Z l k*E j l) n=sm (fun l=>sm (fun m=>E j l*F l m*T m k) n) n:=eU fun l hl=>by
   rw [hF l k hl hk,Rat.mul_comm,←wM]
   exact eU fun m _=>by grind
  rw [e1,aEK]
  refine eU fun m _=>?_
  show _=sm (fun l=>E j l*F l m) n*T m k
  rw [Rat.mul_comm,←wM]
  exact eU fun l _=>by grind
 have gd:∀m,m<n→g m=if m=i then 1 else 0:=fun m hmn=>by
  have h1:=hg (b m) (h.ti.lt m hmn)
  rw [aAn hmn fun m' hm' hne=>by rw [h.ti.un m' m hm' hmn,if_neg hne,Rat.mul_zero],h.ti.un m m hmn hmn,if_pos rfl,Rat.mul_one] at h1
  obtain⟨j',hj',e'⟩:=(hm (b m)).1 ⟨m,hmn,rfl⟩
  rw [←h1,←e',h'.ti.un j j' hj hj']
  by_cases e2:m=i
  ·subst e2
   rw [if_pos rfl,if_pos (h'.inj j j' hj hj' (by rw [←e,e']))]
  ·rw [if_neg e2,if_neg fun e3=>e2 (h.inj m i hmn hi (by rw [e,e3,e']))]
 rw [hg k hk,aAn hi fun m hmn hne=>by rw [gd m hmn,if_neg hne,Rat.zero_mul],gd i hi,if_pos rfl,Rat.one_mul]
def wJ (n:Nat) (T:Nat→Nat→Rat) (x r:Nat):Prop:=0<T r x∧∀k,k<n→0<T k x→aBC T n x k r
theorem aE1 {n w r c:Nat} {Z T:Nat→Nat→Rat} (h:∃F:Nat→Nat→Rat,∀i k,i<n→k<w→Z i k=sm (fun j=>F i j*T j k) n) (hr:r<n) (hp:T r c≠0):∃F:Nat→Nat→Rat,∀i k,i<n→k<w→Z i k=sm (fun j=>F i j*nB T r c j k) n:=by
 obtain⟨F,hF⟩:=h
 refine⟨fun i j=>if j=r then sm (fun l=>F i l*T l c) n else F i j,fun i k hi hk=>?_⟩
 rw [hF i k hi hk]
 have e:∀j,F i j*T j k=(if j=r then F i j*T j k-F i j*T j c*(T r k/T r c) else F i j*T j k-F i j*T j c*(T r k/T r c))+(T r k/T r c)*(F i j*T j c):=fun j=>by split<;>grind
 have e1:sm (fun j=>F i j*T j k) n=sm (fun j=>F i j*T j k-(T r k/T r c)*(F i j*T j c)) n+(T r k/T r c)*sm (fun l=>F i l*T l c) n:=by
  rw [aBn];grind
 have e2:sm (fun j=>(if j=r then sm (fun l=>F i l*T l c) n else F i j)*nB T r c j k) n=sm (fun j=>(F i j*T j k-(T r k/T r c)*(F i j*T j c))+(if j=r then(T r k/T r c)*sm (fun l=>F i l*T l c) n else 0)) n:=eU fun j hj=>by
  unfold nB
  by_cases e3:j=r
  ·subst e3
   rw [if_pos rfl,if_pos rfl,if_pos rfl];grind
  ·rw [if_neg e3,if_neg e3,if_neg e3];grind
 rw [e1,e2,aEA]
 congr 1
 rw [aAn hr fun j hj hne=>if_neg hne,if_pos rfl]
theorem SI.next {n r c:Nat} {Z T:Nat→Nat→Rat} {b:Nat→Nat} (h:SI n Z T b c) (hr:r<n) (hl:wJ n T c r) (hx:b r<2*n):SI n Z (nB T r c) (lU b r c) (vY n (b r)):=by
 have hc:=h.hc
 have hp:T r c≠0:=by have:=hl.1;grind
 exact⟨h.ti.pivot hr (by omega) hp,h.ke.pivot hr hp,aE1 h.sp hr hp,h.id,h.lx.pivot hr hl.1 hl.2,h.cb.next hr (by omega) hx,fun i hi=>by
  by_cases e:i=r
  ·rw [e,bD];omega
  ·rw [cO e];exact h.hb i hi,aEf hx⟩
theorem aD2 {n r c:Nat} {b:Nat→Nat} (hi:∀i j,i<n→j<n→b i=b j→i=j) (hr:r<n) (hc:∀i,i<n→b i≠c) (v:Nat):mem n (lU b r c) v↔(v=c∨(mem n b v∧v≠b r)):=by
 constructor
 ·rintro⟨i,h1,h2⟩
  by_cases e:i=r
  ·rw [e,bD] at h2;exact Or.inl h2.symm
  ·rw [cO e] at h2
   exact Or.inr ⟨⟨i,h1,h2⟩,fun h3=>e (hi i r h1 hr (by rw [h2,h3]))⟩
 ·rintro(h|⟨⟨i,h1,h2⟩,h3⟩)
  ·exact⟨r,hr,by rw [bD,h]⟩
  ·have e:i≠r:=fun e=>h3 (by rw [←h2,e])
   exact⟨i,h1,by rw [cO e,h2]⟩
theorem aNz {n r c:Nat} {Z T:Nat→Nat→Rat} {b:Nat→Nat} (h:SI n Z T b c) (hr:r<n) (hl:wJ n T c r):0<nB T r c r (b r)∧∀r',r'<n→wJ n (nB T r c) (b r) r'→r'=r:=by
 have hp:=hl.1
 have u:∀i,i<n→T i (b r)=if i=r then 1 else 0:=fun i hi=>h.ti.un i r hi hr
 have hrr:nB T r c r (b r)=1/T r c:=by unfold nB;rw [if_pos rfl,u r hr,if_pos rfl]
 have hpos:0<nB T r c r (b r):=by rw [hrr,Rat.div_def,Rat.one_mul];exact Rat.inv_pos.2 hp
 refine⟨hpos,fun r' hr' hl'=>Classical.byContradiction fun hne=>?_⟩
 have h1:nB T r c r' (b r)=-(T r' c)/T r c:=by
  unfold nB;rw [if_neg hne,u r' hr',if_neg hne,u r hr,if_pos rfl];grind
 have h2:=hl'.1
 have h3:T r' c<0:=by
  refine Rat.not_le.1 fun h4=>?_
  rw [h1] at h2
  have:0≤T r' c*(1/T r c):=Rat.mul_nonneg h4 (by rw [Rat.div_def,Rat.one_mul];exact Rat.le_of_lt (Rat.inv_pos.2 hp))
  grind
 have m:0<T r c/ -(T r' c):=by rw [Rat.div_def];exact Rat.mul_pos hp (Rat.inv_pos.2 (by grind))
 have s:=((h.pos hr').mul m).add (hl'.2 r hr hpos)
 obtain⟨k,_,_,hk⟩:=s.zero
 refine hk ?_
 rw [hrr,h1]
 unfold nB
 rw [if_pos rfl,if_neg hne]
 grind
end Go.Proofs.YtolfcbpgmfbgmaaGreat
set_option linter.unusedVariables false
namespace Go.Proofs.YtolfcbpgmfbgmaaGreat
theorem psl.nn {f:Nat→Rat}:∀{t j:Nat},psl f t j→nn f t j
 |0,_,h=>h.elim
 |t+1,j,h=>by
  unfold psl at h
  unfold Go.Proofs.YtolfcbpgmfbgmaaGreat.nn
  exact h.imp id fun h=>⟨h.1,h.2.nn⟩
theorem nn.congr_le {f g:Nat→Rat}:∀{t j:Nat},(∀k,k<j+t→f k=g k)→nn f t j→nn g t j
 |0,_,_,_=>trivial
 |t+1,j,e,h=>by
  unfold Go.Proofs.YtolfcbpgmfbgmaaGreat.nn at h ⊢
  rw [←e j (by omega)]
  exact h.imp id fun h=>⟨h.1,nn.congr_le (fun k hk=>e k (by omega)) h.2⟩
theorem aGS {f:Nat→Rat} (h:∀k,f k=0):∀t j,nn f t j
 |0,_=>trivial
 |t+1,j=>Or.inr ⟨h j,aGS h t (j+1)⟩
theorem aGd {n r c:Nat} {Z T:Nat→Nat→Rat} {b:Nat→Nat} (h:SI n Z T b c) (hr:r<n) (hl:wJ n T c r):wJ n (nB T r c) (b r) r:=by
 have hp:=hl.1
 have u:∀i,i<n→T i (b r)=if i=r then 1 else 0:=fun i hi=>h.ti.un i r hi hr
 have hrr:nB T r c r (b r)=1/T r c:=by unfold nB;rw [if_pos rfl,u r hr,if_pos rfl]
 refine⟨(aNz h hr hl).1,fun k hk hkp=>?_⟩
 unfold aBC
 by_cases e:k=r
 ·subst e;exact aGS (fun j=>by grind) _ _
 ·have h1:nB T r c k (b r)=-(T k c)/T r c:=by
   unfold nB;rw [if_neg e,u k hk,if_neg e,u r hr,if_pos rfl];grind
  have h3:T k c<0:=by
   refine Rat.not_le.1 fun h4=>?_
   rw [h1] at hkp
   have:0≤T k c*(1/T r c):=Rat.mul_nonneg h4 (by rw [Rat.div_def,Rat.one_mul];exact Rat.le_of_lt (Rat.inv_pos.2 hp))
   grind
  have m:0<T r c/ -(T k c):=by rw [Rat.div_def];exact Rat.mul_pos hp (Rat.inv_pos.2 (by grind))
  refine(((h.pos hk).mul m).nn).congr fun j=>?_
  rw [hrr,h1]
  unfold nB
  rw [if_pos rfl,if_neg e]
  grind
theorem aAJ {n:Nat} {Z T T':Nat→Nat→Rat} {b b':Nat→Nat} {c c' x r m:Nat} (h:SI n Z T b c) (h':SI n Z T' b' c') (hm:∀v,mem n b v↔mem n b' v) (hr:r<n) (hmn:m<n) (e:b' m=b r) (hx:x<2*n+2) (hl:wJ n T x r):wJ n T' x m:=by
 have row:∀i j,i<n→j<n→b i=b' j→∀k,k<2*n+2→T i k=T' j k:=fun i j hi hj e k hk=>h.row h' hm hi hj e hk
 refine⟨by rw [←row r m hr hmn e.symm x hx];exact hl.1,fun k hk hp=>?_⟩
 obtain⟨i,hi,e2⟩:=(hm (b' k)).2 ⟨k,hk,rfl⟩
 have hp2:0<T i x:=by rw [row i k hi hk e2 x hx];exact hp
 refine(hl.2 i hi hp2).congr_le fun j hj=>?_
 have hc:l3 n j<2*n+2:=by unfold l3;split<;>omega
 rw [row i k hi hk e2 _ hc,row r m hr hmn e.symm _ hc,row i k hi hk e2 x hx,row r m hr hmn e.symm x hx]
structure Run (n:Nat) (Z:Nat→Nat→Rat) (TT:Nat→Nat→Nat→Rat) (BB:Nat→Nat→Nat) (CC:Nat→Nat) (N:Nat):Prop where
 si:∀k,k≤N→SI n Z (TT k) (BB k) (CC k)
 st:∀k,k<N→∃r,r<n∧wJ n (TT k) (CC k) r∧BB k r<2*n∧TT (k+1)=nB (TT k) r (CC k)∧BB (k+1)=lU (BB k) r (CC k)∧CC (k+1)=vY n (BB k r)
 beg:∀i,i<n→TT 0 i (vY n (CC 0))≤0
section
variable {n N:Nat} {Z:Nat→Nat→Rat} {TT:Nat→Nat→Nat→Rat} {BB:Nat→Nat→Nat} {CC:Nat→Nat}
theorem Run.prev (h:Run n Z TT BB CC N) {k:Nat} (hk:k<N):∃r,r<n∧wJ n (TT k) (CC k) r∧wJ n (TT (k+1)) (vY n (CC (k+1))) r∧(∀r',r'<n→wJ n (TT (k+1)) (vY n (CC (k+1))) r'→r'=r)∧BB (k+1) r=CC k∧BB k r=vY n (CC (k+1))∧vY n (CC (k+1))<2*n∧
  (∀v,mem n (BB k) v↔(v=vY n (CC (k+1))∨(mem n (BB (k+1)) v∧v≠CC k)))∧(∀v,mem n (BB (k+1)) v↔(v=CC k∨(mem n (BB k) v∧v≠vY n (CC (k+1))))):=by
 obtain⟨r,r1,r2,r3,r4,r5,r6⟩:=h.st k hk
 have hs:=h.si k (by omega)
 have e:vY n (CC (k+1))=BB k r:=by rw [r6,zM r3]
 have hm:=aD2 (v:=0) hs.inj r1 hs.cb.nc
 refine⟨r,r1,r2,?_,?_,by rw [r5,bD],e.symm,by rw [e];exact r3,fun v=>?_,fun v=>?_⟩
 ·rw [e,r4];exact aGd hs r1 r2
 ·rw [e,r4];exact(aNz hs r1 r2).2
 ·rw [r5,aD2 hs.inj r1 hs.cb.nc,e]
  constructor
  ·intro hv
   by_cases e2:v=BB k r
   ·exact Or.inl e2
   ·refine Or.inr ⟨Or.inr ⟨hv,e2⟩,fun e3=>?_⟩
    obtain⟨i,hi,hi2⟩:=hv
    exact hs.cb.nc i hi (by rw [hi2,e3])
  ·rintro(hv|⟨hv|hv,hv2⟩)
   ·exact⟨r,r1,hv.symm⟩
   ·exact absurd hv hv2
   ·exact hv.1
 ·rw [r5,aD2 hs.inj r1 hs.cb.nc,e]
theorem Run.key (h:Run n Z TT BB CC N):∀i j,i<j→j≤N→CC i=CC j→(∀v,mem n (BB i) v↔mem n (BB j) v)→False
 |i,0,hij,_,_,_=>by omega
 |0,j+1,hij,hj,hc,hs=>by
  obtain⟨r,r1,_,r3,_,r5,_,r7,_⟩:=h.prev (show j<N by omega)
  obtain⟨m,m1,m2⟩:=(hs (BB (j+1) r)).2 ⟨r,r1,rfl⟩
  have l:=aAJ (h.si (j+1) hj) (h.si 0 (by omega)) (fun v=>(hs v).symm) r1 m1 m2 (x:=vY n (CC (j+1))) (by omega) r3
  rw [←hc] at l
  exact absurd l.1 (Rat.not_lt.2 (h.beg m m1))
 |i+1,j+1,hij,hj,hc,hs=>by
  obtain⟨r,r1,_,r3,_,r5,_,r7,r8,_⟩:=h.prev (show j<N by omega)
  obtain⟨q,q1,_,q3,q4,q5,_,_,q8,_⟩:=h.prev (show i<N by omega)
  obtain⟨m,m1,m2⟩:=(hs (BB (j+1) r)).2 ⟨r,r1,rfl⟩
  have l:=aAJ (h.si (j+1) hj) (h.si (i+1) (by omega)) (fun v=>(hs v).symm) r1 m1 m2 (x:=vY n (CC (j+1))) (by omega) r3
  rw [←hc] at l
  have e:=q4 m m1 l
  rw [e,q5,r5] at m2
  refine h.key i j (by omega) (by omega) m2 fun v=>?_
  rw [r8,q8,hs v,hc,m2]
theorem Run.turn (h:Run n Z TT BB CC N):∀g i j,j=i+g→i<j→j≤N→CC j=vY n (CC i)→(∀v,mem n (BB i) v↔mem n (BB j) v)→False
 |0,i,j,hg,hij,_,_,_=>by omega
 |1,i,j,hg,hij,hj,hc,hs=>by
  subst hg
  obtain⟨r,r1,r2,r3,r4,r5,r6,r7,r8,r9⟩:=h.prev (show i<N by omega)
  have h1:=(hs (CC i)).2 ((r9 (CC i)).2 (Or.inl rfl))
  obtain⟨m,m1,m2⟩:=h1
  exact(h.si i (by omega)).cb.nc m m1 m2
 |g+2,i,j,hg,hij,hj,hc,hs=>by
  obtain⟨j',rfl⟩:∃j',j=j'+1:=⟨j-1,by omega⟩
  obtain⟨r,r1,r2,r3,r4,r5,r6,r7,r8,r9⟩:=h.prev (show j'<N by omega)
  obtain⟨q,q1,q2,q3,q4,q5,q6,q7,q8,q9⟩:=h.prev (show i<N by omega)
  have hci:=(h.si i (by omega)).hc
  have ex:vY n (CC (j'+1))=CC i:=by rw [hc,zM hci]
  rw [ex] at r3 r4 r6 r7 r8 r9
  obtain⟨m,m1,m2⟩:=(hs (BB i q)).1 ⟨q,q1,rfl⟩
  have l:=aAJ (h.si i (by omega)) (h.si (j'+1) hj) hs q1 m1 m2 (x:=CC i) (by omega) q2
  have e:=r4 m m1 l
  rw [e,r5,q6] at m2
  have hci1:=(h.si (i+1) (by omega)).hc
  have s2:∀v,mem n (BB (i+1)) v↔mem n (BB j') v:=fun v=>by rw [q9,r8,hs v,m2]
  by_cases e2:i+1=j'
  ·subst e2
   rcases aJB (n:=n) (x:=CC (i+1)) (by omega) with h1|h1
   ·exact h1 m2.symm
   ·omega
  ·exact h.turn g (i+1) j' (by omega) (by omega) (by omega) m2 s2
end
theorem pig:∀(n m:Nat) (f:Nat→Nat),(∀i,i<n→f i<m)→(∀i j,i<n→j<n→f i=f j→i=j)→n≤m
 |0,m,f,_,_=>Nat.zero_le _
 |n+1,m,f,h1,h2=>by
  have h3:=h1 n (by omega)
  have:=pig n (m-1) (fun i=>if f i<f n then f i else f i-1) (fun i hi=>by
   have a:=h1 i (by omega)
   have b:f i≠f n:=fun e=>by have:=h2 i n (by omega) (by omega) e;omega
   show(if f i<f n then f i else f i-1)<m-1
   split<;>omega) (fun i j hi hj e=>by
   have b:f i≠f n:=fun e=>by have:=h2 i n (by omega) (by omega) e;omega
   have c:f j≠f n:=fun e=>by have:=h2 j n (by omega) (by omega) e;omega
   refine h2 i j (by omega) (by omega) ?_
   have e':(if f i<f n then f i else f i-1)=(if f j<f n then f j else f j-1):=e
   split at e'<;>split at e'<;>omega)
  omega
def wN (n v:Nat):Nat:=if v<n then v else v-n
theorem aAs {n u v:Nat} (hu:u<2*n) (hv:v<2*n) (h:wN n u=wN n v):u=v∨u=vY n v:=by
 unfold wN at h;unfold vY
 split at h<;>split at h<;>split<;>omega
theorem aBL {n v:Nat} (h:v<2*n):wN n v<n:=by unfold wN;split<;>omega
theorem aI3 {n:Nat} {Z T T':Nat→Nat→Rat} {b b':Nat→Nat} {c c':Nat} (h:SI n Z T b c) (h':SI n Z T' b' c') (hm:∀v,mem n b v↔mem n b' v):c'=c∨c'=vY n c:=by
 refine Classical.byContradiction fun hno=>?_
 have hc:=h.hc
 have hc':=h'.hc
 have hd:wN n c≠wN n c':=fun e=>hno (aAs hc' hc e.symm)
 have no':∀i,i<n→b i≠c'∧b i≠vY n c':=fun i hi=>by
  obtain⟨j,hj,e⟩:=(hm (b i)).1 ⟨i,hi,rfl⟩
  exact⟨fun e2=>h'.cb.nc j hj (by rw [e,e2]),fun e2=>h'.cb.np hc' j hj (by rw [e,e2])⟩
 let f:Nat→Nat:=fun i=>if b i=2*n then wN n c else wN n (b i)
 have lt:∀i,i<n→b i≠2*n→b i<2*n:=fun i hi hne=>by have:=h.hb i hi;omega
 have f1:∀i,i<n→f i<n:=fun i hi=>by
  show(if b i=2*n then wN n c else wN n (b i))<n
  by_cases e:b i=2*n
  ·rw [if_pos e];exact aBL hc
  ·rw [if_neg e];exact aBL (lt i hi e)
 have f2:∀i,i<n→f i≠wN n c':=fun i hi=>by
  show(if b i=2*n then wN n c else wN n (b i))≠wN n c'
  by_cases e:b i=2*n
  ·rw [if_pos e];exact hd
  ·rw [if_neg e]
   intro e2
   rcases aAs (lt i hi e) hc' e2 with h1|h1
   ·exact(no' i hi).1 h1
   ·exact(no' i hi).2 h1
 have f3:∀i j,i<n→j<n→f i=f j→i=j:=fun i j hi hj e=>by
  have e':(if b i=2*n then wN n c else wN n (b i))=(if b j=2*n then wN n c else wN n (b j)):=e
  by_cases e1:b i=2*n
  ·by_cases e2:b j=2*n
   ·exact h.inj i j hi hj (by rw [e1,e2])
   ·rw [if_pos e1,if_neg e2] at e'
    rcases aAs (lt j hj e2) hc e'.symm with h1|h1
    ·exact absurd h1 (h.cb.nc j hj)
    ·exact absurd h1 (h.cb.np hc j hj)
  ·by_cases e2:b j=2*n
   ·rw [if_neg e1,if_pos e2] at e'
    rcases aAs (lt i hi e1) hc e' with h1|h1
    ·exact absurd h1 (h.cb.nc i hi)
    ·exact absurd h1 (h.cb.np hc i hi)
   ·rw [if_neg e1,if_neg e2] at e'
    rcases aAs (lt i hi e1) (lt j hj e2) e' with h1|h1
    ·exact h.inj i j hi hj h1
    ·exact absurd h1 (h.cb.pr j i hj hi (lt j hj e2))
 have hq:=aBL hc'
 have:=pig n (n-1) (fun i=>if f i<wN n c' then f i else f i-1) (fun i hi=>by
  have a:=f1 i hi
  have b:=f2 i hi
  show(if f i<wN n c' then f i else f i-1)<n-1
  split<;>omega) (fun i j hi hj e=>by
  have a:=f2 i hi
  have b:=f2 j hj
  refine f3 i j hi hj ?_
  have e':(if f i<wN n c' then f i else f i-1)=(if f j<wN n c' then f j else f j-1):=e
  split at e'<;>split at e'<;>omega)
 omega
theorem Run.distinct {n N:Nat} {Z:Nat→Nat→Rat} {TT:Nat→Nat→Nat→Rat} {BB:Nat→Nat→Nat} {CC:Nat→Nat} (h:Run n Z TT BB CC N) {i j:Nat} (hij:i<j) (hj:j≤N) (hs:∀v,mem n (BB i) v↔mem n (BB j) v):False:=by
 rcases aI3 (h.si i (by omega)) (h.si j hj) hs with e|e
 ·exact h.key i j hij hj e.symm hs
 ·exact h.turn (j-i) i j (by omega) hij hj e hs
open Classical in
noncomputable def dg (n:Nat) (b:Nat→Nat) (j:Nat):Nat:=if mem n b j then 1 else if mem n b (n+j) then 2 else 0
noncomputable def cde (n:Nat) (b:Nat→Nat):Nat→Nat
 |0=>0
 |j+1=>3*cde n b j+dg n b j
theorem aHf {n:Nat} {b:Nat→Nat} {j:Nat}:dg n b j≤2:=by unfold dg;split;omega;split<;>omega
theorem aIm {n:Nat} {b:Nat→Nat}:∀m,cde n b m<3^m
 |0=>Nat.one_pos
 |m+1=>by
  have:=aIm (n:=n) (b:=b) m
  have:=aHf (n:=n) (b:=b) (j:=m)
  show 3*cde n b m+dg n b m<3^(m+1)
  rw [Nat.pow_succ];omega
theorem aGr {n:Nat} {b:Nat→Nat} {j:Nat} (h0:dg n b j=0):∀m,j<m→cde n b m+1<3^m
 |0,h=>by omega
 |m+1,h=>by
  have h1:=aIm (n:=n) (b:=b) m
  have h2:=aHf (n:=n) (b:=b) (j:=m)
  show 3*cde n b m+dg n b m+1<3^(m+1)
  rw [Nat.pow_succ]
  by_cases e:j=m
  ·subst e;rw [h0];omega
  ·have:=aGr h0 m (by omega);omega
theorem aGU {n:Nat} {b b':Nat→Nat}:∀m,cde n b m=cde n b' m→∀j,j<m→dg n b j=dg n b' j
 |0,_,j,hj=>by omega
 |m+1,h,j,hj=>by
  have h1:=aHf (n:=n) (b:=b) (j:=m)
  have h2:=aHf (n:=n) (b:=b') (j:=m)
  have h3:3*cde n b m+dg n b m=3*cde n b' m+dg n b' m:=h
  by_cases e:j=m
  ·subst e;omega
  ·exact aGU m (by omega) j (by omega)
theorem SI.last {n:Nat} {Z T:Nat→Nat→Rat} {b:Nat→Nat} {c:Nat} (h:SI n Z T b c):mem n b (2*n):=by
 refine Classical.byContradiction fun hno=>?_
 have hc:=h.hc
 have lt:∀i,i<n→b i<2*n:=fun i hi=>by
  have:=h.hb i hi
  have:b i≠2*n:=fun e=>hno ⟨i,hi,e⟩
  omega
 have hq:=aBL hc
 have f2:∀i,i<n→wN n (b i)≠wN n c:=fun i hi e=>by
  rcases aAs (lt i hi) hc e with h1|h1
  ·exact h.cb.nc i hi h1
  ·exact h.cb.np hc i hi h1
 have:=pig n (n-1) (fun i=>if wN n (b i)<wN n c then wN n (b i) else wN n (b i)-1) (fun i hi=>by
  have a:=aBL (lt i hi)
  have b:=f2 i hi
  show(if wN n (_)<wN n c then _ else _)<n-1
  split<;>omega) (fun i j hi hj e=>by
  have a:=f2 i hi
  have b':=f2 j hj
  have e':(if wN n (b i)<wN n c then wN n (b i) else wN n (b i)-1)=(if wN n (b j)<wN n c then wN n (b j) else wN n (b j)-1):=e
  have e3:wN n (b i)=wN n (b j):=by split at e'<;>split at e'<;>omega
  rcases aAs (lt i hi) (lt j hj) e3 with h1|h1
  ·exact h.inj i j hi hj h1
  ·exact absurd h1 (h.cb.pr j i hj hi (lt j hj)))
 omega
theorem aMy {n:Nat} {b b':Nat→Nat} (hb:∀i,i<n→b i≤2*n) (hp:∀i j,i<n→j<n→b i<2*n→b j≠vY n (b i)) (hb':∀i,i<n→b' i≤2*n) (hp':∀i j,i<n→j<n→b' i<2*n→b' j≠vY n (b' i)) (h:∀j,j<n→dg n b j=dg n b' j) (hl:mem n b (2*n)↔mem n b' (2*n)) (v:Nat):mem n b v↔mem n b' v:=by
 have both:∀{b:Nat→Nat},(∀i j,i<n→j<n→b i<2*n→b j≠vY n (b i))→∀j,j<n→mem n b j→¬mem n b (n+j):=fun hp j hj h1 h2=>by
  obtain⟨i,i1,i2⟩:=h1
  obtain⟨k,k1,k2⟩:=h2
  refine hp i k i1 k1 (by omega) ?_
  rw [k2,i2];unfold vY;rw [if_pos hj];omega
 by_cases e1:v<n
 ·have:=h v e1
  unfold dg at this
  constructor
  ·intro h1;rw [if_pos h1] at this
   refine Classical.byContradiction fun h2=>?_
   rw [if_neg h2] at this;split at this<;>omega
  ·intro h1;rw [if_pos h1] at this
   refine Classical.byContradiction fun h2=>?_
   rw [if_neg h2] at this;split at this<;>omega
 ·by_cases e2:v<2*n
  ·obtain⟨j,rfl⟩:∃j,v=n+j:=⟨v-n,by omega⟩
   have hj:j<n:=by omega
   have:=h j hj
   unfold dg at this
   constructor
   ·intro h1
    rw [if_neg (fun h3=>both hp j hj h3 h1),if_pos h1] at this
    refine Classical.byContradiction fun h2=>?_
    rw [if_neg h2] at this;split at this<;>omega
   ·intro h1
    rw [if_neg (fun h3=>both hp' j hj h3 h1),if_pos h1] at this
    refine Classical.byContradiction fun h2=>?_
    rw [if_neg h2] at this;split at this<;>omega
  ·by_cases e3:v=2*n
   ·rw [e3];exact hl
   ·constructor
    ·rintro⟨i,i1,i2⟩;have:=hb i i1;omega
    ·rintro⟨i,i1,i2⟩;have:=hb' i i1;omega
theorem Run.short {n N:Nat} {Z:Nat→Nat→Rat} {TT:Nat→Nat→Nat→Rat} {BB:Nat→Nat→Nat} {CC:Nat→Nat} (h:Run n Z TT BB CC N):N+2≤3^n:=by
 have hc0:=(h.si 0 (by omega)).hc
 have lt:∀k,k<N+1→cde n (BB k) n<3^n-1:=fun k hk=>by
  have hs:=h.si k (by omega)
  have hc:=hs.hc
  have h0:dg n (BB k) (wN n (CC k))=0:=by
   have a1:¬mem n (BB k) (CC k):=fun⟨i,i1,i2⟩=>hs.cb.nc i i1 i2
   have a2:¬mem n (BB k) (vY n (CC k)):=fun⟨i,i1,i2⟩=>hs.cb.np hc i i1 i2
   unfold dg wN
   unfold vY at a2
   by_cases e:CC k<n
   ·rw [if_pos e] at a2 ⊢
    rw [if_neg a1,if_neg (by rw [Nat.add_comm];exact a2)]
   ·rw [if_neg e] at a2 ⊢
    rw [if_neg a2,if_neg (by rw [show n+(CC k-n)=CC k by omega];exact a1)]
  have:=aGr h0 n (aBL hc)
  omega
 have:=pig (N+1) (3^n-1) (fun k=>cde n (BB k) n) lt (fun i j hi hj e=>by
  have same:∀v,mem n (BB i) v↔mem n (BB j) v:=by
   have si:=h.si i (by omega)
   have sj:=h.si j (by omega)
   exact aMy si.hb si.cb.pr sj.hb sj.cb.pr (aGU n e) ⟨fun _=>sj.last,fun _=>si.last⟩
  rcases Nat.lt_trichotomy i j with h1|h1|h1
  ·exact(h.distinct h1 (by omega) same).elim
  ·exact h1
  ·exact(h.distinct h1 (by omega) fun v=>(same v).symm).elim)
 omega
end Go.Proofs.YtolfcbpgmfbgmaaGreat
set_option linter.unusedVariables false
namespace Go.Proofs.YtolfcbpgmfbgmaaGreat
/-- A state of the run. -/
structure SS where
 t:Nat→Nat→Rat
 b:Nat→Nat
 c:Nat
def aDU (n:Nat) (s:SS):SS:=
 match sel s.t n s.c n 0 none with
 |none=>s
 |some r=>⟨nB s.t r s.c,lU s.b r s.c,vY n (s.b r)⟩
def rO (n:Nat) (s:SS):Nat→SS
 |0=>s
 |k+1=>aDU n (rO n s k)
theorem aDs {n:Nat} {s:SS}:∀k,rO n (aDU n s) k=rO n s (k+1)
 |0=>rfl
 |k+1=>by
  show aDU n (rO n (aDU n s) k)=aDU n (rO n s (k+1))
  rw [aDs k]
def aOg (n:Nat) (s:SS):Prop:=∃r,sel s.t n s.c n 0 none=some r∧s.b r≠2*n
theorem aE9 {n most:Nat}:∀f T b r c cnt,cnt+f=most+1→sel T n c n 0 none=some r→(lem n most f T b r c cnt).2=16→∀k,k+cnt<most→aOg n (rO n ⟨T,b,c⟩ k)
 |0,T,b,r,c,cnt,hf,hs,h,k,hk=>by omega
 |f+1,T,b,r,c,cnt,hf,hs,h,k,hk=>by
  unfold lem at h
  rw [if_neg (show¬cnt=most by omega)] at h
  by_cases e2:b r=2*n
  ·rw [if_pos e2] at h;exact absurd h (show¬(0:Int)=16 by decide)
  ·rw [if_neg e2] at h
   have e3:aDU n ⟨T,b,c⟩=⟨nB T r c,lU b r c,vY n (b r)⟩:=by unfold aDU;simp only [hs]
   cases k with
   |zero=>exact⟨r,hs,e2⟩
   |succ k=>
    rw [←aDs,e3]
    cases hs':sel (nB T r c) n (if b r<n then b r+n else b r-n) n 0 none with
    |none=>rw [hs'] at h;exact absurd h (show¬(15:Int)=16 by decide)
    |some r'=>
     rw [hs'] at h
     exact aE9 f (nB T r c) (lU b r c) r' _ (cnt+1) (by omega) hs' h k (by omega)
theorem aHU {n c r:Nat} {T:Nat→Nat→Rat} (h:sel T n c n 0 none=some r):r<n∧wJ n T c r:=by
 obtain⟨s1,s2⟩:=w8 n 0 none r (fun q hq=>by cases hq) h
 have hm:=aBk n 0 none r (fun q hq=>by cases hq) (fun _ k hk=>by omega) h
 exact⟨by omega,aMW.1 s2,fun k hk hp=>hm k (by omega) (aMW.2 hp)⟩
theorem aJX {n N:Nat} {Z:Nat→Nat→Rat} {s:SS} (hs:SI n Z s.t s.b s.c) (hb:∀i,i<n→s.t i (vY n s.c)≤0) (hg:∀k,k<N→aOg n (rO n s k)):Run n Z (fun k=>(rO n s k).t) (fun k=>(rO n s k).b) (fun k=>(rO n s k).c) N:=by
 have step:∀k,k<N→SI n Z (rO n s k).t (rO n s k).b (rO n s k).c→∃r,r<n∧wJ n (rO n s k).t (rO n s k).c r∧(rO n s k).b r<2*n∧(rO n s (k+1)).t=nB (rO n s k).t r (rO n s k).c∧(rO n s (k+1)).b=lU (rO n s k).b r (rO n s k).c∧(rO n s (k+1)).c=vY n ((rO n s k).b r):=fun k hk h=>by
  obtain⟨r,r1,r2⟩:=hg k hk
  obtain⟨l1,l2⟩:=aHU r1
  have e:rO n s (k+1)=⟨nB (rO n s k).t r (rO n s k).c,lU (rO n s k).b r (rO n s k).c,vY n ((rO n s k).b r)⟩:=by
   show aDU n (rO n s k)=_
   unfold aDU;simp only [r1]
  have:=h.hb r l1
  exact⟨r,l1,l2,by omega,by rw [e],by rw [e],by rw [e]⟩
 have si:∀k,k≤N→SI n Z (rO n s k).t (rO n s k).b (rO n s k).c:=fun k=>by
  induction k with
  |zero=>intro _;exact hs
  |succ k ih=>
   intro hk
   have h:=ih (by omega)
   obtain⟨r,r1,r2,r3,r4,r5,r6⟩:=step k (by omega) h
   rw [r4,r5,r6]
   exact h.next r1 r2 r3
 exact⟨si,fun k hk=>step k hk (si k (by omega)),hb⟩
theorem aMa {M:Nat→Nat→Rat} {q:Nat→Rat} {n:Nat} (hneg:ng q n 0=true):SI n (rC M q n) (nB (rC M q n) (tM (rC M q n) n n 0 0) (2*n)) (lU (fun j=>j) (tM (rC M q n) n n 0 0) (2*n)) (vY n (tM (rC M q n) n n 0 0))∧tM (rC M q n) n n 0 0<n∧
  ∀i,i<n→nB (rC M q n) (tM (rC M q n) n n 0 0) (2*n) i (vY n (vY n (tM (rC M q n) n n 0 0)))≤0:=by
 have hlx:=aML (M:=M) hneg
 have hr:tM (rC M q n) n n 0 0<n:=zT n 0 0 (aAS hneg) (by omega)
 generalize tM (rC M q n) n n 0 0=r at *
 have hp:rC M q n r (2*n)≠0:=by rw [aBF];decide
 have one:∀i j,i<n→j<n→rC M q n i j=if i=j then 1 else 0:=fun i j hi hj=>by unfold rC;rw [if_pos hj]
 refine⟨⟨aGa.pivot hr (by omega) hp,KE.pivot (fun x hx=>hx) hr hp,aE1 ⟨fun i j=>if i=j then 1 else 0,fun i k hi hk=>?_⟩ hr hp,one,hlx,aL5.next hr (Nat.le_refl _) (by omega),fun i hi=>?_,aEf (by omega)⟩,hr,fun i hi=>?_⟩
 ·show rC M q n i k=sm (fun j=>(if i=j then 1 else 0)*rC M q n j k) n
  rw [aAn hi fun j hj hne=>by rw [if_neg fun e=>hne e.symm,Rat.zero_mul],if_pos rfl,Rat.one_mul]
 ·by_cases e:i=r
  ·rw [e,bD];exact Nat.le_refl _
  ·rw [cO e];omega
 ·rw [zM (by omega)]
  unfold nB
  rw [aBF,aBF,one r r hr hr,if_pos rfl,one i r hi hr]
  by_cases e:i=r
  ·rw [if_pos e];grind
  ·rw [if_neg e,if_neg e];grind
theorem aDc {M:Nat→Nat→Rat} {q:Nat→Rat} {n most:Nat} (hm:3^n≤most):(tW M q n most).2≠16:=by
 unfold tW
 cases hneg:ng q n 0
 ·rw [cP];exact show¬(0:Int)=16 by decide
 ·rw [cU]
  obtain⟨h1,h2,h3⟩:=aMa (M:=M) hneg
  have hn:=aAS hneg
  have h3n:3≤3^n:=by
   calc 3=3^1:=rfl
    _≤3^n:=Nat.pow_le_pow_right (by decide) hn
  generalize hr:tM (rC M q n) n n 0 0=r at *
  intro h
  unfold lem at h
  rw [if_neg (show¬0=most by omega),if_neg (show¬r=2*n by omega)] at h
  cases hs:sel (nB (rC M q n) r (2*n)) n (if r<n then r+n else r-n) n 0 none with
  |none=>rw [hs] at h;exact absurd h (show¬(15:Int)=16 by decide)
  |some r'=>
   rw [hs] at h
   have hg:=aE9 most (nB (rC M q n) r (2*n)) (lU (fun j=>j) r (2*n)) r' _ (0+1) (by omega) hs h
   have run:=aJX (N:=most-1) (s:=⟨nB (rC M q n) r (2*n),lU (fun j=>j) r (2*n),vY n r⟩) h1 h3 (fun k hk=>hg k (by omega))
   have:=run.short
   omega
end Go.Proofs.YtolfcbpgmfbgmaaGreat
set_option linter.unusedVariables false
namespace Go.Proofs.YtolfcbpgmfbgmaaGreat
theorem tP {n most f:Nat} {T:Nat→Nat→Rat} {b:Nat→Nat} {r c cnt:Nat}:lem n most (f+1) T b r c cnt=if cnt=most then(⟨[],[],0⟩,16)
  else if b r=2*n then(⟨mp (szv (nB T r c) (lU b r c) n n) n,mp (swv (nB T r c) (lU b r c) n n) n,((cnt+1:Nat):Int)⟩,0)
  else match sel (nB T r c) n (if b r<n then b r+n else b r-n) n 0 none with
   |none=>(⟨[],[],0⟩,15)
   |some r'=>lem n most f (nB T r c) (lU b r c) r' (if b r<n then b r+n else b r-n) (cnt+1):=rfl
theorem aFC {n most most':Nat} (hm:most≤most'):∀f T b r c cnt,cnt+f=most+1→cnt≤most→(lem n most f T b r c cnt).2≠16→lem n most' (most'+1-cnt) T b r c cnt=lem n most f T b r c cnt
 |0,T,b,r,c,cnt,hf,hc,h=>by omega
 |f+1,T,b,r,c,cnt,hf,hc,h=>by
  have e:most'+1-cnt=(most'-cnt)+1:=by omega
  rw [e,tP,tP]
  rw [tP] at h
  by_cases e1:cnt=most
  ·rw [if_pos e1] at h;exact absurd rfl h
  ·rw [if_neg e1] at h ⊢
   rw [if_neg (show¬cnt=most' by omega)]
   by_cases e2:b r=2*n
   ·rw [if_pos e2,if_pos e2]
   ·rw [if_neg e2] at h ⊢
    rw [if_neg e2]
    cases hs:sel (nB T r c) n (if b r<n then b r+n else b r-n) n 0 none with
    |none=>rfl
    |some r'=>
     rw [hs] at h
     have ih:=aFC hm f (nB T r c) (lU b r c) r' _ (cnt+1) (by omega) (by omega) h
     rw [show most'+1-(cnt+1)=most'-cnt by omega] at ih
     exact ih
theorem aG3 {n most:Nat}:∀f T b r c cnt,cnt+f=most+1→cnt≤most→(lem n most f T b r c cnt).2=0→∃p:Nat,(lem n most f T b r c cnt).1.pivots=(p:Int)∧cnt<p∧p≤most∧(∀m,p≤m→(lem n m (m+1-cnt) T b r c cnt).2=0)∧(∀m,cnt≤m→m<p→(lem n m (m+1-cnt) T b r c cnt).2=16)
 |0,T,b,r,c,cnt,hf,hc,h=>by omega
 |f+1,T,b,r,c,cnt,hf,hc,h=>by
  rw [tP] at h ⊢
  by_cases e1:cnt=most
  ·rw [if_pos e1] at h;exact absurd h (show¬(16:Int)=0 by decide)
  ·rw [if_neg e1] at h ⊢
   by_cases e2:b r=2*n
   ·rw [if_pos e2]
    refine⟨cnt+1,rfl,by omega,by omega,fun m hm=>?_,fun m h1 h2=>?_⟩
    ·rw [show m+1-cnt=(m-cnt)+1 by omega]
     rw [tP]
     rw [if_neg (show¬cnt=m by omega),if_pos e2]
    ·rw [show m+1-cnt=(m-cnt)+1 by omega]
     rw [tP]
     rw [if_pos (show cnt=m by omega)]
   ·rw [if_neg e2] at h ⊢
    cases hs:sel (nB T r c) n (if b r<n then b r+n else b r-n) n 0 none with
    |none=>rw [hs] at h;exact absurd h (show¬(15:Int)=0 by decide)
    |some r'=>
     rw [hs] at h
     obtain⟨p,p1,p2,p3,p4,p5⟩:=aG3 f (nB T r c) (lU b r c) r' _ (cnt+1) (by omega) (by omega) h
     refine⟨p,p1,by omega,p3,fun m hm=>?_,fun m h1 h2=>?_⟩
     ·rw [show m+1-cnt=(m+1-(cnt+1))+1 by omega]
      rw [tP]
      rw [if_neg (show¬cnt=m by omega),if_neg e2,hs]
      exact p4 m hm
     ·by_cases e3:cnt=m
      ·rw [show m+1-cnt=0+1 by omega]
       rw [tP]
       rw [if_pos e3]
      ·rw [show m+1-cnt=(m+1-(cnt+1))+1 by omega]
       rw [tP]
       rw [if_neg e3,if_neg e2,hs]
       exact p5 m (by omega) h2
theorem aH7 {M:Nat→Nat→Rat} {q:Nat→Rat} {n most most':Nat} (h1:3^n≤most) (h2:most≤most'):tW M q n most'=tW M q n most:=by
 have hf:=aDc (M:=M) (q:=q) h1
 unfold tW at hf ⊢
 cases hneg:ng q n 0
 ·rfl
 ·rw [hneg,cU] at hf
  rw [cU,cU]
  exact aFC h2 _ _ _ _ _ 0 (by omega) (by omega) hf
theorem aJb {M:Nat→Nat→Rat} {q:Nat→Rat} {n most:Nat} (h:(tW M q n most).2=0):(tW M q n most).1.pivots=0∨∃p:Nat,(tW M q n most).1.pivots=(p:Int)∧0<p∧p≤most∧(tW M q n p).2=0∧(tW M q n (p-1)).2=16:=by
 unfold tW at h ⊢
 cases hneg:ng q n 0
 ·exact Or.inl rfl
 ·right
  rw [hneg,cU] at h
  simp only [cU]
  obtain⟨p,p1,p2,p3,p4,p5⟩:=aG3 _ _ _ _ _ 0 (by omega) (by omega) h
  exact⟨p,p1,p2,p3,p4 p (Nat.le_refl _),p5 (p-1) (by omega) (by omega)⟩
end Go.Proofs.YtolfcbpgmfbgmaaGreat
set_option linter.unusedVariables false
namespace Go.Proofs.YtolfcbpgmfbgmaaGreat
end Go.Proofs.YtolfcbpgmfbgmaaGreat
set_option linter.unusedVariables false
namespace Go.Proofs.YtolfcbpgmfbgmaaGreat
end Go.Proofs.YtolfcbpgmfbgmaaGreat
set_option linter.unusedVariables false
namespace Go.Proofs.YtolfcbpgmfbgmaaGreat
theorem aJo {n B:Nat} {T:Nat→Nat→Rat} {b:Nat→Nat} (hT:zS n (2*n+2) B T) (hB:1≤B):∀i,i≤n→∀j,Bd B (szv T b n i j)
 |0,_,j=>Bd.zero.mono hB
 |i+1,h,j=>by
  have ih:=aJo (b:=b) hT hB i (by omega)
  unfold szv
  split
  ·exact ih j
  ·split
   ·by_cases e:j=b i-n
    ·subst e;rw [bD];exact hT i _ (by omega) (by omega)
    ·rw [cO e];exact ih j
   ·exact ih j
theorem aLU {n most B:Nat} {Z:Nat→Nat→Rat} (hZ:Sm n B Z) (hB:1≤B):∀(f:Nat) (T:Nat→Nat→Rat) (b:Nat→Nat) (r c cnt:Nat),LI n Z T b r c→(lem n most f T b r c cnt).2=0→(lem n most f T b r c cnt).1.z.length=n∧Bds B (lem n most f T b r c cnt).1.z
 |0,T,b,r,c,cnt,h,h0=>absurd (show(16:Int)=0 from h0) (by decide)
 |f+1,T,b,r,c,cnt,h,h0=>by
  unfold lem at h0 ⊢
  by_cases e:cnt=most
  ·rw [if_pos e] at h0;exact absurd h0 (by decide)
  ·rw [if_neg e] at h0 ⊢
   have hcw:=h.hc
   by_cases e2:b r=2*n
   ·rw [if_pos e2]
    have ti':=h.ti.pivot h.hr (show c<2*n+2 by omega) h.hp
    exact⟨bT _ _,aBt fun j _=>aJo (hZ _ _ ti') hB n (Nat.le_refl _) j⟩
   ·rw [if_neg e2] at h0 ⊢
    cases hs:sel (nB T r c) n (if b r<n then b r+n else b r-n) n 0 none with
    |none=>rw [hs] at h0;exact absurd (show(15:Int)=0 from h0) (by decide)
    |some r'=>
     rw [hs] at h0
     exact aLU hZ hB f _ _ _ _ _ (h.next e2 hs) h0
theorem aL6 {M:Nat→Nat→Rat} {q:Nat→Rat} {n B most:Nat} (hZ:Sm n B (rC M q n)) (hB:1≤B) (h0:(tW M q n most).2=0):(tW M q n most).1.z.length=n∧Bds B (tW M q n most).1.z:=by
 unfold tW at h0 ⊢
 by_cases hneg:ng q n 0=true
 ·rw [hneg,cU] at h0 ⊢
  exact aLU hZ hB _ _ _ _ _ _ (aGm (zT n 0 0 (aAS hneg) (by omega))) h0
 ·have hneg':ng q n 0=false:=by cases h:ng q n 0 with|true=>exact absurd h hneg|false=>rfl
  rw [hneg',cP]
  exact⟨bT _ _,aBt fun j _=>Bd.zero.mono hB⟩
end Go.Proofs.YtolfcbpgmfbgmaaGreat
