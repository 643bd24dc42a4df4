/- Texts of the proof, part 5: Q2 Q3 QZ WP LB MA MB MC MR MT LG LV. -/
import Derived.Test.YtolfcbpgmfbgmaaGreatZ4
set_option linter.unusedSimpArgs false
set_option linter.unusedVariables false
set_option maxRecDepth 100000
namespace Go.Proofs.YtolfcbpgmfbgmaaGreat
def sB (K:Nat):Option (aN×Int):=
 none
def m8 (K:Nat) (v95:Int) (x155:List Rat) (x161:List Rat):Option (LR (aN×Int) Unit):=
 some (.ret ((⟨x161,x155,v95⟩:aN),0))
def dM (K:Nat) (a1:List Rat) (v93:List (List Rat)) (x101:List Int):Nat→(List Rat)→(List Rat)→Int→Option ((List Rat)×(List Rat))
 |0,_,_,_=>none
 |k+1,x142,x148,x154=>bif(decide (x154<(a1.length:Int))) then((bO x101 x154).bind fun v170=>bif(decide (v170<(a1.length:Int))) then((bO x101 x154).bind fun v175=>(bO v93 x154).bind fun v177=>(aR (2*(a1.length:Int))).bind fun v179=>(aR (v179+1)).bind fun v181=>(bO v177 v181).bind fun v183=>(bO x142 v175).bind fun v185=>(pA x142 v175 v183).bind fun x187=>(aR (x154+1)).bind fun v190=>dM K a1 v93 x101 k x187 x148 v190) else((bO x101 x154).bind fun v194=>(aR (v194-(a1.length:Int))).bind fun v196=>(bO v93 x154).bind fun v198=>(aR (2*(a1.length:Int))).bind fun v200=>(aR (v200+1)).bind fun v202=>(bO v198 v202).bind fun v204=>(bO x148 v196).bind fun v206=>(pA x148 v196 v204).bind fun x208=>(aR (x154+1)).bind fun v211=>dM K a1 v93 x101 k x142 x208 v211)) else(some (x142,x148))
def nC (K:Nat) (v93:List (List Rat)) (v95:Int) (x101:List Int) (v217:Int) (recl90:(List Int)→(List (List Rat))→Int→Int→Int→Option (LR (aN×Int) Unit)) (x223:Int):Option (LR (aN×Int) Unit):=
 bif(decide (x223<0)) then(some (.ret ((⟨([]:List Rat),([]:List Rat),0⟩:aN),15))) else(recl90 x101 v93 x223 v217 v95)
def cL (K:Nat) (a1:List Rat) (v93:List (List Rat)) (v217:Int):Nat→Int→Int→Option Int
 |0,_,_=>none
 |k+1,x221,x222=>bif(decide (x222<(a1.length:Int))) then((bO v93 x222).bind fun v228=>(bO v228 v217).bind fun v230=>(xD v230).bind fun v232=>bif(decide (v232≤0)) then((aR (x222+1)).bind fun v235=>cL K a1 v93 v217 k x221 v235) else(bif(decide (x221<0)) then((aR (x222+1)).bind fun v240=>cL K a1 v93 v217 k x222 v240) else((bO v93 x222).bind fun v242=>(bO v93 x222).bind fun v244=>(bO v244 v217).bind fun v246=>(kN K v242 (a1.length:Int) v246).bind fun v248=>(bO v93 x221).bind fun v250=>(bO v93 x221).bind fun v252=>(bO v252 v217).bind fun v254=>(kN K v250 (a1.length:Int) v254).bind fun v256=>(jS K v248 v256).bind fun v258=>bif v258 then((aR (x222+1)).bind fun v261=>cL K a1 v93 v217 k x222 v261) else((aR (x222+1)).bind fun v263=>cL K a1 v93 v217 k x221 v263)))) else(some x221)
def fH (K:Nat) (a1:List Rat) (a2:Int):Nat→(List Int)→(List (List Rat))→Int→Int→Int→Option (LR (aN×Int) Unit)
 |0,_,_,_,_,_=>none
 |k+1,x80,x86,x87,x88,x89=>bif(x89==a2) then(some (.ret ((⟨([]:List Rat),([]:List Rat),0⟩:aN),16))) else((oK K x86 x87 x88).bind fun v93=>(aR (x89+1)).bind fun v95=>(bO x80 x87).bind fun v97=>(bO x80 x87).bind fun v99=>(pA x80 x87 x88).bind fun x101=>(aR (2*(a1.length:Int))).bind fun v104=>bif(v97==v104) then((y4 (a1.length:Int) 0).bind fun x109=>(y4 (a1.length:Int) 0).bind fun x113=>(dM K a1 v93 x101 K x113 x109 0).bind fun(x155,x161)=>m8 K v95 x155 x161) else((aR (v97+(a1.length:Int))).bind fun v213=>(aR (2*(a1.length:Int))).bind fun v215=>(zP v213 v215).bind fun v217=>(cL K a1 v93 v217 K (-1) 0).bind fun x223=>nC K v93 v95 x101 v217 (fH K a1 a2 k) x223))
def nY (K:Nat) (a1:List Rat) (a2:Int) (x47:List Int) (x53:List (List Rat)) (x65:Int):Option (aN×Int):=
 (aR (2*(a1.length:Int))).bind fun v68=>(fH K a1 a2 K x47 x53 x65 v68 0).bind fun o=>match o with| .ret r=>some r| .go _=>sB K
def fE (K:Nat) (a1:List Rat) (v14:Rat) (x53:List (List Rat)):Nat→Int→Int→Option Int
 |0,_,_=>none
 |k+1,x63,x64=>bif(decide (x64<(a1.length:Int))) then((bO x53 x64).bind fun v268=>(kN K v268 (a1.length:Int) v14).bind fun v270=>(bO x53 x63).bind fun v272=>(kN K v272 (a1.length:Int) v14).bind fun v274=>(jS K v270 v274).bind fun v276=>bif v276 then((aR (x64+1)).bind fun v279=>fE K a1 v14 x53 k x64 v279) else((aR (x64+1)).bind fun v281=>fE K a1 v14 x53 k x63 v281)) else(some x63)
def n8 (K:Nat) (a1:List Rat) (a2:Int) (v14:Rat) (x47:List Int) (x53:List (List Rat)):Option (aN×Int):=
 (fE K a1 v14 x53 K 0 1).bind fun x65=>nY K a1 a2 x47 x53 x65
def nG (K:Nat) (a1:List Rat) (x34:List Int) (x40:List (List Rat)) (x46:Int) (recl59:(List Int)→(List (List Rat))→Int→Option ((List Int)×(List (List Rat)))) (x312:List Rat):Option ((List Int)×(List (List Rat))):=
 (aR (2*(a1.length:Int))).bind fun v320=>(qof (-1) 1).bind fun v322=>(bO x312 v320).bind fun v324=>(pA x312 v320 v322).bind fun x326=>(aR (2*(a1.length:Int))).bind fun v329=>(aR (v329+1)).bind fun v331=>(bO a1 x46).bind fun v333=>(bO x326 v331).bind fun v335=>(pA x326 v331 v333).bind fun x337=>(sD x40 [x337]).bind fun x340=>(sD x34 [x46]).bind fun x347=>(aR (x46+1)).bind fun v354=>recl59 x347 x340 v354
def gE (K:Nat) (a0:List (List Rat)) (a1:List Rat) (x46:Int):Nat→(List Rat)→Int→Option (List Rat)
 |0,_,_=>none
 |k+1,x305,x311=>bif(decide (x311<(a1.length:Int))) then((aR ((a1.length:Int)+x311)).bind fun v357=>(bO a0 x46).bind fun v359=>(bO v359 x311).bind fun v361=>(aCr v361).bind fun v363=>(bO x305 v357).bind fun v365=>(pA x305 v357 v363).bind fun x367=>(aR (x311+1)).bind fun v370=>gE K a0 a1 x46 k x367 v370) else(some x305)
def fD (K:Nat) (a0:List (List Rat)) (a1:List Rat) (v14:Rat):Nat→(List Int)→(List (List Rat))→Int→Option ((List Int)×(List (List Rat)))
 |0,_,_,_=>none
 |k+1,x34,x40,x46=>bif(decide (x46<(a1.length:Int))) then((aR (2*(a1.length:Int))).bind fun v284=>(aR (v284+2)).bind fun v286=>(y4 v286 0).bind fun x288=>(bO x288 x46).bind fun v293=>(pA x288 x46 v14).bind fun x295=>(gE K a0 a1 x46 K x295 0).bind fun x312=>nG K a1 x34 x40 x46 (fD K a0 a1 v14 k) x312) else(some (x34,x40))
def jE (K:Nat) (a0:List (List Rat)) (a1:List Rat) (a2:Int):Option (aN×Int):=
 (fO K a0 a1).bind fun v2=>bif(!v2) then(some ((⟨([]:List Rat),([]:List Rat),0⟩:aN),1)) else(bif(decide (a2<0)) then(some ((⟨([]:List Rat),([]:List Rat),0⟩:aN),1)) else((iQ K a1).bind fun v6=>bif(!v6) then((y4 (a1.length:Int) 0).bind fun x9=>some ((⟨x9,a1,0⟩:aN),0)) else((qof 1 1).bind fun v14=>(fD K a0 a1 v14 K ([]:List Int) ([]:List (List Rat)) 0).bind fun(x47,x53)=>n8 K a1 a2 v14 x47 x53)))
theorem aBj {K:Nat} {a0:List (List Rat)} {a1:List Rat} {a2:Int} {r:aN×Int} (hF:jE K a0 a1 a2=some r):Ct Tryz.prog 14 [.vc (pS (fZ cQ) a0),.vc (pS cQ a1),.vc (pI .i64 a2)] (.t2 (.va (aN.enc r.1)) (.vc (pI .i64 r.2))):=by
 unfold jE at hF
 refine aA Tryz.func14 rfl (by kernel_rfl) Tryz.ntmps14 rfl (fun w0 M0=>?_)
 refine aD (aK (aL rfl tyZ30q (fun b1=>?_)))
 obtain⟨v2,h3,hF⟩:=aX hF w7
 refine go ?_ ?_
 refine cG hF (fun h4 hF=>?_) (fun h4 hF=>?_)
 ·refine go ?_ ?_
  refine eU rfl ?_
  refine aD (aK (aH (fG (is:=[]) (xs:=[]) (ps:=[]) rfl tyB30q rfl rfl trivial rfl) trivial ?_))
  exact bP
 refine go ?_ ?_
 refine aC hF rfl (fun h5 hF=>?_) (fun h5 hF=>?_)
 ·refine aD (aK (aH (fG (is:=[]) (xs:=[]) (ps:=[]) rfl tyB30q rfl rfl trivial rfl) trivial ?_))
  exact bP
 obtain⟨v6,h7,hF⟩:=aX hF rV
 refine go ?_ ?_
 refine aC hF rfl (fun h8 hF=>?_) (fun h8 hF=>?_)
 ·obtain⟨x9,h10,hF⟩:=aO hF
  refine go ?_ ?_
  refine qG (C:=cQ) rfl tyS24 rfl tyZ42q rfl h10 (fun b11=>?_)
  refine fL ?_
  refine wI 0 [38] rfl rfl zU1 rfl ?_
  refine aH (fG (is:=[0,1]) (xs:=[.tmp 38,.tmp 39]) (ps:=[.vc (pS cQ x9),.vc (pS cQ a1)]) rfl tyB30q rfl rfl ⟨trivial,trivial,trivial⟩ rfl) zU2 ?_
  exact bP
 obtain⟨v14,h15,hF⟩:=aX hF cR
 refine go ?_ ?_
 refine aL rfl tyZ42q (fun b16=>?_)
 refine lI (t_s 0 rfl rfl rfl tyA42.s) zU2 ?_
 refine aU (aJ (aD (aK (pN (fZ cQ) 24 rfl ?_))))
 refine aU (aJ (aD (aK (pN cI 3 rfl ?_))))
 refine go ?_ ?_
 refine aI (aY (fun H E=>∃(x47:List Int),∃(x53:List (List Rat)),∃(b48:Option Nat),∃(c49:Nat),∃(n50:Nat),∃(b54:Option Nat),∃(c55:Nat),∃(n56:Nat),n8 K a1 a2 v14 x47 x53=some r∧x47.length=n50∧x53.length=n56∧H=[hO cI b48 c49 3 n50 x47,hO (fZ cQ) b54 c55 24 n56 x53,⟨some b16,1,42,4,1,(eQ v14)⟩,⟨some b1,1,30,3,1,([pS cQ ([]:List Rat)]++[pS cQ ([]:List Rat)]++[pI .i64 0])⟩]∧E=[(2,.vc (pI .i64 a2)),(6,.vc (pP (some b1) 0)),(8,.vc (pI .i64 (a1.length:Int))),(9,.vc (pP (some b16) 0)),(10,.vc (pO b54 n56 c55)),(11,.vc (pO b48 n50 c49))]) ?_ (fun Jj60=>?_))
 ·rintro _ _ ⟨x47,x53,b48,c49,n50,b54,c55,n56,hF,q51,q57,rfl,rfl⟩
  unfold n8 at hF
  refine go ?_ ?_
  refine aI (aY (fun H E=>∃(x65:Int),nY K a1 a2 x47 x53 x65=some r∧H=[hO cI b48 c49 3 n50 x47,hO (fZ cQ) b54 c55 24 n56 x53,⟨some b1,1,30,3,1,([pS cQ ([]:List Rat)]++[pS cQ ([]:List Rat)]++[pI .i64 0])⟩]∧E=[(2,.vc (pI .i64 a2)),(6,.vc (pP (some b1) 0)),(8,.vc (pI .i64 (a1.length:Int))),(10,.vc (pO b54 n56 c55)),(11,.vc (pO b48 n50 c49)),(15,.vc (pI .i64 x65))]) ?_ (fun Jj67=>?_))
  ·rintro _ _ ⟨x65,hF,rfl,rfl⟩
   unfold nY at hF
   obtain⟨v68,h69,hF⟩:=aO hF
   refine go ?_ ?_
   refine aI (aHA 1 [10] rfl q57 zU1 rfl ?_)
   refine aY (fun H E=>sB K=some r∧H=[]∧E=[]) ?_ (fun Jj91=>?_)
   ·rintro _ _ ⟨hF,rfl,rfl⟩
    unfold sB at hF
    cases hF
   obtain⟨ol90,hL,hRl90⟩:=aO hF
   refine dW (fun k a w=>∃(x80:List Int),∃(x86:List (List Rat)),∃(x87:Int),∃(x88:Int),∃(x89:Int),fH K a1 a2 k x80 x86 x87 x88 x89=some ol90∧x80.length=n50∧hs _ [hO cI b48 c49 3 n50 x80,⟨some b1,1,30,3,1,([pS cQ ([]:List Rat)]++[pS cQ ([]:List Rat)]++[pI .i64 0])⟩] [(2,.vc (pI .i64 a2)),(6,.vc (pP (some b1) 0)),(8,.vc (pI .i64 (a1.length:Int))),(10,.vc (pS (fZ cQ) x86)),(11,.vc (pO b48 n50 c49)),(15,.vc (pI .i64 x87)),(17,.vc (pI .i64 x88)),(18,.vc (pI .i64 x89))] a w) K (fun a w ⟨_,_,_,_,_,hF,_,_⟩=>by cases hF) (fun k a w ⟨x80,x86,x87,x88,x89,hF,q84,hh⟩=>dV ?_ hh) (fun a w hh=>⟨x47,x53,x65,v68,0,hL,q51,gO [0,1] hh⟩)
   rw [fH.eq_2] at hF
   refine aI (go ?_ ?_)
   refine aC hF rfl (fun h92 hF=>?_) (fun h92 hF=>?_)
   ·refine aD (aK (aH (fG (is:=[]) (xs:=[]) (ps:=[]) rfl tyB30q rfl rfl trivial rfl) trivial ?_))
    exact bP
   obtain⟨v93,h94,hF⟩:=aX hF aBm
   obtain⟨v95,h96,v97,h98,hF⟩:=tY hF
   have hF:=qB h98 hF
   obtain⟨x101,h102,hF⟩:=aO hF
   have hF:=qB h69 hF
   refine go ?_ ?_
   refine aC hF rfl (fun h106 hF=>?_) (fun h106 hF=>?_)
   ·refine aD ?_
    obtain⟨x109,h110,hF⟩:=aO hF
    have hF:=qB h110 hF
    refine tQ (HsM [(0,fun G107=>[hO cI b48 c49 3 n50 x101,⟨some b1,1,30,3,1,([pS cQ ([]:List Rat)]++[pS cQ ([]:List Rat)]++[pI .i64 0])⟩]),(1,fun G107=>[hO cQ ((G107 1).1) x109.length 42 x109.length x109,hO cI b48 c49 3 n50 x101,⟨some b1,1,30,3,1,([pS cQ ([]:List Rat)]++[pS cQ ([]:List Rat)]++[pI .i64 0])⟩]),(2,fun G107=>[hO cQ ((G107 3).1) x109.length 42 x109.length x109,hO cI b48 c49 3 n50 x101,⟨some b1,1,30,3,1,([pS cQ ([]:List Rat)]++[pS cQ ([]:List Rat)]++[pI .i64 0])⟩]),(3,fun G107=>[hO cQ ((G107 3).1) x109.length 42 x109.length x109,hO cQ ((G107 1).1) x109.length 42 x109.length x109,hO cI b48 c49 3 n50 x101,⟨some b1,1,30,3,1,([pS cQ ([]:List Rat)]++[pS cQ ([]:List Rat)]++[pI .i64 0])⟩]),(7,fun G107=>[hO cQ (dB (G107 5).2) x109.length 42 x109.length x109,hO cQ ((G107 5).1) x109.length 42 x109.length x109,hO cI b48 c49 3 n50 x101,⟨some b1,1,30,3,1,([pS cQ ([]:List Rat)]++[pS cQ ([]:List Rat)]++[pI .i64 0])⟩])]) [1,3,5] [0,1,0,4,0,31,0,127] 7 1 [.v (.vc (pI .i64 (a1.length:Int))),.g (fun b _=>.vc (pO b x109.length x109.length)),.v (.vc (pI .i64 (a1.length:Int))),.g (fun b _=>.vc (pO b x109.length x109.length)),.v (.vc (pI .i64 v95)),.g (fun b c=>.va ([pO b x109.length x109.length]++[pO (dB c) x109.length x109.length]++[pI .i64 v95])),.a 30 ([pS cQ ([]:List Rat)]++[pS cQ ([]:List Rat)]++[pI .i64 0])] aW ⟨⟨rfl,.run (L:=[0,2]) ⟨fun G107 A=>aM (.inl rfl),fun G107 A=>aM (.inl rfl),trivial⟩ (fun G107=>zU1)⟩,⟨rfl,.hvy [0,2] ⟨fun G107 A=>wQ (C:=cQ) rfl tyS24 rfl tyZ42q h110,fun G107 A=>aQ2 [1,0,2,3] (wQ (C:=cQ) rfl tyS24 rfl tyZ42q h110) (fun b_ c_=>⟨[hO cQ (b_) x109.length 42 x109.length x109,hO cQ ((G107 3).1) x109.length 42 x109.length x109,hO cI b48 c49 3 n50 x101,⟨some b1,1,30,3,1,([pS cQ ([]:List Rat)]++[pS cQ ([]:List Rat)]++[pI .i64 0])⟩],rfl,rfl⟩),trivial⟩ (fun G107=>zU1)⟩,⟨rfl,.run (L:=[0,1]) ⟨fun G107 A=>aM (.inl rfl),fun G107 A=>aM (.inl rfl),trivial⟩ (fun G107=>zU1)⟩,⟨rfl,.hvy [0,1] ⟨fun G107 A=>wQ (C:=cQ) rfl tyS24 rfl tyZ42q h110,fun G107 A=>wQ (C:=cQ) rfl tyS24 rfl tyZ42q h110,trivial⟩ (fun G107=>zU1)⟩,⟨rfl,.run (L:=[0,1,2,3]) ⟨fun G107 A=>aM (.inl rfl),fun G107 A=>aM (.inl rfl),fun G107 A=>aM (.inl rfl),fun G107 A=>aM (.inl rfl),trivial⟩ (fun G107=>zU1)⟩,⟨rfl,.hvy [3] ⟨fun G107 A=>aLU (Post:=fun b_ x_=>[hO cQ x_ x109.length 42 x109.length x109,hO cQ b_ x109.length 42 x109.length x109,hO cI b48 c49 3 n50 x101,⟨some b1,1,30,3,1,([pS cQ ([]:List Rat)]++[pS cQ ([]:List Rat)]++[pI .i64 0])⟩]++A) (out:=fun b_ x_=>.va ([pO b_ x109.length x109.length]++[pO x_ x109.length x109.length]++[pI .i64 v95])) ((G107 1).1) ((G107 3).1) (fG (is:=[0,1,2]) (xs:=[.tmp 141,.tmp 143,.tmp 144]) (ps:=[.vc (pO ((G107 1).1) x109.length x109.length),.vc (pO ((G107 3).1) x109.length x109.length),.vc (pI .i64 v95)]) rfl tyB30q rfl rfl ⟨trivial,trivial,trivial,trivial⟩ rfl),trivial⟩ (fun G107=>⟨rfl,rfl,rfl,trivial⟩)⟩,⟨rfl,.alc tyZ30q⟩,trivial⟩ (fun bs108 G107=>?_)
    refine go ?_ ?_
    refine aI (aY (fun H E=>∃(x155:List Rat),∃(x161:List Rat),m8 K v95 x155 x161=some ol90∧x155.length=x109.length∧x161.length=x109.length∧H=[⟨some (bs108 6),1,30,3,1,([pO ((G107 5).1) x109.length x109.length]++[pO (dB (G107 5).2) x109.length x109.length]++[pI .i64 v95])⟩,hO cQ (dB (G107 5).2) x109.length 42 x109.length x155,hO cQ ((G107 5).1) x109.length 42 x109.length x161,⟨some b1,1,30,3,1,([pS cQ ([]:List Rat)]++[pS cQ ([]:List Rat)]++[pI .i64 0])⟩]∧E=[(6,.vc (pP (some b1) 0)),(20,.vc (pP (some (bs108 6)) 0))]) ?_ (fun Jj168=>?_))
    ·rintro _ _ ⟨x155,x161,hF,q159,q165,rfl,rfl⟩
     unfold m8 at hF
     refine aJ (aD (aK (aDL 2 0 0 rfl q165 rfl rfl rfl rfl rfl ?_)))
     refine aDL 1 0 1 rfl q159 rfl rfl rfl rfl rfl ?_
     exact bP
    obtain⟨⟨x155',x161'⟩,hL,hRl167⟩:=aO hF
    refine dW (fun k a w=>∃(x142:List Rat),∃(x148:List Rat),∃(x154:Int),dM K a1 v93 x101 k x142 x148 x154=some (x155',x161')∧x142.length=x109.length∧x148.length=x109.length∧hs _ [⟨some (bs108 6),1,30,3,1,([pO ((G107 5).1) x109.length x109.length]++[pO (dB (G107 5).2) x109.length x109.length]++[pI .i64 v95])⟩,hO cQ (dB (G107 5).2) x109.length 42 x109.length x142,hO cQ ((G107 5).1) x109.length 42 x109.length x148,hO cI b48 c49 3 n50 x101,⟨some b1,1,30,3,1,([pS cQ ([]:List Rat)]++[pS cQ ([]:List Rat)]++[pI .i64 0])⟩] [(6,.vc (pP (some b1) 0)),(8,.vc (pI .i64 (a1.length:Int))),(10,.vc (pS (fZ cQ) v93)),(11,.vc (pO b48 n50 c49)),(20,.vc (pP (some (bs108 6)) 0)),(21,.vc (pI .i64 x154))] a w) K (fun a w ⟨_,_,_,hF,_,_,_⟩=>by cases hF) (fun k a w ⟨x142,x148,x154,hF,q146,q152,hh⟩=>dV ?_ hh) (fun a w hh=>⟨x109,x109,0,hL,rfl,rfl,gO [0,1,2,3,4] hh⟩)
    rw [dM.eq_2] at hF
    refine go ?_ ?_
    refine aC hF rfl (fun h169 hF=>?_) (fun h169 hF=>?_)
    ·refine go ?_ ?_
     refine aI ?_
     obtain⟨v170,h171,hF⟩:=aO hF
     refine go ?_ ?_
     refine aC hF rfl (fun h172 hF=>?_) (fun h172 hF=>?_)
     ·have hF:=qB h171 hF
      obtain⟨v177,h178,hF⟩:=aO hF
      have hF:=qB h69 hF
      obtain⟨v181,h182,hF⟩:=aO hF
      obtain⟨v183,h184,hF⟩:=aO hF
      obtain⟨v185,h186,hF⟩:=aO hF
      refine dr [0,1,0,0,12,28,0,0,192,448,0,1024,3072,8128,16320,32767,65535] 16 1 ?_ (fun bs174 G173=>?_)
      obtain⟨x187,h188,v190,h191,hF⟩:=tY hF
      refine go ?_ ?_
      exact aF (fun a w hh=>⟨x187,x148,v190,hF,(bE h188 q146),q152,gO [0,1,2,3,4] hh⟩)
     have hF:=qB h171 hF
     obtain⟨v196,h197,hF⟩:=aO hF
     obtain⟨v198,h199,hF⟩:=aO hF
     have hF:=qB h69 hF
     obtain⟨v202,h203,hF⟩:=aO hF
     obtain⟨v204,h205,hF⟩:=aO hF
     obtain⟨v206,h207,hF⟩:=aO hF
     refine dr [0,1,0,0,12,28,0,124,0,0,768,1792,0,4096,12288,32512,65280,131071,262143] 18 1 ?_ (fun bs193 G192=>?_)
     obtain⟨x208,h209,v211,h212,hF⟩:=tY hF
     refine go ?_ ?_
     exact aF (fun a w hh=>⟨x142,x208,v211,hF,q146,(bE h209 q152),gO [0,1,2,3,4] hh⟩)
    refine bI ?_
    obtain⟨rfl,rfl⟩:=sm2 hF
    exact p6 Jj168 ⟨x142,x148,hRl167,q146,q152,rfl,rfl⟩ [0,1,2,4]
   obtain⟨v213,h214,hF⟩:=aO hF
   have hF:=qB h69 hF
   obtain⟨v217,h218,hF⟩:=aO hF
   refine go ?_ ?_
   refine aI (aY (fun H E=>∃(x223:Int),nC K v93 v95 x101 v217 (fH K a1 a2 k) x223=some ol90∧H=[hO cI b48 c49 3 n50 x101,⟨some b1,1,30,3,1,([pS cQ ([]:List Rat)]++[pS cQ ([]:List Rat)]++[pI .i64 0])⟩]∧E=[(2,.vc (pI .i64 a2)),(6,.vc (pP (some b1) 0)),(8,.vc (pI .i64 (a1.length:Int))),(10,.vc (pS (fZ cQ) v93)),(11,.vc (pO b48 n50 c49)),(15,.vc (pI .i64 x223)),(17,.vc (pI .i64 v217)),(18,.vc (pI .i64 v95))]) ?_ (fun Jj225=>?_))
   ·rintro _ _ ⟨x223,hF,rfl,rfl⟩
    unfold nC at hF
    refine go ?_ ?_
    refine aC hF rfl (fun h226 hF=>?_) (fun h226 hF=>?_)
    ·refine aD (aK (aH (fG (is:=[]) (xs:=[]) (ps:=[]) rfl tyB30q rfl rfl trivial rfl) trivial ?_))
     exact bP
    refine iC (aAV ?_)
    exact aF (fun a w hh=>⟨x101,v93,x223,v217,v95,hF,(bE h102 q84),gO [0,1] hh⟩)
   obtain⟨x223',hL,hRl224⟩:=aO hF
   refine dW (fun k a w=>∃(x221:Int),∃(x222:Int),cL K a1 v93 v217 k x221 x222=some x223'∧hs _ [hO cI b48 c49 3 n50 x101,⟨some b1,1,30,3,1,([pS cQ ([]:List Rat)]++[pS cQ ([]:List Rat)]++[pI .i64 0])⟩] [(2,.vc (pI .i64 a2)),(6,.vc (pP (some b1) 0)),(8,.vc (pI .i64 (a1.length:Int))),(10,.vc (pS (fZ cQ) v93)),(11,.vc (pO b48 n50 c49)),(15,.vc (pI .i64 x221)),(17,.vc (pI .i64 v217)),(18,.vc (pI .i64 v95)),(22,.vc (pI .i64 x222))] a w) K (fun a w ⟨_,_,hF,_⟩=>by cases hF) (fun k a w ⟨x221,x222,hF,hh⟩=>dV ?_ hh) (fun a w hh=>⟨(-1),0,hL,gO [0,1] hh⟩)
   rw [cL.eq_2] at hF
   refine go ?_ ?_
   refine aC hF rfl (fun h227 hF=>?_) (fun h227 hF=>?_)
   ·refine go ?_ ?_
    refine aI ?_
    obtain⟨v228,h229,v230,h231,hF⟩:=tY hF
    obtain⟨v232,h233,hF⟩:=aX hF rR
    refine go ?_ ?_
    refine aC hF rfl (fun h234 hF=>?_) (fun h234 hF=>?_)
    ·refine bI ?_
     obtain⟨v235,h236,hF⟩:=aO hF
     refine go ?_ ?_
     exact aF (fun a w hh=>⟨x221,v235,hF,gO [0,1] hh⟩)
    refine go ?_ ?_
    rcases Bool.eq_false_or_eq_true (decide (x221<0)) with h239|h239
    ·have hF:=tA h239 hF
     refine drb (0::1::3::7::7::31::63::7::7::7::775::1799::7::7943::16135::32767::7::7::196615::458759::7::7::7::6291463::14680071::7::65011719::132120583::268435455::536870911::1073741823::[]) 31 0 ?_ (fun bs238 G237=>?_)
     refine aU (aJ (eU rfl ?_))
     obtain⟨v240,h241,hF⟩:=aO hF
     refine go ?_ ?_
     exact aF (fun a w hh=>⟨x222,v240,hF,gO [0,1] hh⟩)
    have hF:=rJ h239 hF
    have hF:=qB h229 hF
    have hF:=qB h229 hF
    have hF:=qB h231 hF
    obtain⟨v248,h249,hF⟩:=aX hF sS
    obtain⟨v250,h251,hF⟩:=aO hF
    have hF:=qB h251 hF
    obtain⟨v254,h255,hF⟩:=aO hF
    obtain⟨v256,h257,hF⟩:=aX hF sS
    obtain⟨v258,h259,hF⟩:=aX hF wC
    refine drb (0::1::3::7::7::31::63::7::7::7::775::1799::7::7943::16135::32767::7::7::196615::458759::7::7::7::6291463::14680071::7::65011719::132120583::268435455::536870911::1073741823::[]) 31 0 ?_ (fun bs238 G237=>?_)
    refine aU (aJ (aC hF rfl (fun h260 hF=>?_) (fun h260 hF=>?_)))
    ·obtain⟨v261,h262,hF⟩:=aO hF
     refine go ?_ ?_
     exact aF (fun a w hh=>⟨x222,v261,hF,gO [0,1] hh⟩)
    obtain⟨v263,h264,hF⟩:=aO hF
    refine go ?_ ?_
    exact aF (fun a w hh=>⟨x221,v263,hF,gO [0,1] hh⟩)
   refine bI ?_
   obtain rfl:=iR hF
   exact p6 Jj225 ⟨x221,hRl224,rfl,rfl⟩ [0,1]
  obtain⟨x65',hL,hRl66⟩:=aO hF
  refine dW (fun k a w=>∃(x63:Int),∃(x64:Int),fE K a1 v14 x53 k x63 x64=some x65'∧hs _ [hO cI b48 c49 3 n50 x47,hO (fZ cQ) b54 c55 24 n56 x53,⟨some b16,1,42,4,1,(eQ v14)⟩,⟨some b1,1,30,3,1,([pS cQ ([]:List Rat)]++[pS cQ ([]:List Rat)]++[pI .i64 0])⟩] [(2,.vc (pI .i64 a2)),(6,.vc (pP (some b1) 0)),(8,.vc (pI .i64 (a1.length:Int))),(9,.vc (pP (some b16) 0)),(10,.vc (pO b54 n56 c55)),(11,.vc (pO b48 n50 c49)),(15,.vc (pI .i64 x63)),(16,.vc (pI .i64 x64))] a w) K (fun a w ⟨_,_,hF,_⟩=>by cases hF) (fun k a w ⟨x63,x64,hF,hh⟩=>dV ?_ hh) (fun a w hh=>⟨0,1,hL,gO [0,1,2,3] hh⟩)
  rw [fE.eq_2] at hF
  refine go ?_ ?_
  refine aC hF rfl (fun h265 hF=>?_) (fun h265 hF=>?_)
  ·refine go ?_ ?_
   refine aI (aD ?_)
   obtain⟨v268,h269,hF⟩:=aO hF
   obtain⟨v270,h271,hF⟩:=aX hF sS
   obtain⟨v272,h273,hF⟩:=aO hF
   obtain⟨v274,h275,hF⟩:=aX hF sS
   obtain⟨v276,h277,hF⟩:=aX hF wC
   refine dr [0,0,3,7,0,0,63,0,0,384,896,0,0,8191,16383] 15 0 ?_ (fun bs267 G266=>?_)
   refine aU (aJ (aC hF rfl (fun h278 hF=>?_) (fun h278 hF=>?_)))
   ·obtain⟨v279,h280,hF⟩:=aO hF
    refine go ?_ ?_
    exact aF (fun a w hh=>⟨x64,v279,hF,gO [0,1,2,3] hh⟩)
   obtain⟨v281,h282,hF⟩:=aO hF
   refine go ?_ ?_
   exact aF (fun a w hh=>⟨x63,v281,hF,gO [0,1,2,3] hh⟩)
  refine bI ?_
  obtain rfl:=iR hF
  exact p6 Jj67 ⟨x63,hRl66,rfl,rfl⟩ [0,1,3]
 obtain⟨⟨x47',x53'⟩,hL,hRl59⟩:=aO hF
 refine dW (fun k a w=>∃(x34:List Int),∃(x40:List (List Rat)),∃(x46:Int),∃(b35:Option Nat),∃(c36:Nat),∃(n37:Nat),∃(b41:Option Nat),∃(c42:Nat),∃(n43:Nat),fD K a0 a1 v14 k x34 x40 x46=some (x47',x53')∧x34.length=n37∧x40.length=n43∧hs _ [hO cI b35 c36 3 n37 x34,hO (fZ cQ) b41 c42 24 n43 x40,⟨some b16,1,42,4,1,(eQ v14)⟩,⟨some b1,1,30,3,1,([pS cQ ([]:List Rat)]++[pS cQ ([]:List Rat)]++[pI .i64 0])⟩] [(0,.vc (pS (fZ cQ) a0)),(1,.vc (pS cQ a1)),(2,.vc (pI .i64 a2)),(6,.vc (pP (some b1) 0)),(8,.vc (pI .i64 (a1.length:Int))),(9,.vc (pP (some b16) 0)),(10,.vc (pO b41 n43 c42)),(11,.vc (pO b35 n37 c36)),(12,.vc (pI .i64 x46))] a w) K (fun a w ⟨_,_,_,_,_,_,_,_,_,hF,_,_,_⟩=>by cases hF) (fun k a w ⟨x34,x40,x46,b35,c36,n37,b41,c42,n43,hF,q38,q44,hh⟩=>dV ?_ hh) (fun a w hh=>⟨([]:List Int),([]:List (List Rat)),0,none,0,0,none,0,0,hL,rfl,rfl,gO [0,1,2,3] hh⟩)
 rw [fD.eq_2] at hF
 refine go ?_ ?_
 refine aC hF rfl (fun h283 hF=>?_) (fun h283 hF=>?_)
 ·refine go ?_ ?_
  refine aI ?_
  obtain⟨v284,h285,v286,h287,x288,h289,hF⟩:=bn3 hF
  refine go ?_ ?_
  refine qG (C:=cQ) rfl tyS24 rfl tyZ42q rfl h289 (fun b290=>?_)
  obtain⟨v293,h294,x295,h296,hF⟩:=tY hF
  refine go ?_ ?_
  refine aI (aY (fun H E=>∃(x312:List Rat),nG K a1 x34 x40 x46 (fD K a0 a1 v14 k) x312=some (x47',x53')∧x312.length=x288.length∧H=[hO cQ b290 x288.length 42 x288.length x312,hO cI b35 c36 3 n37 x34,hO (fZ cQ) b41 c42 24 n43 x40,⟨some b16,1,42,4,1,(eQ v14)⟩,⟨some b1,1,30,3,1,([pS cQ ([]:List Rat)]++[pS cQ ([]:List Rat)]++[pI .i64 0])⟩]∧E=[(0,.vc (pS (fZ cQ) a0)),(1,.vc (pS cQ a1)),(2,.vc (pI .i64 a2)),(6,.vc (pP (some b1) 0)),(8,.vc (pI .i64 (a1.length:Int))),(9,.vc (pP (some b16) 0)),(10,.vc (pO b41 n43 c42)),(11,.vc (pO b35 n37 c36)),(12,.vc (pI .i64 x46)),(13,.vc (pO b290 x288.length x288.length))]) ?_ (fun Jj319=>?_))
  ·rintro _ _ ⟨x312,hF,q316,rfl,rfl⟩
   unfold nG at hF
   refine aJ (aD (aK (fL ?_)))
   refine fL ?_
   have hF:=qB h285 hF
   refine aH (aCK rfl h285) ⟨oJ _ _,rfl,trivial⟩ ?_
   obtain⟨v322,h323,hF⟩:=aX hF cR
   refine aH (bD rfl h323 rfl) ⟨oJ _ _,oJ _ _,trivial⟩ ?_
   obtain⟨v324,h325,hF⟩:=aO hF
   refine aH (gN (C:=cQ) 0 rfl tyS24 rfl q316 (aG h325).1 (aG h325).2.1) zU2 ?_
   obtain⟨x326,h327,hF⟩:=aO hF
   refine lI (wB 0 rfl rfl h325 h327 tyA42.s) zU2 ?_
   refine aU (aJ (aD (aK (fL ?_))))
   refine fL ?_
   have hF:=qB h285 hF
   refine aH (aCK rfl h285) ⟨oJ _ _,rfl,trivial⟩ ?_
   obtain⟨v331,h332,hF⟩:=aO hF
   refine aH (yU rfl h332) ⟨rfl,oJ _ _,trivial⟩ ?_
   refine fL ?_
   refine fL ?_
   obtain⟨v333,h334,hF⟩:=aO hF
   refine aH (vZ rfl tyS24 h334) zU2 ?_
   refine aH (vH 4 rfl rfl (.agg tyA42)) zU1 ?_
   obtain⟨v335,h336,hF⟩:=aO hF
   refine aH (gN (C:=cQ) 0 rfl tyS24 rfl (bE h327 q316) (aG h336).1 (aG h336).2.1) zU2 ?_
   obtain⟨x337,h338,hF⟩:=aO hF
   refine lI (wB 0 rfl rfl h336 h338 tyA42.s) zU2 ?_
   refine aU (aJ (aD (aK (fL ?_))))
   refine fL ?_
   refine wI 0 [13,73,78,88] rfl (bE h338 (bE h327 q316)) ⟨rfl,rfl,rfl,rfl,trivial⟩ rfl ?_
   refine aH (gP (C:=(fZ cQ)) (xs:=[.tmp 88]) (ps:=[.vc (pS cQ x337)]) (zs:=[x337]) rfl tyS23 rfl ⟨⟨trivial,rfl⟩,trivial⟩ rfl) zU1 ?_
   obtain⟨x340,h341,hF⟩:=aO hF
   refine kK 1 rfl tyS23 rfl rfl q44 rfl rfl h341 (fun b342 c343 H344 e345=>?_)
   cases e345
   refine go ?_ ?_
   refine aH (gP (C:=cI) (xs:=[.tmp 92]) (ps:=[.vc (pI .i64 x46)]) (zs:=[x46]) rfl tyS22 rfl ⟨⟨trivial,rfl⟩,trivial⟩ rfl) zU1 ?_
   obtain⟨x347,h348,hF⟩:=aO hF
   refine kK 0 rfl tyS22 rfl rfl q38 rfl rfl h348 (fun b349 c350 H351 e352=>?_)
   cases e352
   obtain⟨v354,h355,hF⟩:=aO hF
   refine go ?_ ?_
   exact aF (fun a w hh=>⟨x347,x340,v354,b349,c350,(n37+[x46].length),b342,c343,(n43+[x337].length),hF,(bL h348 q38),(bL h341 q44),gO [0,1,2,3] hh⟩)
  obtain⟨x312',hL,hRl318⟩:=aO hF
  refine dW (fun k a w=>∃(x305:List Rat),∃(x311:Int),gE K a0 a1 x46 k x305 x311=some x312'∧x305.length=x288.length∧hs _ [hO cQ b290 x288.length 42 x288.length x305,hO cI b35 c36 3 n37 x34,hO (fZ cQ) b41 c42 24 n43 x40,⟨some b16,1,42,4,1,(eQ v14)⟩,⟨some b1,1,30,3,1,([pS cQ ([]:List Rat)]++[pS cQ ([]:List Rat)]++[pI .i64 0])⟩] [(0,.vc (pS (fZ cQ) a0)),(1,.vc (pS cQ a1)),(2,.vc (pI .i64 a2)),(6,.vc (pP (some b1) 0)),(8,.vc (pI .i64 (a1.length:Int))),(9,.vc (pP (some b16) 0)),(10,.vc (pO b41 n43 c42)),(11,.vc (pO b35 n37 c36)),(12,.vc (pI .i64 x46)),(13,.vc (pO b290 x288.length x288.length)),(14,.vc (pI .i64 x311))] a w) K (fun a w ⟨_,_,hF,_,_⟩=>by cases hF) (fun k a w ⟨x305,x311,hF,q309,hh⟩=>dV ?_ hh) (fun a w hh=>⟨x295,0,hL,(bE h296 rfl),gO [0,1,2,3,4] hh⟩)
  rw [gE.eq_2] at hF
  refine go ?_ ?_
  refine aC hF rfl (fun h356 hF=>?_) (fun h356 hF=>?_)
  ·refine go ?_ ?_
   refine aI ?_
   obtain⟨v357,h358,v359,h360,v361,h362,hF⟩:=bn3 hF
   obtain⟨v363,h364,hF⟩:=aX hF o9
   obtain⟨v365,h366,x367,h368,v370,h371,hF⟩:=bn3 hF
   refine go ?_ ?_
   exact aF (fun a w hh=>⟨x367,v370,hF,(bE h368 q309),gO [0,1,2,3,4] hh⟩)
  refine bI ?_
  obtain rfl:=iR hF
  exact p6 Jj319 ⟨x305,hRl318,q309,rfl,rfl⟩ [0,1,2,3,4]
 refine bI ?_
 obtain⟨rfl,rfl⟩:=sm2 hF
 exact p6 Jj60 ⟨x34,x40,b35,c36,n37,b41,c42,n43,hRl59,q38,q44,rfl,rfl⟩ [0,1,2,3]
def tM (K:Nat):Option Bool:=
 some true
def p9 (K:Nat) (a0:List Rat) (a1:List Rat):Nat→Int→Option (LR Bool Unit)
 |0,_=>none
 |k+1,x3=>bif(decide (x3<(a0.length:Int))) then((bO a0 x3).bind fun v9=>(bO a1 x3).bind fun v11=>(aOk v9 v11).bind fun v13=>bif(!v13) then(some (.ret false)) else((aR (x3+1)).bind fun v16=>p9 K a0 a1 k v16)) else(some (.go ()))
def o7 (K:Nat) (a0:List Rat) (a1:List Rat):Option Bool:=
 bif((a0.length:Int) != (a1.length:Int)) then(some false) else((p9 K a0 a1 K 0).bind fun o=>match o with| .ret r=>some r| .go _=>tM K)
theorem uG {K:Nat} {a0:List Rat} {a1:List Rat} {r:Bool} (hF:o7 K a0 a1=some r):Ct Tryz.prog 15 [.vc (pS cQ a0),.vc (pS cQ a1)] (.vc (pB r)):=by
 unfold o7 at hF
 refine aA Tryz.func15 rfl (by kernel_rfl) Tryz.ntmps15 rfl (fun w0 M0=>?_)
 refine go ?_ ?_
 refine aC hF rfl (fun h1 hF=>?_) (fun h1 hF=>?_)
 ·exact bP
 refine go ?_ ?_
 refine aI (aY (fun H E=>tM K=some r∧H=[]∧E=[]) ?_ (fun Jj5=>?_))
 ·rintro _ _ ⟨hF,rfl,rfl⟩
  unfold tM at hF
  exact bP
 obtain⟨ol4,hL,hRl4⟩:=aO hF
 refine dW (fun k a w=>∃(x3:Int),p9 K a0 a1 k x3=some ol4∧hs _ [] [(0,.vc (pS cQ a0)),(1,.vc (pS cQ a1)),(5,.vc (pI .i64 x3))] a w) K (fun a w ⟨_,hF,_⟩=>by cases hF) (fun k a w ⟨x3,hF,hh⟩=>dV ?_ hh) (fun a w hh=>⟨0,hL,gO [] hh⟩)
 rw [p9.eq_2] at hF
 refine go ?_ ?_
 refine aC hF rfl (fun h6 hF=>?_) (fun h6 hF=>?_)
 ·refine go ?_ ?_
  refine aI (aD ?_)
  obtain⟨v9,h10,hF⟩:=aO hF
  obtain⟨v11,h12,hF⟩:=aO hF
  obtain⟨v13,h14,hF⟩:=aX hF aB0
  refine dr [0,0,3,7,0,0,48,112,255,511] 10 0 ?_ (fun bs8 G7=>?_)
  refine aU (aJ (aC hF rfl (fun h15 hF=>?_) (fun h15 hF=>?_)))
  ·exact bP
  obtain⟨v16,h17,hF⟩:=aO hF
  refine go ?_ ?_
  exact aF (fun a w hh=>⟨v16,hF,gO [] hh⟩)
 refine bI ?_
 obtain rfl:=iR hF
 exact p6 Jj5 ⟨hRl4,rfl,rfl⟩ []
def xO (K:Nat) (x7:Rat):Option Rat:=
 some x7
def sM (K:Nat) (a0:List Rat):Nat→Rat→Int→Option Rat
 |0,_,_=>none
 |k+1,x5,x6=>bif(decide (x6<(a0.length:Int))) then((bO a0 x6).bind fun v11=>(aDR x5 v11).bind fun v14=>(aR (x6+1)).bind fun v16=>sM K a0 k v14 v16) else(some x5)
def aBR (K:Nat) (a0:List Rat):Option Rat:=
 (sM K a0 K 0 0).bind fun x7=>xO K x7
theorem aIt {K:Nat} {a0:List Rat} {r:Rat} (hF:aBR K a0=some r):Ct Tryz.prog 126 [.vc (pS cQ a0)] (.va (eQ r)):=by
 unfold aBR at hF
 refine aA Tryz.func126 rfl (by kernel_rfl) Tryz.ntmps126 rfl (fun w0 M0=>?_)
 refine aD (aK (aL rfl tyZ42q (fun b1=>?_)))
 refine go ?_ ?_
 refine aL rfl tyZ42q (fun b2=>?_)
 refine go ?_ ?_
 refine aI (aY (fun H E=>∃(x7:Rat),xO K x7=some r∧H=[⟨some b2,1,42,4,1,(eQ x7)⟩,⟨some b1,1,42,4,1,(eQ 0)⟩]∧E=[(2,.vc (pP (some b1) 0)),(3,.vc (pP (some b2) 0))]) ?_ (fun Jj9=>?_))
 ·rintro _ _ ⟨x7,hF,rfl,rfl⟩
  unfold xO at hF
  exact bP
 obtain⟨x7',hL,hRl8⟩:=aO hF
 refine dW (fun k a w=>∃(x5:Rat),∃(x6:Int),sM K a0 k x5 x6=some x7'∧hs _ [⟨some b2,1,42,4,1,(eQ x5)⟩,⟨some b1,1,42,4,1,(eQ 0)⟩] [(2,.vc (pP (some b1) 0)),(3,.vc (pP (some b2) 0)),(6,.vc (pS cQ a0)),(7,.vc (pI .i64 (a0.length:Int))),(8,.vc (pI .i64 x6))] a w) K (fun a w ⟨_,_,hF,_⟩=>by cases hF) (fun k a w ⟨x5,x6,hF,hh⟩=>dV ?_ hh) (fun a w hh=>⟨0,0,hL,gO [0,1] hh⟩)
 rw [sM.eq_2] at hF
 refine go ?_ ?_
 refine aC hF rfl (fun h10 hF=>?_) (fun h10 hF=>?_)
 ·refine go ?_ ?_
  refine aI ?_
  obtain⟨v11,h12,hF⟩:=aO hF
  refine go ?_ ?_
  refine aL rfl tyZ42q (fun b13=>?_)
  obtain⟨v14,h15,hF⟩:=aX hF aCp
  obtain⟨v16,h17,hF⟩:=aO hF
  refine go ?_ ?_
  exact aF (fun a w hh=>⟨v14,v16,hF,gO [1,2] hh⟩)
 refine bI ?_
 obtain rfl:=iR hF
 exact p6 Jj9 ⟨x5,hRl8,rfl,rfl⟩ [0,1]
def wU (K:Nat) (x18:List Rat):Option Rat:=
 (aBR K x18).bind fun v26=>some v26
def rF (K:Nat) (a0:List Rat) (a1:List Rat):Nat→(List Rat)→Int→Option (List Rat)
 |0,_,_=>none
 |k+1,x11,x17=>bif(decide (x17<(min (a0.length:Int) (a1.length:Int)))) then((bO a0 x17).bind fun v31=>(bO a1 x17).bind fun v33=>(aES v31 v33).bind fun v35=>(sD x11 [v35]).bind fun x37=>(aR (x17+1)).bind fun v44=>rF K a0 a1 k x37 v44) else(some x11)
def wP (K:Nat) (a0:List Rat) (a1:List Rat):Option Rat:=
 (rF K a0 a1 K ([]:List Rat) 0).bind fun x18=>wU K x18
theorem aCb {K:Nat} {a0:List Rat} {a1:List Rat} {r:Rat} (hF:wP K a0 a1=some r):Ct Tryz.prog 73 [.vc (pS cQ a0),.vc (pS cQ a1)] (.va (eQ r)):=by
 unfold wP at hF
 refine aA Tryz.func73 rfl (by kernel_rfl) Tryz.ntmps73 rfl (fun w0 M0=>?_)
 refine aD (aK (aL rfl tyZ42q (fun b1=>?_)))
 refine aU (aJ (aD (aK (pN cQ 42 rfl ?_))))
 refine go ?_ ?_
 refine aI (aY (fun H E=>∃(x18:List Rat),∃(b19:Option Nat),∃(c20:Nat),∃(n21:Nat),wU K x18=some r∧x18.length=n21∧H=[hO cQ b19 c20 42 n21 x18,⟨some b1,1,42,4,1,(eQ 0)⟩]∧E=[(4,.vc (pP (some b1) 0)),(5,.vc (pO b19 n21 c20))]) ?_ (fun Jj25=>?_))
 ·rintro _ _ ⟨x18,b19,c20,n21,hF,q22,rfl,rfl⟩
  unfold wU at hF
  refine aJ (aD (aK (fL ?_)))
  refine wI 0 [5,28] rfl q22 zU2 rfl ?_
  obtain⟨v26,h27,hF⟩:=aX hF aIt
  exact bP
 obtain⟨x18',hL,hRl24⟩:=aO hF
 refine dW (fun k a w=>∃(x11:List Rat),∃(x17:Int),∃(b12:Option Nat),∃(c13:Nat),∃(n14:Nat),rF K a0 a1 k x11 x17=some x18'∧x11.length=n14∧hs _ [hO cQ b12 c13 42 n14 x11,⟨some b1,1,42,4,1,(eQ 0)⟩] [(0,.vc (pS cQ a0)),(1,.vc (pS cQ a1)),(4,.vc (pP (some b1) 0)),(5,.vc (pO b12 n14 c13)),(11,.vc (pI .i64 (min (a0.length:Int) (a1.length:Int)))),(12,.vc (pI .i64 x17))] a w) K (fun a w ⟨_,_,_,_,_,hF,_,_⟩=>by cases hF) (fun k a w ⟨x11,x17,b12,c13,n14,hF,q15,hh⟩=>dV ?_ hh) (fun a w hh=>⟨([]:List Rat),0,none,0,0,hL,rfl,gO [0,1] hh⟩)
 rw [rF.eq_2] at hF
 refine go ?_ ?_
 refine aC hF rfl (fun h28 hF=>?_) (fun h28 hF=>?_)
 ·refine go ?_ ?_
  refine aI ?_
  obtain⟨v31,h32,v33,h34,hF⟩:=tY hF
  obtain⟨v35,h36,hF⟩:=aX hF yZ
  refine go ?_ ?_
  refine iG [0,0,0,6,14,0,0,96,224,510,1022,2047,4095] 11 2 [.v (.vc (pO b12 n14 c13)),.v (.vc (pS cQ a0)),.v (.vc (pI .i64 x17)),.v (.vc (pM (cQ.e v31))),.v (.va (eQ v31)),.v (.vc (pS cQ a1)),.v (.vc (pI .i64 x17)),.v (.vc (pM (cQ.e v33))),.v (.va (eQ v33)),.v (.va (eQ v35)),.v (.vc (pS cQ [v35]))] aW ⟨d0 (aM (.inl rfl)) zU1,d0 (aM (.inl rfl)) zU1,d0 (aM (.inl rfl)) zU1,d0 (vZ rfl tyS24 h32) zU2,d0 (vH 4 rfl rfl (.agg tyA42)) zU1,d0 (aM (.inl rfl)) zU1,d0 (aM (.inl rfl)) zU1,d0 (vZ rfl tyS24 h34) zU2,d0 (vH 4 rfl rfl (.agg tyA42)) zU1,d0 (bD rfl h36 rfl) zU2,d0 (gP (C:=cQ) (xs:=[.tmp 24]) (ps:=[.va (eQ v35)]) (zs:=[v35]) rfl tyS24 rfl ⟨⟨trivial,rfl⟩,trivial⟩ rfl) zU1,trivial⟩ (fun bs30 G29=>?_)
  obtain⟨x37,h38,hF⟩:=aO hF
  refine kK 0 rfl tyS24 rfl rfl q15 rfl rfl h38 (fun b39 c40 H41 e42=>?_)
  cases e42
  obtain⟨v44,h45,hF⟩:=aO hF
  refine go ?_ ?_
  exact aF (fun a w hh=>⟨x37,v44,b39,c40,(n14+[v35].length),hF,(bL h38 q15),gO [0,1] hh⟩)
 refine bI ?_
 obtain rfl:=iR hF
 exact p6 Jj25 ⟨x11,b12,c13,n14,hRl24,q15,rfl,rfl⟩ [0,1]
def nX (K:Nat) (x20:List Rat):Option (List Rat):=
 some x20
def gX (K:Nat) (a0:List (List Rat)) (a1:List Rat) (a2:List Rat):Nat→(List Rat)→Int→Option (List Rat)
 |0,_,_=>none
 |k+1,x13,x19=>bif(decide (x19<(a0.length:Int))) then((bO a0 x19).bind fun v29=>(wP K v29 a2).bind fun v33=>(bO a1 x19).bind fun v35=>(aDR v33 v35).bind fun v37=>(bO x13 x19).bind fun v39=>(pA x13 x19 v37).bind fun x41=>(aR (x19+1)).bind fun v44=>gX K a0 a1 a2 k x41 v44) else(some x13)
def rN (K:Nat) (a0:List (List Rat)) (a1:List Rat) (a2:List Rat):Option (List Rat):=
 (y4 (a1.length:Int) 0).bind fun x1=>(gX K a0 a1 a2 K x1 0).bind fun x20=>nX K x20
theorem aBk {K:Nat} {a0:List (List Rat)} {a1:List Rat} {a2:List Rat} {r:List Rat} (hF:rN K a0 a1 a2=some r):Ct Tryz.prog 57 [.vc (pS (fZ cQ) a0),.vc (pS cQ a1),.vc (pS cQ a2)] (.vc (pS cQ r)):=by
 unfold rN at hF
 refine aA Tryz.func57 rfl (by kernel_rfl) Tryz.ntmps57 rfl (fun w0 M0=>?_)
 refine aD (aK (aH (aM (.inr rfl)) ⟨eM cQ,trivial⟩ ?_))
 obtain⟨x1,h2,hF⟩:=aO hF
 refine go ?_ ?_
 refine qG (C:=cQ) rfl tyS24 rfl tyZ42q rfl h2 (fun b3=>?_)
 refine go ?_ ?_
 refine aI (aY (fun H E=>∃(x20:List Rat),nX K x20=some r∧x20.length=x1.length∧H=[hO cQ b3 x1.length 42 x1.length x20]∧E=[(7,.vc (pO b3 x1.length x1.length))]) ?_ (fun Jj27=>?_))
 ·rintro _ _ ⟨x20,hF,q24,rfl,rfl⟩
  unfold nX at hF
  refine go ?_ ?_
  refine fX (fY (mL 0 [6,7,32] rfl q24 ⟨rfl,rfl,rfl,trivial⟩ rfl ?_))
  obtain rfl:=iR hF
  exact gW (.inl rfl) Tryz.results57 (.tmp rfl .nil) rfl rfl
 obtain⟨x20',hL,hRl26⟩:=aO hF
 refine dW (fun k a w=>∃(x13:List Rat),∃(x19:Int),gX K a0 a1 a2 k x13 x19=some x20'∧x13.length=x1.length∧hs _ [hO cQ b3 x1.length 42 x1.length x13] [(1,.vc (pS cQ a1)),(2,.vc (pS cQ a2)),(7,.vc (pO b3 x1.length x1.length)),(13,.vc (pS (fZ cQ) a0)),(14,.vc (pI .i64 (a0.length:Int))),(15,.vc (pI .i64 x19))] a w) K (fun a w ⟨_,_,hF,_,_⟩=>by cases hF) (fun k a w ⟨x13,x19,hF,q17,hh⟩=>dV ?_ hh) (fun a w hh=>⟨x1,0,hL,rfl,gO [0] hh⟩)
 rw [gX.eq_2] at hF
 refine go ?_ ?_
 refine aC hF rfl (fun h28 hF=>?_) (fun h28 hF=>?_)
 ·refine go ?_ ?_
  refine aI ?_
  obtain⟨v29,h30,hF⟩:=aO hF
  obtain⟨v33,h34,hF⟩:=aX hF aCb
  obtain⟨v35,h36,hF⟩:=aO hF
  obtain⟨v37,h38,hF⟩:=aX hF aCp
  obtain⟨v39,h40,hF⟩:=aO hF
  refine go ?_ ?_
  refine dr [0,0,0,0,12,0,0,96,224,508,1023,2047] 11 1 ?_ (fun bs32 G31=>?_)
  obtain⟨x41,h42,v44,h45,hF⟩:=tY hF
  refine go ?_ ?_
  exact aF (fun a w hh=>⟨x41,v44,hF,(bE h42 q17),gO [0] hh⟩)
 refine bI ?_
 obtain rfl:=iR hF
 exact p6 Jj27 ⟨x13,hRl26,q17,rfl,rfl⟩ [0]
def oS (K:Nat) (v11:List Rat):Option Bool:=
 (gR K v11).bind fun v17=>some (!v17)
def gB (K:Nat) (a2:List Rat) (v11:List Rat):Nat→Int→Option (LR Bool Unit)
 |0,_=>none
 |k+1,x14=>bif(decide (x14<(a2.length:Int))) then((bO a2 x14).bind fun v20=>(xD v20).bind fun v22=>bif(decide (0<v22)) then((bO v11 x14).bind fun v25=>(xD v25).bind fun v27=>bif(v27 != 0) then(some (.ret false)) else((aR (x14+1)).bind fun v30=>gB K a2 v11 k v30)) else((aR (x14+1)).bind fun v32=>gB K a2 v11 k v32)) else(some (.go ()))
def dZ (K:Nat) (a0:List (List Rat)) (a1:List Rat) (a2:List Rat):Option Bool:=
 (dX K a0 a1).bind fun v1=>bif(!v1) then(some false) else(bif((a2.length:Int) != (a1.length:Int)) then(some false) else((kM K a2).bind fun v5=>bif(!v5) then(some false) else((gR K a2).bind fun v8=>bif v8 then(some false) else((rN K a0 a1 a2).bind fun v11=>(gB K a2 v11 K 0).bind fun o=>match o with| .ret r=>some r| .go _=>oS K v11))))
theorem uK {K:Nat} {a0:List (List Rat)} {a1:List Rat} {a2:List Rat} {r:Bool} (hF:dZ K a0 a1 a2=some r):Ct Tryz.prog 16 [.vc (pS (fZ cQ) a0),.vc (pS cQ a1),.vc (pS cQ a2)] (.vc (pB r)):=by
 unfold dZ at hF
 refine aA Tryz.func16 rfl (by kernel_rfl) Tryz.ntmps16 rfl (fun w0 M0=>?_)
 obtain⟨v1,h2,hF⟩:=aX hF rM
 refine go ?_ ?_
 refine cG hF (fun h3 hF=>?_) (fun h3 hF=>?_)
 ·refine go ?_ ?_
  refine eU rfl ?_
  exact bP
 refine go ?_ ?_
 refine cG hF (fun h4 hF=>?_) (fun h4 hF=>?_)
 ·refine go ?_ ?_
  refine eU rfl ?_
  exact bP
 obtain⟨v5,h6,hF⟩:=aX hF sN
 refine go ?_ ?_
 refine cG hF (fun h7 hF=>?_) (fun h7 hF=>?_)
 ·refine go ?_ ?_
  refine eU rfl ?_
  exact bP
 obtain⟨v8,h9,hF⟩:=aX hF oX
 refine go ?_ ?_
 refine aC hF rfl (fun h10 hF=>?_) (fun h10 hF=>?_)
 ·exact bP
 obtain⟨v11,h12,hF⟩:=aX hF aBk
 refine go ?_ ?_
 refine aI (aY (fun H E=>oS K v11=some r∧H=[]∧E=[(7,.vc (pS cQ v11))]) ?_ (fun Jj16=>?_))
 ·rintro _ _ ⟨hF,rfl,rfl⟩
  unfold oS at hF
  obtain⟨v17,h18,hF⟩:=aX hF oX
  exact bP
 obtain⟨ol15,hL,hRl15⟩:=aO hF
 refine dW (fun k a w=>∃(x14:Int),gB K a2 v11 k x14=some ol15∧hs _ [] [(2,.vc (pS cQ a2)),(7,.vc (pS cQ v11)),(34,.vc (pI .i64 (a2.length:Int))),(35,.vc (pI .i64 x14))] a w) K (fun a w ⟨_,hF,_⟩=>by cases hF) (fun k a w ⟨x14,hF,hh⟩=>dV ?_ hh) (fun a w hh=>⟨0,hL,gO [] hh⟩)
 rw [gB.eq_2] at hF
 refine go ?_ ?_
 refine aC hF rfl (fun h19 hF=>?_) (fun h19 hF=>?_)
 ·refine go ?_ ?_
  refine aI ?_
  obtain⟨v20,h21,hF⟩:=aO hF
  obtain⟨v22,h23,hF⟩:=aX hF iJ
  refine go ?_ ?_
  refine cG hF (fun h24 hF=>?_) (fun h24 hF=>?_)
  ·obtain⟨v25,h26,hF⟩:=aO hF
   obtain⟨v27,h28,hF⟩:=aX hF iJ
   refine go ?_ ?_
   refine aC hF rfl (fun h29 hF=>?_) (fun h29 hF=>?_)
   ·exact bP
   obtain⟨v30,h31,hF⟩:=aO hF
   refine go ?_ ?_
   exact aF (fun a w hh=>⟨v30,hF,gO [] hh⟩)
  refine go ?_ ?_
  refine uV rfl ?_
  obtain⟨v32,h33,hF⟩:=aO hF
  refine go ?_ ?_
  exact aF (fun a w hh=>⟨v32,hF,gO [] hh⟩)
 refine bI ?_
 obtain rfl:=iR hF
 exact p6 Jj16 ⟨hRl15,rfl,rfl⟩ []
def rL (K:Nat) (x17:List Rat):Option (List Rat):=
 some x17
def kG (K:Nat) (a0:List (List Rat)) (a1:List Rat) (a2:List Rat):Nat→(List Rat)→Int→Option (List Rat)
 |0,_,_=>none
 |k+1,x10,x16=>bif(decide (x16<(a1.length:Int))) then((bO a1 x16).bind fun v28=>(bO a0 x16).bind fun v30=>(kR K v30 a2).bind fun v32=>(aDR v28 v32).bind fun v34=>(sD x10 [v34]).bind fun x36=>(aR (x16+1)).bind fun v43=>kG K a0 a1 a2 k x36 v43) else(some x10)
def tB (K:Nat) (a0:List (List Rat)) (a1:List Rat) (a2:List Rat):Option (List Rat):=
 (kG K a0 a1 a2 K ([]:List Rat) 0).bind fun x17=>rL K x17
theorem aDm {K:Nat} {a0:List (List Rat)} {a1:List Rat} {a2:List Rat} {r:List Rat} (hF:tB K a0 a1 a2=some r):Ct Tryz.prog 17 [.vc (pS (fZ cQ) a0),.vc (pS cQ a1),.vc (pS cQ a2)] (.vc (pS cQ r)):=by
 unfold tB at hF
 refine aA Tryz.func17 rfl (by kernel_rfl) Tryz.ntmps17 rfl (fun w0 M0=>?_)
 refine aD (aK (aH (aM (.inr rfl)) ⟨eM cQ,trivial⟩ ?_))
 refine aU (aJ (aD (aK (pN cQ 42 rfl ?_))))
 refine go ?_ ?_
 refine aI (aY (fun H E=>∃(x17:List Rat),∃(b18:Option Nat),∃(c19:Nat),∃(n20:Nat),rL K x17=some r∧x17.length=n20∧H=[hO cQ b18 c19 42 n20 x17]∧E=[(7,.vc (pO b18 n20 c19))]) ?_ (fun Jj24=>?_))
 ·rintro _ _ ⟨x17,b18,c19,n20,hF,q21,rfl,rfl⟩
  unfold rL at hF
  refine go ?_ ?_
  refine fX (fY (mL 0 [6,7,29] rfl q21 ⟨rfl,rfl,rfl,trivial⟩ rfl ?_))
  obtain rfl:=iR hF
  exact gW (.inl rfl) Tryz.results17 (.tmp rfl .nil) rfl rfl
 obtain⟨x17',hL,hRl23⟩:=aO hF
 refine dW (fun k a w=>∃(x10:List Rat),∃(x16:Int),∃(b11:Option Nat),∃(c12:Nat),∃(n13:Nat),kG K a0 a1 a2 k x10 x16=some x17'∧x10.length=n13∧hs _ [hO cQ b11 c12 42 n13 x10] [(0,.vc (pS (fZ cQ) a0)),(1,.vc (pS cQ a1)),(2,.vc (pS cQ a2)),(7,.vc (pO b11 n13 c12)),(8,.vc (pI .i64 x16))] a w) K (fun a w ⟨_,_,_,_,_,hF,_,_⟩=>by cases hF) (fun k a w ⟨x10,x16,b11,c12,n13,hF,q14,hh⟩=>dV ?_ hh) (fun a w hh=>⟨([]:List Rat),0,none,0,0,hL,rfl,gO [0] hh⟩)
 rw [kG.eq_2] at hF
 refine go ?_ ?_
 refine aC hF rfl (fun h25 hF=>?_) (fun h25 hF=>?_)
 ·refine go ?_ ?_
  refine aI ?_
  obtain⟨v28,h29,hF⟩:=aO hF
  obtain⟨v30,h31,hF⟩:=aO hF
  obtain⟨v32,h33,hF⟩:=aX hF vI
  obtain⟨v34,h35,hF⟩:=aX hF pJ
  refine iG [0,0,0,6,14,0,0,96,224,0,992,2046,4094,8191,16383] 13 2 [.v (.vc (pO b11 n13 c12)),.v (.vc (pS cQ a1)),.v (.vc (pI .i64 x16)),.v (.vc (pM (cQ.e v28))),.v (.va (eQ v28)),.v (.vc (pS (fZ cQ) a0)),.v (.vc (pI .i64 x16)),.v (.vc (pM ((fZ cQ).e v30))),.v (.vc (pS cQ v30)),.v (.vc (pS cQ a2)),.v (.va (eQ v32)),.v (.va (eQ v34)),.v (.vc (pS cQ [v34]))] aW ⟨d0 (aM (.inl rfl)) zU1,d0 (aM (.inl rfl)) zU1,d0 (aM (.inl rfl)) zU1,d0 (vZ rfl tyS24 h29) zU2,d0 (vH 4 rfl rfl (.agg tyA42)) zU1,d0 (aM (.inl rfl)) zU1,d0 (aM (.inl rfl)) zU1,d0 (vZ rfl tyS23 h31) zU2,d0 (vH 1 rfl rfl (.one tyO24)) zU1,d0 (aM (.inl rfl)) zU1,d0 (bD rfl h33 rfl) zU2,d0 (bD rfl h35 rfl) zU2,d0 (gP (C:=cQ) (xs:=[.tmp 26]) (ps:=[.va (eQ v34)]) (zs:=[v34]) rfl tyS24 rfl ⟨⟨trivial,rfl⟩,trivial⟩ rfl) zU1,trivial⟩ (fun bs27 G26=>?_)
  obtain⟨x36,h37,hF⟩:=aO hF
  refine kK 0 rfl tyS24 rfl rfl q14 rfl rfl h37 (fun b38 c39 H40 e41=>?_)
  cases e41
  obtain⟨v43,h44,hF⟩:=aO hF
  refine go ?_ ?_
  exact aF (fun a w hh=>⟨x36,v43,b38,c39,(n13+[v34].length),hF,(bL h37 q14),gO [0] hh⟩)
 refine bI ?_
 obtain rfl:=iR hF
 exact p6 Jj24 ⟨x10,b11,c12,n13,hRl23,q14,rfl,rfl⟩ [0]
def o8 (K:Nat):Option Int:=
 some (-1)
def l4 (K:Nat) (a0:List aP) (a1:(aP→Option Bool)):Nat→Int→Option (LR Int Unit)
 |0,_=>none
 |k+1,x2=>bif(decide (x2<(a0.length:Int))) then((bO a0 x2).bind fun v6=>(a1 v6).bind fun v8=>bif v8 then(some (.ret x2)) else((aR (x2+1)).bind fun v11=>l4 K a0 a1 k v11)) else(some (.go ()))
def rS (K:Nat) (a0:List aP) (a1:(aP→Option Bool)):Option Int:=
 (l4 K a0 a1 K 0).bind fun o=>match o with| .ret r=>some r| .go _=>o8 K
theorem zQ {K:Nat} {a0:List aP} {a1:(aP→Option Bool)} {r:Int} (hF:rS K a0 a1=some r):Ct Tryz.prog 168 [.vc (pS aP.cod a0),.vc (pFn Tryz.prog (fun x:aP=>[.va (aP.enc x)]) (fun r:Bool=>.vc (pB r)) a1)] (.vc (pI .i64 r)):=by
 unfold rS at hF
 refine aA Tryz.func168 rfl (by kernel_rfl) Tryz.ntmps168 rfl (fun w0 M0=>?_)
 refine go ?_ ?_
 refine aI (aY (fun H E=>o8 K=some r∧H=[]∧E=[]) ?_ (fun Jj4=>?_))
 ·rintro _ _ ⟨hF,rfl,rfl⟩
  unfold o8 at hF
  exact bP
 obtain⟨ol3,hL,hRl3⟩:=aO hF
 refine dW (fun k a w=>∃(x2:Int),l4 K a0 a1 k x2=some ol3∧hs _ [] [(0,.vc (pS aP.cod a0)),(1,.vc (pFn Tryz.prog (fun x:aP=>[.va (aP.enc x)]) (fun r:Bool=>.vc (pB r)) a1)),(7,.vc (pI .i64 (a0.length:Int))),(8,.vc (pI .i64 x2))] a w) K (fun a w ⟨_,hF,_⟩=>by cases hF) (fun k a w ⟨x2,hF,hh⟩=>dV ?_ hh) (fun a w hh=>⟨0,hL,gO [] hh⟩)
 rw [l4.eq_2] at hF
 refine go ?_ ?_
 refine aC hF rfl (fun h5 hF=>?_) (fun h5 hF=>?_)
 ·refine go ?_ ?_
  refine aI ?_
  obtain⟨v6,h7,v8,h9,hF⟩:=tY hF
  refine go ?_ ?_
  refine aH (aD3 (pre:=fun x:aP=>[.va (aP.enc x)]) (post:=fun r:Bool=>.vc (pB r)) (x:=v6) (r:=v8) rfl h9 rfl) zU2 ?_
  refine aU (aJ (aC hF rfl (fun h10 hF=>?_) (fun h10 hF=>?_)))
  ·exact bP
  obtain⟨v11,h12,hF⟩:=aO hF
  refine go ?_ ?_
  exact aF (fun a w hh=>⟨v11,hF,gO [] hh⟩)
 refine bI ?_
 obtain rfl:=iR hF
 exact p6 Jj4 ⟨hRl3,rfl,rfl⟩ []
def pH (K:Nat) (a0:List aP) (a1:(aP→Option Bool)):Option Bool:=
 (rS K a0 a1).bind fun v1=>some (decide (0≤v1))
theorem xN {K:Nat} {a0:List aP} {a1:(aP→Option Bool)} {r:Bool} (hF:pH K a0 a1=some r):Ct Tryz.prog 145 [.vc (pS aP.cod a0),.vc (pFn Tryz.prog (fun x:aP=>[.va (aP.enc x)]) (fun r:Bool=>.vc (pB r)) a1)] (.vc (pB r)):=by
 unfold pH at hF
 refine aA Tryz.func145 rfl (by kernel_rfl) Tryz.ntmps145 rfl (fun w0 M0=>?_)
 obtain⟨v1,h2,hF⟩:=aX hF zQ
 exact bP
def tP (c0:aS) (a0:aP):Option Bool:=
 some ((a0.a.length:Int) != c0.vars)
theorem aCx {c0:aS} {a0:aP} {r:Bool} (hF:tP c0 a0=some r):Ct Tryz.prog 146 [.va (aP.enc a0),.vc (pM (aS.cod.e c0))] (.vc (pB r)):=by
 unfold tP at hF
 refine aA Tryz.func146 rfl (by kernel_rfl) Tryz.ntmps146 rfl (fun w0 M0=>?_)
 refine aD (aK (cK rfl rfl trivial (fun b1=>?_)))
 exact bP
def xF (K:Nat) (a0:aS):Option Int:=
 bif(decide (32<a0.vars)) then(some 4) else(bif(decide (64<(a0.lines.length:Int))) then(some 4) else(bif(decide (a0.vars<0)) then(some 1) else(bif((a0.goal.length:Int) != a0.vars) then(some 1) else((pH K a0.lines (tP a0)).bind fun v6=>bif v6 then(some 1) else(some 0)))))
theorem aDI {K:Nat} {a0:aS} {r:Int} (hF:xF K a0=some r):Ct Tryz.prog 110 [.va (aS.enc a0)] (.vc (pI .i64 r)):=by
 unfold xF at hF
 refine aA Tryz.func110 rfl (by kernel_rfl) Tryz.ntmps110 rfl (fun w0 M0=>?_)
 refine aD (aK (cK rfl rfl trivial (fun b1=>?_)))
 refine go ?_ ?_
 refine aI (go ?_ ?_)
 refine cG hF (fun h2 hF=>?_) (fun h2 hF=>?_)
 ·refine go ?_ ?_
  refine eU rfl ?_
  exact bP
 refine go ?_ ?_
 refine aC hF rfl (fun h3 hF=>?_) (fun h3 hF=>?_)
 ·exact bP
 refine go ?_ ?_
 refine cG hF (fun h4 hF=>?_) (fun h4 hF=>?_)
 ·refine go ?_ ?_
  refine eU rfl ?_
  exact bP
 refine go ?_ ?_
 refine cG hF (fun h5 hF=>?_) (fun h5 hF=>?_)
 ·refine go ?_ ?_
  refine eU rfl ?_
  exact bP
 refine wE (jW (off:=0) (k:=1) rfl tyF90_1) zU1 ?_
 refine wE (iD 0 1 rfl rfl rfl rfl (.one tyO88)) zU1 ?_
 refine aJa 0 [(1,0),(4,0),(8,1),(14,0),(18,2),(21,0),(26,1)] rfl ⟨rfl,rfl,rfl,rfl,rfl,rfl,rfl,trivial⟩ rfl ?_
 refine wE (aKY (φ:=(tP a0)) (pre:=fun x:aP=>[.va (aP.enc x)]) (post:=fun r:Bool=>.vc (pB r)) (xs:=[.tmp 1]) (cs:=[pM (aS.cod.e a0)]) rfl rfl (fun x r h=>aCx h)) zU1 ?_
 obtain⟨v6,h7,hF⟩:=aX hF xN
 refine go ?_ ?_
 refine aC hF rfl (fun h8 hF=>?_) (fun h8 hF=>?_)
 ·exact bP
 exact bP
def o6 (c0:Bool) (c1:List Rat) (a0:Int) (a1:Rat):Option (List Rat):=
 bif c0 then((aCr a1).bind fun v9=>(bO c1 a0).bind fun v11=>(pA c1 a0 v9).bind fun x13=>some x13) else((bO c1 a0).bind fun v16=>(pA c1 a0 a1).bind fun x18=>some x18)
theorem s6 {c0:Bool} {c1:List Rat} {a0:Int} {a1:Rat} {r:List Rat} (hF:o6 c0 c1 a0 a1=some r) {p1:Nat} {b3:Option Nat} {c4 n2:Nat} (q5:c1.length=n2):CtO Tryz.prog 147 [⟨some p1,1,24,1,1,[pO b3 n2 c4]⟩,hO cQ b3 c4 42 n2 c1] [.vc (pI .i64 a0),.va (eQ a1),.vc (pM (cB.e c0)),.vc (pP (some p1) 0)] (fun Ho q=>∃b23 c24 n22,r.length=n22∧Ho=[⟨some p1,1,24,1,1,[pO b23 n22 c24]⟩,hO cQ b23 c24 42 n22 r]∧q=.any):=by
 unfold o6 at hF
 refine aA Tryz.func147 rfl (by kernel_rfl) Tryz.ntmps147 rfl (fun w0 M0=>?_)
 refine aD (aK (cK rfl rfl trivial (fun b7=>?_)))
 refine go ?_ ?_
 refine aC hF rfl (fun h8 hF=>?_) (fun h8 hF=>?_)
 ·obtain⟨v9,h10,hF⟩:=aX hF wJ
  obtain⟨v11,h12,x13,h14,hF⟩:=tY hF
  obtain rfl:=iR hF
  refine go ?_ ?_
  exact aDp (.inr rfl) Tryz.results147 .nil rfl [1,2] rfl (by decide) ⟨b3,c4,n2,(bE h14 q5),rfl,rfl⟩
 obtain⟨v16,h17,x18,h19,hF⟩:=tY hF
 obtain rfl:=iR hF
 refine go ?_ ?_
 exact aDp (.inr rfl) Tryz.results147 .nil rfl [1,2] rfl (by decide) ⟨b3,c4,n2,(bE h19 q5),rfl,rfl⟩
def tW (c0:Int) (a0:Int):Option Rat:=
 bif(decide (c0≤a0)) then((qof 1 1).bind fun v3=>some v3) else(some 0)
theorem aCl {c0:Int} {a0:Int} {r:Rat} (hF:tW c0 a0=some r):Ct Tryz.prog 113 [.vc (pI .i64 a0),.vc (pM (cI.e c0))] (.va (eQ r)):=by
 unfold tW at hF
 refine aA Tryz.func113 rfl (by kernel_rfl) Tryz.ntmps113 rfl (fun w0 M0=>?_)
 refine aD (aK (aL rfl tyZ42q (fun b1=>?_)))
 refine go ?_ ?_
 refine aC hF rfl (fun h2 hF=>?_) (fun h2 hF=>?_)
 ·obtain⟨v3,h4,hF⟩:=aX hF tE
  exact bP
 refine go ?_ ?_
 refine aH (fG (is:=[]) (xs:=[]) (ps:=[]) rfl tyB42q rfl rfl trivial rfl) trivial ?_
 exact bP
def pG (a0:List Rat):Option (List Rat):=
 (sD ([]:List Rat) a0).bind fun x9=>some x9
theorem aBc {a0:List Rat} {r:List Rat} (hF:pG a0=some r):CtO Tryz.prog 77 [] [.vc (pS cQ a0)] (fun Ho q=>∃b18 c19 n17,r.length=n17∧Ho=[hO cQ b18 c19 42 n17 r]∧q=.vc (pO b18 n17 c19)):=by
 unfold pG at hF
 refine aA Tryz.func77 rfl (by kernel_rfl) Tryz.ntmps77 rfl (fun w0 M0=>?_)
 refine aD (aK (pN cQ 42 rfl ?_))
 refine aU (aJ (aD (aD (aK (fL ?_)))))
 refine aNq rfl Tryz.underlying24 rfl (fun h3=>?_) ?_
 ·skip
  subst h3
  have hF:some ([]:List Rat)=some r:=by simpa [sD] using hF
  refine aU (aJ (eU rfl ?_))
  refine aD (aK (pN cQ 42 rfl ?_))
  refine aU (aJ (fX (fY ?_)))
  obtain rfl:=iR hF
  exact aDp (.inl rfl) Tryz.results77 (.tmp rfl .nil) rfl [0] rfl (by decide) ⟨none,0,0,rfl,rfl,rfl⟩
 refine aU (aJ (uV rfl ?_))
 refine go ?_ ?_
 refine aFl (aCM (C:=cQ) (xs:=[]) (ps:=[]) (zs:=([]:List Rat)) rfl tyS24 rfl trivial rfl) trivial (fun b6 _=>?_)
 refine fL ?_
 obtain⟨x9,h10,hF⟩:=aO hF
 refine kK 0 rfl tyS24 rfl rfl rfl rfl rfl h10 (fun b11 c12 H13 e14=>?_)
 cases e14
 refine go ?_ ?_
 refine fX (fY ?_)
 obtain rfl:=iR hF
 exact aDp (.inl rfl) Tryz.results77 (.tmp rfl .nil) rfl [0] rfl (by decide) ⟨b11,c12,(0+a0.length),(bL h10 rfl),rfl,rfl⟩
theorem xK {a0:List Rat} {r:List Rat} (hF:pG a0=some r):Ct Tryz.prog 77 [.vc (pS cQ a0)] (.vc (pS cQ r)):=aLc (aBc hF)
def qE (K:Nat):Option Int:=
 some (-1)
def mE (K:Nat) (a0:List Rat) (a1:(Rat→Option Bool)):Nat→Int→Option (LR Int Unit)
 |0,_=>none
 |k+1,x2=>bif(decide (x2<(a0.length:Int))) then((bO a0 x2).bind fun v6=>(a1 v6).bind fun v8=>bif v8 then(some (.ret x2)) else((aR (x2+1)).bind fun v11=>mE K a0 a1 k v11)) else(some (.go ()))
def sJ (K:Nat) (a0:List Rat) (a1:(Rat→Option Bool)):Option Int:=
 (mE K a0 a1 K 0).bind fun o=>match o with| .ret r=>some r| .go _=>qE K
theorem aAn {K:Nat} {a0:List Rat} {a1:(Rat→Option Bool)} {r:Int} (hF:sJ K a0 a1=some r):Ct Tryz.prog 152 [.vc (pS cQ a0),.vc (pFn Tryz.prog (fun x:Rat=>[.va (eQ x)]) (fun r:Bool=>.vc (pB r)) a1)] (.vc (pI .i64 r)):=by
 unfold sJ at hF
 refine aA Tryz.func152 rfl (by kernel_rfl) Tryz.ntmps152 rfl (fun w0 M0=>?_)
 refine go ?_ ?_
 refine aI (aY (fun H E=>qE K=some r∧H=[]∧E=[]) ?_ (fun Jj4=>?_))
 ·rintro _ _ ⟨hF,rfl,rfl⟩
  unfold qE at hF
  exact bP
 obtain⟨ol3,hL,hRl3⟩:=aO hF
 refine dW (fun k a w=>∃(x2:Int),mE K a0 a1 k x2=some ol3∧hs _ [] [(0,.vc (pS cQ a0)),(1,.vc (pFn Tryz.prog (fun x:Rat=>[.va (eQ x)]) (fun r:Bool=>.vc (pB r)) a1)),(7,.vc (pI .i64 (a0.length:Int))),(8,.vc (pI .i64 x2))] a w) K (fun a w ⟨_,hF,_⟩=>by cases hF) (fun k a w ⟨x2,hF,hh⟩=>dV ?_ hh) (fun a w hh=>⟨0,hL,gO [] hh⟩)
 rw [mE.eq_2] at hF
 refine go ?_ ?_
 refine aC hF rfl (fun h5 hF=>?_) (fun h5 hF=>?_)
 ·refine go ?_ ?_
  refine aI ?_
  obtain⟨v6,h7,v8,h9,hF⟩:=tY hF
  refine go ?_ ?_
  refine aH (aD3 (pre:=fun x:Rat=>[.va (eQ x)]) (post:=fun r:Bool=>.vc (pB r)) (x:=v6) (r:=v8) rfl h9 rfl) zU2 ?_
  refine aU (aJ (aC hF rfl (fun h10 hF=>?_) (fun h10 hF=>?_)))
  ·exact bP
  obtain⟨v11,h12,hF⟩:=aO hF
  refine go ?_ ?_
  exact aF (fun a w hh=>⟨v11,hF,gO [] hh⟩)
 refine bI ?_
 obtain rfl:=iR hF
 exact p6 Jj4 ⟨hRl3,rfl,rfl⟩ []
def lK (a0:Rat):Option Bool:=
 (xD a0).bind fun v2=>some (v2 != 0)
theorem zZ {a0:Rat} {r:Bool} (hF:lK a0=some r):Ct Tryz.prog 153 [.va (eQ a0)] (.vc (pB r)):=by
 unfold lK at hF
 refine aA Tryz.func153 rfl (by kernel_rfl) Tryz.ntmps153 rfl (fun w0 M0=>?_)
 refine aD (aK (cK rfl rfl trivial (fun b1=>?_)))
 obtain⟨v2,h3,hF⟩:=aX hF iJ
 exact bP
def tV (c0:aS) (a0:Int):Option Rat:=
 bif(decide (a0<c0.vars)) then((bO c0.goal a0).bind fun v3=>(aCr v3).bind fun v5=>some v5) else((aR (2*c0.vars)).bind fun v7=>bif(decide (a0<v7)) then((aR (a0-c0.vars)).bind fun v10=>(bO c0.goal v10).bind fun v12=>some v12) else(some 0))
theorem aCd {c0:aS} {a0:Int} {r:Rat} (hF:tV c0 a0=some r):Ct Tryz.prog 117 [.vc (pI .i64 a0),.vc (pM (aS.cod.e c0))] (.va (eQ r)):=by
 unfold tV at hF
 refine aA Tryz.func117 rfl (by kernel_rfl) Tryz.ntmps117 rfl (fun w0 M0=>?_)
 refine aD (aK (aL rfl tyZ42q (fun b1=>?_)))
 refine go ?_ ?_
 refine aI (go ?_ ?_)
 refine aC hF rfl (fun h2 hF=>?_) (fun h2 hF=>?_)
 ·obtain⟨v3,h4,hF⟩:=aO hF
  obtain⟨v5,h6,hF⟩:=aX hF wJ
  exact bP
 obtain⟨v7,h8,hF⟩:=aO hF
 refine go ?_ ?_
 refine aC hF rfl (fun h9 hF=>?_) (fun h9 hF=>?_)
 ·obtain⟨v10,h11,v12,h13,hF⟩:=tY hF
  exact bP
 refine go ?_ ?_
 refine aH (fG (is:=[]) (xs:=[]) (ps:=[]) rfl tyB42q rfl rfl trivial rfl) trivial ?_
 exact bP
def tF (K:Nat):Option Int:=
 some (-1)
def pW (K:Nat) (a0:List Int) (a1:Int):Nat→Int→Option (LR Int Unit)
 |0,_=>none
 |k+1,x2=>bif(decide (x2<(a0.length:Int))) then((bO a0 x2).bind fun v6=>bif(a1==v6) then(some (.ret x2)) else((aR (x2+1)).bind fun v9=>pW K a0 a1 k v9)) else(some (.go ()))
def sH (K:Nat) (a0:List Int) (a1:Int):Option Int:=
 (pW K a0 a1 K 0).bind fun o=>match o with| .ret r=>some r| .go _=>tF K
theorem xG {K:Nat} {a0:List Int} {a1:Int} {r:Int} (hF:sH K a0 a1=some r):Ct Tryz.prog 154 [.vc (pS cI a0),.vc (pI .i64 a1)] (.vc (pI .i64 r)):=by
 unfold sH at hF
 refine aA Tryz.func154 rfl (by kernel_rfl) Tryz.ntmps154 rfl (fun w0 M0=>?_)
 refine go ?_ ?_
 refine aI (aY (fun H E=>tF K=some r∧H=[]∧E=[]) ?_ (fun Jj4=>?_))
 ·rintro _ _ ⟨hF,rfl,rfl⟩
  unfold tF at hF
  exact bP
 obtain⟨ol3,hL,hRl3⟩:=aO hF
 refine dW (fun k a w=>∃(x2:Int),pW K a0 a1 k x2=some ol3∧hs _ [] [(0,.vc (pS cI a0)),(1,.vc (pI .i64 a1)),(7,.vc (pI .i64 (a0.length:Int))),(8,.vc (pI .i64 x2))] a w) K (fun a w ⟨_,hF,_⟩=>by cases hF) (fun k a w ⟨x2,hF,hh⟩=>dV ?_ hh) (fun a w hh=>⟨0,hL,gO [] hh⟩)
 rw [pW.eq_2] at hF
 refine go ?_ ?_
 refine aC hF rfl (fun h5 hF=>?_) (fun h5 hF=>?_)
 ·refine go ?_ ?_
  refine aI ?_
  obtain⟨v6,h7,hF⟩:=aO hF
  refine go ?_ ?_
  refine aC hF rfl (fun h8 hF=>?_) (fun h8 hF=>?_)
  ·exact bP
  obtain⟨v9,h10,hF⟩:=aO hF
  refine go ?_ ?_
  exact aF (fun a w hh=>⟨v9,hF,gO [] hh⟩)
 refine bI ?_
 obtain rfl:=iR hF
 exact p6 Jj4 ⟨hRl3,rfl,rfl⟩ []
def tH (K:Nat) (a0:aS) (v6:Int) (x72:List Int) (x78:List Nat) (x84:List (List Rat)):Option (Int×Int×Int×(List Nat)×(List Rat)×(List Int)×(List (List Rat))):=
 some (a0.vars,(a0.lines.length:Int),v6,x78,([]:List Rat),x72,x84)
def oY (K:Nat) (x53:List Int) (x59:List Nat) (x65:List (List Rat)) (x71:Int) (recl90:(List Int)→(List Nat)→(List (List Rat))→Int→Option ((List Int)×(List Nat)×(List (List Rat)))) (x160:List Rat) (x166:Int):Option ((List Int)×(List Nat)×(List (List Rat))):=
 (sD x59 [x65.length]).bind fun x172=>(sD x53 [x166]).bind fun x175=>(aR (x71+1)).bind fun v182=>recl90 x175 x172 (x65++[x160]) v182
def sT (K:Nat) (a0:aS) (v6:Int) (x53:List Int) (x59:List Nat) (x65:List (List Rat)) (x71:Int) (v93:aP) (v104:Int) (recl90:(List Int)→(List Nat)→(List (List Rat))→Int→Option ((List Int)×(List Nat)×(List (List Rat)))) (x121:List Rat):Option ((List Int)×(List Nat)×(List (List Rat))):=
 (aR (2*a0.vars)).bind fun v131=>(aR (v131+x71)).bind fun v133=>(qof 1 1).bind fun v135=>(o6 (decide (v104<0)) x121 v133 v135).bind fun v137=>(o6 (decide (v104<0)) v137 v6 v93.b).bind fun v147=>(aR (2*a0.vars)).bind fun v155=>(aR (v155+x71)).bind fun v157=>bif(decide (v104<0)) then((aR (2*a0.vars)).bind fun v185=>(aR (v185+(a0.lines.length:Int))).bind fun v187=>(aR (v187+x71)).bind fun v189=>(qof 1 1).bind fun v193=>(bO v147 v189).bind fun v195=>(pA v147 v189 v193).bind fun x197=>oY K x53 x59 x65 x71 recl90 x197 v189) else(oY K x53 x59 x65 x71 recl90 v147 v157)
def oP (K:Nat) (a0:aS) (v93:aP) (v104:Int):Nat→(List Rat)→Int→Option (List Rat)
 |0,_,_=>none
 |k+1,x114,x120=>bif(decide (x120<(v93.a.length:Int))) then((bO v93.a x120).bind fun v201=>(o6 (decide (v104<0)) x114 x120 v201).bind fun v204=>(aR (a0.vars+x120)).bind fun v214=>(aCr v201).bind fun v216=>(o6 (decide (v104<0)) v204 v214 v216).bind fun v218=>(aR (x120+1)).bind fun v226=>oP K a0 v93 v104 k v218 v226) else(some x114)
def kS (K:Nat) (a0:aS) (v6:Int):Nat→(List Int)→(List Nat)→(List (List Rat))→Int→Option ((List Int)×(List Nat)×(List (List Rat)))
 |0,_,_,_,_=>none
 |k+1,x53,x59,x65,x71=>bif(decide (x71<(a0.lines.length:Int))) then((bO a0.lines x71).bind fun v93=>(aR (v6+1)).bind fun v96=>(y4 v96 0).bind fun x98=>(xD v93.b).bind fun v104=>(oP K a0 v93 v104 K x98 0).bind fun x121=>sT K a0 v6 x53 x59 x65 x71 v93 v104 (kS K a0 v6 k) x121) else(some (x53,x59,x65))
def vX (K:Nat) (a0:aS):Option (Int×Int×Int×(List Nat)×(List Rat)×(List Int)×(List (List Rat))):=
 (aR (2*a0.vars)).bind fun v2=>(aR (2*(a0.lines.length:Int))).bind fun v4=>(aR (v2+v4)).bind fun v6=>(kS K a0 v6 K ([]:List Int) ([]:List Nat) ([]:List (List Rat)) 0).bind fun(x72,x78,x84)=>tH K a0 v6 x72 x78 x84
theorem aBV {K:Nat} {a0:aS} {r:Int×Int×Int×(List Nat)×(List Rat)×(List Int)×(List (List Rat))} (hF:vX K a0=some r):CtO Tryz.prog 111 [] [.va (aS.enc a0)] (fun Ho q=>∃b1228 b1233 c1234 n1235 b1238 c1239 n1240 b1243 c1244 n1245 g1248 N1249,r.2.2.2.1.length=n1235∧r.2.2.2.2.1.length=n1240∧r.2.2.2.2.2.1.length=n1245∧r.2.2.2.2.2.2.length=N1249∧d7 g1248 r.2.2.2.2.2.2∧(∀k∈r.2.2.2.1,k<N1249)∧Ho=([⟨some b1228,1,123,6,1,([pI .i64 r.1]++[pI .i64 r.2.1]++[pI .i64 r.2.2.1]++[pO b1233 n1235 c1234]++[pO b1238 n1240 c1239]++[pO b1243 n1245 c1244])⟩,hO (cH g1248) b1233 c1234 24 n1235 r.2.2.2.1,hO cQ b1238 c1239 42 n1240 r.2.2.2.2.1,hO cI b1243 c1244 3 n1245 r.2.2.2.2.2.1]++gD cQ 42 g1248 r.2.2.2.2.2.2)∧q=.vc (pP (some b1228) 0)):=by
 unfold vX at hF
 refine aA Tryz.func111 rfl (by kernel_rfl) Tryz.ntmps111 rfl (fun w0 M0=>?_)
 refine aD (aK (cK rfl rfl trivial (fun b1=>?_)))
 refine aH (aM (p:=.any) (.inr rfl)) ⟨fun _=>trivial,trivial⟩ ?_
 refine aU (aJ (aD (aK (aH (jW (off:=0) (k:=1) rfl tyF90_1) zU1 ?_))))
 refine aH (iD 0 1 rfl rfl rfl rfl (.one tyO88)) zU1 ?_
 refine aH (aGA rfl tyS88) zU1 ?_
 refine y6 ?_
 refine aU (aJ (aD (aK (aH (jW (off:=0) (k:=0) rfl tyF90_0) zU1 ?_))))
 refine aH (iD 0 1 rfl rfl rfl rfl (.one tyO3)) zU1 ?_
 refine fL ?_
 refine aH (jW (off:=0) (k:=0) rfl tyF90_0) zU1 ?_
 refine aH (iD 0 1 rfl rfl rfl rfl (.one tyO3)) zU1 ?_
 obtain⟨v2,h3,hF⟩:=aO hF
 refine aH (aCK rfl h3) ⟨oJ _ _,rfl,trivial⟩ ?_
 refine fL ?_
 obtain⟨v4,h5,hF⟩:=aO hF
 refine aH (aCK rfl h5) ⟨oJ _ _,rfl,trivial⟩ ?_
 obtain⟨v6,h7,hF⟩:=aO hF
 refine aH (yU rfl h7) zU2 ?_
 refine aGB cQ 42 ?_
 refine aCc (cH ([]:List sE)) 24 ?_
 refine aCc cQ 42 ?_
 refine aCc cI 3 ?_
 refine aH (fG (is:=[0,1,2]) (xs:=[.tmp 17,.tmp 18,.tmp 24]) (ps:=[.vc (pI .i64 a0.vars),.vc (pI .i64 (a0.lines.length:Int)),.vc (pI .i64 v6)]) rfl tyB123_o3_o4_o5q rfl rfl ⟨trivial,trivial,trivial,trivial⟩ rfl) ⟨rfl,rfl,rfl,trivial⟩ ?_
 refine cK rfl rfl trivial (fun b33=>?_)
 refine go ?_ ?_
 refine aI (aY (fun H E=>∃(x72:List Int),∃(x78:List Nat),∃(x84:List (List Rat)),∃(b73:Option Nat),∃(c74:Nat),∃(n75:Nat),∃(b79:Option Nat),∃(c80:Nat),∃(n81:Nat),∃(g85:List sE),∃(N86:Nat),tH K a0 v6 x72 x78 x84=some r∧x72.length=n75∧x78.length=n81∧x84.length=N86∧d7 g85 x84∧(∀k∈x78,k<N86)∧H=([⟨some b33,1,123,6,1,([pI .i64 a0.vars]++[pI .i64 (a0.lines.length:Int)]++[pI .i64 v6]++[pO b79 n81 c80]++[pO none 0 0]++[pO b73 n75 c74])⟩,hO cI b73 c74 3 n75 x72,hO cQ none 0 42 0 ([]:List Rat),hO (cH g85) b79 c80 24 n81 x78]++gD cQ 42 g85 x84)∧E=[(4,.vc (pP (some b33) 0))]) ?_ (fun Jj91=>?_))
 ·rintro _ _ ⟨x72,x78,x84,b73,c74,n75,b79,c80,n81,g85,N86,hF,q76,q82,q87,q88,q89,rfl,rfl⟩
  unfold tH at hF
  refine go ?_ ?_
  refine fX (fY ?_)
  obtain rfl:=iR hF
  exact kC (.inl rfl) Tryz.results111 (.tmp rfl .nil) rfl 4 [0,3,2,1] rfl rfl (by decide) ⟨b33,b79,c80,n81,none,0,0,b73,c74,n75,g85,N86,q82,rfl,q76,q87,q88,q89,rfl,rfl⟩
 obtain⟨⟨x72',x78',x84'⟩,hL,hRl90⟩:=aO hF
 refine dW (fun k a w=>∃(x53:List Int),∃(x59:List Nat),∃(x65:List (List Rat)),∃(x71:Int),∃(b54:Option Nat),∃(c55:Nat),∃(n56:Nat),∃(b60:Option Nat),∃(c61:Nat),∃(n62:Nat),∃(g66:List sE),∃(N67:Nat),kS K a0 v6 k x53 x59 x65 x71=some (x72',x78',x84')∧x53.length=n56∧x59.length=n62∧x65.length=N67∧d7 g66 x65∧(∀k∈x59,k<N67)∧hs _ ([⟨some b33,1,123,6,1,([pI .i64 a0.vars]++[pI .i64 (a0.lines.length:Int)]++[pI .i64 v6]++[pO b60 n62 c61]++[pO none 0 0]++[pO b54 n56 c55])⟩,hO cI b54 c55 3 n56 x53,hO cQ none 0 42 0 ([]:List Rat),hO (cH g66) b60 c61 24 n62 x59,⟨some b1,1,90,3,1,(aS.enc a0)⟩]++gD cQ 42 g66 x65) [(1,.vc (pP (some b1) 0)),(3,.vc (pI .i64 (a0.lines.length:Int))),(4,.vc (pP (some b33) 0)),(28,.vc (pS aP.cod a0.lines)),(29,.vc (pI .i64 (a0.lines.length:Int))),(30,.vc (pI .i64 x71))] a w) K (fun a w ⟨_,_,_,_,_,_,_,_,_,_,_,_,hF,_,_,_,_,_,_⟩=>by cases hF) (fun k a w ⟨x53,x59,x65,x71,b54,c55,n56,b60,c61,n62,g66,N67,hF,q57,q63,q68,q69,q70,hh⟩=>dV ?_ hh) (fun a w hh=>⟨([]:List Int),([]:List Nat),([]:List (List Rat)),0,none,0,0,none,0,0,([]:List sE),0,hL,rfl,rfl,(rfl),aDn,(by simp),aV 5 [0,1,2,3,4] rfl rfl (by decide) (by exact⟨rfl,rfl,rfl,rfl,rfl,rfl,trivial⟩) hh⟩)
 rw [kS.eq_2] at hF
 refine go ?_ ?_
 refine aC hF rfl (fun h92 hF=>?_) (fun h92 hF=>?_)
 ·refine go ?_ ?_
  refine aI ?_
  obtain⟨v93,h94,hF⟩:=aO hF
  refine go ?_ ?_
  refine aL rfl tyZ92q (fun b95=>?_)
  obtain⟨v96,h97,x98,h99,hF⟩:=tY hF
  refine go ?_ ?_
  refine qG (C:=cQ) rfl tyS24 rfl tyZ42q rfl h99 (fun b100=>?_)
  refine aL rfl tyZ24q (fun b103=>?_)
  obtain⟨v104,h105,hF⟩:=aX hF iJ
  refine go ?_ ?_
  refine aL rfl tyZ4q (fun b106=>?_)
  refine lI (t_s 0 rfl rfl rfl tyO4.s) zU2 ?_
  refine aU (aJ (aD (aK (aJa 0 [(8,0)] rfl zU1 rfl ?_))))
  refine aH (aNG (xs:=[.tmp 8,.tmp 7]) (cs:=[pM (cB.e (decide (v104<0))),pP (some b103) 0]) rfl rfl) zU2 ?_
  refine go ?_ ?_
  refine aI (aY (fun H E=>∃(x121:List Rat),∃(b122:Option Nat),∃(c123:Nat),∃(n124:Nat),sT K a0 v6 x53 x59 x65 x71 v93 v104 (kS K a0 v6 k) x121=some (x72',x78',x84')∧x121.length=n124∧H=([⟨some b103,1,24,1,1,[pO b122 n124 c123]⟩,hO cQ b122 c123 42 n124 x121,⟨some b95,1,92,5,1,(aP.enc v93)⟩,⟨some b33,1,123,6,1,([pI .i64 a0.vars]++[pI .i64 (a0.lines.length:Int)]++[pI .i64 v6]++[pO b60 n62 c61]++[pO none 0 0]++[pO b54 n56 c55])⟩,hO cI b54 c55 3 n56 x53,hO cQ none 0 42 0 ([]:List Rat),hO (cH g66) b60 c61 24 n62 x59,⟨some b1,1,90,3,1,(aS.enc a0)⟩]++gD cQ 42 g66 x65)∧E=[(1,.vc (pP (some b1) 0)),(3,.vc (pI .i64 (a0.lines.length:Int))),(4,.vc (pP (some b33) 0)),(5,.vc (pI .i64 x71)),(6,.vc (pP (some b95) 0)),(7,.vc (pP (some b103) 0)),(8,.vc (pM (cB.e (decide (v104<0))))),(9,.vc (pF 147 [pM (cB.e (decide (v104<0))),pP (some b103) 0])),(28,.vc (pS aP.cod a0.lines)),(29,.vc (pI .i64 (a0.lines.length:Int))),(30,.vc (pI .i64 x71))]) ?_ (fun Jj128=>?_))
  ·rintro _ _ ⟨x121,b122,c123,n124,hF,q125,rfl,rfl⟩
   unfold sT at hF
   refine aJ (aD ?_)
   have hF:=qB h3 hF
   obtain⟨v133,h134,hF⟩:=aO hF
   obtain⟨v135,h136,hF⟩:=aX hF tE
   refine dr [0,0,2,6,0,30,0,127] 7 1 ?_ (fun bs130 G129=>?_)
   obtain⟨v137,h138,hF⟩:=aO hF
   refine aCD (f:=147) (cs:=[pM (cB.e (decide (v104<0))),pP (some b103) 0]) (pre:=[.vc (pI .i64 v133),.va (eQ v135)]) (xs:=[.tmp 72,.tmp 73]) 8 [0,1] [2,3,4,5,6,7] rfl (s6 h138 q125) ⟨rfl,rfl,rfl,trivial⟩ rfl rfl rfl (by decide) ?_
   rintro _ _ ⟨b141,c142,n140,q143,rfl,rfl⟩
   refine go ?_ ?_
   refine dr [0,0,2,6,14,0,32,127] 7 1 ?_ (fun bs146 G145=>?_)
   obtain⟨v147,h148,hF⟩:=aO hF
   refine aCD (f:=147) (cs:=[pM (cB.e (decide (v104<0))),pP (some b103) 0]) (pre:=[.vc (pI .i64 v6),.va (eQ v93.b)]) (xs:=[.tmp 79,.tmp 81]) 8 [0,1] [2,3,4,5,6,7] rfl (s6 h148 q143) ⟨rfl,rfl,rfl,trivial⟩ rfl rfl rfl (by decide) ?_
   rintro _ _ ⟨b151,c152,n150,q153,rfl,rfl⟩
   refine aU (aJ (aD (aK (aH (jW (off:=0) (k:=0) rfl tyF90_0) zU1 ?_))))
   refine aH (iD 7 1 rfl rfl rfl rfl (.one tyO3)) zU1 ?_
   have hF:=qB h3 hF
   refine aH (aCK rfl h3) ⟨oJ _ _,rfl,trivial⟩ ?_
   refine fL ?_
   have hF:=qB h134 hF
   refine aH (yU rfl h134) zU2 ?_
   refine y6 ?_
   refine aU (aJ (aD (yR (fun H E=>∃(x160:List Rat),∃(x166:Int),oY K x53 x59 x65 x71 (kS K a0 v6 k) x160 x166=some (x72',x78',x84')∧x160.length=n150∧H=([⟨some b103,1,24,1,1,[pO b151 n150 c152]⟩,hO cQ b151 c152 42 n150 x160,⟨some b33,1,123,6,1,([pI .i64 a0.vars]++[pI .i64 (a0.lines.length:Int)]++[pI .i64 v6]++[pO b60 n62 c61]++[pO none 0 0]++[pO b54 n56 c55])⟩,hO cI b54 c55 3 n56 x53,hO cQ none 0 42 0 ([]:List Rat),hO (cH g66) b60 c61 24 n62 x59,⟨some b1,1,90,3,1,(aS.enc a0)⟩]++gD cQ 42 g66 x65)∧E=[(1,.vc (pP (some b1) 0)),(3,.vc (pI .i64 (a0.lines.length:Int))),(4,.vc (pP (some b33) 0)),(7,.vc (pP (some b103) 0)),(12,.vc (pI .i64 x166)),(28,.vc (pS aP.cod a0.lines)),(29,.vc (pI .i64 (a0.lines.length:Int))),(30,.vc (pI .i64 x71))]) ?_ (fun Jj167=>?_))))
   ·rintro _ _ ⟨x160,x166,hF,q164,rfl,rfl⟩
    unfold oY at hF
    obtain⟨x172,h173,hF⟩:=aO hF
    obtain⟨x175,h176,hF⟩:=aO hF
    refine tQ (HsM [(0,fun G168=>([⟨some b103,1,24,1,1,[pO b151 n150 c152]⟩,hO cQ b151 c152 42 n150 x160,⟨some b33,1,123,6,1,([pI .i64 a0.vars]++[pI .i64 (a0.lines.length:Int)]++[pI .i64 v6]++[pO b60 n62 c61]++[pO none 0 0]++[pO b54 n56 c55])⟩,hO cI b54 c55 3 n56 x53,hO cQ none 0 42 0 ([]:List Rat),hO (cH g66) b60 c61 24 n62 x59,⟨some b1,1,90,3,1,(aS.enc a0)⟩]++gD cQ 42 g66 x65)),(1,fun G168=>([⟨some b103,1,24,1,1,[pO ((G168 7).1) n150 ((G168 7).2)]⟩,hO cQ ((G168 7).1) ((G168 7).2) 42 n150 x160,⟨some b33,1,123,6,1,([pI .i64 a0.vars]++[pI .i64 (a0.lines.length:Int)]++[pI .i64 v6]++[pO b60 n62 c61]++[pO none 0 0]++[pO b54 n56 c55])⟩,hO cI b54 c55 3 n56 x53,hO cQ none 0 42 0 ([]:List Rat),hO (cH (g66++[((G168 7).1,n150,(G168 7).2)])) b60 c61 24 n62 x59,⟨some b1,1,90,3,1,(aS.enc a0)⟩]++gD cQ 42 g66 x65)),(3,fun G168=>([⟨some b103,1,24,1,1,[pO ((G168 7).1) n150 ((G168 7).2)]⟩,⟨some b33,1,123,6,1,([pI .i64 a0.vars]++[pI .i64 (a0.lines.length:Int)]++[pI .i64 v6]++[pO b60 n62 c61]++[pO none 0 0]++[pO b54 n56 c55])⟩,hO cI b54 c55 3 n56 x53,hO cQ none 0 42 0 ([]:List Rat),hO (cH (g66++[((G168 7).1,n150,(G168 7).2)])) ((G168 8).1) ((G168 8).2) 24 (n62+[x65.length].length) x172,⟨some b1,1,90,3,1,(aS.enc a0)⟩]++gD cQ 42 (g66++[((G168 7).1,n150,(G168 7).2)]) (x65++[x160]))),(7,fun G168=>([⟨some b103,1,24,1,1,[pO ((G168 7).1) n150 ((G168 7).2)]⟩,⟨some b33,1,123,6,1,([pI .i64 a0.vars]++[pI .i64 (a0.lines.length:Int)]++[pI .i64 v6]++[pO b60 n62 c61]++[pO none 0 0]++[pO b54 n56 c55])⟩,hO cI ((G168 15).1) ((G168 15).2) 3 (n56+[x166].length) x175,hO cQ none 0 42 0 ([]:List Rat),hO (cH (g66++[((G168 7).1,n150,(G168 7).2)])) ((G168 8).1) ((G168 8).2) 24 (n62+[x65.length].length) x172,⟨some b1,1,90,3,1,(aS.enc a0)⟩]++gD cQ 42 (g66++[((G168 7).1,n150,(G168 7).2)]) (x65++[x160]))),(15,fun G168=>([⟨some b103,1,24,1,1,[pO ((G168 7).1) n150 ((G168 7).2)]⟩,⟨some b33,1,123,6,1,([pI .i64 a0.vars]++[pI .i64 (a0.lines.length:Int)]++[pI .i64 v6]++[pO ((G168 8).1) (n62+[x65.length].length) ((G168 8).2)]++[pO none 0 0]++[pO b54 n56 c55])⟩,hO cI ((G168 15).1) ((G168 15).2) 3 (n56+[x166].length) x175,hO cQ none 0 42 0 ([]:List Rat),hO (cH (g66++[((G168 7).1,n150,(G168 7).2)])) ((G168 8).1) ((G168 8).2) 24 (n62+[x65.length].length) x172,⟨some b1,1,90,3,1,(aS.enc a0)⟩]++gD cQ 42 (g66++[((G168 7).1,n150,(G168 7).2)]) (x65++[x160])))]) [7,8,15,18] [0,0,0,4,12,28,0,64,252,0,512,1536,3584,0,8192,32764,65533,131069,262141,524287,1048575,2097151] 21 1 [.v (.vc (pP (some b33) 0)),.v (.vc (pP (some b33) 0)),.v (.vc (pP (some b33) 0)),.v (.vc (pP (some b33) 0)),.v (.vc (pP (some b33) 3)),.v (.vc (pO b60 n62 c61)),.v (.vc (pO b151 n150 c152)),.g (fun b c=>.vc (pS (cH (g66++[(b,n150,c)])) [x65.length])),.g (fun b c=>.vc (pO b (n62+[x65.length].length) c)),.v (.vc (pP (some b33) 0)),.v (.vc (pP (some b33) 0)),.v (.vc (pP (some b33) 5)),.v (.vc (pO b54 n56 c55)),.v (.vc (pI .i64 x166)),.v (.vc (pS cI [x166])),.g (fun b c=>.vc (pO b (n56+[x166].length) c)),.v (.vc (pP (some b33) 0)),.v (.vc (pP (some b33) 3)),.g (fun _ _=>.any),.v (.vc (pP (some b33) 0)),.v (.vc (pP (some b33) 5))] aW ⟨⟨rfl,.run (L:=[0,1,3,7]) ⟨fun G168 A=>aM (.inl rfl),fun G168 A=>aM (.inl rfl),fun G168 A=>aM (.inl rfl),fun G168 A=>aM (.inl rfl),trivial⟩ (fun G168=>zU1)⟩,⟨rfl,.run (L:=[0,1,3,7,15]) ⟨fun G168 A=>aM (.inl rfl),fun G168 A=>aM (.inl rfl),fun G168 A=>aM (.inl rfl),fun G168 A=>aM (.inl rfl),fun G168 A=>aM (.inl rfl),trivial⟩ (fun G168=>zU1)⟩,⟨rfl,.run (L:=[0,1]) ⟨fun G168 A=>aM (.inl rfl),fun G168 A=>aM (.inl rfl),trivial⟩ (fun G168=>zU1)⟩,⟨rfl,.run (L:=[0,1]) ⟨fun G168 A=>qZ rfl,fun G168 A=>qZ rfl,trivial⟩ (fun G168=>zU1)⟩,⟨rfl,.run (L:=[0,1]) ⟨fun G168 A=>jW (off:=0) (k:=3) rfl tyF123_3,fun G168 A=>jW (off:=0) (k:=3) rfl tyF123_3,trivial⟩ (fun G168=>zU1)⟩,⟨rfl,.run (L:=[0,1]) ⟨fun G168 A=>iD 2 1 rfl rfl rfl rfl (.one tyO23),fun G168 A=>iD 2 1 rfl rfl rfl rfl (.one tyO23),trivial⟩ (fun G168=>zU1)⟩,d1 0 (iD 0 1 rfl rfl rfl rfl (.one tyO24)) zU1,⟨rfl,.hvy [0] ⟨fun G168 A=>aJJ b151 c152 (aLE (rs:=x65) rfl tyS23 q69.1 (show([⟨some b103,1,24,1,1,[pO b151 n150 c152]⟩,hO cQ b151 c152 42 n150 x160,⟨some b33,1,123,6,1,([pI .i64 a0.vars]++[pI .i64 (a0.lines.length:Int)]++[pI .i64 v6]++[pO b60 n62 c61]++[pO none 0 0]++[pO b54 n56 c55])⟩,hO cI b54 c55 3 n56 x53,hO cQ none 0 42 0 ([]:List Rat),hO (cH (g66++[(b151,n150,c152)])) b60 c61 24 n62 x59,⟨some b1,1,90,3,1,(aS.enc a0)⟩]++gD cQ 42 g66 x65)++A=([⟨some b103,1,24,1,1,[pO b151 n150 c152]⟩,hO cQ b151 c152 42 n150 x160,⟨some b33,1,123,6,1,([pI .i64 a0.vars]++[pI .i64 (a0.lines.length:Int)]++[pI .i64 v6]++[pO b60 n62 c61]++[pO none 0 0]++[pO b54 n56 c55])⟩,hO cI b54 c55 3 n56 x53,hO cQ none 0 42 0 ([]:List Rat),hO (cH g66) b60 c61 24 n62 x59,⟨some b1,1,90,3,1,(aS.enc a0)⟩]++gD cQ 42 g66 x65)++A from by rw [aGn (N:=x65.length) (b151,n150,c152) q69.1 (yY q68 q70)])),trivial⟩ (fun G168=>zU1)⟩,⟨rfl,.hvy (ins:=fun G168=>[(.tmp 105,.vc (pO b60 n62 c61)),(.tmp 107,.vc (pS (cH (g66++[((G168 7).1,n150,(G168 7).2)])) [x65.length]))]) [1] ⟨fun G168 A=>aRk (X:=[⟨some b103,1,24,1,1,[pO ((G168 7).1) n150 ((G168 7).2)]⟩,hO cQ ((G168 7).1) ((G168 7).2) 42 n150 x160,⟨some b33,1,123,6,1,([pI .i64 a0.vars]++[pI .i64 (a0.lines.length:Int)]++[pI .i64 v6]++[pO b60 n62 c61]++[pO none 0 0]++[pO b54 n56 c55])⟩,hO cI b54 c55 3 n56 x53,hO cQ none 0 42 0 ([]:List Rat),hO (cH (g66++[((G168 7).1,n150,(G168 7).2)])) b60 c61 24 n62 x59,⟨some b1,1,90,3,1,(aS.enc a0)⟩]) (X':=[⟨some b103,1,24,1,1,[pO ((G168 7).1) n150 ((G168 7).2)]⟩,⟨some b33,1,123,6,1,([pI .i64 a0.vars]++[pI .i64 (a0.lines.length:Int)]++[pI .i64 v6]++[pO b60 n62 c61]++[pO none 0 0]++[pO b54 n56 c55])⟩,hO cI b54 c55 3 n56 x53,hO cQ none 0 42 0 ([]:List Rat),hO (cH (g66++[((G168 7).1,n150,(G168 7).2)])) b60 c61 24 n62 x59,⟨some b1,1,90,3,1,(aS.enc a0)⟩]) (gs:=g66) (rs:=x65) (r:=x160) (A:=A) (g:=((G168 7).1,n150,(G168 7).2)) 1 rfl rfl q69 (aEP (C:=(cH (g66++[((G168 7).1,n150,(G168 7).2)]))) (T:=24) 4 rfl tyS23 rfl rfl q63 h173),trivial⟩ (fun G168=>zU2)⟩,⟨rfl,.run (L:=[0,1,3]) ⟨fun G168 A=>aM (.inl rfl),fun G168 A=>aM (.inl rfl),fun G168 A=>aM (.inl rfl),trivial⟩ (fun G168=>zU1)⟩,⟨rfl,.run (L:=[0,1,3]) ⟨fun G168 A=>qZ rfl,fun G168 A=>qZ rfl,fun G168 A=>qZ rfl,trivial⟩ (fun G168=>zU1)⟩,⟨rfl,.run (L:=[0,1,3]) ⟨fun G168 A=>jW (off:=0) (k:=5) rfl tyF123_5,fun G168 A=>jW (off:=0) (k:=5) rfl tyF123_5,fun G168 A=>jW (off:=0) (k:=5) rfl tyF123_5,trivial⟩ (fun G168=>zU1)⟩,⟨rfl,.run (L:=[0,1,3]) ⟨fun G168 A=>iD 2 1 rfl rfl rfl rfl (.one tyO22),fun G168 A=>iD 2 1 rfl rfl rfl rfl (.one tyO22),fun G168 A=>iD 1 1 rfl rfl rfl rfl (.one tyO22),trivial⟩ (fun G168=>zU1)⟩,⟨rfl,.run (L:=[0,1,3]) ⟨fun G168 A=>aM (.inl rfl),fun G168 A=>aM (.inl rfl),fun G168 A=>aM (.inl rfl),trivial⟩ (fun G168=>zU1)⟩,⟨rfl,.run (L:=[0,1,3]) ⟨fun G168 A=>gP (C:=cI) (xs:=[.tmp 113]) (ps:=[.vc (pI .i64 x166)]) (zs:=[x166]) rfl tyS22 rfl ⟨⟨trivial,rfl⟩,trivial⟩ rfl,fun G168 A=>gP (C:=cI) (xs:=[.tmp 113]) (ps:=[.vc (pI .i64 x166)]) (zs:=[x166]) rfl tyS22 rfl ⟨⟨trivial,rfl⟩,trivial⟩ rfl,fun G168 A=>gP (C:=cI) (xs:=[.tmp 113]) (ps:=[.vc (pI .i64 x166)]) (zs:=[x166]) rfl tyS22 rfl ⟨⟨trivial,rfl⟩,trivial⟩ rfl,trivial⟩ (fun G168=>zU1)⟩,⟨rfl,.hvy (ins:=fun G168=>[(.tmp 112,.vc (pO b54 n56 c55)),(.tmp 114,.vc (pS cI [x166]))]) [3] ⟨fun G168 A=>aEP 2 rfl tyS22 rfl rfl q57 h176,trivial⟩ (fun G168=>zU2)⟩,d1 7 (qZ rfl) zU1,d1 7 (jW (off:=0) (k:=3) rfl tyF123_3) zU1,⟨rfl,.hvy (ins:=fun G168=>[(.tmp 117,.vc (pP (some b33) 3)),(.tmp 108,.vc (pO ((G168 8).1) (n62+[x65.length].length) ((G168 8).2)))]) [7] ⟨fun G168 A=>aJJ none 0 (t_s 1 rfl rfl rfl tyO23.s),trivial⟩ (fun G168=>zU2)⟩,d1 15 (qZ rfl) zU1,d1 15 (jW (off:=0) (k:=5) rfl tyF123_5) zU1,trivial⟩ (fun bs169 G168=>?_)
    obtain⟨v182,h183,hF⟩:=aO hF
    refine go ?_ ?_
    exact aF (fun a w hh=>⟨x175,x172,(x65++[x160]),v182,((G168 15).1),((G168 15).2),(n56+[x166].length),((G168 8).1),((G168 8).2),(n62+[x65.length].length),(g66++[((G168 7).1,n150,(G168 7).2)]),(N67+1),hF,(bL h176 q57),(bL h173 q63),(aCX q68),(aAB q69 q164),(aIF q70 q68 h173),aV 6 [1,2,3,4,5] rfl rfl (by decide) (by exact⟨rfl,rfl,rfl,rfl,rfl,rfl,trivial⟩) hh⟩)
   refine go ?_ ?_
   refine aC hF rfl (fun h184 hF=>?_) (fun h184 hF=>?_)
   ·have hF:=qB h3 hF
    obtain⟨v187,h188,v189,h190,hF⟩:=tY hF
    obtain⟨v193,h194,hF⟩:=aX hF tE
    obtain⟨v195,h196,hF⟩:=aO hF
    refine go ?_ ?_
    refine dr [0,0,0,7,15] 4 1 ?_ (fun bs192 G191=>?_)
    obtain⟨x197,h198,hF⟩:=aO hF
    refine lI (wB 1 rfl rfl h196 h198 tyA42.s) zU2 ?_
    refine aU ?_
    exact iE Jj167 ⟨x197,v189,hF,(bE h198 q153),rfl,rfl⟩ 8 [0,1,3,4,5,6,7] rfl rfl ⟨rfl,rfl,rfl,rfl,rfl,rfl,rfl,rfl,trivial⟩
   refine iC ?_
   exact iE Jj167 ⟨v147,v133,hF,q153,rfl,rfl⟩ 8 [0,1,3,4,5,6,7] rfl rfl ⟨rfl,rfl,rfl,rfl,rfl,rfl,rfl,rfl,trivial⟩
  obtain⟨x121',hL,hRl127⟩:=aO hF
  refine dW (fun k a w=>∃(x114:List Rat),∃(x120:Int),∃(b115:Option Nat),∃(c116:Nat),∃(n117:Nat),oP K a0 v93 v104 k x114 x120=some x121'∧x114.length=n117∧hs _ ([⟨some b103,1,24,1,1,[pO b115 n117 c116]⟩,hO cQ b115 c116 42 n117 x114,⟨some b95,1,92,5,1,(aP.enc v93)⟩,⟨some b33,1,123,6,1,([pI .i64 a0.vars]++[pI .i64 (a0.lines.length:Int)]++[pI .i64 v6]++[pO b60 n62 c61]++[pO none 0 0]++[pO b54 n56 c55])⟩,hO cI b54 c55 3 n56 x53,hO cQ none 0 42 0 ([]:List Rat),hO (cH g66) b60 c61 24 n62 x59,⟨some b1,1,90,3,1,(aS.enc a0)⟩]++gD cQ 42 g66 x65) [(1,.vc (pP (some b1) 0)),(3,.vc (pI .i64 (a0.lines.length:Int))),(4,.vc (pP (some b33) 0)),(5,.vc (pI .i64 x71)),(6,.vc (pP (some b95) 0)),(7,.vc (pP (some b103) 0)),(8,.vc (pM (cB.e (decide (v104<0))))),(9,.vc (pF 147 [pM (cB.e (decide (v104<0))),pP (some b103) 0])),(28,.vc (pS aP.cod a0.lines)),(29,.vc (pI .i64 (a0.lines.length:Int))),(30,.vc (pI .i64 x71)),(47,.vc (pS cQ v93.a)),(48,.vc (pI .i64 (v93.a.length:Int))),(49,.vc (pI .i64 x120))] a w) K (fun a w ⟨_,_,_,_,_,hF,_,_⟩=>by cases hF) (fun k a w ⟨x114,x120,b115,c116,n117,hF,q118,hh⟩=>dV ?_ hh) (fun a w hh=>⟨x98,0,b100,x98.length,x98.length,hL,rfl,aV 8 [0,1,2,3,4,5,6,7] rfl rfl (by decide) (by exact⟨rfl,rfl,rfl,rfl,rfl,rfl,rfl,rfl,rfl,rfl,rfl,rfl,rfl,rfl,trivial⟩) hh⟩)
  rw [oP.eq_2] at hF
  refine go ?_ ?_
  refine aC hF rfl (fun h200 hF=>?_) (fun h200 hF=>?_)
  ·refine go ?_ ?_
   refine aI ?_
   obtain⟨v201,h202,hF⟩:=aO hF
   refine go ?_ ?_
   refine aL rfl tyZ42q (fun b203=>?_)
   obtain⟨v204,h205,hF⟩:=aO hF
   refine go ?_ ?_
   refine aCD (f:=147) (cs:=[pM (cB.e (decide (v104<0))),pP (some b103) 0]) (pre:=[.vc (pI .i64 x120),.va (eQ v201)]) (xs:=[.tmp 55,.tmp 56]) 9 [1,2] [0,3,4,5,6,7,8] rfl (s6 h205 q118) ⟨rfl,rfl,rfl,trivial⟩ rfl rfl rfl (by decide) ?_
   rintro _ _ ⟨b208,c209,n207,q210,rfl,rfl⟩
   refine aU (aJ ?_)
   obtain⟨v214,h215,hF⟩:=aO hF
   obtain⟨v216,h217,hF⟩:=aX hF wJ
   refine dr [0,0,2,0,14,0,32,127] 7 1 ?_ (fun bs213 G212=>?_)
   obtain⟨v218,h219,hF⟩:=aO hF
   refine aCD (f:=147) (cs:=[pM (cB.e (decide (v104<0))),pP (some b103) 0]) (pre:=[.vc (pI .i64 v214),.va (eQ v216)]) (xs:=[.tmp 62,.tmp 64]) 9 [0,1] [2,3,4,5,6,7,8] rfl (s6 h219 q210) ⟨rfl,rfl,rfl,trivial⟩ rfl rfl rfl (by decide) ?_
   rintro _ _ ⟨b222,c223,n221,q224,rfl,rfl⟩
   obtain⟨v226,h227,hF⟩:=aO hF
   refine go ?_ ?_
   exact aF (fun a w hh=>⟨v218,v226,b222,c223,n221,hF,q224,aV 9 [0,1,3,4,5,6,7,8] rfl rfl (by decide) (by exact⟨rfl,rfl,rfl,rfl,rfl,rfl,rfl,rfl,rfl,rfl,rfl,rfl,rfl,rfl,trivial⟩) hh⟩)
  refine bI ?_
  obtain rfl:=iR hF
  exact iE Jj128 ⟨x114,b115,c116,n117,hRl127,q118,rfl,rfl⟩ 8 [0,1,2,3,4,5,6,7] rfl rfl ⟨rfl,rfl,rfl,rfl,rfl,rfl,rfl,rfl,rfl,rfl,rfl,trivial⟩
 refine bI ?_
 obtain⟨rfl,rfl,rfl⟩:=sm3 hF
 exact iE Jj91 ⟨x53,x59,x65,b54,c55,n56,b60,c61,n62,g66,N67,hRl90,q57,q63,q68,q69,q70,rfl,rfl⟩ 5 [0,1,2,3] rfl rfl zU1
def tJ (K:Nat) (x34:List Rat):Option (List Rat):=
 some x34
def mK (K:Nat) (a0:Nat) (a3:List (List Rat)) (v14:Rat):Nat→(List Rat)→Int→Option (List Rat)
 |0,_,_=>none
 |k+1,x27,x33=>bif(decide (x33<((a3.getD a0 []).length:Int))) then((bO (a3.getD a0 []) x33).bind fun v43=>(xD v43).bind fun v46=>bif(v46 != 0) then((bO x27 x33).bind fun v51=>(aES v14 v43).bind fun v53=>(aFk v51 v53).bind fun v55=>(bO x27 x33).bind fun v57=>(pA x27 x33 v55).bind fun x59=>(aR (x33+1)).bind fun v62=>mK K a0 a3 v14 k x59 v62) else((aR (x33+1)).bind fun v64=>mK K a0 a3 v14 k x27 v64)) else(some x27)
def tR (K:Nat) (a0:Nat) (a1:Int) (a2:List Rat) (a3:List (List Rat)):Option (List Rat):=
 (bO a2 a1).bind fun v14=>(xD v14).bind fun v17=>bif(v17==0) then(some a2) else((mK K a0 a3 v14 K a2 0).bind fun x34=>tJ K x34)
theorem xH {K:Nat} {a0:Nat} {a1:Int} {a2:List Rat} {a3:List (List Rat)} {r:List Rat} (hF:tR K a0 a1 a2 a3=some r) {b4:Option Nat} {c5 n6:Nat} {g9:List sE} {N10:Nat} (q7:a2.length=n6) (q11:a3.length=N10) (q12:d7 g9 a3) (q3:a0<N10):CtO Tryz.prog 148 ([hO cQ b4 c5 42 n6 a2]++gD cQ 42 g9 a3) [.vc (pO b4 n6 c5),.vc (pO (jB g9 a0).1 (jB g9 a0).2.1 (jB g9 a0).2.2),.vc (pI .i64 a1)] (fun Ho q=>r.length=n6∧Ho=([hO cQ b4 c5 42 n6 r]++gD cQ 42 g9 a3)∧q=.any):=by
 unfold tR at hF
 refine aA Tryz.func148 rfl (by kernel_rfl) Tryz.ntmps148 rfl (fun w0 M0=>?_)
 obtain⟨v14,h15,hF⟩:=aO hF
 refine go ?_ ?_
 refine aL rfl tyZ42q (fun b16=>?_)
 obtain⟨v17,h18,hF⟩:=aX hF iJ
 refine go ?_ ?_
 refine aC hF rfl (fun h19 hF=>?_) (fun h19 hF=>?_)
 ·refine fX (fY ?_)
  obtain rfl:=iR hF
  exact kC (.inl rfl) Tryz.results148 .nil rfl 2 [1] rfl rfl (by decide) ⟨q7,rfl,rfl⟩
 refine go ?_ ?_
 refine aH (aAW (C:=cQ) (xs:=(a3.getD a0 [])) (T:=42) rfl tyS24 (fQ q12 q11 q3)) zU1 ?_
 refine go ?_ ?_
 refine aI (aY (fun H E=>∃(x34:List Rat),tJ K x34=some r∧x34.length=n6∧H=([hO cQ b4 c5 42 n6 x34]++gD cQ 42 g9 a3)∧E=[]) ?_ (fun Jj41=>?_))
 ·rintro _ _ ⟨x34,hF,q38,rfl,rfl⟩
  unfold tJ at hF
  obtain rfl:=iR hF
  exact kC (.inr rfl) Tryz.results148 .nil rfl 1 [0] rfl rfl (by decide) ⟨q38,rfl,rfl⟩
 obtain⟨x34',hL,hRl40⟩:=aO hF
 refine dW (fun k a w=>∃(x27:List Rat),∃(x33:Int),mK K a0 a3 v14 k x27 x33=some x34'∧x27.length=n6∧hs _ ([⟨some b16,1,42,4,1,(eQ v14)⟩,hO cQ b4 c5 42 n6 x27]++gD cQ 42 g9 a3) [(0,.vc (pO b4 n6 c5)),(6,.vc (pP (some b16) 0)),(16,.vc (pO (jB g9 a0).1 (jB g9 a0).2.1 (jB g9 a0).2.2)),(17,.vc (pI .i64 ((a3.getD a0 []).length:Int))),(18,.vc (pI .i64 x33))] a w) K (fun a w ⟨_,_,hF,_,_⟩=>by cases hF) (fun k a w ⟨x27,x33,hF,q31,hh⟩=>dV ?_ hh) (fun a w hh=>⟨a2,0,hL,q7,aV 2 [0,1] rfl rfl (by decide) (by exact⟨rfl,rfl,rfl,rfl,rfl,trivial⟩) hh⟩)
 rw [mK.eq_2] at hF
 refine go ?_ ?_
 refine aC hF rfl (fun h42 hF=>?_) (fun h42 hF=>?_)
 ·refine go ?_ ?_
  refine aI ?_
  obtain⟨v43,h44,hF⟩:=aO hF
  refine go ?_ ?_
  refine aH (gN (2+a0) rfl tyS24 (s9 2 rfl q12 q11 q3) (fQ q12 q11 q3) (aG h44).1 (aG h44).2.1) zU2 ?_
  refine aH (lZ (k:=4) (2+a0) rfl (s9 2 rfl q12 q11 q3) h44 rfl (.agg tyA42) rfl) zU1 ?_
  refine aL rfl tyZ42q (fun b45=>?_)
  obtain⟨v46,h47,hF⟩:=aX hF iJ
  refine go ?_ ?_
  refine aC hF rfl (fun h48 hF=>?_) (fun h48 hF=>?_)
  ·obtain⟨v51,h52,hF⟩:=aO hF
   obtain⟨v53,h54,hF⟩:=aX hF yZ
   obtain⟨v55,h56,hF⟩:=aX hF yS
   have hF:=qB h52 hF
   refine dr [0,0,0,0,12,28,0,0,192,508,1023,2047] 11 1 ?_ (fun bs50 G49=>?_)
   obtain⟨x59,h60,v62,h63,hF⟩:=tY hF
   refine go ?_ ?_
   exact aF (fun a w hh=>⟨x59,v62,hF,(bE h60 q31),aV 3 [1,2] rfl rfl (by decide) (by exact⟨rfl,rfl,rfl,rfl,rfl,trivial⟩) hh⟩)
  obtain⟨v64,h65,hF⟩:=aO hF
  refine go ?_ ?_
  exact aF (fun a w hh=>⟨x27,v64,hF,q31,aV 3 [1,2] rfl rfl (by decide) (by exact⟨rfl,rfl,rfl,rfl,rfl,trivial⟩) hh⟩)
 refine bI ?_
 obtain rfl:=iR hF
 exact iE Jj41 ⟨x27,hRl40,q31,rfl,rfl⟩ 2 [1] rfl rfl trivial
def oA (K:Nat) (x69:List Rat):Option (List Rat):=
 some x69
def k9 (K:Nat) (a4:List Nat) (a6:List Int) (a7:List (List Rat)):Nat→(List Rat)→Int→Option (List Rat)
 |0,_,_=>none
 |k+1,x62,x68=>bif(decide (x68<(a6.length:Int))) then((bO a6 x68).bind fun v78=>(bO a4 x68).bind fun v82=>(tR K v82 v78 x62 a7).bind fun v84=>(aR (x68+1)).bind fun v88=>k9 K a4 a6 a7 k v84 v88) else(some x62)
def oH (K:Nat) (a4:List Nat) (a6:List Int) (a7:List (List Rat)) (x47:List Rat):Option (List Rat):=
 (k9 K a4 a6 a7 K x47 0).bind fun x69=>oA K x69
def k6 (K:Nat) (a0:(Int→Option Rat)) (a3:Int):Nat→(List Rat)→Int→Option (List Rat)
 |0,_,_=>none
 |k+1,x40,x46=>bif(decide (x46<a3)) then((a0 x46).bind fun v93=>(bO x40 x46).bind fun v95=>(pA x40 x46 v93).bind fun x97=>(aR (x46+1)).bind fun v100=>k6 K a0 a3 k x97 v100) else(some x40)
def mZ (K:Nat) (a0:(Int→Option Rat)) (a1:Int) (a2:Int) (a3:Int) (a4:List Nat) (a5:List Rat) (a6:List Int) (a7:List (List Rat)):Option (List Rat):=
 (aR (a3+1)).bind fun v26=>(y4 v26 0).bind fun x28=>(k6 K a0 a3 K x28 0).bind fun x47=>oH K a4 a6 a7 x47
theorem tZ {K:Nat} {a0:(Int→Option Rat)} {a1:Int} {a2:Int} {a3:Int} {a4:List Nat} {a5:List Rat} {a6:List Int} {a7:List (List Rat)} {r:List Rat} (hF:mZ K a0 a1 a2 a3 a4 a5 a6 a7=some r) {p0:Nat} {b5:Option Nat} {c6 n7:Nat} {b10:Option Nat} {c11 n12:Nat} {b15:Option Nat} {c16 n17:Nat} {g20:List sE} {N21:Nat} (q8:a4.length=n7) (q13:a5.length=n12) (q18:a6.length=n17) (q22:a7.length=N21) (q23:d7 g20 a7) (q24:∀k∈a4,k<N21):CtO Tryz.prog 112 ([⟨some p0,1,123,6,1,([pI .i64 a1]++[pI .i64 a2]++[pI .i64 a3]++[pO b5 n7 c6]++[pO b10 n12 c11]++[pO b15 n17 c16])⟩,hO (cH g20) b5 c6 24 n7 a4,hO cQ b10 c11 42 n12 a5,hO cI b15 c16 3 n17 a6]++gD cQ 42 g20 a7) [.vc (pP (some p0) 0),.vc (pFn Tryz.prog (fun x:Int=>[.vc (pI .i64 x)]) (fun r:Rat=>.va (eQ r)) a0)] (fun Ho q=>∃b1103 c1104 n1105,r.length=n1105∧Ho=([⟨some p0,1,123,6,1,([pI .i64 a1]++[pI .i64 a2]++[pI .i64 a3]++[pO b5 n7 c6]++[pO b1103 n1105 c1104]++[pO b15 n17 c16])⟩,hO (cH g20) b5 c6 24 n7 a4,hO cQ b10 c11 42 n12 a5,hO cI b15 c16 3 n17 a6,hO cQ b1103 c1104 42 n1105 r]++gD cQ 42 g20 a7)∧q=.any):=by
 unfold mZ at hF
 refine aA Tryz.func112 rfl (by kernel_rfl) Tryz.ntmps112 rfl (fun w0 M0=>?_)
 obtain⟨v26,h27,x28,h29,hF⟩:=tY hF
 refine go ?_ ?_
 refine qG (C:=cQ) rfl tyS24 rfl tyZ42q rfl h29 (fun b30=>?_)
 refine go ?_ ?_
 refine aI (aY (fun H E=>∃(x47:List Rat),oH K a4 a6 a7 x47=some r∧x47.length=x28.length∧H=([hO cQ b30 x28.length 42 x28.length x47,⟨some p0,1,123,6,1,([pI .i64 a1]++[pI .i64 a2]++[pI .i64 a3]++[pO b5 n7 c6]++[pO b30 x28.length x28.length]++[pO b15 n17 c16])⟩,hO (cH g20) b5 c6 24 n7 a4,hO cQ b10 c11 42 n12 a5,hO cI b15 c16 3 n17 a6]++gD cQ 42 g20 a7)∧E=[(0,.vc (pP (some p0) 0))]) ?_ (fun Jj54=>?_))
 ·rintro _ _ ⟨x47,hF,q51,rfl,rfl⟩
  unfold oH at hF
  refine go ?_ ?_
  refine aI (aY (fun H E=>∃(x69:List Rat),oA K x69=some r∧x69.length=x28.length∧H=([hO cQ b30 x28.length 42 x28.length x69,⟨some p0,1,123,6,1,([pI .i64 a1]++[pI .i64 a2]++[pI .i64 a3]++[pO b5 n7 c6]++[pO b30 x28.length x28.length]++[pO b15 n17 c16])⟩,hO (cH g20) b5 c6 24 n7 a4,hO cQ b10 c11 42 n12 a5,hO cI b15 c16 3 n17 a6]++gD cQ 42 g20 a7)∧E=[]) ?_ (fun Jj76=>?_))
  ·rintro _ _ ⟨x69,hF,q73,rfl,rfl⟩
   unfold oA at hF
   obtain rfl:=iR hF
   exact kC (.inr rfl) Tryz.results112 .nil rfl 5 [1,2,3,4,0] rfl rfl (by decide) ⟨b30,x28.length,x28.length,q73,rfl,rfl⟩
  obtain⟨x69',hL,hRl75⟩:=aO hF
  refine dW (fun k a w=>∃(x62:List Rat),∃(x68:Int),k9 K a4 a6 a7 k x62 x68=some x69'∧x62.length=x28.length∧hs _ ([hO cQ b30 x28.length 42 x28.length x62,⟨some p0,1,123,6,1,([pI .i64 a1]++[pI .i64 a2]++[pI .i64 a3]++[pO b5 n7 c6]++[pO b30 x28.length x28.length]++[pO b15 n17 c16])⟩,hO (cH g20) b5 c6 24 n7 a4,hO cQ b10 c11 42 n12 a5,hO cI b15 c16 3 n17 a6]++gD cQ 42 g20 a7) [(0,.vc (pP (some p0) 0)),(36,.vc (pO b15 n17 c16)),(37,.vc (pI .i64 (a6.length:Int))),(38,.vc (pI .i64 x68))] a w) K (fun a w ⟨_,_,hF,_,_⟩=>by cases hF) (fun k a w ⟨x62,x68,hF,q66,hh⟩=>dV ?_ hh) (fun a w hh=>⟨x47,0,hL,q51,aV 5 [0,1,2,3,4] rfl rfl (by decide) (by exact⟨rfl,rfl,rfl,rfl,trivial⟩) hh⟩)
  rw [k9.eq_2] at hF
  refine go ?_ ?_
  refine aC hF rfl (fun h77 hF=>?_) (fun h77 hF=>?_)
  ·refine go ?_ ?_
   refine aI ?_
   obtain⟨v78,h79,v82,h83,hF⟩:=tY hF
   refine go ?_ ?_
   refine dr [0,1,3,7,0,16,48,112,0,496,1008,0,4095] 12 1 ?_ (fun bs81 G80=>?_)
   obtain⟨v84,h85,hF⟩:=aO hF
   refine m6 5 [0] [1,2,3,4] rfl (xH h85 q66 q22 q23 (q24 _ (aT h83))) ⟨rfl,rfl,rfl,trivial⟩ rfl rfl rfl (by decide) ?_
   rintro _ _ ⟨q86,rfl,rfl⟩
   refine lQ (jV [hO cQ b30 x28.length 42 x28.length v84] (gD cQ 42 g20 a7) [⟨some p0,1,123,6,1,([pI .i64 a1]++[pI .i64 a2]++[pI .i64 a3]++[pO b5 n7 c6]++[pO b30 x28.length x28.length]++[pO b15 n17 c16])⟩,hO (cH g20) b5 c6 24 n7 a4,hO cQ b10 c11 42 n12 a5,hO cI b15 c16 3 n17 a6]) ?_
   obtain⟨v88,h89,hF⟩:=aO hF
   refine go ?_ ?_
   exact aF (fun a w hh=>⟨v84,v88,hF,q86,aV 5 [0,1,2,3,4] rfl rfl (by decide) (by exact⟨rfl,rfl,rfl,rfl,trivial⟩) hh⟩)
  refine bI ?_
  obtain rfl:=iR hF
  exact iE Jj76 ⟨x62,hRl75,q66,rfl,rfl⟩ 5 [0,1,2,3,4] rfl rfl trivial
 obtain⟨x47',hL,hRl53⟩:=aO hF
 refine dW (fun k a w=>∃(x40:List Rat),∃(x46:Int),k6 K a0 a3 k x40 x46=some x47'∧x40.length=x28.length∧hs _ ([hO cQ b30 x28.length 42 x28.length x40,⟨some p0,1,123,6,1,([pI .i64 a1]++[pI .i64 a2]++[pI .i64 a3]++[pO b5 n7 c6]++[pO b30 x28.length x28.length]++[pO b15 n17 c16])⟩,hO (cH g20) b5 c6 24 n7 a4,hO cQ b10 c11 42 n12 a5,hO cI b15 c16 3 n17 a6]++gD cQ 42 g20 a7) [(0,.vc (pP (some p0) 0)),(1,.vc (pFn Tryz.prog (fun x:Int=>[.vc (pI .i64 x)]) (fun r:Rat=>.va (eQ r)) a0)),(19,.vc (pI .i64 a3)),(20,.vc (pI .i64 x46))] a w) K (fun a w ⟨_,_,hF,_,_⟩=>by cases hF) (fun k a w ⟨x40,x46,hF,q44,hh⟩=>dV ?_ hh) (fun a w hh=>⟨x28,0,hL,rfl,aV 5 [0,1,2,3,4] rfl rfl (by decide) (by exact⟨rfl,rfl,rfl,rfl,trivial⟩) hh⟩)
 rw [k6.eq_2] at hF
 refine go ?_ ?_
 refine aC hF rfl (fun h90 hF=>?_) (fun h90 hF=>?_)
 ·refine go ?_ ?_
  refine aI ?_
  obtain⟨v93,h94,v95,h96,hF⟩:=tY hF
  refine go ?_ ?_
  refine iG [0,1,3,7,0,0,0,96,255,511] 9 1 [.v (.vc (pP (some p0) 0)),.v (.vc (pP (some p0) 0)),.v (.vc (pP (some p0) 4)),.v (.vc (pO b30 x28.length x28.length)),.v (.vc (pI .i64 x46)),.v (.vc (pFn Tryz.prog (fun x:Int=>[.vc (pI .i64 x)]) (fun r:Rat=>.va (eQ r)) a0)),.v (.vc (pI .i64 x46)),.v (.va (eQ v93)),.v (.vc (pE b30 x46 cQ.n 0))] aW ⟨d0 (aM (.inl rfl)) zU1,d0 (qZ rfl) zU1,d0 (jW (off:=0) (k:=4) rfl tyF123_4) zU1,d0 (iD 1 1 rfl rfl rfl rfl (.one tyO24)) zU1,d0 (aM (.inl rfl)) zU1,d0 (aM (.inl rfl)) zU1,d0 (aM (.inl rfl)) zU1,d0 (aD3 (pre:=fun x:Int=>[.vc (pI .i64 x)]) (post:=fun r:Rat=>.va (eQ r)) (x:=x46) (r:=v93) rfl h94 rfl) zU2,d0 (gN (C:=cQ) 0 rfl tyS24 rfl q44 (aG h96).1 (aG h96).2.1) zU2,trivial⟩ (fun bs92 G91=>?_)
  obtain⟨x97,h98,v100,h101,hF⟩:=tY hF
  refine go ?_ ?_
  exact aF (fun a w hh=>⟨x97,v100,hF,(bE h98 q44),aV 5 [0,1,2,3,4] rfl rfl (by decide) (by exact⟨rfl,rfl,rfl,rfl,trivial⟩) hh⟩)
 refine bI ?_
 obtain rfl:=iR hF
 exact iE Jj54 ⟨x40,hRl53,q44,rfl,rfl⟩ 5 [0,1,2,3,4] rfl rfl zU1
def oU (a0:Int) (a1:Int) (a2:Int) (a3:Int) (a4:List Nat) (a5:List Rat) (a6:List Int) (a7:List (List Rat)):Option Unit:=
 some ()
theorem wW {a0:Int} {a1:Int} {a2:Int} {a3:Int} {a4:List Nat} {a5:List Rat} {a6:List Int} {a7:List (List Rat)} {r:Unit} (hF:oU a0 a1 a2 a3 a4 a5 a6 a7=some r) {p0:Nat} {b5:Option Nat} {c6 n7:Nat} {b10:Option Nat} {c11 n12:Nat} {b15:Option Nat} {c16 n17:Nat} {g20:List sE} {N21:Nat} (q8:a4.length=n7) (q13:a5.length=n12) (q18:a6.length=n17) (q22:a7.length=N21) (q23:d7 g20 a7) (q24:∀k∈a4,k<N21):CtO Tryz.prog 149 ([⟨some p0,1,123,6,1,([pI .i64 a1]++[pI .i64 a2]++[pI .i64 a3]++[pO b5 n7 c6]++[pO b10 n12 c11]++[pO b15 n17 c16])⟩,hO (cH g20) b5 c6 24 n7 a4,hO cQ b10 c11 42 n12 a5,hO cI b15 c16 3 n17 a6]++gD cQ 42 g20 a7) [.vc (pP (some p0) 0),.vc (pI .i64 a0)] (fun Ho q=>∃b1028 b1029,Ho=([⟨some p0,1,123,6,1,([pI .i64 a1]++[pI .i64 a2]++[pI .i64 a3]++[pO b5 n7 c6]++[pO b10 n12 c11]++[pO b15 n17 c16])⟩,⟨some b1028,1,3,1,1,[pI .i64 a0]⟩,⟨some b1029,1,120,1,1,[pP (some p0) 0]⟩,hO (cH g20) b5 c6 24 n7 a4,hO cQ b10 c11 42 n12 a5,hO cI b15 c16 3 n17 a6]++gD cQ 42 g20 a7)∧q=.vc (pF 169 [pP (some b1028) 0,pP (some b1029) 0])):=by
 unfold oU at hF
 refine aA Tryz.func149 rfl (by kernel_rfl) Tryz.ntmps149 rfl (fun w0 M0=>?_)
 refine aD (aK (cK rfl rfl trivial (fun b26=>?_)))
 refine cK rfl rfl trivial (fun b27=>?_)
 refine aH (aM (p:=.any) (.inr rfl)) ⟨fun _=>trivial,trivial⟩ ?_
 refine go ?_ ?_
 refine aH (aNG (xs:=[.tmp 3,.tmp 2]) (cs:=[pP (some b27) 0,pP (some b26) 0]) rfl rfl) zU2 ?_
 refine go ?_ ?_
 refine fX (fY ?_)
 obtain rfl:=iR hF
 exact kC (.inl rfl) Tryz.results149 (.tmp rfl .nil) rfl 6 [2,0,1,3,4,5] rfl rfl (by decide) ⟨b27,b26,rfl,rfl⟩
def mS (K:Nat) (x33:Int):Option Int:=
 some x33
def kD (K:Nat) (a6:List Int) (x30:Rat) (x31:Int) (x32:Int) (v52:Rat) (recl34:Rat→Int→Int→Option Int) (x55:Int):Option Int:=
 bif(decide (x55<0)) then((aR (x32+1)).bind fun v62=>recl34 v52 x32 v62) else(bif(x55==0) then((bO a6 x32).bind fun v65=>(bO a6 x31).bind fun v67=>bif(decide (v65<v67)) then((aR (x32+1)).bind fun v72=>recl34 v52 x32 v72) else((aR (x32+1)).bind fun v74=>recl34 x30 x31 v74)) else((aR (x32+1)).bind fun v76=>recl34 x30 x31 v76))
def dG (K:Nat) (a0:Int) (a3:Int) (a4:List Nat) (a6:List Int) (a7:List (List Rat)):Nat→Rat→Int→Int→Option Int
 |0,_,_,_=>none
 |k+1,x30,x31,x32=>bif(decide (x32<(a4.length:Int))) then((bO a4 x32).bind fun v37=>(bO (a7.getD v37 []) a0).bind fun v39=>(xD v39).bind fun v41=>bif(decide (v41≤0)) then((aR (x32+1)).bind fun v44=>dG K a0 a3 a4 a6 a7 k x30 x31 v44) else((bO (a7.getD v37 []) a3).bind fun v48=>(bO (a7.getD v37 []) a0).bind fun v50=>(aDP v48 v50).bind fun v52=>bif(decide (0≤x31)) then((aIG v52 x30).bind fun v79=>kD K a6 x30 x31 x32 v52 (dG K a0 a3 a4 a6 a7 k) v79) else(kD K a6 x30 x31 x32 v52 (dG K a0 a3 a4 a6 a7 k) (-1)))) else(some x31)
def pL (K:Nat) (a0:Int) (a1:Int) (a2:Int) (a3:Int) (a4:List Nat) (a5:List Rat) (a6:List Int) (a7:List (List Rat)):Option Int:=
 (dG K a0 a3 a4 a6 a7 K 0 (-1) 0).bind fun x33=>mS K x33
theorem xE {K:Nat} {a0:Int} {a1:Int} {a2:Int} {a3:Int} {a4:List Nat} {a5:List Rat} {a6:List Int} {a7:List (List Rat)} {r:Int} (hF:pL K a0 a1 a2 a3 a4 a5 a6 a7=some r) {p0:Nat} {b5:Option Nat} {c6 n7:Nat} {b10:Option Nat} {c11 n12:Nat} {b15:Option Nat} {c16 n17:Nat} {g20:List sE} {N21:Nat} (q8:a4.length=n7) (q13:a5.length=n12) (q18:a6.length=n17) (q22:a7.length=N21) (q23:d7 g20 a7) (q24:∀k∈a4,k<N21):CtO Tryz.prog 150 ([⟨some p0,1,123,6,1,([pI .i64 a1]++[pI .i64 a2]++[pI .i64 a3]++[pO b5 n7 c6]++[pO b10 n12 c11]++[pO b15 n17 c16])⟩,hO (cH g20) b5 c6 24 n7 a4,hO cQ b10 c11 42 n12 a5,hO cI b15 c16 3 n17 a6]++gD cQ 42 g20 a7) [.vc (pP (some p0) 0),.vc (pI .i64 a0)] (fun Ho q=>Ho=([⟨some p0,1,123,6,1,([pI .i64 a1]++[pI .i64 a2]++[pI .i64 a3]++[pO b5 n7 c6]++[pO b10 n12 c11]++[pO b15 n17 c16])⟩,hO (cH g20) b5 c6 24 n7 a4,hO cQ b10 c11 42 n12 a5,hO cI b15 c16 3 n17 a6]++gD cQ 42 g20 a7)∧q=.vc (pI .i64 r)):=by
 unfold pL at hF
 refine aA Tryz.func150 rfl (by kernel_rfl) Tryz.ntmps150 rfl (fun w0 M0=>?_)
 refine go ?_ ?_
 refine aL rfl tyZ42q (fun b26=>?_)
 refine go ?_ ?_
 refine aI (aY (fun H E=>∃(x33:Int),mS K x33=some r∧H=([⟨some p0,1,123,6,1,([pI .i64 a1]++[pI .i64 a2]++[pI .i64 a3]++[pO b5 n7 c6]++[pO b10 n12 c11]++[pO b15 n17 c16])⟩,hO (cH g20) b5 c6 24 n7 a4,hO cQ b10 c11 42 n12 a5,hO cI b15 c16 3 n17 a6]++gD cQ 42 g20 a7)∧E=[(5,.vc (pI .i64 x33))]) ?_ (fun Jj35=>?_))
 ·rintro _ _ ⟨x33,hF,rfl,rfl⟩
  unfold mS at hF
  refine go ?_ ?_
  refine fX (fY ?_)
  obtain rfl:=iR hF
  exact kC (.inl rfl) Tryz.results150 (.tmp rfl .nil) rfl 4 [0,1,2,3] rfl rfl (by decide) ⟨rfl,rfl⟩
 obtain⟨x33',hL,hRl34⟩:=aO hF
 refine dW (fun k a w=>∃(x30:Rat),∃(x31:Int),∃(x32:Int),dG K a0 a3 a4 a6 a7 k x30 x31 x32=some x33'∧hs _ ([⟨some b26,1,42,4,1,(eQ x30)⟩,⟨some p0,1,123,6,1,([pI .i64 a1]++[pI .i64 a2]++[pI .i64 a3]++[pO b5 n7 c6]++[pO b10 n12 c11]++[pO b15 n17 c16])⟩,hO (cH g20) b5 c6 24 n7 a4,hO cQ b10 c11 42 n12 a5,hO cI b15 c16 3 n17 a6]++gD cQ 42 g20 a7) [(0,.vc (pP (some p0) 0)),(1,.vc (pI .i64 a0)),(5,.vc (pI .i64 x31)),(6,.vc (pP (some b26) 0)),(14,.vc (pO b5 n7 c6)),(15,.vc (pI .i64 (a4.length:Int))),(16,.vc (pI .i64 x32))] a w) K (fun a w ⟨_,_,_,hF,_⟩=>by cases hF) (fun k a w ⟨x30,x31,x32,hF,hh⟩=>dV ?_ hh) (fun a w hh=>⟨0,(-1),0,hL,aV 5 [0,1,2,3,4] rfl rfl (by decide) (by exact⟨rfl,rfl,rfl,rfl,rfl,rfl,rfl,trivial⟩) hh⟩)
 rw [dG.eq_2] at hF
 refine go ?_ ?_
 refine aC hF rfl (fun h36 hF=>?_) (fun h36 hF=>?_)
 ·refine go ?_ ?_
  refine aI ?_
  obtain⟨v37,h38,v39,h40,hF⟩:=tY hF
  refine go ?_ ?_
  refine aH (gN (5+v37) rfl tyS24 (s9 5 rfl q23 q22 (q24 _ (aT h38))) (fQ q23 q22 (q24 _ (aT h38))) (aG h40).1 (aG h40).2.1) zU2 ?_
  refine aH (lZ (k:=4) (5+v37) rfl (s9 5 rfl q23 q22 (q24 _ (aT h38))) h40 rfl (.agg tyA42) rfl) zU1 ?_
  obtain⟨v41,h42,hF⟩:=aX hF iJ
  refine go ?_ ?_
  refine aC hF rfl (fun h43 hF=>?_) (fun h43 hF=>?_)
  ·refine bI ?_
   obtain⟨v44,h45,hF⟩:=aO hF
   refine go ?_ ?_
   exact aF (fun a w hh=>⟨x30,x31,v44,hF,aV 5 [0,1,2,3,4] rfl rfl (by decide) (by exact⟨rfl,rfl,rfl,rfl,rfl,rfl,rfl,trivial⟩) hh⟩)
  obtain⟨v48,h49,hF⟩:=aO hF
  have hF:=qB h40 hF
  obtain⟨v52,h53,hF⟩:=aX hF yX
  refine go ?_ ?_
  refine iG [0,0,2,6,14,31,63,0,0,384,896,2047,0,8191] 13 1 [.v (.vc (pO (jB g20 v37).1 (jB g20 v37).2.1 (jB g20 v37).2.2)),.v (.vc (pP (some p0) 0)),.v (.vc (pP (some p0) 0)),.v (.vc (pP (some p0) 2)),.v (.vc (pI .i64 a3)),.v (.vc (pE (jB g20 v37).1 a3 cQ.n 0)),.v (.va (eQ v48)),.v (.vc (pO (jB g20 v37).1 (jB g20 v37).2.1 (jB g20 v37).2.2)),.v (.vc (pI .i64 a0)),.v (.vc (pE (jB g20 v37).1 a0 cQ.n 0)),.v (.va (eQ v39)),.v (.va (eQ v52)),.a 42 (eQ 0)] aW ⟨d0 (aM (.inl rfl)) zU1,d0 (aM (.inl rfl)) zU1,d0 (qZ rfl) zU1,d0 (jW (off:=0) (k:=2) rfl tyF123_2) zU1,d0 (iD 1 1 rfl rfl rfl rfl (.one tyO3)) zU1,d0 (gN (5+v37) rfl tyS24 (kX 5 rfl q23 q22 (q24 _ (aT h38))) (fQ q23 q22 (q24 _ (aT h38))) (aG h49).1 (aG h49).2.1) zU2,d0 (lZ (k:=4) (5+v37) rfl (kX 5 rfl q23 q22 (q24 _ (aT h38))) h49 rfl (.agg tyA42) rfl) zU1,d0 (aM (.inl rfl)) zU1,d0 (aM (.inl rfl)) zU1,d0 (gN (5+v37) rfl tyS24 (kX 5 rfl q23 q22 (q24 _ (aT h38))) (fQ q23 q22 (q24 _ (aT h38))) (aG h40).1 (aG h40).2.1) zU2,d0 (lZ (k:=4) (5+v37) rfl (kX 5 rfl q23 q22 (q24 _ (aT h38))) h40 rfl (.agg tyA42) rfl) zU1,d0 (bD rfl h53 rfl) zU2,⟨rfl,.alc tyZ42q⟩,trivial⟩ (fun bs47 G46=>?_)
  refine lI (t_s 0 rfl rfl rfl tyA42.s) zU2 ?_
  refine aU (aJ (aD (aK (aH (aM (.inr rfl)) ⟨oJ _ _,trivial⟩ ?_))))
  refine aU (aJ (aD (yR (fun H E=>∃(x55:Int),kD K a6 x30 x31 x32 v52 (dG K a0 a3 a4 a6 a7 k) x55=some x33'∧H=([⟨some (bs47 12),1,42,4,1,(eQ v52)⟩,⟨some b26,1,42,4,1,(eQ x30)⟩,⟨some p0,1,123,6,1,([pI .i64 a1]++[pI .i64 a2]++[pI .i64 a3]++[pO b5 n7 c6]++[pO b10 n12 c11]++[pO b15 n17 c16])⟩,hO (cH g20) b5 c6 24 n7 a4,hO cQ b10 c11 42 n12 a5,hO cI b15 c16 3 n17 a6]++gD cQ 42 g20 a7)∧E=[(0,.vc (pP (some p0) 0)),(1,.vc (pI .i64 a0)),(5,.vc (pI .i64 x31)),(6,.vc (pP (some b26) 0)),(7,.vc (pI .i64 x32)),(9,.vc (pP (some (bs47 12)) 0)),(10,.vc (pI .i64 x55)),(14,.vc (pO b5 n7 c6)),(15,.vc (pI .i64 (a4.length:Int))),(16,.vc (pI .i64 x32))]) ?_ (fun Jj56=>?_))))
  ·rintro _ _ ⟨x55,hF,rfl,rfl⟩
   unfold kD at hF
   refine aD ?_
   rcases Bool.eq_false_or_eq_true (decide (x55<0)) with h59|h59
   ·have hF:=tA h59 hF
    refine drb [0,1,3,7,15,31,63,127,255,511,63,2047,4095,63,8255,24639,57407,63,254015,516159,1048575,2097151,4194303] 23 0 ?_ (fun bs58 G57=>?_)
    refine aU (aJ (eU rfl ?_))
    refine dr [0,0,1,7] 3 1 ?_ (fun bs61 G60=>?_)
    obtain⟨v62,h63,hF⟩:=aO hF
    refine go ?_ ?_
    exact aF (fun a w hh=>⟨v52,x32,v62,hF,aV 6 [1,2,3,4,5] rfl rfl (by decide) (by exact⟨rfl,rfl,rfl,rfl,rfl,rfl,rfl,trivial⟩) hh⟩)
   have hF:=rJ h59 hF
   rcases Bool.eq_false_or_eq_true (x55==0) with h64|h64
   ·have hF:=tA h64 hF
    obtain⟨v65,h66,hF⟩:=aO hF
    obtain⟨v67,h68,hF⟩:=aO hF
    refine drb [0,1,3,7,15,31,63,127,255,511,63,2047,4095,63,8255,24639,57407,63,254015,516159,1048575,2097151,4194303] 23 0 ?_ (fun bs58 G57=>?_)
    refine aU (aJ (aC hF rfl (fun h69 hF=>?_) (fun h69 hF=>?_)))
    ·refine dr [0,0,1,7] 3 1 ?_ (fun bs71 G70=>?_)
     obtain⟨v72,h73,hF⟩:=aO hF
     refine go ?_ ?_
     exact aF (fun a w hh=>⟨v52,x32,v72,hF,aV 6 [1,2,3,4,5] rfl rfl (by decide) (by exact⟨rfl,rfl,rfl,rfl,rfl,rfl,rfl,trivial⟩) hh⟩)
    obtain⟨v74,h75,hF⟩:=aO hF
    refine go ?_ ?_
    exact aF (fun a w hh=>⟨x30,x31,v74,hF,aV 6 [1,2,3,4,5] rfl rfl (by decide) (by exact⟨rfl,rfl,rfl,rfl,rfl,rfl,rfl,trivial⟩) hh⟩)
   have hF:=rJ h64 hF
   refine drb [0,1,3,7,15,31,63,127,255,511,63,2047,4095,63,8255,24639,57407,63,254015,516159,1048575,2097151,4194303] 23 0 ?_ (fun bs58 G57=>?_)
   refine aU (aJ (uV rfl ?_))
   obtain⟨v76,h77,hF⟩:=aO hF
   refine go ?_ ?_
   exact aF (fun a w hh=>⟨x30,x31,v76,hF,aV 6 [1,2,3,4,5] rfl rfl (by decide) (by exact⟨rfl,rfl,rfl,rfl,rfl,rfl,rfl,trivial⟩) hh⟩)
  refine go ?_ ?_
  refine aC hF rfl (fun h78 hF=>?_) (fun h78 hF=>?_)
  ·refine aK (aH (iD 0 4 rfl rfl rfl rfl (.agg tyA42)) zU1 ?_)
   refine aH (iD 1 4 rfl rfl rfl rfl (.agg tyA42)) zU1 ?_
   obtain⟨v79,h80,hF⟩:=aX hF aBr
   refine aH (bD rfl h80 rfl) zU2 ?_
   refine y6 ?_
   refine aU ?_
   exact iE Jj56 ⟨v79,hF,rfl,rfl⟩ 6 [0,1,2,3,4,5] rfl rfl ⟨rfl,rfl,rfl,rfl,rfl,rfl,rfl,rfl,rfl,rfl,trivial⟩
  refine iC ?_
  exact iE Jj56 ⟨(-1),hF,rfl,rfl⟩ 6 [0,1,2,3,4,5] rfl rfl ⟨rfl,rfl,rfl,rfl,rfl,rfl,rfl,rfl,rfl,rfl,trivial⟩
 refine bI ?_
 obtain rfl:=iR hF
 exact iE Jj35 ⟨x31,hRl34,rfl,rfl⟩ 5 [1,2,3,4] rfl rfl zU1
def tI (K:Nat) (x25:List (List Rat)):Option (List (List Rat)):=
 some x25
def mM (K:Nat) (a0:Nat) (a1:Nat) (a3:List (List Rat)) (v9:Rat):Nat→(List (List Rat))→Int→Option (List (List Rat))
 |0,_,_=>none
 |k+1,x20,x24=>bif(decide (x24<((a3.getD a1 []).length:Int))) then((bO (x20.getD a1 []) x24).bind fun v32=>(xD v32).bind fun v35=>bif(v35 != 0) then((bO (x20.getD a0 []) x24).bind fun v40=>(aES v9 v32).bind fun v42=>(aFk v40 v42).bind fun v44=>(bO (x20.getD a0 []) x24).bind fun v46=>(pA (x20.getD a0 []) x24 v44).bind fun x48=>(aR (x24+1)).bind fun v51=>mM K a0 a1 a3 v9 k (x20.set a0 x48) v51) else((aR (x24+1)).bind fun v53=>mM K a0 a1 a3 v9 k x20 v53)) else(some x20)
def vQ (K:Nat) (a0:Nat) (a1:Nat) (a2:Int) (a3:List (List Rat)):Option (List (List Rat)):=
 (bO (a3.getD a0 []) a2).bind fun v9=>(xD v9).bind fun v12=>bif(v12==0) then(some a3) else((mM K a0 a1 a3 v9 K a3 0).bind fun x25=>tI K x25)
theorem aBW {K:Nat} {a0:Nat} {a1:Nat} {a2:Int} {a3:List (List Rat)} {r:List (List Rat)} (hF:vQ K a0 a1 a2 a3=some r) {g4:List sE} {N5:Nat} (q6:a3.length=N5) (q7:d7 g4 a3) (q2:a0<N5) (q3:a1<N5):CtO Tryz.prog 148 ([]++gD cQ 42 g4 a3) [.vc (pO (jB g4 a0).1 (jB g4 a0).2.1 (jB g4 a0).2.2),.vc (pO (jB g4 a1).1 (jB g4 a1).2.1 (jB g4 a1).2.2),.vc (pI .i64 a2)] (fun Ho q=>r.length=N5∧d7 g4 r∧Ho=([]++gD cQ 42 g4 r)∧q=.any):=by
 unfold vQ at hF
 refine aA Tryz.func148 rfl (by kernel_rfl) Tryz.ntmps148 rfl (fun w0 M0=>?_)
 obtain⟨v9,h10,hF⟩:=aO hF
 refine go ?_ ?_
 refine aH (gN (0+a0) rfl tyS24 (s9 0 rfl q7 q6 q2) (fQ q7 q6 q2) (aG h10).1 (aG h10).2.1) zU2 ?_
 refine aH (lZ (k:=4) (0+a0) rfl (s9 0 rfl q7 q6 q2) h10 rfl (.agg tyA42) rfl) zU1 ?_
 refine aL rfl tyZ42q (fun b11=>?_)
 obtain⟨v12,h13,hF⟩:=aX hF iJ
 refine go ?_ ?_
 refine aC hF rfl (fun h14 hF=>?_) (fun h14 hF=>?_)
 ·refine fX (fY ?_)
  obtain rfl:=iR hF
  exact kC (.inl rfl) Tryz.results148 .nil rfl 1 [] rfl rfl (by decide) ⟨q6,q7,rfl,rfl⟩
 refine go ?_ ?_
 refine aH (aAW (C:=cQ) (xs:=(a3.getD a1 [])) (T:=42) rfl tyS24 (fQ q7 q6 q3)) zU1 ?_
 refine go ?_ ?_
 refine aI (aY (fun H E=>∃(x25:List (List Rat)),tI K x25=some r∧x25.length=N5∧d7 g4 x25∧H=([]++gD cQ 42 g4 x25)∧E=[]) ?_ (fun Jj30=>?_))
 ·rintro _ _ ⟨x25,hF,q26,q27,rfl,rfl⟩
  unfold tI at hF
  obtain rfl:=iR hF
  exact kC (.inr rfl) Tryz.results148 .nil rfl 0 [] rfl rfl (by decide) ⟨q26,q27,rfl,rfl⟩
 obtain⟨x25',hL,hRl29⟩:=aO hF
 refine dW (fun k a w=>∃(x20:List (List Rat)),∃(x24:Int),mM K a0 a1 a3 v9 k x20 x24=some x25'∧x20.length=N5∧d7 g4 x20∧hs _ ([⟨some b11,1,42,4,1,(eQ v9)⟩]++gD cQ 42 g4 x20) [(0,.vc (pO (jB g4 a0).1 (jB g4 a0).2.1 (jB g4 a0).2.2)),(6,.vc (pP (some b11) 0)),(16,.vc (pO (jB g4 a1).1 (jB g4 a1).2.1 (jB g4 a1).2.2)),(17,.vc (pI .i64 ((a3.getD a1 []).length:Int))),(18,.vc (pI .i64 x24))] a w) K (fun a w ⟨_,_,hF,_,_,_⟩=>by cases hF) (fun k a w ⟨x20,x24,hF,q21,q22,hh⟩=>dV ?_ hh) (fun a w hh=>⟨a3,0,hL,q6,q7,aV 1 [0] rfl rfl (by decide) (by exact⟨rfl,rfl,rfl,rfl,rfl,trivial⟩) hh⟩)
 rw [mM.eq_2] at hF
 refine go ?_ ?_
 refine aC hF rfl (fun h31 hF=>?_) (fun h31 hF=>?_)
 ·refine go ?_ ?_
  refine aI ?_
  obtain⟨v32,h33,hF⟩:=aO hF
  refine go ?_ ?_
  refine aH (gN (1+a1) rfl tyS24 (s9 1 rfl q22 q21 q3) (fQ q22 q21 q3) (aG h33).1 (aG h33).2.1) zU2 ?_
  refine aH (lZ (k:=4) (1+a1) rfl (s9 1 rfl q22 q21 q3) h33 rfl (.agg tyA42) rfl) zU1 ?_
  refine aL rfl tyZ42q (fun b34=>?_)
  obtain⟨v35,h36,hF⟩:=aX hF iJ
  refine go ?_ ?_
  refine aC hF rfl (fun h37 hF=>?_) (fun h37 hF=>?_)
  ·obtain⟨v40,h41,hF⟩:=aO hF
   obtain⟨v42,h43,hF⟩:=aX hF yZ
   obtain⟨v44,h45,hF⟩:=aX hF yS
   have hF:=qB h41 hF
   refine iG [0,0,0,0,12,28,0,0,192,508,1023,2047] 11 1 [.v (.vc (pO (jB g4 a0).1 (jB g4 a0).2.1 (jB g4 a0).2.2)),.v (.vc (pI .i64 x24)),.v (.vc (pO (jB g4 a0).1 (jB g4 a0).2.1 (jB g4 a0).2.2)),.v (.vc (pI .i64 x24)),.v (.vc (pE (jB g4 a0).1 x24 cQ.n 0)),.v (.va (eQ v40)),.v (.va (eQ v9)),.v (.va (eQ v32)),.v (.va (eQ v42)),.v (.va (eQ v44)),.v (.vc (pE (jB g4 a0).1 x24 cQ.n 0))] aW ⟨d0 (aM (.inl rfl)) zU1,d0 (aM (.inl rfl)) zU1,d0 (aM (.inl rfl)) zU1,d0 (aM (.inl rfl)) zU1,d0 (gN (2+a0) rfl tyS24 (kX 2 rfl q22 q21 q2) (fQ q22 q21 q2) (aG h41).1 (aG h41).2.1) zU2,d0 (lZ (k:=4) (2+a0) rfl (kX 2 rfl q22 q21 q2) h41 rfl (.agg tyA42) rfl) zU1,d0 (iD 1 4 rfl rfl rfl rfl (.agg tyA42)) zU1,d0 (iD 0 4 rfl rfl rfl rfl (.agg tyA42)) zU1,d0 (bD rfl h43 rfl) zU2,d0 (bD rfl h45 rfl) zU2,d0 (gN (2+a0) rfl tyS24 (kX 2 rfl q22 q21 q2) (fQ q22 q21 q2) (aG h41).1 (aG h41).2.1) zU2,trivial⟩ (fun bs39 G38=>?_)
   obtain⟨x48,h49,hF⟩:=aO hF
   refine lI (wB (H':=([⟨some b34,1,42,4,1,(eQ v32)⟩,⟨some b11,1,42,4,1,(eQ v9)⟩]++gD cQ 42 g4 (x20.set a0 x48))) (2+a0) rfl (s9 2 rfl q22 q21 q2) h41 h49 tyA42.s (hH:=stN 2 rfl q22 q21 q2)) zU2 ?_
   obtain⟨v51,h52,hF⟩:=aO hF
   refine go ?_ ?_
   exact aF (fun a w hh=>⟨(x20.set a0 x48),v51,hF,(aDd q21),(aEO q22 q21 q2 (bE h49 rfl)),aV 2 [1] rfl rfl (by decide) (by exact⟨rfl,rfl,rfl,rfl,rfl,trivial⟩) hh⟩)
  obtain⟨v53,h54,hF⟩:=aO hF
  refine go ?_ ?_
  exact aF (fun a w hh=>⟨x20,v53,hF,q21,q22,aV 2 [1] rfl rfl (by decide) (by exact⟨rfl,rfl,rfl,rfl,rfl,trivial⟩) hh⟩)
 refine bI ?_
 obtain rfl:=iR hF
 exact iE Jj30 ⟨x20,hRl29,q21,q22,rfl,rfl⟩ 1 [] rfl rfl trivial
def oC (K:Nat) (a0:Int) (a1:Int) (a6:List Rat) (a7:List Int) (x75:List Nat) (x81:List (List Rat)):Option ((List Nat)×(List Rat)×(List Int)×(List (List Rat))):=
 (bO x75 a0).bind fun v91=>(tR K v91 a1 a6 x81).bind fun v93=>(bO a7 a0).bind fun v97=>(pA a7 a0 a1).bind fun x99=>some (x75,v93,x99,x81)
def iT (K:Nat) (a0:Int) (a1:Int) (a5:List Nat):Nat→(List Nat)→(List (List Rat))→Int→Option ((List Nat)×(List (List Rat)))
 |0,_,_,_=>none
 |k+1,x62,x68,x74=>bif(decide (x74<(a5.length:Int))) then((bO x62 x74).bind fun v103=>bif(x74 != a0) then((bO x62 a0).bind fun v106=>(vQ K v103 v106 a1 x68).bind fun v108=>(aR (x74+1)).bind fun v113=>iT K a0 a1 a5 k x62 v108 v113) else((aR (x74+1)).bind fun v115=>iT K a0 a1 a5 k x62 x68 v115)) else(some (x62,x68))
def oD (K:Nat) (a0:Int) (a1:Int) (a5:List Nat) (a6:List Rat) (a7:List Int) (x43:List (List Rat)):Option ((List Nat)×(List Rat)×(List Int)×(List (List Rat))):=
 (iT K a0 a1 a5 K a5 x43 0).bind fun(x75,x81)=>oC K a0 a1 a6 a7 x75 x81
def k5 (K:Nat) (a0:Int) (a5:List Nat) (a8:List (List Rat)) (v28:Rat) (v31:Nat):Nat→(List (List Rat))→Int→Option (List (List Rat))
 |0,_,_=>none
 |k+1,x38,x42=>bif(decide (x42<((a8.getD v31 []).length:Int))) then((bO (x38.getD v31 []) x42).bind fun v118=>(bO a5 a0).bind fun v123=>(aDP v118 v28).bind fun v125=>(bO (x38.getD v123 []) x42).bind fun v127=>(pA (x38.getD v123 []) x42 v125).bind fun x129=>(aR (x42+1)).bind fun v132=>k5 K a0 a5 a8 v28 v31 k (x38.set v123 x129) v132) else(some x38)
def mX (K:Nat) (a0:Int) (a1:Int) (a2:Int) (a3:Int) (a4:Int) (a5:List Nat) (a6:List Rat) (a7:List Int) (a8:List (List Rat)):Option ((List Nat)×(List Rat)×(List Int)×(List (List Rat))):=
 (bO a5 a0).bind fun v26=>(bO (a8.getD v26 []) a1).bind fun v28=>(bO a5 a0).bind fun v31=>(k5 K a0 a5 a8 v28 v31 K a8 0).bind fun x43=>oD K a0 a1 a5 a6 a7 x43
theorem uA {K:Nat} {a0:Int} {a1:Int} {a2:Int} {a3:Int} {a4:Int} {a5:List Nat} {a6:List Rat} {a7:List Int} {a8:List (List Rat)} {r:(List Nat)×(List Rat)×(List Int)×(List (List Rat))} (hF:mX K a0 a1 a2 a3 a4 a5 a6 a7 a8=some r) {p0:Nat} {b5:Option Nat} {c6 n7:Nat} {b10:Option Nat} {c11 n12:Nat} {b15:Option Nat} {c16 n17:Nat} {g20:List sE} {N21:Nat} (q8:a5.length=n7) (q13:a6.length=n12) (q18:a7.length=n17) (q22:a8.length=N21) (q23:d7 g20 a8) (q24:∀k∈a5,k<N21):CtO Tryz.prog 151 ([⟨some p0,1,123,6,1,([pI .i64 a2]++[pI .i64 a3]++[pI .i64 a4]++[pO b5 n7 c6]++[pO b10 n12 c11]++[pO b15 n17 c16])⟩,hO (cH g20) b5 c6 24 n7 a5,hO cQ b10 c11 42 n12 a6,hO cI b15 c16 3 n17 a7]++gD cQ 42 g20 a8) [.vc (pP (some p0) 0),.vc (pI .i64 a0),.vc (pI .i64 a1)] (fun Ho q=>∃b1134 c1135 n1136 g1143 N1144,r.1.length=n1136∧r.2.1.length=n12∧r.2.2.1.length=n17∧r.2.2.2.length=N1144∧d7 g1143 r.2.2.2∧(∀k∈r.1,k<N1144)∧Ho=([⟨some p0,1,123,6,1,([pI .i64 a2]++[pI .i64 a3]++[pI .i64 a4]++[pO b1134 n1136 c1135]++[pO b10 n12 c11]++[pO b15 n17 c16])⟩,hO (cH g1143) b1134 c1135 24 n1136 r.1,hO cQ b10 c11 42 n12 r.2.1,hO cI b15 c16 3 n17 r.2.2.1]++gD cQ 42 g1143 r.2.2.2)∧q=.any):=by
 unfold mX at hF
 refine aA Tryz.func151 rfl (by kernel_rfl) Tryz.ntmps151 rfl (fun w0 M0=>?_)
 obtain⟨v26,h27,v28,h29,hF⟩:=tY hF
 refine go ?_ ?_
 refine aH (gN (4+v26) rfl tyS24 (s9 4 rfl q23 q22 (q24 _ (aT h27))) (fQ q23 q22 (q24 _ (aT h27))) (aG h29).1 (aG h29).2.1) zU2 ?_
 refine aH (lZ (k:=4) (4+v26) rfl (s9 4 rfl q23 q22 (q24 _ (aT h27))) h29 rfl (.agg tyA42) rfl) zU1 ?_
 refine aL rfl tyZ42q (fun b30=>?_)
 have hF:=qB h27 hF
 refine go ?_ ?_
 refine aH (aAW (C:=cQ) (xs:=(a8.getD v26 [])) (T:=42) rfl tyS24 (fQ q23 q22 (q24 _ (aT h27)))) zU1 ?_
 refine go ?_ ?_
 refine aI (aY (fun H E=>∃(x43:List (List Rat)),oD K a0 a1 a5 a6 a7 x43=some r∧x43.length=N21∧d7 g20 x43∧H=([⟨some p0,1,123,6,1,([pI .i64 a2]++[pI .i64 a3]++[pI .i64 a4]++[pO b5 n7 c6]++[pO b10 n12 c11]++[pO b15 n17 c16])⟩,hO (cH g20) b5 c6 24 n7 a5,hO cQ b10 c11 42 n12 a6,hO cI b15 c16 3 n17 a7]++gD cQ 42 g20 x43)∧E=[(0,.vc (pP (some p0) 0)),(1,.vc (pI .i64 a0)),(2,.vc (pI .i64 a1))]) ?_ (fun Jj48=>?_))
 ·rintro _ _ ⟨x43,hF,q44,q45,rfl,rfl⟩
  unfold oD at hF
  refine go ?_ ?_
  refine aI (aY (fun H E=>∃(x75:List Nat),∃(x81:List (List Rat)),∃(b76:Option Nat),∃(c77:Nat),∃(n78:Nat),∃(g82:List sE),∃(N83:Nat),oC K a0 a1 a6 a7 x75 x81=some r∧x75.length=n78∧x81.length=N83∧d7 g82 x81∧(∀k∈x75,k<N83)∧H=([⟨some p0,1,123,6,1,([pI .i64 a2]++[pI .i64 a3]++[pI .i64 a4]++[pO b76 n78 c77]++[pO b10 n12 c11]++[pO b15 n17 c16])⟩,hO (cH g82) b76 c77 24 n78 x75,hO cQ b10 c11 42 n12 a6,hO cI b15 c16 3 n17 a7]++gD cQ 42 g82 x81)∧E=[(0,.vc (pP (some p0) 0)),(1,.vc (pI .i64 a0)),(2,.vc (pI .i64 a1))]) ?_ (fun Jj88=>?_))
  ·rintro _ _ ⟨x75,x81,b76,c77,n78,g82,N83,hF,q79,q84,q85,q86,rfl,rfl⟩
   unfold oC at hF
   refine aJ (aD ?_)
   obtain⟨v91,h92,hF⟩:=aO hF
   refine dr [0,1,3,7,0,16,48,112,0,496,1008,0,4095] 12 1 ?_ (fun bs90 G89=>?_)
   obtain⟨v93,h94,hF⟩:=aO hF
   refine m6 4 [2] [0,1,3] rfl (xH h94 q13 q84 q85 (q86 _ (aT h92))) ⟨rfl,rfl,rfl,trivial⟩ rfl rfl rfl (by decide) ?_
   rintro _ _ ⟨q95,rfl,rfl⟩
   refine lQ (jV [hO cQ b10 c11 42 n12 v93] (gD cQ 42 g82 x81) [⟨some p0,1,123,6,1,([pI .i64 a2]++[pI .i64 a3]++[pI .i64 a4]++[pO b76 n78 c77]++[pO b10 n12 c11]++[pO b15 n17 c16])⟩,hO (cH g82) b76 c77 24 n78 x75,hO cI b15 c16 3 n17 a7]) ?_
   obtain⟨v97,h98,x99,h100,hF⟩:=tY hF
   obtain rfl:=iR hF
   refine go ?_ ?_
   exact kC (.inr rfl) Tryz.results151 .nil rfl 4 [1,2,0,3] rfl rfl (by decide) ⟨b76,c77,n78,g82,N83,q79,q95,(bE h100 q18),q84,q85,q86,rfl,rfl⟩
  obtain⟨⟨x75',x81'⟩,hL,hRl87⟩:=aO hF
  refine dW (fun k a w=>∃(x62:List Nat),∃(x68:List (List Rat)),∃(x74:Int),∃(b63:Option Nat),∃(c64:Nat),∃(n65:Nat),∃(g69:List sE),∃(N70:Nat),iT K a0 a1 a5 k x62 x68 x74=some (x75',x81')∧x62.length=n65∧x68.length=N70∧d7 g69 x68∧(∀k∈x62,k<N70)∧hs _ ([⟨some p0,1,123,6,1,([pI .i64 a2]++[pI .i64 a3]++[pI .i64 a4]++[pO b63 n65 c64]++[pO b10 n12 c11]++[pO b15 n17 c16])⟩,hO (cH g69) b63 c64 24 n65 x62,hO cQ b10 c11 42 n12 a6,hO cI b15 c16 3 n17 a7]++gD cQ 42 g69 x68) [(0,.vc (pP (some p0) 0)),(1,.vc (pI .i64 a0)),(2,.vc (pI .i64 a1)),(50,.vc (pO b63 n65 c64)),(51,.vc (pI .i64 (a5.length:Int))),(52,.vc (pI .i64 x74))] a w) K (fun a w ⟨_,_,_,_,_,_,_,_,hF,_,_,_,_,_⟩=>by cases hF) (fun k a w ⟨x62,x68,x74,b63,c64,n65,g69,N70,hF,q66,q71,q72,q73,hh⟩=>dV ?_ hh) (fun a w hh=>⟨a5,x43,0,b5,c6,n7,g20,N21,hL,q8,q44,q45,q24,aV 4 [0,1,2,3] rfl rfl (by decide) (by exact⟨rfl,rfl,rfl,rfl,rfl,rfl,trivial⟩) hh⟩)
  rw [iT.eq_2] at hF
  refine go ?_ ?_
  refine aC hF rfl (fun h102 hF=>?_) (fun h102 hF=>?_)
  ·refine go ?_ ?_
   refine aI ?_
   obtain⟨v103,h104,hF⟩:=aO hF
   refine go ?_ ?_
   refine aC hF rfl (fun h105 hF=>?_) (fun h105 hF=>?_)
   ·obtain⟨v106,h107,v108,h109,hF⟩:=tY hF
    refine go ?_ ?_
    refine m6 4 [] [0,1,2,3] rfl (aBW h109 q71 q72 (q73 _ (aT h104)) (q73 _ (aT h107))) ⟨rfl,rfl,rfl,trivial⟩ rfl rfl rfl (by decide) ?_
    rintro _ _ ⟨q110,q111,rfl,rfl⟩
    refine lQ (jV [] (gD cQ 42 g69 v108) [⟨some p0,1,123,6,1,([pI .i64 a2]++[pI .i64 a3]++[pI .i64 a4]++[pO b63 n65 c64]++[pO b10 n12 c11]++[pO b15 n17 c16])⟩,hO (cH g69) b63 c64 24 n65 x62,hO cQ b10 c11 42 n12 a6,hO cI b15 c16 3 n17 a7]) ?_
    obtain⟨v113,h114,hF⟩:=aO hF
    refine go ?_ ?_
    exact aF (fun a w hh=>⟨x62,v108,v113,b63,c64,n65,g69,N70,hF,q66,q110,q111,q73,aV 4 [0,1,2,3] rfl rfl (by decide) (by exact⟨rfl,rfl,rfl,rfl,rfl,rfl,trivial⟩) hh⟩)
   obtain⟨v115,h116,hF⟩:=aO hF
   refine go ?_ ?_
   exact aF (fun a w hh=>⟨x62,x68,v115,b63,c64,n65,g69,N70,hF,q66,q71,q72,q73,aV 4 [0,1,2,3] rfl rfl (by decide) (by exact⟨rfl,rfl,rfl,rfl,rfl,rfl,trivial⟩) hh⟩)
  refine bI ?_
  obtain⟨rfl,rfl⟩:=sm2 hF
  exact iE Jj88 ⟨x62,x68,b63,c64,n65,g69,N70,hRl87,q66,q71,q72,q73,rfl,rfl⟩ 4 [0,1,2,3] rfl rfl ⟨rfl,rfl,rfl,trivial⟩
 obtain⟨x43',hL,hRl47⟩:=aO hF
 refine dW (fun k a w=>∃(x38:List (List Rat)),∃(x42:Int),k5 K a0 a5 a8 v28 v26 k x38 x42=some x43'∧x38.length=N21∧d7 g20 x38∧hs _ ([⟨some b30,1,42,4,1,(eQ v28)⟩,⟨some p0,1,123,6,1,([pI .i64 a2]++[pI .i64 a3]++[pI .i64 a4]++[pO b5 n7 c6]++[pO b10 n12 c11]++[pO b15 n17 c16])⟩,hO (cH g20) b5 c6 24 n7 a5,hO cQ b10 c11 42 n12 a6,hO cI b15 c16 3 n17 a7]++gD cQ 42 g20 x38) [(0,.vc (pP (some p0) 0)),(1,.vc (pI .i64 a0)),(2,.vc (pI .i64 a1)),(6,.vc (pP (some b30) 0)),(27,.vc (pO (jB g20 v26).1 (jB g20 v26).2.1 (jB g20 v26).2.2)),(28,.vc (pI .i64 ((a8.getD v26 []).length:Int))),(29,.vc (pI .i64 x42))] a w) K (fun a w ⟨_,_,hF,_,_,_⟩=>by cases hF) (fun k a w ⟨x38,x42,hF,q39,q40,hh⟩=>dV ?_ hh) (fun a w hh=>⟨a8,0,hL,q22,q23,aV 5 [0,1,2,3,4] rfl rfl (by decide) (by exact⟨rfl,rfl,rfl,rfl,rfl,rfl,rfl,trivial⟩) hh⟩)
 rw [k5.eq_2] at hF
 refine go ?_ ?_
 refine aC hF rfl (fun h117 hF=>?_) (fun h117 hF=>?_)
 ·refine go ?_ ?_
  refine aI ?_
  obtain⟨v118,h119,hF⟩:=aO hF
  refine go ?_ ?_
  refine aH (gN (5+v26) rfl tyS24 (s9 5 rfl q40 q39 (q24 _ (aT h27))) (fQ q40 q39 (q24 _ (aT h27))) (aG h119).1 (aG h119).2.1) zU2 ?_
  refine aH (lZ (k:=4) (5+v26) rfl (s9 5 rfl q40 q39 (q24 _ (aT h27))) h119 rfl (.agg tyA42) rfl) zU1 ?_
  refine aL rfl tyZ42q (fun b120=>?_)
  have hF:=qB h27 hF
  obtain⟨v125,h126,hF⟩:=aX hF yX
  have hF:=qB h119 hF
  refine go ?_ ?_
  refine iG [0,1,3,7,0,31,63,0,0,0,768,2047,4095] 12 1 [.v (.vc (pP (some p0) 0)),.v (.vc (pP (some p0) 0)),.v (.vc (pP (some p0) 3)),.v (.vc (pO b5 n7 c6)),.v (.vc (pI .i64 a0)),.v (.vc (pE b5 a0 (cH g20).n 0)),.v (.vc (pO (jB g20 v26).1 (jB g20 v26).2.1 (jB g20 v26).2.2)),.v (.vc (pI .i64 x42)),.v (.va (eQ v118)),.v (.va (eQ v28)),.v (.va (eQ v125)),.v (.vc (pE (jB g20 v26).1 x42 cQ.n 0))] aW ⟨d0 (aM (.inl rfl)) zU1,d0 (qZ rfl) zU1,d0 (jW (off:=0) (k:=3) rfl tyF123_3) zU1,d0 (iD 2 1 rfl rfl rfl rfl (.one tyO23)) zU1,d0 (aM (.inl rfl)) zU1,d0 (gN (C:=(cH g20)) 3 rfl tyS23 rfl q8 (aG h27).1 (aG h27).2.1) zU2,d0 (lZ (C:=(cH g20)) (k:=1) 3 rfl rfl h27 rfl (.one tyO24) rfl) zU1,d0 (aM (.inl rfl)) zU1,d0 (iD 0 4 rfl rfl rfl rfl (.agg tyA42)) zU1,d0 (iD 1 4 rfl rfl rfl rfl (.agg tyA42)) zU1,d0 (bD rfl h126 rfl) zU2,d0 (gN (6+v26) rfl tyS24 (kX 6 rfl q40 q39 (q24 _ (aT h27))) (fQ q40 q39 (q24 _ (aT h27))) (aG h119).1 (aG h119).2.1) zU2,trivial⟩ (fun bs122 G121=>?_)
  obtain⟨x129,h130,hF⟩:=aO hF
  refine lI (wB (H':=([⟨some b120,1,42,4,1,(eQ v118)⟩,⟨some b30,1,42,4,1,(eQ v28)⟩,⟨some p0,1,123,6,1,([pI .i64 a2]++[pI .i64 a3]++[pI .i64 a4]++[pO b5 n7 c6]++[pO b10 n12 c11]++[pO b15 n17 c16])⟩,hO (cH g20) b5 c6 24 n7 a5,hO cQ b10 c11 42 n12 a6,hO cI b15 c16 3 n17 a7]++gD cQ 42 g20 (x38.set v26 x129))) (6+v26) rfl (s9 6 rfl q40 q39 (q24 _ (aT h27))) h119 h130 tyA42.s (hH:=stN 6 rfl q40 q39 (q24 _ (aT h27)))) zU2 ?_
  obtain⟨v132,h133,hF⟩:=aO hF
  refine go ?_ ?_
  exact aF (fun a w hh=>⟨(x38.set v26 x129),v132,hF,(aDd q39),(aEO q40 q39 (q24 _ (aT h27)) (bE h130 rfl)),aV 6 [1,2,3,4,5] rfl rfl (by decide) (by exact⟨rfl,rfl,rfl,rfl,rfl,rfl,rfl,trivial⟩) hh⟩)
 refine bI ?_
 obtain rfl:=iR hF
 exact iE Jj48 ⟨x38,hRl47,q39,q40,rfl,rfl⟩ 5 [1,2,3,4] rfl rfl ⟨rfl,rfl,rfl,trivial⟩
def lD (K:Nat) (x106:List Nat) (x112:List Rat) (x118:List Int) (x124:List (List Rat)) (x130:Bool) (x131:Int):Option (Nat×(List Nat)×(List Rat)×(List Int)×(List (List Rat))×Bool×Int):=
 some (0,(x106,x112,x118,x124,x130,x131))
def eS (K:Nat) (a3:Int) (yF:Int→(List Nat)→(List Rat)→(List Int)→(List (List Rat))→Bool→Int→Option (Nat×(List Nat)×(List Rat)×(List Int)×(List (List Rat))×Bool×Int)):Nat→(List Nat)→(List Rat)→(List Int)→(List (List Rat))→Bool→Int→Int→Option (LR (Nat×(List Nat)×(List Rat)×(List Int)×(List (List Rat))×Bool×Int) ((List Nat)×(List Rat)×(List Int)×(List (List Rat))×Bool×Int))
 |0,_,_,_,_,_,_,_=>none
 |k+1,x79,x85,x91,x97,x103,x104,x105=>bif(decide (x105<a3)) then((bO x85 x105).bind fun v135=>(xD v135).bind fun v137=>bif(decide (v137<0)) then((yF x105 x79 x85 x91 x97 x103 x104).bind fun v140=>bif Nat.beq v140.1 0 then((aR (x105+1)).bind fun v169=>eS K a3 yF k v140.2.1 v140.2.2.1 v140.2.2.2.1 v140.2.2.2.2.1 v140.2.2.2.2.2.1 v140.2.2.2.2.2.2 v169) else(some (.ret (v140.1,(v140.2.1,v140.2.2.1,v140.2.2.2.1,v140.2.2.2.2.1,v140.2.2.2.2.2.1,v140.2.2.2.2.2.2))))) else((aR (x105+1)).bind fun v199=>eS K a3 yF k x79 x85 x91 x97 x103 x104 v199)) else(some (.go (x79,x85,x91,x97,x103,x104)))
def nL (K:Nat) (yF:Int→(List Nat)→(List Rat)→(List Int)→(List (List Rat))→Bool→Int→Option (Nat×(List Nat)×(List Rat)×(List Int)×(List (List Rat))×Bool×Int)) (a0:Int) (a1:Int) (a2:Int) (a3:Int) (a4:Bool) (a5:Int) (a6:List Nat) (a7:List Rat) (a8:List Int) (a9:List (List Rat)):Option (Nat×(List Nat)×(List Rat)×(List Int)×(List (List Rat))×Bool×Int):=
 (eS K a3 yF K a6 a7 a8 a9 a4 a5 0).bind fun o=>match o with| .ret r=>some r| .go (x106,x112,x118,x124,x130,x131)=>lD K x106 x112 x118 x124 x130 x131
theorem wA {K:Nat} {yF:Int→(List Nat)→(List Rat)→(List Int)→(List (List Rat))→Bool→Int→Option (Nat×(List Nat)×(List Rat)×(List Int)×(List (List Rat))×Bool×Int)} {l:Nat} {x:LX} {jump:Nat→Code} {Mb:iZ} {a0:Int} {a1:Int} {a2:Int} {a3:Int} {a4:Bool} {a5:Int} {a6:List Nat} {a7:List Rat} {a8:List Int} {a9:List (List Rat)} {p0:Nat} {p1:Nat} {p2:Nat} {p3:Nat} {p4:Nat} {p5:Nat} {b5:Option Nat} {c6 n7:Nat} {b10:Option Nat} {c11 n12:Nat} {b15:Option Nat} {c16 n17:Nat} {g20:List sE} {N21:Nat} (hY:∀(k0:Int) (x26:List Nat) (x32:List Rat) (x38:List Int) (x44:List (List Rat)) (x50:Bool) (x51:Int) (r:Nat×(List Nat)×(List Rat)×(List Int)×(List (List Rat))×Bool×Int) (b27:Option Nat) (c28:Nat) (n29:Nat) (g45:List sE) (N46:Nat),x26.length=n29→x32.length=n12→x38.length=n17→x44.length=N46→d7 g45 x44→(∀k∈x26,k<N46)→yF k0 x26 x32 x38 x44 x50 x51=some r→CtY Tryz.prog l x jump Mb ([⟨some p0,1,123,6,1,([pI .i64 a0]++[pI .i64 a1]++[pI .i64 a2]++[pO b27 n29 c28]++[pO b10 n12 c11]++[pO b15 n17 c16])⟩,⟨some p1,1,3,1,1,[pI .i64 a3]⟩,⟨some p2,1,120,1,1,[pP (some p0) 0]⟩,⟨some p3,1,4,1,1,[pB x50]⟩,⟨some p4,1,3,1,1,[pI .i64 x51]⟩,⟨some p5,1,120,1,1,[pP (some p0) 0]⟩,hO (cH g45) b27 c28 24 n29 x26,hO cQ b10 c11 42 n12 x32,hO cI b15 c16 3 n17 x38]++gD cQ 42 g45 x44) [.vc (pI .i64 k0)] (fun j Ho=>∃(b27':Option Nat),∃(c28':Nat),∃(n29':Nat),∃(g45':List sE),∃(N46':Nat),j=r.1∧r.2.1.length=n29'∧r.2.2.1.length=n12∧r.2.2.2.1.length=n17∧r.2.2.2.2.1.length=N46'∧d7 g45' r.2.2.2.2.1∧(∀k∈r.2.1,k<N46')∧Ho=([⟨some p0,1,123,6,1,([pI .i64 a0]++[pI .i64 a1]++[pI .i64 a2]++[pO b27' n29' c28']++[pO b10 n12 c11]++[pO b15 n17 c16])⟩,⟨some p1,1,3,1,1,[pI .i64 a3]⟩,⟨some p2,1,120,1,1,[pP (some p0) 0]⟩,⟨some p3,1,4,1,1,[pB r.2.2.2.2.2.1]⟩,⟨some p4,1,3,1,1,[pI .i64 r.2.2.2.2.2.2]⟩,⟨some p5,1,120,1,1,[pP (some p0) 0]⟩,hO (cH g45') b27' c28' 24 n29' r.2.1,hO cQ b10 c11 42 n12 r.2.2.1,hO cI b15 c16 3 n17 r.2.2.2.1]++gD cQ 42 g45' r.2.2.2.2.1))) {r:Nat×(List Nat)×(List Rat)×(List Int)×(List (List Rat))×Bool×Int} (hF:nL K yF a0 a1 a2 a3 a4 a5 a6 a7 a8 a9=some r) (q8:a6.length=n7) (q13:a7.length=n12) (q18:a8.length=n17) (q22:a9.length=N21) (q23:d7 g20 a9) (q24:∀k∈a6,k<N21):CtI Tryz.prog 169 l x jump Mb ([⟨some p0,1,123,6,1,([pI .i64 a0]++[pI .i64 a1]++[pI .i64 a2]++[pO b5 n7 c6]++[pO b10 n12 c11]++[pO b15 n17 c16])⟩,⟨some p1,1,3,1,1,[pI .i64 a3]⟩,⟨some p2,1,120,1,1,[pP (some p0) 0]⟩,⟨some p3,1,4,1,1,[pB a4]⟩,⟨some p4,1,3,1,1,[pI .i64 a5]⟩,⟨some p5,1,120,1,1,[pP (some p0) 0]⟩,hO (cH g20) b5 c6 24 n7 a6,hO cQ b10 c11 42 n12 a7,hO cI b15 c16 3 n17 a8]++gD cQ 42 g20 a9) [.vc (pY l),.vc (pP (some p1) 0),.vc (pP (some p2) 0)] (fun j Ho=>∃(b27':Option Nat),∃(c28':Nat),∃(n29':Nat),∃(g45':List sE),∃(N46':Nat),j=r.1∧r.2.1.length=n29'∧r.2.2.1.length=n12∧r.2.2.2.1.length=n17∧r.2.2.2.2.1.length=N46'∧d7 g45' r.2.2.2.2.1∧(∀k∈r.2.1,k<N46')∧Ho=([⟨some p0,1,123,6,1,([pI .i64 a0]++[pI .i64 a1]++[pI .i64 a2]++[pO b27' n29' c28']++[pO b10 n12 c11]++[pO b15 n17 c16])⟩,⟨some p1,1,3,1,1,[pI .i64 a3]⟩,⟨some p2,1,120,1,1,[pP (some p0) 0]⟩,⟨some p3,1,4,1,1,[pB r.2.2.2.2.2.1]⟩,⟨some p4,1,3,1,1,[pI .i64 r.2.2.2.2.2.2]⟩,⟨some p5,1,120,1,1,[pP (some p0) 0]⟩,hO (cH g45') b27' c28' 24 n29' r.2.1,hO cQ b10 c11 42 n12 r.2.2.1,hO cI b15 c16 3 n17 r.2.2.2.1]++gD cQ 42 g45' r.2.2.2.2.1)):=by
 unfold nL at hF
 refine aKS Tryz.func169 rfl (by kernel_rfl) Tryz.ntmps169 rfl (fun w0 M0 h0 hMb=>?_)
 refine go ?_ ?_
 refine aI (aY (fun H E=>∃(x106:List Nat),∃(x112:List Rat),∃(x118:List Int),∃(x124:List (List Rat)),∃(x130:Bool),∃(x131:Int),∃(b107:Option Nat),∃(c108:Nat),∃(n109:Nat),∃(g125:List sE),∃(N126:Nat),lD K x106 x112 x118 x124 x130 x131=some r∧x106.length=n109∧x112.length=n12∧x118.length=n17∧x124.length=N126∧d7 g125 x124∧(∀k∈x106,k<N126)∧H=([⟨some p0,1,123,6,1,([pI .i64 a0]++[pI .i64 a1]++[pI .i64 a2]++[pO b107 n109 c108]++[pO b10 n12 c11]++[pO b15 n17 c16])⟩,⟨some p1,1,3,1,1,[pI .i64 a3]⟩,⟨some p2,1,120,1,1,[pP (some p0) 0]⟩,⟨some p3,1,4,1,1,[pB x130]⟩,⟨some p4,1,3,1,1,[pI .i64 x131]⟩,⟨some p5,1,120,1,1,[pP (some p0) 0]⟩,hO (cH g125) b107 c108 24 n109 x106,hO cQ b10 c11 42 n12 x112,hO cI b15 c16 3 n17 x118]++gD cQ 42 g125 x124)∧E=[]) ?_ (fun Jj133=>?_))
 ·rintro _ _ ⟨x106,x112,x118,x124,x130,x131,b107,c108,n109,g125,N126,hF,q110,q116,q122,q127,q128,q129,rfl,rfl⟩
  unfold lD at hF
  obtain rfl:=iR hF
  exact aI8 0 (.inr rfl) Tryz.results169 h0 (aC9 9 [0,1,2,3,4,5,6,7,8] rfl rfl) ⟨b107,c108,n109,g125,N126,rfl,q110,q116,q122,q127,q128,q129,rfl⟩
 obtain⟨ol132,hL,hRl132⟩:=aO hF
 refine dW (fun k a w=>∃(x79:List Nat),∃(x85:List Rat),∃(x91:List Int),∃(x97:List (List Rat)),∃(x103:Bool),∃(x104:Int),∃(x105:Int),∃(b80:Option Nat),∃(c81:Nat),∃(n82:Nat),∃(g98:List sE),∃(N99:Nat),eS K a3 yF k x79 x85 x91 x97 x103 x104 x105=some ol132∧x79.length=n82∧x85.length=n12∧x91.length=n17∧x97.length=N99∧d7 g98 x97∧(∀k∈x79,k<N99)∧hs _ ([⟨some p0,1,123,6,1,([pI .i64 a0]++[pI .i64 a1]++[pI .i64 a2]++[pO b80 n82 c81]++[pO b10 n12 c11]++[pO b15 n17 c16])⟩,⟨some p1,1,3,1,1,[pI .i64 a3]⟩,⟨some p2,1,120,1,1,[pP (some p0) 0]⟩,⟨some p3,1,4,1,1,[pB x103]⟩,⟨some p4,1,3,1,1,[pI .i64 x104]⟩,⟨some p5,1,120,1,1,[pP (some p0) 0]⟩,hO (cH g98) b80 c81 24 n82 x79,hO cQ b10 c11 42 n12 x85,hO cI b15 c16 3 n17 x91]++gD cQ 42 g98 x97) [(0,.vc (pY l)),(2,.vc (pP (some p2) 0)),(5,.vc (pI .i64 a3)),(6,.vc (pI .i64 x105))] a w) K (fun a w ⟨_,_,_,_,_,_,_,_,_,_,_,_,hF,_,_,_,_,_,_,_⟩=>by cases hF) (fun k a w ⟨x79,x85,x91,x97,x103,x104,x105,b80,c81,n82,g98,N99,hF,q83,q89,q95,q100,q101,q102,hh⟩=>dV ?_ hh) (fun a w hh=>⟨a6,a7,a8,a9,a4,a5,0,b5,c6,n7,g20,N21,hL,q8,q13,q18,q22,q23,q24,aV 9 [0,1,2,3,4,5,6,7,8] rfl rfl (by decide) (by exact⟨rfl,rfl,rfl,rfl,trivial⟩) hh⟩)
 rw [eS.eq_2] at hF
 refine go ?_ ?_
 refine aC hF rfl (fun h134 hF=>?_) (fun h134 hF=>?_)
 ·refine go ?_ ?_
  refine aI ?_
  obtain⟨v135,h136,hF⟩:=aO hF
  obtain⟨v137,h138,hF⟩:=aX hF iJ
  refine go ?_ ?_
  refine cG hF (fun h139 hF=>?_) (fun h139 hF=>?_)
  ·refine wE (aM (.inl rfl)) zU1 ?_
   refine wE (aM (.inl rfl)) zU1 ?_
   obtain⟨v140,h141,hF⟩:=aO hF
   refine aM9 rfl (hY _ _ _ _ _ _ _ _ _ _ _ _ _ q83 q89 q95 q100 q101 q102 h141) h0 hMb zU2 ?_ ?_
   ·skip
    rintro _ ⟨b144,c145,n146,g162,N163,hj142,q147,q153,q159,q164,q165,q166,rfl⟩
    have hF:=tA (show Nat.beq v140.1 0=true by rw [←hj142];rfl) hF
    refine go ?_ ?_
    refine uV rfl ?_
    obtain⟨v169,h170,hF⟩:=aO hF
    refine go ?_ ?_
    exact aF (fun a w hh=>⟨v140.2.1,v140.2.2.1,v140.2.2.2.1,v140.2.2.2.2.1,v140.2.2.2.2.2.1,v140.2.2.2.2.2.2,v169,b144,c145,n146,g162,N163,hF,q147,q153,q159,q164,q165,q166,aV 9 [0,1,2,3,4,5,6,7,8] rfl rfl (by decide) (by exact⟨rfl,rfl,rfl,rfl,trivial⟩) hh⟩)
   rintro j171 _ ⟨b174,c175,n176,g192,N193,hj172,q177,q183,q189,q194,q195,q196,rfl⟩
   have hF:=rJ (show Nat.beq v140.1 0=false by rw [←hj172];rfl) hF
   refine go ?_ ?_
   refine eU rfl ?_
   refine fX (fY ?_)
   obtain rfl:=iR hF
   obtain rfl:=iR hRl132
   exact aI8 (j171+1) (.inl rfl) Tryz.results169 h0 (aC9 9 [0,1,2,3,4,5,6,7,8] rfl rfl) ⟨b174,c175,n176,g192,N193,hj172,q177,q183,q189,q194,q195,q196,rfl⟩
  refine go ?_ ?_
  refine uV rfl ?_
  obtain⟨v199,h200,hF⟩:=aO hF
  refine go ?_ ?_
  exact aF (fun a w hh=>⟨x79,x85,x91,x97,x103,x104,v199,b80,c81,n82,g98,N99,hF,q83,q89,q95,q100,q101,q102,aV 9 [0,1,2,3,4,5,6,7,8] rfl rfl (by decide) (by exact⟨rfl,rfl,rfl,rfl,trivial⟩) hh⟩)
 refine bI ?_
 obtain rfl:=iR hF
 exact iE Jj133 ⟨x79,x85,x91,x97,x103,x104,b80,c81,n82,g98,N99,hRl132,q83,q89,q95,q100,q101,q102,rfl,rfl⟩ 9 [0,1,2,3,4,5,6,7,8] rfl rfl trivial
def oR (K:Nat) (x83:List Nat) (x89:List Rat) (x95:List Int) (x101:List (List Rat)) (x107:Int):Option (Int×(List Nat)×(List Rat)×(List Int)×(List (List Rat))):=
 some ((-1),x83,x89,x95,x101)
def tU (K:Nat) (a1:Int) (a2:Int) (a3:Int) (k142:Int) (x116:List Nat) (x122:List Rat) (x128:List Int) (x134:List (List Rat)) (x140:Bool) (x141:Int):Option (Nat×(List Nat)×(List Rat)×(List Int)×(List (List Rat))×Bool×Int):=
 (pL K k142 a1 a2 a3 x116 x122 x128 x134).bind fun v146=>bif(decide (v146<0)) then(some (1,(x116,x122,x128,x134,x140,k142))) else((mX K v146 k142 a1 a2 a3 x116 x122 x128 x134).bind fun v149=>some (2,(v149.1,v149.2.1,v149.2.2.1,v149.2.2.2,true,x141)))
def jN (K:Nat) (a0:Int) (a1:Int) (a2:Int) (a3:Int):Nat→(List Nat)→(List Rat)→(List Int)→(List (List Rat))→Bool→Int→Option (LR (Int×(List Nat)×(List Rat)×(List Int)×(List (List Rat))) ((List Nat)×(List Rat)×(List Int)×(List (List Rat))×Int))
 |0,_,_,_,_,_,_=>none
 |k+1,x57,x63,x69,x75,x81,x82=>bif x81 then((oU a0 a1 a2 a3 x57 x63 x69 x75).bind fun v111=>(nL K (tU K a1 a2 a3) a1 a2 a3 a0 false x82 x57 x63 x69 x75).bind fun v144=>bif Nat.beq v144.1 0 then(jN K a0 a1 a2 a3 k v144.2.1 v144.2.2.1 v144.2.2.2.1 v144.2.2.2.2.1 v144.2.2.2.2.2.1 v144.2.2.2.2.2.2) else(bif Nat.beq v144.1 1 then(some (.ret (v144.2.2.2.2.2.2,v144.2.1,v144.2.2.1,v144.2.2.2.1,v144.2.2.2.2.1))) else(bif Nat.beq v144.1 2 then(jN K a0 a1 a2 a3 k v144.2.1 v144.2.2.1 v144.2.2.2.1 v144.2.2.2.2.1 v144.2.2.2.2.2.1 v144.2.2.2.2.2.2) else(none)))) else(some (.go (x57,x63,x69,x75,x82)))
def oW (K:Nat) (a0:Int) (a1:Int) (a2:Int) (a3:Int) (a4:List Nat) (a5:List Rat) (a6:List Int) (a7:List (List Rat)):Option (Int×(List Nat)×(List Rat)×(List Int)×(List (List Rat))):=
 (jN K a0 a1 a2 a3 K a4 a5 a6 a7 true 0).bind fun o=>match o with| .ret r=>some r| .go (x83,x89,x95,x101,x107)=>oR K x83 x89 x95 x101 x107
theorem uP {K:Nat} {a0:Int} {a1:Int} {a2:Int} {a3:Int} {a4:List Nat} {a5:List Rat} {a6:List Int} {a7:List (List Rat)} {r:Int×(List Nat)×(List Rat)×(List Int)×(List (List Rat))} (hF:oW K a0 a1 a2 a3 a4 a5 a6 a7=some r) {p0:Nat} {b5:Option Nat} {c6 n7:Nat} {b10:Option Nat} {c11 n12:Nat} {b15:Option Nat} {c16 n17:Nat} {g20:List sE} {N21:Nat} (q8:a4.length=n7) (q13:a5.length=n12) (q18:a6.length=n17) (q22:a7.length=N21) (q23:d7 g20 a7) (q24:∀k∈a4,k<N21):CtO Tryz.prog 114 ([⟨some p0,1,123,6,1,([pI .i64 a1]++[pI .i64 a2]++[pI .i64 a3]++[pO b5 n7 c6]++[pO b10 n12 c11]++[pO b15 n17 c16])⟩,hO (cH g20) b5 c6 24 n7 a4,hO cQ b10 c11 42 n12 a5,hO cI b15 c16 3 n17 a6]++gD cQ 42 g20 a7) [.vc (pP (some p0) 0),.vc (pI .i64 a0)] (fun Ho q=>∃b1276 c1277 n1278 g1285 N1286,r.2.1.length=n1278∧r.2.2.1.length=n12∧r.2.2.2.1.length=n17∧r.2.2.2.2.length=N1286∧d7 g1285 r.2.2.2.2∧(∀k∈r.2.1,k<N1286)∧Ho=([⟨some p0,1,123,6,1,([pI .i64 a1]++[pI .i64 a2]++[pI .i64 a3]++[pO b1276 n1278 c1277]++[pO b10 n12 c11]++[pO b15 n17 c16])⟩,hO (cH g1285) b1276 c1277 24 n1278 r.2.1,hO cQ b10 c11 42 n12 r.2.2.1,hO cI b15 c16 3 n17 r.2.2.2.1]++gD cQ 42 g1285 r.2.2.2.2)∧q=.vc (pI .i64 r.1)):=by
 unfold oW at hF
 refine aA Tryz.func114 rfl (by kernel_rfl) Tryz.ntmps114 rfl (fun w0 M0=>?_)
 refine aD (aK (cK rfl rfl trivial (fun b26=>?_)))
 refine aL rfl tyZ3q (fun b27=>?_)
 refine go ?_ ?_
 refine aL rfl tyZ4q (fun b28=>?_)
 refine go ?_ ?_
 refine aI (aY (fun H E=>∃(x83:List Nat),∃(x89:List Rat),∃(x95:List Int),∃(x101:List (List Rat)),∃(x107:Int),∃(b84:Option Nat),∃(c85:Nat),∃(n86:Nat),∃(g102:List sE),∃(N103:Nat),oR K x83 x89 x95 x101 x107=some r∧x83.length=n86∧x89.length=n12∧x95.length=n17∧x101.length=N103∧d7 g102 x101∧(∀k∈x83,k<N103)∧H=([⟨some b27,1,3,1,1,[pI .i64 x107]⟩,⟨some p0,1,123,6,1,([pI .i64 a1]++[pI .i64 a2]++[pI .i64 a3]++[pO b84 n86 c85]++[pO b10 n12 c11]++[pO b15 n17 c16])⟩,hO (cH g102) b84 c85 24 n86 x83,hO cQ b10 c11 42 n12 x89,hO cI b15 c16 3 n17 x95]++gD cQ 42 g102 x101)∧E=[(4,.vc (pP (some b27) 0))]) ?_ (fun Jj109=>?_))
 ·rintro _ _ ⟨x83,x89,x95,x101,x107,b84,c85,n86,g102,N103,hF,q87,q93,q99,q104,q105,q106,rfl,rfl⟩
  unfold oR at hF
  refine go ?_ ?_
  refine fX (fY ?_)
  obtain rfl:=iR hF
  exact kC (.inl rfl) Tryz.results114 (vP 0 1 rfl rfl rfl rfl (.one tyO3) .nil) rfl 5 [1,2,3,4] rfl rfl (by decide) ⟨b84,c85,n86,g102,N103,q87,q93,q99,q104,q105,q106,rfl,rfl⟩
 obtain⟨ol108,hL,hRl108⟩:=aO hF
 refine dW (fun k a w=>∃(x57:List Nat),∃(x63:List Rat),∃(x69:List Int),∃(x75:List (List Rat)),∃(x81:Bool),∃(x82:Int),∃(b58:Option Nat),∃(c59:Nat),∃(n60:Nat),∃(g76:List sE),∃(N77:Nat),∃(b56:Nat),jN K a0 a1 a2 a3 k x57 x63 x69 x75 x81 x82=some ol108∧x57.length=n60∧x63.length=n12∧x69.length=n17∧x75.length=N77∧d7 g76 x75∧(∀k∈x57,k<N77)∧hs _ ([⟨some b56,1,4,1,1,[pB x81]⟩,⟨some b27,1,3,1,1,[pI .i64 x82]⟩,⟨some b26,1,120,1,1,[pP (some p0) 0]⟩,⟨some p0,1,123,6,1,([pI .i64 a1]++[pI .i64 a2]++[pI .i64 a3]++[pO b58 n60 c59]++[pO b10 n12 c11]++[pO b15 n17 c16])⟩,hO (cH g76) b58 c59 24 n60 x57,hO cQ b10 c11 42 n12 x63,hO cI b15 c16 3 n17 x69]++gD cQ 42 g76 x75) [(1,.vc (pI .i64 a0)),(2,.vc (pP (some b26) 0)),(4,.vc (pP (some b27) 0)),(5,.vc (pP (some b56) 0))] a w) K (fun a w ⟨_,_,_,_,_,_,_,_,_,_,_,_,hF,_,_,_,_,_,_,_⟩=>by cases hF) (fun k a w ⟨x57,x63,x69,x75,x81,x82,b58,c59,n60,g76,N77,b56,hF,q61,q67,q73,q78,q79,q80,hh⟩=>dV ?_ hh) (fun a w hh=>⟨a4,a5,a6,a7,true,0,b5,c6,n7,g20,N21,b28,hL,q8,q13,q18,q22,q23,q24,aV 7 [0,1,2,3,4,5,6] rfl rfl (by decide) (by exact⟨rfl,rfl,rfl,rfl,trivial⟩) hh⟩)
 rw [jN.eq_2] at hF
 refine go ?_ ?_
 refine aC hF rfl (fun h110 hF=>?_) (fun h110 hF=>?_)
 ·refine go ?_ ?_
  refine aI ?_
  obtain⟨v111,h112,hF⟩:=aO hF
  refine go ?_ ?_
  refine m6 7 [3,4,5,6] [0,1,2] rfl (wW h112 q61 q67 q73 q78 q79 q80) zU2 rfl rfl rfl (by decide) ?_
  rintro _ _ ⟨b113,b114,rfl,rfl⟩
  refine lQ (jV [⟨some p0,1,123,6,1,([pI .i64 a1]++[pI .i64 a2]++[pI .i64 a3]++[pO b58 n60 c59]++[pO b10 n12 c11]++[pO b15 n17 c16])⟩,⟨some b113,1,3,1,1,[pI .i64 a0]⟩,⟨some b114,1,120,1,1,[pP (some p0) 0]⟩,hO (cH g76) b58 c59 24 n60 x57,hO cQ b10 c11 42 n12 x63,hO cI b15 c16 3 n17 x69] (gD cQ 42 g76 x75) [⟨some b56,1,4,1,1,[pB false]⟩,⟨some b27,1,3,1,1,[pI .i64 x82]⟩,⟨some b26,1,120,1,1,[pP (some p0) 0]⟩]) ?_
  refine aU (aJ (aI (aPE 9 [0,1,2,6,7,8,3,4,5] rfl rfl ?_)))
  obtain⟨v144,h145,hF⟩:=aO hF
  refine aPv (fun j=>match j with|0=>Go.Code.ret|1=>Go.Code.exit 2|_=>Go.Code.skip) rfl (fun x l Mb hx1 hx2 hx3 ht=>wA (fun k142 x116 x122 x128 x134 x140 x141 rb143 b117 c118 n119 g135 N136 q120 q126 q132 q137 q138 q139 hF=>?_) h145 q61 q67 q73 q78 q79 q80) (fun Ho hHo=>?_) (fun j Ho hHo=>?_)
  ·refine aKy ht hx1 rfl (fun w0 M0 h0 hMb=>?_)
   rw [hx2,hx3]
   unfold tU at hF
   refine go ?_ ?_
   refine aNb h0 ?_
   refine aI ?_
   obtain⟨v146,h147,hF⟩:=aO hF
   refine go ?_ ?_
   refine m6 9 [0,6,7,8] [1,2,3,4,5] rfl (xE h147 q120 q126 q132 q137 q138 q139) zU2 rfl rfl rfl (by decide) ?_
   rintro _ _ ⟨rfl,rfl⟩
   refine lQ (jV [⟨some p0,1,123,6,1,([pI .i64 a1]++[pI .i64 a2]++[pI .i64 a3]++[pO b117 n119 c118]++[pO b10 n12 c11]++[pO b15 n17 c16])⟩,hO (cH g135) b117 c118 24 n119 x116,hO cQ b10 c11 42 n12 x122,hO cI b15 c16 3 n17 x128] (gD cQ 42 g135 x134) [⟨some b113,1,3,1,1,[pI .i64 a0]⟩,⟨some b114,1,120,1,1,[pP (some p0) 0]⟩,⟨some b56,1,4,1,1,[pB x140]⟩,⟨some b27,1,3,1,1,[pI .i64 x141]⟩,⟨some b26,1,120,1,1,[pP (some p0) 0]⟩]) ?_
   refine go ?_ ?_
   refine aC hF rfl (fun h148 hF=>?_) (fun h148 hF=>?_)
   ·refine go ?_ ?_
    refine fX (fY ?_)
    obtain rfl:=iR hF
    exact aQA 0 rfl h0 (aC9 9 [0,4,5,6,7,8,1,2,3] rfl rfl) ⟨b117,c118,n119,g135,N136,rfl,q120,q126,q132,q137,q138,q139,rfl⟩
   obtain⟨v149,h150,hF⟩:=aO hF
   refine go ?_ ?_
   refine m6 9 [0,1,2,3] [4,5,6,7,8] rfl (uA h150 q120 q126 q132 q137 q138 q139) ⟨rfl,rfl,rfl,trivial⟩ rfl rfl rfl (by decide) ?_
   rintro _ _ ⟨b151,c152,n153,g160,N161,q154,q156,q158,q162,q163,q164,rfl,rfl⟩
   refine lQ (jV [⟨some p0,1,123,6,1,([pI .i64 a1]++[pI .i64 a2]++[pI .i64 a3]++[pO b151 n153 c152]++[pO b10 n12 c11]++[pO b15 n17 c16])⟩,hO (cH g160) b151 c152 24 n153 v149.1,hO cQ b10 c11 42 n12 v149.2.1,hO cI b15 c16 3 n17 v149.2.2.1] (gD cQ 42 g160 v149.2.2.2) [⟨some b113,1,3,1,1,[pI .i64 a0]⟩,⟨some b114,1,120,1,1,[pP (some p0) 0]⟩,⟨some b56,1,4,1,1,[pB x140]⟩,⟨some b27,1,3,1,1,[pI .i64 x141]⟩,⟨some b26,1,120,1,1,[pP (some p0) 0]⟩]) ?_
   refine go ?_ ?_
   refine bI ?_
   obtain rfl:=iR hF
   exact aQV 1 rfl h0 (aC9 9 [0,4,5,6,7,8,1,2,3] rfl rfl) ⟨b151,c152,n153,g160,N161,rfl,q154,q156,q158,q162,q163,q164,rfl⟩
  ·skip
   obtain⟨b168,c169,n170,g186,N187,hj166,q171,q177,q183,q188,q189,q190,rfl⟩:=hHo
   have hF:=tA (show Nat.beq v144.1 0=true by rw [←hj166];rfl) hF
   refine go ?_ ?_
   refine aL rfl tyZ4q (fun b193=>?_)
   refine lI (t_s 0 rfl rfl rfl tyO4.s) zU2 ?_
   refine aU ?_
   exact aF (fun a w hh=>⟨v144.2.1,v144.2.2.1,v144.2.2.2.1,v144.2.2.2.2.1,v144.2.2.2.2.2.1,v144.2.2.2.2.2.2,b168,c169,n170,g186,N187,b193,hF,q171,q177,q183,q188,q189,q190,aV 10 [0,5,6,1,7,8,9] rfl rfl (by decide) (by exact⟨rfl,rfl,rfl,rfl,trivial⟩) hh⟩)
  rcases j with _|_|j
  ·skip
   obtain⟨b196,c197,n198,g214,N215,hj194,q199,q205,q211,q216,q217,q218,rfl⟩:=hHo
   have hF:=rJ (show Nat.beq v144.1 0=false by rw [←hj194];rfl) hF
   have hF:=tA (show Nat.beq v144.1 1=true by rw [←hj194];rfl) hF
   refine fX (fY ?_)
   obtain rfl:=iR hF
   obtain rfl:=iR hRl108
   exact kC (.inl rfl) Tryz.results114 (vP 4 1 rfl rfl rfl rfl (.one tyO3) .nil) rfl 9 [0,6,7,8] rfl rfl (by decide) ⟨b196,c197,n198,g214,N215,q199,q205,q211,q216,q217,q218,rfl,rfl⟩
  ·skip
   obtain⟨b223,c224,n225,g241,N242,hj221,q226,q232,q238,q243,q244,q245,rfl⟩:=hHo
   have hF:=rJ (show Nat.beq v144.1 0=false by rw [←hj221];rfl) hF
   have hF:=rJ (show Nat.beq v144.1 1=false by rw [←hj221];rfl) hF
   have hF:=tA (show Nat.beq v144.1 2=true by rw [←hj221];rfl) hF
   refine bI (go ?_ ?_)
   refine aL rfl tyZ4q (fun b248=>?_)
   refine lI (t_s 0 rfl rfl rfl tyO4.s) zU2 ?_
   refine aU ?_
   exact aF (fun a w hh=>⟨v144.2.1,v144.2.2.1,v144.2.2.2.1,v144.2.2.2.2.1,v144.2.2.2.2.2.1,v144.2.2.2.2.2.2,b223,c224,n225,g241,N242,b248,hF,q226,q232,q238,q243,q244,q245,aV 10 [0,5,6,1,7,8,9] rfl rfl (by decide) (by exact⟨rfl,rfl,rfl,rfl,trivial⟩) hh⟩)
  obtain⟨b251,c252,n253,g269,N270,hj249,q254,q260,q266,q271,q272,q273,rfl⟩:=hHo
  have hF:=rJ (show Nat.beq v144.1 0=false by rw [←hj249];exact zV (by omega)) hF
  have hF:=rJ (show Nat.beq v144.1 1=false by rw [←hj249];exact zV (by omega)) hF
  have hF:=rJ (show Nat.beq v144.1 2=false by rw [←hj249];exact zV (by omega)) hF
  cases hF
 refine bI ?_
 obtain rfl:=iR hF
 exact iE Jj109 ⟨x57,x63,x69,x75,x82,b58,c59,n60,g76,N77,hRl108,q61,q67,q73,q78,q79,q80,rfl,rfl⟩ 7 [1,3,4,5,6] rfl rfl zU1
def qD (a0:Int) (a1:Int) (a2:Int) (a3:List Nat) (a4:List Rat) (a5:List Int) (a6:List (List Rat)):Option (List Rat):=
 (aR (2*a0)).bind fun v28=>(aR (2*a0)).bind fun v30=>(aR (v30+a1)).bind fun v32=>(slL a4 v28 v32).bind fun x34=>(pG x34).bind fun v36=>some v36
theorem xV {a0:Int} {a1:Int} {a2:Int} {a3:List Nat} {a4:List Rat} {a5:List Int} {a6:List (List Rat)} {r:List Rat} (hF:qD a0 a1 a2 a3 a4 a5 a6=some r) {p0:Nat} {b5:Option Nat} {c6 n7:Nat} {b10:Option Nat} {c11 n12:Nat} {b15:Option Nat} {c16 n17:Nat} {g20:List sE} {N21:Nat} (q8:a3.length=n7) (q13:a4.length=n12) (q18:a5.length=n17) (q22:a6.length=N21) (q23:d7 g20 a6) (q24:∀k∈a3,k<N21):CtO Tryz.prog 115 ([⟨some p0,1,123,6,1,([pI .i64 a0]++[pI .i64 a1]++[pI .i64 a2]++[pO b5 n7 c6]++[pO b10 n12 c11]++[pO b15 n17 c16])⟩,hO (cH g20) b5 c6 24 n7 a3,hO cQ b10 c11 42 n12 a4,hO cI b15 c16 3 n17 a5]++gD cQ 42 g20 a6) [.vc (pP (some p0) 0)] (fun Ho q=>Ho=([⟨some p0,1,123,6,1,([pI .i64 a0]++[pI .i64 a1]++[pI .i64 a2]++[pO b5 n7 c6]++[pS cQ a4]++[pO b15 n17 c16])⟩,hO (cH g20) b5 c6 24 n7 a3,hO cI b15 c16 3 n17 a5]++gD cQ 42 g20 a6)∧q=.vc (pS cQ r)):=by
 unfold qD at hF
 refine aA Tryz.func115 rfl (by kernel_rfl) Tryz.ntmps115 rfl (fun w0 M0=>?_)
 refine aD (aK (aH (aM (.inr rfl)) ⟨eM cQ,trivial⟩ ?_))
 refine go ?_ ?_
 refine aN5 2 0 4 rfl q13 rfl rfl rfl rfl rfl ?_
 obtain⟨v28,h29,hF⟩:=aO hF
 have hF:=qB h29 hF
 obtain⟨v32,h33,hF⟩:=aO hF
 obtain⟨x34,h35,hF⟩:=aO hF
 obtain⟨v36,h37,hF⟩:=aX hF xK
 refine dr [0,1,3,7,0,16,48,112,240,0,512,1536,3584,7680,0,16384,49152,114688,261632,524287,1048575,2097151] 22 0 ?_ (fun bs27 G26=>?_)
 refine aU (aJ (fX (fY ?_)))
 obtain rfl:=iR hF
 exact kC (.inl rfl) Tryz.results115 (.tmp rfl .nil) rfl 3 [0,1,2] rfl rfl (by decide) ⟨rfl,rfl⟩
def nJ (K:Nat) (x76:List Nat) (x82:List Rat) (x88:List Int) (x94:List (List Rat)):Option ((List Nat)×(List Rat)×(List Int)×(List (List Rat))):=
 some (x76,x82,x88,x94)
def fB (K:Nat) (a0:Int) (a1:Int) (a2:Int) (a3:Int) (a6:List Int):Nat→(List Nat)→(List Rat)→(List Int)→(List (List Rat))→Int→Option ((List Nat)×(List Rat)×(List Int)×(List (List Rat)))
 |0,_,_,_,_,_=>none
 |k+1,x51,x57,x63,x69,x75=>bif(decide (x75<(a6.length:Int))) then((bO x63 x75).bind fun v103=>bif(decide (v103<a0)) then((aR (x75+1)).bind fun v106=>fB K a0 a1 a2 a3 a6 k x51 x57 x63 x69 v106) else((bO x51 x75).bind fun v108=>(slL (x69.getD v108 []) 0 a0).bind fun x110=>(sJ K x110 (lK)).bind fun v112=>bif(decide (0≤v112)) then((mX K x75 v112 a1 a2 a3 x51 x57 x63 x69).bind fun v115=>(aR (x75+1)).bind fun v132=>fB K a0 a1 a2 a3 a6 k v115.1 v115.2.1 v115.2.2.1 v115.2.2.2 v132) else((aR (x75+1)).bind fun v134=>fB K a0 a1 a2 a3 a6 k x51 x57 x63 x69 v134))) else(some (x51,x57,x63,x69))
def rC (K:Nat) (a0:Int) (a1:Int) (a2:Int) (a3:Int) (a4:List Nat) (a5:List Rat) (a6:List Int) (a7:List (List Rat)):Option ((List Nat)×(List Rat)×(List Int)×(List (List Rat))):=
 (fB K a0 a1 a2 a3 a6 K a4 a5 a6 a7 0).bind fun(x76,x82,x88,x94)=>nJ K x76 x82 x88 x94
theorem yA {K:Nat} {a0:Int} {a1:Int} {a2:Int} {a3:Int} {a4:List Nat} {a5:List Rat} {a6:List Int} {a7:List (List Rat)} {r:(List Nat)×(List Rat)×(List Int)×(List (List Rat))} (hF:rC K a0 a1 a2 a3 a4 a5 a6 a7=some r) {p0:Nat} {b5:Option Nat} {c6 n7:Nat} {b10:Option Nat} {c11 n12:Nat} {b15:Option Nat} {c16 n17:Nat} {g20:List sE} {N21:Nat} (q8:a4.length=n7) (q13:a5.length=n12) (q18:a6.length=n17) (q22:a7.length=N21) (q23:d7 g20 a7) (q24:∀k∈a4,k<N21):CtO Tryz.prog 116 ([⟨some p0,1,123,6,1,([pI .i64 a1]++[pI .i64 a2]++[pI .i64 a3]++[pO b5 n7 c6]++[pO b10 n12 c11]++[pO b15 n17 c16])⟩,hO (cH g20) b5 c6 24 n7 a4,hO cQ b10 c11 42 n12 a5,hO cI b15 c16 3 n17 a6]++gD cQ 42 g20 a7) [.vc (pP (some p0) 0),.vc (pI .i64 a0)] (fun Ho q=>∃b1136 c1137 n1138 g1145 N1146,r.1.length=n1138∧r.2.1.length=n12∧r.2.2.1.length=n17∧r.2.2.2.length=N1146∧d7 g1145 r.2.2.2∧(∀k∈r.1,k<N1146)∧Ho=([⟨some p0,1,123,6,1,([pI .i64 a1]++[pI .i64 a2]++[pI .i64 a3]++[pO b1136 n1138 c1137]++[pO b10 n12 c11]++[pO b15 n17 c16])⟩,hO (cH g1145) b1136 c1137 24 n1138 r.1,hO cQ b10 c11 42 n12 r.2.1,hO cI b15 c16 3 n17 r.2.2.1]++gD cQ 42 g1145 r.2.2.2)∧q=.any):=by
 unfold rC at hF
 refine aA Tryz.func116 rfl (by kernel_rfl) Tryz.ntmps116 rfl (fun w0 M0=>?_)
 refine go ?_ ?_
 refine aI (aY (fun H E=>∃(x76:List Nat),∃(x82:List Rat),∃(x88:List Int),∃(x94:List (List Rat)),∃(b77:Option Nat),∃(c78:Nat),∃(n79:Nat),∃(g95:List sE),∃(N96:Nat),nJ K x76 x82 x88 x94=some r∧x76.length=n79∧x82.length=n12∧x88.length=n17∧x94.length=N96∧d7 g95 x94∧(∀k∈x76,k<N96)∧H=([⟨some p0,1,123,6,1,([pI .i64 a1]++[pI .i64 a2]++[pI .i64 a3]++[pO b77 n79 c78]++[pO b10 n12 c11]++[pO b15 n17 c16])⟩,hO (cH g95) b77 c78 24 n79 x76,hO cQ b10 c11 42 n12 x82,hO cI b15 c16 3 n17 x88]++gD cQ 42 g95 x94)∧E=[]) ?_ (fun Jj101=>?_))
 ·rintro _ _ ⟨x76,x82,x88,x94,b77,c78,n79,g95,N96,hF,q80,q86,q92,q97,q98,q99,rfl,rfl⟩
  unfold nJ at hF
  obtain rfl:=iR hF
  exact kC (.inr rfl) Tryz.results116 .nil rfl 4 [0,1,2,3] rfl rfl (by decide) ⟨b77,c78,n79,g95,N96,q80,q86,q92,q97,q98,q99,rfl,rfl⟩
 obtain⟨⟨x76',x82',x88',x94'⟩,hL,hRl100⟩:=aO hF
 refine dW (fun k a w=>∃(x51:List Nat),∃(x57:List Rat),∃(x63:List Int),∃(x69:List (List Rat)),∃(x75:Int),∃(b52:Option Nat),∃(c53:Nat),∃(n54:Nat),∃(g70:List sE),∃(N71:Nat),fB K a0 a1 a2 a3 a6 k x51 x57 x63 x69 x75=some (x76',x82',x88',x94')∧x51.length=n54∧x57.length=n12∧x63.length=n17∧x69.length=N71∧d7 g70 x69∧(∀k∈x51,k<N71)∧hs _ ([⟨some p0,1,123,6,1,([pI .i64 a1]++[pI .i64 a2]++[pI .i64 a3]++[pO b52 n54 c53]++[pO b10 n12 c11]++[pO b15 n17 c16])⟩,hO (cH g70) b52 c53 24 n54 x51,hO cQ b10 c11 42 n12 x57,hO cI b15 c16 3 n17 x63]++gD cQ 42 g70 x69) [(0,.vc (pP (some p0) 0)),(1,.vc (pI .i64 a0)),(10,.vc (pO b15 n17 c16)),(11,.vc (pI .i64 (a6.length:Int))),(12,.vc (pI .i64 x75))] a w) K (fun a w ⟨_,_,_,_,_,_,_,_,_,_,hF,_,_,_,_,_,_,_⟩=>by cases hF) (fun k a w ⟨x51,x57,x63,x69,x75,b52,c53,n54,g70,N71,hF,q55,q61,q67,q72,q73,q74,hh⟩=>dV ?_ hh) (fun a w hh=>⟨a4,a5,a6,a7,0,b5,c6,n7,g20,N21,hL,q8,q13,q18,q22,q23,q24,aV 4 [0,1,2,3] rfl rfl (by decide) (by exact⟨rfl,rfl,rfl,rfl,rfl,trivial⟩) hh⟩)
 rw [fB.eq_2] at hF
 refine go ?_ ?_
 refine aC hF rfl (fun h102 hF=>?_) (fun h102 hF=>?_)
 ·refine go ?_ ?_
  refine aI ?_
  obtain⟨v103,h104,hF⟩:=aO hF
  refine go ?_ ?_
  refine aC hF rfl (fun h105 hF=>?_) (fun h105 hF=>?_)
  ·refine bI ?_
   obtain⟨v106,h107,hF⟩:=aO hF
   refine go ?_ ?_
   exact aF (fun a w hh=>⟨x51,x57,x63,x69,v106,b52,c53,n54,g70,N71,hF,q55,q61,q67,q72,q73,q74,aV 4 [0,1,2,3] rfl rfl (by decide) (by exact⟨rfl,rfl,rfl,rfl,rfl,trivial⟩) hh⟩)
  obtain⟨v108,h109,x110,h111,hF⟩:=tY hF
  refine go ?_ ?_
  refine aH (aPL (i:=(4+v108)) rfl tyS24 (s9 4 rfl q73 q72 (q74 _ (aT h109))) rfl rfl rfl (xZ h111).2.2.1 (aMU h111 (fQ q73 q72 (q74 _ (aT h109))))) zU2 ?_
  obtain⟨v112,h113,hF⟩:=aX hF aAn
  refine aH (aGh (pre':=[.vc (pK (pO (jB g70 v108).1 (jB g70 v108).2.1 (jB g70 v108).2.2) a0.toNat cQ.n),.vc (pFn Tryz.prog (fun x:Rat=>[.va (eQ x)]) (fun r:Bool=>.vc (pB r)) (lK))]) rfl h113 rfl (aMs (aKs (C:=cQ) (4+v108) (s9 4 rfl q73 q72 (q74 _ (aT h109))) (fQ q73 q72 (q74 _ (aT h109))) h111) ⟨.inr ⟨rfl,rfl⟩,.inl rfl,trivial⟩) (fun _ _ _ h=>h)) ⟨rfl,(aQn (P:=Tryz.prog) (φ:=(lK)) (pre:=fun x:Rat=>[.va (eQ x)]) (post:=fun r:Bool=>.vc (pB r)) (fun x r h=>zZ h)),trivial⟩ ?_
  refine go ?_ ?_
  refine aC hF rfl (fun h114 hF=>?_) (fun h114 hF=>?_)
  ·obtain⟨v115,h116,hF⟩:=aO hF
   refine go ?_ ?_
   refine m6 4 [0,1,2,3] [] rfl (uA h116 q55 q61 q67 q72 q73 q74) ⟨rfl,rfl,rfl,trivial⟩ rfl rfl rfl (by decide) ?_
   rintro _ _ ⟨b117,c118,n119,g126,N127,q120,q122,q124,q128,q129,q130,rfl,rfl⟩
   refine lQ (jV [⟨some p0,1,123,6,1,([pI .i64 a1]++[pI .i64 a2]++[pI .i64 a3]++[pO b117 n119 c118]++[pO b10 n12 c11]++[pO b15 n17 c16])⟩,hO (cH g126) b117 c118 24 n119 v115.1,hO cQ b10 c11 42 n12 v115.2.1,hO cI b15 c16 3 n17 v115.2.2.1] (gD cQ 42 g126 v115.2.2.2) []) ?_
   obtain⟨v132,h133,hF⟩:=aO hF
   refine go ?_ ?_
   exact aF (fun a w hh=>⟨v115.1,v115.2.1,v115.2.2.1,v115.2.2.2,v132,b117,c118,n119,g126,N127,hF,q120,q122,q124,q128,q129,q130,aV 4 [0,1,2,3] rfl rfl (by decide) (by exact⟨rfl,rfl,rfl,rfl,rfl,trivial⟩) hh⟩)
  obtain⟨v134,h135,hF⟩:=aO hF
  refine go ?_ ?_
  exact aF (fun a w hh=>⟨x51,x57,x63,x69,v134,b52,c53,n54,g70,N71,hF,q55,q61,q67,q72,q73,q74,aV 4 [0,1,2,3] rfl rfl (by decide) (by exact⟨rfl,rfl,rfl,rfl,rfl,trivial⟩) hh⟩)
 refine bI ?_
 obtain⟨rfl,rfl,rfl,rfl⟩:=sm4 hF
 exact iE Jj101 ⟨x51,x57,x63,x69,b52,c53,n54,g70,N71,hRl100,q55,q61,q67,q72,q73,q74,rfl,rfl⟩ 4 [0,1,2,3] rfl rfl trivial
def sV (K:Nat) (a0:Int) (a1:Int) (a2:Int) (a3:Int) (a4:Int) (a5:List Nat) (a6:List Rat) (a7:List Int) (a8:List (List Rat)):Option Rat:=
 bif(a0==a1) then((qof 1 1).bind fun v28=>some v28) else((sH K a7 a0).bind fun v30=>bif(decide (0≤v30)) then((bO a5 v30).bind fun v33=>(bO (a8.getD v33 []) a1).bind fun v35=>(aCr v35).bind fun v37=>some v37) else(some 0))
theorem zO {K:Nat} {a0:Int} {a1:Int} {a2:Int} {a3:Int} {a4:Int} {a5:List Nat} {a6:List Rat} {a7:List Int} {a8:List (List Rat)} {r:Rat} (hF:sV K a0 a1 a2 a3 a4 a5 a6 a7 a8=some r) {p0:Nat} {b5:Option Nat} {c6 n7:Nat} {b10:Option Nat} {c11 n12:Nat} {b15:Option Nat} {c16 n17:Nat} {g20:List sE} {N21:Nat} (q8:a5.length=n7) (q13:a6.length=n12) (q18:a7.length=n17) (q22:a8.length=N21) (q23:d7 g20 a8) (q24:∀k∈a5,k<N21):CtO Tryz.prog 120 ([⟨some p0,1,123,6,1,([pI .i64 a2]++[pI .i64 a3]++[pI .i64 a4]++[pO b5 n7 c6]++[pO b10 n12 c11]++[pO b15 n17 c16])⟩,hO (cH g20) b5 c6 24 n7 a5,hO cQ b10 c11 42 n12 a6,hO cI b15 c16 3 n17 a7]++gD cQ 42 g20 a8) [.vc (pP (some p0) 0),.vc (pI .i64 a0),.vc (pI .i64 a1)] (fun Ho q=>Ho=([⟨some p0,1,123,6,1,([pI .i64 a2]++[pI .i64 a3]++[pI .i64 a4]++[pO b5 n7 c6]++[pO b10 n12 c11]++[pO b15 n17 c16])⟩,hO (cH g20) b5 c6 24 n7 a5,hO cQ b10 c11 42 n12 a6,hO cI b15 c16 3 n17 a7]++gD cQ 42 g20 a8)∧q=.va (eQ r)):=by
 unfold sV at hF
 refine aA Tryz.func120 rfl (by kernel_rfl) Tryz.ntmps120 rfl (fun w0 M0=>?_)
 refine aD (aK (aL rfl tyZ42q (fun b26=>?_)))
 refine go ?_ ?_
 refine aC hF rfl (fun h27 hF=>?_) (fun h27 hF=>?_)
 ·obtain⟨v28,h29,hF⟩:=aX hF tE
  refine go ?_ ?_
  refine fX (fY ?_)
  obtain rfl:=iR hF
  exact kC (.inl rfl) Tryz.results120 (vP 0 4 rfl rfl rfl rfl (.agg tyA42) .nil) rfl 5 [1,2,3,4] rfl rfl (by decide) ⟨rfl,rfl⟩
 obtain⟨v30,h31,hF⟩:=aX hF xG
 refine go ?_ ?_
 refine aH (aGh (pre':=[.vc (pO b15 n17 c16),.vc (pI .i64 a0)]) rfl h31 rfl (aMs (aEz (C:=cI) 4 rfl q18) ⟨.inr ⟨rfl,rfl⟩,.inl rfl,trivial⟩) (fun _ _ _ h=>h)) zU2 ?_
 refine go ?_ ?_
 refine aC hF rfl (fun h32 hF=>?_) (fun h32 hF=>?_)
 ·obtain⟨v33,h34,v35,h36,hF⟩:=tY hF
  refine go ?_ ?_
  refine aH (gN (5+v33) rfl tyS24 (s9 5 rfl q23 q22 (q24 _ (aT h34))) (fQ q23 q22 (q24 _ (aT h34))) (aG h36).1 (aG h36).2.1) zU2 ?_
  refine aH (lZ (k:=4) (5+v33) rfl (s9 5 rfl q23 q22 (q24 _ (aT h34))) h36 rfl (.agg tyA42) rfl) zU1 ?_
  obtain⟨v37,h38,hF⟩:=aX hF wJ
  refine go ?_ ?_
  refine fX (fY ?_)
  obtain rfl:=iR hF
  exact kC (.inl rfl) Tryz.results120 (vP 0 4 rfl rfl rfl rfl (.agg tyA42) .nil) rfl 5 [1,2,3,4] rfl rfl (by decide) ⟨rfl,rfl⟩
 refine go ?_ ?_
 refine aH (fG (is:=[]) (xs:=[]) (ps:=[]) rfl tyB42q rfl rfl trivial rfl) trivial ?_
 refine go ?_ ?_
 refine fX (fY ?_)
 obtain rfl:=iR hF
 exact kC (.inl rfl) Tryz.results120 (vP 0 4 rfl rfl rfl rfl (.agg tyA42) .nil) rfl 5 [1,2,3,4] rfl rfl (by decide) ⟨rfl,rfl⟩
def qL (K:Nat) (a0:Int) (a1:Int) (a2:Int) (a3:Int) (a4:Int) (a5:List Nat) (a6:List Rat) (a7:List Int) (a8:List (List Rat)):Option Rat:=
 (sV K a0 a1 a2 a3 a4 a5 a6 a7 a8).bind fun v27=>some v27
theorem vO {K:Nat} {a0:Int} {a1:Int} {a2:Int} {a3:Int} {a4:Int} {a5:List Nat} {a6:List Rat} {a7:List Int} {a8:List (List Rat)} {r:Rat} (hF:qL K a0 a1 a2 a3 a4 a5 a6 a7 a8=some r) {p0:Nat} {p1:Nat} {p2:Nat} {b5:Option Nat} {c6 n7:Nat} {b10:Option Nat} {c11 n12:Nat} {b15:Option Nat} {c16 n17:Nat} {g20:List sE} {N21:Nat} (q8:a5.length=n7) (q13:a6.length=n12) (q18:a7.length=n17) (q22:a8.length=N21) (q23:d7 g20 a8) (q24:∀k∈a5,k<N21):CtO Tryz.prog 119 ([⟨some p0,1,120,1,1,[pP (some p2) 0]⟩,⟨some p1,1,3,1,1,[pI .i64 a1]⟩,⟨some p2,1,123,6,1,([pI .i64 a2]++[pI .i64 a3]++[pI .i64 a4]++[pO b5 n7 c6]++[pO b10 n12 c11]++[pO b15 n17 c16])⟩,hO (cH g20) b5 c6 24 n7 a5,hO cQ b10 c11 42 n12 a6,hO cI b15 c16 3 n17 a7]++gD cQ 42 g20 a8) [.vc (pI .i64 a0),.vc (pP (some p0) 0),.vc (pP (some p1) 0)] (fun Ho q=>Ho=([⟨some p0,1,120,1,1,[pP (some p2) 0]⟩,⟨some p1,1,3,1,1,[pI .i64 a1]⟩,⟨some p2,1,123,6,1,([pI .i64 a2]++[pI .i64 a3]++[pI .i64 a4]++[pO b5 n7 c6]++[pO b10 n12 c11]++[pO b15 n17 c16])⟩,hO (cH g20) b5 c6 24 n7 a5,hO cQ b10 c11 42 n12 a6,hO cI b15 c16 3 n17 a7]++gD cQ 42 g20 a8)∧q=.va (eQ r)):=by
 unfold qL at hF
 refine aA Tryz.func119 rfl (by kernel_rfl) Tryz.ntmps119 rfl (fun w0 M0=>?_)
 refine aD (aK (aL rfl tyZ42q (fun b26=>?_)))
 obtain⟨v27,h28,hF⟩:=aO hF
 refine go ?_ ?_
 refine m6 7 [3,4,5,6] [0,1,2] rfl (zO h28 q8 q13 q18 q22 q23 q24) ⟨rfl,rfl,rfl,trivial⟩ rfl rfl rfl (by decide) ?_
 rintro _ _ ⟨rfl,rfl⟩
 refine lQ (jV [⟨some p2,1,123,6,1,([pI .i64 a2]++[pI .i64 a3]++[pI .i64 a4]++[pO b5 n7 c6]++[pO b10 n12 c11]++[pO b15 n17 c16])⟩,hO (cH g20) b5 c6 24 n7 a5,hO cQ b10 c11 42 n12 a6,hO cI b15 c16 3 n17 a7] (gD cQ 42 g20 a8) [⟨some b26,1,42,4,1,(eQ 0)⟩,⟨some p0,1,120,1,1,[pP (some p2) 0]⟩,⟨some p1,1,3,1,1,[pI .i64 a1]⟩]) ?_
 refine go ?_ ?_
 refine fX (fY ?_)
 obtain rfl:=iR hF
 exact kC (.inl rfl) Tryz.results119 (vP 4 4 rfl rfl rfl rfl (.agg tyA42) .nil) rfl 7 [5,6,0,1,2,3] rfl rfl (by decide) ⟨rfl,rfl⟩
def oG (K:Nat) (x45:List Rat):Option (List Rat):=
 some x45
def k7 (K:Nat) (a0:Int) (a1:Int) (a2:Int) (a3:Int) (a4:List Nat) (a5:List Rat) (a6:List Int) (a7:List (List Rat)) (x26:List Rat):Nat→(List Rat)→Int→Option (List Rat)
 |0,_,_=>none
 |k+1,x38,x44=>bif(decide (x44<(x26.length:Int))) then((qL K x44 a3 a0 a1 a2 a4 a5 a6 a7).bind fun v56=>(aR (a0+x44)).bind fun v58=>(qL K v58 a3 a0 a1 a2 a4 a5 a6 a7).bind fun v60=>(aFk v56 v60).bind fun v62=>(bO x38 x44).bind fun v64=>(pA x38 x44 v62).bind fun x66=>(aR (x44+1)).bind fun v69=>k7 K a0 a1 a2 a3 a4 a5 a6 a7 x26 k x66 v69) else(some x38)
def rG (K:Nat) (a0:Int) (a1:Int) (a2:Int) (a3:Int) (a4:List Nat) (a5:List Rat) (a6:List Int) (a7:List (List Rat)):Option (List Rat):=
 (y4 a0 0).bind fun x26=>(k7 K a0 a1 a2 a3 a4 a5 a6 a7 x26 K x26 0).bind fun x45=>oG K x45
theorem y0 {K:Nat} {a0:Int} {a1:Int} {a2:Int} {a3:Int} {a4:List Nat} {a5:List Rat} {a6:List Int} {a7:List (List Rat)} {r:List Rat} (hF:rG K a0 a1 a2 a3 a4 a5 a6 a7=some r) {p0:Nat} {p1:Nat} {p2:Nat} {b5:Option Nat} {c6 n7:Nat} {b10:Option Nat} {c11 n12:Nat} {b15:Option Nat} {c16 n17:Nat} {g20:List sE} {N21:Nat} (q8:a4.length=n7) (q13:a5.length=n12) (q18:a6.length=n17) (q22:a7.length=N21) (q23:d7 g20 a7) (q24:∀k∈a4,k<N21):CtO Tryz.prog 118 ([⟨some p0,1,123,6,1,([pI .i64 a0]++[pI .i64 a1]++[pI .i64 a2]++[pO b5 n7 c6]++[pO b10 n12 c11]++[pO b15 n17 c16])⟩,⟨some p1,1,120,1,1,[pP (some p0) 0]⟩,⟨some p2,1,3,1,1,[pI .i64 a3]⟩,hO (cH g20) b5 c6 24 n7 a4,hO cQ b10 c11 42 n12 a5,hO cI b15 c16 3 n17 a6]++gD cQ 42 g20 a7) [.vc (pP (some p0) 0),.vc (pF 119 [pP (some p1) 0,pP (some p2) 0])] (fun Ho q=>Ho=([⟨some p0,1,123,6,1,([pI .i64 a0]++[pI .i64 a1]++[pI .i64 a2]++[pO b5 n7 c6]++[pO b10 n12 c11]++[pO b15 n17 c16])⟩,⟨some p1,1,120,1,1,[pP (some p0) 0]⟩,⟨some p2,1,3,1,1,[pI .i64 a3]⟩,hO (cH g20) b5 c6 24 n7 a4,hO cQ b10 c11 42 n12 a5,hO cI b15 c16 3 n17 a6]++gD cQ 42 g20 a7)∧q=.vc (pS cQ r)):=by
 unfold rG at hF
 refine aA Tryz.func118 rfl (by kernel_rfl) Tryz.ntmps118 rfl (fun w0 M0=>?_)
 refine aD (aK (aH (aM (.inr rfl)) ⟨eM cQ,trivial⟩ ?_))
 obtain⟨x26,h27,hF⟩:=aO hF
 refine go ?_ ?_
 refine qG (C:=cQ) rfl tyS24 rfl tyZ42q rfl h27 (fun b28=>?_)
 refine go ?_ ?_
 refine aI (aY (fun H E=>∃(x45:List Rat),oG K x45=some r∧x45.length=x26.length∧H=([hO cQ b28 x26.length 42 x26.length x45,⟨some p0,1,123,6,1,([pI .i64 a0]++[pI .i64 a1]++[pI .i64 a2]++[pO b5 n7 c6]++[pO b10 n12 c11]++[pO b15 n17 c16])⟩,⟨some p1,1,120,1,1,[pP (some p0) 0]⟩,⟨some p2,1,3,1,1,[pI .i64 a3]⟩,hO (cH g20) b5 c6 24 n7 a4,hO cQ b10 c11 42 n12 a5,hO cI b15 c16 3 n17 a6]++gD cQ 42 g20 a7)∧E=[(5,.vc (pO b28 x26.length x26.length))]) ?_ (fun Jj52=>?_))
 ·rintro _ _ ⟨x45,hF,q49,rfl,rfl⟩
  unfold oG at hF
  refine go ?_ ?_
  refine fX (fY (mL 0 [4,5,33] rfl q49 ⟨rfl,rfl,rfl,trivial⟩ rfl ?_))
  obtain rfl:=iR hF
  exact kC (.inl rfl) Tryz.results118 (.tmp rfl .nil) rfl 6 [0,1,2,3,4,5] rfl rfl (by decide) ⟨rfl,rfl⟩
 obtain⟨x45',hL,hRl51⟩:=aO hF
 refine dW (fun k a w=>∃(x38:List Rat),∃(x44:Int),k7 K a0 a1 a2 a3 a4 a5 a6 a7 x26 k x38 x44=some x45'∧x38.length=x26.length∧hs _ ([hO cQ b28 x26.length 42 x26.length x38,⟨some p0,1,123,6,1,([pI .i64 a0]++[pI .i64 a1]++[pI .i64 a2]++[pO b5 n7 c6]++[pO b10 n12 c11]++[pO b15 n17 c16])⟩,⟨some p1,1,120,1,1,[pP (some p0) 0]⟩,⟨some p2,1,3,1,1,[pI .i64 a3]⟩,hO (cH g20) b5 c6 24 n7 a4,hO cQ b10 c11 42 n12 a5,hO cI b15 c16 3 n17 a6]++gD cQ 42 g20 a7) [(0,.vc (pP (some p0) 0)),(1,.vc (pF 119 [pP (some p1) 0,pP (some p2) 0])),(5,.vc (pO b28 x26.length x26.length)),(13,.vc (pI .i64 (x26.length:Int))),(14,.vc (pI .i64 x44))] a w) K (fun a w ⟨_,_,hF,_,_⟩=>by cases hF) (fun k a w ⟨x38,x44,hF,q42,hh⟩=>dV ?_ hh) (fun a w hh=>⟨x26,0,hL,rfl,aV 7 [0,1,2,3,4,5,6] rfl rfl (by decide) (by exact⟨rfl,rfl,rfl,rfl,rfl,trivial⟩) hh⟩)
 rw [k7.eq_2] at hF
 refine go ?_ ?_
 refine aC hF rfl (fun h53 hF=>?_) (fun h53 hF=>?_)
 ·refine go ?_ ?_
  refine aI ?_
  obtain⟨v56,h57,v58,h59,v60,h61,hF⟩:=bn3 hF
  obtain⟨v62,h63,hF⟩:=aX hF yS
  obtain⟨v64,h65,hF⟩:=aO hF
  refine go ?_ ?_
  refine iG [0,0,0,0,12,0,0,64,192,448,0,1984,4092,8188,16383,32767] 15 1 [.v (.vc (pO b28 x26.length x26.length)),.v (.vc (pI .i64 x44)),.v (.vc (pF 119 [pP (some p1) 0,pP (some p2) 0])),.v (.vc (pI .i64 x44)),.v (.va (eQ v56)),.v (.vc (pF 119 [pP (some p1) 0,pP (some p2) 0])),.v (.vc (pP (some p0) 0)),.v (.vc (pP (some p0) 0)),.v (.vc (pP (some p0) 0)),.v (.vc (pI .i64 a0)),.v (.vc (pI .i64 x44)),.v (.vc (pI .i64 v58)),.v (.va (eQ v60)),.v (.va (eQ v62)),.v (.vc (pE b28 x44 cQ.n 0))] aW ⟨d0 (aM (.inl rfl)) zU1,d0 (aM (.inl rfl)) zU1,d0 (aM (.inl rfl)) zU1,d0 (aM (.inl rfl)) zU1,d0 (aFU (f:=119) (cs:=[pP (some p1) 0,pP (some p2) 0]) (pre:=[.vc (pI .i64 x44)]) 7 [2,3,1,4,5,6] [0] [6,2,0,1,3,4,5] rfl (vO h57 q8 q13 q18 q22 q23 q24) rfl rfl rfl rfl (by decide) (by decide) rfl) zU2,d0 (aM (.inl rfl)) zU1,d0 (aM (.inl rfl)) zU1,d0 (qZ rfl) zU1,d0 (jW (off:=0) (k:=0) rfl tyF123_0) zU1,d0 (iD 1 1 rfl rfl rfl rfl (.one tyO3)) zU1,d0 (aM (.inl rfl)) zU1,d0 (yU rfl h59) zU2,d0 (aFU (f:=119) (cs:=[pP (some p1) 0,pP (some p2) 0]) (pre:=[.vc (pI .i64 v58)]) 7 [2,3,1,4,5,6] [0] [6,2,0,1,3,4,5] rfl (vO h61 q8 q13 q18 q22 q23 q24) rfl rfl rfl rfl (by decide) (by decide) rfl) zU2,d0 (bD rfl h63 rfl) zU2,d0 (gN (C:=cQ) 0 rfl tyS24 rfl q42 (aG h65).1 (aG h65).2.1) zU2,trivial⟩ (fun bs55 G54=>?_)
  obtain⟨x66,h67,v69,h70,hF⟩:=tY hF
  refine go ?_ ?_
  exact aF (fun a w hh=>⟨x66,v69,hF,(bE h67 q42),aV 7 [0,1,2,3,4,5,6] rfl rfl (by decide) (by exact⟨rfl,rfl,rfl,rfl,rfl,trivial⟩) hh⟩)
 refine bI ?_
 obtain rfl:=iR hF
 exact iE Jj52 ⟨x38,hRl51,q42,rfl,rfl⟩ 7 [0,1,2,3,4,5,6] rfl rfl zU1
def oV (K:Nat) (a0:Int) (a1:Int) (a2:Int) (a3:Int) (a4:List Nat) (a5:List Rat) (a6:List Int) (a7:List (List Rat)):Option Rat:=
 (sH K a6 a0).bind fun v27=>bif(decide (0≤v27)) then((bO a4 v27).bind fun v32=>(bO (a7.getD v32 []) a3).bind fun v34=>some v34) else(some 0)
theorem uS {K:Nat} {a0:Int} {a1:Int} {a2:Int} {a3:Int} {a4:List Nat} {a5:List Rat} {a6:List Int} {a7:List (List Rat)} {r:Rat} (hF:oV K a0 a1 a2 a3 a4 a5 a6 a7=some r) {p0:Nat} {b5:Option Nat} {c6 n7:Nat} {b10:Option Nat} {c11 n12:Nat} {b15:Option Nat} {c16 n17:Nat} {g20:List sE} {N21:Nat} (q8:a4.length=n7) (q13:a5.length=n12) (q18:a6.length=n17) (q22:a7.length=N21) (q23:d7 g20 a7) (q24:∀k∈a4,k<N21):CtO Tryz.prog 121 ([⟨some p0,1,123,6,1,([pI .i64 a1]++[pI .i64 a2]++[pI .i64 a3]++[pO b5 n7 c6]++[pO b10 n12 c11]++[pO b15 n17 c16])⟩,hO (cH g20) b5 c6 24 n7 a4,hO cQ b10 c11 42 n12 a5,hO cI b15 c16 3 n17 a6]++gD cQ 42 g20 a7) [.vc (pP (some p0) 0),.vc (pI .i64 a0)] (fun Ho q=>Ho=([⟨some p0,1,123,6,1,([pI .i64 a1]++[pI .i64 a2]++[pI .i64 a3]++[pO b5 n7 c6]++[pO b10 n12 c11]++[pO b15 n17 c16])⟩,hO (cH g20) b5 c6 24 n7 a4,hO cQ b10 c11 42 n12 a5,hO cI b15 c16 3 n17 a6]++gD cQ 42 g20 a7)∧q=.va (eQ r)):=by
 unfold oV at hF
 refine aA Tryz.func121 rfl (by kernel_rfl) Tryz.ntmps121 rfl (fun w0 M0=>?_)
 refine aD (aK (aL rfl tyZ42q (fun b26=>?_)))
 obtain⟨v27,h28,hF⟩:=aX hF xG
 refine go ?_ ?_
 refine aH (aGh (pre':=[.vc (pO b15 n17 c16),.vc (pI .i64 a0)]) rfl h28 rfl (aMs (aEz (C:=cI) 4 rfl q18) ⟨.inr ⟨rfl,rfl⟩,.inl rfl,trivial⟩) (fun _ _ _ h=>h)) zU2 ?_
 refine go ?_ ?_
 refine aC hF rfl (fun h29 hF=>?_) (fun h29 hF=>?_)
 ·refine aD ?_
  obtain⟨v32,h33,hF⟩:=aO hF
  obtain⟨v34,h35,hF⟩:=aO hF
  refine iG [0,1,3,7,0,31,63,0,128,384,896,2047,4095,8191] 13 1 [.v (.vc (pP (some p0) 0)),.v (.vc (pP (some p0) 0)),.v (.vc (pP (some p0) 3)),.v (.vc (pO b5 n7 c6)),.v (.vc (pI .i64 v27)),.v (.vc (pE b5 v27 (cH g20).n 0)),.v (.vc (pO (jB g20 v32).1 (jB g20 v32).2.1 (jB g20 v32).2.2)),.v (.vc (pP (some p0) 0)),.v (.vc (pP (some p0) 0)),.v (.vc (pP (some p0) 2)),.v (.vc (pI .i64 a3)),.v (.vc (pE (jB g20 v32).1 a3 cQ.n 0)),.v (.va (eQ v34))] aW ⟨d0 (aM (.inl rfl)) zU1,d0 (qZ rfl) zU1,d0 (jW (off:=0) (k:=3) rfl tyF123_3) zU1,d0 (iD 1 1 rfl rfl rfl rfl (.one tyO23)) zU1,d0 (aM (.inl rfl)) zU1,d0 (gN (C:=(cH g20)) 2 rfl tyS23 rfl q8 (aG h33).1 (aG h33).2.1) zU2,d0 (lZ (C:=(cH g20)) (k:=1) 2 rfl rfl h33 rfl (.one tyO24) rfl) zU1,d0 (aM (.inl rfl)) zU1,d0 (qZ rfl) zU1,d0 (jW (off:=0) (k:=2) rfl tyF123_2) zU1,d0 (iD 1 1 rfl rfl rfl rfl (.one tyO3)) zU1,d0 (gN (5+v32) rfl tyS24 (kX 5 rfl q23 q22 (q24 _ (aT h33))) (fQ q23 q22 (q24 _ (aT h33))) (aG h35).1 (aG h35).2.1) zU2,d0 (lZ (k:=4) (5+v32) rfl (kX 5 rfl q23 q22 (q24 _ (aT h33))) h35 rfl (.agg tyA42) rfl) zU1,trivial⟩ (fun bs31 G30=>?_)
  refine go ?_ ?_
  refine fX (fY ?_)
  obtain rfl:=iR hF
  exact kC (.inl rfl) Tryz.results121 (vP 0 4 rfl rfl rfl rfl (.agg tyA42) .nil) rfl 5 [1,2,3,4] rfl rfl (by decide) ⟨rfl,rfl⟩
 refine go ?_ ?_
 refine aH (fG (is:=[]) (xs:=[]) (ps:=[]) rfl tyB42q rfl rfl trivial rfl) trivial ?_
 refine go ?_ ?_
 refine fX (fY ?_)
 obtain rfl:=iR hF
 exact kC (.inl rfl) Tryz.results121 (vP 0 4 rfl rfl rfl rfl (.agg tyA42) .nil) rfl 5 [1,2,3,4] rfl rfl (by decide) ⟨rfl,rfl⟩
def oE (K:Nat) (x45:List Rat):Option (List Rat):=
 some x45
def k8 (K:Nat) (a0:Int) (a1:Int) (a2:Int) (a3:List Nat) (a4:List Rat) (a5:List Int) (a6:List (List Rat)) (x26:List Rat):Nat→(List Rat)→Int→Option (List Rat)
 |0,_,_=>none
 |k+1,x38,x44=>bif(decide (x44<(x26.length:Int))) then((oV K x44 a0 a1 a2 a3 a4 a5 a6).bind fun v56=>(aR (a0+x44)).bind fun v58=>(oV K v58 a0 a1 a2 a3 a4 a5 a6).bind fun v60=>(aFk v56 v60).bind fun v62=>(bO x38 x44).bind fun v64=>(pA x38 x44 v62).bind fun x66=>(aR (x44+1)).bind fun v69=>k8 K a0 a1 a2 a3 a4 a5 a6 x26 k x66 v69) else(some x38)
def nE (K:Nat) (a0:Int) (a1:Int) (a2:Int) (a3:List Nat) (a4:List Rat) (a5:List Int) (a6:List (List Rat)):Option (List Rat):=
 (y4 a0 0).bind fun x26=>(k8 K a0 a1 a2 a3 a4 a5 a6 x26 K x26 0).bind fun x45=>oE K x45
theorem t0 {K:Nat} {a0:Int} {a1:Int} {a2:Int} {a3:List Nat} {a4:List Rat} {a5:List Int} {a6:List (List Rat)} {r:List Rat} (hF:nE K a0 a1 a2 a3 a4 a5 a6=some r) {p0:Nat} {b5:Option Nat} {c6 n7:Nat} {b10:Option Nat} {c11 n12:Nat} {b15:Option Nat} {c16 n17:Nat} {g20:List sE} {N21:Nat} (q8:a3.length=n7) (q13:a4.length=n12) (q18:a5.length=n17) (q22:a6.length=N21) (q23:d7 g20 a6) (q24:∀k∈a3,k<N21):CtO Tryz.prog 118 ([⟨some p0,1,123,6,1,([pI .i64 a0]++[pI .i64 a1]++[pI .i64 a2]++[pO b5 n7 c6]++[pO b10 n12 c11]++[pO b15 n17 c16])⟩,hO (cH g20) b5 c6 24 n7 a3,hO cQ b10 c11 42 n12 a4,hO cI b15 c16 3 n17 a5]++gD cQ 42 g20 a6) [.vc (pP (some p0) 0),.vc (pFB 121 [pP (some p0) 0] [])] (fun Ho q=>Ho=([⟨some p0,1,123,6,1,([pI .i64 a0]++[pI .i64 a1]++[pI .i64 a2]++[pO b5 n7 c6]++[pO b10 n12 c11]++[pO b15 n17 c16])⟩,hO (cH g20) b5 c6 24 n7 a3,hO cQ b10 c11 42 n12 a4,hO cI b15 c16 3 n17 a5]++gD cQ 42 g20 a6)∧q=.vc (pS cQ r)):=by
 unfold nE at hF
 refine aA Tryz.func118 rfl (by kernel_rfl) Tryz.ntmps118 rfl (fun w0 M0=>?_)
 refine aD (aK (aH (aM (.inr rfl)) ⟨eM cQ,trivial⟩ ?_))
 obtain⟨x26,h27,hF⟩:=aO hF
 refine go ?_ ?_
 refine qG (C:=cQ) rfl tyS24 rfl tyZ42q rfl h27 (fun b28=>?_)
 refine go ?_ ?_
 refine aI (aY (fun H E=>∃(x45:List Rat),oE K x45=some r∧x45.length=x26.length∧H=([hO cQ b28 x26.length 42 x26.length x45,⟨some p0,1,123,6,1,([pI .i64 a0]++[pI .i64 a1]++[pI .i64 a2]++[pO b5 n7 c6]++[pO b10 n12 c11]++[pO b15 n17 c16])⟩,hO (cH g20) b5 c6 24 n7 a3,hO cQ b10 c11 42 n12 a4,hO cI b15 c16 3 n17 a5]++gD cQ 42 g20 a6)∧E=[(5,.vc (pO b28 x26.length x26.length))]) ?_ (fun Jj52=>?_))
 ·rintro _ _ ⟨x45,hF,q49,rfl,rfl⟩
  unfold oE at hF
  refine go ?_ ?_
  refine fX (fY (mL 0 [4,5,33] rfl q49 ⟨rfl,rfl,rfl,trivial⟩ rfl ?_))
  obtain rfl:=iR hF
  exact kC (.inl rfl) Tryz.results118 (.tmp rfl .nil) rfl 4 [0,1,2,3] rfl rfl (by decide) ⟨rfl,rfl⟩
 obtain⟨x45',hL,hRl51⟩:=aO hF
 refine dW (fun k a w=>∃(x38:List Rat),∃(x44:Int),k8 K a0 a1 a2 a3 a4 a5 a6 x26 k x38 x44=some x45'∧x38.length=x26.length∧hs _ ([hO cQ b28 x26.length 42 x26.length x38,⟨some p0,1,123,6,1,([pI .i64 a0]++[pI .i64 a1]++[pI .i64 a2]++[pO b5 n7 c6]++[pO b10 n12 c11]++[pO b15 n17 c16])⟩,hO (cH g20) b5 c6 24 n7 a3,hO cQ b10 c11 42 n12 a4,hO cI b15 c16 3 n17 a5]++gD cQ 42 g20 a6) [(0,.vc (pP (some p0) 0)),(1,.vc (pFB 121 [pP (some p0) 0] [])),(5,.vc (pO b28 x26.length x26.length)),(13,.vc (pI .i64 (x26.length:Int))),(14,.vc (pI .i64 x44))] a w) K (fun a w ⟨_,_,hF,_,_⟩=>by cases hF) (fun k a w ⟨x38,x44,hF,q42,hh⟩=>dV ?_ hh) (fun a w hh=>⟨x26,0,hL,rfl,aV 5 [0,1,2,3,4] rfl rfl (by decide) (by exact⟨rfl,rfl,rfl,rfl,rfl,trivial⟩) hh⟩)
 rw [k8.eq_2] at hF
 refine go ?_ ?_
 refine aC hF rfl (fun h53 hF=>?_) (fun h53 hF=>?_)
 ·refine go ?_ ?_
  refine aI ?_
  obtain⟨v56,h57,v58,h59,v60,h61,hF⟩:=bn3 hF
  obtain⟨v62,h63,hF⟩:=aX hF yS
  obtain⟨v64,h65,hF⟩:=aO hF
  refine go ?_ ?_
  refine iG [0,0,0,0,12,0,0,64,192,448,0,1984,4092,8188,16383,32767] 15 1 [.v (.vc (pO b28 x26.length x26.length)),.v (.vc (pI .i64 x44)),.v (.vc (pFB 121 [pP (some p0) 0] [])),.v (.vc (pI .i64 x44)),.v (.va (eQ v56)),.v (.vc (pFB 121 [pP (some p0) 0] [])),.v (.vc (pP (some p0) 0)),.v (.vc (pP (some p0) 0)),.v (.vc (pP (some p0) 0)),.v (.vc (pI .i64 a0)),.v (.vc (pI .i64 x44)),.v (.vc (pI .i64 v58)),.v (.va (eQ v60)),.v (.va (eQ v62)),.v (.vc (pE b28 x44 cQ.n 0))] aW ⟨d0 (aM (.inl rfl)) zU1,d0 (aM (.inl rfl)) zU1,d0 (aM (.inl rfl)) zU1,d0 (aM (.inl rfl)) zU1,d0 (aEQ (f:=121) (bs:=[pP (some p0) 0]) (cs:=[]) (pre:=[.vc (pI .i64 x44)]) 5 [1,2,3,4] [0] [4,0,1,2,3] rfl (uS h57 q8 q13 q18 q22 q23 q24) rfl rfl rfl rfl (by decide) (by decide) rfl) zU2,d0 (aM (.inl rfl)) zU1,d0 (aM (.inl rfl)) zU1,d0 (qZ rfl) zU1,d0 (jW (off:=0) (k:=0) rfl tyF123_0) zU1,d0 (iD 1 1 rfl rfl rfl rfl (.one tyO3)) zU1,d0 (aM (.inl rfl)) zU1,d0 (yU rfl h59) zU2,d0 (aEQ (f:=121) (bs:=[pP (some p0) 0]) (cs:=[]) (pre:=[.vc (pI .i64 v58)]) 5 [1,2,3,4] [0] [4,0,1,2,3] rfl (uS h61 q8 q13 q18 q22 q23 q24) rfl rfl rfl rfl (by decide) (by decide) rfl) zU2,d0 (bD rfl h63 rfl) zU2,d0 (gN (C:=cQ) 0 rfl tyS24 rfl q42 (aG h65).1 (aG h65).2.1) zU2,trivial⟩ (fun bs55 G54=>?_)
  obtain⟨x66,h67,v69,h70,hF⟩:=tY hF
  refine go ?_ ?_
  exact aF (fun a w hh=>⟨x66,v69,hF,(bE h67 q42),aV 5 [0,1,2,3,4] rfl rfl (by decide) (by exact⟨rfl,rfl,rfl,rfl,rfl,trivial⟩) hh⟩)
 refine bI ?_
 obtain rfl:=iR hF
 exact iE Jj52 ⟨x38,hRl51,q42,rfl,rfl⟩ 5 [0,1,2,3,4] rfl rfl zU1
def qH (a0:Int) (a1:Int) (a2:Int) (a3:List Rat) (a4:List Nat) (a5:List Int) (a6:List (List Rat)):Option (List Rat):=
 (aR (2*a0)).bind fun v22=>(aR (2*a0)).bind fun v24=>(aR (v24+a1)).bind fun v26=>(slL a3 v22 v26).bind fun x28=>(pG x28).bind fun v30=>some v30
theorem xR {a0:Int} {a1:Int} {a2:Int} {a3:List Rat} {a4:List Nat} {a5:List Int} {a6:List (List Rat)} {r:List Rat} (hF:qH a0 a1 a2 a3 a4 a5 a6=some r) {p0:Nat} {b4:Option Nat} {c5 n6:Nat} {b9:Option Nat} {c10 n11:Nat} {g14:List sE} {N15:Nat} (q7:a4.length=n6) (q12:a5.length=n11) (q16:a6.length=N15) (q17:d7 g14 a6) (q18:∀k∈a4,k<N15):CtO Tryz.prog 115 ([⟨some p0,1,123,6,1,([pI .i64 a0]++[pI .i64 a1]++[pI .i64 a2]++[pO b4 n6 c5]++[pS cQ a3]++[pO b9 n11 c10])⟩,hO (cH g14) b4 c5 24 n6 a4,hO cI b9 c10 3 n11 a5]++gD cQ 42 g14 a6) [.vc (pP (some p0) 0)] (fun Ho q=>Ho=([⟨some p0,1,123,6,1,([pI .i64 a0]++[pI .i64 a1]++[pI .i64 a2]++[pO b4 n6 c5]++[pS cQ a3]++[pO b9 n11 c10])⟩,hO (cH g14) b4 c5 24 n6 a4,hO cI b9 c10 3 n11 a5]++gD cQ 42 g14 a6)∧q=.vc (pS cQ r)):=by
 unfold qH at hF
 refine aA Tryz.func115 rfl (by kernel_rfl) Tryz.ntmps115 rfl (fun w0 M0=>?_)
 refine aD (aK (aH (aM (.inr rfl)) ⟨eM cQ,trivial⟩ ?_))
 obtain⟨v22,h23,hF⟩:=aO hF
 have hF:=qB h23 hF
 obtain⟨v26,h27,x28,h29,hF⟩:=tY hF
 obtain⟨v30,h31,hF⟩:=aX hF xK
 refine go ?_ ?_
 refine dr [0,1,3,7,0,16,48,112,240,0,512,1536,3584,7680,0,16384,49152,114688,261632,524287,1048575,2097151] 22 0 ?_ (fun bs21 G20=>?_)
 refine aU (aJ (fX (fY ?_)))
 obtain rfl:=iR hF
 exact kC (.inl rfl) Tryz.results115 (.tmp rfl .nil) rfl 3 [0,1,2] rfl rfl (by decide) ⟨rfl,rfl⟩
def xB (K:Nat) (a0:aS):Option (oI×Int):=
 (xF K a0).bind fun v3=>bif(v3 != 0) then(some ((⟨0,([]:List Rat),([]:List Rat),0⟩:oI),v3)) else((vX K a0).bind fun v6=>(aR (2*a0.vars)).bind fun v37=>(aR (v37+v6.2.1)).bind fun v39=>(mZ K (tW v39) v6.1 v6.2.1 v6.2.2.1 v6.2.2.2.1 v6.2.2.2.2.1 v6.2.2.2.2.2.1 v6.2.2.2.2.2.2).bind fun v41=>(oW K v6.2.2.1 v6.1 v6.2.1 v6.2.2.1 v6.2.2.2.1 v41 v6.2.2.2.2.2.1 v6.2.2.2.2.2.2).bind fun v51=>(bO v51.2.2.1 v6.2.2.1).bind fun v70=>(xD v70).bind fun v72=>bif(decide (v72<0)) then((qD v6.1 v6.2.1 v6.2.2.1 v51.2.1 v51.2.2.1 v51.2.2.2.1 v51.2.2.2.2).bind fun v75=>some ((⟨1,([]:List Rat),v75,0⟩:oI),0)) else((rC K v39 v6.1 v6.2.1 v6.2.2.1 v51.2.1 v51.2.2.1 v51.2.2.2.1 v51.2.2.2.2).bind fun v77=>(mZ K (tV a0) v6.1 v6.2.1 v6.2.2.1 v77.1 v77.2.1 v77.2.2.1 v77.2.2.2).bind fun v94=>(oW K v39 v6.1 v6.2.1 v6.2.2.1 v77.1 v94 v77.2.2.1 v77.2.2.2).bind fun v102=>bif(decide (0≤v102.1)) then((rG K v6.1 v6.2.1 v6.2.2.1 v102.1 v102.2.1 v102.2.2.1 v102.2.2.2.1 v102.2.2.2.2).bind fun v121=>(nE K v6.1 v6.2.1 v6.2.2.1 v102.2.1 v102.2.2.1 v102.2.2.2.1 v102.2.2.2.2).bind fun v123=>some ((⟨2,v123,v121,0⟩:oI),0)) else((nE K v6.1 v6.2.1 v6.2.2.1 v102.2.1 v102.2.2.1 v102.2.2.2.1 v102.2.2.2.2).bind fun v125=>(qH v6.1 v6.2.1 v6.2.2.1 v102.2.2.1 v102.2.1 v102.2.2.2.1 v102.2.2.2.2).bind fun v131=>(wP K a0.goal v125).bind fun v133=>some ((⟨0,v125,v131,v133⟩:oI),0))))
theorem aDJ {K:Nat} {a0:aS} {r:oI×Int} (hF:xB K a0=some r):Ct Tryz.prog 70 [.va (aS.enc a0)] (.t2 (.va (oI.enc r.1)) (.vc (pI .i64 r.2))):=by
 unfold xB at hF
 refine aA Tryz.func70 rfl (by kernel_rfl) Tryz.ntmps70 rfl (fun w0 M0=>?_)
 refine aD (aK (cK rfl rfl trivial (fun b1=>?_)))
 refine aL rfl tyZ94q (fun b2=>?_)
 obtain⟨v3,h4,hF⟩:=aX hF aDI
 refine go ?_ ?_
 refine aC hF rfl (fun h5 hF=>?_) (fun h5 hF=>?_)
 ·refine aD (aK (aH (fG (is:=[]) (xs:=[]) (ps:=[]) rfl tyB94q rfl rfl trivial rfl) trivial ?_))
  exact bP
 obtain⟨v6,h7,hF⟩:=aO hF
 refine go ?_ ?_
 refine aGo [] [0,1] rfl (aBV h7) zU1 rfl rfl (by decide) ?_
 rintro _ _ ⟨b8,b13,c14,n15,b18,c19,n20,b23,c24,n25,g28,N29,q16,q21,q26,q30,q31,q32,rfl,rfl⟩
 refine lQ (jV [⟨some b8,1,123,6,1,([pI .i64 v6.1]++[pI .i64 v6.2.1]++[pI .i64 v6.2.2.1]++[pO b13 n15 c14]++[pO b18 n20 c19]++[pO b23 n25 c24])⟩,hO (cH g28) b13 c14 24 n15 v6.2.2.2.1,hO cQ b18 c19 42 n20 v6.2.2.2.2.1,hO cI b23 c24 3 n25 v6.2.2.2.2.2.1] (gD cQ 42 g28 v6.2.2.2.2.2.2) [⟨some b2,1,94,7,1,([pI .i64 0]++[pS cQ ([]:List Rat)]++[pS cQ ([]:List Rat)]++(eQ 0))⟩,⟨some b1,1,90,3,1,(aS.enc a0)⟩]) ?_
 refine aL rfl tyZ120q (fun b34=>?_)
 obtain⟨v37,h38,v39,h40,hF⟩:=tY hF
 refine go ?_ ?_
 refine dr [0,1,3,0,8,24,56,127,0,511] 9 1 ?_ (fun bs36 G35=>?_)
 refine lI (t_s 0 rfl rfl rfl tyO3.s) zU2 ?_
 refine aU (aJ (aD (aK (aH (iD 1 1 rfl rfl rfl rfl (.one tyO120)) zU1 ?_))))
 refine aJa 0 [(6,0)] rfl zU1 rfl ?_
 refine aH (aKY (φ:=(tW v39)) (pre:=fun x:Int=>[.vc (pI .i64 x)]) (post:=fun r:Rat=>.va (eQ r)) (xs:=[.tmp 6]) (cs:=[pM (cI.e v39)]) rfl rfl (fun x r h=>aCl h)) zU1 ?_
 obtain⟨v41,h42,hF⟩:=aO hF
 refine m6 7 [1,2,3,4] [0,5,6] rfl (tZ h42 q16 q21 q26 q30 q31 q32) zU2 rfl rfl rfl (by decide) ?_
 rintro _ _ ⟨b44,c45,n46,q47,rfl,rfl⟩
 refine lQ (jV [⟨some b8,1,123,6,1,([pI .i64 v6.1]++[pI .i64 v6.2.1]++[pI .i64 v6.2.2.1]++[pO b13 n15 c14]++[pO b44 n46 c45]++[pO b23 n25 c24])⟩,hO (cH g28) b13 c14 24 n15 v6.2.2.2.1,hO cQ b18 c19 42 n20 v6.2.2.2.2.1,hO cI b23 c24 3 n25 v6.2.2.2.2.2.1,hO cQ b44 c45 42 n46 v41] (gD cQ 42 g28 v6.2.2.2.2.2.2) [⟨some b34,1,120,1,1,[pP (some b8) 0]⟩,⟨some b2,1,94,7,1,([pI .i64 0]++[pS cQ ([]:List Rat)]++[pS cQ ([]:List Rat)]++(eQ 0))⟩,⟨some b1,1,90,3,1,(aS.enc a0)⟩]) ?_
 refine go ?_ ?_
 refine dr [0,0,2,6,14,31] 5 1 ?_ (fun bs50 G49=>?_)
 obtain⟨v51,h52,hF⟩:=aO hF
 refine m6 8 [0,1,4,3] [2,5,6,7] rfl (uP h52 q16 q47 q26 q30 q31 q32) zU2 rfl rfl rfl (by decide) ?_
 rintro _ _ ⟨b53,c54,n55,g62,N63,q56,q58,q60,q64,q65,q66,rfl,rfl⟩
 refine lQ (jV [⟨some b8,1,123,6,1,([pI .i64 v6.1]++[pI .i64 v6.2.1]++[pI .i64 v6.2.2.1]++[pO b53 n55 c54]++[pO b44 n46 c45]++[pO b23 n25 c24])⟩,hO (cH g62) b53 c54 24 n55 v51.2.1,hO cQ b44 c45 42 n46 v51.2.2.1,hO cI b23 c24 3 n25 v51.2.2.2.1] (gD cQ 42 g62 v51.2.2.2.2) [hO cQ b18 c19 42 n20 v6.2.2.2.2.1,⟨some b34,1,120,1,1,[pP (some b8) 0]⟩,⟨some b2,1,94,7,1,([pI .i64 0]++[pS cQ ([]:List Rat)]++[pS cQ ([]:List Rat)]++(eQ 0))⟩,⟨some b1,1,90,3,1,(aS.enc a0)⟩]) ?_
 obtain⟨v70,h71,hF⟩:=aO hF
 obtain⟨v72,h73,hF⟩:=aX hF iJ
 refine go ?_ ?_
 refine dr [0,1,3,7,0,16,48,112,255,511,1023,2047] 12 0 ?_ (fun bs69 G68=>?_)
 refine aU (aJ (aC hF rfl (fun h74 hF=>?_) (fun h74 hF=>?_)))
 ·obtain⟨v75,h76,hF⟩:=aO hF
  refine go ?_ ?_
  refine m6 8 [0,1,2,3] [4,5,6,7] rfl (xV h76 q56 q58 q60 q64 q65 q66) zU1 rfl rfl rfl (by decide) ?_
  rintro _ _ ⟨rfl,rfl⟩
  refine lQ (jV [⟨some b8,1,123,6,1,([pI .i64 v6.1]++[pI .i64 v6.2.1]++[pI .i64 v6.2.2.1]++[pO b53 n55 c54]++[pS cQ v51.2.2.1]++[pO b23 n25 c24])⟩,hO (cH g62) b53 c54 24 n55 v51.2.1,hO cI b23 c24 3 n25 v51.2.2.2.1] (gD cQ 42 g62 v51.2.2.2.2) [hO cQ b18 c19 42 n20 v6.2.2.2.2.1,⟨some b34,1,120,1,1,[pP (some b8) 0]⟩,⟨some b2,1,94,7,1,([pI .i64 0]++[pS cQ ([]:List Rat)]++[pS cQ ([]:List Rat)]++(eQ 0))⟩,⟨some b1,1,90,3,1,(aS.enc a0)⟩]) ?_
  refine aH (fG (is:=[0,2]) (xs:=[.const (.int .i64 (1)),.tmp 48]) (ps:=[.vc (pI .i64 1),.vc (pS cQ v75)]) rfl tyB94q rfl rfl ⟨trivial,trivial,trivial⟩ rfl) ⟨oJ _ _,rfl,trivial⟩ ?_
  exact bP
 obtain⟨v77,h78,hF⟩:=aO hF
 refine go ?_ ?_
 refine m6 8 [0,1,2,3] [4,5,6,7] rfl (yA h78 q56 q58 q60 q64 q65 q66) zU2 rfl rfl rfl (by decide) ?_
 rintro _ _ ⟨b79,c80,n81,g88,N89,q82,q84,q86,q90,q91,q92,rfl,rfl⟩
 refine lQ (jV [⟨some b8,1,123,6,1,([pI .i64 v6.1]++[pI .i64 v6.2.1]++[pI .i64 v6.2.2.1]++[pO b79 n81 c80]++[pO b44 n46 c45]++[pO b23 n25 c24])⟩,hO (cH g88) b79 c80 24 n81 v77.1,hO cQ b44 c45 42 n46 v77.2.1,hO cI b23 c24 3 n25 v77.2.2.1] (gD cQ 42 g88 v77.2.2.2) [hO cQ b18 c19 42 n20 v6.2.2.2.2.1,⟨some b34,1,120,1,1,[pP (some b8) 0]⟩,⟨some b2,1,94,7,1,([pI .i64 0]++[pS cQ ([]:List Rat)]++[pS cQ ([]:List Rat)]++(eQ 0))⟩,⟨some b1,1,90,3,1,(aS.enc a0)⟩]) ?_
 refine aU (aJ (aD (aK (aH (iD 5 1 rfl rfl rfl rfl (.one tyO120)) zU1 ?_))))
 refine aJa 7 [(1,0),(18,0)] rfl zU2 rfl ?_
 refine aH (aKY (φ:=(tV a0)) (pre:=fun x:Int=>[.vc (pI .i64 x)]) (post:=fun r:Rat=>.va (eQ r)) (xs:=[.tmp 1]) (cs:=[pM (aS.cod.e a0)]) rfl rfl (fun x r h=>aCd h)) zU1 ?_
 obtain⟨v94,h95,hF⟩:=aO hF
 refine m6 7 [0,1,2,3] [4,5,6] rfl (tZ h95 q82 q84 q86 q90 q91 q92) zU2 rfl rfl rfl (by decide) ?_
 rintro _ _ ⟨b97,c98,n99,q100,rfl,rfl⟩
 refine lQ (jV [⟨some b8,1,123,6,1,([pI .i64 v6.1]++[pI .i64 v6.2.1]++[pI .i64 v6.2.2.1]++[pO b79 n81 c80]++[pO b97 n99 c98]++[pO b23 n25 c24])⟩,hO (cH g88) b79 c80 24 n81 v77.1,hO cQ b44 c45 42 n46 v77.2.1,hO cI b23 c24 3 n25 v77.2.2.1,hO cQ b97 c98 42 n99 v94] (gD cQ 42 g88 v77.2.2.2) [hO cQ b18 c19 42 n20 v6.2.2.2.2.1,⟨some b34,1,120,1,1,[pP (some b8) 0]⟩,⟨some b2,1,94,7,1,([pI .i64 0]++[pS cQ ([]:List Rat)]++[pS cQ ([]:List Rat)]++(eQ 0))⟩]) ?_
 obtain⟨v102,h103,hF⟩:=aO hF
 refine go ?_ ?_
 refine m6 8 [0,1,4,3] [2,5,6,7] rfl (uP h103 q82 q100 q86 q90 q91 q92) zU2 rfl rfl rfl (by decide) ?_
 rintro _ _ ⟨b104,c105,n106,g113,N114,q107,q109,q111,q115,q116,q117,rfl,rfl⟩
 refine lQ (jV [⟨some b8,1,123,6,1,([pI .i64 v6.1]++[pI .i64 v6.2.1]++[pI .i64 v6.2.2.1]++[pO b104 n106 c105]++[pO b97 n99 c98]++[pO b23 n25 c24])⟩,hO (cH g113) b104 c105 24 n106 v102.2.1,hO cQ b97 c98 42 n99 v102.2.2.1,hO cI b23 c24 3 n25 v102.2.2.2.1] (gD cQ 42 g113 v102.2.2.2.2) [hO cQ b44 c45 42 n46 v77.2.1,hO cQ b18 c19 42 n20 v6.2.2.2.2.1,⟨some b34,1,120,1,1,[pP (some b8) 0]⟩,⟨some b2,1,94,7,1,([pI .i64 0]++[pS cQ ([]:List Rat)]++[pS cQ ([]:List Rat)]++(eQ 0))⟩]) ?_
 refine aL rfl tyZ3q (fun b119=>?_)
 refine go ?_ ?_
 refine aC hF rfl (fun h120 hF=>?_) (fun h120 hF=>?_)
 ·refine go ?_ ?_
  refine aH (aNG (xs:=[.tmp 5,.tmp 7]) (cs:=[pP (some b34) 0,pP (some b119) 0]) rfl rfl) zU2 ?_
  obtain⟨v121,h122,hF⟩:=aO hF
  refine m6 9 [1,7,0,2,3,4] [5,6,8] rfl (y0 h122 q107 q109 q111 q115 q116 q117) zU2 rfl rfl rfl (by decide) ?_
  rintro _ _ ⟨rfl,rfl⟩
  refine lQ (jV [⟨some b8,1,123,6,1,([pI .i64 v6.1]++[pI .i64 v6.2.1]++[pI .i64 v6.2.2.1]++[pO b104 n106 c105]++[pO b97 n99 c98]++[pO b23 n25 c24])⟩,⟨some b34,1,120,1,1,[pP (some b8) 0]⟩,⟨some b119,1,3,1,1,[pI .i64 v102.1]⟩,hO (cH g113) b104 c105 24 n106 v102.2.1,hO cQ b97 c98 42 n99 v102.2.2.1,hO cI b23 c24 3 n25 v102.2.2.2.1] (gD cQ 42 g113 v102.2.2.2.2) [hO cQ b44 c45 42 n46 v77.2.1,hO cQ b18 c19 42 n20 v6.2.2.2.2.1,⟨some b2,1,94,7,1,([pI .i64 0]++[pS cQ ([]:List Rat)]++[pS cQ ([]:List Rat)]++(eQ 0))⟩]) ?_
  refine go ?_ ?_
  refine aH (aOO (xs:=[.tmp 65]) (bs:=[pP (some b8) 0]) rfl rfl) zU1 ?_
  obtain⟨v123,h124,hF⟩:=aO hF
  refine m6 9 [0,3,4,5] [1,2,6,7,8] rfl (t0 h124 q107 q109 q111 q115 q116 q117) zU2 rfl rfl rfl (by decide) ?_
  rintro _ _ ⟨rfl,rfl⟩
  refine lQ (jV [⟨some b8,1,123,6,1,([pI .i64 v6.1]++[pI .i64 v6.2.1]++[pI .i64 v6.2.2.1]++[pO b104 n106 c105]++[pO b97 n99 c98]++[pO b23 n25 c24])⟩,hO (cH g113) b104 c105 24 n106 v102.2.1,hO cQ b97 c98 42 n99 v102.2.2.1,hO cI b23 c24 3 n25 v102.2.2.2.1] (gD cQ 42 g113 v102.2.2.2.2) [⟨some b34,1,120,1,1,[pP (some b8) 0]⟩,⟨some b119,1,3,1,1,[pI .i64 v102.1]⟩,hO cQ b44 c45 42 n46 v77.2.1,hO cQ b18 c19 42 n20 v6.2.2.2.2.1,⟨some b2,1,94,7,1,([pI .i64 0]++[pS cQ ([]:List Rat)]++[pS cQ ([]:List Rat)]++(eQ 0))⟩]) ?_
  refine fL ?_
  refine aH (fG (is:=[0,1,2]) (xs:=[.const (.int .i64 (2)),.tmp 67,.tmp 68]) (ps:=[.vc (pI .i64 2),.vc (pS cQ v123),.vc (pS cQ v121)]) rfl tyB94q rfl rfl ⟨trivial,trivial,trivial,trivial⟩ rfl) ⟨oJ _ _,rfl,rfl,trivial⟩ ?_
  exact bP
 refine go ?_ ?_
 refine aH (aOO (xs:=[.tmp 71]) (bs:=[pP (some b8) 0]) rfl rfl) zU1 ?_
 obtain⟨v125,h126,hF⟩:=aO hF
 refine m6 9 [1,2,3,4] [0,5,6,7,8] rfl (t0 h126 q107 q109 q111 q115 q116 q117) zU2 rfl rfl rfl (by decide) ?_
 rintro _ _ ⟨rfl,rfl⟩
 refine lQ (jV [⟨some b8,1,123,6,1,([pI .i64 v6.1]++[pI .i64 v6.2.1]++[pI .i64 v6.2.2.1]++[pO b104 n106 c105]++[pO b97 n99 c98]++[pO b23 n25 c24])⟩,hO (cH g113) b104 c105 24 n106 v102.2.1,hO cQ b97 c98 42 n99 v102.2.2.1,hO cI b23 c24 3 n25 v102.2.2.2.1] (gD cQ 42 g113 v102.2.2.2.2) [⟨some b119,1,3,1,1,[pI .i64 v102.1]⟩,hO cQ b44 c45 42 n46 v77.2.1,hO cQ b18 c19 42 n20 v6.2.2.2.2.1,⟨some b34,1,120,1,1,[pP (some b8) 0]⟩,⟨some b2,1,94,7,1,([pI .i64 0]++[pS cQ ([]:List Rat)]++[pS cQ ([]:List Rat)]++(eQ 0))⟩]) ?_
 refine go ?_ ?_
 refine aN5 2 0 4 rfl q109 rfl rfl rfl rfl rfl ?_
 obtain⟨v131,h132,hF⟩:=aO hF
 obtain⟨v133,h134,hF⟩:=aX hF aCb
 refine iG [0,0,2,0,8,0,62,127,255,511] 8 2 [.v (.vc (pS cQ v125)),.v (.vc (pP (some b8) 0)),.v (.vc (pS cQ v131)),.v (.vc (pM ((aS.cod.e a0).drop 2))),.v (.vc (pS cQ a0.goal)),.v (.vc (pS cQ v125)),.v (.va (eQ v133)),.v (.va ([pI .i64 0]++[pS cQ v125]++[pS cQ v131]++(eQ v133)))] aW ⟨d0 (aM (.inl rfl)) zU1,d0 (iD 6 1 rfl rfl rfl rfl (.one tyO120)) zU1,d0 (aHK 8 [0,1,2] [3,4,5,6,7] [0,1,2,3,4,5,6,7] rfl (xR h132 q107 q111 q115 q116 q117) rfl rfl rfl rfl (by decide) (by decide) rfl) zU1,d0 (aLi (ps:=(aS.cod.e a0)) (k:=2) rfl tyF90_2) zU1,d0 (vH 1 rfl rfl (.one tyO24)) zU1,d0 (aM (.inl rfl)) zU1,d0 (bD rfl h134 rfl) zU2,d0 (fG (is:=[0,1,2,3]) (xs:=[.const (.int .i64 (0)),.tmp 74,.tmp 76,.tmp 80]) (ps:=[.vc (pI .i64 0),.vc (pS cQ v125),.vc (pS cQ v131),.va (eQ v133)]) rfl tyB94q rfl rfl ⟨trivial,trivial,trivial,trivial,trivial⟩ rfl) ⟨oJ _ _,rfl,rfl,rfl,trivial⟩,trivial⟩ (fun bs130 G129=>?_)
 exact bP
def q0 (K:Nat) (a1:List Rat) (x49:List Rat) (x109:List aP):Option ((List Rat)×Int):=
 (xB K (⟨(a1.length:Int),x109,x49⟩:aS)).bind fun v117=>bif(v117.2 != 0) then(some ([],6)) else(bif(v117.1.kind != 0) then(some ([],6)) else((xD v117.1.value).bind fun v122=>bif(decide (v122≤0)) then(some ([],6)) else(some (v117.1.x,0))))
def rE (K:Nat) (x102:List aP) (x108:Int) (recl115:(List aP)→Int→Option (List aP)) (x146:List Rat):Option (List aP):=
 (sD x102 [(⟨x146,0⟩:aP)]).bind fun x154=>(aR (x108+1)).bind fun v161=>recl115 x154 v161
def m7 (K:Nat) (a0:List (List Rat)) (a1:List Rat) (x108:Int):Nat→(List Rat)→Int→Option (List Rat)
 |0,_,_=>none
 |k+1,x139,x145=>bif(decide (x145<(a1.length:Int))) then((bO a0 x145).bind fun v166=>(bO v166 x108).bind fun v168=>(bO x139 x145).bind fun v170=>(pA x139 x145 v168).bind fun x172=>(aR (x145+1)).bind fun v175=>m7 K a0 a1 x108 k x172 v175) else(some x139)
def kW (K:Nat) (a0:List (List Rat)) (a1:List Rat):Nat→(List aP)→Int→Option (List aP)
 |0,_,_=>none
 |k+1,x102,x108=>bif(decide (x108<(a1.length:Int))) then((y4 (a1.length:Int) 0).bind fun x126=>(m7 K a0 a1 x108 K x126 0).bind fun x146=>rE K x102 x108 (kW K a0 a1 k) x146) else(some x102)
def rU (K:Nat) (a0:List (List Rat)) (a1:List Rat) (x43:List aP) (x49:List Rat) (v57:Rat) (x80:List Rat):Option ((List Rat)×Int):=
 (sD x43 [(⟨x80,v57⟩:aP)]).bind fun x88=>(kW K a0 a1 K x88 0).bind fun x109=>q0 K a1 x49 x109
def n0 (K:Nat) (a1:List Rat):Nat→(List Rat)→Int→Option (List Rat)
 |0,_,_=>none
 |k+1,x73,x79=>bif(decide (x79<(a1.length:Int))) then((qof 1 1).bind fun v180=>(sD x73 [v180]).bind fun x182=>(aR (x79+1)).bind fun v189=>n0 K a1 k x182 v189) else(some x73)
def rX (K:Nat) (a0:List (List Rat)) (a1:List Rat) (x43:List aP) (x49:List Rat):Option ((List Rat)×Int):=
 (qof 1 1).bind fun v57=>(n0 K a1 K ([]:List Rat) 0).bind fun x80=>rU K a0 a1 x43 x49 v57 x80
def n4 (K:Nat) (a1:List Rat):Nat→(List aP)→(List Rat)→Int→Option ((List aP)×(List Rat))
 |0,_,_,_=>none
 |k+1,x30,x36,x42=>bif(decide (x42<(a1.length:Int))) then((bO a1 x42).bind fun v194=>(aCr v194).bind fun v196=>(bO x36 x42).bind fun v198=>(pA x36 x42 v196).bind fun x200=>(y4 (a1.length:Int) 0).bind fun x203=>(qof (-1) 1).bind fun v211=>(bO x203 x42).bind fun v213=>(pA x203 x42 v211).bind fun x215=>(sD x30 [(⟨x215,0⟩:aP)]).bind fun x218=>(aR (x42+1)).bind fun v225=>n4 K a1 k x218 x200 v225) else(some (x30,x36))
def uI (K:Nat) (a0:List (List Rat)) (a1:List Rat):Option ((List Rat)×Int):=
 (dX K a0 a1).bind fun v1=>bif(!v1) then(some ([],1)) else(bif((a1.length:Int)==0) then(some ([],6)) else((y4 (a1.length:Int) 0).bind fun x5=>(n4 K a1 K ([]:List aP) x5 0).bind fun(x43,x49)=>rX K a0 a1 x43 x49))
theorem aBy {K:Nat} {a0:List (List Rat)} {a1:List Rat} {r:(List Rat)×Int} (hF:uI K a0 a1=some r):Ct Tryz.prog 27 [.vc (pS (fZ cQ) a0),.vc (pS cQ a1)] (.t2 (.vc (pS cQ r.1)) (.vc (pI .i64 r.2))):=by
 unfold uI at hF
 refine aA Tryz.func27 rfl (by kernel_rfl) Tryz.ntmps27 rfl (fun w0 M0=>?_)
 refine aD (aK (aH (aM (.inr rfl)) ⟨eM cQ,trivial⟩ ?_))
 refine aH (aM (.inr rfl)) ⟨oJ _ _,trivial⟩ ?_
 refine aU (aJ (aD (aD (aK (fL ?_)))))
 refine fL ?_
 obtain⟨v1,h2,hF⟩:=aO hF
 refine aH (bD rfl (rM h2) rfl) zU2 ?_
 refine aH (aJ0 rfl) zU1 ?_
 refine aU (aJ (aFi rfl (fun h3=>?_) (fun h3=>?_)))
 ·have hF:=tA h3 hF
  refine aD (aK (aH (aM (.inr rfl)) ⟨eM cQ,trivial⟩ ?_))
  refine aH (aM (.inr rfl)) ⟨oJ _ _,trivial⟩ ?_
  refine aU (aJ (fX (fY ?_)))
  obtain rfl:=iR hF
  exact gW (.inl rfl) Tryz.results27 (.tmp rfl (.tmp rfl .nil)) rfl rfl
 have hF:=rJ h3 hF
 refine iC (aJ (aD (aK (fL ?_))))
 refine aH (aGA rfl tyS24) zU1 ?_
 refine y6 ?_
 refine aU (aJ (aD (aD (aK (fL ?_)))))
 refine aH (aMZ rfl) ⟨rfl,oJ _ _,trivial⟩ ?_
 refine aU (aJ (aFi rfl (fun h4=>?_) (fun h4=>?_)))
 ·have hF:=tA h4 hF
  refine aD (aK (aH (aM (.inr rfl)) ⟨eM cQ,trivial⟩ ?_))
  refine aH (aM (.inr rfl)) ⟨oJ _ _,trivial⟩ ?_
  refine aU (aJ (fX (fY ?_)))
  obtain rfl:=iR hF
  exact gW (.inl rfl) Tryz.results27 (.tmp rfl (.tmp rfl .nil)) rfl rfl
 have hF:=rJ h4 hF
 refine iC (aJ (aD (aK (fL ?_))))
 refine fL ?_
 obtain⟨x5,h6,hF⟩:=aO hF
 refine qG (C:=cQ) rfl tyS24 rfl tyZ42q rfl h6 (fun b7=>?_)
 refine aCc aP.cod 92 ?_
 refine aH (fG (is:=[0,2]) (xs:=[.tmp 24,.tmp 26]) (ps:=[.vc (pI .i64 (a1.length:Int)),.vc (pO b7 x5.length x5.length)]) rfl tyB90_o1q rfl rfl ⟨trivial,trivial,trivial⟩ rfl) zU2 ?_
 refine aL rfl tyZ90q (fun b16=>?_)
 refine lI (t_s 0 rfl rfl rfl tyA90.s) zU2 ?_
 refine aU (aJ (aD (aD (aK (fL ?_)))))
 refine aH (aM (.inl rfl)) ⟨oJ _ _,trivial⟩ ?_
 refine aU (aJ (aI (aY (fun H E=>∃(x43:List aP),∃(x49:List Rat),∃(b44:Option Nat),∃(c45:Nat),∃(n46:Nat),rX K a0 a1 x43 x49=some r∧x43.length=n46∧x49.length=x5.length∧H=[⟨some b16,1,90,3,1,([pI .i64 (a1.length:Int)]++[pO b44 n46 c45]++[pO b7 x5.length x5.length])⟩,hO aP.cod b44 c45 92 n46 x43,hO cQ b7 x5.length 42 x5.length x49]∧E=[(0,.vc (pS (fZ cQ) a0)),(6,.vc (pI .i64 (a1.length:Int))),(7,.vc (pP (some b16) 0))]) ?_ (fun Jj56=>?_))))
 ·rintro _ _ ⟨x43,x49,b44,c45,n46,hF,q47,q53,rfl,rfl⟩
  unfold rX at hF
  refine aJ (aD (aK ?_))
  obtain⟨v57,h58,hF⟩:=aO hF
  refine aH (bD rfl (tE h58) rfl) ⟨oJ _ _,oJ _ _,trivial⟩ ?_
  refine aCc cQ 42 ?_
  refine aH (fG (is:=[1]) (xs:=[.tmp 56]) (ps:=[.va (eQ v57)]) rfl tyB92_o0q rfl rfl ⟨trivial,trivial⟩ rfl) zU1 ?_
  refine aL rfl tyZ92q (fun b65=>?_)
  refine lI (t_s 0 rfl rfl rfl tyA92.s) zU2 ?_
  refine aU (aJ (aD (aD (aK (fL ?_)))))
  refine aH (aM (.inl rfl)) ⟨oJ _ _,trivial⟩ ?_
  refine aU (aJ (aI (aY (fun H E=>∃(x80:List Rat),∃(b81:Option Nat),∃(c82:Nat),∃(n83:Nat),rU K a0 a1 x43 x49 v57 x80=some r∧x80.length=n83∧H=[⟨some b65,1,92,5,1,([pO b81 n83 c82]++(eQ v57))⟩,hO cQ b81 c82 42 n83 x80,⟨some b16,1,90,3,1,([pI .i64 (a1.length:Int)]++[pO b44 n46 c45]++[pO b7 x5.length x5.length])⟩,hO aP.cod b44 c45 92 n46 x43,hO cQ b7 x5.length 42 x5.length x49]∧E=[(0,.vc (pS (fZ cQ) a0)),(6,.vc (pI .i64 (a1.length:Int))),(7,.vc (pP (some b16) 0)),(10,.vc (pP (some b65) 0))]) ?_ (fun Jj87=>?_))))
  ·rintro _ _ ⟨x80,b81,c82,n83,hF,q84,rfl,rfl⟩
   unfold rU at hF
   refine aJ (aD (aK (aH (jW (off:=0) (k:=1) rfl tyF90_1) zU1 ?_)))
   refine aH (iD 2 1 rfl rfl rfl rfl (.one tyO88)) zU1 ?_
   refine aDL 1 0 0 rfl q84 rfl rfl rfl rfl rfl ?_
   refine aH (iD 0 5 rfl rfl rfl rfl (.agg tyA92)) zU1 ?_
   refine aH (gP (C:=aP.cod) (xs:=[.tmp 70]) (ps:=[.va ([pS cQ x80]++(eQ v57))]) (zs:=[(⟨x80,v57⟩:aP)]) rfl tyS88 rfl ⟨⟨trivial,rfl⟩,trivial⟩ rfl) zU1 ?_
   obtain⟨x88,h89,hF⟩:=aO hF
   refine kK 2 rfl tyS88 rfl rfl q47 rfl rfl h89 (fun b90 c91 H92 e93=>?_)
   cases e93
   refine aH (jW (off:=0) (k:=1) rfl tyF90_1) zU1 ?_
   refine lI (t_s 1 rfl rfl rfl tyO88.s) zU2 ?_
   refine aU (aJ (aD (aD (aK (fL ?_)))))
   refine aH (aM (.inl rfl)) ⟨oJ _ _,trivial⟩ ?_
   refine aU (aJ (aI (aY (fun H E=>∃(x109:List aP),∃(b110:Option Nat),∃(c111:Nat),∃(n112:Nat),q0 K a1 x49 x109=some r∧x109.length=n112∧H=[⟨some b16,1,90,3,1,([pI .i64 (a1.length:Int)]++[pO b110 n112 c111]++[pO b7 x5.length x5.length])⟩,hO aP.cod b110 c111 92 n112 x109,hO cQ b7 x5.length 42 x5.length x49]∧E=[(7,.vc (pP (some b16) 0))]) ?_ (fun Jj116=>?_))))
   ·rintro _ _ ⟨x109,b110,c111,n112,hF,q113,rfl,rfl⟩
    unfold q0 at hF
    refine aJ (aD (aK (aDL 1 0 1 rfl q113 rfl rfl rfl rfl rfl ?_)))
    refine aDL 1 0 2 rfl q53 rfl rfl rfl rfl rfl ?_
    refine aH (iD 0 3 rfl rfl rfl rfl (.agg tyA90)) zU1 ?_
    obtain⟨v117,h118,hF⟩:=aO hF
    refine aH (bD rfl (aDJ h118) rfl) zU1 ?_
    refine fL ?_
    refine aH (aGS rfl) zU1 ?_
    refine aH (aGa rfl) zU1 ?_
    refine aL rfl tyZ94q (fun b119=>?_)
    refine lI (t_s 0 rfl rfl rfl tyA94.s) zU2 ?_
    refine y6 ?_
    refine aU (aJ (aD (aD (aK (fL ?_)))))
    refine aH (aMk rfl) ⟨rfl,oJ _ _,trivial⟩ ?_
    refine fL ?_
    refine aIJ (fun h120=>?_) (fun h120=>?_)
    ·have hF:=tA h120 hF
     refine aAY ?_
     refine aAY ?_
     refine aAY ?_
     refine aH (u5 rfl) ⟨rfl,k_B _,trivial⟩ ?_
     refine fL ?_
     refine aAY ?_
     refine aAY ?_
     refine aAY ?_
     refine aAY ?_
     refine aH (u5 rfl) ⟨rfl,k_B _,trivial⟩ ?_
     refine aU (aJ (eU rfl ?_))
     refine aD (aK (aH (aM (.inr rfl)) ⟨eM cQ,trivial⟩ ?_))
     refine aH (aM (.inr rfl)) ⟨oJ _ _,trivial⟩ ?_
     refine aU (aJ (fX (fY ?_)))
     obtain rfl:=iR hF
     exact gW (.inl rfl) Tryz.results27 (.tmp rfl (.tmp rfl .nil)) rfl rfl
    have hF:=rJ h120 hF
    refine wE (jW (off:=0) (k:=0) rfl tyF94_0) zU1 ?_
    refine wE (iD 0 1 rfl rfl rfl rfl (.one tyO3)) zU1 ?_
    refine wE (aMk rfl) ⟨rfl,oJ _ _,trivial⟩ ?_
    refine aH (zF rfl) zU2 ?_
    refine fL ?_
    refine aIJ (fun h121=>?_) (fun h121=>?_)
    ·have hF:=tA h121 hF
     refine aAY ?_
     refine aAY ?_
     refine aAY ?_
     refine aAY ?_
     refine aH (u5 rfl) ⟨rfl,k_B _,trivial⟩ ?_
     refine aU (aJ (eU rfl ?_))
     refine aD (aK (aH (aM (.inr rfl)) ⟨eM cQ,trivial⟩ ?_))
     refine aH (aM (.inr rfl)) ⟨oJ _ _,trivial⟩ ?_
     refine aU (aJ (fX (fY ?_)))
     obtain rfl:=iR hF
     exact gW (.inl rfl) Tryz.results27 (.tmp rfl (.tmp rfl .nil)) rfl rfl
    have hF:=rJ h121 hF
    refine wE (jW (off:=0) (k:=3) rfl tyF94_3) zU1 ?_
    refine wE (iD 0 4 rfl rfl rfl rfl (.agg tyA42)) zU1 ?_
    obtain⟨v122,h123,hF⟩:=aO hF
    refine wE (bD rfl (iJ h123) rfl) zU1 ?_
    refine wE (aNk rfl) ⟨rfl,oJ _ _,trivial⟩ ?_
    refine aH (zF rfl) zU2 ?_
    refine aU (aJ (aFi rfl (fun h124=>?_) (fun h124=>?_)))
    ·have hF:=tA h124 hF
     refine aD (aK (aH (aM (.inr rfl)) ⟨eM cQ,trivial⟩ ?_))
     refine aH (aM (.inr rfl)) ⟨oJ _ _,trivial⟩ ?_
     refine aU (aJ (fX (fY ?_)))
     obtain rfl:=iR hF
     exact gW (.inl rfl) Tryz.results27 (.tmp rfl (.tmp rfl .nil)) rfl rfl
    have hF:=rJ h124 hF
    refine iC (aJ (aD (aK (aH (jW (off:=0) (k:=1) rfl tyF94_1) zU1 ?_))))
    refine aH (iD 0 1 rfl rfl rfl rfl (.one tyO24)) zU1 ?_
    refine y6 ?_
    refine aH (aM (.inr rfl)) ⟨oJ _ _,trivial⟩ ?_
    refine aU (aJ (fX (fY ?_)))
    obtain rfl:=iR hF
    exact gW (.inl rfl) Tryz.results27 (.tmp rfl (.tmp rfl .nil)) rfl rfl
   obtain⟨x109',hL,hRl115⟩:=aO hF
   refine dW (fun k a w=>∃(x102:List aP),∃(x108:Int),∃(b103:Option Nat),∃(c104:Nat),∃(n105:Nat),kW K a0 a1 k x102 x108=some x109'∧x102.length=n105∧hs _ [⟨some b16,1,90,3,1,([pI .i64 (a1.length:Int)]++[pO b103 n105 c104]++[pO b7 x5.length x5.length])⟩,hO aP.cod b103 c104 92 n105 x102,hO cQ b7 x5.length 42 x5.length x49] [(0,.vc (pS (fZ cQ) a0)),(6,.vc (pI .i64 (a1.length:Int))),(7,.vc (pP (some b16) 0)),(74,.vc (pI .i64 (a1.length:Int))),(75,.vc (pI .i64 x108))] a w) K (fun a w ⟨_,_,_,_,_,hF,_,_⟩=>by cases hF) (fun k a w ⟨x102,x108,b103,c104,n105,hF,q106,hh⟩=>dV ?_ hh) (fun a w hh=>⟨x88,0,b90,c91,(n46+[(⟨x80,v57⟩:aP)].length),hL,(bL h89 q47),wT [1,2,3] rfl (by decide) (by exact⟨rfl,rfl,rfl,rfl,rfl,trivial⟩) hh⟩)
   rw [kW.eq_2] at hF
   refine aD (aK (aH (aGb rfl) zU2 ?_))
   refine aU (aJ (aD (aFi rfl (fun h125=>?_) (fun h125=>?_))))
   ·have hF:=tA h125 hF
    refine iC (aJ (aD (aI (aD (aK (fL ?_))))))
    refine y6 ?_
    refine aU (aJ (aD (aK (fL ?_))))
    obtain⟨x126,h127,hF⟩:=aO hF
    refine qG (C:=cQ) rfl tyS24 rfl tyZ42q rfl h127 (fun b128=>?_)
    refine aH (fG (is:=[0]) (xs:=[.tmp 79]) (ps:=[.vc (pO b128 x126.length x126.length)]) rfl tyB92q rfl rfl ⟨trivial,trivial⟩ rfl) zU1 ?_
    refine aL rfl tyZ92q (fun b131=>?_)
    refine lI (t_s 0 rfl rfl rfl tyA92.s) zU2 ?_
    refine aU (aJ (aD (aD (aK (fL ?_)))))
    refine aH (aM (.inl rfl)) ⟨oJ _ _,trivial⟩ ?_
    refine aU (aJ (aI (aY (fun H E=>∃(x146:List Rat),rE K x102 x108 (kW K a0 a1 k) x146=some x109'∧x146.length=x126.length∧H=[⟨some b131,1,92,5,1,([pO b128 x126.length x126.length]++(eQ 0))⟩,hO cQ b128 x126.length 42 x126.length x146,⟨some b16,1,90,3,1,([pI .i64 (a1.length:Int)]++[pO b103 n105 c104]++[pO b7 x5.length x5.length])⟩,hO aP.cod b103 c104 92 n105 x102,hO cQ b7 x5.length 42 x5.length x49]∧E=[(0,.vc (pS (fZ cQ) a0)),(6,.vc (pI .i64 (a1.length:Int))),(7,.vc (pP (some b16) 0)),(12,.vc (pP (some b131) 0)),(74,.vc (pI .i64 (a1.length:Int))),(75,.vc (pI .i64 x108))]) ?_ (fun Jj153=>?_))))
    ·rintro _ _ ⟨x146,hF,q150,rfl,rfl⟩
     unfold rE at hF
     refine aJ (aK (aH (jW (off:=0) (k:=1) rfl tyF90_1) zU1 ?_))
     refine aH (iD 2 1 rfl rfl rfl rfl (.one tyO88)) zU1 ?_
     refine aDL 1 0 0 rfl q150 rfl rfl rfl rfl rfl ?_
     refine aH (iD 0 5 rfl rfl rfl rfl (.agg tyA92)) zU1 ?_
     refine aH (gP (C:=aP.cod) (xs:=[.tmp 99]) (ps:=[.va ([pS cQ x146]++(eQ 0))]) (zs:=[(⟨x146,0⟩:aP)]) rfl tyS88 rfl ⟨⟨trivial,rfl⟩,trivial⟩ rfl) zU1 ?_
     obtain⟨x154,h155,hF⟩:=aO hF
     refine kK 2 rfl tyS88 rfl rfl q106 rfl rfl h155 (fun b156 c157 H158 e159=>?_)
     cases e159
     refine aH (jW (off:=0) (k:=1) rfl tyF90_1) zU1 ?_
     refine lI (t_s 1 rfl rfl rfl tyO88.s) zU2 ?_
     refine aU (aAV (aJ (aK ?_)))
     obtain⟨v161,h162,hF⟩:=aO hF
     refine aH (yU rfl h162) ⟨rfl,oJ _ _,trivial⟩ ?_
     refine fL ?_
     refine aU ?_
     exact aF (fun a w hh=>⟨x154,v161,b156,c157,(n105+[(⟨x146,0⟩:aP)].length),hF,(bL h155 q106),wT [1,2,3] rfl (by decide) (by exact⟨rfl,rfl,rfl,rfl,rfl,trivial⟩) hh⟩)
    obtain⟨x146',hL,hRl152⟩:=aO hF
    refine dW (fun k a w=>∃(x139:List Rat),∃(x145:Int),m7 K a0 a1 x108 k x139 x145=some x146'∧x139.length=x126.length∧hs _ [⟨some b131,1,92,5,1,([pO b128 x126.length x126.length]++(eQ 0))⟩,hO cQ b128 x126.length 42 x126.length x139,⟨some b16,1,90,3,1,([pI .i64 (a1.length:Int)]++[pO b103 n105 c104]++[pO b7 x5.length x5.length])⟩,hO aP.cod b103 c104 92 n105 x102,hO cQ b7 x5.length 42 x5.length x49] [(0,.vc (pS (fZ cQ) a0)),(6,.vc (pI .i64 (a1.length:Int))),(7,.vc (pP (some b16) 0)),(11,.vc (pI .i64 x108)),(12,.vc (pP (some b131) 0)),(74,.vc (pI .i64 (a1.length:Int))),(75,.vc (pI .i64 x108)),(81,.vc (pI .i64 (a1.length:Int))),(82,.vc (pI .i64 x145))] a w) K (fun a w ⟨_,_,hF,_,_⟩=>by cases hF) (fun k a w ⟨x139,x145,hF,q143,hh⟩=>dV ?_ hh) (fun a w hh=>⟨x126,0,hL,rfl,wT [0,1,2,3,4] rfl (by decide) (by exact⟨rfl,rfl,rfl,rfl,rfl,rfl,rfl,rfl,rfl,trivial⟩) hh⟩)
    rw [m7.eq_2] at hF
    refine aD (aK (aH (aGb rfl) zU2 ?_))
    refine aU (aJ (aD (aFi rfl (fun h163=>?_) (fun h163=>?_))))
    ·have hF:=tA h163 hF
     refine iC (aJ (aD (aI (aD (aK (fL ?_))))))
     refine y6 ?_
     refine aU (aJ ?_)
     obtain⟨v166,h167,hF⟩:=aO hF
     obtain⟨v168,h169,hF⟩:=aO hF
     obtain⟨v170,h171,hF⟩:=aO hF
     refine iG [0,1,0,0,0,24,56,0,248,504,1023,2047] 11 1 [.v (.vc (pP (some b131) 0)),.v (.vc (pO b128 x126.length x126.length)),.v (.vc (pI .i64 x145)),.v (.vc (pS (fZ cQ) a0)),.v (.vc (pI .i64 x145)),.v (.vc (pM ((fZ cQ).e v166))),.v (.vc (pS cQ v166)),.v (.vc (pI .i64 x108)),.v (.vc (pM (cQ.e v168))),.v (.va (eQ v168)),.v (.vc (pE b128 x145 cQ.n 0))] aW ⟨d0 (jW (off:=0) (k:=0) rfl tyF92_0) zU1,d0 (iD 0 1 rfl rfl rfl rfl (.one tyO24)) zU1,d0 (aM (.inl rfl)) zU1,d0 (aM (.inl rfl)) zU1,d0 (aM (.inl rfl)) zU1,d0 (vZ rfl tyS23 h167) zU2,d0 (vH 1 rfl rfl (.one tyO24)) zU1,d0 (aM (.inl rfl)) zU1,d0 (vZ rfl tyS24 h169) zU2,d0 (vH 4 rfl rfl (.agg tyA42)) zU1,d0 (gN (C:=cQ) 1 rfl tyS24 rfl q143 (aG h171).1 (aG h171).2.1) zU2,trivial⟩ (fun bs165 G164=>?_)
     obtain⟨x172,h173,hF⟩:=aO hF
     refine lI (wB 1 rfl rfl h171 h173 tyA42.s) zU2 ?_
     refine aU (aAV (aJ (aK ?_)))
     obtain⟨v175,h176,hF⟩:=aO hF
     refine aH (yU rfl h176) ⟨rfl,oJ _ _,trivial⟩ ?_
     refine fL ?_
     refine aU ?_
     exact aF (fun a w hh=>⟨x172,v175,hF,(bE h173 q143),wT [0,1,2,3,4] rfl (by decide) (by exact⟨rfl,rfl,rfl,rfl,rfl,rfl,rfl,rfl,rfl,trivial⟩) hh⟩)
    have hF:=rJ h163 hF
    refine bI ?_
    obtain rfl:=iR hF
    exact aDa Jj153 ⟨x139,hRl152,q143,rfl,rfl⟩ [0,1,2,3,4] rfl ⟨rfl,rfl,rfl,rfl,rfl,rfl,trivial⟩
   have hF:=rJ h125 hF
   refine bI ?_
   obtain rfl:=iR hF
   exact aDa Jj116 ⟨x102,b103,c104,n105,hRl115,q106,rfl,rfl⟩ [0,1,2] rfl zU1
  obtain⟨x80',hL,hRl86⟩:=aO hF
  refine dW (fun k a w=>∃(x73:List Rat),∃(x79:Int),∃(b74:Option Nat),∃(c75:Nat),∃(n76:Nat),n0 K a1 k x73 x79=some x80'∧x73.length=n76∧hs _ [⟨some b65,1,92,5,1,([pO b74 n76 c75]++(eQ v57))⟩,hO cQ b74 c75 42 n76 x73,⟨some b16,1,90,3,1,([pI .i64 (a1.length:Int)]++[pO b44 n46 c45]++[pO b7 x5.length x5.length])⟩,hO aP.cod b44 c45 92 n46 x43,hO cQ b7 x5.length 42 x5.length x49] [(0,.vc (pS (fZ cQ) a0)),(6,.vc (pI .i64 (a1.length:Int))),(7,.vc (pP (some b16) 0)),(10,.vc (pP (some b65) 0)),(58,.vc (pI .i64 (a1.length:Int))),(59,.vc (pI .i64 x79))] a w) K (fun a w ⟨_,_,_,_,_,hF,_,_⟩=>by cases hF) (fun k a w ⟨x73,x79,b74,c75,n76,hF,q77,hh⟩=>dV ?_ hh) (fun a w hh=>⟨([]:List Rat),0,none,0,0,hL,rfl,wT [0,1,2,3,4] rfl (by decide) (by exact⟨rfl,rfl,rfl,rfl,rfl,rfl,trivial⟩) hh⟩)
  rw [n0.eq_2] at hF
  refine aD (aK (aH (aGb rfl) zU2 ?_))
  refine aU (aJ (aD (aFi rfl (fun h177=>?_) (fun h177=>?_))))
  ·have hF:=tA h177 hF
   refine iC (aJ (aD (aI ?_)))
   obtain⟨v180,h181,hF⟩:=aO hF
   refine iG [0,1,0,4,15,31,63] 4 3 [.v (.vc (pP (some b65) 0)),.v (.vc (pO b74 n76 c75)),.v (.va (eQ v180)),.v (.vc (pS cQ [v180]))] aW ⟨d0 (jW (off:=0) (k:=0) rfl tyF92_0) zU1,d0 (iD 0 1 rfl rfl rfl rfl (.one tyO24)) zU1,d0 (bD rfl (tE h181) rfl) ⟨oJ _ _,oJ _ _,trivial⟩,d0 (gP (C:=cQ) (xs:=[.tmp 63]) (ps:=[.va (eQ v180)]) (zs:=[v180]) rfl tyS24 rfl ⟨⟨trivial,rfl⟩,trivial⟩ rfl) zU1,trivial⟩ (fun bs179 G178=>?_)
   obtain⟨x182,h183,hF⟩:=aO hF
   refine kK 1 rfl tyS24 rfl rfl q77 rfl rfl h183 (fun b184 c185 H186 e187=>?_)
   cases e187
   refine aH (jW (off:=0) (k:=0) rfl tyF92_0) zU1 ?_
   refine lI (t_s 0 rfl rfl rfl tyO24.s) zU2 ?_
   refine aU (aAV (aJ (aK ?_)))
   obtain⟨v189,h190,hF⟩:=aO hF
   refine aH (yU rfl h190) ⟨rfl,oJ _ _,trivial⟩ ?_
   refine fL ?_
   refine aU ?_
   exact aF (fun a w hh=>⟨x182,v189,b184,c185,(n76+[v180].length),hF,(bL h183 q77),wT [0,1,2,3,4] rfl (by decide) (by exact⟨rfl,rfl,rfl,rfl,rfl,rfl,trivial⟩) hh⟩)
  have hF:=rJ h177 hF
  refine bI ?_
  obtain rfl:=iR hF
  exact aDa Jj87 ⟨x73,b74,c75,n76,hRl86,q77,rfl,rfl⟩ [0,1,2,3,4] rfl ⟨rfl,rfl,rfl,rfl,trivial⟩
 obtain⟨⟨x43',x49'⟩,hL,hRl55⟩:=aO hF
 refine dW (fun k a w=>∃(x30:List aP),∃(x36:List Rat),∃(x42:Int),∃(b31:Option Nat),∃(c32:Nat),∃(n33:Nat),n4 K a1 k x30 x36 x42=some (x43',x49')∧x30.length=n33∧x36.length=x5.length∧hs _ [⟨some b16,1,90,3,1,([pI .i64 (a1.length:Int)]++[pO b31 n33 c32]++[pO b7 x5.length x5.length])⟩,hO aP.cod b31 c32 92 n33 x30,hO cQ b7 x5.length 42 x5.length x36] [(0,.vc (pS (fZ cQ) a0)),(1,.vc (pS cQ a1)),(6,.vc (pI .i64 (a1.length:Int))),(7,.vc (pP (some b16) 0)),(28,.vc (pI .i64 (a1.length:Int))),(29,.vc (pI .i64 x42))] a w) K (fun a w ⟨_,_,_,_,_,_,hF,_,_,_⟩=>by cases hF) (fun k a w ⟨x30,x36,x42,b31,c32,n33,hF,q34,q40,hh⟩=>dV ?_ hh) (fun a w hh=>⟨([]:List aP),x5,0,none,0,0,hL,rfl,rfl,wT [0,1,2] rfl (by decide) (by exact⟨rfl,rfl,rfl,rfl,rfl,rfl,trivial⟩) hh⟩)
 rw [n4.eq_2] at hF
 refine aD (aK (aH (aGb rfl) zU2 ?_))
 refine aU (aJ (aD (aFi rfl (fun h191=>?_) (fun h191=>?_))))
 ·have hF:=tA h191 hF
  refine iC (aJ (aD (aI (aD (aK (fL ?_))))))
  refine y6 ?_
  refine aU (aJ (aD ?_))
  obtain⟨v194,h195,hF⟩:=aO hF
  obtain⟨v196,h197,hF⟩:=aO hF
  obtain⟨v198,h199,hF⟩:=aO hF
  refine iG [0,1,0,0,0,24,56,120,255,511] 9 1 [.v (.vc (pP (some b16) 2)),.v (.vc (pO b7 x5.length x5.length)),.v (.vc (pI .i64 x42)),.v (.vc (pS cQ a1)),.v (.vc (pI .i64 x42)),.v (.vc (pM (cQ.e v194))),.v (.va (eQ v194)),.v (.va (eQ v196)),.v (.vc (pE b7 x42 cQ.n 0))] aW ⟨d0 (jW (off:=0) (k:=2) rfl tyF90_2) zU1,d0 (iD 0 1 rfl rfl rfl rfl (.one tyO24)) zU1,d0 (aM (.inl rfl)) zU1,d0 (aM (.inl rfl)) zU1,d0 (aM (.inl rfl)) zU1,d0 (vZ rfl tyS24 h195) zU2,d0 (vH 4 rfl rfl (.agg tyA42)) zU1,d0 (bD rfl (wJ h197) rfl) zU1,d0 (gN (C:=cQ) 2 rfl tyS24 rfl q40 (aG h199).1 (aG h199).2.1) zU2,trivial⟩ (fun bs193 G192=>?_)
  obtain⟨x200,h201,hF⟩:=aO hF
  refine lI (wB 2 rfl rfl h199 h201 tyA42.s) zU2 ?_
  refine aU (aJ (aD (aK (fL ?_))))
  obtain⟨x203,h204,hF⟩:=aO hF
  refine qG (C:=cQ) rfl tyS24 rfl tyZ42q rfl h204 (fun b205=>?_)
  refine aH (fG (is:=[0]) (xs:=[.tmp 42]) (ps:=[.vc (pO b205 x203.length x203.length)]) rfl tyB92q rfl rfl ⟨trivial,trivial⟩ rfl) zU1 ?_
  refine aL rfl tyZ92q (fun b208=>?_)
  refine lI (t_s 0 rfl rfl rfl tyA92.s) zU2 ?_
  refine aU (aJ (aD ?_))
  obtain⟨v211,h212,hF⟩:=aO hF
  obtain⟨v213,h214,hF⟩:=aO hF
  refine iG [0,1,0,0,15,31] 5 1 [.v (.vc (pP (some b208) 0)),.v (.vc (pO b205 x203.length x203.length)),.v (.vc (pI .i64 x42)),.v (.va (eQ v211)),.v (.vc (pE b205 x42 cQ.n 0))] aW ⟨d0 (jW (off:=0) (k:=0) rfl tyF92_0) zU1,d0 (iD 0 1 rfl rfl rfl rfl (.one tyO24)) zU1,d0 (aM (.inl rfl)) zU1,d0 (bD rfl (tE h212) rfl) ⟨oJ _ _,oJ _ _,trivial⟩,d0 (gN (C:=cQ) 1 rfl tyS24 rfl rfl (aG h214).1 (aG h214).2.1) zU2,trivial⟩ (fun bs210 G209=>?_)
  obtain⟨x215,h216,hF⟩:=aO hF
  refine lI (wB 1 rfl rfl h214 h216 tyA42.s) zU2 ?_
  refine aU (aJ (aK (aH (jW (off:=0) (k:=1) rfl tyF90_1) zU1 ?_)))
  refine aH (iD 2 1 rfl rfl rfl rfl (.one tyO88)) zU1 ?_
  refine aPl 1 0 0 [42,45] rfl (bE h216 rfl) rfl rfl rfl rfl rfl zU2 ?_
  refine aH (iD 0 5 rfl rfl rfl rfl (.agg tyA92)) zU1 ?_
  refine aH (gP (C:=aP.cod) (xs:=[.tmp 51]) (ps:=[.va ([pS cQ x215]++(eQ 0))]) (zs:=[(⟨x215,0⟩:aP)]) rfl tyS88 rfl ⟨⟨trivial,rfl⟩,trivial⟩ rfl) zU1 ?_
  obtain⟨x218,h219,hF⟩:=aO hF
  refine kK 2 rfl tyS88 rfl rfl q34 rfl rfl h219 (fun b220 c221 H222 e223=>?_)
  cases e223
  refine aH (jW (off:=0) (k:=1) rfl tyF90_1) zU1 ?_
  refine lI (t_s 1 rfl rfl rfl tyO88.s) zU2 ?_
  refine aU (aAV (aJ (aK ?_)))
  obtain⟨v225,h226,hF⟩:=aO hF
  refine aH (yU rfl h226) ⟨rfl,oJ _ _,trivial⟩ ?_
  refine fL ?_
  refine aU ?_
  exact aF (fun a w hh=>⟨x218,x200,v225,b220,c221,(n33+[(⟨x215,0⟩:aP)].length),hF,(bL h219 q34),(bE h201 q40),wT [1,2,3] rfl (by decide) (by exact⟨rfl,rfl,rfl,rfl,rfl,rfl,trivial⟩) hh⟩)
 have hF:=rJ h191 hF
 refine bI ?_
 obtain⟨rfl,rfl⟩:=sm2 hF
 exact aDa Jj56 ⟨x30,x36,b31,c32,n33,hRl55,q34,q40,rfl,rfl⟩ [0,1,2] rfl ⟨rfl,rfl,rfl,trivial⟩
def rD (K:Nat) (a1:List Rat) (a2:List Rat):Option Bool:=
 (wP K a1 a2).bind fun v15=>(xD v15).bind fun v17=>some (decide (v17<0))
def rH (K:Nat) (x12:Int) (recl13:Int→Option (LR Bool Unit)) (x25:Rat):Option (LR Bool Unit):=
 (xD x25).bind fun v28=>bif(decide (0<v28)) then(some (.ret false)) else((aR (x12+1)).bind fun v31=>recl13 v31)
def mV (K:Nat) (a0:List (List Rat)) (a1:List Rat) (a2:List Rat) (x12:Int):Nat→Rat→Int→Option Rat
 |0,_,_=>none
 |k+1,x23,x24=>bif(decide (x24<(a1.length:Int))) then((bO a2 x24).bind fun v36=>(bO a0 x24).bind fun v38=>(bO v38 x12).bind fun v40=>(aES v36 v40).bind fun v42=>(aDR x23 v42).bind fun v44=>(aR (x24+1)).bind fun v46=>mV K a0 a1 a2 x12 k v44 v46) else(some x23)
def kV (K:Nat) (a0:List (List Rat)) (a1:List Rat) (a2:List Rat):Nat→Int→Option (LR Bool Unit)
 |0,_=>none
 |k+1,x12=>bif(decide (x12<(a1.length:Int))) then((mV K a0 a1 a2 x12 K 0 0).bind fun x25=>rH K x12 (kV K a0 a1 a2 k) x25) else(some (.go ()))
def t8 (K:Nat) (a0:List (List Rat)) (a1:List Rat) (a2:List Rat):Option Bool:=
 (dX K a0 a1).bind fun v1=>bif(!v1) then(some false) else(bif((a2.length:Int) != (a1.length:Int)) then(some false) else((kM K a2).bind fun v5=>bif(!v5) then(some false) else((gR K a2).bind fun v8=>bif v8 then(some false) else((kV K a0 a1 a2 K 0).bind fun o=>match o with| .ret r=>some r| .go _=>rD K a1 a2))))
theorem aA5 {K:Nat} {a0:List (List Rat)} {a1:List Rat} {a2:List Rat} {r:Bool} (hF:t8 K a0 a1 a2=some r):Ct Tryz.prog 31 [.vc (pS (fZ cQ) a0),.vc (pS cQ a1),.vc (pS cQ a2)] (.vc (pB r)):=by
 unfold t8 at hF
 refine aA Tryz.func31 rfl (by kernel_rfl) Tryz.ntmps31 rfl (fun w0 M0=>?_)
 obtain⟨v1,h2,hF⟩:=aX hF rM
 refine go ?_ ?_
 refine cG hF (fun h3 hF=>?_) (fun h3 hF=>?_)
 ·refine go ?_ ?_
  refine eU rfl ?_
  exact bP
 refine go ?_ ?_
 refine cG hF (fun h4 hF=>?_) (fun h4 hF=>?_)
 ·refine go ?_ ?_
  refine eU rfl ?_
  exact bP
 obtain⟨v5,h6,hF⟩:=aX hF sN
 refine go ?_ ?_
 refine cG hF (fun h7 hF=>?_) (fun h7 hF=>?_)
 ·refine go ?_ ?_
  refine eU rfl ?_
  exact bP
 obtain⟨v8,h9,hF⟩:=aX hF oX
 refine go ?_ ?_
 refine aC hF rfl (fun h10 hF=>?_) (fun h10 hF=>?_)
 ·exact bP
 refine go ?_ ?_
 refine aI (aY (fun H E=>rD K a1 a2=some r∧H=[]∧E=[(1,.vc (pS cQ a1)),(2,.vc (pS cQ a2))]) ?_ (fun Jj14=>?_))
 ·rintro _ _ ⟨hF,rfl,rfl⟩
  unfold rD at hF
  obtain⟨v15,h16,hF⟩:=aX hF aCb
  obtain⟨v17,h18,hF⟩:=aX hF iJ
  exact bP
 obtain⟨ol13,hL,hRl13⟩:=aO hF
 refine dW (fun k a w=>∃(x12:Int),kV K a0 a1 a2 k x12=some ol13∧hs _ [] [(0,.vc (pS (fZ cQ) a0)),(1,.vc (pS cQ a1)),(2,.vc (pS cQ a2)),(31,.vc (pI .i64 (a1.length:Int))),(32,.vc (pI .i64 x12))] a w) K (fun a w ⟨_,hF,_⟩=>by cases hF) (fun k a w ⟨x12,hF,hh⟩=>dV ?_ hh) (fun a w hh=>⟨0,hL,gO [] hh⟩)
 rw [kV.eq_2] at hF
 refine go ?_ ?_
 refine aC hF rfl (fun h19 hF=>?_) (fun h19 hF=>?_)
 ·refine go ?_ ?_
  refine aI (go ?_ ?_)
  refine aH (fG (is:=[]) (xs:=[]) (ps:=[]) rfl tyB42q rfl rfl trivial rfl) trivial ?_
  refine aL rfl tyZ42q (fun b20=>?_)
  refine go ?_ ?_
  refine aI (aY (fun H E=>∃(x25:Rat),rH K x12 (kV K a0 a1 a2 k) x25=some ol13∧H=[⟨some b20,1,42,4,1,(eQ x25)⟩]∧E=[(0,.vc (pS (fZ cQ) a0)),(1,.vc (pS cQ a1)),(2,.vc (pS cQ a2)),(8,.vc (pP (some b20) 0)),(31,.vc (pI .i64 (a1.length:Int))),(32,.vc (pI .i64 x12))]) ?_ (fun Jj27=>?_))
  ·rintro _ _ ⟨x25,hF,rfl,rfl⟩
   unfold rH at hF
   obtain⟨v28,h29,hF⟩:=aX hF iJ
   refine go ?_ ?_
   refine aC hF rfl (fun h30 hF=>?_) (fun h30 hF=>?_)
   ·exact bP
   obtain⟨v31,h32,hF⟩:=aO hF
   refine go ?_ ?_
   exact aF (fun a w hh=>⟨v31,hF,gO [] hh⟩)
  obtain⟨x25',hL,hRl26⟩:=aO hF
  refine dW (fun k a w=>∃(x23:Rat),∃(x24:Int),mV K a0 a1 a2 x12 k x23 x24=some x25'∧hs _ [⟨some b20,1,42,4,1,(eQ x23)⟩] [(0,.vc (pS (fZ cQ) a0)),(1,.vc (pS cQ a1)),(2,.vc (pS cQ a2)),(7,.vc (pI .i64 x12)),(8,.vc (pP (some b20) 0)),(31,.vc (pI .i64 (a1.length:Int))),(32,.vc (pI .i64 x12)),(37,.vc (pI .i64 (a1.length:Int))),(38,.vc (pI .i64 x24))] a w) K (fun a w ⟨_,_,hF,_⟩=>by cases hF) (fun k a w ⟨x23,x24,hF,hh⟩=>dV ?_ hh) (fun a w hh=>⟨0,0,hL,gO [0] hh⟩)
  rw [mV.eq_2] at hF
  refine go ?_ ?_
  refine aC hF rfl (fun h33 hF=>?_) (fun h33 hF=>?_)
  ·refine go ?_ ?_
   refine aI ?_
   obtain⟨v36,h37,v38,h39,v40,h41,hF⟩:=bn3 hF
   obtain⟨v42,h43,hF⟩:=aX hF yZ
   obtain⟨v44,h45,hF⟩:=aX hF aCp
   refine go ?_ ?_
   refine dr [0,0,0,6,14,0,0,96,224,0,992,2016,4094,8191,16383] 14 1 ?_ (fun bs35 G34=>?_)
   obtain⟨v46,h47,hF⟩:=aO hF
   refine go ?_ ?_
   exact aF (fun a w hh=>⟨v44,v46,hF,gO [0] hh⟩)
  refine bI ?_
  obtain rfl:=iR hF
  exact p6 Jj27 ⟨x23,hRl26,rfl,rfl⟩ [0]
 refine bI ?_
 obtain rfl:=iR hF
 exact p6 Jj14 ⟨hRl13,rfl,rfl⟩ []
def mN (a0:List Int) (a1:Int):Option (List Int):=
 (slL a0 0 (min (a0.length:Int) a1)).bind fun x3=>(sD ([]:List Int) x3).bind fun x5=>some x5
theorem aB3 {a0:List Int} {a1:Int} {r:List Int} (hF:mN a0 a1=some r):Ct Tryz.prog 22 [.vc (pS cI a0),.vc (pI .i64 a1)] (.vc (pS cI r)):=by
 unfold mN at hF
 refine aA Tryz.func22 rfl (by kernel_rfl) Tryz.ntmps22 rfl (fun w0 M0=>?_)
 refine aD (aK (aH (aM (.inr rfl)) ⟨eM cI,trivial⟩ ?_))
 refine aU (aJ (aD (aK (pN cI 3 rfl ?_))))
 obtain⟨x3,h4,x5,h6,hF⟩:=tY hF
 refine go ?_ ?_
 refine kK 0 rfl tyS22 rfl rfl rfl rfl rfl h6 (fun b7 c8 H9 e10=>?_)
 cases e10
 refine go ?_ ?_
 refine fX (fY (mL 0 [4,13] rfl (bL h6 rfl) zU2 rfl ?_))
 obtain rfl:=iR hF
 exact gW (.inl rfl) Tryz.results22 (.tmp rfl .nil) rfl rfl
def n5 (K:Nat) (v11:List Rat):Option Bool:=
 (iQ K v11).bind fun v17=>some (!v17)
def fJ (K:Nat) (a2:List Rat) (v11:List Rat):Nat→Int→Option (LR Bool Unit)
 |0,_=>none
 |k+1,x14=>bif(decide (x14<(a2.length:Int))) then((bO a2 x14).bind fun v20=>(xD v20).bind fun v22=>bif(v22 != 0) then((bO v11 x14).bind fun v25=>(xD v25).bind fun v27=>bif(v27 != 0) then(some (.ret false)) else((aR (x14+1)).bind fun v30=>fJ K a2 v11 k v30)) else((aR (x14+1)).bind fun v32=>fJ K a2 v11 k v32)) else(some (.go ()))
def eH (K:Nat) (a0:List (List Rat)) (a1:List Rat) (a2:List Rat):Option Bool:=
 (fO K a0 a1).bind fun v1=>bif(!v1) then(some false) else(bif((a2.length:Int) != (a1.length:Int)) then(some false) else((lF K a2).bind fun v5=>bif(!v5) then(some false) else((iQ K a2).bind fun v8=>bif v8 then(some false) else((tB K a0 a1 a2).bind fun v11=>(fJ K a2 v11 K 0).bind fun o=>match o with| .ret r=>some r| .go _=>n5 K v11))))
theorem wZ {K:Nat} {a0:List (List Rat)} {a1:List Rat} {a2:List Rat} {r:Bool} (hF:eH K a0 a1 a2=some r):Ct Tryz.prog 23 [.vc (pS (fZ cQ) a0),.vc (pS cQ a1),.vc (pS cQ a2)] (.vc (pB r)):=by
 unfold eH at hF
 refine aA Tryz.func23 rfl (by kernel_rfl) Tryz.ntmps23 rfl (fun w0 M0=>?_)
 obtain⟨v1,h2,hF⟩:=aX hF w7
 refine go ?_ ?_
 refine cG hF (fun h3 hF=>?_) (fun h3 hF=>?_)
 ·refine go ?_ ?_
  refine eU rfl ?_
  exact bP
 refine go ?_ ?_
 refine cG hF (fun h4 hF=>?_) (fun h4 hF=>?_)
 ·refine go ?_ ?_
  refine eU rfl ?_
  exact bP
 obtain⟨v5,h6,hF⟩:=aX hF uH
 refine go ?_ ?_
 refine cG hF (fun h7 hF=>?_) (fun h7 hF=>?_)
 ·refine go ?_ ?_
  refine eU rfl ?_
  exact bP
 obtain⟨v8,h9,hF⟩:=aX hF rV
 refine go ?_ ?_
 refine aC hF rfl (fun h10 hF=>?_) (fun h10 hF=>?_)
 ·exact bP
 obtain⟨v11,h12,hF⟩:=aX hF aDm
 refine go ?_ ?_
 refine aI (aY (fun H E=>n5 K v11=some r∧H=[]∧E=[(7,.vc (pS cQ v11))]) ?_ (fun Jj16=>?_))
 ·rintro _ _ ⟨hF,rfl,rfl⟩
  unfold n5 at hF
  obtain⟨v17,h18,hF⟩:=aX hF rV
  exact bP
 obtain⟨ol15,hL,hRl15⟩:=aO hF
 refine dW (fun k a w=>∃(x14:Int),fJ K a2 v11 k x14=some ol15∧hs _ [] [(2,.vc (pS cQ a2)),(7,.vc (pS cQ v11)),(8,.vc (pI .i64 x14))] a w) K (fun a w ⟨_,hF,_⟩=>by cases hF) (fun k a w ⟨x14,hF,hh⟩=>dV ?_ hh) (fun a w hh=>⟨0,hL,gO [] hh⟩)
 rw [fJ.eq_2] at hF
 refine go ?_ ?_
 refine aC hF rfl (fun h19 hF=>?_) (fun h19 hF=>?_)
 ·refine go ?_ ?_
  refine aI ?_
  obtain⟨v20,h21,hF⟩:=aO hF
  obtain⟨v22,h23,hF⟩:=aX hF rR
  refine go ?_ ?_
  refine cG hF (fun h24 hF=>?_) (fun h24 hF=>?_)
  ·obtain⟨v25,h26,hF⟩:=aO hF
   obtain⟨v27,h28,hF⟩:=aX hF rR
   refine go ?_ ?_
   refine aC hF rfl (fun h29 hF=>?_) (fun h29 hF=>?_)
   ·exact bP
   obtain⟨v30,h31,hF⟩:=aO hF
   refine go ?_ ?_
   exact aF (fun a w hh=>⟨v30,hF,gO [] hh⟩)
  refine go ?_ ?_
  refine uV rfl ?_
  obtain⟨v32,h33,hF⟩:=aO hF
  refine go ?_ ?_
  exact aF (fun a w hh=>⟨v32,hF,gO [] hh⟩)
 refine bI ?_
 obtain rfl:=iR hF
 exact p6 Jj16 ⟨hRl15,rfl,rfl⟩ []
end Go.Proofs.YtolfcbpgmfbgmaaGreat
set_option linter.unusedVariables false
set_option maxRecDepth 100000
namespace Go.Proofs.YtolfcbpgmfbgmaaGreat
noncomputable def nH (K:Nat) (a0:List (List Rat)) (a1:List Rat) (a2 a3:Int):Option (List (List aE)×List aE):=gL K (a0.map (List.map Qr)) (a1.map Qr) a2 a3
theorem y9 {K:Nat} {a0:List (List Rat)} {a1:List Rat} {a2 a3:Int} {r:List (List aE)×List aE} (hF:nH K a0 a1 a2 a3=some r):Ct Tryz.prog zU [.vc (pS (fZ cQ) a0),.vc (pS cQ a1),.vc (pI .i64 a2),.vc (pI .i64 a3)] (.t2 (.vc (pS (fZ aE.c) r.1)) (.vc (pS aE.c r.2))):=by
 rw [aG0,aDo];exact y8 hF
noncomputable def dJ (K:Nat) (a0:List (List aE)) (a1:List aE) (a2:List Rat):Option Bool:=
 match aDO a0,aDV a1 with
 |some M,some q=>dZ K M q a2
 |_,_=>lY K a0 a1 (a2.map Qr)
theorem z8 {K:Nat} {a0:List (List aE)} {a1:List aE} {a2:List Rat} {r:Bool} (hF:dJ K a0 a1 a2=some r):Ct Tryz.prog aAF [.vc (pS (fZ aE.c) a0),.vc (pS aE.c a1),.vc (pS cQ a2)] (.vc (pB r)):=by
 unfold dJ at hF
 split at hF
 ·rename_i M q h1 h2
  rw [aF2 h1,aFW h2,←aG0,←aDo]
  exact uK hF
 ·rw [aDo a2];exact aAp hF
noncomputable def cW (K:Nat) (a0:List (List aE)) (a1:List aE) (a2:List Rat):Option Bool:=
 match aDO a0,aDV a1 with
 |some M,some q=>eH K M q a2
 |_,_=>lJ K a0 a1 (a2.map Qr)
theorem z5 {K:Nat} {a0:List (List aE)} {a1:List aE} {a2:List Rat} {r:Bool} (hF:cW K a0 a1 a2=some r):Ct Tryz.prog aAf [.vc (pS (fZ aE.c) a0),.vc (pS aE.c a1),.vc (pS cQ a2)] (.vc (pB r)):=by
 unfold cW at hF
 split at hF
 ·rename_i M q h1 h2
  rw [aF2 h1,aFW h2,←aG0,←aDo]
  exact wZ hF
 ·rw [aDo a2];exact zW hF
noncomputable def qS (K:Nat) (x17:List Rat):Option (List Rat):=
 some x17
noncomputable def jZ (K:Nat) (a0:List Int):Nat→(List Rat)→Int→Option (List Rat)
 |0,_,_=>none
 |k+1,x10,x16=>bif(decide (x16<(a0.length:Int))) then((bO a0 x16).bind fun v26=>(qof v26 1).bind fun v28=>(sD x10 [v28]).bind fun x30=>(aR (x16+1)).bind fun v37=>jZ K a0 k x30 v37) else(some x10)
noncomputable def cD (K:Nat) (a0:List Int):Option (List Rat):=
 (jZ K a0 K ([]:List Rat) 0).bind fun x17=>qS K x17
theorem dQ {K:Nat} {a0:List Int} {r:List Rat} (hF:cD K a0=some r):Ct Tryz.prog 21 [.vc (pS cI a0)] (.vc (pS cQ r)):=by
 unfold cD at hF
 refine aA Tryz.func21 rfl (by kernel_rfl) Tryz.ntmps21 rfl (fun w0 M0=>?_)
 refine aD (aK (aH (aM (.inr rfl)) ⟨eM cQ,trivial⟩ ?_))
 refine aU (aJ (aD (aK (pN cQ 42 rfl ?_))))
 refine go ?_ ?_
 refine aI (aY (fun H E=>∃(x17:List Rat),∃(b18:Option Nat),∃(c19:Nat),∃(n20:Nat),qS K x17=some r∧x17.length=n20∧H=[hO cQ b18 c19 42 n20 x17]∧E=[(3,.vc (pO b18 n20 c19))]) ?_ (fun Jj24=>?_))
 ·rintro _ _ ⟨x17,b18,c19,n20,hF,q21,rfl,rfl⟩
  unfold qS at hF
  refine go ?_ ?_
  refine fX (fY (mL 0 [2,3,19] rfl q21 ⟨rfl,rfl,rfl,trivial⟩ rfl ?_))
  obtain rfl:=iR hF
  exact gW (.inl rfl) Tryz.results21 (.tmp rfl .nil) rfl rfl
 obtain⟨x17',hL,hRl23⟩:=aO hF
 refine dW (fun k a w=>∃(x10:List Rat),∃(x16:Int),∃(b11:Option Nat),∃(c12:Nat),∃(n13:Nat),jZ K a0 k x10 x16=some x17'∧x10.length=n13∧hs _ [hO cQ b11 c12 42 n13 x10] [(0,.vc (pS cI a0)),(3,.vc (pO b11 n13 c12)),(4,.vc (pI .i64 x16))] a w) K (fun a w ⟨_,_,_,_,_,hF,_,_⟩=>by cases hF) (fun k a w ⟨x10,x16,b11,c12,n13,hF,q14,hh⟩=>dV ?_ hh) (fun a w hh=>⟨([]:List Rat),0,none,0,0,hL,rfl,gO [0] hh⟩)
 rw [jZ.eq_2] at hF
 refine go ?_ ?_
 refine aC hF rfl (fun h25 hF=>?_) (fun h25 hF=>?_)
 ·refine go ?_ ?_
  refine aI ?_
  obtain⟨v26,h27,hF⟩:=aO hF
  obtain⟨v28,h29,hF⟩:=aX hF cR
  refine go ?_ ?_
  refine aH (gP (C:=cQ) (xs:=[.tmp 16]) (ps:=[.va (eQ v28)]) (zs:=[v28]) rfl tyS24 rfl ⟨⟨trivial,rfl⟩,trivial⟩ rfl) zU1 ?_
  obtain⟨x30,h31,hF⟩:=aO hF
  refine kK 0 rfl tyS24 rfl rfl q14 rfl rfl h31 (fun b32 c33 H34 e35=>?_)
  cases e35
  obtain⟨v37,h38,hF⟩:=aO hF
  refine go ?_ ?_
  exact aF (fun a w hh=>⟨x30,v37,b32,c33,(n13+[v28].length),hF,(bL h31 q14),gO [0] hh⟩)
 refine bI ?_
 obtain rfl:=iR hF
 exact p6 Jj24 ⟨x10,b11,c12,n13,hRl23,q14,rfl,rfl⟩ [0]
noncomputable def oM (K:Nat):Option Bool:=
 (cD K [2,1]).bind fun v1=>(cD K [1,2]).bind fun v3=>(cD K [(-5),(-6)]).bind fun v5=>(gF K [v1,v3] v5 9).bind fun v7=>(cD K [(-4),1]).bind fun v10=>(gF K [v1,v3] v10 9).bind fun v12=>(cD K [0]).bind fun v15=>(cD K [(-1)]).bind fun v17=>(gF K [v15] v17 9).bind fun v19=>(cD K [(-5),(-6)]).bind fun v22=>(uI K [v1,v3] v22).bind fun v24=>bif(v7.2 != 0) then(some false) else(bif(v12.2 != 0) then(some false) else(bif(v19.2 != 15) then(some false) else(bif(v24.2 != 6) then(some false) else((cD K [(-1)]).bind fun v30=>(cD K [1]).bind fun v32=>(t8 K [v15] v30 v32).bind fun v34=>bif(!v34) then(some false) else((qof 4 3).bind fun v37=>(qof 7 3).bind fun v39=>(o7 K v7.1.z [v37,v39]).bind fun v43=>bif v43 then((cD K [2,0]).bind fun v46=>(o7 K v12.1.z v46).bind fun v48=>bif v48 then((cD K [0,3]).bind fun v51=>(o7 K v12.1.w v51).bind fun v53=>bif v53 then((cD K [(-5),(-6)]).bind fun v56=>(dZ K [v1,v3] v56 [v37,v39]).bind fun v58=>some v58) else(some false)) else(some false)) else(some false))))))
theorem aBw {K:Nat} {r:Bool} (hF:oM K=some r):Ct Tryz.prog 18 [] (.vc (pB r)):=by
 unfold oM at hF
 refine aA Tryz.func18 rfl (by kernel_rfl) Tryz.ntmps18 rfl (fun w0 M0=>?_)
 refine go ?_ ?_
 refine aH (gP (C:=cI) (xs:=[.const (.int .i64 (2)),.const (.int .i64 (1))]) (ps:=[.vc (pI .i64 2),.vc (pI .i64 1)]) (zs:=[2,1]) rfl tyS22 rfl ⟨⟨trivial,rfl⟩,⟨trivial,rfl⟩,trivial⟩ rfl) ⟨oJ _ _,oJ _ _,trivial⟩ ?_
 obtain⟨v1,h2,hF⟩:=aX hF dQ
 refine aH (bD rfl h2 rfl) zU1 ?_
 refine aH (gP (C:=cI) (xs:=[.const (.int .i64 (1)),.const (.int .i64 (2))]) (ps:=[.vc (pI .i64 1),.vc (pI .i64 2)]) (zs:=[1,2]) rfl tyS22 rfl ⟨⟨trivial,rfl⟩,⟨trivial,rfl⟩,trivial⟩ rfl) ⟨oJ _ _,oJ _ _,trivial⟩ ?_
 obtain⟨v3,h4,hF⟩:=aX hF dQ
 refine aH (bD rfl h4 rfl) zU1 ?_
 refine aH (gP (C:=(fZ cQ)) (xs:=[.tmp 13,.tmp 15]) (ps:=[.vc (pS cQ v1),.vc (pS cQ v3)]) (zs:=[v1,v3]) rfl tyS23 rfl ⟨⟨trivial,rfl⟩,⟨trivial,rfl⟩,trivial⟩ rfl) zU2 ?_
 refine go ?_ ?_
 refine aH (gP (C:=cI) (xs:=[.const (.int .i64 (-5)),.const (.int .i64 (-6))]) (ps:=[.vc (pI .i64 (-5)),.vc (pI .i64 (-6))]) (zs:=[(-5),(-6)]) rfl tyS22 rfl ⟨⟨trivial,rfl⟩,⟨trivial,rfl⟩,trivial⟩ rfl) ⟨oJ _ _,oJ _ _,trivial⟩ ?_
 obtain⟨v5,h6,hF⟩:=aX hF dQ
 obtain⟨v7,h8,hF⟩:=aX hF uJ
 refine go ?_ ?_
 refine aL rfl tyZ30q (fun b9=>?_)
 refine go ?_ ?_
 refine aH (gP (C:=cI) (xs:=[.const (.int .i64 (-4)),.const (.int .i64 (1))]) (ps:=[.vc (pI .i64 (-4)),.vc (pI .i64 1)]) (zs:=[(-4),1]) rfl tyS22 rfl ⟨⟨trivial,rfl⟩,⟨trivial,rfl⟩,trivial⟩ rfl) ⟨oJ _ _,oJ _ _,trivial⟩ ?_
 obtain⟨v10,h11,hF⟩:=aX hF dQ
 obtain⟨v12,h13,hF⟩:=aX hF uJ
 refine go ?_ ?_
 refine aL rfl tyZ30q (fun b14=>?_)
 refine go ?_ ?_
 refine aH (gP (C:=cI) (xs:=[.const (.int .i64 (0))]) (ps:=[.vc (pI .i64 0)]) (zs:=[0]) rfl tyS22 rfl ⟨⟨trivial,rfl⟩,trivial⟩ rfl) ⟨oJ _ _,trivial⟩ ?_
 obtain⟨v15,h16,hF⟩:=aX hF dQ
 refine aH (bD rfl h16 rfl) zU1 ?_
 refine aH (gP (C:=(fZ cQ)) (xs:=[.tmp 32]) (ps:=[.vc (pS cQ v15)]) (zs:=[v15]) rfl tyS23 rfl ⟨⟨trivial,rfl⟩,trivial⟩ rfl) zU1 ?_
 refine go ?_ ?_
 refine aH (gP (C:=cI) (xs:=[.const (.int .i64 (-1))]) (ps:=[.vc (pI .i64 (-1))]) (zs:=[(-1)]) rfl tyS22 rfl ⟨⟨trivial,rfl⟩,trivial⟩ rfl) ⟨oJ _ _,trivial⟩ ?_
 obtain⟨v17,h18,hF⟩:=aX hF dQ
 obtain⟨v19,h20,hF⟩:=aX hF uJ
 refine go ?_ ?_
 refine aL rfl tyZ30q (fun b21=>?_)
 refine go ?_ ?_
 refine aH (gP (C:=cI) (xs:=[.const (.int .i64 (-5)),.const (.int .i64 (-6))]) (ps:=[.vc (pI .i64 (-5)),.vc (pI .i64 (-6))]) (zs:=[(-5),(-6)]) rfl tyS22 rfl ⟨⟨trivial,rfl⟩,⟨trivial,rfl⟩,trivial⟩ rfl) ⟨oJ _ _,oJ _ _,trivial⟩ ?_
 obtain⟨v22,h23,hF⟩:=aX hF dQ
 obtain⟨v24,h25,hF⟩:=aX hF aBy
 refine go ?_ ?_
 refine cG hF (fun h26 hF=>?_) (fun h26 hF=>?_)
 ·refine go ?_ ?_
  refine eU rfl ?_
  exact bP
 refine go ?_ ?_
 refine cG hF (fun h27 hF=>?_) (fun h27 hF=>?_)
 ·refine go ?_ ?_
  refine eU rfl ?_
  exact bP
 refine go ?_ ?_
 refine cG hF (fun h28 hF=>?_) (fun h28 hF=>?_)
 ·refine go ?_ ?_
  refine eU rfl ?_
  exact bP
 refine go ?_ ?_
 refine cG hF (fun h29 hF=>?_) (fun h29 hF=>?_)
 ·refine go ?_ ?_
  refine eU rfl ?_
  exact bP
 refine wE (aM (.inl rfl)) zU1 ?_
 refine wE (gP (C:=cI) (xs:=[.const (.int .i64 (-1))]) (ps:=[.vc (pI .i64 (-1))]) (zs:=[(-1)]) rfl tyS22 rfl ⟨⟨trivial,rfl⟩,trivial⟩ rfl) ⟨oJ _ _,trivial⟩ ?_
 obtain⟨v30,h31,hF⟩:=aX hF dQ
 refine wE (bD rfl h31 rfl) zU1 ?_
 refine wE (gP (C:=cI) (xs:=[.const (.int .i64 (1))]) (ps:=[.vc (pI .i64 1)]) (zs:=[1]) rfl tyS22 rfl ⟨⟨trivial,rfl⟩,trivial⟩ rfl) ⟨oJ _ _,trivial⟩ ?_
 obtain⟨v32,h33,hF⟩:=aX hF dQ
 obtain⟨v34,h35,hF⟩:=aX hF aA5
 refine go ?_ ?_
 refine aC hF rfl (fun h36 hF=>?_) (fun h36 hF=>?_)
 ·exact bP
 obtain⟨v37,h38,hF⟩:=aX hF cR
 obtain⟨v39,h40,hF⟩:=aX hF cR
 refine go ?_ ?_
 refine aH (gP (C:=cQ) (xs:=[.tmp 71,.tmp 72]) (ps:=[.va (eQ v37),.va (eQ v39)]) (zs:=[v37,v39]) rfl tyS24 rfl ⟨⟨trivial,rfl⟩,⟨trivial,rfl⟩,trivial⟩ rfl) zU2 ?_
 obtain⟨v43,h44,hF⟩:=aX hF uG
 refine go ?_ ?_
 rcases Bool.eq_false_or_eq_true v43 with h45|h45
 ·have hF:=tA h45 hF
  obtain⟨v46,h47,hF⟩:=aX hF dQ
  obtain⟨v48,h49,hF⟩:=aX hF uG
  rcases Bool.eq_false_or_eq_true v48 with h50|h50
  ·have hF:=tA h50 hF
   obtain⟨v51,h52,hF⟩:=aX hF dQ
   obtain⟨v53,h54,hF⟩:=aX hF uG
   rcases Bool.eq_false_or_eq_true v53 with h55|h55
   ·have hF:=tA h55 hF
    obtain⟨v56,h57,hF⟩:=aX hF dQ
    obtain⟨v58,h59,hF⟩:=aX hF uK
    refine iG (0::1::0::7::15::31::63::31::159::511::1023::2047::4095::8191::4095::20479::65535::131071::262143::524287::524287::1572863::524287::8388607::16777215::33554431::[]) 26 0 (.v (.vc (pP (some b9) 0))::.v (.vc (pS cQ v7.1.z))::.v (.vc (pS cQ [v37,v39]))::.v (.vc (pB v43))::.v (.vc (pB true))::.v (.vc (pP (some b14) 0))::.v (.vc (pS cQ v12.1.z))::.v (.vc (pS cI [2,0]))::.v (.vc (pS cQ v46))::.v (.vc (pB v48))::.v (.vc (pB v48))::.v (.vc (pB true))::.v (.vc (pP (some b14) 1))::.v (.vc (pS cQ v12.1.w))::.v (.vc (pS cI [0,3]))::.v (.vc (pS cQ v51))::.v (.vc (pB v53))::.v (.vc (pB v53))::.v (.vc (pB true))::.v (.vc (pS (fZ cQ) [v1,v3]))::.v (.vc (pS cI [(-5),(-6)]))::.v (.vc (pS cQ v56))::.v (.vc (pS cQ [v37,v39]))::.v (.vc (pB v58))::.v (.vc (pB v58))::.v (.vc (pB v58))::[]) aW ⟨d0 (jW (off:=0) (k:=0) rfl tyF30_0) zU1,d0 (iD 2 1 rfl rfl rfl rfl (.one tyO24)) zU1,d0 (aM (.inl rfl)) zU1,d0 (bD rfl h44 rfl) zU2,d0 (lL (aM (.inl rfl)) h45) zU1,g0 (jW (off:=0) (k:=0) rfl tyF30_0) zU1,g0 (iD 1 1 rfl rfl rfl rfl (.one tyO24)) zU1,g0 (gP (C:=cI) (xs:=[.const (.int .i64 (2)),.const (.int .i64 (0))]) (ps:=[.vc (pI .i64 2),.vc (pI .i64 0)]) (zs:=[2,0]) rfl tyS22 rfl ⟨⟨trivial,rfl⟩,⟨trivial,rfl⟩,trivial⟩ rfl) ⟨oJ _ _,oJ _ _,trivial⟩,g0 (bD rfl h47 rfl) zU1,g0 (bD rfl h49 rfl) zU2,d0 (u5 rfl) zU2,d0 (lL (aM (.inl rfl)) h50) zU1,g0 (jW (off:=0) (k:=1) rfl tyF30_1) zU1,g0 (iD 1 1 rfl rfl rfl rfl (.one tyO24)) zU1,g0 (gP (C:=cI) (xs:=[.const (.int .i64 (0)),.const (.int .i64 (3))]) (ps:=[.vc (pI .i64 0),.vc (pI .i64 3)]) (zs:=[0,3]) rfl tyS22 rfl ⟨⟨trivial,rfl⟩,⟨trivial,rfl⟩,trivial⟩ rfl) ⟨oJ _ _,oJ _ _,trivial⟩,g0 (bD rfl h52 rfl) zU1,g0 (bD rfl h54 rfl) zU2,d0 (u5 rfl) zU2,d0 (lL (aM (.inl rfl)) h55) zU1,g0 (aM (.inl rfl)) zU1,g0 (gP (C:=cI) (xs:=[.const (.int .i64 (-5)),.const (.int .i64 (-6))]) (ps:=[.vc (pI .i64 (-5)),.vc (pI .i64 (-6))]) (zs:=[(-5),(-6)]) rfl tyS22 rfl ⟨⟨trivial,rfl⟩,⟨trivial,rfl⟩,trivial⟩ rfl) ⟨oJ _ _,oJ _ _,trivial⟩,g0 (bD rfl h57 rfl) zU1,g0 (aM (.inl rfl)) zU1,g0 (bD rfl h59 rfl) ⟨rfl,rfl,rfl,trivial⟩,d0 (u5 rfl) zU2,d0 (aM (.inr rfl)) zU1,trivial⟩ (fun bs42 G41=>?_)
    refine aU (aJ ?_)
    exact bP
   have hF:=rJ h55 hF
   refine iG (0::1::0::7::15::31::63::31::159::511::1023::2047::4095::8191::4095::20479::65535::131071::262143::524287::524287::1572863::524287::8388607::16777215::33554431::[]) 26 0 (.v (.vc (pP (some b9) 0))::.v (.vc (pS cQ v7.1.z))::.v (.vc (pS cQ [v37,v39]))::.v (.vc (pB v43))::.v (.vc (pB true))::.v (.vc (pP (some b14) 0))::.v (.vc (pS cQ v12.1.z))::.v (.vc (pS cI [2,0]))::.v (.vc (pS cQ v46))::.v (.vc (pB v48))::.v (.vc (pB v48))::.v (.vc (pB true))::.v (.vc (pP (some b14) 1))::.v (.vc (pS cQ v12.1.w))::.v (.vc (pS cI [0,3]))::.v (.vc (pS cQ v51))::.v (.vc (pB v53))::.v (.vc (pB v53))::.v (.vc (pB false))::.v .un::.v .un::.v .un::.v .un::.v .un::.v (.vc (pB false))::.v (.vc (pB false))::[]) aW ⟨d0 (jW (off:=0) (k:=0) rfl tyF30_0) zU1,d0 (iD 2 1 rfl rfl rfl rfl (.one tyO24)) zU1,d0 (aM (.inl rfl)) zU1,d0 (bD rfl h44 rfl) zU2,d0 (lL (aM (.inl rfl)) h45) zU1,g0 (jW (off:=0) (k:=0) rfl tyF30_0) zU1,g0 (iD 1 1 rfl rfl rfl rfl (.one tyO24)) zU1,g0 (gP (C:=cI) (xs:=[.const (.int .i64 (2)),.const (.int .i64 (0))]) (ps:=[.vc (pI .i64 2),.vc (pI .i64 0)]) (zs:=[2,0]) rfl tyS22 rfl ⟨⟨trivial,rfl⟩,⟨trivial,rfl⟩,trivial⟩ rfl) ⟨oJ _ _,oJ _ _,trivial⟩,g0 (bD rfl h47 rfl) zU1,g0 (bD rfl h49 rfl) zU2,d0 (u5 rfl) zU2,d0 (lL (aM (.inl rfl)) h50) zU1,g0 (jW (off:=0) (k:=1) rfl tyF30_1) zU1,g0 (iD 1 1 rfl rfl rfl rfl (.one tyO24)) zU1,g0 (gP (C:=cI) (xs:=[.const (.int .i64 (0)),.const (.int .i64 (3))]) (ps:=[.vc (pI .i64 0),.vc (pI .i64 3)]) (zs:=[0,3]) rfl tyS22 rfl ⟨⟨trivial,rfl⟩,⟨trivial,rfl⟩,trivial⟩ rfl) ⟨oJ _ _,oJ _ _,trivial⟩,g0 (bD rfl h52 rfl) zU1,g0 (bD rfl h54 rfl) zU2,d0 (u5 rfl) zU2,d0 (lL (aM (.inl rfl)) h55) zU1,⟨rfl,.skipN⟩,⟨rfl,.skipN⟩,⟨rfl,.skipN⟩,⟨rfl,.skipN⟩,⟨rfl,.skipN⟩,d0 (zF rfl) ⟨rfl,k_B _,trivial⟩,d0 (aM (.inr rfl)) zU1,trivial⟩ (fun bs42 G41=>?_)
   refine aU (aJ ?_)
   exact bP
  have hF:=rJ h50 hF
  refine iG (0::1::0::7::15::31::63::31::159::511::1023::2047::4095::8191::4095::20479::65535::131071::262143::524287::524287::1572863::524287::8388607::16777215::33554431::[]) 26 0 (.v (.vc (pP (some b9) 0))::.v (.vc (pS cQ v7.1.z))::.v (.vc (pS cQ [v37,v39]))::.v (.vc (pB v43))::.v (.vc (pB true))::.v (.vc (pP (some b14) 0))::.v (.vc (pS cQ v12.1.z))::.v (.vc (pS cI [2,0]))::.v (.vc (pS cQ v46))::.v (.vc (pB v48))::.v (.vc (pB v48))::.v (.vc (pB false))::.v .un::.v .un::.v .un::.v .un::.v .un::.v (.vc (pB false))::.v (.vc (pB false))::.v .un::.v .un::.v .un::.v .un::.v .un::.v (.vc (pB false))::.v (.vc (pB false))::[]) aW ⟨d0 (jW (off:=0) (k:=0) rfl tyF30_0) zU1,d0 (iD 2 1 rfl rfl rfl rfl (.one tyO24)) zU1,d0 (aM (.inl rfl)) zU1,d0 (bD rfl h44 rfl) zU2,d0 (lL (aM (.inl rfl)) h45) zU1,g0 (jW (off:=0) (k:=0) rfl tyF30_0) zU1,g0 (iD 1 1 rfl rfl rfl rfl (.one tyO24)) zU1,g0 (gP (C:=cI) (xs:=[.const (.int .i64 (2)),.const (.int .i64 (0))]) (ps:=[.vc (pI .i64 2),.vc (pI .i64 0)]) (zs:=[2,0]) rfl tyS22 rfl ⟨⟨trivial,rfl⟩,⟨trivial,rfl⟩,trivial⟩ rfl) ⟨oJ _ _,oJ _ _,trivial⟩,g0 (bD rfl h47 rfl) zU1,g0 (bD rfl h49 rfl) zU2,d0 (u5 rfl) zU2,d0 (lL (aM (.inl rfl)) h50) zU1,⟨rfl,.skipN⟩,⟨rfl,.skipN⟩,⟨rfl,.skipN⟩,⟨rfl,.skipN⟩,⟨rfl,.skipN⟩,d0 (zF rfl) ⟨rfl,k_B _,trivial⟩,d0 (aM (.inl rfl)) zU1,⟨rfl,.skipN⟩,⟨rfl,.skipN⟩,⟨rfl,.skipN⟩,⟨rfl,.skipN⟩,⟨rfl,.skipN⟩,d0 (zF rfl) ⟨rfl,k_B _,trivial⟩,d0 (aM (.inr rfl)) zU1,trivial⟩ (fun bs42 G41=>?_)
  refine aU (aJ ?_)
  exact bP
 have hF:=rJ h45 hF
 refine drb (0::1::0::7::15::31::63::31::159::511::1023::2047::4095::8191::4095::20479::65535::131071::262143::524287::524287::1572863::524287::8388607::16777215::33554431::[]) 26 0 ?_ (fun bs42 G41=>?_)
 refine aU (aJ ?_)
 exact bP
noncomputable def iO (K:Nat):Option Bool:=
 (oM K).bind fun v38=>some v38
noncomputable def bZ (K:Nat) (v1:(List (List Rat))×(List Rat)) (v3:(List (List aE))×(List aE)) (v5:aN×Int) (x19:List Rat) (v30:List Rat) (x32:List Rat):Nat→Int→Option (LR Bool Unit)
 |0,_=>none
 |k+1,x35=>bif(decide (x35<([v5.1.z,x19,v30,x32,[]].length:Int))) then((bO [v5.1.z,x19,v30,x32,[]] x35).bind fun v43=>(dZ K v1.1 v1.2 v43).bind fun v45=>(bO [v5.1.z,x19,v30,x32,[]] x35).bind fun v47=>(eH K v1.1 v1.2 v47).bind fun v49=>bif(v45 != v49) then(some (.ret false)) else((bO [v5.1.z,x19,v30,x32,[]] x35).bind fun v52=>(dJ K v3.1 v3.2 v52).bind fun v54=>(bO [v5.1.z,x19,v30,x32,[]] x35).bind fun v56=>(cW K v3.1 v3.2 v56).bind fun v58=>bif(v54 != v58) then(some (.ret false)) else((aR (x35+1)).bind fun v61=>bZ K v1 v3 v5 x19 v30 x32 k v61))) else(some (.go ()))
noncomputable def dE (K:Nat) (a3:List Int) (v1:(List (List Rat))×(List Rat)) (v3:(List (List aE))×(List aE)) (v5:aN×Int) (x19:List Rat):Option Bool:=
 (mN a3 6).bind fun v28=>(cD K v28).bind fun v30=>(y4 (v1.2.length:Int) 0).bind fun x32=>(bZ K v1 v3 v5 x19 v30 x32 K 0).bind fun o=>match o with| .ret r=>some r| .go _=>iO K
noncomputable def kE (K:Nat) (a0:List Int) (a1:Int) (a2:Int) (a3:List Int):Option Bool:=
 (kT K a0 5).bind fun v1=>(nH K v1.1 v1.2 a1 a2).bind fun v3=>(jE K v1.1 v1.2 800).bind fun v5=>(sD ([]:List Rat) v5.1.z).bind fun x11=>bif(decide (0<(x11.length:Int))) then((cE a2 (x11.length:Int)).bind fun v64=>(bO x11 v64).bind fun v68=>(cE a1 5).bind fun v70=>(aR (v70-2)).bind fun v72=>(qof v72 2).bind fun v74=>(aDR v68 v74).bind fun v76=>(bO x11 v64).bind fun v78=>(pA x11 v64 v76).bind fun x80=>dE K a3 v1 v3 v5 x80) else(dE K a3 v1 v3 v5 x11)
theorem vY {K:Nat} {a0:List Int} {a1:Int} {a2:Int} {a3:List Int} {r:Bool} (hF:kE K a0 a1 a2 a3=some r):Ct Tryz.prog 4 [.vc (pS cI a0),.vc (pI .i64 a1),.vc (pI .i64 a2),.vc (pS cI a3)] (.vc (pB r)):=by
 unfold kE at hF
 refine aA Tryz.func4 rfl (by kernel_rfl) Tryz.ntmps4 rfl (fun w0 M0=>?_)
 obtain⟨v1,h2,hF⟩:=aX hF aAE
 obtain⟨v3,h4,hF⟩:=aX hF y9
 obtain⟨v5,h6,hF⟩:=aX hF aBj
 refine go ?_ ?_
 refine aL rfl tyZ30q (fun b7=>?_)
 refine go ?_ ?_
 refine aFl (aCM (C:=cQ) (xs:=[]) (ps:=[]) (zs:=([]:List Rat)) rfl tyS24 rfl trivial rfl) trivial (fun b8 _=>?_)
 refine aH (jW (off:=0) (k:=0) rfl tyF30_0) zU1 ?_
 refine aH (iD 1 1 rfl rfl rfl rfl (.one tyO24)) zU1 ?_
 obtain⟨x11,h12,hF⟩:=aO hF
 refine kK 0 rfl tyS24 rfl rfl rfl rfl rfl h12 (fun b13 c14 H15 e16=>?_)
 cases e16
 refine y6 ?_
 refine aU (aJ (aD (yR (fun H E=>∃(x19:List Rat),dE K a3 v1 v3 v5 x19=some r∧x19.length=(0+v5.1.z.length)∧H=[hO cQ b13 c14 42 (0+v5.1.z.length) x19,⟨some b7,1,30,3,1,(aN.enc v5.1)⟩]∧E=[(3,.vc (pS cI a3)),(9,.vc (pS (fZ cQ) v1.1)),(10,.vc (pS cQ v1.2)),(11,.vc (pS (fZ aE.c) v3.1)),(12,.vc (pS aE.c v3.2)),(13,.vc (pP (some b7) 0)),(15,.vc (pO b13 (0+v5.1.z.length) c14))]) ?_ (fun Jj25=>?_))))
 ·rintro _ _ ⟨x19,hF,q23,rfl,rfl⟩
  unfold dE at hF
  refine aD (aHA 0 [15] rfl q23 zU1 rfl ?_)
  obtain⟨v28,h29,hF⟩:=aX hF aB3
  obtain⟨v30,h31,hF⟩:=aX hF dQ
  obtain⟨x32,h33,hF⟩:=aO hF
  refine iG [0,1,0,0,8,24,0,64,192,511,1023] 11 0 [.v (.vc (pP (some b7) 0)),.v (.vc (pS cQ v5.1.z)),.v (.vc (pS cQ x19)),.v (.vc (pS cI a3)),.v (.vc (pS cI v28)),.v (.vc (pS cQ v30)),.v (.vc (pS cQ v1.2)),.v (.vc (pI .i64 (v1.2.length:Int))),.v (.vc (pS cQ x32)),.v (.vc (pS (fZ cQ) [v5.1.z,x19,v30,x32,[]])),.v (.vc (pS (fZ cQ) [v5.1.z,x19,v30,x32,[]]))] aW ⟨d0 (jW (off:=0) (k:=0) rfl tyF30_0) zU1,d0 (iD 0 1 rfl rfl rfl rfl (.one tyO24)) zU1,d0 (aM (.inl rfl)) zU1,d0 (aM (.inl rfl)) zU1,d0 (bD rfl h29 rfl) ⟨rfl,oJ _ _,trivial⟩,d0 (bD rfl h31 rfl) zU1,d0 (aM (.inl rfl)) zU1,d0 (aGA rfl tyS24) zU1,d0 (aO1 0 (wQ (C:=cQ) rfl tyS24 rfl tyZ42q h33) (fun _ _=>rfl) rfl (fun _ _=>rfl)) zU1,d0 (gP (C:=(fZ cQ)) (xs:=[.tmp 62,.tmp 63,.tmp 66,.tmp 69,.const (.slice none 0 0)]) (ps:=[.vc (pS cQ v5.1.z),.vc (pS cQ x19),.vc (pS cQ v30),.vc (pS cQ x32),.vc (pS cQ [])]) (zs:=[v5.1.z,x19,v30,x32,[]]) rfl tyS23 rfl ⟨⟨trivial,rfl⟩,⟨trivial,rfl⟩,⟨trivial,rfl⟩,⟨trivial,rfl⟩,⟨trivial,rfl⟩,trivial⟩ rfl) ⟨rfl,rfl,rfl,rfl,eM cQ,trivial⟩,d0 (aM (.inr rfl)) zU1,trivial⟩ (fun bs27 G26=>?_)
  refine go ?_ ?_
  refine aI (aY (fun H E=>iO K=some r∧H=[]∧E=[]) ?_ (fun Jj37=>?_))
  ·rintro _ _ ⟨hF,rfl,rfl⟩
   unfold iO at hF
   obtain⟨v38,h39,hF⟩:=aX hF aBw
   exact bP
  obtain⟨ol36,hL,hRl36⟩:=aO hF
  refine dW (fun k a w=>∃(x35:Int),bZ K v1 v3 v5 x19 v30 x32 k x35=some ol36∧hs _ [] [(9,.vc (pS (fZ cQ) v1.1)),(10,.vc (pS cQ v1.2)),(11,.vc (pS (fZ aE.c) v3.1)),(12,.vc (pS aE.c v3.2)),(17,.vc (pS (fZ cQ) [v5.1.z,x19,v30,x32,[]])),(18,.vc (pI .i64 x35))] a w) K (fun a w ⟨_,hF,_⟩=>by cases hF) (fun k a w ⟨x35,hF,hh⟩=>dV ?_ hh) (fun a w hh=>⟨0,hL,gO [] hh⟩)
  rw [bZ.eq_2] at hF
  refine go ?_ ?_
  refine aC hF rfl (fun h40 hF=>?_) (fun h40 hF=>?_)
  ·refine go ?_ ?_
   refine aI (aD ?_)
   obtain⟨v43,h44,hF⟩:=aO hF
   obtain⟨v45,h46,hF⟩:=aX hF uK
   have hF:=qB h44 hF
   obtain⟨v49,h50,hF⟩:=aX hF wZ
   rcases Bool.eq_false_or_eq_true (v45 != v49) with h51|h51
   ·have hF:=tA h51 hF
    refine iG (0::0::0::0::12::28::63::0::0::0::0::1536::3584::8191::16383::32767::65535::65535::65535::65535::851967::1900543::4194303::65535::65535::65535::65535::100728831::234946559::536870911::1073741823::2147483647::[]) 32 0 (.v (.vc (pS (fZ cQ) v1.1))::.v (.vc (pS cQ v1.2))::.v (.vc (pS (fZ cQ) [v5.1.z,x19,v30,x32,[]]))::.v (.vc (pI .i64 x35))::.v (.vc (pM ((fZ cQ).e v43)))::.v (.vc (pS cQ v43))::.v (.vc (pB v45))::.v (.vc (pS (fZ cQ) v1.1))::.v (.vc (pS cQ v1.2))::.v (.vc (pS (fZ cQ) [v5.1.z,x19,v30,x32,[]]))::.v (.vc (pI .i64 x35))::.v (.vc (pM ((fZ cQ).e v43)))::.v (.vc (pS cQ v43))::.v (.vc (pB v49))::.v (.vc (pB (v45 != v49)))::.v (.vc (pB true))::.v .un::.v .un::.v .un::.v .un::.v .un::.v .un::.v .un::.v .un::.v .un::.v .un::.v .un::.v .un::.v .un::.v .un::.v .un::.v (.vc (pB true))::[]) aW ⟨d0 (aM (.inl rfl)) zU1,d0 (aM (.inl rfl)) zU1,d0 (aM (.inl rfl)) zU1,d0 (aM (.inl rfl)) zU1,d0 (vZ rfl tyS23 h44) zU2,d0 (vH 1 rfl rfl (.one tyO24)) zU1,d0 (bD rfl h46 rfl) ⟨rfl,rfl,rfl,trivial⟩,d0 (aM (.inl rfl)) zU1,d0 (aM (.inl rfl)) zU1,d0 (aM (.inl rfl)) zU1,d0 (aM (.inl rfl)) zU1,d0 (vZ rfl tyS23 h44) zU2,d0 (vH 1 rfl rfl (.one tyO24)) zU1,d0 (bD rfl h50 rfl) ⟨rfl,rfl,rfl,trivial⟩,⟨rfl,.run (L:=[0]) ⟨fun G41 A=>yO rfl Tryz.underlying4,trivial⟩ (fun G41=>zU2)⟩,d0 (lL (aM (.inl rfl)) h51) zU1,⟨rfl,.skipN⟩,⟨rfl,.skipN⟩,⟨rfl,.skipN⟩,⟨rfl,.skipN⟩,⟨rfl,.skipN⟩,⟨rfl,.skipN⟩,⟨rfl,.skipN⟩,⟨rfl,.skipN⟩,⟨rfl,.skipN⟩,⟨rfl,.skipN⟩,⟨rfl,.skipN⟩,⟨rfl,.skipN⟩,⟨rfl,.skipN⟩,⟨rfl,.skipN⟩,⟨rfl,.skipN⟩,d0 (u5 rfl) ⟨rfl,k_B _,trivial⟩,trivial⟩ (fun bs42 G41=>?_)
    refine aU (aJ (eU rfl ?_))
    exact bP
   have hF:=rJ h51 hF
   have hF:=qB h44 hF
   obtain⟨v54,h55,hF⟩:=aX hF z8
   have hF:=qB h44 hF
   obtain⟨v58,h59,hF⟩:=aX hF z5
   refine iG (0::0::0::0::12::28::63::0::0::0::0::1536::3584::8191::16383::32767::65535::65535::65535::65535::851967::1900543::4194303::65535::65535::65535::65535::100728831::234946559::536870911::1073741823::2147483647::[]) 32 0 (.v (.vc (pS (fZ cQ) v1.1))::.v (.vc (pS cQ v1.2))::.v (.vc (pS (fZ cQ) [v5.1.z,x19,v30,x32,[]]))::.v (.vc (pI .i64 x35))::.v (.vc (pM ((fZ cQ).e v43)))::.v (.vc (pS cQ v43))::.v (.vc (pB v45))::.v (.vc (pS (fZ cQ) v1.1))::.v (.vc (pS cQ v1.2))::.v (.vc (pS (fZ cQ) [v5.1.z,x19,v30,x32,[]]))::.v (.vc (pI .i64 x35))::.v (.vc (pM ((fZ cQ).e v43)))::.v (.vc (pS cQ v43))::.v (.vc (pB v49))::.v (.vc (pB (v45 != v49)))::.v (.vc (pB false))::.v (.vc (pS (fZ aE.c) v3.1))::.v (.vc (pS aE.c v3.2))::.v (.vc (pS (fZ cQ) [v5.1.z,x19,v30,x32,[]]))::.v (.vc (pI .i64 x35))::.v (.vc (pM ((fZ cQ).e v43)))::.v (.vc (pS cQ v43))::.v (.vc (pB v54))::.v (.vc (pS (fZ aE.c) v3.1))::.v (.vc (pS aE.c v3.2))::.v (.vc (pS (fZ cQ) [v5.1.z,x19,v30,x32,[]]))::.v (.vc (pI .i64 x35))::.v (.vc (pM ((fZ cQ).e v43)))::.v (.vc (pS cQ v43))::.v (.vc (pB v58))::.v (.vc (pB (v54 != v58)))::.v (.vc (pB (v54 != v58)))::[]) aW ⟨d0 (aM (.inl rfl)) zU1,d0 (aM (.inl rfl)) zU1,d0 (aM (.inl rfl)) zU1,d0 (aM (.inl rfl)) zU1,d0 (vZ rfl tyS23 h44) zU2,d0 (vH 1 rfl rfl (.one tyO24)) zU1,d0 (bD rfl h46 rfl) ⟨rfl,rfl,rfl,trivial⟩,d0 (aM (.inl rfl)) zU1,d0 (aM (.inl rfl)) zU1,d0 (aM (.inl rfl)) zU1,d0 (aM (.inl rfl)) zU1,d0 (vZ rfl tyS23 h44) zU2,d0 (vH 1 rfl rfl (.one tyO24)) zU1,d0 (bD rfl h50 rfl) ⟨rfl,rfl,rfl,trivial⟩,⟨rfl,.run (L:=[0]) ⟨fun G41 A=>yO rfl Tryz.underlying4,trivial⟩ (fun G41=>zU2)⟩,d0 (lL (aM (.inl rfl)) h51) zU1,g0 (aM (.inl rfl)) zU1,g0 (aM (.inl rfl)) zU1,g0 (aM (.inl rfl)) zU1,g0 (aM (.inl rfl)) zU1,g0 (vZ rfl tyS23 h44) zU2,g0 (vH 1 rfl rfl (.one tyO24)) zU1,g0 (bD rfl h55 rfl) ⟨rfl,rfl,rfl,trivial⟩,g0 (aM (.inl rfl)) zU1,g0 (aM (.inl rfl)) zU1,g0 (aM (.inl rfl)) zU1,g0 (aM (.inl rfl)) zU1,g0 (vZ rfl tyS23 h44) zU2,g0 (vH 1 rfl rfl (.one tyO24)) zU1,g0 (bD rfl h59 rfl) ⟨rfl,rfl,rfl,trivial⟩,⟨rfl,.runG (L:=[0]) ⟨fun G41 A=>yO rfl Tryz.underlying4,trivial⟩ (fun G41=>zU2)⟩,d0 (zF rfl) zU2,trivial⟩ (fun bs42 G41=>?_)
   refine aU (aJ (aC hF rfl (fun h60 hF=>?_) (fun h60 hF=>?_)))
   ·exact bP
   obtain⟨v61,h62,hF⟩:=aO hF
   refine go ?_ ?_
   exact aF (fun a w hh=>⟨v61,hF,gO [] hh⟩)
  refine bI ?_
  obtain rfl:=iR hF
  exact p6 Jj37 ⟨hRl36,rfl,rfl⟩ []
 refine go ?_ ?_
 refine aH (aAW (C:=cQ) (xs:=x11) (T:=42) rfl tyS24 (bL h12 rfl)) zU1 ?_
 refine go ?_ ?_
 refine aC hF rfl (fun h63 hF=>?_) (fun h63 hF=>?_)
 ·refine go ?_ ?_
  refine aH (aAW (C:=cQ) (xs:=x11) (T:=42) rfl tyS24 (bL h12 rfl)) zU1 ?_
  obtain⟨v64,h65,hF⟩:=aX hF gQ
  obtain⟨v68,h69,hF⟩:=aO hF
  obtain⟨v70,h71,hF⟩:=aX hF gQ
  obtain⟨v72,h73,hF⟩:=aO hF
  obtain⟨v74,h75,hF⟩:=aX hF cR
  obtain⟨v76,h77,hF⟩:=aX hF pJ
  have hF:=qB h69 hF
  refine go ?_ ?_
  refine iG [0,0,0,0,12,28,0,64,192,448,1020,2047,4095] 12 1 [.v (.vc (pO b13 (0+v5.1.z.length) c14)),.v (.vc (pI .i64 v64)),.v (.vc (pO b13 (0+v5.1.z.length) c14)),.v (.vc (pI .i64 v64)),.v (.vc (pE b13 v64 cQ.n 0)),.v (.va (eQ v68)),.v (.vc (pI .i64 a1)),.v (.vc (pI .i64 v70)),.v (.vc (pI .i64 v72)),.v (.va (eQ v74)),.v (.va (eQ v76)),.v (.vc (pE b13 v64 cQ.n 0))] aW ⟨d0 (aM (.inl rfl)) zU1,d0 (aM (.inl rfl)) zU1,d0 (aM (.inl rfl)) zU1,d0 (aM (.inl rfl)) zU1,d0 (gN (C:=cQ) 0 rfl tyS24 rfl (bL h12 rfl) (aG h69).1 (aG h69).2.1) zU2,d0 (lZ (k:=4) 0 rfl rfl h69 rfl (.agg tyA42) rfl) zU1,d0 (aM (.inl rfl)) zU1,d0 (bD rfl h71 rfl) ⟨rfl,oJ _ _,trivial⟩,d0 (aHp rfl h73) ⟨rfl,oJ _ _,trivial⟩,d0 (bD rfl h75 rfl) ⟨rfl,oJ _ _,trivial⟩,d0 (bD rfl h77 rfl) zU2,d0 (gN (C:=cQ) 0 rfl tyS24 rfl (bL h12 rfl) (aG h69).1 (aG h69).2.1) zU2,trivial⟩ (fun bs67 G66=>?_)
  obtain⟨x80,h81,hF⟩:=aO hF
  refine lI (wB 0 rfl rfl h69 h81 tyA42.s) zU2 ?_
  refine aU ?_
  exact p6 Jj25 ⟨x80,hF,(bE h81 (bL h12 rfl)),rfl,rfl⟩ [0,1]
 refine iC ?_
 exact p6 Jj25 ⟨x11,hF,(bL h12 rfl),rfl,rfl⟩ [0,1]
end Go.Proofs.YtolfcbpgmfbgmaaGreat
set_option linter.unusedVariables false
set_option maxRecDepth 100000
namespace Go.Proofs.YtolfcbpgmfbgmaaGreat
end Go.Proofs.YtolfcbpgmfbgmaaGreat
set_option linter.unusedVariables false
namespace Go.Proofs.YtolfcbpgmfbgmaaGreat
theorem aJu {q:Int} (h:0<q):(⟨true,(Z q).d⟩:aB)=Z (-q):=by
 have e1:(Z (-q)).d=(Z q).d:=by rw [Z_d,Z_d,Int.natAbs_neg]
 have e2:(Z (-q)).neg=true:=by rw [sA];exact decide_eq_true (by omega)
 cases hz:Z (-q) with
 |mk ng dd=>
  rw [hz] at e1 e2
  simp only at e1 e2
  rw [e1,e2]
theorem aM3:Ev (fun K=>iS K ⟨true,[]⟩) false:=⟨2,fun K hK=>by
 obtain⟨k,rfl⟩:=Nat.exists_eq_add_of_le hK
 rw [Nat.add_comm]
 rfl⟩
theorem aLH:Ev (fun K=>eF K ⟨true,[]⟩) false:=⟨2,fun K hK=>by
 obtain⟨k,rfl⟩:=Nat.exists_eq_add_of_le hK
 rw [Nat.add_comm]
 rfl⟩
theorem aKK {a:Rat} (ha:qs a=true):Ev (fun K=>jG K ⟨(Qr a).p,⟨true,(Qr a).q.d⟩⟩) false:=by
 obtain⟨a1,a2⟩:=rI ha
 obtain⟨q1,q2,q3,q4⟩:=@aEk a
 rw [aHe]
 generalize(if a.den=1 then(0:Int) else a.den)=q at *
 unfold jG
 refine Ev.bind (aGC (by omega)) ?_
 simp only [Bool.not_true,bR]
 by_cases h:q=0
 ·subst h
  have e:(Z 0).d=[]:=by rw [Z0]
  rw [e]
  refine Ev.bind aM3 ?_
  simp only [Bool.not_false,bX];exact Ev.pure _
 ·rw [aJu (by omega)]
  refine Ev.bind (aGC (by rw [Int.natAbs_neg];omega)) ?_
  simp only [Bool.not_true,bR,sA,dT (show -q<0 by omega),bX];exact Ev.pure _
theorem aIk {a:Rat} (ha:qs a=true):Ev (fun K=>bT K ⟨(Qr a).p,⟨true,(Qr a).q.d⟩⟩) false:=by
 obtain⟨a1,a2⟩:=rI ha
 obtain⟨q1,q2,q3,q4⟩:=@aEk a
 rw [aHe]
 generalize(if a.den=1 then(0:Int) else a.den)=q at *
 unfold bT
 refine Ev.bind (aD9 (by omega)) ?_
 simp only [Bool.not_true,bR]
 by_cases h:q=0
 ·subst h
  have e:(Z 0).d=[]:=by rw [Z0]
  rw [e]
  refine Ev.bind aLH ?_
  simp only [Bool.not_false,bX];exact Ev.pure _
 ·rw [aJu (by omega)]
  refine Ev.bind (aD9 (by rw [Int.natAbs_neg];omega)) ?_
  simp only [Bool.not_true,bR,sA,dT (show -q<0 by omega),bX];exact Ev.pure _
theorem aCJ {xs:List Int} {i:Nat}:(xs++[0]).getD i 0=if i<xs.length then xs.getD i 0 else 0:=by
 simp only [List.getD_eq_getElem?_getD]
 by_cases h:i<xs.length
 ·rw [if_pos h,List.getElem?_append_left h]
 ·rw [if_neg h,List.getElem?_append_right (by omega)]
  cases hi:i-xs.length with
  |zero=>rfl
  |succ j=>rfl
theorem aHY {xs:List Int} (h:lA xs):lA (xs++[0]):=fun i=>by
 rw [aCJ]
 split
 ·exact h i
 ·omega
theorem aNz {ng:Bool} {xs:List Int} (hd:lA xs) (hl:xs.length≤8000000000000):Ev (fun K=>iS K ⟨ng,xs++[0]⟩) false:=by
 refine⟨xs.length+2,fun K hK=>?_⟩
 have hlen:(xs++[(0:Int)]).length=xs.length+1:=by simp
 have hc:fV K (xs++[0]) jM=some false:=by
  unfold fV l3
  have:=aEW (aHY hd) (by omega) K (xs.length+1) 0 (by omega) K (by omega)
  rw [show((0:Nat):Int)=0 from rfl] at this
  rw [this]
  rfl
 show iS K ⟨ng,xs++[0]⟩=some false
 unfold iS
 simp only [hc,oB,bR,hlen]
 rw [qF (show¬((xs.length+1:Nat):Int)=0 by omega),bR,dT (by omega),bX,show((xs.length+1:Nat):Int)-1=((xs.length:Nat):Int) by omega,aCj (by omega) (by omega),oB,b0 (by omega),oB,aCJ,if_neg (by omega)]
 rfl
theorem aK2 {g:aB} (hd:lA g.d) (hl:g.d.length≤9000000000000) (K:Nat):∀(m i:Nat),i+m=g.d.length→∀k,m<k→dL K g k i=some (.go ())
 |0,i,h,k+1,_=>by
  simp only [dL]
  rw [dF (by omega),bR]
 |m+1,i,h,k+1,hk=>by
  have hx:=hd i
  simp only [dL]
  rw [dT (by omega),bX,b0 (by omega),oB,dF (by omega),bR,oB,dF (by omega),bR,show((i:Nat):Int)+1=((i+1:Nat):Int) by omega,aCj (by omega) (by omega),oB]
  exact aK2 hd hl K m (i+1) (by omega) k (by omega)
theorem aLA {ng:Bool} {xs:List Int} (hd:lA xs) (hl:xs.length≤8000000000000):Ev (fun K=>eF K ⟨ng,xs++[0]⟩) false:=by
 refine⟨xs.length+2,fun K hK=>?_⟩
 have hlen:(xs++[(0:Int)]).length=xs.length+1:=by simp
 have:=aK2 (g:=⟨ng,xs++[0]⟩) (aHY hd) (by show(xs++[(0:Int)]).length≤_;omega) K (xs.length+1) 0 (by show 0+(xs.length+1)=(xs++[(0:Int)]).length;omega) K (by omega)
 rw [show((0:Nat):Int)=0 from rfl] at this
 show eF K ⟨ng,xs++[0]⟩=some false
 unfold eF
 rw [this]
 show iN K ⟨ng,xs++[0]⟩=some false
 unfold iN
 simp only [hlen]
 rw [qF (show¬((xs.length+1:Nat):Int)=0 by omega),bR,show((xs.length+1:Nat):Int)-1=((xs.length:Nat):Int) by omega,aCj (by omega) (by omega),oB,b0 (by omega),oB,aCJ,if_neg (by omega)]
 rfl
theorem aIg {a:Rat} (ha:qs a=true):Ev (fun K=>jG K ⟨⟨(Qr a).p.neg,(Qr a).p.d++[0]⟩,(Qr a).q⟩) false:=by
 obtain⟨a1,a2⟩:=rI ha
 rw [aHe]
 unfold jG
 refine Ev.bind (aNz (bQ _) (by show dl _≤_;omega)) ?_
 simp only [Bool.not_false,bX];exact Ev.pure _
theorem aHO {a:Rat} (ha:qs a=true):Ev (fun K=>bT K ⟨⟨(Qr a).p.neg,(Qr a).p.d++[0]⟩,(Qr a).q⟩) false:=by
 obtain⟨a1,a2⟩:=rI ha
 rw [aHe]
 unfold bT
 refine Ev.bind (aLA (bQ _) (by show dl _≤_;omega)) ?_
 simp only [Bool.not_false,bX];exact Ev.pure _
theorem aLN {a b:Rat}:(⟨(Qr a).p,⟨true,(Qr a).q.d⟩⟩:aE)≠Qr b:=fun h=>by
 have e:=congrArg (fun x:aE=>x.q.neg) h
 simp only [aHe b,sA] at e
 have q2:=(@aEk b).2.1
 have:=of_decide_eq_true e.symm
 omega
theorem aKz {a b:Rat}:(⟨⟨(Qr a).p.neg,(Qr a).p.d++[0]⟩,(Qr a).q⟩:aE)≠Qr b:=fun h=>by
 have e:=congrArg (fun x:aE=>x.p.d) h
 simp only [aHe b,Z_d] at e
 have hl:dl b.num.natAbs=((Qr a).p.d).length+1:=by
  show(bS b.num.natAbs).length=_
  rw [←e];simp
 have ht:=aEY (n:=b.num.natAbs) (by omega)
 rw [hl,←e,aCJ,if_neg (by omega)] at ht
 exact ht rfl
end Go.Proofs.YtolfcbpgmfbgmaaGreat
set_option linter.unusedVariables false
namespace Go.Proofs.YtolfcbpgmfbgmaaGreat
theorem vJ {x m:Int} (hx:-9223372036854775808≤x∧x≤9223372036854775807) (hm:0<m):∃r,cE x m=some r∧0≤r∧r<m:=by
 unfold cE
 by_cases h:x<0
 ·refine⟨(-(x+1))%m,?_,Int.emod_nonneg _ (by omega),Int.emod_lt_of_pos _ hm⟩
  rw [dT h,bX,oZ (by omega),oB,oZ (by omega),oB,tL (by omega) hm,oB]
 ·refine⟨x%m,?_,Int.emod_nonneg _ (by omega),Int.emod_lt_of_pos _ hm⟩
  rw [dF h,bR,tL (by omega) hm,oB]
theorem aEK {l:List Int} (hl:xP l) (i:Int) {m:Int} (hm:0<m):∃r,cC l i m=some r∧0≤r∧r<m:=by
 unfold cC
 by_cases h:i<0
 ·exact⟨0,by rw [dT h,bX],by omega,hm⟩
 ·rw [dF h,bR]
  by_cases h2:(l.length:Int)≤i
  ·exact⟨0,by rw [dT h2,bX],by omega,hm⟩
  ·rw [dF h2,bR]
   obtain⟨n,rfl⟩:∃n:Nat,i=n:=⟨i.toNat,by omega⟩
   obtain⟨x,hx,_,hr⟩:=rdM (xs:=l) (i:=n) (by omega)
   obtain⟨r,h3,h4,h5⟩:=vJ (hl x hx) hm
   exact⟨r,by rw [hr,oB,h3,oB],h4,h5⟩
theorem aLF {a m:Int} (h:0≤a) (hm:0<m):0≤a%m∧a%m<m:=⟨Int.emod_nonneg _ (by omega),Int.emod_lt_of_pos _ hm⟩
def Bds (k:Nat) (xs:List Rat):Prop:=∀x∈xs,Bd k x
theorem Bds.snoc {k:Nat} {xs:List Rat} {x:Rat} (h:Bds k xs) (hx:Bd k x):Bds k (xs++[x]):=fun y hy=>by
 rcases List.mem_append.1 hy with h1|h1
 ·exact h y h1
 ·rw [List.mem_singleton.1 h1];exact hx
theorem apS {α:Type} {xs:List α} {x:α} (h:xs.length≤60000000000):sD xs [x]=some (xs++[x]):=yP (by simp;omega)
theorem rdD {α:Type} {xs:List α} {i:Nat} (d:α) (h:i<xs.length):bO xs (i:Int)=some (xs.getD i d):=by
 rw [rdG (x:=xs.getD i d)]
 simp [List.getD_eq_getElem?_getD,h]
def at' (l:List Rat) (i:Nat):Rat:=l.getD i 0
theorem aPT {l:List Rat} {i:Nat} (h:i<l.length):bO l (i:Int)=some (at' l i):=rdD _ h
theorem aGd {l:List Rat} {i:Nat} (h:i<l.length):at' l i∈l:=by
 have:at' l i=l[i]:=by unfold at';simp [List.getD_eq_getElem?_getD,h]
 rw [this];exact List.getElem_mem h
theorem aLD:((1:Int):Rat)/((1:Int):Rat)=1:=by decide+kernel
def mp {α:Type} (g:Nat→α) (n:Nat):List α:=(List.range n).map g
theorem zI {α:Type} (g:Nat→α):mp g 0=[]:=rfl
theorem aD0 {α:Type} (g:Nat→α) (n:Nat):mp g (n+1)=mp g n++[g n]:=by unfold mp;rw [List.range_succ,List.map_append];rfl
theorem bB {α:Type} (g:Nat→α) (n:Nat):(mp g n).length=n:=by simp [mp]
theorem zY {α:Type} {g:Nat→α} {n i:Nat} (h:i<n):(mp g n)[i]?=some (g i):=by simp [mp,h]
theorem aOr {g:Nat→Rat} {n i:Nat} (h:i<n):at' (mp g n) i=g i:=by
 unfold at' mp
 simp [List.getD_eq_getElem?_getD,h]
theorem wK {g:Nat→Rat} {n k:Nat} (h:∀i,i<n→Bd k (g i)):Bds k (mp g n):=fun x hx=>by
 obtain⟨i,hi,rfl⟩:=List.mem_map.1 hx
 exact h i (List.mem_range.1 hi)
theorem apM {α:Type} {g:Nat→α} {i:Nat} (h:i≤1000000):sD (mp g i) [g i]=some (mp g (i+1)):=by rw [aD0];exact apS (by rw [bB];omega)
theorem iV {α:Type} {f g:Nat→α} {n:Nat} (h:∀i,i<n→f i=g i):mp f n=mp g n:=by
 unfold mp
 exact List.map_congr_left fun i hi=>h i (List.mem_range.1 hi)
def nP {α:Type} (f:Nat→α) (i:Nat) (v:α) (j:Nat):α:=if j=i then v else f j
theorem bG {α:Type} {f:Nat→α} {i:Nat} {v:α}:nP f i v i=v:=if_pos rfl
theorem cP {α:Type} {f:Nat→α} {i j:Nat} {v:α} (h:j≠i):nP f i v j=f j:=if_neg h
theorem aIi {α:Type} {f:Nat→α} {n i:Nat} {v:α}:(mp f n).set i v=mp (nP f i v) n:=by
 apply List.ext_getElem?
 intro j
 by_cases hj:j<n
 ·rw [List.getElem?_set,zY hj,bB,zY hj]
  by_cases he:i=j
  ·subst he;rw [if_pos rfl,if_pos hj,bG]
  ·rw [if_neg he,cP (by omega)]
 ·rw [List.getElem?_eq_none (by simp [mp];omega),List.getElem?_eq_none (by simp [mp];omega)]
theorem jP {α:Type} {f:Nat→α} {n i:Nat} (h:i<n):bO (mp f n) (i:Int)=some (f i):=rdG (zY h)
theorem aAg {α:Type} {f:Nat→α} {n i:Nat} {v:α} (h:i<n):pA (mp f n) (i:Int) v=some (mp (nP f i v) n):=by
 rw [stG (by rw [bB];exact h),aIi]
theorem aLb {α:Type} (z:α):∀n,List.replicate n z=mp (fun _=>z) n
 |0=>rfl
 |n+1=>by rw [aD0,←aLb z n,List.replicate_succ']
theorem aHH {α:Type} {n:Nat} {z:α} (h:n≤68719476736):y4 (n:Int) z=some (mp (fun _=>z) n):=by rw [aAN h,aLb]
theorem aPH (l:List Rat):l=mp (at' l) l.length:=by
 apply List.ext_getElem?
 intro j
 by_cases hj:j<l.length
 ·rw [zY hj];simp [at',hj]
 ·rw [List.getElem?_eq_none (by omega),List.getElem?_eq_none (by simp [mp];omega)]
theorem uZ {i:Nat} (h:i≤1000000000):aR ((i:Int)+1)=some ((i+1:Nat):Int):=zX (m:=0) (n:=i+1) (by omega) (by omega)
theorem aPU {a:Rat}:a.num.sign=0↔a=0:=by rw [Int.sign_eq_zero_iff_zero,Rat.num_eq_zero]
def sm (f:Nat→Rat):Nat→Rat
 |0=>0
 |n+1=>sm f n+f n
end Go.Proofs.YtolfcbpgmfbgmaaGreat
set_option linter.unusedVariables false
namespace Go.Proofs.YtolfcbpgmfbgmaaGreat
/-- A matrix of h rows and w columns. -/
def mx (g:Nat→Nat→Rat) (h w:Nat):List (List Rat):=mp (fun i=>mp (g i) w) h
theorem aAS {g:Nat→Nat→Rat} {h w i:Nat} (hi:i<h):bO (mx g h w) (i:Int)=some (mp (g i) w):=jP hi
theorem rY {g:Nat→Nat→Rat} {h w:Nat}:(mx g h w).length=h:=bB _ _
def z6 (h w b:Nat) (g:Nat→Nat→Rat):Prop:=∀i c,i<h→c<w→Bd b (g i c)
theorem z6.mono {h w b b':Nat} {g:Nat→Nat→Rat} (hg:z6 h w b g) (hb:b≤b'):z6 h w b' g:=fun i c hi hc=>(hg i c hi hc).mono hb
def piv (g:Nat→Nat→Rat) (k:Nat):Nat→Nat→Nat
 |0,i=>i
 |t+1,i=>if g i k=0 then piv g k t (i+1) else i
theorem aIT {g:Nat→Nat→Rat} {k:Nat}:∀(t i:Nat),i≤piv g k t i∧piv g k t i≤i+t
 |0,i=>⟨Nat.le_refl _,Nat.le_refl _⟩
 |t+1,i=>by
  have h:=aIT (g:=g) (k:=k) t (i+1)
  unfold piv
  split<;>omega
theorem aOX {g:Nat→Nat→Rat} {k:Nat}:∀(t i j:Nat),i≤j→j<piv g k t i→g j k=0
 |0,i,j,h1,h2=>by simp only [piv] at h2;omega
 |t+1,i,j,h1,h2=>by
  unfold piv at h2
  split at h2
  ·rename_i hz
   by_cases he:j=i
   ·rw [he];exact hz
   ·exact aOX t (i+1) j (by omega) h2
  ·omega
theorem aLj {g:Nat→Nat→Rat} {k:Nat}:∀(t i:Nat),piv g k t i<i+t→g (piv g k t i) k≠0
 |0,i,h=>by simp only [piv] at h;omega
 |t+1,i,h=>by
  unfold piv at h ⊢
  split at h
  ·rename_i hz
   rw [if_pos hz]
   exact aLj t (i+1) (by omega)
  ·rename_i hz
   rw [if_neg hz];exact hz
def swp (g:Nat→Nat→Rat) (n at0 i:Nat):Nat→Rat:=g (if i=n then at0 else if i=at0 then n else i)
def pr (g:Nat→Nat→Rat) (at0 k c:Nat):Rat:=g at0 c/g at0 k
def stp (g:Nat→Nat→Rat) (n at0 k i c:Nat):Rat:=if i=n then pr g at0 k c else swp g n at0 i c-swp g n at0 i k*pr g at0 k c
structure RS where
 ps:List Nat
 g:Nat→Nat→Rat
 d:Rat
def aGF (h k:Nat) (s:RS):RS:=
 if piv s.g k (h-s.ps.length) s.ps.length=h then s
 else⟨s.ps++[k],stp s.g s.ps.length (piv s.g k (h-s.ps.length) s.ps.length) k,(if piv s.g k (h-s.ps.length) s.ps.length=s.ps.length then s.d else -s.d)*s.g (piv s.g k (h-s.ps.length) s.ps.length) k⟩
def red (g:Nat→Nat→Rat) (h:Nat):Nat→RS
 |0=>⟨[],g,1⟩
 |k+1=>aGF h k (red g h k)
theorem aGt {h n at0 i:Nat} (hn:n<h) (ha:at0<h) (hi:i<h):(if i=n then at0 else if i=at0 then n else i)<h:=by split;exact ha;split;exact hn;exact hi
end Go.Proofs.YtolfcbpgmfbgmaaGreat
set_option linter.unusedVariables false
namespace Go.Proofs.YtolfcbpgmfbgmaaGreat
/-- The rows that the list of indices names, in a pool of rows. -/
structure Rep (ι:Nat→Nat) (pool:List (List Rat)) (g:Nat→Nat→Rat) (h w:Nat):Prop where
 inj:∀i j,i<h→j<h→ι i=ι j→i=j
 lt:∀i,i<h→ι i<pool.length
 el:∀i,i<h→pool.getD (ι i) []=mp (g i) w
theorem Rep.set {ι:Nat→Nat} {pool:List (List Rat)} {g:Nat→Nat→Rat} {h w i:Nat} (r:Rep ι pool g h w) (hi:i<h) (f:Nat→Rat):Rep ι (pool.set (ι i) (mp f w)) (nP g i f) h w:=by
 refine⟨r.inj,fun j hj=>by rw [List.length_set];exact r.lt j hj,fun j hj=>?_⟩
 rw [List.getD_eq_getElem?_getD,List.getElem?_set]
 by_cases he:j=i
 ·subst he
  rw [if_pos rfl,if_pos (r.lt j hj),bG];rfl
 ·rw [if_neg (fun h=>he (r.inj j i hj hi h.symm)),←List.getD_eq_getElem?_getD,r.el j hj,cP he]
theorem Rep.congr {ι:Nat→Nat} {pool:List (List Rat)} {g g':Nat→Nat→Rat} {h w:Nat} (r:Rep ι pool g h w) (e:∀i c,i<h→c<w→g i c=g' i c):Rep ι pool g' h w:=
 ⟨r.inj,r.lt,fun i hi=>by rw [r.el i hi];exact iV fun c hc=>e i c hi hc⟩
theorem Rep.sel {ι:Nat→Nat} {pool:List (List Rat)} {g:Nat→Nat→Rat} {h w:Nat} (r:Rep ι pool g h w):y5 pool (mp ι h)=mx g h w:=by
 unfold y5 mx
 apply List.ext_getElem?
 intro j
 by_cases hj:j<h
 ·rw [List.getElem?_map,zY hj,zY hj,←r.el j hj];rfl
 ·rw [List.getElem?_map,List.getElem?_eq_none (by simp [mp];omega),List.getElem?_eq_none (by simp [mp];omega)];rfl
theorem Rep.swap {ι:Nat→Nat} {pool:List (List Rat)} {g:Nat→Nat→Rat} {h w n a:Nat} (r:Rep ι pool g h w) (hn:n<h) (ha:a<h) (hne:n≠a):Rep (nP (nP ι n (ι a)) a (ι n)) pool (swp g n a) h w:=by
 have key:∀i,nP (nP ι n (ι a)) a (ι n) i=ι (if i=n then a else if i=a then n else i):=fun i=>by
  unfold nP
  by_cases h1:i=n
  ·rw [if_pos h1,if_neg (by omega),if_pos h1]
  ·rw [if_neg h1]
   by_cases h2:i=a
   ·rw [if_pos h2,if_pos h2,if_neg h1]
   ·rw [if_neg h2,if_neg h1,if_neg h2]
 refine⟨fun i j hi hj e=>?_,fun i hi=>?_,fun i hi=>?_⟩
 ·rw [key,key] at e
  have:=r.inj _ _ (aGt hn ha hi) (aGt hn ha hj) e
  split at this<;>split at this<;>(try split at this)<;>(try split at this)<;>omega
 ·rw [key];exact r.lt _ (aGt hn ha hi)
 ·rw [key];exact r.el _ (aGt hn ha hi)
def mid (f e:Nat→Rat) (c j:Nat):Rat:=if j<c then f j else e j
theorem aLV:qof 1 1=some 1:=by rw [aE7 (by omega) (by omega),aLD]
end Go.Proofs.YtolfcbpgmfbgmaaGreat
set_option linter.unusedVariables false
namespace Go.Proofs.YtolfcbpgmfbgmaaGreat
/-- A list of numbers read by index. -/
def pat (ps:List Nat) (i:Nat):Nat:=ps.getD i 0
end Go.Proofs.YtolfcbpgmfbgmaaGreat
set_option linter.unusedVariables false
namespace Go.Proofs.YtolfcbpgmfbgmaaGreat
theorem aDD (f g:Nat→Rat) (a:Rat):∀n,sm (fun c=>f c-a*g c) n=sm f n-a*sm g n
 |0=>by simp only [sm];grind
 |n+1=>by
  have ih:=aDD f g a n
  simp only [sm]
  rw [ih];grind
theorem aH9 (f:Nat→Rat) (a:Rat):∀n,sm (fun c=>f c*a) n=sm f n*a
 |0=>by simp only [sm];grind
 |n+1=>by
  have ih:=aH9 f a n
  simp only [sm]
  rw [ih];grind
theorem eD {f g:Nat→Rat}:∀{n:Nat},(∀i,i<n→f i=g i)→sm f n=sm g n
 |0,_=>rfl
 |n+1,h=>by
  simp only [sm]
  rw [eD fun i hi=>h i (by omega),h n (by omega)]
theorem aAO {f:Nat→Rat} {n:Nat} (h:∀i,i<n→f i=0):sm f n=0:=by
 rw [eD (g:=fun _=>0) h]
 induction n with
 |zero=>rfl
 |succ n ih=>simp only [sm];rw [ih fun i hi=>h i (by omega)];grind
theorem zR {f:Nat→Rat} {n p:Nat} (hp:p<n) (h:∀i,i<n→i≠p→f i=0):sm f n=f p:=by
 induction n with
 |zero=>omega
 |succ n ih=>
  simp only [sm]
  by_cases he:p=n
  ·rw [aAO fun i hi=>h i (by omega) (by omega),he];grind
  ·rw [ih (by omega) fun i hi hne=>h i (by omega) hne,h n (by omega) (by omega)];grind
theorem aGZ (f g:Nat→Rat):∀n,sm (fun c=>f c+g c) n=sm f n+sm g n
 |0=>by simp only [sm];grind
 |n+1=>by
  have ih:=aGZ f g n
  simp only [sm]
  rw [ih];grind
def rd (g:Nat→Nat→Rat) (y:Nat→Rat) (n i:Nat):Rat:=sm (fun c=>g i c*y c) n
structure RJ (h k:Nat) (s:RS):Prop where
 ph:s.ps.length≤h
 pk:∀i,i<s.ps.length→pat s.ps i<k
 z:∀i c,s.ps.length≤i→i<h→c<k→s.g i c=0
 one:∀i i',i<s.ps.length→i'<h→s.g i' (pat s.ps i)=if i'=i then 1 else 0
 lead:∀i c,i<s.ps.length→c<pat s.ps i→s.g i c=0
 inc:∀i j,i<j→j<s.ps.length→pat s.ps i<pat s.ps j
 gap:∀c,c<k→c∉s.ps→∀i,i<s.ps.length→c<pat s.ps i→s.g i c=0
theorem aBB {ps:List Nat} {k i:Nat} (h:i<ps.length):pat (ps++[k]) i=pat ps i:=by
 unfold pat
 rw [List.getD_eq_getElem?_getD,List.getD_eq_getElem?_getD,List.getElem?_append_left h]
theorem aD8 {ps:List Nat} {k:Nat}:pat (ps++[k]) ps.length=k:=by
 unfold pat
 rw [List.getD_eq_getElem?_getD,List.getElem?_append_right (Nat.le_refl _),Nat.sub_self];rfl
theorem aLq {h k:Nat} {s:RS} (hs:RJ h k s):RJ h (k+1) (aGF h k s):=by
 have hp:=aIT (g:=s.g) (k:=k) (h-s.ps.length) s.ps.length
 have hph:=hs.ph
 unfold aGF
 split
 ·rename_i hat
  refine⟨hs.ph,fun i hi=>Nat.lt_succ_of_lt (hs.pk i hi),fun i c hi hh hc=>?_,hs.one,hs.lead,hs.inc,fun c _ _ i hi hlt=>hs.lead i c hi hlt⟩
  by_cases he:c=k
  ·subst he;exact aOX (h-s.ps.length) s.ps.length i hi (by omega)
  ·exact hs.z i c hi hh (by omega)
 ·rename_i hat
  have hlt:piv s.g k (h-s.ps.length) s.ps.length<h:=by omega
  have hne:=aLj (g:=s.g) (k:=k) (h-s.ps.length) s.ps.length (by omega)
  generalize ha:piv s.g k (h-s.ps.length) s.ps.length=at0 at *
  have hz:∀c,c<k→s.g at0 c=0:=fun c hc=>hs.z at0 c hp.1 hlt hc
  have hpr:∀c,c<k→pr s.g at0 k c=0:=fun c hc=>by unfold pr;rw [hz c hc,Rat.div_def,Rat.zero_mul]
  have hprk:pr s.g at0 k k=1:=by unfold pr;rw [Rat.div_def,Rat.mul_inv_cancel _ hne]
  have hswz:∀i c,s.ps.length<i→i<h→c<k→swp s.g s.ps.length at0 i c=0:=fun i c hi hih hc=>by
   unfold swp
   rw [if_neg (by omega)]
   split
   ·exact hs.z _ c (Nat.le_refl _) (by omega) hc
   ·exact hs.z _ c (by omega) hih hc
  have hsw:∀i c,i<s.ps.length→swp s.g s.ps.length at0 i c=s.g i c:=fun i c hi=>by
   unfold swp
   rw [if_neg (by omega),if_neg (by omega)]
  have hlead:∀i c,i<s.ps.length+1→c<pat (s.ps++[k]) i→stp s.g s.ps.length at0 k i c=0:=fun i c hi hc=>by
   by_cases he:i=s.ps.length
   ·subst he
    rw [aD8] at hc
    unfold stp
    rw [if_pos rfl];exact hpr c hc
   ·have hi':i<s.ps.length:=by omega
    rw [aBB hi'] at hc
    unfold stp
    rw [if_neg he,hsw i c hi',hsw i k hi',hs.lead i c hi' hc,hpr c (by have:=hs.pk i hi';omega)]
    grind
  refine⟨by simp only [List.length_append,List.length_singleton];omega,fun i hi=>?_,fun i c hi hh hc=>?_,fun i i' hi hi'=>?_,fun i c hi hc=>hlead i c (by simpa using hi) hc,fun i j hij hj=>?_,fun c _ _ i hi hlt=>hlead i c (by simpa using hi) hlt⟩
  ·simp only [List.length_append,List.length_singleton] at hi
   by_cases he:i=s.ps.length
   ·subst he;simp only [aD8];omega
   ·simp only [aBB (show i<s.ps.length by omega)]
    have:=hs.pk i (by omega);omega
  ·simp only [List.length_append,List.length_singleton] at hi
   show stp s.g s.ps.length at0 k i c=0
   unfold stp
   rw [if_neg (by omega)]
   by_cases he:c=k
   ·subst he
    rw [hprk,Rat.mul_one,Rat.sub_self]
   ·rw [hswz i c (by omega) hh (by omega),hpr c (by omega)]
    grind
  ·simp only [List.length_append,List.length_singleton] at hi
   show stp s.g s.ps.length at0 k i' (pat (s.ps++[k]) i)=_
   unfold stp
   by_cases he:i=s.ps.length
   ·subst he
    rw [aD8]
    by_cases e2:i'=s.ps.length
    ·rw [if_pos e2,if_pos e2,hprk]
    ·rw [if_neg e2,if_neg e2,hprk,Rat.mul_one,Rat.sub_self]
   ·have hi2:i<s.ps.length:=by omega
    rw [aBB hi2,hpr _ (hs.pk i hi2)]
    by_cases e2:i'=s.ps.length
    ·rw [if_pos e2,if_neg (by omega)]
    ·rw [if_neg e2]
     by_cases e3:i'<s.ps.length
     ·rw [hsw i' _ e3,hs.one i i' hi2 (by omega)]
      grind
     ·rw [hswz i' _ (by omega) hi' (hs.pk i hi2),if_neg (by omega)]
      grind
  ·simp only [List.length_append,List.length_singleton] at hj
   by_cases he:j=s.ps.length
   ·subst he
    simp only [aD8,aBB (show i<s.ps.length by omega)]
    exact hs.pk i (by omega)
   ·simp only [aBB (show i<s.ps.length by omega),aBB (show j<s.ps.length by omega)]
    exact hs.inc i j hij (by omega)
theorem aJf {g:Nat→Nat→Rat} {h:Nat}:∀k,RJ h k (red g h k)
 |0=>⟨Nat.zero_le _,fun i hi=>absurd hi (by simp [red]),fun i c _ _ hc=>absurd hc (by omega),fun i i' hi _=>absurd hi (by simp [red]),fun i c hi _=>absurd hi (by simp [red]),fun i j _ hj=>absurd hj (by simp [red]),fun c hc=>absurd hc (by omega)⟩
 |k+1=>aLq (aJf k)
end Go.Proofs.YtolfcbpgmfbgmaaGreat
set_option linter.unusedVariables false
namespace Go.Proofs.YtolfcbpgmfbgmaaGreat
theorem aDW (F:Nat→Nat→Rat) (m:Nat):∀n,sm (fun i=>sm (F i) m) n=sm (fun j=>sm (fun i=>F i j) n) m
 |0=>by
  simp only [sm]
  exact(aAO fun i _=>rfl).symm
 |n+1=>by
  simp only [sm]
  rw [aDW F m n,aGZ]
theorem xQ (f:Nat→Rat) (a:Rat) (n:Nat):sm (fun c=>a*f c) n=a*sm f n:=by
 rw [Rat.mul_comm,←aH9]
 exact eD fun i _=>Rat.mul_comm _ _
theorem aEu (f:Nat→Rat) (n:Nat):sm (fun c=>-(f c)) n=-(sm f n):=by
 have:=xQ f (-1) n
 rw [eD (g:=fun c=>-1*f c) fun i _=>by grind,this];grind
def skp (k c:Nat):Nat:=if c<k then c else c+1
theorem aML (F:Nat→Rat) {k:Nat}:∀{n:Nat},k≤n→sm (fun l=>F (skp k l)) n=sm (fun m=>if m=k then 0 else F m) (n+1)
 |0,h=>by
  have:k=0:=by omega
  subst this
  simp only [sm];grind
 |n+1,h=>by
  by_cases hk:k≤n
  ·have ih:=aML F hk
   rw [sm,ih,sm,sm,sm]
   have e1:skp k n=n+1:=by unfold skp;rw [if_neg (by omega)]
   rw [e1,if_neg (show¬n+1=k by omega)]
  ·have:k=n+1:=by omega
   subst this
   rw [sm.eq_2 _ (n+1),if_pos rfl]
   rw [eD (g:=F) fun i hi=>by unfold skp;rw [if_pos hi],eD (g:=F) fun i hi=>if_neg (by omega)]
   grind
def sgn (k:Nat):Rat:=if k%2=0 then 1 else -1
def mnr (g:Nat→Nat→Rat) (k i c:Nat):Rat:=g (i+1) (skp k c)
def dt:Nat→(Nat→Nat→Rat)→Rat
 |0,_=>1
 |n+1,g=>sm (fun k=>sgn k*(g 0 k*dt n (mnr g k))) (n+1)
theorem aK4 {k c n:Nat} (hc:c<n):skp k c<n+1:=by unfold skp;split<;>omega
theorem uM:∀{n:Nat} {g g':Nat→Nat→Rat},(∀i c,i<n→c<n→g i c=g' i c)→dt n g=dt n g'
 |0,_,_,_=>rfl
 |n+1,g,g',h=>by
  simp only [dt]
  refine eD fun k hk=>?_
  rw [h 0 k (by omega) hk,uM (g:=mnr g k) (g':=mnr g' k) fun i c hi hc=>h (i+1) _ (by omega) (aK4 hc)]
theorem aMc {g:Nat→Nat→Rat} {f:Nat→Rat} {k:Nat}:mnr (nP g 0 f) k=mnr g k:=by
 funext i c
 unfold mnr
 rw [cP (by omega)]
theorem aM1 {g:Nat→Nat→Rat} {f:Nat→Rat} {k j:Nat}:mnr (nP g (j+1) f) k=nP (mnr g k) j (fun c=>f (skp k c)):=by
 funext i c
 unfold mnr
 by_cases h:i=j
 ·subst h;rw [bG,bG]
 ·rw [cP (by omega),cP h]
theorem aIO {u v:Nat→Rat} {a:Rat}:∀{n:Nat} {g:Nat→Nat→Rat} {i:Nat},i<n→dt n (nP g i (fun c=>u c-a*v c))=dt n (nP g i u)-a*dt n (nP g i v)
 |0,_,_,h=>by omega
 |n+1,g,0,_=>by
  simp only [dt,aMc,bG]
  rw [←aDD]
  exact eD fun k _=>by grind
 |n+1,g,j+1,h=>by
  simp only [dt,aM1,cP (show 0≠j+1 by omega)]
  rw [←aDD]
  refine eD fun k _=>?_
  rw [aIO (u:=fun c=>u (skp k c)) (v:=fun c=>v (skp k c)) (a:=a) (show j<n by omega)]
  grind
theorem aCY (k:Nat):sgn (k+1)=-(sgn k):=by
 unfold sgn
 by_cases h:k%2=0
 ·rw [if_pos h,if_neg (by omega)]
 ·rw [if_neg h,if_pos (by omega)];grind
theorem aG1 (k:Nat):∀l,sgn (k+l)=sgn k*sgn l
 |0=>by
  have:sgn 0=1:=rfl
  rw [this,Nat.add_zero];grind
 |l+1=>by
  rw [←Nat.add_assoc,aCY,aG1 k l,aCY];grind
def aKf (k m c:Nat):Nat:=if c<min k m then c else if c+1<max k m then c+1 else c+2
theorem aM5 (k l c:Nat):skp k (skp l c)=aKf k (skp k l) c:=by
 unfold aKf skp
 by_cases h1:l<k
 ·rw [if_pos h1]
  repeat' split
  all_goals omega
 ·rw [if_neg h1]
  repeat' split
  all_goals omega
theorem aKU (k m c:Nat):aKf k m c=aKf m k c:=by
 unfold aKf;rw [Nat.min_comm,Nat.max_comm]
def eps (k m:Nat):Rat:=if k<m then sgn (k+m+1) else sgn (k+m)
theorem aLK {k m:Nat} (h:m≠k):eps k m=-(eps m k):=by
 unfold eps
 by_cases h1:k<m
 ·rw [if_pos h1,if_neg (by omega),aCY,Nat.add_comm]
 ·rw [if_neg h1,if_pos (by omega),aCY,Nat.add_comm];grind
theorem aNE (k l:Nat):sgn k*sgn l=eps k (skp k l):=by
 unfold eps skp
 by_cases h:l<k
 ·rw [if_pos h,if_neg (by omega),aG1]
 ·rw [if_neg h,if_pos (by omega)]
  rw [show k+(l+1)+1=k+l+2 by omega,show sgn (k+l+2)=sgn (k+l) by unfold sgn;rw [show(k+l+2)%2=(k+l)%2 by omega],aG1]
def aIN (g:Nat→Nat→Rat) (k m i c:Nat):Rat:=g (i+2) (aKf k m c)
theorem aMM {n:Nat} {g:Nat→Nat→Rat}:dt (n+2) g=sm (fun k=>sm (fun m=>if m=k then 0 else eps k m*(g 0 k*(g 1 m*dt n (aIN g k m)))) (n+2)) (n+2):=by
 rw [dt]
 refine eD fun k hk=>?_
 rw [←aML (fun m=>eps k m*(g 0 k*(g 1 m*dt n (aIN g k m)))) (show k≤n+1 by omega),dt,←xQ,←xQ]
 refine eD fun l _=>?_
 rw [←aNE,show dt n (mnr (mnr g k) l)=dt n (aIN g k (skp k l)) from congrArg (dt n) (by
  funext i c
  unfold mnr aIN
  rw [aM5])]
 unfold mnr
 grind
theorem aKi {n:Nat} {g:Nat→Nat→Rat}:dt (n+2) (swp g 0 1)=-(dt (n+2) g):=by
 rw [aMM,aMM,aDW,←aEu]
 refine eD fun k _=>?_
 rw [←aEu]
 refine eD fun m _=>?_
 by_cases h:k=m
 ·rw [if_pos h,if_pos h.symm];grind
 ·rw [if_neg h,if_neg (fun e=>h e.symm),aLK (by exact fun e=>h e)]
  have e:aIN (swp g 0 1) m k=aIN g k m:=by
   funext i c
   unfold aIN swp
   rw [if_neg (by omega),if_neg (by omega),aKU]
  rw [e]
  have e1:swp g 0 1 0=g 1:=by unfold swp;rw [if_pos rfl]
  have e2:swp g 0 1 1=g 0:=by unfold swp;rw [if_neg (by omega),if_pos rfl]
  rw [e1,e2]
  grind
theorem aNd {g:Nat→Nat→Rat} {a b k:Nat}:mnr (swp g (a+1) (b+1)) k=swp (mnr g k) a b:=by
 funext i c
 unfold mnr swp
 congr 1
 by_cases h1:i=a
 ·rw [if_pos (by omega),if_pos h1]
 ·rw [if_neg (by omega),if_neg h1]
  by_cases h2:i=b
  ·rw [if_pos (by omega),if_pos h2]
  ·rw [if_neg (by omega),if_neg h2]
theorem aGg:∀{n:Nat} {g:Nat→Nat→Rat} {i:Nat},i+1<n→dt n (swp g i (i+1))=-(dt n g)
 |0,_,_,h=>by omega
 |1,_,_,h=>by omega
 |n+2,g,0,_=>aKi
 |n+2,g,i+1,h=>by
  rw [dt,dt,←aEu]
  refine eD fun k _=>?_
  rw [aNd,aGg (show i+1<n+1 by omega)]
  have e1:swp g (i+1) (i+1+1) 0=g 0:=by unfold swp;rw [if_neg (by omega),if_neg (by omega)]
  rw [e1];grind
theorem aIy {n:Nat}:∀(t:Nat) {g:Nat→Nat→Rat} {i:Nat},i+t+1<n→dt n (swp g i (i+t+1))=-(dt n g)
 |0,g,i,h=>aGg h
 |t+1,g,i,h=>by
  have e:swp g i (i+(t+1)+1)=swp (swp (swp g (i+t+1) (i+t+1+1)) i (i+t+1)) (i+t+1) (i+t+1+1):=by
   funext j
   unfold swp
   congr 1
   repeat' split
   all_goals omega
  rw [e,aGg (by omega),aIy t (by omega),aGg (by omega)];grind
theorem aMv {g:Nat→Nat→Rat} {a b:Nat}:swp g a b=swp g b a:=by
 funext j
 unfold swp
 congr 1
 repeat' split
 all_goals omega
structure Alt (h:Nat) (D:(Nat→Nat→Rat)→Rat):Prop where
 cong:∀g g':Nat→Nat→Rat,(∀i,i<h→g i=g' i)→D g=D g'
 lin:∀(g:Nat→Nat→Rat) (u v:Nat→Rat) (a:Rat) (i:Nat),i<h→D (nP g i (fun c=>u c-a*v c))=D (nP g i u)-a*D (nP g i v)
 swap:∀(g:Nat→Nat→Rat) (i j:Nat),i<h→j<h→i≠j→D (swp g i j)=-(D g)
theorem aFc (n:Nat):Alt n (dt n):=⟨fun g g' h=>uM fun i c hi _=>by rw [h i hi],fun g u v a i hi=>aIO hi,fun g i j hi hj hne=>by
 by_cases h:i<j
 ·obtain⟨t,rfl⟩:∃t,j=i+t+1:=⟨j-i-1,by omega⟩
  exact aIy t hj
 ·obtain⟨t,rfl⟩:∃t,i=j+t+1:=⟨i-j-1,by omega⟩
  rw [aMv]
  exact aIy t hi⟩
theorem Alt.zero {h:Nat} {D:(Nat→Nat→Rat)→Rat} (a:Alt h D) {g:Nat→Nat→Rat} {i:Nat} (hi:i<h) (hz:g i=fun _=>0):D g=0:=by
 have:=a.lin g (g i) (g i) 1 i hi
 have e:(fun c=>g i c-1*g i c)=g i:=by funext c;rw [hz];grind
 have e2:nP g i (g i)=g:=by
  funext j
  unfold nP
  split
  ·rename_i h;rw [h]
  ·rfl
 rw [e,e2] at this
 grind
theorem aMr {α:Type} {g:Nat→α} {i:Nat}:nP g i (g i)=g:=by
 funext j
 unfold nP
 split
 ·rename_i h;rw [h]
 ·rfl
theorem Alt.scale {h:Nat} {D:(Nat→Nat→Rat)→Rat} (a:Alt h D) {g:Nat→Nat→Rat} {u:Nat→Rat} {b:Rat} {i:Nat} (hi:i<h):D (nP g i (fun c=>b*u c))=b*D (nP g i u):=by
 have h1:=a.lin g (fun _=>0) u (-b) i hi
 have h2:D (nP g i (fun _=>0))=0:=a.zero hi bG
 rw [h2] at h1
 have e:(fun c=>(0:Rat)- -b*u c)=fun c=>b*u c:=by funext c;grind
 rw [e] at h1
 rw [h1];grind
theorem Alt.same {h:Nat} {D:(Nat→Nat→Rat)→Rat} (a:Alt h D) {g:Nat→Nat→Rat} {i j:Nat} (hi:i<h) (hj:j<h) (hne:i≠j) (he:g i=g j):D g=0:=by
 have h1:=a.swap g i j hi hj hne
 have e:swp g i j=g:=by
  funext l
  unfold swp
  split
  ·rename_i h;rw [h,he]
  ·split
   ·rename_i h;rw [h,he]
   ·rfl
 rw [e] at h1
 grind
theorem Alt.add {h:Nat} {D:(Nat→Nat→Rat)→Rat} (a:Alt h D) {g:Nat→Nat→Rat} {b:Rat} {i j:Nat} (hi:i<h) (hj:j<h) (hne:i≠j):D (nP g i (fun c=>g i c-b*g j c))=D g:=by
 rw [a.lin g (g i) (g j) b i hi,aMr,a.same (g:=nP g i (g j)) hi hj hne (by rw [bG,cP (fun e=>hne e.symm)])]
 grind
def elm (g:Nat→Nat→Rat) (n k j i c:Nat):Rat:=if i<j∧i≠n then g i c-g i k*g n c else g i c
theorem Alt.elm0 {h:Nat} {D:(Nat→Nat→Rat)→Rat} (a:Alt h D) {g:Nat→Nat→Rat} {n k:Nat} (hn:n<h):∀j,j≤h→D (elm g n k j)=D g
 |0,_=>a.cong _ _ fun i _=>by
  funext c
  exact if_neg (by omega)
 |j+1,hj=>by
  refine Eq.trans ?_ (Alt.elm0 (k:=k) a hn j (by omega))
  by_cases he:j=n
  ·refine a.cong _ _ fun i _=>?_
   funext c
   unfold elm
   by_cases h1:i<j
   ·rw [if_pos ⟨by omega,by omega⟩,if_pos ⟨h1,by omega⟩]
   ·rw [if_neg (by omega),if_neg (by omega)]
  ·refine Eq.trans ?_ (a.add (g:=elm g n k j) (b:=g j k) (show j<h by omega) hn he)
   refine a.cong _ _ fun i _=>?_
   funext c
   by_cases h1:i=j
   ·subst h1
    rw [bG]
    unfold elm
    rw [if_pos ⟨by omega,he⟩,if_neg (by omega),if_neg (by omega)]
   ·rw [cP h1]
    unfold elm
    by_cases h2:i<j∧i≠n
    ·rw [if_pos ⟨by omega,h2.2⟩,if_pos h2]
    ·rw [if_neg (by omega),if_neg h2]
theorem Alt.stp0 {h:Nat} {D:(Nat→Nat→Rat)→Rat} (a:Alt h D) {g:Nat→Nat→Rat} {n at0 k:Nat} (hn:n<h) (ha:at0<h) (hne:g at0 k≠0):D g=(if at0=n then 1 else -1)*g at0 k*D (stp g n at0 k):=by
 have e1:D (swp g n at0)=(if at0=n then 1 else -1)*D g:=by
  by_cases h1:at0=n
  ·rw [if_pos h1]
   have:swp g n at0=g:=by
    funext i
    unfold swp
    split
    ·rw [h1];congr 1;omega
    ·split
     ·congr 1;omega
     ·rfl
   rw [this];grind
  ·rw [if_neg h1,a.swap g n at0 hn ha (fun e=>h1 e.symm)];grind
 have e2:D (swp g n at0)=g at0 k*D (nP (swp g n at0) n (pr g at0 k)):=by
  rw [←a.scale hn]
  congr 1
  funext i
  by_cases h1:i=n
  ·subst h1
   rw [bG]
   funext c
   unfold swp pr
   rw [if_pos rfl,Rat.div_def,Rat.mul_comm (g at0 c),←Rat.mul_assoc,Rat.mul_inv_cancel _ hne,Rat.one_mul]
  ·rw [cP h1]
 have e3:D (stp g n at0 k)=D (nP (swp g n at0) n (pr g at0 k)):=by
  rw [←a.elm0 (g:=nP (swp g n at0) n (pr g at0 k)) (n:=n) (k:=k) hn h (Nat.le_refl _)]
  refine a.cong _ _ fun i hi=>?_
  funext c
  unfold stp elm
  by_cases h1:i=n
  ·subst h1
   rw [if_pos rfl,if_neg (by omega),bG]
  ·rw [if_neg h1,if_pos ⟨hi,h1⟩,cP h1,bG]
 rw [e3]
 have e4:D g=(if at0=n then 1 else -1)*D (swp g n at0):=by
  rw [e1]
  split<;>grind
 rw [e4,e2];grind
theorem Alt.red0 {h:Nat} {D:(Nat→Nat→Rat)→Rat} (a:Alt h D) {g:Nat→Nat→Rat}:∀k,D g=(red g h k).d*D (red g h k).g
 |0=>by simp only [red];grind
 |k+1=>by
  refine(Alt.red0 a k).trans ?_
  have hl:=(aJf (g:=g) (h:=h) k).ph
  simp only [red]
  generalize red g h k=s at *
  unfold aGF
  split
  ·rfl
  ·rename_i hat
   have hp:=aIT (g:=s.g) (k:=k) (h-s.ps.length) s.ps.length
   have hlt:piv s.g k (h-s.ps.length) s.ps.length<h:=by omega
   have hne:=aLj (g:=s.g) (k:=k) (h-s.ps.length) s.ps.length (by omega)
   rw [a.stp0 (g:=s.g) (n:=s.ps.length) (at0:=piv s.g k (h-s.ps.length) s.ps.length) (k:=k) (by omega) hlt hne]
   simp only
   split<;>grind
end Go.Proofs.YtolfcbpgmfbgmaaGreat
set_option linter.unusedVariables false
namespace Go.Proofs.YtolfcbpgmfbgmaaGreat
/-- What a machine's integer is. -/
def I64 (x:Int):Prop:=-9223372036854775808≤x∧x≤9223372036854775807
theorem aNA {x y:Int} (hx:I64 x) (hy:2≤y):∃v,zL x y=some v∧I64 v:=by
 have h1:(x.tdiv y).natAbs≤x.natAbs:=by
  rw [Int.natAbs_tdiv];exact Nat.div_le_self _ _
 have h2:I64 (x.tdiv y):=by
  have h0:(x.tdiv y).natAbs=x.natAbs/y.natAbs:=Int.natAbs_tdiv x y
  have h3:x.natAbs/y.natAbs≤x.natAbs/2:=Nat.div_le_div_left (by omega) (by omega)
  unfold I64 at *
  omega
 refine⟨x.tdiv y,?_,h2⟩
 unfold zL
 rw [if_neg (by omega)]
 exact oZ h2
end Go.Proofs.YtolfcbpgmfbgmaaGreat
set_option linter.unusedVariables false
namespace Go.Proofs.YtolfcbpgmfbgmaaGreat
end Go.Proofs.YtolfcbpgmfbgmaaGreat
