/- Texts of the proof, part 5: Q2. -/
import Derived.Test.YtolfcbpgmfbgmaaGreatZ4
set_option linter.unusedSimpArgs false
set_option linter.unusedVariables false
set_option maxRecDepth 100000
namespace Go.Proofs.YtolfcbpgmfbgmaaGreat
def rI (a0:Int) (a1:Int) (a2:Int) (a3:Int) (a4:List Nat) (a5:List Rat) (a6:List Int) (a7:List (List Rat)):Option Unit:=
 some ()
theorem zR {a0:Int} {a1:Int} {a2:Int} {a3:Int} {a4:List Nat} {a5:List Rat} {a6:List Int} {a7:List (List Rat)} {r:Unit} (hF:rI a0 a1 a2 a3 a4 a5 a6 a7=some r) {p0:Nat} {b5:Option Nat} {c6 n7:Nat} {b10:Option Nat} {c11 n12:Nat} {b15:Option Nat} {c16 n17:Nat} {g20:List rK} {N21:Nat} (q8:a4.length=n7) (q13:a5.length=n12) (q18:a6.length=n17) (q22:a7.length=N21) (q23:cJ g20 a7) (q24:∀k∈a4,k<N21):CtO Tryz.prog 149 ([⟨some p0,1,123,6,1,([pI .i64 a1]++[pI .i64 a2]++[pI .i64 a3]++[pO b5 n7 c6]++[pO b10 n12 c11]++[pO b15 n17 c16])⟩,hO (cH g20) b5 c6 24 n7 a4,hO cQ b10 c11 42 n12 a5,hO cI b15 c16 3 n17 a6]++eD cQ 42 g20 a7) [.vc (pP (some p0) 0),.vc (pI .i64 a0)] (fun Ho q=>∃b1028 b1029,Ho=([⟨some p0,1,123,6,1,([pI .i64 a1]++[pI .i64 a2]++[pI .i64 a3]++[pO b5 n7 c6]++[pO b10 n12 c11]++[pO b15 n17 c16])⟩,⟨some b1028,1,3,1,1,[pI .i64 a0]⟩,⟨some b1029,1,120,1,1,[pP (some p0) 0]⟩,hO (cH g20) b5 c6 24 n7 a4,hO cQ b10 c11 42 n12 a5,hO cI b15 c16 3 n17 a6]++eD cQ 42 g20 a7)∧q=.vc (pF 169 [pP (some b1028) 0,pP (some b1029) 0])):=by
 unfold rI at hF
 refine aA Tryz.func149 rfl (by kernel_rfl) Tryz.ntmps149 rfl (fun w0 M0=>?_)
 refine aC (aH (bV rfl rfl trivial (fun b26=>?_)))
 refine bV rfl rfl trivial (fun b27=>?_)
 refine aI (aL (p:=.any) (.inr rfl)) ⟨fun _=>trivial,trivial⟩ ?_
 refine go ?_ ?_
 refine aI (aMH (xs:=[.tmp 3,.tmp 2]) (cs:=[pP (some b27) 0,pP (some b26) 0]) rfl rfl) zU2 ?_
 refine go ?_ ?_
 refine dQ (dL ?_)
 obtain rfl:=eP hF
 exact jT (.inl rfl) Tryz.results149 (.tmp rfl .nil) rfl 6 [2,0,1,3,4,5] rfl rfl (by decide) ⟨b27,b26,rfl,rfl⟩
def oK (K:Nat) (x33:Int):Option Int:=
 some x33
def kN (K:Nat) (a6:List Int) (x30:Rat) (x31:Int) (x32:Int) (v52:Rat) (recl34:Rat→Int→Int→Option Int) (x55:Int):Option Int:=
 bif(decide (x55<0)) then((aS (x32+1)).bind fun v62=>recl34 v52 x32 v62) else(bif(x55==0) then((bF a6 x32).bind fun v65=>(bF a6 x31).bind fun v67=>bif(decide (v65<v67)) then((aS (x32+1)).bind fun v72=>recl34 v52 x32 v72) else((aS (x32+1)).bind fun v74=>recl34 x30 x31 v74)) else((aS (x32+1)).bind fun v76=>recl34 x30 x31 v76))
def dD (K:Nat) (a0:Int) (a3:Int) (a4:List Nat) (a6:List Int) (a7:List (List Rat)):Nat→Rat→Int→Int→Option Int
 |0,_,_,_=>none
 |k+1,x30,x31,x32=>bif(decide (x32<(a4.length:Int))) then((bF a4 x32).bind fun v37=>(bF (a7.getD v37 []) a0).bind fun v39=>(xD v39).bind fun v41=>bif(decide (v41≤0)) then((aS (x32+1)).bind fun v44=>dD K a0 a3 a4 a6 a7 k x30 x31 v44) else((bF (a7.getD v37 []) a3).bind fun v48=>(bF (a7.getD v37 []) a0).bind fun v50=>(aGv v48 v50).bind fun v52=>bif(decide (0≤x31)) then((aQW v52 x30).bind fun v79=>kN K a6 x30 x31 x32 v52 (dD K a0 a3 a4 a6 a7 k) v79) else(kN K a6 x30 x31 x32 v52 (dD K a0 a3 a4 a6 a7 k) (-1)))) else(some x31)
def rY (K:Nat) (a0:Int) (a1:Int) (a2:Int) (a3:Int) (a4:List Nat) (a5:List Rat) (a6:List Int) (a7:List (List Rat)):Option Int:=
 (dD K a0 a3 a4 a6 a7 K 0 (-1) 0).bind fun x33=>oK K x33
theorem aAb {K:Nat} {a0:Int} {a1:Int} {a2:Int} {a3:Int} {a4:List Nat} {a5:List Rat} {a6:List Int} {a7:List (List Rat)} {r:Int} (hF:rY K a0 a1 a2 a3 a4 a5 a6 a7=some r) {p0:Nat} {b5:Option Nat} {c6 n7:Nat} {b10:Option Nat} {c11 n12:Nat} {b15:Option Nat} {c16 n17:Nat} {g20:List rK} {N21:Nat} (q8:a4.length=n7) (q13:a5.length=n12) (q18:a6.length=n17) (q22:a7.length=N21) (q23:cJ g20 a7) (q24:∀k∈a4,k<N21):CtO Tryz.prog 150 ([⟨some p0,1,123,6,1,([pI .i64 a1]++[pI .i64 a2]++[pI .i64 a3]++[pO b5 n7 c6]++[pO b10 n12 c11]++[pO b15 n17 c16])⟩,hO (cH g20) b5 c6 24 n7 a4,hO cQ b10 c11 42 n12 a5,hO cI b15 c16 3 n17 a6]++eD cQ 42 g20 a7) [.vc (pP (some p0) 0),.vc (pI .i64 a0)] (fun Ho q=>Ho=([⟨some p0,1,123,6,1,([pI .i64 a1]++[pI .i64 a2]++[pI .i64 a3]++[pO b5 n7 c6]++[pO b10 n12 c11]++[pO b15 n17 c16])⟩,hO (cH g20) b5 c6 24 n7 a4,hO cQ b10 c11 42 n12 a5,hO cI b15 c16 3 n17 a6]++eD cQ 42 g20 a7)∧q=.vc (pI .i64 r)):=by
 unfold rY at hF
 refine aA Tryz.func150 rfl (by kernel_rfl) Tryz.ntmps150 rfl (fun w0 M0=>?_)
 refine go ?_ ?_
 refine aN rfl tyZ42q (fun b26=>?_)
 refine go ?_ ?_
 refine aG (aP (fun H E=>∃(x33:Int),oK K x33=some r∧H=([⟨some p0,1,123,6,1,([pI .i64 a1]++[pI .i64 a2]++[pI .i64 a3]++[pO b5 n7 c6]++[pO b10 n12 c11]++[pO b15 n17 c16])⟩,hO (cH g20) b5 c6 24 n7 a4,hO cQ b10 c11 42 n12 a5,hO cI b15 c16 3 n17 a6]++eD cQ 42 g20 a7)∧E=[(5,.vc (pI .i64 x33))]) ?_ (fun Jj35=>?_))
 ·rintro _ _ ⟨x33,hF,rfl,rfl⟩
  unfold oK at hF
  refine go ?_ ?_
  refine dQ (dL ?_)
  obtain rfl:=eP hF
  exact jT (.inl rfl) Tryz.results150 (.tmp rfl .nil) rfl 4 [0,1,2,3] rfl rfl (by decide) ⟨rfl,rfl⟩
 obtain⟨x33',hL,hRl34⟩:=aM hF
 refine cA (fun k a w=>∃(x30:Rat),∃(x31:Int),∃(x32:Int),dD K a0 a3 a4 a6 a7 k x30 x31 x32=some x33'∧hs _ ([⟨some b26,1,42,4,1,(eQ x30)⟩,⟨some p0,1,123,6,1,([pI .i64 a1]++[pI .i64 a2]++[pI .i64 a3]++[pO b5 n7 c6]++[pO b10 n12 c11]++[pO b15 n17 c16])⟩,hO (cH g20) b5 c6 24 n7 a4,hO cQ b10 c11 42 n12 a5,hO cI b15 c16 3 n17 a6]++eD cQ 42 g20 a7) [(0,.vc (pP (some p0) 0)),(1,.vc (pI .i64 a0)),(5,.vc (pI .i64 x31)),(6,.vc (pP (some b26) 0)),(14,.vc (pO b5 n7 c6)),(15,.vc (pI .i64 (a4.length:Int))),(16,.vc (pI .i64 x32))] a w) K (fun a w ⟨_,_,_,hF,_⟩=>by cases hF) (fun k a w ⟨x30,x31,x32,hF,hh⟩=>b0 ?_ hh) (fun a w hh=>⟨0,(-1),0,hL,aR 5 [0,1,2,3,4] rfl rfl (by decide) (by exact⟨rfl,rfl,rfl,rfl,rfl,rfl,rfl,trivial⟩) hh⟩)
 rw [dD.eq_2] at hF
 refine go ?_ ?_
 refine aB hF rfl (fun h36 hF=>?_) (fun h36 hF=>?_)
 ·refine go ?_ ?_
  refine aG ?_
  obtain⟨v37,h38,v39,h40,hF⟩:=tW hF
  refine go ?_ ?_
  refine aI (cY (5+v37) rfl tyS24 (rV 5 rfl q23 q22 (q24 _ (aO h38))) (cR q23 q22 (q24 _ (aO h38))) (aD h40).1 (aD h40).2.1) zU2 ?_
  refine aI (iD (k:=4) (5+v37) rfl (rV 5 rfl q23 q22 (q24 _ (aO h38))) h40 rfl (.agg tyA42) rfl) zU1 ?_
  obtain⟨v41,h42,hF⟩:=aW hF eS
  refine go ?_ ?_
  refine aB hF rfl (fun h43 hF=>?_) (fun h43 hF=>?_)
  ·refine aV ?_
   obtain⟨v44,h45,hF⟩:=aM hF
   refine go ?_ ?_
   exact aF (fun a w hh=>⟨x30,x31,v44,hF,aR 5 [0,1,2,3,4] rfl rfl (by decide) (by exact⟨rfl,rfl,rfl,rfl,rfl,rfl,rfl,trivial⟩) hh⟩)
  obtain⟨v48,h49,hF⟩:=aM hF
  have hF:=tJ h40 hF
  obtain⟨v52,h53,hF⟩:=aW hF y9
  refine go ?_ ?_
  refine iQ [0,0,2,6,14,31,63,0,0,384,896,2047,0,8191] 13 1 [.v (.vc (pO (gA g20 v37).1 (gA g20 v37).2.1 (gA g20 v37).2.2)),.v (.vc (pP (some p0) 0)),.v (.vc (pP (some p0) 0)),.v (.vc (pP (some p0) 2)),.v (.vc (pI .i64 a3)),.v (.vc (pE (gA g20 v37).1 a3 cQ.n 0)),.v (.va (eQ v48)),.v (.vc (pO (gA g20 v37).1 (gA g20 v37).2.1 (gA g20 v37).2.2)),.v (.vc (pI .i64 a0)),.v (.vc (pE (gA g20 v37).1 a0 cQ.n 0)),.v (.va (eQ v39)),.v (.va (eQ v52)),.a 42 (eQ 0)] aU ⟨d0 (aL (.inl rfl)) zU1,d0 (aL (.inl rfl)) zU1,d0 (s9 rfl) zU1,d0 (gV (off:=0) (k:=2) rfl tyF123_2) zU1,d0 (gC 1 1 rfl rfl rfl rfl (.one tyO3)) zU1,d0 (cY (5+v37) rfl tyS24 (gW 5 rfl q23 q22 (q24 _ (aO h38))) (cR q23 q22 (q24 _ (aO h38))) (aD h49).1 (aD h49).2.1) zU2,d0 (iD (k:=4) (5+v37) rfl (gW 5 rfl q23 q22 (q24 _ (aO h38))) h49 rfl (.agg tyA42) rfl) zU1,d0 (aL (.inl rfl)) zU1,d0 (aL (.inl rfl)) zU1,d0 (cY (5+v37) rfl tyS24 (gW 5 rfl q23 q22 (q24 _ (aO h38))) (cR q23 q22 (q24 _ (aO h38))) (aD h40).1 (aD h40).2.1) zU2,d0 (iD (k:=4) (5+v37) rfl (gW 5 rfl q23 q22 (q24 _ (aO h38))) h40 rfl (.agg tyA42) rfl) zU1,d0 (bE rfl h53 rfl) zU2,⟨rfl,.alc tyZ42q⟩,trivial⟩ (fun bs47 G46=>?_)
  refine mD (t_s 0 rfl rfl rfl tyA42.s) zU2 ?_
  refine aT (aJ (aC (aH (aI (aL (.inr rfl)) ⟨qM _ _,trivial⟩ ?_))))
  refine aT (aJ (aC (aAa (fun H E=>∃(x55:Int),kN K a6 x30 x31 x32 v52 (dD K a0 a3 a4 a6 a7 k) x55=some x33'∧H=([⟨some (bs47 12),1,42,4,1,(eQ v52)⟩,⟨some b26,1,42,4,1,(eQ x30)⟩,⟨some p0,1,123,6,1,([pI .i64 a1]++[pI .i64 a2]++[pI .i64 a3]++[pO b5 n7 c6]++[pO b10 n12 c11]++[pO b15 n17 c16])⟩,hO (cH g20) b5 c6 24 n7 a4,hO cQ b10 c11 42 n12 a5,hO cI b15 c16 3 n17 a6]++eD cQ 42 g20 a7)∧E=[(0,.vc (pP (some p0) 0)),(1,.vc (pI .i64 a0)),(5,.vc (pI .i64 x31)),(6,.vc (pP (some b26) 0)),(7,.vc (pI .i64 x32)),(9,.vc (pP (some (bs47 12)) 0)),(10,.vc (pI .i64 x55)),(14,.vc (pO b5 n7 c6)),(15,.vc (pI .i64 (a4.length:Int))),(16,.vc (pI .i64 x32))]) ?_ (fun Jj56=>?_))))
  ·rintro _ _ ⟨x55,hF,rfl,rfl⟩
   unfold kN at hF
   refine aC ?_
   rcases Bool.eq_false_or_eq_true (decide (x55<0)) with h59|h59
   ·have hF:=vK h59 hF
    refine drb [0,1,3,7,15,31,63,127,255,511,63,2047,4095,63,8255,24639,57407,63,254015,516159,1048575,2097151,4194303] 23 0 ?_ (fun bs58 G57=>?_)
    refine aT (aJ (fV rfl ?_))
    refine dr [0,0,1,7] 3 1 ?_ (fun bs61 G60=>?_)
    obtain⟨v62,h63,hF⟩:=aM hF
    refine go ?_ ?_
    exact aF (fun a w hh=>⟨v52,x32,v62,hF,aR 6 [1,2,3,4,5] rfl rfl (by decide) (by exact⟨rfl,rfl,rfl,rfl,rfl,rfl,rfl,trivial⟩) hh⟩)
   have hF:=tU h59 hF
   rcases Bool.eq_false_or_eq_true (x55==0) with h64|h64
   ·have hF:=vK h64 hF
    obtain⟨v65,h66,hF⟩:=aM hF
    obtain⟨v67,h68,hF⟩:=aM hF
    refine drb [0,1,3,7,15,31,63,127,255,511,63,2047,4095,63,8255,24639,57407,63,254015,516159,1048575,2097151,4194303] 23 0 ?_ (fun bs58 G57=>?_)
    refine aT (aJ (aB hF rfl (fun h69 hF=>?_) (fun h69 hF=>?_)))
    ·refine dr [0,0,1,7] 3 1 ?_ (fun bs71 G70=>?_)
     obtain⟨v72,h73,hF⟩:=aM hF
     refine go ?_ ?_
     exact aF (fun a w hh=>⟨v52,x32,v72,hF,aR 6 [1,2,3,4,5] rfl rfl (by decide) (by exact⟨rfl,rfl,rfl,rfl,rfl,rfl,rfl,trivial⟩) hh⟩)
    obtain⟨v74,h75,hF⟩:=aM hF
    refine go ?_ ?_
    exact aF (fun a w hh=>⟨x30,x31,v74,hF,aR 6 [1,2,3,4,5] rfl rfl (by decide) (by exact⟨rfl,rfl,rfl,rfl,rfl,rfl,rfl,trivial⟩) hh⟩)
   have hF:=tU h64 hF
   refine drb [0,1,3,7,15,31,63,127,255,511,63,2047,4095,63,8255,24639,57407,63,254015,516159,1048575,2097151,4194303] 23 0 ?_ (fun bs58 G57=>?_)
   refine aT (aJ (wX rfl ?_))
   obtain⟨v76,h77,hF⟩:=aM hF
   refine go ?_ ?_
   exact aF (fun a w hh=>⟨x30,x31,v76,hF,aR 6 [1,2,3,4,5] rfl rfl (by decide) (by exact⟨rfl,rfl,rfl,rfl,rfl,rfl,rfl,trivial⟩) hh⟩)
  refine go ?_ ?_
  refine aB hF rfl (fun h78 hF=>?_) (fun h78 hF=>?_)
  ·refine aH (aI (gC 0 4 rfl rfl rfl rfl (.agg tyA42)) zU1 ?_)
   refine aI (gC 1 4 rfl rfl rfl rfl (.agg tyA42)) zU1 ?_
   obtain⟨v79,h80,hF⟩:=aW hF aCn
   refine aI (bE rfl h80 rfl) zU2 ?_
   refine zP ?_
   refine aT ?_
   exact eJ Jj56 ⟨v79,hF,rfl,rfl⟩ 6 [0,1,2,3,4,5] rfl rfl ⟨rfl,rfl,rfl,rfl,rfl,rfl,rfl,rfl,rfl,rfl,trivial⟩
  refine eU ?_
  exact eJ Jj56 ⟨(-1),hF,rfl,rfl⟩ 6 [0,1,2,3,4,5] rfl rfl ⟨rfl,rfl,rfl,rfl,rfl,rfl,rfl,rfl,rfl,rfl,trivial⟩
 refine aV ?_
 obtain rfl:=eP hF
 exact eJ Jj35 ⟨x31,hRl34,rfl,rfl⟩ 5 [1,2,3,4] rfl rfl zU1
def vP (K:Nat) (x25:List (List Rat)):Option (List (List Rat)):=
 some x25
def oA (K:Nat) (a0:Nat) (a1:Nat) (a3:List (List Rat)) (v9:Rat):Nat→(List (List Rat))→Int→Option (List (List Rat))
 |0,_,_=>none
 |k+1,x20,x24=>bif(decide (x24<((a3.getD a1 []).length:Int))) then((bF (x20.getD a1 []) x24).bind fun v32=>(xD v32).bind fun v35=>bif(v35 != 0) then((bF (x20.getD a0 []) x24).bind fun v40=>(aEr v9 v32).bind fun v42=>(aGr v40 v42).bind fun v44=>(bF (x20.getD a0 []) x24).bind fun v46=>(qL (x20.getD a0 []) x24 v44).bind fun x48=>(aS (x24+1)).bind fun v51=>oA K a0 a1 a3 v9 k (x20.set a0 x48) v51) else((aS (x24+1)).bind fun v53=>oA K a0 a1 a3 v9 k x20 v53)) else(some x20)
def yQ (K:Nat) (a0:Nat) (a1:Nat) (a2:Int) (a3:List (List Rat)):Option (List (List Rat)):=
 (bF (a3.getD a0 []) a2).bind fun v9=>(xD v9).bind fun v12=>bif(v12==0) then(some a3) else((oA K a0 a1 a3 v9 K a3 0).bind fun x25=>vP K x25)
theorem aDh {K:Nat} {a0:Nat} {a1:Nat} {a2:Int} {a3:List (List Rat)} {r:List (List Rat)} (hF:yQ K a0 a1 a2 a3=some r) {g4:List rK} {N5:Nat} (q6:a3.length=N5) (q7:cJ g4 a3) (q2:a0<N5) (q3:a1<N5):CtO Tryz.prog 148 ([]++eD cQ 42 g4 a3) [.vc (pO (gA g4 a0).1 (gA g4 a0).2.1 (gA g4 a0).2.2),.vc (pO (gA g4 a1).1 (gA g4 a1).2.1 (gA g4 a1).2.2),.vc (pI .i64 a2)] (fun Ho q=>r.length=N5∧cJ g4 r∧Ho=([]++eD cQ 42 g4 r)∧q=.any):=by
 unfold yQ at hF
 refine aA Tryz.func148 rfl (by kernel_rfl) Tryz.ntmps148 rfl (fun w0 M0=>?_)
 obtain⟨v9,h10,hF⟩:=aM hF
 refine go ?_ ?_
 refine aI (cY (0+a0) rfl tyS24 (rV 0 rfl q7 q6 q2) (cR q7 q6 q2) (aD h10).1 (aD h10).2.1) zU2 ?_
 refine aI (iD (k:=4) (0+a0) rfl (rV 0 rfl q7 q6 q2) h10 rfl (.agg tyA42) rfl) zU1 ?_
 refine aN rfl tyZ42q (fun b11=>?_)
 obtain⟨v12,h13,hF⟩:=aW hF eS
 refine go ?_ ?_
 refine aB hF rfl (fun h14 hF=>?_) (fun h14 hF=>?_)
 ·refine dQ (dL ?_)
  obtain rfl:=eP hF
  exact jT (.inl rfl) Tryz.results148 .nil rfl 1 [] rfl rfl (by decide) ⟨q6,q7,rfl,rfl⟩
 refine go ?_ ?_
 refine aI (aB3 (C:=cQ) (xs:=(a3.getD a1 [])) (T:=42) rfl tyS24 (cR q7 q6 q3)) zU1 ?_
 refine go ?_ ?_
 refine aG (aP (fun H E=>∃(x25:List (List Rat)),vP K x25=some r∧x25.length=N5∧cJ g4 x25∧H=([]++eD cQ 42 g4 x25)∧E=[]) ?_ (fun Jj30=>?_))
 ·rintro _ _ ⟨x25,hF,q26,q27,rfl,rfl⟩
  unfold vP at hF
  obtain rfl:=eP hF
  exact jT (.inr rfl) Tryz.results148 .nil rfl 0 [] rfl rfl (by decide) ⟨q26,q27,rfl,rfl⟩
 obtain⟨x25',hL,hRl29⟩:=aM hF
 refine cA (fun k a w=>∃(x20:List (List Rat)),∃(x24:Int),oA K a0 a1 a3 v9 k x20 x24=some x25'∧x20.length=N5∧cJ g4 x20∧hs _ ([⟨some b11,1,42,4,1,(eQ v9)⟩]++eD cQ 42 g4 x20) [(0,.vc (pO (gA g4 a0).1 (gA g4 a0).2.1 (gA g4 a0).2.2)),(6,.vc (pP (some b11) 0)),(16,.vc (pO (gA g4 a1).1 (gA g4 a1).2.1 (gA g4 a1).2.2)),(17,.vc (pI .i64 ((a3.getD a1 []).length:Int))),(18,.vc (pI .i64 x24))] a w) K (fun a w ⟨_,_,hF,_,_,_⟩=>by cases hF) (fun k a w ⟨x20,x24,hF,q21,q22,hh⟩=>b0 ?_ hh) (fun a w hh=>⟨a3,0,hL,q6,q7,aR 1 [0] rfl rfl (by decide) (by exact⟨rfl,rfl,rfl,rfl,rfl,trivial⟩) hh⟩)
 rw [oA.eq_2] at hF
 refine go ?_ ?_
 refine aB hF rfl (fun h31 hF=>?_) (fun h31 hF=>?_)
 ·refine go ?_ ?_
  refine aG ?_
  obtain⟨v32,h33,hF⟩:=aM hF
  refine go ?_ ?_
  refine aI (cY (1+a1) rfl tyS24 (rV 1 rfl q22 q21 q3) (cR q22 q21 q3) (aD h33).1 (aD h33).2.1) zU2 ?_
  refine aI (iD (k:=4) (1+a1) rfl (rV 1 rfl q22 q21 q3) h33 rfl (.agg tyA42) rfl) zU1 ?_
  refine aN rfl tyZ42q (fun b34=>?_)
  obtain⟨v35,h36,hF⟩:=aW hF eS
  refine go ?_ ?_
  refine aB hF rfl (fun h37 hF=>?_) (fun h37 hF=>?_)
  ·obtain⟨v40,h41,hF⟩:=aM hF
   obtain⟨v42,h43,hF⟩:=aW hF xR
   obtain⟨v44,h45,hF⟩:=aW hF zD
   have hF:=tJ h41 hF
   refine iQ [0,0,0,0,12,28,0,0,192,508,1023,2047] 11 1 [.v (.vc (pO (gA g4 a0).1 (gA g4 a0).2.1 (gA g4 a0).2.2)),.v (.vc (pI .i64 x24)),.v (.vc (pO (gA g4 a0).1 (gA g4 a0).2.1 (gA g4 a0).2.2)),.v (.vc (pI .i64 x24)),.v (.vc (pE (gA g4 a0).1 x24 cQ.n 0)),.v (.va (eQ v40)),.v (.va (eQ v9)),.v (.va (eQ v32)),.v (.va (eQ v42)),.v (.va (eQ v44)),.v (.vc (pE (gA g4 a0).1 x24 cQ.n 0))] aU ⟨d0 (aL (.inl rfl)) zU1,d0 (aL (.inl rfl)) zU1,d0 (aL (.inl rfl)) zU1,d0 (aL (.inl rfl)) zU1,d0 (cY (2+a0) rfl tyS24 (gW 2 rfl q22 q21 q2) (cR q22 q21 q2) (aD h41).1 (aD h41).2.1) zU2,d0 (iD (k:=4) (2+a0) rfl (gW 2 rfl q22 q21 q2) h41 rfl (.agg tyA42) rfl) zU1,d0 (gC 1 4 rfl rfl rfl rfl (.agg tyA42)) zU1,d0 (gC 0 4 rfl rfl rfl rfl (.agg tyA42)) zU1,d0 (bE rfl h43 rfl) zU2,d0 (bE rfl h45 rfl) zU2,d0 (cY (2+a0) rfl tyS24 (gW 2 rfl q22 q21 q2) (cR q22 q21 q2) (aD h41).1 (aD h41).2.1) zU2,trivial⟩ (fun bs39 G38=>?_)
   obtain⟨x48,h49,hF⟩:=aM hF
   refine mD (yM (H':=([⟨some b34,1,42,4,1,(eQ v32)⟩,⟨some b11,1,42,4,1,(eQ v9)⟩]++eD cQ 42 g4 (x20.set a0 x48))) (2+a0) rfl (rV 2 rfl q22 q21 q2) h41 h49 tyA42.s (hH:=stN 2 rfl q22 q21 q2)) zU2 ?_
   obtain⟨v51,h52,hF⟩:=aM hF
   refine go ?_ ?_
   exact aF (fun a w hh=>⟨(x20.set a0 x48),v51,hF,(aBR q21),(aDI q22 q21 q2 (bC h49 rfl)),aR 2 [1] rfl rfl (by decide) (by exact⟨rfl,rfl,rfl,rfl,rfl,trivial⟩) hh⟩)
  obtain⟨v53,h54,hF⟩:=aM hF
  refine go ?_ ?_
  exact aF (fun a w hh=>⟨x20,v53,hF,q21,q22,aR 2 [1] rfl rfl (by decide) (by exact⟨rfl,rfl,rfl,rfl,rfl,trivial⟩) hh⟩)
 refine aV ?_
 obtain rfl:=eP hF
 exact eJ Jj30 ⟨x20,hRl29,q21,q22,rfl,rfl⟩ 1 [] rfl rfl trivial
def qH (K:Nat) (a0:Int) (a1:Int) (a6:List Rat) (a7:List Int) (x75:List Nat) (x81:List (List Rat)):Option ((List Nat)×(List Rat)×(List Int)×(List (List Rat))):=
 (bF x75 a0).bind fun v91=>(vW K v91 a1 a6 x81).bind fun v93=>(bF a7 a0).bind fun v97=>(qL a7 a0 a1).bind fun x99=>some (x75,v93,x99,x81)
def jC (K:Nat) (a0:Int) (a1:Int) (a5:List Nat):Nat→(List Nat)→(List (List Rat))→Int→Option ((List Nat)×(List (List Rat)))
 |0,_,_,_=>none
 |k+1,x62,x68,x74=>bif(decide (x74<(a5.length:Int))) then((bF x62 x74).bind fun v103=>bif(x74 != a0) then((bF x62 a0).bind fun v106=>(yQ K v103 v106 a1 x68).bind fun v108=>(aS (x74+1)).bind fun v113=>jC K a0 a1 a5 k x62 v108 v113) else((aS (x74+1)).bind fun v115=>jC K a0 a1 a5 k x62 x68 v115)) else(some (x62,x68))
def qK (K:Nat) (a0:Int) (a1:Int) (a5:List Nat) (a6:List Rat) (a7:List Int) (x43:List (List Rat)):Option ((List Nat)×(List Rat)×(List Int)×(List (List Rat))):=
 (jC K a0 a1 a5 K a5 x43 0).bind fun(x75,x81)=>qH K a0 a1 a6 a7 x75 x81
def lR (K:Nat) (a0:Int) (a5:List Nat) (a8:List (List Rat)) (v28:Rat) (v31:Nat):Nat→(List (List Rat))→Int→Option (List (List Rat))
 |0,_,_=>none
 |k+1,x38,x42=>bif(decide (x42<((a8.getD v31 []).length:Int))) then((bF (x38.getD v31 []) x42).bind fun v118=>(bF a5 a0).bind fun v123=>(aGv v118 v28).bind fun v125=>(bF (x38.getD v123 []) x42).bind fun v127=>(qL (x38.getD v123 []) x42 v125).bind fun x129=>(aS (x42+1)).bind fun v132=>lR K a0 a5 a8 v28 v31 k (x38.set v123 x129) v132) else(some x38)
def oW (K:Nat) (a0:Int) (a1:Int) (a2:Int) (a3:Int) (a4:Int) (a5:List Nat) (a6:List Rat) (a7:List Int) (a8:List (List Rat)):Option ((List Nat)×(List Rat)×(List Int)×(List (List Rat))):=
 (bF a5 a0).bind fun v26=>(bF (a8.getD v26 []) a1).bind fun v28=>(bF a5 a0).bind fun v31=>(lR K a0 a5 a8 v28 v31 K a8 0).bind fun x43=>qK K a0 a1 a5 a6 a7 x43
theorem wF {K:Nat} {a0:Int} {a1:Int} {a2:Int} {a3:Int} {a4:Int} {a5:List Nat} {a6:List Rat} {a7:List Int} {a8:List (List Rat)} {r:(List Nat)×(List Rat)×(List Int)×(List (List Rat))} (hF:oW K a0 a1 a2 a3 a4 a5 a6 a7 a8=some r) {p0:Nat} {b5:Option Nat} {c6 n7:Nat} {b10:Option Nat} {c11 n12:Nat} {b15:Option Nat} {c16 n17:Nat} {g20:List rK} {N21:Nat} (q8:a5.length=n7) (q13:a6.length=n12) (q18:a7.length=n17) (q22:a8.length=N21) (q23:cJ g20 a8) (q24:∀k∈a5,k<N21):CtO Tryz.prog 151 ([⟨some p0,1,123,6,1,([pI .i64 a2]++[pI .i64 a3]++[pI .i64 a4]++[pO b5 n7 c6]++[pO b10 n12 c11]++[pO b15 n17 c16])⟩,hO (cH g20) b5 c6 24 n7 a5,hO cQ b10 c11 42 n12 a6,hO cI b15 c16 3 n17 a7]++eD cQ 42 g20 a8) [.vc (pP (some p0) 0),.vc (pI .i64 a0),.vc (pI .i64 a1)] (fun Ho q=>∃b1134 c1135 n1136 g1143 N1144,r.1.length=n1136∧r.2.1.length=n12∧r.2.2.1.length=n17∧r.2.2.2.length=N1144∧cJ g1143 r.2.2.2∧(∀k∈r.1,k<N1144)∧Ho=([⟨some p0,1,123,6,1,([pI .i64 a2]++[pI .i64 a3]++[pI .i64 a4]++[pO b1134 n1136 c1135]++[pO b10 n12 c11]++[pO b15 n17 c16])⟩,hO (cH g1143) b1134 c1135 24 n1136 r.1,hO cQ b10 c11 42 n12 r.2.1,hO cI b15 c16 3 n17 r.2.2.1]++eD cQ 42 g1143 r.2.2.2)∧q=.any):=by
 unfold oW at hF
 refine aA Tryz.func151 rfl (by kernel_rfl) Tryz.ntmps151 rfl (fun w0 M0=>?_)
 obtain⟨v26,h27,v28,h29,hF⟩:=tW hF
 refine go ?_ ?_
 refine aI (cY (4+v26) rfl tyS24 (rV 4 rfl q23 q22 (q24 _ (aO h27))) (cR q23 q22 (q24 _ (aO h27))) (aD h29).1 (aD h29).2.1) zU2 ?_
 refine aI (iD (k:=4) (4+v26) rfl (rV 4 rfl q23 q22 (q24 _ (aO h27))) h29 rfl (.agg tyA42) rfl) zU1 ?_
 refine aN rfl tyZ42q (fun b30=>?_)
 have hF:=tJ h27 hF
 refine go ?_ ?_
 refine aI (aB3 (C:=cQ) (xs:=(a8.getD v26 [])) (T:=42) rfl tyS24 (cR q23 q22 (q24 _ (aO h27)))) zU1 ?_
 refine go ?_ ?_
 refine aG (aP (fun H E=>∃(x43:List (List Rat)),qK K a0 a1 a5 a6 a7 x43=some r∧x43.length=N21∧cJ g20 x43∧H=([⟨some p0,1,123,6,1,([pI .i64 a2]++[pI .i64 a3]++[pI .i64 a4]++[pO b5 n7 c6]++[pO b10 n12 c11]++[pO b15 n17 c16])⟩,hO (cH g20) b5 c6 24 n7 a5,hO cQ b10 c11 42 n12 a6,hO cI b15 c16 3 n17 a7]++eD cQ 42 g20 x43)∧E=[(0,.vc (pP (some p0) 0)),(1,.vc (pI .i64 a0)),(2,.vc (pI .i64 a1))]) ?_ (fun Jj48=>?_))
 ·rintro _ _ ⟨x43,hF,q44,q45,rfl,rfl⟩
  unfold qK at hF
  refine go ?_ ?_
  refine aG (aP (fun H E=>∃(x75:List Nat),∃(x81:List (List Rat)),∃(b76:Option Nat),∃(c77:Nat),∃(n78:Nat),∃(g82:List rK),∃(N83:Nat),qH K a0 a1 a6 a7 x75 x81=some r∧x75.length=n78∧x81.length=N83∧cJ g82 x81∧(∀k∈x75,k<N83)∧H=([⟨some p0,1,123,6,1,([pI .i64 a2]++[pI .i64 a3]++[pI .i64 a4]++[pO b76 n78 c77]++[pO b10 n12 c11]++[pO b15 n17 c16])⟩,hO (cH g82) b76 c77 24 n78 x75,hO cQ b10 c11 42 n12 a6,hO cI b15 c16 3 n17 a7]++eD cQ 42 g82 x81)∧E=[(0,.vc (pP (some p0) 0)),(1,.vc (pI .i64 a0)),(2,.vc (pI .i64 a1))]) ?_ (fun Jj88=>?_))
  ·rintro _ _ ⟨x75,x81,b76,c77,n78,g82,N83,hF,q79,q84,q85,q86,rfl,rfl⟩
   unfold qH at hF
   refine aJ (aC ?_)
   obtain⟨v91,h92,hF⟩:=aM hF
   refine dr [0,1,3,7,0,16,48,112,0,496,1008,0,4095] 12 1 ?_ (fun bs90 G89=>?_)
   obtain⟨v93,h94,hF⟩:=aM hF
   refine o7 4 [2] [0,1,3] rfl (aAd h94 q13 q84 q85 (q86 _ (aO h92))) ⟨rfl,rfl,rfl,trivial⟩ rfl rfl rfl (by decide) ?_
   rintro _ _ ⟨q95,rfl,rfl⟩
   refine mM (jS [hO cQ b10 c11 42 n12 v93] (eD cQ 42 g82 x81) [⟨some p0,1,123,6,1,([pI .i64 a2]++[pI .i64 a3]++[pI .i64 a4]++[pO b76 n78 c77]++[pO b10 n12 c11]++[pO b15 n17 c16])⟩,hO (cH g82) b76 c77 24 n78 x75,hO cI b15 c16 3 n17 a7]) ?_
   obtain⟨v97,h98,x99,h100,hF⟩:=tW hF
   obtain rfl:=eP hF
   refine go ?_ ?_
   exact jT (.inr rfl) Tryz.results151 .nil rfl 4 [1,2,0,3] rfl rfl (by decide) ⟨b76,c77,n78,g82,N83,q79,q95,(bC h100 q18),q84,q85,q86,rfl,rfl⟩
  obtain⟨⟨x75',x81'⟩,hL,hRl87⟩:=aM hF
  refine cA (fun k a w=>∃(x62:List Nat),∃(x68:List (List Rat)),∃(x74:Int),∃(b63:Option Nat),∃(c64:Nat),∃(n65:Nat),∃(g69:List rK),∃(N70:Nat),jC K a0 a1 a5 k x62 x68 x74=some (x75',x81')∧x62.length=n65∧x68.length=N70∧cJ g69 x68∧(∀k∈x62,k<N70)∧hs _ ([⟨some p0,1,123,6,1,([pI .i64 a2]++[pI .i64 a3]++[pI .i64 a4]++[pO b63 n65 c64]++[pO b10 n12 c11]++[pO b15 n17 c16])⟩,hO (cH g69) b63 c64 24 n65 x62,hO cQ b10 c11 42 n12 a6,hO cI b15 c16 3 n17 a7]++eD cQ 42 g69 x68) [(0,.vc (pP (some p0) 0)),(1,.vc (pI .i64 a0)),(2,.vc (pI .i64 a1)),(50,.vc (pO b63 n65 c64)),(51,.vc (pI .i64 (a5.length:Int))),(52,.vc (pI .i64 x74))] a w) K (fun a w ⟨_,_,_,_,_,_,_,_,hF,_,_,_,_,_⟩=>by cases hF) (fun k a w ⟨x62,x68,x74,b63,c64,n65,g69,N70,hF,q66,q71,q72,q73,hh⟩=>b0 ?_ hh) (fun a w hh=>⟨a5,x43,0,b5,c6,n7,g20,N21,hL,q8,q44,q45,q24,aR 4 [0,1,2,3] rfl rfl (by decide) (by exact⟨rfl,rfl,rfl,rfl,rfl,rfl,trivial⟩) hh⟩)
  rw [jC.eq_2] at hF
  refine go ?_ ?_
  refine aB hF rfl (fun h102 hF=>?_) (fun h102 hF=>?_)
  ·refine go ?_ ?_
   refine aG ?_
   obtain⟨v103,h104,hF⟩:=aM hF
   refine go ?_ ?_
   refine aB hF rfl (fun h105 hF=>?_) (fun h105 hF=>?_)
   ·obtain⟨v106,h107,v108,h109,hF⟩:=tW hF
    refine go ?_ ?_
    refine o7 4 [] [0,1,2,3] rfl (aDh h109 q71 q72 (q73 _ (aO h104)) (q73 _ (aO h107))) ⟨rfl,rfl,rfl,trivial⟩ rfl rfl rfl (by decide) ?_
    rintro _ _ ⟨q110,q111,rfl,rfl⟩
    refine mM (jS [] (eD cQ 42 g69 v108) [⟨some p0,1,123,6,1,([pI .i64 a2]++[pI .i64 a3]++[pI .i64 a4]++[pO b63 n65 c64]++[pO b10 n12 c11]++[pO b15 n17 c16])⟩,hO (cH g69) b63 c64 24 n65 x62,hO cQ b10 c11 42 n12 a6,hO cI b15 c16 3 n17 a7]) ?_
    obtain⟨v113,h114,hF⟩:=aM hF
    refine go ?_ ?_
    exact aF (fun a w hh=>⟨x62,v108,v113,b63,c64,n65,g69,N70,hF,q66,q110,q111,q73,aR 4 [0,1,2,3] rfl rfl (by decide) (by exact⟨rfl,rfl,rfl,rfl,rfl,rfl,trivial⟩) hh⟩)
   obtain⟨v115,h116,hF⟩:=aM hF
   refine go ?_ ?_
   exact aF (fun a w hh=>⟨x62,x68,v115,b63,c64,n65,g69,N70,hF,q66,q71,q72,q73,aR 4 [0,1,2,3] rfl rfl (by decide) (by exact⟨rfl,rfl,rfl,rfl,rfl,rfl,trivial⟩) hh⟩)
  refine aV ?_
  obtain⟨rfl,rfl⟩:=sm2 hF
  exact eJ Jj88 ⟨x62,x68,b63,c64,n65,g69,N70,hRl87,q66,q71,q72,q73,rfl,rfl⟩ 4 [0,1,2,3] rfl rfl ⟨rfl,rfl,rfl,trivial⟩
 obtain⟨x43',hL,hRl47⟩:=aM hF
 refine cA (fun k a w=>∃(x38:List (List Rat)),∃(x42:Int),lR K a0 a5 a8 v28 v26 k x38 x42=some x43'∧x38.length=N21∧cJ g20 x38∧hs _ ([⟨some b30,1,42,4,1,(eQ v28)⟩,⟨some p0,1,123,6,1,([pI .i64 a2]++[pI .i64 a3]++[pI .i64 a4]++[pO b5 n7 c6]++[pO b10 n12 c11]++[pO b15 n17 c16])⟩,hO (cH g20) b5 c6 24 n7 a5,hO cQ b10 c11 42 n12 a6,hO cI b15 c16 3 n17 a7]++eD cQ 42 g20 x38) [(0,.vc (pP (some p0) 0)),(1,.vc (pI .i64 a0)),(2,.vc (pI .i64 a1)),(6,.vc (pP (some b30) 0)),(27,.vc (pO (gA g20 v26).1 (gA g20 v26).2.1 (gA g20 v26).2.2)),(28,.vc (pI .i64 ((a8.getD v26 []).length:Int))),(29,.vc (pI .i64 x42))] a w) K (fun a w ⟨_,_,hF,_,_,_⟩=>by cases hF) (fun k a w ⟨x38,x42,hF,q39,q40,hh⟩=>b0 ?_ hh) (fun a w hh=>⟨a8,0,hL,q22,q23,aR 5 [0,1,2,3,4] rfl rfl (by decide) (by exact⟨rfl,rfl,rfl,rfl,rfl,rfl,rfl,trivial⟩) hh⟩)
 rw [lR.eq_2] at hF
 refine go ?_ ?_
 refine aB hF rfl (fun h117 hF=>?_) (fun h117 hF=>?_)
 ·refine go ?_ ?_
  refine aG ?_
  obtain⟨v118,h119,hF⟩:=aM hF
  refine go ?_ ?_
  refine aI (cY (5+v26) rfl tyS24 (rV 5 rfl q40 q39 (q24 _ (aO h27))) (cR q40 q39 (q24 _ (aO h27))) (aD h119).1 (aD h119).2.1) zU2 ?_
  refine aI (iD (k:=4) (5+v26) rfl (rV 5 rfl q40 q39 (q24 _ (aO h27))) h119 rfl (.agg tyA42) rfl) zU1 ?_
  refine aN rfl tyZ42q (fun b120=>?_)
  have hF:=tJ h27 hF
  obtain⟨v125,h126,hF⟩:=aW hF y9
  have hF:=tJ h119 hF
  refine go ?_ ?_
  refine iQ [0,1,3,7,0,31,63,0,0,0,768,2047,4095] 12 1 [.v (.vc (pP (some p0) 0)),.v (.vc (pP (some p0) 0)),.v (.vc (pP (some p0) 3)),.v (.vc (pO b5 n7 c6)),.v (.vc (pI .i64 a0)),.v (.vc (pE b5 a0 (cH g20).n 0)),.v (.vc (pO (gA g20 v26).1 (gA g20 v26).2.1 (gA g20 v26).2.2)),.v (.vc (pI .i64 x42)),.v (.va (eQ v118)),.v (.va (eQ v28)),.v (.va (eQ v125)),.v (.vc (pE (gA g20 v26).1 x42 cQ.n 0))] aU ⟨d0 (aL (.inl rfl)) zU1,d0 (s9 rfl) zU1,d0 (gV (off:=0) (k:=3) rfl tyF123_3) zU1,d0 (gC 2 1 rfl rfl rfl rfl (.one tyO23)) zU1,d0 (aL (.inl rfl)) zU1,d0 (cY (C:=(cH g20)) 3 rfl tyS23 rfl q8 (aD h27).1 (aD h27).2.1) zU2,d0 (iD (C:=(cH g20)) (k:=1) 3 rfl rfl h27 rfl (.one tyO24) rfl) zU1,d0 (aL (.inl rfl)) zU1,d0 (gC 0 4 rfl rfl rfl rfl (.agg tyA42)) zU1,d0 (gC 1 4 rfl rfl rfl rfl (.agg tyA42)) zU1,d0 (bE rfl h126 rfl) zU2,d0 (cY (6+v26) rfl tyS24 (gW 6 rfl q40 q39 (q24 _ (aO h27))) (cR q40 q39 (q24 _ (aO h27))) (aD h119).1 (aD h119).2.1) zU2,trivial⟩ (fun bs122 G121=>?_)
  obtain⟨x129,h130,hF⟩:=aM hF
  refine mD (yM (H':=([⟨some b120,1,42,4,1,(eQ v118)⟩,⟨some b30,1,42,4,1,(eQ v28)⟩,⟨some p0,1,123,6,1,([pI .i64 a2]++[pI .i64 a3]++[pI .i64 a4]++[pO b5 n7 c6]++[pO b10 n12 c11]++[pO b15 n17 c16])⟩,hO (cH g20) b5 c6 24 n7 a5,hO cQ b10 c11 42 n12 a6,hO cI b15 c16 3 n17 a7]++eD cQ 42 g20 (x38.set v26 x129))) (6+v26) rfl (rV 6 rfl q40 q39 (q24 _ (aO h27))) h119 h130 tyA42.s (hH:=stN 6 rfl q40 q39 (q24 _ (aO h27)))) zU2 ?_
  obtain⟨v132,h133,hF⟩:=aM hF
  refine go ?_ ?_
  exact aF (fun a w hh=>⟨(x38.set v26 x129),v132,hF,(aBR q39),(aDI q40 q39 (q24 _ (aO h27)) (bC h130 rfl)),aR 6 [1,2,3,4,5] rfl rfl (by decide) (by exact⟨rfl,rfl,rfl,rfl,rfl,rfl,rfl,trivial⟩) hh⟩)
 refine aV ?_
 obtain rfl:=eP hF
 exact eJ Jj48 ⟨x38,hRl47,q39,q40,rfl,rfl⟩ 5 [1,2,3,4] rfl rfl ⟨rfl,rfl,rfl,trivial⟩
def lY (K:Nat) (x106:List Nat) (x112:List Rat) (x118:List Int) (x124:List (List Rat)) (x130:Bool) (x131:Int):Option (Nat×(List Nat)×(List Rat)×(List Int)×(List (List Rat))×Bool×Int):=
 some (0,(x106,x112,x118,x124,x130,x131))
def fG (K:Nat) (a3:Int) (yF:Int→(List Nat)→(List Rat)→(List Int)→(List (List Rat))→Bool→Int→Option (Nat×(List Nat)×(List Rat)×(List Int)×(List (List Rat))×Bool×Int)):Nat→(List Nat)→(List Rat)→(List Int)→(List (List Rat))→Bool→Int→Int→Option (LR (Nat×(List Nat)×(List Rat)×(List Int)×(List (List Rat))×Bool×Int) ((List Nat)×(List Rat)×(List Int)×(List (List Rat))×Bool×Int))
 |0,_,_,_,_,_,_,_=>none
 |k+1,x79,x85,x91,x97,x103,x104,x105=>bif(decide (x105<a3)) then((bF x85 x105).bind fun v135=>(xD v135).bind fun v137=>bif(decide (v137<0)) then((yF x105 x79 x85 x91 x97 x103 x104).bind fun v140=>bif Nat.beq v140.1 0 then((aS (x105+1)).bind fun v169=>fG K a3 yF k v140.2.1 v140.2.2.1 v140.2.2.2.1 v140.2.2.2.2.1 v140.2.2.2.2.2.1 v140.2.2.2.2.2.2 v169) else(some (.ret (v140.1,(v140.2.1,v140.2.2.1,v140.2.2.2.1,v140.2.2.2.2.1,v140.2.2.2.2.2.1,v140.2.2.2.2.2.2))))) else((aS (x105+1)).bind fun v199=>fG K a3 yF k x79 x85 x91 x97 x103 x104 v199)) else(some (.go (x79,x85,x91,x97,x103,x104)))
def pD (K:Nat) (yF:Int→(List Nat)→(List Rat)→(List Int)→(List (List Rat))→Bool→Int→Option (Nat×(List Nat)×(List Rat)×(List Int)×(List (List Rat))×Bool×Int)) (a0:Int) (a1:Int) (a2:Int) (a3:Int) (a4:Bool) (a5:Int) (a6:List Nat) (a7:List Rat) (a8:List Int) (a9:List (List Rat)):Option (Nat×(List Nat)×(List Rat)×(List Int)×(List (List Rat))×Bool×Int):=
 (fG K a3 yF K a6 a7 a8 a9 a4 a5 0).bind fun o=>match o with| .ret r=>some r| .go (x106,x112,x118,x124,x130,x131)=>lY K x106 x112 x118 x124 x130 x131
theorem yY {K:Nat} {yF:Int→(List Nat)→(List Rat)→(List Int)→(List (List Rat))→Bool→Int→Option (Nat×(List Nat)×(List Rat)×(List Int)×(List (List Rat))×Bool×Int)} {l:Nat} {x:LX} {jump:Nat→Code} {Mb:jI} {a0:Int} {a1:Int} {a2:Int} {a3:Int} {a4:Bool} {a5:Int} {a6:List Nat} {a7:List Rat} {a8:List Int} {a9:List (List Rat)} {p0:Nat} {p1:Nat} {p2:Nat} {p3:Nat} {p4:Nat} {p5:Nat} {b5:Option Nat} {c6 n7:Nat} {b10:Option Nat} {c11 n12:Nat} {b15:Option Nat} {c16 n17:Nat} {g20:List rK} {N21:Nat} (hY:∀(k0:Int) (x26:List Nat) (x32:List Rat) (x38:List Int) (x44:List (List Rat)) (x50:Bool) (x51:Int) (r:Nat×(List Nat)×(List Rat)×(List Int)×(List (List Rat))×Bool×Int) (b27:Option Nat) (c28:Nat) (n29:Nat) (g45:List rK) (N46:Nat),x26.length=n29→x32.length=n12→x38.length=n17→x44.length=N46→cJ g45 x44→(∀k∈x26,k<N46)→yF k0 x26 x32 x38 x44 x50 x51=some r→CtY Tryz.prog l x jump Mb ([⟨some p0,1,123,6,1,([pI .i64 a0]++[pI .i64 a1]++[pI .i64 a2]++[pO b27 n29 c28]++[pO b10 n12 c11]++[pO b15 n17 c16])⟩,⟨some p1,1,3,1,1,[pI .i64 a3]⟩,⟨some p2,1,120,1,1,[pP (some p0) 0]⟩,⟨some p3,1,4,1,1,[pB x50]⟩,⟨some p4,1,3,1,1,[pI .i64 x51]⟩,⟨some p5,1,120,1,1,[pP (some p0) 0]⟩,hO (cH g45) b27 c28 24 n29 x26,hO cQ b10 c11 42 n12 x32,hO cI b15 c16 3 n17 x38]++eD cQ 42 g45 x44) [.vc (pI .i64 k0)] (fun j Ho=>∃(b27':Option Nat),∃(c28':Nat),∃(n29':Nat),∃(g45':List rK),∃(N46':Nat),j=r.1∧r.2.1.length=n29'∧r.2.2.1.length=n12∧r.2.2.2.1.length=n17∧r.2.2.2.2.1.length=N46'∧cJ g45' r.2.2.2.2.1∧(∀k∈r.2.1,k<N46')∧Ho=([⟨some p0,1,123,6,1,([pI .i64 a0]++[pI .i64 a1]++[pI .i64 a2]++[pO b27' n29' c28']++[pO b10 n12 c11]++[pO b15 n17 c16])⟩,⟨some p1,1,3,1,1,[pI .i64 a3]⟩,⟨some p2,1,120,1,1,[pP (some p0) 0]⟩,⟨some p3,1,4,1,1,[pB r.2.2.2.2.2.1]⟩,⟨some p4,1,3,1,1,[pI .i64 r.2.2.2.2.2.2]⟩,⟨some p5,1,120,1,1,[pP (some p0) 0]⟩,hO (cH g45') b27' c28' 24 n29' r.2.1,hO cQ b10 c11 42 n12 r.2.2.1,hO cI b15 c16 3 n17 r.2.2.2.1]++eD cQ 42 g45' r.2.2.2.2.1))) {r:Nat×(List Nat)×(List Rat)×(List Int)×(List (List Rat))×Bool×Int} (hF:pD K yF a0 a1 a2 a3 a4 a5 a6 a7 a8 a9=some r) (q8:a6.length=n7) (q13:a7.length=n12) (q18:a8.length=n17) (q22:a9.length=N21) (q23:cJ g20 a9) (q24:∀k∈a6,k<N21):CtI Tryz.prog 169 l x jump Mb ([⟨some p0,1,123,6,1,([pI .i64 a0]++[pI .i64 a1]++[pI .i64 a2]++[pO b5 n7 c6]++[pO b10 n12 c11]++[pO b15 n17 c16])⟩,⟨some p1,1,3,1,1,[pI .i64 a3]⟩,⟨some p2,1,120,1,1,[pP (some p0) 0]⟩,⟨some p3,1,4,1,1,[pB a4]⟩,⟨some p4,1,3,1,1,[pI .i64 a5]⟩,⟨some p5,1,120,1,1,[pP (some p0) 0]⟩,hO (cH g20) b5 c6 24 n7 a6,hO cQ b10 c11 42 n12 a7,hO cI b15 c16 3 n17 a8]++eD cQ 42 g20 a9) [.vc (pY l),.vc (pP (some p1) 0),.vc (pP (some p2) 0)] (fun j Ho=>∃(b27':Option Nat),∃(c28':Nat),∃(n29':Nat),∃(g45':List rK),∃(N46':Nat),j=r.1∧r.2.1.length=n29'∧r.2.2.1.length=n12∧r.2.2.2.1.length=n17∧r.2.2.2.2.1.length=N46'∧cJ g45' r.2.2.2.2.1∧(∀k∈r.2.1,k<N46')∧Ho=([⟨some p0,1,123,6,1,([pI .i64 a0]++[pI .i64 a1]++[pI .i64 a2]++[pO b27' n29' c28']++[pO b10 n12 c11]++[pO b15 n17 c16])⟩,⟨some p1,1,3,1,1,[pI .i64 a3]⟩,⟨some p2,1,120,1,1,[pP (some p0) 0]⟩,⟨some p3,1,4,1,1,[pB r.2.2.2.2.2.1]⟩,⟨some p4,1,3,1,1,[pI .i64 r.2.2.2.2.2.2]⟩,⟨some p5,1,120,1,1,[pP (some p0) 0]⟩,hO (cH g45') b27' c28' 24 n29' r.2.1,hO cQ b10 c11 42 n12 r.2.2.1,hO cI b15 c16 3 n17 r.2.2.2.1]++eD cQ 42 g45' r.2.2.2.2.1)):=by
 unfold pD at hF
 refine aG4 Tryz.func169 rfl (by kernel_rfl) Tryz.ntmps169 rfl (fun w0 M0 h0 hMb=>?_)
 refine go ?_ ?_
 refine aG (aP (fun H E=>∃(x106:List Nat),∃(x112:List Rat),∃(x118:List Int),∃(x124:List (List Rat)),∃(x130:Bool),∃(x131:Int),∃(b107:Option Nat),∃(c108:Nat),∃(n109:Nat),∃(g125:List rK),∃(N126:Nat),lY K x106 x112 x118 x124 x130 x131=some r∧x106.length=n109∧x112.length=n12∧x118.length=n17∧x124.length=N126∧cJ g125 x124∧(∀k∈x106,k<N126)∧H=([⟨some p0,1,123,6,1,([pI .i64 a0]++[pI .i64 a1]++[pI .i64 a2]++[pO b107 n109 c108]++[pO b10 n12 c11]++[pO b15 n17 c16])⟩,⟨some p1,1,3,1,1,[pI .i64 a3]⟩,⟨some p2,1,120,1,1,[pP (some p0) 0]⟩,⟨some p3,1,4,1,1,[pB x130]⟩,⟨some p4,1,3,1,1,[pI .i64 x131]⟩,⟨some p5,1,120,1,1,[pP (some p0) 0]⟩,hO (cH g125) b107 c108 24 n109 x106,hO cQ b10 c11 42 n12 x112,hO cI b15 c16 3 n17 x118]++eD cQ 42 g125 x124)∧E=[]) ?_ (fun Jj133=>?_))
 ·rintro _ _ ⟨x106,x112,x118,x124,x130,x131,b107,c108,n109,g125,N126,hF,q110,q116,q122,q127,q128,q129,rfl,rfl⟩
  unfold lY at hF
  obtain rfl:=eP hF
  exact aFv 0 (.inr rfl) Tryz.results169 h0 (aEK 9 [0,1,2,3,4,5,6,7,8] rfl rfl) ⟨b107,c108,n109,g125,N126,rfl,q110,q116,q122,q127,q128,q129,rfl⟩
 obtain⟨ol132,hL,hRl132⟩:=aM hF
 refine cA (fun k a w=>∃(x79:List Nat),∃(x85:List Rat),∃(x91:List Int),∃(x97:List (List Rat)),∃(x103:Bool),∃(x104:Int),∃(x105:Int),∃(b80:Option Nat),∃(c81:Nat),∃(n82:Nat),∃(g98:List rK),∃(N99:Nat),fG K a3 yF k x79 x85 x91 x97 x103 x104 x105=some ol132∧x79.length=n82∧x85.length=n12∧x91.length=n17∧x97.length=N99∧cJ g98 x97∧(∀k∈x79,k<N99)∧hs _ ([⟨some p0,1,123,6,1,([pI .i64 a0]++[pI .i64 a1]++[pI .i64 a2]++[pO b80 n82 c81]++[pO b10 n12 c11]++[pO b15 n17 c16])⟩,⟨some p1,1,3,1,1,[pI .i64 a3]⟩,⟨some p2,1,120,1,1,[pP (some p0) 0]⟩,⟨some p3,1,4,1,1,[pB x103]⟩,⟨some p4,1,3,1,1,[pI .i64 x104]⟩,⟨some p5,1,120,1,1,[pP (some p0) 0]⟩,hO (cH g98) b80 c81 24 n82 x79,hO cQ b10 c11 42 n12 x85,hO cI b15 c16 3 n17 x91]++eD cQ 42 g98 x97) [(0,.vc (pY l)),(2,.vc (pP (some p2) 0)),(5,.vc (pI .i64 a3)),(6,.vc (pI .i64 x105))] a w) K (fun a w ⟨_,_,_,_,_,_,_,_,_,_,_,_,hF,_,_,_,_,_,_,_⟩=>by cases hF) (fun k a w ⟨x79,x85,x91,x97,x103,x104,x105,b80,c81,n82,g98,N99,hF,q83,q89,q95,q100,q101,q102,hh⟩=>b0 ?_ hh) (fun a w hh=>⟨a6,a7,a8,a9,a4,a5,0,b5,c6,n7,g20,N21,hL,q8,q13,q18,q22,q23,q24,aR 9 [0,1,2,3,4,5,6,7,8] rfl rfl (by decide) (by exact⟨rfl,rfl,rfl,rfl,trivial⟩) hh⟩)
 rw [fG.eq_2] at hF
 refine go ?_ ?_
 refine aB hF rfl (fun h134 hF=>?_) (fun h134 hF=>?_)
 ·refine go ?_ ?_
  refine aG ?_
  obtain⟨v135,h136,hF⟩:=aM hF
  obtain⟨v137,h138,hF⟩:=aW hF eS
  refine go ?_ ?_
  refine cC hF (fun h139 hF=>?_) (fun h139 hF=>?_)
  ·refine w8 (aL (.inl rfl)) zU1 ?_
   refine w8 (aL (.inl rfl)) zU1 ?_
   obtain⟨v140,h141,hF⟩:=aM hF
   refine aPv rfl (hY _ _ _ _ _ _ _ _ _ _ _ _ _ q83 q89 q95 q100 q101 q102 h141) h0 hMb zU2 ?_ ?_
   ·skip
    rintro _ ⟨b144,c145,n146,g162,N163,hj142,q147,q153,q159,q164,q165,q166,rfl⟩
    have hF:=vK (show Nat.beq v140.1 0=true by rw [←hj142];rfl) hF
    refine go ?_ ?_
    refine wX rfl ?_
    obtain⟨v169,h170,hF⟩:=aM hF
    refine go ?_ ?_
    exact aF (fun a w hh=>⟨v140.2.1,v140.2.2.1,v140.2.2.2.1,v140.2.2.2.2.1,v140.2.2.2.2.2.1,v140.2.2.2.2.2.2,v169,b144,c145,n146,g162,N163,hF,q147,q153,q159,q164,q165,q166,aR 9 [0,1,2,3,4,5,6,7,8] rfl rfl (by decide) (by exact⟨rfl,rfl,rfl,rfl,trivial⟩) hh⟩)
   rintro j171 _ ⟨b174,c175,n176,g192,N193,hj172,q177,q183,q189,q194,q195,q196,rfl⟩
   have hF:=tU (show Nat.beq v140.1 0=false by rw [←hj172];rfl) hF
   refine go ?_ ?_
   refine fV rfl ?_
   refine dQ (dL ?_)
   obtain rfl:=eP hF
   obtain rfl:=eP hRl132
   exact aFv (j171+1) (.inl rfl) Tryz.results169 h0 (aEK 9 [0,1,2,3,4,5,6,7,8] rfl rfl) ⟨b174,c175,n176,g192,N193,hj172,q177,q183,q189,q194,q195,q196,rfl⟩
  refine go ?_ ?_
  refine wX rfl ?_
  obtain⟨v199,h200,hF⟩:=aM hF
  refine go ?_ ?_
  exact aF (fun a w hh=>⟨x79,x85,x91,x97,x103,x104,v199,b80,c81,n82,g98,N99,hF,q83,q89,q95,q100,q101,q102,aR 9 [0,1,2,3,4,5,6,7,8] rfl rfl (by decide) (by exact⟨rfl,rfl,rfl,rfl,trivial⟩) hh⟩)
 refine aV ?_
 obtain rfl:=eP hF
 exact eJ Jj133 ⟨x79,x85,x91,x97,x103,x104,b80,c81,n82,g98,N99,hRl132,q83,q89,q95,q100,q101,q102,rfl,rfl⟩ 9 [0,1,2,3,4,5,6,7,8] rfl rfl trivial
def rF (K:Nat) (x83:List Nat) (x89:List Rat) (x95:List Int) (x101:List (List Rat)) (x107:Int):Option (Int×(List Nat)×(List Rat)×(List Int)×(List (List Rat))):=
 some ((-1),x83,x89,x95,x101)
def wB (K:Nat) (a1:Int) (a2:Int) (a3:Int) (k142:Int) (x116:List Nat) (x122:List Rat) (x128:List Int) (x134:List (List Rat)) (x140:Bool) (x141:Int):Option (Nat×(List Nat)×(List Rat)×(List Int)×(List (List Rat))×Bool×Int):=
 (rY K k142 a1 a2 a3 x116 x122 x128 x134).bind fun v146=>bif(decide (v146<0)) then(some (1,(x116,x122,x128,x134,x140,k142))) else((oW K v146 k142 a1 a2 a3 x116 x122 x128 x134).bind fun v149=>some (2,(v149.1,v149.2.1,v149.2.2.1,v149.2.2.2,true,x141)))
def jR (K:Nat) (a0:Int) (a1:Int) (a2:Int) (a3:Int):Nat→(List Nat)→(List Rat)→(List Int)→(List (List Rat))→Bool→Int→Option (LR (Int×(List Nat)×(List Rat)×(List Int)×(List (List Rat))) ((List Nat)×(List Rat)×(List Int)×(List (List Rat))×Int))
 |0,_,_,_,_,_,_=>none
 |k+1,x57,x63,x69,x75,x81,x82=>bif x81 then((rI a0 a1 a2 a3 x57 x63 x69 x75).bind fun v111=>(pD K (wB K a1 a2 a3) a1 a2 a3 a0 false x82 x57 x63 x69 x75).bind fun v144=>bif Nat.beq v144.1 0 then(jR K a0 a1 a2 a3 k v144.2.1 v144.2.2.1 v144.2.2.2.1 v144.2.2.2.2.1 v144.2.2.2.2.2.1 v144.2.2.2.2.2.2) else(bif Nat.beq v144.1 1 then(some (.ret (v144.2.2.2.2.2.2,v144.2.1,v144.2.2.1,v144.2.2.2.1,v144.2.2.2.2.1))) else(bif Nat.beq v144.1 2 then(jR K a0 a1 a2 a3 k v144.2.1 v144.2.2.1 v144.2.2.2.1 v144.2.2.2.2.1 v144.2.2.2.2.2.1 v144.2.2.2.2.2.2) else(none)))) else(some (.go (x57,x63,x69,x75,x82)))
def rJ (K:Nat) (a0:Int) (a1:Int) (a2:Int) (a3:Int) (a4:List Nat) (a5:List Rat) (a6:List Int) (a7:List (List Rat)):Option (Int×(List Nat)×(List Rat)×(List Int)×(List (List Rat))):=
 (jR K a0 a1 a2 a3 K a4 a5 a6 a7 true 0).bind fun o=>match o with| .ret r=>some r| .go (x83,x89,x95,x101,x107)=>rF K x83 x89 x95 x101 x107
theorem xC {K:Nat} {a0:Int} {a1:Int} {a2:Int} {a3:Int} {a4:List Nat} {a5:List Rat} {a6:List Int} {a7:List (List Rat)} {r:Int×(List Nat)×(List Rat)×(List Int)×(List (List Rat))} (hF:rJ K a0 a1 a2 a3 a4 a5 a6 a7=some r) {p0:Nat} {b5:Option Nat} {c6 n7:Nat} {b10:Option Nat} {c11 n12:Nat} {b15:Option Nat} {c16 n17:Nat} {g20:List rK} {N21:Nat} (q8:a4.length=n7) (q13:a5.length=n12) (q18:a6.length=n17) (q22:a7.length=N21) (q23:cJ g20 a7) (q24:∀k∈a4,k<N21):CtO Tryz.prog 114 ([⟨some p0,1,123,6,1,([pI .i64 a1]++[pI .i64 a2]++[pI .i64 a3]++[pO b5 n7 c6]++[pO b10 n12 c11]++[pO b15 n17 c16])⟩,hO (cH g20) b5 c6 24 n7 a4,hO cQ b10 c11 42 n12 a5,hO cI b15 c16 3 n17 a6]++eD cQ 42 g20 a7) [.vc (pP (some p0) 0),.vc (pI .i64 a0)] (fun Ho q=>∃b1276 c1277 n1278 g1285 N1286,r.2.1.length=n1278∧r.2.2.1.length=n12∧r.2.2.2.1.length=n17∧r.2.2.2.2.length=N1286∧cJ g1285 r.2.2.2.2∧(∀k∈r.2.1,k<N1286)∧Ho=([⟨some p0,1,123,6,1,([pI .i64 a1]++[pI .i64 a2]++[pI .i64 a3]++[pO b1276 n1278 c1277]++[pO b10 n12 c11]++[pO b15 n17 c16])⟩,hO (cH g1285) b1276 c1277 24 n1278 r.2.1,hO cQ b10 c11 42 n12 r.2.2.1,hO cI b15 c16 3 n17 r.2.2.2.1]++eD cQ 42 g1285 r.2.2.2.2)∧q=.vc (pI .i64 r.1)):=by
 unfold rJ at hF
 refine aA Tryz.func114 rfl (by kernel_rfl) Tryz.ntmps114 rfl (fun w0 M0=>?_)
 refine aC (aH (bV rfl rfl trivial (fun b26=>?_)))
 refine aN rfl tyZ3q (fun b27=>?_)
 refine go ?_ ?_
 refine aN rfl tyZ4q (fun b28=>?_)
 refine go ?_ ?_
 refine aG (aP (fun H E=>∃(x83:List Nat),∃(x89:List Rat),∃(x95:List Int),∃(x101:List (List Rat)),∃(x107:Int),∃(b84:Option Nat),∃(c85:Nat),∃(n86:Nat),∃(g102:List rK),∃(N103:Nat),rF K x83 x89 x95 x101 x107=some r∧x83.length=n86∧x89.length=n12∧x95.length=n17∧x101.length=N103∧cJ g102 x101∧(∀k∈x83,k<N103)∧H=([⟨some b27,1,3,1,1,[pI .i64 x107]⟩,⟨some p0,1,123,6,1,([pI .i64 a1]++[pI .i64 a2]++[pI .i64 a3]++[pO b84 n86 c85]++[pO b10 n12 c11]++[pO b15 n17 c16])⟩,hO (cH g102) b84 c85 24 n86 x83,hO cQ b10 c11 42 n12 x89,hO cI b15 c16 3 n17 x95]++eD cQ 42 g102 x101)∧E=[(4,.vc (pP (some b27) 0))]) ?_ (fun Jj109=>?_))
 ·rintro _ _ ⟨x83,x89,x95,x101,x107,b84,c85,n86,g102,N103,hF,q87,q93,q99,q104,q105,q106,rfl,rfl⟩
  unfold rF at hF
  refine go ?_ ?_
  refine dQ (dL ?_)
  obtain rfl:=eP hF
  exact jT (.inl rfl) Tryz.results114 (yL 0 1 rfl rfl rfl rfl (.one tyO3) .nil) rfl 5 [1,2,3,4] rfl rfl (by decide) ⟨b84,c85,n86,g102,N103,q87,q93,q99,q104,q105,q106,rfl,rfl⟩
 obtain⟨ol108,hL,hRl108⟩:=aM hF
 refine cA (fun k a w=>∃(x57:List Nat),∃(x63:List Rat),∃(x69:List Int),∃(x75:List (List Rat)),∃(x81:Bool),∃(x82:Int),∃(b58:Option Nat),∃(c59:Nat),∃(n60:Nat),∃(g76:List rK),∃(N77:Nat),∃(b56:Nat),jR K a0 a1 a2 a3 k x57 x63 x69 x75 x81 x82=some ol108∧x57.length=n60∧x63.length=n12∧x69.length=n17∧x75.length=N77∧cJ g76 x75∧(∀k∈x57,k<N77)∧hs _ ([⟨some b56,1,4,1,1,[pB x81]⟩,⟨some b27,1,3,1,1,[pI .i64 x82]⟩,⟨some b26,1,120,1,1,[pP (some p0) 0]⟩,⟨some p0,1,123,6,1,([pI .i64 a1]++[pI .i64 a2]++[pI .i64 a3]++[pO b58 n60 c59]++[pO b10 n12 c11]++[pO b15 n17 c16])⟩,hO (cH g76) b58 c59 24 n60 x57,hO cQ b10 c11 42 n12 x63,hO cI b15 c16 3 n17 x69]++eD cQ 42 g76 x75) [(1,.vc (pI .i64 a0)),(2,.vc (pP (some b26) 0)),(4,.vc (pP (some b27) 0)),(5,.vc (pP (some b56) 0))] a w) K (fun a w ⟨_,_,_,_,_,_,_,_,_,_,_,_,hF,_,_,_,_,_,_,_⟩=>by cases hF) (fun k a w ⟨x57,x63,x69,x75,x81,x82,b58,c59,n60,g76,N77,b56,hF,q61,q67,q73,q78,q79,q80,hh⟩=>b0 ?_ hh) (fun a w hh=>⟨a4,a5,a6,a7,true,0,b5,c6,n7,g20,N21,b28,hL,q8,q13,q18,q22,q23,q24,aR 7 [0,1,2,3,4,5,6] rfl rfl (by decide) (by exact⟨rfl,rfl,rfl,rfl,trivial⟩) hh⟩)
 rw [jR.eq_2] at hF
 refine go ?_ ?_
 refine aB hF rfl (fun h110 hF=>?_) (fun h110 hF=>?_)
 ·refine go ?_ ?_
  refine aG ?_
  obtain⟨v111,h112,hF⟩:=aM hF
  refine go ?_ ?_
  refine o7 7 [3,4,5,6] [0,1,2] rfl (zR h112 q61 q67 q73 q78 q79 q80) zU2 rfl rfl rfl (by decide) ?_
  rintro _ _ ⟨b113,b114,rfl,rfl⟩
  refine mM (jS [⟨some p0,1,123,6,1,([pI .i64 a1]++[pI .i64 a2]++[pI .i64 a3]++[pO b58 n60 c59]++[pO b10 n12 c11]++[pO b15 n17 c16])⟩,⟨some b113,1,3,1,1,[pI .i64 a0]⟩,⟨some b114,1,120,1,1,[pP (some p0) 0]⟩,hO (cH g76) b58 c59 24 n60 x57,hO cQ b10 c11 42 n12 x63,hO cI b15 c16 3 n17 x69] (eD cQ 42 g76 x75) [⟨some b56,1,4,1,1,[pB false]⟩,⟨some b27,1,3,1,1,[pI .i64 x82]⟩,⟨some b26,1,120,1,1,[pP (some p0) 0]⟩]) ?_
  refine aT (aJ (aG (aRF 9 [0,1,2,6,7,8,3,4,5] rfl rfl ?_)))
  obtain⟨v144,h145,hF⟩:=aM hF
  refine aOh (fun j=>match j with|0=>Go.Code.ret|1=>Go.Code.exit 2|_=>Go.Code.skip) rfl (fun x l Mb hx1 hx2 hx3 ht=>yY (fun k142 x116 x122 x128 x134 x140 x141 rb143 b117 c118 n119 g135 N136 q120 q126 q132 q137 q138 q139 hF=>?_) h145 q61 q67 q73 q78 q79 q80) (fun Ho hHo=>?_) (fun j Ho hHo=>?_)
  ·refine aG5 ht hx1 rfl (fun w0 M0 h0 hMb=>?_)
   rw [hx2,hx3]
   unfold wB at hF
   refine go ?_ ?_
   refine aKQ h0 ?_
   refine aG ?_
   obtain⟨v146,h147,hF⟩:=aM hF
   refine go ?_ ?_
   refine o7 9 [0,6,7,8] [1,2,3,4,5] rfl (aAb h147 q120 q126 q132 q137 q138 q139) zU2 rfl rfl rfl (by decide) ?_
   rintro _ _ ⟨rfl,rfl⟩
   refine mM (jS [⟨some p0,1,123,6,1,([pI .i64 a1]++[pI .i64 a2]++[pI .i64 a3]++[pO b117 n119 c118]++[pO b10 n12 c11]++[pO b15 n17 c16])⟩,hO (cH g135) b117 c118 24 n119 x116,hO cQ b10 c11 42 n12 x122,hO cI b15 c16 3 n17 x128] (eD cQ 42 g135 x134) [⟨some b113,1,3,1,1,[pI .i64 a0]⟩,⟨some b114,1,120,1,1,[pP (some p0) 0]⟩,⟨some b56,1,4,1,1,[pB x140]⟩,⟨some b27,1,3,1,1,[pI .i64 x141]⟩,⟨some b26,1,120,1,1,[pP (some p0) 0]⟩]) ?_
   refine go ?_ ?_
   refine aB hF rfl (fun h148 hF=>?_) (fun h148 hF=>?_)
   ·refine go ?_ ?_
    refine dQ (dL ?_)
    obtain rfl:=eP hF
    exact aSf 0 rfl h0 (aEK 9 [0,4,5,6,7,8,1,2,3] rfl rfl) ⟨b117,c118,n119,g135,N136,rfl,q120,q126,q132,q137,q138,q139,rfl⟩
   obtain⟨v149,h150,hF⟩:=aM hF
   refine go ?_ ?_
   refine o7 9 [0,1,2,3] [4,5,6,7,8] rfl (wF h150 q120 q126 q132 q137 q138 q139) ⟨rfl,rfl,rfl,trivial⟩ rfl rfl rfl (by decide) ?_
   rintro _ _ ⟨b151,c152,n153,g160,N161,q154,q156,q158,q162,q163,q164,rfl,rfl⟩
   refine mM (jS [⟨some p0,1,123,6,1,([pI .i64 a1]++[pI .i64 a2]++[pI .i64 a3]++[pO b151 n153 c152]++[pO b10 n12 c11]++[pO b15 n17 c16])⟩,hO (cH g160) b151 c152 24 n153 v149.1,hO cQ b10 c11 42 n12 v149.2.1,hO cI b15 c16 3 n17 v149.2.2.1] (eD cQ 42 g160 v149.2.2.2) [⟨some b113,1,3,1,1,[pI .i64 a0]⟩,⟨some b114,1,120,1,1,[pP (some p0) 0]⟩,⟨some b56,1,4,1,1,[pB x140]⟩,⟨some b27,1,3,1,1,[pI .i64 x141]⟩,⟨some b26,1,120,1,1,[pP (some p0) 0]⟩]) ?_
   refine go ?_ ?_
   refine aV ?_
   obtain rfl:=eP hF
   exact aSj 1 rfl h0 (aEK 9 [0,4,5,6,7,8,1,2,3] rfl rfl) ⟨b151,c152,n153,g160,N161,rfl,q154,q156,q158,q162,q163,q164,rfl⟩
  ·skip
   obtain⟨b168,c169,n170,g186,N187,hj166,q171,q177,q183,q188,q189,q190,rfl⟩:=hHo
   have hF:=vK (show Nat.beq v144.1 0=true by rw [←hj166];rfl) hF
   refine go ?_ ?_
   refine aN rfl tyZ4q (fun b193=>?_)
   refine mD (t_s 0 rfl rfl rfl tyO4.s) zU2 ?_
   refine aT ?_
   exact aF (fun a w hh=>⟨v144.2.1,v144.2.2.1,v144.2.2.2.1,v144.2.2.2.2.1,v144.2.2.2.2.2.1,v144.2.2.2.2.2.2,b168,c169,n170,g186,N187,b193,hF,q171,q177,q183,q188,q189,q190,aR 10 [0,5,6,1,7,8,9] rfl rfl (by decide) (by exact⟨rfl,rfl,rfl,rfl,trivial⟩) hh⟩)
  rcases j with _|_|j
  ·skip
   obtain⟨b196,c197,n198,g214,N215,hj194,q199,q205,q211,q216,q217,q218,rfl⟩:=hHo
   have hF:=tU (show Nat.beq v144.1 0=false by rw [←hj194];rfl) hF
   have hF:=vK (show Nat.beq v144.1 1=true by rw [←hj194];rfl) hF
   refine dQ (dL ?_)
   obtain rfl:=eP hF
   obtain rfl:=eP hRl108
   exact jT (.inl rfl) Tryz.results114 (yL 4 1 rfl rfl rfl rfl (.one tyO3) .nil) rfl 9 [0,6,7,8] rfl rfl (by decide) ⟨b196,c197,n198,g214,N215,q199,q205,q211,q216,q217,q218,rfl,rfl⟩
  ·skip
   obtain⟨b223,c224,n225,g241,N242,hj221,q226,q232,q238,q243,q244,q245,rfl⟩:=hHo
   have hF:=tU (show Nat.beq v144.1 0=false by rw [←hj221];rfl) hF
   have hF:=tU (show Nat.beq v144.1 1=false by rw [←hj221];rfl) hF
   have hF:=vK (show Nat.beq v144.1 2=true by rw [←hj221];rfl) hF
   refine aV (go ?_ ?_)
   refine aN rfl tyZ4q (fun b248=>?_)
   refine mD (t_s 0 rfl rfl rfl tyO4.s) zU2 ?_
   refine aT ?_
   exact aF (fun a w hh=>⟨v144.2.1,v144.2.2.1,v144.2.2.2.1,v144.2.2.2.2.1,v144.2.2.2.2.2.1,v144.2.2.2.2.2.2,b223,c224,n225,g241,N242,b248,hF,q226,q232,q238,q243,q244,q245,aR 10 [0,5,6,1,7,8,9] rfl rfl (by decide) (by exact⟨rfl,rfl,rfl,rfl,trivial⟩) hh⟩)
  obtain⟨b251,c252,n253,g269,N270,hj249,q254,q260,q266,q271,q272,q273,rfl⟩:=hHo
  have hF:=tU (show Nat.beq v144.1 0=false by rw [←hj249];exact aA2 (by omega)) hF
  have hF:=tU (show Nat.beq v144.1 1=false by rw [←hj249];exact aA2 (by omega)) hF
  have hF:=tU (show Nat.beq v144.1 2=false by rw [←hj249];exact aA2 (by omega)) hF
  cases hF
 refine aV ?_
 obtain rfl:=eP hF
 exact eJ Jj109 ⟨x57,x63,x69,x75,x82,b58,c59,n60,g76,N77,hRl108,q61,q67,q73,q78,q79,q80,rfl,rfl⟩ 7 [1,3,4,5,6] rfl rfl zU1
def sJ (a0:Int) (a1:Int) (a2:Int) (a3:List Nat) (a4:List Rat) (a5:List Int) (a6:List (List Rat)):Option (List Rat):=
 (aS (2*a0)).bind fun v28=>(aS (2*a0)).bind fun v30=>(aS (v30+a1)).bind fun v32=>(slL a4 v28 v32).bind fun x34=>(iZ x34).bind fun v36=>some v36
theorem aAp {a0:Int} {a1:Int} {a2:Int} {a3:List Nat} {a4:List Rat} {a5:List Int} {a6:List (List Rat)} {r:List Rat} (hF:sJ a0 a1 a2 a3 a4 a5 a6=some r) {p0:Nat} {b5:Option Nat} {c6 n7:Nat} {b10:Option Nat} {c11 n12:Nat} {b15:Option Nat} {c16 n17:Nat} {g20:List rK} {N21:Nat} (q8:a3.length=n7) (q13:a4.length=n12) (q18:a5.length=n17) (q22:a6.length=N21) (q23:cJ g20 a6) (q24:∀k∈a3,k<N21):CtO Tryz.prog 115 ([⟨some p0,1,123,6,1,([pI .i64 a0]++[pI .i64 a1]++[pI .i64 a2]++[pO b5 n7 c6]++[pO b10 n12 c11]++[pO b15 n17 c16])⟩,hO (cH g20) b5 c6 24 n7 a3,hO cQ b10 c11 42 n12 a4,hO cI b15 c16 3 n17 a5]++eD cQ 42 g20 a6) [.vc (pP (some p0) 0)] (fun Ho q=>Ho=([⟨some p0,1,123,6,1,([pI .i64 a0]++[pI .i64 a1]++[pI .i64 a2]++[pO b5 n7 c6]++[pS cQ a4]++[pO b15 n17 c16])⟩,hO (cH g20) b5 c6 24 n7 a3,hO cI b15 c16 3 n17 a5]++eD cQ 42 g20 a6)∧q=.vc (pS cQ r)):=by
 unfold sJ at hF
 refine aA Tryz.func115 rfl (by kernel_rfl) Tryz.ntmps115 rfl (fun w0 M0=>?_)
 refine aC (aH (aI (aL (.inr rfl)) ⟨cD cQ,trivial⟩ ?_))
 refine go ?_ ?_
 refine aPR 2 0 4 rfl q13 rfl rfl rfl rfl rfl ?_
 obtain⟨v28,h29,hF⟩:=aM hF
 have hF:=tJ h29 hF
 obtain⟨v32,h33,hF⟩:=aM hF
 obtain⟨x34,h35,hF⟩:=aM hF
 obtain⟨v36,h37,hF⟩:=aW hF aAf
 refine dr [0,1,3,7,0,16,48,112,240,0,512,1536,3584,7680,0,16384,49152,114688,261632,524287,1048575,2097151] 22 0 ?_ (fun bs27 G26=>?_)
 refine aT (aJ (dQ (dL ?_)))
 obtain rfl:=eP hF
 exact jT (.inl rfl) Tryz.results115 (.tmp rfl .nil) rfl 3 [0,1,2] rfl rfl (by decide) ⟨rfl,rfl⟩
def pN (K:Nat) (x76:List Nat) (x82:List Rat) (x88:List Int) (x94:List (List Rat)):Option ((List Nat)×(List Rat)×(List Int)×(List (List Rat))):=
 some (x76,x82,x88,x94)
def fQ (K:Nat) (a0:Int) (a1:Int) (a2:Int) (a3:Int) (a6:List Int):Nat→(List Nat)→(List Rat)→(List Int)→(List (List Rat))→Int→Option ((List Nat)×(List Rat)×(List Int)×(List (List Rat)))
 |0,_,_,_,_,_=>none
 |k+1,x51,x57,x63,x69,x75=>bif(decide (x75<(a6.length:Int))) then((bF x63 x75).bind fun v103=>bif(decide (v103<a0)) then((aS (x75+1)).bind fun v106=>fQ K a0 a1 a2 a3 a6 k x51 x57 x63 x69 v106) else((bF x51 x75).bind fun v108=>(slL (x69.getD v108 []) 0 a0).bind fun x110=>(uU K x110 (mE)).bind fun v112=>bif(decide (0≤v112)) then((oW K x75 v112 a1 a2 a3 x51 x57 x63 x69).bind fun v115=>(aS (x75+1)).bind fun v132=>fQ K a0 a1 a2 a3 a6 k v115.1 v115.2.1 v115.2.2.1 v115.2.2.2 v132) else((aS (x75+1)).bind fun v134=>fQ K a0 a1 a2 a3 a6 k x51 x57 x63 x69 v134))) else(some (x51,x57,x63,x69))
def tT (K:Nat) (a0:Int) (a1:Int) (a2:Int) (a3:Int) (a4:List Nat) (a5:List Rat) (a6:List Int) (a7:List (List Rat)):Option ((List Nat)×(List Rat)×(List Int)×(List (List Rat))):=
 (fQ K a0 a1 a2 a3 a6 K a4 a5 a6 a7 0).bind fun(x76,x82,x88,x94)=>pN K x76 x82 x88 x94
theorem aAw {K:Nat} {a0:Int} {a1:Int} {a2:Int} {a3:Int} {a4:List Nat} {a5:List Rat} {a6:List Int} {a7:List (List Rat)} {r:(List Nat)×(List Rat)×(List Int)×(List (List Rat))} (hF:tT K a0 a1 a2 a3 a4 a5 a6 a7=some r) {p0:Nat} {b5:Option Nat} {c6 n7:Nat} {b10:Option Nat} {c11 n12:Nat} {b15:Option Nat} {c16 n17:Nat} {g20:List rK} {N21:Nat} (q8:a4.length=n7) (q13:a5.length=n12) (q18:a6.length=n17) (q22:a7.length=N21) (q23:cJ g20 a7) (q24:∀k∈a4,k<N21):CtO Tryz.prog 116 ([⟨some p0,1,123,6,1,([pI .i64 a1]++[pI .i64 a2]++[pI .i64 a3]++[pO b5 n7 c6]++[pO b10 n12 c11]++[pO b15 n17 c16])⟩,hO (cH g20) b5 c6 24 n7 a4,hO cQ b10 c11 42 n12 a5,hO cI b15 c16 3 n17 a6]++eD cQ 42 g20 a7) [.vc (pP (some p0) 0),.vc (pI .i64 a0)] (fun Ho q=>∃b1136 c1137 n1138 g1145 N1146,r.1.length=n1138∧r.2.1.length=n12∧r.2.2.1.length=n17∧r.2.2.2.length=N1146∧cJ g1145 r.2.2.2∧(∀k∈r.1,k<N1146)∧Ho=([⟨some p0,1,123,6,1,([pI .i64 a1]++[pI .i64 a2]++[pI .i64 a3]++[pO b1136 n1138 c1137]++[pO b10 n12 c11]++[pO b15 n17 c16])⟩,hO (cH g1145) b1136 c1137 24 n1138 r.1,hO cQ b10 c11 42 n12 r.2.1,hO cI b15 c16 3 n17 r.2.2.1]++eD cQ 42 g1145 r.2.2.2)∧q=.any):=by
 unfold tT at hF
 refine aA Tryz.func116 rfl (by kernel_rfl) Tryz.ntmps116 rfl (fun w0 M0=>?_)
 refine go ?_ ?_
 refine aG (aP (fun H E=>∃(x76:List Nat),∃(x82:List Rat),∃(x88:List Int),∃(x94:List (List Rat)),∃(b77:Option Nat),∃(c78:Nat),∃(n79:Nat),∃(g95:List rK),∃(N96:Nat),pN K x76 x82 x88 x94=some r∧x76.length=n79∧x82.length=n12∧x88.length=n17∧x94.length=N96∧cJ g95 x94∧(∀k∈x76,k<N96)∧H=([⟨some p0,1,123,6,1,([pI .i64 a1]++[pI .i64 a2]++[pI .i64 a3]++[pO b77 n79 c78]++[pO b10 n12 c11]++[pO b15 n17 c16])⟩,hO (cH g95) b77 c78 24 n79 x76,hO cQ b10 c11 42 n12 x82,hO cI b15 c16 3 n17 x88]++eD cQ 42 g95 x94)∧E=[]) ?_ (fun Jj101=>?_))
 ·rintro _ _ ⟨x76,x82,x88,x94,b77,c78,n79,g95,N96,hF,q80,q86,q92,q97,q98,q99,rfl,rfl⟩
  unfold pN at hF
  obtain rfl:=eP hF
  exact jT (.inr rfl) Tryz.results116 .nil rfl 4 [0,1,2,3] rfl rfl (by decide) ⟨b77,c78,n79,g95,N96,q80,q86,q92,q97,q98,q99,rfl,rfl⟩
 obtain⟨⟨x76',x82',x88',x94'⟩,hL,hRl100⟩:=aM hF
 refine cA (fun k a w=>∃(x51:List Nat),∃(x57:List Rat),∃(x63:List Int),∃(x69:List (List Rat)),∃(x75:Int),∃(b52:Option Nat),∃(c53:Nat),∃(n54:Nat),∃(g70:List rK),∃(N71:Nat),fQ K a0 a1 a2 a3 a6 k x51 x57 x63 x69 x75=some (x76',x82',x88',x94')∧x51.length=n54∧x57.length=n12∧x63.length=n17∧x69.length=N71∧cJ g70 x69∧(∀k∈x51,k<N71)∧hs _ ([⟨some p0,1,123,6,1,([pI .i64 a1]++[pI .i64 a2]++[pI .i64 a3]++[pO b52 n54 c53]++[pO b10 n12 c11]++[pO b15 n17 c16])⟩,hO (cH g70) b52 c53 24 n54 x51,hO cQ b10 c11 42 n12 x57,hO cI b15 c16 3 n17 x63]++eD cQ 42 g70 x69) [(0,.vc (pP (some p0) 0)),(1,.vc (pI .i64 a0)),(10,.vc (pO b15 n17 c16)),(11,.vc (pI .i64 (a6.length:Int))),(12,.vc (pI .i64 x75))] a w) K (fun a w ⟨_,_,_,_,_,_,_,_,_,_,hF,_,_,_,_,_,_,_⟩=>by cases hF) (fun k a w ⟨x51,x57,x63,x69,x75,b52,c53,n54,g70,N71,hF,q55,q61,q67,q72,q73,q74,hh⟩=>b0 ?_ hh) (fun a w hh=>⟨a4,a5,a6,a7,0,b5,c6,n7,g20,N21,hL,q8,q13,q18,q22,q23,q24,aR 4 [0,1,2,3] rfl rfl (by decide) (by exact⟨rfl,rfl,rfl,rfl,rfl,trivial⟩) hh⟩)
 rw [fQ.eq_2] at hF
 refine go ?_ ?_
 refine aB hF rfl (fun h102 hF=>?_) (fun h102 hF=>?_)
 ·refine go ?_ ?_
  refine aG ?_
  obtain⟨v103,h104,hF⟩:=aM hF
  refine go ?_ ?_
  refine aB hF rfl (fun h105 hF=>?_) (fun h105 hF=>?_)
  ·refine aV ?_
   obtain⟨v106,h107,hF⟩:=aM hF
   refine go ?_ ?_
   exact aF (fun a w hh=>⟨x51,x57,x63,x69,v106,b52,c53,n54,g70,N71,hF,q55,q61,q67,q72,q73,q74,aR 4 [0,1,2,3] rfl rfl (by decide) (by exact⟨rfl,rfl,rfl,rfl,rfl,trivial⟩) hh⟩)
  obtain⟨v108,h109,x110,h111,hF⟩:=tW hF
  refine go ?_ ?_
  refine aI (aRx (i:=(4+v108)) rfl tyS24 (rV 4 rfl q73 q72 (q74 _ (aO h109))) rfl rfl rfl (aAx h111).2.2.1 (aPh h111 (cR q73 q72 (q74 _ (aO h109))))) zU2 ?_
  obtain⟨v112,h113,hF⟩:=aW hF aBx
  refine aI (aFy (pre':=[.vc (pK (pO (gA g70 v108).1 (gA g70 v108).2.1 (gA g70 v108).2.2) a0.toNat cQ.n),.vc (pFn Tryz.prog (fun x:Rat=>[.va (eQ x)]) (fun r:Bool=>.vc (pB r)) (mE))]) rfl h113 rfl (aNh (aMh (C:=cQ) (4+v108) (rV 4 rfl q73 q72 (q74 _ (aO h109))) (cR q73 q72 (q74 _ (aO h109))) h111) ⟨.inr ⟨rfl,rfl⟩,.inl rfl,trivial⟩) (fun _ _ _ h=>h)) ⟨rfl,(aRL (P:=Tryz.prog) (φ:=(mE)) (pre:=fun x:Rat=>[.va (eQ x)]) (post:=fun r:Bool=>.vc (pB r)) (fun x r h=>aA6 h)),trivial⟩ ?_
  refine go ?_ ?_
  refine aB hF rfl (fun h114 hF=>?_) (fun h114 hF=>?_)
  ·obtain⟨v115,h116,hF⟩:=aM hF
   refine go ?_ ?_
   refine o7 4 [0,1,2,3] [] rfl (wF h116 q55 q61 q67 q72 q73 q74) ⟨rfl,rfl,rfl,trivial⟩ rfl rfl rfl (by decide) ?_
   rintro _ _ ⟨b117,c118,n119,g126,N127,q120,q122,q124,q128,q129,q130,rfl,rfl⟩
   refine mM (jS [⟨some p0,1,123,6,1,([pI .i64 a1]++[pI .i64 a2]++[pI .i64 a3]++[pO b117 n119 c118]++[pO b10 n12 c11]++[pO b15 n17 c16])⟩,hO (cH g126) b117 c118 24 n119 v115.1,hO cQ b10 c11 42 n12 v115.2.1,hO cI b15 c16 3 n17 v115.2.2.1] (eD cQ 42 g126 v115.2.2.2) []) ?_
   obtain⟨v132,h133,hF⟩:=aM hF
   refine go ?_ ?_
   exact aF (fun a w hh=>⟨v115.1,v115.2.1,v115.2.2.1,v115.2.2.2,v132,b117,c118,n119,g126,N127,hF,q120,q122,q124,q128,q129,q130,aR 4 [0,1,2,3] rfl rfl (by decide) (by exact⟨rfl,rfl,rfl,rfl,rfl,trivial⟩) hh⟩)
  obtain⟨v134,h135,hF⟩:=aM hF
  refine go ?_ ?_
  exact aF (fun a w hh=>⟨x51,x57,x63,x69,v134,b52,c53,n54,g70,N71,hF,q55,q61,q67,q72,q73,q74,aR 4 [0,1,2,3] rfl rfl (by decide) (by exact⟨rfl,rfl,rfl,rfl,rfl,trivial⟩) hh⟩)
 refine aV ?_
 obtain⟨rfl,rfl,rfl,rfl⟩:=sm4 hF
 exact eJ Jj101 ⟨x51,x57,x63,x69,b52,c53,n54,g70,N71,hRl100,q55,q61,q67,q72,q73,q74,rfl,rfl⟩ 4 [0,1,2,3] rfl rfl trivial
def uQ (K:Nat) (a0:Int) (a1:Int) (a2:Int) (a3:Int) (a4:Int) (a5:List Nat) (a6:List Rat) (a7:List Int) (a8:List (List Rat)):Option Rat:=
 bif(a0==a1) then((qof 1 1).bind fun v28=>some v28) else((u6 K a7 a0).bind fun v30=>bif(decide (0≤v30)) then((bF a5 v30).bind fun v33=>(bF (a8.getD v33 []) a1).bind fun v35=>(aCh v35).bind fun v37=>some v37) else(some 0))
theorem aA8 {K:Nat} {a0:Int} {a1:Int} {a2:Int} {a3:Int} {a4:Int} {a5:List Nat} {a6:List Rat} {a7:List Int} {a8:List (List Rat)} {r:Rat} (hF:uQ K a0 a1 a2 a3 a4 a5 a6 a7 a8=some r) {p0:Nat} {b5:Option Nat} {c6 n7:Nat} {b10:Option Nat} {c11 n12:Nat} {b15:Option Nat} {c16 n17:Nat} {g20:List rK} {N21:Nat} (q8:a5.length=n7) (q13:a6.length=n12) (q18:a7.length=n17) (q22:a8.length=N21) (q23:cJ g20 a8) (q24:∀k∈a5,k<N21):CtO Tryz.prog 120 ([⟨some p0,1,123,6,1,([pI .i64 a2]++[pI .i64 a3]++[pI .i64 a4]++[pO b5 n7 c6]++[pO b10 n12 c11]++[pO b15 n17 c16])⟩,hO (cH g20) b5 c6 24 n7 a5,hO cQ b10 c11 42 n12 a6,hO cI b15 c16 3 n17 a7]++eD cQ 42 g20 a8) [.vc (pP (some p0) 0),.vc (pI .i64 a0),.vc (pI .i64 a1)] (fun Ho q=>Ho=([⟨some p0,1,123,6,1,([pI .i64 a2]++[pI .i64 a3]++[pI .i64 a4]++[pO b5 n7 c6]++[pO b10 n12 c11]++[pO b15 n17 c16])⟩,hO (cH g20) b5 c6 24 n7 a5,hO cQ b10 c11 42 n12 a6,hO cI b15 c16 3 n17 a7]++eD cQ 42 g20 a8)∧q=.va (eQ r)):=by
 unfold uQ at hF
 refine aA Tryz.func120 rfl (by kernel_rfl) Tryz.ntmps120 rfl (fun w0 M0=>?_)
 refine aC (aH (aN rfl tyZ42q (fun b26=>?_)))
 refine go ?_ ?_
 refine aB hF rfl (fun h27 hF=>?_) (fun h27 hF=>?_)
 ·obtain⟨v28,h29,hF⟩:=aW hF uH
  refine go ?_ ?_
  refine dQ (dL ?_)
  obtain rfl:=eP hF
  exact jT (.inl rfl) Tryz.results120 (yL 0 4 rfl rfl rfl rfl (.agg tyA42) .nil) rfl 5 [1,2,3,4] rfl rfl (by decide) ⟨rfl,rfl⟩
 obtain⟨v30,h31,hF⟩:=aW hF aAh
 refine go ?_ ?_
 refine aI (aFy (pre':=[.vc (pO b15 n17 c16),.vc (pI .i64 a0)]) rfl h31 rfl (aNh (aGM (C:=cI) 4 rfl q18) ⟨.inr ⟨rfl,rfl⟩,.inl rfl,trivial⟩) (fun _ _ _ h=>h)) zU2 ?_
 refine go ?_ ?_
 refine aB hF rfl (fun h32 hF=>?_) (fun h32 hF=>?_)
 ·obtain⟨v33,h34,v35,h36,hF⟩:=tW hF
  refine go ?_ ?_
  refine aI (cY (5+v33) rfl tyS24 (rV 5 rfl q23 q22 (q24 _ (aO h34))) (cR q23 q22 (q24 _ (aO h34))) (aD h36).1 (aD h36).2.1) zU2 ?_
  refine aI (iD (k:=4) (5+v33) rfl (rV 5 rfl q23 q22 (q24 _ (aO h34))) h36 rfl (.agg tyA42) rfl) zU1 ?_
  obtain⟨v37,h38,hF⟩:=aW hF wK
  refine go ?_ ?_
  refine dQ (dL ?_)
  obtain rfl:=eP hF
  exact jT (.inl rfl) Tryz.results120 (yL 0 4 rfl rfl rfl rfl (.agg tyA42) .nil) rfl 5 [1,2,3,4] rfl rfl (by decide) ⟨rfl,rfl⟩
 refine go ?_ ?_
 refine aI (gU (is:=[]) (xs:=[]) (ps:=[]) rfl tyB42q rfl rfl trivial rfl) trivial ?_
 refine go ?_ ?_
 refine dQ (dL ?_)
 obtain rfl:=eP hF
 exact jT (.inl rfl) Tryz.results120 (yL 0 4 rfl rfl rfl rfl (.agg tyA42) .nil) rfl 5 [1,2,3,4] rfl rfl (by decide) ⟨rfl,rfl⟩
def tB (K:Nat) (a0:Int) (a1:Int) (a2:Int) (a3:Int) (a4:Int) (a5:List Nat) (a6:List Rat) (a7:List Int) (a8:List (List Rat)):Option Rat:=
 (uQ K a0 a1 a2 a3 a4 a5 a6 a7 a8).bind fun v27=>some v27
theorem yC {K:Nat} {a0:Int} {a1:Int} {a2:Int} {a3:Int} {a4:Int} {a5:List Nat} {a6:List Rat} {a7:List Int} {a8:List (List Rat)} {r:Rat} (hF:tB K a0 a1 a2 a3 a4 a5 a6 a7 a8=some r) {p0:Nat} {p1:Nat} {p2:Nat} {b5:Option Nat} {c6 n7:Nat} {b10:Option Nat} {c11 n12:Nat} {b15:Option Nat} {c16 n17:Nat} {g20:List rK} {N21:Nat} (q8:a5.length=n7) (q13:a6.length=n12) (q18:a7.length=n17) (q22:a8.length=N21) (q23:cJ g20 a8) (q24:∀k∈a5,k<N21):CtO Tryz.prog 119 ([⟨some p0,1,120,1,1,[pP (some p2) 0]⟩,⟨some p1,1,3,1,1,[pI .i64 a1]⟩,⟨some p2,1,123,6,1,([pI .i64 a2]++[pI .i64 a3]++[pI .i64 a4]++[pO b5 n7 c6]++[pO b10 n12 c11]++[pO b15 n17 c16])⟩,hO (cH g20) b5 c6 24 n7 a5,hO cQ b10 c11 42 n12 a6,hO cI b15 c16 3 n17 a7]++eD cQ 42 g20 a8) [.vc (pI .i64 a0),.vc (pP (some p0) 0),.vc (pP (some p1) 0)] (fun Ho q=>Ho=([⟨some p0,1,120,1,1,[pP (some p2) 0]⟩,⟨some p1,1,3,1,1,[pI .i64 a1]⟩,⟨some p2,1,123,6,1,([pI .i64 a2]++[pI .i64 a3]++[pI .i64 a4]++[pO b5 n7 c6]++[pO b10 n12 c11]++[pO b15 n17 c16])⟩,hO (cH g20) b5 c6 24 n7 a5,hO cQ b10 c11 42 n12 a6,hO cI b15 c16 3 n17 a7]++eD cQ 42 g20 a8)∧q=.va (eQ r)):=by
 unfold tB at hF
 refine aA Tryz.func119 rfl (by kernel_rfl) Tryz.ntmps119 rfl (fun w0 M0=>?_)
 refine aC (aH (aN rfl tyZ42q (fun b26=>?_)))
 obtain⟨v27,h28,hF⟩:=aM hF
 refine go ?_ ?_
 refine o7 7 [3,4,5,6] [0,1,2] rfl (aA8 h28 q8 q13 q18 q22 q23 q24) ⟨rfl,rfl,rfl,trivial⟩ rfl rfl rfl (by decide) ?_
 rintro _ _ ⟨rfl,rfl⟩
 refine mM (jS [⟨some p2,1,123,6,1,([pI .i64 a2]++[pI .i64 a3]++[pI .i64 a4]++[pO b5 n7 c6]++[pO b10 n12 c11]++[pO b15 n17 c16])⟩,hO (cH g20) b5 c6 24 n7 a5,hO cQ b10 c11 42 n12 a6,hO cI b15 c16 3 n17 a7] (eD cQ 42 g20 a8) [⟨some b26,1,42,4,1,(eQ 0)⟩,⟨some p0,1,120,1,1,[pP (some p2) 0]⟩,⟨some p1,1,3,1,1,[pI .i64 a1]⟩]) ?_
 refine go ?_ ?_
 refine dQ (dL ?_)
 obtain rfl:=eP hF
 exact jT (.inl rfl) Tryz.results119 (yL 4 4 rfl rfl rfl rfl (.agg tyA42) .nil) rfl 7 [5,6,0,1,2,3] rfl rfl (by decide) ⟨rfl,rfl⟩
def qG (K:Nat) (x45:List Rat):Option (List Rat):=
 some x45
def lU (K:Nat) (a0:Int) (a1:Int) (a2:Int) (a3:Int) (a4:List Nat) (a5:List Rat) (a6:List Int) (a7:List (List Rat)) (x26:List Rat):Nat→(List Rat)→Int→Option (List Rat)
 |0,_,_=>none
 |k+1,x38,x44=>bif(decide (x44<(x26.length:Int))) then((tB K x44 a3 a0 a1 a2 a4 a5 a6 a7).bind fun v56=>(aS (a0+x44)).bind fun v58=>(tB K v58 a3 a0 a1 a2 a4 a5 a6 a7).bind fun v60=>(aGr v56 v60).bind fun v62=>(bF x38 x44).bind fun v64=>(qL x38 x44 v62).bind fun x66=>(aS (x44+1)).bind fun v69=>lU K a0 a1 a2 a3 a4 a5 a6 a7 x26 k x66 v69) else(some x38)
def tK (K:Nat) (a0:Int) (a1:Int) (a2:Int) (a3:Int) (a4:List Nat) (a5:List Rat) (a6:List Int) (a7:List (List Rat)):Option (List Rat):=
 (mkL a0 0).bind fun x26=>(lU K a0 a1 a2 a3 a4 a5 a6 a7 x26 K x26 0).bind fun x45=>qG K x45
theorem aAy {K:Nat} {a0:Int} {a1:Int} {a2:Int} {a3:Int} {a4:List Nat} {a5:List Rat} {a6:List Int} {a7:List (List Rat)} {r:List Rat} (hF:tK K a0 a1 a2 a3 a4 a5 a6 a7=some r) {p0:Nat} {p1:Nat} {p2:Nat} {b5:Option Nat} {c6 n7:Nat} {b10:Option Nat} {c11 n12:Nat} {b15:Option Nat} {c16 n17:Nat} {g20:List rK} {N21:Nat} (q8:a4.length=n7) (q13:a5.length=n12) (q18:a6.length=n17) (q22:a7.length=N21) (q23:cJ g20 a7) (q24:∀k∈a4,k<N21):CtO Tryz.prog 118 ([⟨some p0,1,123,6,1,([pI .i64 a0]++[pI .i64 a1]++[pI .i64 a2]++[pO b5 n7 c6]++[pO b10 n12 c11]++[pO b15 n17 c16])⟩,⟨some p1,1,120,1,1,[pP (some p0) 0]⟩,⟨some p2,1,3,1,1,[pI .i64 a3]⟩,hO (cH g20) b5 c6 24 n7 a4,hO cQ b10 c11 42 n12 a5,hO cI b15 c16 3 n17 a6]++eD cQ 42 g20 a7) [.vc (pP (some p0) 0),.vc (pF 119 [pP (some p1) 0,pP (some p2) 0])] (fun Ho q=>Ho=([⟨some p0,1,123,6,1,([pI .i64 a0]++[pI .i64 a1]++[pI .i64 a2]++[pO b5 n7 c6]++[pO b10 n12 c11]++[pO b15 n17 c16])⟩,⟨some p1,1,120,1,1,[pP (some p0) 0]⟩,⟨some p2,1,3,1,1,[pI .i64 a3]⟩,hO (cH g20) b5 c6 24 n7 a4,hO cQ b10 c11 42 n12 a5,hO cI b15 c16 3 n17 a6]++eD cQ 42 g20 a7)∧q=.vc (pS cQ r)):=by
 unfold tK at hF
 refine aA Tryz.func118 rfl (by kernel_rfl) Tryz.ntmps118 rfl (fun w0 M0=>?_)
 refine aC (aH (aI (aL (.inr rfl)) ⟨cD cQ,trivial⟩ ?_))
 obtain⟨x26,h27,hF⟩:=aM hF
 refine go ?_ ?_
 refine nN (C:=cQ) rfl tyS24 rfl tyZ42q rfl h27 (fun b28=>?_)
 refine go ?_ ?_
 refine aG (aP (fun H E=>∃(x45:List Rat),qG K x45=some r∧x45.length=x26.length∧H=([hO cQ b28 x26.length 42 x26.length x45,⟨some p0,1,123,6,1,([pI .i64 a0]++[pI .i64 a1]++[pI .i64 a2]++[pO b5 n7 c6]++[pO b10 n12 c11]++[pO b15 n17 c16])⟩,⟨some p1,1,120,1,1,[pP (some p0) 0]⟩,⟨some p2,1,3,1,1,[pI .i64 a3]⟩,hO (cH g20) b5 c6 24 n7 a4,hO cQ b10 c11 42 n12 a5,hO cI b15 c16 3 n17 a6]++eD cQ 42 g20 a7)∧E=[(5,.vc (pO b28 x26.length x26.length))]) ?_ (fun Jj52=>?_))
 ·rintro _ _ ⟨x45,hF,q49,rfl,rfl⟩
  unfold qG at hF
  refine go ?_ ?_
  refine dQ (dL (lF 0 [4,5,33] rfl q49 ⟨rfl,rfl,rfl,trivial⟩ rfl ?_))
  obtain rfl:=eP hF
  exact jT (.inl rfl) Tryz.results118 (.tmp rfl .nil) rfl 6 [0,1,2,3,4,5] rfl rfl (by decide) ⟨rfl,rfl⟩
 obtain⟨x45',hL,hRl51⟩:=aM hF
 refine cA (fun k a w=>∃(x38:List Rat),∃(x44:Int),lU K a0 a1 a2 a3 a4 a5 a6 a7 x26 k x38 x44=some x45'∧x38.length=x26.length∧hs _ ([hO cQ b28 x26.length 42 x26.length x38,⟨some p0,1,123,6,1,([pI .i64 a0]++[pI .i64 a1]++[pI .i64 a2]++[pO b5 n7 c6]++[pO b10 n12 c11]++[pO b15 n17 c16])⟩,⟨some p1,1,120,1,1,[pP (some p0) 0]⟩,⟨some p2,1,3,1,1,[pI .i64 a3]⟩,hO (cH g20) b5 c6 24 n7 a4,hO cQ b10 c11 42 n12 a5,hO cI b15 c16 3 n17 a6]++eD cQ 42 g20 a7) [(0,.vc (pP (some p0) 0)),(1,.vc (pF 119 [pP (some p1) 0,pP (some p2) 0])),(5,.vc (pO b28 x26.length x26.length)),(13,.vc (pI .i64 (x26.length:Int))),(14,.vc (pI .i64 x44))] a w) K (fun a w ⟨_,_,hF,_,_⟩=>by cases hF) (fun k a w ⟨x38,x44,hF,q42,hh⟩=>b0 ?_ hh) (fun a w hh=>⟨x26,0,hL,rfl,aR 7 [0,1,2,3,4,5,6] rfl rfl (by decide) (by exact⟨rfl,rfl,rfl,rfl,rfl,trivial⟩) hh⟩)
 rw [lU.eq_2] at hF
 refine go ?_ ?_
 refine aB hF rfl (fun h53 hF=>?_) (fun h53 hF=>?_)
 ·refine go ?_ ?_
  refine aG ?_
  obtain⟨v56,h57,v58,h59,v60,h61,hF⟩:=bn3 hF
  obtain⟨v62,h63,hF⟩:=aW hF zD
  obtain⟨v64,h65,hF⟩:=aM hF
  refine go ?_ ?_
  refine iQ [0,0,0,0,12,0,0,64,192,448,0,1984,4092,8188,16383,32767] 15 1 [.v (.vc (pO b28 x26.length x26.length)),.v (.vc (pI .i64 x44)),.v (.vc (pF 119 [pP (some p1) 0,pP (some p2) 0])),.v (.vc (pI .i64 x44)),.v (.va (eQ v56)),.v (.vc (pF 119 [pP (some p1) 0,pP (some p2) 0])),.v (.vc (pP (some p0) 0)),.v (.vc (pP (some p0) 0)),.v (.vc (pP (some p0) 0)),.v (.vc (pI .i64 a0)),.v (.vc (pI .i64 x44)),.v (.vc (pI .i64 v58)),.v (.va (eQ v60)),.v (.va (eQ v62)),.v (.vc (pE b28 x44 cQ.n 0))] aU ⟨d0 (aL (.inl rfl)) zU1,d0 (aL (.inl rfl)) zU1,d0 (aL (.inl rfl)) zU1,d0 (aL (.inl rfl)) zU1,d0 (aHe (f:=119) (cs:=[pP (some p1) 0,pP (some p2) 0]) (pre:=[.vc (pI .i64 x44)]) 7 [2,3,1,4,5,6] [0] [6,2,0,1,3,4,5] rfl (yC h57 q8 q13 q18 q22 q23 q24) rfl rfl rfl rfl (by decide) (by decide) rfl) zU2,d0 (aL (.inl rfl)) zU1,d0 (aL (.inl rfl)) zU1,d0 (s9 rfl) zU1,d0 (gV (off:=0) (k:=0) rfl tyF123_0) zU1,d0 (gC 1 1 rfl rfl rfl rfl (.one tyO3)) zU1,d0 (aL (.inl rfl)) zU1,d0 (yK rfl h59) zU2,d0 (aHe (f:=119) (cs:=[pP (some p1) 0,pP (some p2) 0]) (pre:=[.vc (pI .i64 v58)]) 7 [2,3,1,4,5,6] [0] [6,2,0,1,3,4,5] rfl (yC h61 q8 q13 q18 q22 q23 q24) rfl rfl rfl rfl (by decide) (by decide) rfl) zU2,d0 (bE rfl h63 rfl) zU2,d0 (cY (C:=cQ) 0 rfl tyS24 rfl q42 (aD h65).1 (aD h65).2.1) zU2,trivial⟩ (fun bs55 G54=>?_)
  obtain⟨x66,h67,v69,h70,hF⟩:=tW hF
  refine go ?_ ?_
  exact aF (fun a w hh=>⟨x66,v69,hF,(bC h67 q42),aR 7 [0,1,2,3,4,5,6] rfl rfl (by decide) (by exact⟨rfl,rfl,rfl,rfl,rfl,trivial⟩) hh⟩)
 refine aV ?_
 obtain rfl:=eP hF
 exact eJ Jj52 ⟨x38,hRl51,q42,rfl,rfl⟩ 7 [0,1,2,3,4,5,6] rfl rfl zU1
def q0 (K:Nat) (a0:Int) (a1:Int) (a2:Int) (a3:Int) (a4:List Nat) (a5:List Rat) (a6:List Int) (a7:List (List Rat)):Option Rat:=
 (u6 K a6 a0).bind fun v27=>bif(decide (0≤v27)) then((bF a4 v27).bind fun v32=>(bF (a7.getD v32 []) a3).bind fun v34=>some v34) else(some 0)
theorem xE {K:Nat} {a0:Int} {a1:Int} {a2:Int} {a3:Int} {a4:List Nat} {a5:List Rat} {a6:List Int} {a7:List (List Rat)} {r:Rat} (hF:q0 K a0 a1 a2 a3 a4 a5 a6 a7=some r) {p0:Nat} {b5:Option Nat} {c6 n7:Nat} {b10:Option Nat} {c11 n12:Nat} {b15:Option Nat} {c16 n17:Nat} {g20:List rK} {N21:Nat} (q8:a4.length=n7) (q13:a5.length=n12) (q18:a6.length=n17) (q22:a7.length=N21) (q23:cJ g20 a7) (q24:∀k∈a4,k<N21):CtO Tryz.prog 121 ([⟨some p0,1,123,6,1,([pI .i64 a1]++[pI .i64 a2]++[pI .i64 a3]++[pO b5 n7 c6]++[pO b10 n12 c11]++[pO b15 n17 c16])⟩,hO (cH g20) b5 c6 24 n7 a4,hO cQ b10 c11 42 n12 a5,hO cI b15 c16 3 n17 a6]++eD cQ 42 g20 a7) [.vc (pP (some p0) 0),.vc (pI .i64 a0)] (fun Ho q=>Ho=([⟨some p0,1,123,6,1,([pI .i64 a1]++[pI .i64 a2]++[pI .i64 a3]++[pO b5 n7 c6]++[pO b10 n12 c11]++[pO b15 n17 c16])⟩,hO (cH g20) b5 c6 24 n7 a4,hO cQ b10 c11 42 n12 a5,hO cI b15 c16 3 n17 a6]++eD cQ 42 g20 a7)∧q=.va (eQ r)):=by
 unfold q0 at hF
 refine aA Tryz.func121 rfl (by kernel_rfl) Tryz.ntmps121 rfl (fun w0 M0=>?_)
 refine aC (aH (aN rfl tyZ42q (fun b26=>?_)))
 obtain⟨v27,h28,hF⟩:=aW hF aAh
 refine go ?_ ?_
 refine aI (aFy (pre':=[.vc (pO b15 n17 c16),.vc (pI .i64 a0)]) rfl h28 rfl (aNh (aGM (C:=cI) 4 rfl q18) ⟨.inr ⟨rfl,rfl⟩,.inl rfl,trivial⟩) (fun _ _ _ h=>h)) zU2 ?_
 refine go ?_ ?_
 refine aB hF rfl (fun h29 hF=>?_) (fun h29 hF=>?_)
 ·refine aC ?_
  obtain⟨v32,h33,hF⟩:=aM hF
  obtain⟨v34,h35,hF⟩:=aM hF
  refine iQ [0,1,3,7,0,31,63,0,128,384,896,2047,4095,8191] 13 1 [.v (.vc (pP (some p0) 0)),.v (.vc (pP (some p0) 0)),.v (.vc (pP (some p0) 3)),.v (.vc (pO b5 n7 c6)),.v (.vc (pI .i64 v27)),.v (.vc (pE b5 v27 (cH g20).n 0)),.v (.vc (pO (gA g20 v32).1 (gA g20 v32).2.1 (gA g20 v32).2.2)),.v (.vc (pP (some p0) 0)),.v (.vc (pP (some p0) 0)),.v (.vc (pP (some p0) 2)),.v (.vc (pI .i64 a3)),.v (.vc (pE (gA g20 v32).1 a3 cQ.n 0)),.v (.va (eQ v34))] aU ⟨d0 (aL (.inl rfl)) zU1,d0 (s9 rfl) zU1,d0 (gV (off:=0) (k:=3) rfl tyF123_3) zU1,d0 (gC 1 1 rfl rfl rfl rfl (.one tyO23)) zU1,d0 (aL (.inl rfl)) zU1,d0 (cY (C:=(cH g20)) 2 rfl tyS23 rfl q8 (aD h33).1 (aD h33).2.1) zU2,d0 (iD (C:=(cH g20)) (k:=1) 2 rfl rfl h33 rfl (.one tyO24) rfl) zU1,d0 (aL (.inl rfl)) zU1,d0 (s9 rfl) zU1,d0 (gV (off:=0) (k:=2) rfl tyF123_2) zU1,d0 (gC 1 1 rfl rfl rfl rfl (.one tyO3)) zU1,d0 (cY (5+v32) rfl tyS24 (gW 5 rfl q23 q22 (q24 _ (aO h33))) (cR q23 q22 (q24 _ (aO h33))) (aD h35).1 (aD h35).2.1) zU2,d0 (iD (k:=4) (5+v32) rfl (gW 5 rfl q23 q22 (q24 _ (aO h33))) h35 rfl (.agg tyA42) rfl) zU1,trivial⟩ (fun bs31 G30=>?_)
  refine go ?_ ?_
  refine dQ (dL ?_)
  obtain rfl:=eP hF
  exact jT (.inl rfl) Tryz.results121 (yL 0 4 rfl rfl rfl rfl (.agg tyA42) .nil) rfl 5 [1,2,3,4] rfl rfl (by decide) ⟨rfl,rfl⟩
 refine go ?_ ?_
 refine aI (gU (is:=[]) (xs:=[]) (ps:=[]) rfl tyB42q rfl rfl trivial rfl) trivial ?_
 refine go ?_ ?_
 refine dQ (dL ?_)
 obtain rfl:=eP hF
 exact jT (.inl rfl) Tryz.results121 (yL 0 4 rfl rfl rfl rfl (.agg tyA42) .nil) rfl 5 [1,2,3,4] rfl rfl (by decide) ⟨rfl,rfl⟩
def qI (K:Nat) (x45:List Rat):Option (List Rat):=
 some x45
def lT (K:Nat) (a0:Int) (a1:Int) (a2:Int) (a3:List Nat) (a4:List Rat) (a5:List Int) (a6:List (List Rat)) (x26:List Rat):Nat→(List Rat)→Int→Option (List Rat)
 |0,_,_=>none
 |k+1,x38,x44=>bif(decide (x44<(x26.length:Int))) then((q0 K x44 a0 a1 a2 a3 a4 a5 a6).bind fun v56=>(aS (a0+x44)).bind fun v58=>(q0 K v58 a0 a1 a2 a3 a4 a5 a6).bind fun v60=>(aGr v56 v60).bind fun v62=>(bF x38 x44).bind fun v64=>(qL x38 x44 v62).bind fun x66=>(aS (x44+1)).bind fun v69=>lT K a0 a1 a2 a3 a4 a5 a6 x26 k x66 v69) else(some x38)
def o6 (K:Nat) (a0:Int) (a1:Int) (a2:Int) (a3:List Nat) (a4:List Rat) (a5:List Int) (a6:List (List Rat)):Option (List Rat):=
 (mkL a0 0).bind fun x26=>(lT K a0 a1 a2 a3 a4 a5 a6 x26 K x26 0).bind fun x45=>qI K x45
theorem wO {K:Nat} {a0:Int} {a1:Int} {a2:Int} {a3:List Nat} {a4:List Rat} {a5:List Int} {a6:List (List Rat)} {r:List Rat} (hF:o6 K a0 a1 a2 a3 a4 a5 a6=some r) {p0:Nat} {b5:Option Nat} {c6 n7:Nat} {b10:Option Nat} {c11 n12:Nat} {b15:Option Nat} {c16 n17:Nat} {g20:List rK} {N21:Nat} (q8:a3.length=n7) (q13:a4.length=n12) (q18:a5.length=n17) (q22:a6.length=N21) (q23:cJ g20 a6) (q24:∀k∈a3,k<N21):CtO Tryz.prog 118 ([⟨some p0,1,123,6,1,([pI .i64 a0]++[pI .i64 a1]++[pI .i64 a2]++[pO b5 n7 c6]++[pO b10 n12 c11]++[pO b15 n17 c16])⟩,hO (cH g20) b5 c6 24 n7 a3,hO cQ b10 c11 42 n12 a4,hO cI b15 c16 3 n17 a5]++eD cQ 42 g20 a6) [.vc (pP (some p0) 0),.vc (pFB 121 [pP (some p0) 0] [])] (fun Ho q=>Ho=([⟨some p0,1,123,6,1,([pI .i64 a0]++[pI .i64 a1]++[pI .i64 a2]++[pO b5 n7 c6]++[pO b10 n12 c11]++[pO b15 n17 c16])⟩,hO (cH g20) b5 c6 24 n7 a3,hO cQ b10 c11 42 n12 a4,hO cI b15 c16 3 n17 a5]++eD cQ 42 g20 a6)∧q=.vc (pS cQ r)):=by
 unfold o6 at hF
 refine aA Tryz.func118 rfl (by kernel_rfl) Tryz.ntmps118 rfl (fun w0 M0=>?_)
 refine aC (aH (aI (aL (.inr rfl)) ⟨cD cQ,trivial⟩ ?_))
 obtain⟨x26,h27,hF⟩:=aM hF
 refine go ?_ ?_
 refine nN (C:=cQ) rfl tyS24 rfl tyZ42q rfl h27 (fun b28=>?_)
 refine go ?_ ?_
 refine aG (aP (fun H E=>∃(x45:List Rat),qI K x45=some r∧x45.length=x26.length∧H=([hO cQ b28 x26.length 42 x26.length x45,⟨some p0,1,123,6,1,([pI .i64 a0]++[pI .i64 a1]++[pI .i64 a2]++[pO b5 n7 c6]++[pO b10 n12 c11]++[pO b15 n17 c16])⟩,hO (cH g20) b5 c6 24 n7 a3,hO cQ b10 c11 42 n12 a4,hO cI b15 c16 3 n17 a5]++eD cQ 42 g20 a6)∧E=[(5,.vc (pO b28 x26.length x26.length))]) ?_ (fun Jj52=>?_))
 ·rintro _ _ ⟨x45,hF,q49,rfl,rfl⟩
  unfold qI at hF
  refine go ?_ ?_
  refine dQ (dL (lF 0 [4,5,33] rfl q49 ⟨rfl,rfl,rfl,trivial⟩ rfl ?_))
  obtain rfl:=eP hF
  exact jT (.inl rfl) Tryz.results118 (.tmp rfl .nil) rfl 4 [0,1,2,3] rfl rfl (by decide) ⟨rfl,rfl⟩
 obtain⟨x45',hL,hRl51⟩:=aM hF
 refine cA (fun k a w=>∃(x38:List Rat),∃(x44:Int),lT K a0 a1 a2 a3 a4 a5 a6 x26 k x38 x44=some x45'∧x38.length=x26.length∧hs _ ([hO cQ b28 x26.length 42 x26.length x38,⟨some p0,1,123,6,1,([pI .i64 a0]++[pI .i64 a1]++[pI .i64 a2]++[pO b5 n7 c6]++[pO b10 n12 c11]++[pO b15 n17 c16])⟩,hO (cH g20) b5 c6 24 n7 a3,hO cQ b10 c11 42 n12 a4,hO cI b15 c16 3 n17 a5]++eD cQ 42 g20 a6) [(0,.vc (pP (some p0) 0)),(1,.vc (pFB 121 [pP (some p0) 0] [])),(5,.vc (pO b28 x26.length x26.length)),(13,.vc (pI .i64 (x26.length:Int))),(14,.vc (pI .i64 x44))] a w) K (fun a w ⟨_,_,hF,_,_⟩=>by cases hF) (fun k a w ⟨x38,x44,hF,q42,hh⟩=>b0 ?_ hh) (fun a w hh=>⟨x26,0,hL,rfl,aR 5 [0,1,2,3,4] rfl rfl (by decide) (by exact⟨rfl,rfl,rfl,rfl,rfl,trivial⟩) hh⟩)
 rw [lT.eq_2] at hF
 refine go ?_ ?_
 refine aB hF rfl (fun h53 hF=>?_) (fun h53 hF=>?_)
 ·refine go ?_ ?_
  refine aG ?_
  obtain⟨v56,h57,v58,h59,v60,h61,hF⟩:=bn3 hF
  obtain⟨v62,h63,hF⟩:=aW hF zD
  obtain⟨v64,h65,hF⟩:=aM hF
  refine go ?_ ?_
  refine iQ [0,0,0,0,12,0,0,64,192,448,0,1984,4092,8188,16383,32767] 15 1 [.v (.vc (pO b28 x26.length x26.length)),.v (.vc (pI .i64 x44)),.v (.vc (pFB 121 [pP (some p0) 0] [])),.v (.vc (pI .i64 x44)),.v (.va (eQ v56)),.v (.vc (pFB 121 [pP (some p0) 0] [])),.v (.vc (pP (some p0) 0)),.v (.vc (pP (some p0) 0)),.v (.vc (pP (some p0) 0)),.v (.vc (pI .i64 a0)),.v (.vc (pI .i64 x44)),.v (.vc (pI .i64 v58)),.v (.va (eQ v60)),.v (.va (eQ v62)),.v (.vc (pE b28 x44 cQ.n 0))] aU ⟨d0 (aL (.inl rfl)) zU1,d0 (aL (.inl rfl)) zU1,d0 (aL (.inl rfl)) zU1,d0 (aL (.inl rfl)) zU1,d0 (aGF (f:=121) (bs:=[pP (some p0) 0]) (cs:=[]) (pre:=[.vc (pI .i64 x44)]) 5 [1,2,3,4] [0] [4,0,1,2,3] rfl (xE h57 q8 q13 q18 q22 q23 q24) rfl rfl rfl rfl (by decide) (by decide) rfl) zU2,d0 (aL (.inl rfl)) zU1,d0 (aL (.inl rfl)) zU1,d0 (s9 rfl) zU1,d0 (gV (off:=0) (k:=0) rfl tyF123_0) zU1,d0 (gC 1 1 rfl rfl rfl rfl (.one tyO3)) zU1,d0 (aL (.inl rfl)) zU1,d0 (yK rfl h59) zU2,d0 (aGF (f:=121) (bs:=[pP (some p0) 0]) (cs:=[]) (pre:=[.vc (pI .i64 v58)]) 5 [1,2,3,4] [0] [4,0,1,2,3] rfl (xE h61 q8 q13 q18 q22 q23 q24) rfl rfl rfl rfl (by decide) (by decide) rfl) zU2,d0 (bE rfl h63 rfl) zU2,d0 (cY (C:=cQ) 0 rfl tyS24 rfl q42 (aD h65).1 (aD h65).2.1) zU2,trivial⟩ (fun bs55 G54=>?_)
  obtain⟨x66,h67,v69,h70,hF⟩:=tW hF
  refine go ?_ ?_
  exact aF (fun a w hh=>⟨x66,v69,hF,(bC h67 q42),aR 5 [0,1,2,3,4] rfl rfl (by decide) (by exact⟨rfl,rfl,rfl,rfl,rfl,trivial⟩) hh⟩)
 refine aV ?_
 obtain rfl:=eP hF
 exact eJ Jj52 ⟨x38,hRl51,q42,rfl,rfl⟩ 5 [0,1,2,3,4] rfl rfl zU1
def sI (a0:Int) (a1:Int) (a2:Int) (a3:List Rat) (a4:List Nat) (a5:List Int) (a6:List (List Rat)):Option (List Rat):=
 (aS (2*a0)).bind fun v22=>(aS (2*a0)).bind fun v24=>(aS (v24+a1)).bind fun v26=>(slL a3 v22 v26).bind fun x28=>(iZ x28).bind fun v30=>some v30
theorem aAl {a0:Int} {a1:Int} {a2:Int} {a3:List Rat} {a4:List Nat} {a5:List Int} {a6:List (List Rat)} {r:List Rat} (hF:sI a0 a1 a2 a3 a4 a5 a6=some r) {p0:Nat} {b4:Option Nat} {c5 n6:Nat} {b9:Option Nat} {c10 n11:Nat} {g14:List rK} {N15:Nat} (q7:a4.length=n6) (q12:a5.length=n11) (q16:a6.length=N15) (q17:cJ g14 a6) (q18:∀k∈a4,k<N15):CtO Tryz.prog 115 ([⟨some p0,1,123,6,1,([pI .i64 a0]++[pI .i64 a1]++[pI .i64 a2]++[pO b4 n6 c5]++[pS cQ a3]++[pO b9 n11 c10])⟩,hO (cH g14) b4 c5 24 n6 a4,hO cI b9 c10 3 n11 a5]++eD cQ 42 g14 a6) [.vc (pP (some p0) 0)] (fun Ho q=>Ho=([⟨some p0,1,123,6,1,([pI .i64 a0]++[pI .i64 a1]++[pI .i64 a2]++[pO b4 n6 c5]++[pS cQ a3]++[pO b9 n11 c10])⟩,hO (cH g14) b4 c5 24 n6 a4,hO cI b9 c10 3 n11 a5]++eD cQ 42 g14 a6)∧q=.vc (pS cQ r)):=by
 unfold sI at hF
 refine aA Tryz.func115 rfl (by kernel_rfl) Tryz.ntmps115 rfl (fun w0 M0=>?_)
 refine aC (aH (aI (aL (.inr rfl)) ⟨cD cQ,trivial⟩ ?_))
 obtain⟨v22,h23,hF⟩:=aM hF
 have hF:=tJ h23 hF
 obtain⟨v26,h27,x28,h29,hF⟩:=tW hF
 obtain⟨v30,h31,hF⟩:=aW hF aAf
 refine go ?_ ?_
 refine dr [0,1,3,7,0,16,48,112,240,0,512,1536,3584,7680,0,16384,49152,114688,261632,524287,1048575,2097151] 22 0 ?_ (fun bs21 G20=>?_)
 refine aT (aJ (dQ (dL ?_)))
 obtain rfl:=eP hF
 exact jT (.inl rfl) Tryz.results115 (.tmp rfl .nil) rfl 3 [0,1,2] rfl rfl (by decide) ⟨rfl,rfl⟩
def z8 (K:Nat) (a0:aX):Option (uX×Int):=
 (z6 K a0).bind fun v3=>bif(v3 != 0) then(some ((⟨0,([]:List Rat),([]:List Rat),0⟩:uX),v3)) else((yS K a0).bind fun v6=>(aS (2*a0.vars)).bind fun v37=>(aS (v37+v6.2.1)).bind fun v39=>(o9 K (wC v39) v6.1 v6.2.1 v6.2.2.1 v6.2.2.2.1 v6.2.2.2.2.1 v6.2.2.2.2.2.1 v6.2.2.2.2.2.2).bind fun v41=>(rJ K v6.2.2.1 v6.1 v6.2.1 v6.2.2.1 v6.2.2.2.1 v41 v6.2.2.2.2.2.1 v6.2.2.2.2.2.2).bind fun v51=>(bF v51.2.2.1 v6.2.2.1).bind fun v70=>(xD v70).bind fun v72=>bif(decide (v72<0)) then((sJ v6.1 v6.2.1 v6.2.2.1 v51.2.1 v51.2.2.1 v51.2.2.2.1 v51.2.2.2.2).bind fun v75=>some ((⟨1,([]:List Rat),v75,0⟩:uX),0)) else((tT K v39 v6.1 v6.2.1 v6.2.2.1 v51.2.1 v51.2.2.1 v51.2.2.2.1 v51.2.2.2.2).bind fun v77=>(o9 K (wE a0) v6.1 v6.2.1 v6.2.2.1 v77.1 v77.2.1 v77.2.2.1 v77.2.2.2).bind fun v94=>(rJ K v39 v6.1 v6.2.1 v6.2.2.1 v77.1 v94 v77.2.2.1 v77.2.2.2).bind fun v102=>bif(decide (0≤v102.1)) then((tK K v6.1 v6.2.1 v6.2.2.1 v102.1 v102.2.1 v102.2.2.1 v102.2.2.2.1 v102.2.2.2.2).bind fun v121=>(o6 K v6.1 v6.2.1 v6.2.2.1 v102.2.1 v102.2.2.1 v102.2.2.2.1 v102.2.2.2.2).bind fun v123=>some ((⟨2,v123,v121,0⟩:uX),0)) else((o6 K v6.1 v6.2.1 v6.2.2.1 v102.2.1 v102.2.2.1 v102.2.2.2.1 v102.2.2.2.2).bind fun v125=>(sI v6.1 v6.2.1 v6.2.2.1 v102.2.2.1 v102.2.1 v102.2.2.2.1 v102.2.2.2.2).bind fun v131=>(zI K a0.goal v125).bind fun v133=>some ((⟨0,v125,v131,v133⟩:uX),0))))
theorem aE8 {K:Nat} {a0:aX} {r:uX×Int} (hF:z8 K a0=some r):Ct Tryz.prog 70 [.va (aX.enc a0)] (.t2 (.va (uX.enc r.1)) (.vc (pI .i64 r.2))):=by
 unfold z8 at hF
 refine aA Tryz.func70 rfl (by kernel_rfl) Tryz.ntmps70 rfl (fun w0 M0=>?_)
 refine aC (aH (bV rfl rfl trivial (fun b1=>?_)))
 refine aN rfl tyZ94q (fun b2=>?_)
 obtain⟨v3,h4,hF⟩:=aW hF aE2
 refine go ?_ ?_
 refine aB hF rfl (fun h5 hF=>?_) (fun h5 hF=>?_)
 ·refine aC (aH (aI (gU (is:=[]) (xs:=[]) (ps:=[]) rfl tyB94q rfl rfl trivial rfl) trivial ?_))
  exact bI
 obtain⟨v6,h7,hF⟩:=aM hF
 refine go ?_ ?_
 refine aFC [] [0,1] rfl (aDc h7) zU1 rfl rfl (by decide) ?_
 rintro _ _ ⟨b8,b13,c14,n15,b18,c19,n20,b23,c24,n25,g28,N29,q16,q21,q26,q30,q31,q32,rfl,rfl⟩
 refine mM (jS [⟨some b8,1,123,6,1,([pI .i64 v6.1]++[pI .i64 v6.2.1]++[pI .i64 v6.2.2.1]++[pO b13 n15 c14]++[pO b18 n20 c19]++[pO b23 n25 c24])⟩,hO (cH g28) b13 c14 24 n15 v6.2.2.2.1,hO cQ b18 c19 42 n20 v6.2.2.2.2.1,hO cI b23 c24 3 n25 v6.2.2.2.2.2.1] (eD cQ 42 g28 v6.2.2.2.2.2.2) [⟨some b2,1,94,7,1,([pI .i64 0]++[pS cQ ([]:List Rat)]++[pS cQ ([]:List Rat)]++(eQ 0))⟩,⟨some b1,1,90,3,1,(aX.enc a0)⟩]) ?_
 refine aN rfl tyZ120q (fun b34=>?_)
 obtain⟨v37,h38,v39,h40,hF⟩:=tW hF
 refine go ?_ ?_
 refine dr [0,1,3,0,8,24,56,127,0,511] 9 1 ?_ (fun bs36 G35=>?_)
 refine mD (t_s 0 rfl rfl rfl tyO3.s) zU2 ?_
 refine aT (aJ (aC (aH (aI (gC 1 1 rfl rfl rfl rfl (.one tyO120)) zU1 ?_))))
 refine aFV 0 [(6,0)] rfl zU1 rfl ?_
 refine aI (aJf (φ:=(wC v39)) (pre:=fun x:Int=>[.vc (pI .i64 x)]) (post:=fun r:Rat=>.va (eQ r)) (xs:=[.tmp 6]) (cs:=[pM (cI.e v39)]) rfl rfl (fun x r h=>aDS h)) zU1 ?_
 obtain⟨v41,h42,hF⟩:=aM hF
 refine o7 7 [1,2,3,4] [0,5,6] rfl (wH h42 q16 q21 q26 q30 q31 q32) zU2 rfl rfl rfl (by decide) ?_
 rintro _ _ ⟨b44,c45,n46,q47,rfl,rfl⟩
 refine mM (jS [⟨some b8,1,123,6,1,([pI .i64 v6.1]++[pI .i64 v6.2.1]++[pI .i64 v6.2.2.1]++[pO b13 n15 c14]++[pO b44 n46 c45]++[pO b23 n25 c24])⟩,hO (cH g28) b13 c14 24 n15 v6.2.2.2.1,hO cQ b18 c19 42 n20 v6.2.2.2.2.1,hO cI b23 c24 3 n25 v6.2.2.2.2.2.1,hO cQ b44 c45 42 n46 v41] (eD cQ 42 g28 v6.2.2.2.2.2.2) [⟨some b34,1,120,1,1,[pP (some b8) 0]⟩,⟨some b2,1,94,7,1,([pI .i64 0]++[pS cQ ([]:List Rat)]++[pS cQ ([]:List Rat)]++(eQ 0))⟩,⟨some b1,1,90,3,1,(aX.enc a0)⟩]) ?_
 refine go ?_ ?_
 refine dr [0,0,2,6,14,31] 5 1 ?_ (fun bs50 G49=>?_)
 obtain⟨v51,h52,hF⟩:=aM hF
 refine o7 8 [0,1,4,3] [2,5,6,7] rfl (xC h52 q16 q47 q26 q30 q31 q32) zU2 rfl rfl rfl (by decide) ?_
 rintro _ _ ⟨b53,c54,n55,g62,N63,q56,q58,q60,q64,q65,q66,rfl,rfl⟩
 refine mM (jS [⟨some b8,1,123,6,1,([pI .i64 v6.1]++[pI .i64 v6.2.1]++[pI .i64 v6.2.2.1]++[pO b53 n55 c54]++[pO b44 n46 c45]++[pO b23 n25 c24])⟩,hO (cH g62) b53 c54 24 n55 v51.2.1,hO cQ b44 c45 42 n46 v51.2.2.1,hO cI b23 c24 3 n25 v51.2.2.2.1] (eD cQ 42 g62 v51.2.2.2.2) [hO cQ b18 c19 42 n20 v6.2.2.2.2.1,⟨some b34,1,120,1,1,[pP (some b8) 0]⟩,⟨some b2,1,94,7,1,([pI .i64 0]++[pS cQ ([]:List Rat)]++[pS cQ ([]:List Rat)]++(eQ 0))⟩,⟨some b1,1,90,3,1,(aX.enc a0)⟩]) ?_
 obtain⟨v70,h71,hF⟩:=aM hF
 obtain⟨v72,h73,hF⟩:=aW hF eS
 refine go ?_ ?_
 refine dr [0,1,3,7,0,16,48,112,255,511,1023,2047] 12 0 ?_ (fun bs69 G68=>?_)
 refine aT (aJ (aB hF rfl (fun h74 hF=>?_) (fun h74 hF=>?_)))
 ·obtain⟨v75,h76,hF⟩:=aM hF
  refine go ?_ ?_
  refine o7 8 [0,1,2,3] [4,5,6,7] rfl (aAp h76 q56 q58 q60 q64 q65 q66) zU1 rfl rfl rfl (by decide) ?_
  rintro _ _ ⟨rfl,rfl⟩
  refine mM (jS [⟨some b8,1,123,6,1,([pI .i64 v6.1]++[pI .i64 v6.2.1]++[pI .i64 v6.2.2.1]++[pO b53 n55 c54]++[pS cQ v51.2.2.1]++[pO b23 n25 c24])⟩,hO (cH g62) b53 c54 24 n55 v51.2.1,hO cI b23 c24 3 n25 v51.2.2.2.1] (eD cQ 42 g62 v51.2.2.2.2) [hO cQ b18 c19 42 n20 v6.2.2.2.2.1,⟨some b34,1,120,1,1,[pP (some b8) 0]⟩,⟨some b2,1,94,7,1,([pI .i64 0]++[pS cQ ([]:List Rat)]++[pS cQ ([]:List Rat)]++(eQ 0))⟩,⟨some b1,1,90,3,1,(aX.enc a0)⟩]) ?_
  refine aI (gU (is:=[0,2]) (xs:=[.const (.int .i64 (1)),.tmp 48]) (ps:=[.vc (pI .i64 1),.vc (pS cQ v75)]) rfl tyB94q rfl rfl ⟨trivial,trivial,trivial⟩ rfl) ⟨qM _ _,rfl,trivial⟩ ?_
  exact bI
 obtain⟨v77,h78,hF⟩:=aM hF
 refine go ?_ ?_
 refine o7 8 [0,1,2,3] [4,5,6,7] rfl (aAw h78 q56 q58 q60 q64 q65 q66) zU2 rfl rfl rfl (by decide) ?_
 rintro _ _ ⟨b79,c80,n81,g88,N89,q82,q84,q86,q90,q91,q92,rfl,rfl⟩
 refine mM (jS [⟨some b8,1,123,6,1,([pI .i64 v6.1]++[pI .i64 v6.2.1]++[pI .i64 v6.2.2.1]++[pO b79 n81 c80]++[pO b44 n46 c45]++[pO b23 n25 c24])⟩,hO (cH g88) b79 c80 24 n81 v77.1,hO cQ b44 c45 42 n46 v77.2.1,hO cI b23 c24 3 n25 v77.2.2.1] (eD cQ 42 g88 v77.2.2.2) [hO cQ b18 c19 42 n20 v6.2.2.2.2.1,⟨some b34,1,120,1,1,[pP (some b8) 0]⟩,⟨some b2,1,94,7,1,([pI .i64 0]++[pS cQ ([]:List Rat)]++[pS cQ ([]:List Rat)]++(eQ 0))⟩,⟨some b1,1,90,3,1,(aX.enc a0)⟩]) ?_
 refine aT (aJ (aC (aH (aI (gC 5 1 rfl rfl rfl rfl (.one tyO120)) zU1 ?_))))
 refine aFV 7 [(1,0),(18,0)] rfl zU2 rfl ?_
 refine aI (aJf (φ:=(wE a0)) (pre:=fun x:Int=>[.vc (pI .i64 x)]) (post:=fun r:Rat=>.va (eQ r)) (xs:=[.tmp 1]) (cs:=[pM (aX.cod.e a0)]) rfl rfl (fun x r h=>aDO h)) zU1 ?_
 obtain⟨v94,h95,hF⟩:=aM hF
 refine o7 7 [0,1,2,3] [4,5,6] rfl (wH h95 q82 q84 q86 q90 q91 q92) zU2 rfl rfl rfl (by decide) ?_
 rintro _ _ ⟨b97,c98,n99,q100,rfl,rfl⟩
 refine mM (jS [⟨some b8,1,123,6,1,([pI .i64 v6.1]++[pI .i64 v6.2.1]++[pI .i64 v6.2.2.1]++[pO b79 n81 c80]++[pO b97 n99 c98]++[pO b23 n25 c24])⟩,hO (cH g88) b79 c80 24 n81 v77.1,hO cQ b44 c45 42 n46 v77.2.1,hO cI b23 c24 3 n25 v77.2.2.1,hO cQ b97 c98 42 n99 v94] (eD cQ 42 g88 v77.2.2.2) [hO cQ b18 c19 42 n20 v6.2.2.2.2.1,⟨some b34,1,120,1,1,[pP (some b8) 0]⟩,⟨some b2,1,94,7,1,([pI .i64 0]++[pS cQ ([]:List Rat)]++[pS cQ ([]:List Rat)]++(eQ 0))⟩]) ?_
 obtain⟨v102,h103,hF⟩:=aM hF
 refine go ?_ ?_
 refine o7 8 [0,1,4,3] [2,5,6,7] rfl (xC h103 q82 q100 q86 q90 q91 q92) zU2 rfl rfl rfl (by decide) ?_
 rintro _ _ ⟨b104,c105,n106,g113,N114,q107,q109,q111,q115,q116,q117,rfl,rfl⟩
 refine mM (jS [⟨some b8,1,123,6,1,([pI .i64 v6.1]++[pI .i64 v6.2.1]++[pI .i64 v6.2.2.1]++[pO b104 n106 c105]++[pO b97 n99 c98]++[pO b23 n25 c24])⟩,hO (cH g113) b104 c105 24 n106 v102.2.1,hO cQ b97 c98 42 n99 v102.2.2.1,hO cI b23 c24 3 n25 v102.2.2.2.1] (eD cQ 42 g113 v102.2.2.2.2) [hO cQ b44 c45 42 n46 v77.2.1,hO cQ b18 c19 42 n20 v6.2.2.2.2.1,⟨some b34,1,120,1,1,[pP (some b8) 0]⟩,⟨some b2,1,94,7,1,([pI .i64 0]++[pS cQ ([]:List Rat)]++[pS cQ ([]:List Rat)]++(eQ 0))⟩]) ?_
 refine aN rfl tyZ3q (fun b119=>?_)
 refine go ?_ ?_
 refine aB hF rfl (fun h120 hF=>?_) (fun h120 hF=>?_)
 ·refine go ?_ ?_
  refine aI (aMH (xs:=[.tmp 5,.tmp 7]) (cs:=[pP (some b34) 0,pP (some b119) 0]) rfl rfl) zU2 ?_
  obtain⟨v121,h122,hF⟩:=aM hF
  refine o7 9 [1,7,0,2,3,4] [5,6,8] rfl (aAy h122 q107 q109 q111 q115 q116 q117) zU2 rfl rfl rfl (by decide) ?_
  rintro _ _ ⟨rfl,rfl⟩
  refine mM (jS [⟨some b8,1,123,6,1,([pI .i64 v6.1]++[pI .i64 v6.2.1]++[pI .i64 v6.2.2.1]++[pO b104 n106 c105]++[pO b97 n99 c98]++[pO b23 n25 c24])⟩,⟨some b34,1,120,1,1,[pP (some b8) 0]⟩,⟨some b119,1,3,1,1,[pI .i64 v102.1]⟩,hO (cH g113) b104 c105 24 n106 v102.2.1,hO cQ b97 c98 42 n99 v102.2.2.1,hO cI b23 c24 3 n25 v102.2.2.2.1] (eD cQ 42 g113 v102.2.2.2.2) [hO cQ b44 c45 42 n46 v77.2.1,hO cQ b18 c19 42 n20 v6.2.2.2.2.1,⟨some b2,1,94,7,1,([pI .i64 0]++[pS cQ ([]:List Rat)]++[pS cQ ([]:List Rat)]++(eQ 0))⟩]) ?_
  refine go ?_ ?_
  refine aI (aPK (xs:=[.tmp 65]) (bs:=[pP (some b8) 0]) rfl rfl) zU1 ?_
  obtain⟨v123,h124,hF⟩:=aM hF
  refine o7 9 [0,3,4,5] [1,2,6,7,8] rfl (wO h124 q107 q109 q111 q115 q116 q117) zU2 rfl rfl rfl (by decide) ?_
  rintro _ _ ⟨rfl,rfl⟩
  refine mM (jS [⟨some b8,1,123,6,1,([pI .i64 v6.1]++[pI .i64 v6.2.1]++[pI .i64 v6.2.2.1]++[pO b104 n106 c105]++[pO b97 n99 c98]++[pO b23 n25 c24])⟩,hO (cH g113) b104 c105 24 n106 v102.2.1,hO cQ b97 c98 42 n99 v102.2.2.1,hO cI b23 c24 3 n25 v102.2.2.2.1] (eD cQ 42 g113 v102.2.2.2.2) [⟨some b34,1,120,1,1,[pP (some b8) 0]⟩,⟨some b119,1,3,1,1,[pI .i64 v102.1]⟩,hO cQ b44 c45 42 n46 v77.2.1,hO cQ b18 c19 42 n20 v6.2.2.2.2.1,⟨some b2,1,94,7,1,([pI .i64 0]++[pS cQ ([]:List Rat)]++[pS cQ ([]:List Rat)]++(eQ 0))⟩]) ?_
  refine dS ?_
  refine aI (gU (is:=[0,1,2]) (xs:=[.const (.int .i64 (2)),.tmp 67,.tmp 68]) (ps:=[.vc (pI .i64 2),.vc (pS cQ v123),.vc (pS cQ v121)]) rfl tyB94q rfl rfl ⟨trivial,trivial,trivial,trivial⟩ rfl) ⟨qM _ _,rfl,rfl,trivial⟩ ?_
  exact bI
 refine go ?_ ?_
 refine aI (aPK (xs:=[.tmp 71]) (bs:=[pP (some b8) 0]) rfl rfl) zU1 ?_
 obtain⟨v125,h126,hF⟩:=aM hF
 refine o7 9 [1,2,3,4] [0,5,6,7,8] rfl (wO h126 q107 q109 q111 q115 q116 q117) zU2 rfl rfl rfl (by decide) ?_
 rintro _ _ ⟨rfl,rfl⟩
 refine mM (jS [⟨some b8,1,123,6,1,([pI .i64 v6.1]++[pI .i64 v6.2.1]++[pI .i64 v6.2.2.1]++[pO b104 n106 c105]++[pO b97 n99 c98]++[pO b23 n25 c24])⟩,hO (cH g113) b104 c105 24 n106 v102.2.1,hO cQ b97 c98 42 n99 v102.2.2.1,hO cI b23 c24 3 n25 v102.2.2.2.1] (eD cQ 42 g113 v102.2.2.2.2) [⟨some b119,1,3,1,1,[pI .i64 v102.1]⟩,hO cQ b44 c45 42 n46 v77.2.1,hO cQ b18 c19 42 n20 v6.2.2.2.2.1,⟨some b34,1,120,1,1,[pP (some b8) 0]⟩,⟨some b2,1,94,7,1,([pI .i64 0]++[pS cQ ([]:List Rat)]++[pS cQ ([]:List Rat)]++(eQ 0))⟩]) ?_
 refine go ?_ ?_
 refine aPR 2 0 4 rfl q109 rfl rfl rfl rfl rfl ?_
 obtain⟨v131,h132,hF⟩:=aM hF
 obtain⟨v133,h134,hF⟩:=aW hF aDT
 refine iQ [0,0,2,0,8,0,62,127,255,511] 8 2 [.v (.vc (pS cQ v125)),.v (.vc (pP (some b8) 0)),.v (.vc (pS cQ v131)),.v (.vc (pM ((aX.cod.e a0).drop 2))),.v (.vc (pS cQ a0.goal)),.v (.vc (pS cQ v125)),.v (.va (eQ v133)),.v (.va ([pI .i64 0]++[pS cQ v125]++[pS cQ v131]++(eQ v133)))] aU ⟨d0 (aL (.inl rfl)) zU1,d0 (gC 6 1 rfl rfl rfl rfl (.one tyO120)) zU1,d0 (aJr 8 [0,1,2] [3,4,5,6,7] [0,1,2,3,4,5,6,7] rfl (aAl h132 q107 q111 q115 q116 q117) rfl rfl rfl rfl (by decide) (by decide) rfl) zU1,d0 (aNL (ps:=(aX.cod.e a0)) (k:=2) rfl tyF90_2) zU1,d0 (x0 1 rfl rfl (.one tyO24)) zU1,d0 (aL (.inl rfl)) zU1,d0 (bE rfl h134 rfl) zU2,d0 (gU (is:=[0,1,2,3]) (xs:=[.const (.int .i64 (0)),.tmp 74,.tmp 76,.tmp 80]) (ps:=[.vc (pI .i64 0),.vc (pS cQ v125),.vc (pS cQ v131),.va (eQ v133)]) rfl tyB94q rfl rfl ⟨trivial,trivial,trivial,trivial,trivial⟩ rfl) ⟨qM _ _,rfl,rfl,rfl,trivial⟩,trivial⟩ (fun bs130 G129=>?_)
 exact bI
def tS (K:Nat) (a1:List Rat) (x49:List Rat) (x109:List aQ):Option ((List Rat)×Int):=
 (z8 K (⟨(a1.length:Int),x109,x49⟩:aX)).bind fun v117=>bif(v117.2 != 0) then(some ([],6)) else(bif(v117.1.kind != 0) then(some ([],6)) else((xD v117.1.value).bind fun v122=>bif(decide (v122≤0)) then(some ([],6)) else(some (v117.1.x,0))))
def tP (K:Nat) (x102:List aQ) (x108:Int) (recl115:(List aQ)→Int→Option (List aQ)) (x146:List Rat):Option (List aQ):=
 (oG x102 [(⟨x146,0⟩:aQ)]).bind fun x154=>(aS (x108+1)).bind fun v161=>recl115 x154 v161
def oZ (K:Nat) (a0:List (List Rat)) (a1:List Rat) (x108:Int):Nat→(List Rat)→Int→Option (List Rat)
 |0,_,_=>none
 |k+1,x139,x145=>bif(decide (x145<(a1.length:Int))) then((bF a0 x145).bind fun v166=>(bF v166 x108).bind fun v168=>(bF x139 x145).bind fun v170=>(qL x139 x145 v168).bind fun x172=>(aS (x145+1)).bind fun v175=>oZ K a0 a1 x108 k x172 v175) else(some x139)
def lN (K:Nat) (a0:List (List Rat)) (a1:List Rat):Nat→(List aQ)→Int→Option (List aQ)
 |0,_,_=>none
 |k+1,x102,x108=>bif(decide (x108<(a1.length:Int))) then((mkL (a1.length:Int) 0).bind fun x126=>(oZ K a0 a1 x108 K x126 0).bind fun x146=>tP K x102 x108 (lN K a0 a1 k) x146) else(some x102)
def uC (K:Nat) (a0:List (List Rat)) (a1:List Rat) (x43:List aQ) (x49:List Rat) (v57:Rat) (x80:List Rat):Option ((List Rat)×Int):=
 (oG x43 [(⟨x80,v57⟩:aQ)]).bind fun x88=>(lN K a0 a1 K x88 0).bind fun x109=>tS K a1 x49 x109
def pV (K:Nat) (a1:List Rat):Nat→(List Rat)→Int→Option (List Rat)
 |0,_,_=>none
 |k+1,x73,x79=>bif(decide (x79<(a1.length:Int))) then((qof 1 1).bind fun v180=>(oG x73 [v180]).bind fun x182=>(aS (x79+1)).bind fun v189=>pV K a1 k x182 v189) else(some x73)
def uF (K:Nat) (a0:List (List Rat)) (a1:List Rat) (x43:List aQ) (x49:List Rat):Option ((List Rat)×Int):=
 (qof 1 1).bind fun v57=>(pV K a1 K ([]:List Rat) 0).bind fun x80=>uC K a0 a1 x43 x49 v57 x80
def pU (K:Nat) (a1:List Rat):Nat→(List aQ)→(List Rat)→Int→Option ((List aQ)×(List Rat))
 |0,_,_,_=>none
 |k+1,x30,x36,x42=>bif(decide (x42<(a1.length:Int))) then((bF a1 x42).bind fun v194=>(aCh v194).bind fun v196=>(bF x36 x42).bind fun v198=>(qL x36 x42 v196).bind fun x200=>(mkL (a1.length:Int) 0).bind fun x203=>(qof (-1) 1).bind fun v211=>(bF x203 x42).bind fun v213=>(qL x203 x42 v211).bind fun x215=>(oG x30 [(⟨x215,0⟩:aQ)]).bind fun x218=>(aS (x42+1)).bind fun v225=>pU K a1 k x218 x200 v225) else(some (x30,x36))
def w6 (K:Nat) (a0:List (List Rat)) (a1:List Rat):Option ((List Rat)×Int):=
 (dC K a0 a1).bind fun v1=>bif(!v1) then(some ([],1)) else(bif((a1.length:Int)==0) then(some ([],6)) else((mkL (a1.length:Int) 0).bind fun x5=>(pU K a1 K ([]:List aQ) x5 0).bind fun(x43,x49)=>uF K a0 a1 x43 x49))
theorem aCK {K:Nat} {a0:List (List Rat)} {a1:List Rat} {r:(List Rat)×Int} (hF:w6 K a0 a1=some r):Ct Tryz.prog 27 [.vc (pS (bJ cQ) a0),.vc (pS cQ a1)] (.t2 (.vc (pS cQ r.1)) (.vc (pI .i64 r.2))):=by
 unfold w6 at hF
 refine aA Tryz.func27 rfl (by kernel_rfl) Tryz.ntmps27 rfl (fun w0 M0=>?_)
 refine aC (aH (aI (aL (.inr rfl)) ⟨cD cQ,trivial⟩ ?_))
 refine aI (aL (.inr rfl)) ⟨qM _ _,trivial⟩ ?_
 refine aT (aJ (aC (aC (aH (dS ?_)))))
 refine dS ?_
 obtain⟨v1,h2,hF⟩:=aM hF
 refine aI (bE rfl (qP h2) rfl) zU2 ?_
 refine aI (aKV rfl) zU1 ?_
 refine aT (aJ (aGW rfl (fun h3=>?_) (fun h3=>?_)))
 ·have hF:=vK h3 hF
  refine aC (aH (aI (aL (.inr rfl)) ⟨cD cQ,trivial⟩ ?_))
  refine aI (aL (.inr rfl)) ⟨qM _ _,trivial⟩ ?_
  refine aT (aJ (dQ (dL ?_)))
  obtain rfl:=eP hF
  exact eE (.inl rfl) Tryz.results27 (.tmp rfl (.tmp rfl .nil)) rfl rfl
 have hF:=tU h3 hF
 refine eU (aJ (aC (aH (dS ?_))))
 refine aI (aJs rfl tyS24) zU1 ?_
 refine zP ?_
 refine aT (aJ (aC (aC (aH (dS ?_)))))
 refine aI (aOR rfl) ⟨rfl,qM _ _,trivial⟩ ?_
 refine aT (aJ (aGW rfl (fun h4=>?_) (fun h4=>?_)))
 ·have hF:=vK h4 hF
  refine aC (aH (aI (aL (.inr rfl)) ⟨cD cQ,trivial⟩ ?_))
  refine aI (aL (.inr rfl)) ⟨qM _ _,trivial⟩ ?_
  refine aT (aJ (dQ (dL ?_)))
  obtain rfl:=eP hF
  exact eE (.inl rfl) Tryz.results27 (.tmp rfl (.tmp rfl .nil)) rfl rfl
 have hF:=tU h4 hF
 refine eU (aJ (aC (aH (dS ?_))))
 refine dS ?_
 obtain⟨x5,h6,hF⟩:=aM hF
 refine nN (C:=cQ) rfl tyS24 rfl tyZ42q rfl h6 (fun b7=>?_)
 refine aBa aQ.cod 92 ?_
 refine aI (gU (is:=[0,2]) (xs:=[.tmp 24,.tmp 26]) (ps:=[.vc (pI .i64 (a1.length:Int)),.vc (pO b7 x5.length x5.length)]) rfl tyB90_o1q rfl rfl ⟨trivial,trivial,trivial⟩ rfl) zU2 ?_
 refine aN rfl tyZ90q (fun b16=>?_)
 refine mD (t_s 0 rfl rfl rfl tyA90.s) zU2 ?_
 refine aT (aJ (aC (aC (aH (dS ?_)))))
 refine aI (aL (.inl rfl)) ⟨qM _ _,trivial⟩ ?_
 refine aT (aJ (aG (aP (fun H E=>∃(x43:List aQ),∃(x49:List Rat),∃(b44:Option Nat),∃(c45:Nat),∃(n46:Nat),uF K a0 a1 x43 x49=some r∧x43.length=n46∧x49.length=x5.length∧H=[⟨some b16,1,90,3,1,([pI .i64 (a1.length:Int)]++[pO b44 n46 c45]++[pO b7 x5.length x5.length])⟩,hO aQ.cod b44 c45 92 n46 x43,hO cQ b7 x5.length 42 x5.length x49]∧E=[(0,.vc (pS (bJ cQ) a0)),(6,.vc (pI .i64 (a1.length:Int))),(7,.vc (pP (some b16) 0))]) ?_ (fun Jj56=>?_))))
 ·rintro _ _ ⟨x43,x49,b44,c45,n46,hF,q47,q53,rfl,rfl⟩
  unfold uF at hF
  refine aJ (aC (aH ?_))
  obtain⟨v57,h58,hF⟩:=aM hF
  refine aI (bE rfl (uH h58) rfl) ⟨qM _ _,qM _ _,trivial⟩ ?_
  refine aBa cQ 42 ?_
  refine aI (gU (is:=[1]) (xs:=[.tmp 56]) (ps:=[.va (eQ v57)]) rfl tyB92_o0q rfl rfl ⟨trivial,trivial⟩ rfl) zU1 ?_
  refine aN rfl tyZ92q (fun b65=>?_)
  refine mD (t_s 0 rfl rfl rfl tyA92.s) zU2 ?_
  refine aT (aJ (aC (aC (aH (dS ?_)))))
  refine aI (aL (.inl rfl)) ⟨qM _ _,trivial⟩ ?_
  refine aT (aJ (aG (aP (fun H E=>∃(x80:List Rat),∃(b81:Option Nat),∃(c82:Nat),∃(n83:Nat),uC K a0 a1 x43 x49 v57 x80=some r∧x80.length=n83∧H=[⟨some b65,1,92,5,1,([pO b81 n83 c82]++(eQ v57))⟩,hO cQ b81 c82 42 n83 x80,⟨some b16,1,90,3,1,([pI .i64 (a1.length:Int)]++[pO b44 n46 c45]++[pO b7 x5.length x5.length])⟩,hO aQ.cod b44 c45 92 n46 x43,hO cQ b7 x5.length 42 x5.length x49]∧E=[(0,.vc (pS (bJ cQ) a0)),(6,.vc (pI .i64 (a1.length:Int))),(7,.vc (pP (some b16) 0)),(10,.vc (pP (some b65) 0))]) ?_ (fun Jj87=>?_))))
  ·rintro _ _ ⟨x80,b81,c82,n83,hF,q84,rfl,rfl⟩
   unfold uC at hF
   refine aJ (aC (aH (aI (gV (off:=0) (k:=1) rfl tyF90_1) zU1 ?_)))
   refine aI (gC 2 1 rfl rfl rfl rfl (.one tyO88)) zU1 ?_
   refine aFj 1 0 0 rfl q84 rfl rfl rfl rfl rfl ?_
   refine aI (gC 0 5 rfl rfl rfl rfl (.agg tyA92)) zU1 ?_
   refine aI (eR (C:=aQ.cod) (xs:=[.tmp 70]) (ps:=[.va ([pS cQ x80]++(eQ v57))]) (zs:=[(⟨x80,v57⟩:aQ)]) rfl tyS88 rfl ⟨⟨trivial,rfl⟩,trivial⟩ rfl) zU1 ?_
   obtain⟨x88,h89,hF⟩:=aM hF
   refine iK 2 rfl tyS88 rfl rfl q47 rfl rfl h89 (fun b90 c91 H92 e93=>?_)
   cases e93
   refine aI (gV (off:=0) (k:=1) rfl tyF90_1) zU1 ?_
   refine mD (t_s 1 rfl rfl rfl tyO88.s) zU2 ?_
   refine aT (aJ (aC (aC (aH (dS ?_)))))
   refine aI (aL (.inl rfl)) ⟨qM _ _,trivial⟩ ?_
   refine aT (aJ (aG (aP (fun H E=>∃(x109:List aQ),∃(b110:Option Nat),∃(c111:Nat),∃(n112:Nat),tS K a1 x49 x109=some r∧x109.length=n112∧H=[⟨some b16,1,90,3,1,([pI .i64 (a1.length:Int)]++[pO b110 n112 c111]++[pO b7 x5.length x5.length])⟩,hO aQ.cod b110 c111 92 n112 x109,hO cQ b7 x5.length 42 x5.length x49]∧E=[(7,.vc (pP (some b16) 0))]) ?_ (fun Jj116=>?_))))
   ·rintro _ _ ⟨x109,b110,c111,n112,hF,q113,rfl,rfl⟩
    unfold tS at hF
    refine aJ (aC (aH (aFj 1 0 1 rfl q113 rfl rfl rfl rfl rfl ?_)))
    refine aFj 1 0 2 rfl q53 rfl rfl rfl rfl rfl ?_
    refine aI (gC 0 3 rfl rfl rfl rfl (.agg tyA90)) zU1 ?_
    obtain⟨v117,h118,hF⟩:=aM hF
    refine aI (bE rfl (aE8 h118) rfl) zU1 ?_
    refine dS ?_
    refine aI (aHY rfl) zU1 ?_
    refine aI (aIo rfl) zU1 ?_
    refine aN rfl tyZ94q (fun b119=>?_)
    refine mD (t_s 0 rfl rfl rfl tyA94.s) zU2 ?_
    refine zP ?_
    refine aT (aJ (aC (aC (aH (dS ?_)))))
    refine aI (aNp rfl) ⟨rfl,qM _ _,trivial⟩ ?_
    refine dS ?_
    refine aKi (fun h120=>?_) (fun h120=>?_)
    ·have hF:=vK h120 hF
     refine aB5 ?_
     refine aB5 ?_
     refine aB5 ?_
     refine aI (yA rfl) ⟨rfl,k_B _,trivial⟩ ?_
     refine dS ?_
     refine aB5 ?_
     refine aB5 ?_
     refine aB5 ?_
     refine aB5 ?_
     refine aI (yA rfl) ⟨rfl,k_B _,trivial⟩ ?_
     refine aT (aJ (fV rfl ?_))
     refine aC (aH (aI (aL (.inr rfl)) ⟨cD cQ,trivial⟩ ?_))
     refine aI (aL (.inr rfl)) ⟨qM _ _,trivial⟩ ?_
     refine aT (aJ (dQ (dL ?_)))
     obtain rfl:=eP hF
     exact eE (.inl rfl) Tryz.results27 (.tmp rfl (.tmp rfl .nil)) rfl rfl
    have hF:=tU h120 hF
    refine w8 (gV (off:=0) (k:=0) rfl tyF94_0) zU1 ?_
    refine w8 (gC 0 1 rfl rfl rfl rfl (.one tyO3)) zU1 ?_
    refine w8 (aNp rfl) ⟨rfl,qM _ _,trivial⟩ ?_
    refine aI (aBP rfl) zU2 ?_
    refine dS ?_
    refine aKi (fun h121=>?_) (fun h121=>?_)
    ·have hF:=vK h121 hF
     refine aB5 ?_
     refine aB5 ?_
     refine aB5 ?_
     refine aB5 ?_
     refine aI (yA rfl) ⟨rfl,k_B _,trivial⟩ ?_
     refine aT (aJ (fV rfl ?_))
     refine aC (aH (aI (aL (.inr rfl)) ⟨cD cQ,trivial⟩ ?_))
     refine aI (aL (.inr rfl)) ⟨qM _ _,trivial⟩ ?_
     refine aT (aJ (dQ (dL ?_)))
     obtain rfl:=eP hF
     exact eE (.inl rfl) Tryz.results27 (.tmp rfl (.tmp rfl .nil)) rfl rfl
    have hF:=tU h121 hF
    refine w8 (gV (off:=0) (k:=3) rfl tyF94_3) zU1 ?_
    refine w8 (gC 0 4 rfl rfl rfl rfl (.agg tyA42)) zU1 ?_
    obtain⟨v122,h123,hF⟩:=aM hF
    refine w8 (bE rfl (eS h123) rfl) zU1 ?_
    refine w8 (aON rfl) ⟨rfl,qM _ _,trivial⟩ ?_
    refine aI (aBP rfl) zU2 ?_
    refine aT (aJ (aGW rfl (fun h124=>?_) (fun h124=>?_)))
    ·have hF:=vK h124 hF
     refine aC (aH (aI (aL (.inr rfl)) ⟨cD cQ,trivial⟩ ?_))
     refine aI (aL (.inr rfl)) ⟨qM _ _,trivial⟩ ?_
     refine aT (aJ (dQ (dL ?_)))
     obtain rfl:=eP hF
     exact eE (.inl rfl) Tryz.results27 (.tmp rfl (.tmp rfl .nil)) rfl rfl
    have hF:=tU h124 hF
    refine eU (aJ (aC (aH (aI (gV (off:=0) (k:=1) rfl tyF94_1) zU1 ?_))))
    refine aI (gC 0 1 rfl rfl rfl rfl (.one tyO24)) zU1 ?_
    refine zP ?_
    refine aI (aL (.inr rfl)) ⟨qM _ _,trivial⟩ ?_
    refine aT (aJ (dQ (dL ?_)))
    obtain rfl:=eP hF
    exact eE (.inl rfl) Tryz.results27 (.tmp rfl (.tmp rfl .nil)) rfl rfl
   obtain⟨x109',hL,hRl115⟩:=aM hF
   refine cA (fun k a w=>∃(x102:List aQ),∃(x108:Int),∃(b103:Option Nat),∃(c104:Nat),∃(n105:Nat),lN K a0 a1 k x102 x108=some x109'∧x102.length=n105∧hs _ [⟨some b16,1,90,3,1,([pI .i64 (a1.length:Int)]++[pO b103 n105 c104]++[pO b7 x5.length x5.length])⟩,hO aQ.cod b103 c104 92 n105 x102,hO cQ b7 x5.length 42 x5.length x49] [(0,.vc (pS (bJ cQ) a0)),(6,.vc (pI .i64 (a1.length:Int))),(7,.vc (pP (some b16) 0)),(74,.vc (pI .i64 (a1.length:Int))),(75,.vc (pI .i64 x108))] a w) K (fun a w ⟨_,_,_,_,_,hF,_,_⟩=>by cases hF) (fun k a w ⟨x102,x108,b103,c104,n105,hF,q106,hh⟩=>b0 ?_ hh) (fun a w hh=>⟨x88,0,b90,c91,(n46+[(⟨x80,v57⟩:aQ)].length),hL,(bD h89 q47),zL [1,2,3] rfl (by decide) (by exact⟨rfl,rfl,rfl,rfl,rfl,trivial⟩) hh⟩)
   rw [lN.eq_2] at hF
   refine aC (aH (aI (aHL rfl) zU2 ?_))
   refine aT (aJ (aC (aGW rfl (fun h125=>?_) (fun h125=>?_))))
   ·have hF:=vK h125 hF
    refine eU (aJ (aC (aG (aC (aH (dS ?_))))))
    refine zP ?_
    refine aT (aJ (aC (aH (dS ?_))))
    obtain⟨x126,h127,hF⟩:=aM hF
    refine nN (C:=cQ) rfl tyS24 rfl tyZ42q rfl h127 (fun b128=>?_)
    refine aI (gU (is:=[0]) (xs:=[.tmp 79]) (ps:=[.vc (pO b128 x126.length x126.length)]) rfl tyB92q rfl rfl ⟨trivial,trivial⟩ rfl) zU1 ?_
    refine aN rfl tyZ92q (fun b131=>?_)
    refine mD (t_s 0 rfl rfl rfl tyA92.s) zU2 ?_
    refine aT (aJ (aC (aC (aH (dS ?_)))))
    refine aI (aL (.inl rfl)) ⟨qM _ _,trivial⟩ ?_
    refine aT (aJ (aG (aP (fun H E=>∃(x146:List Rat),tP K x102 x108 (lN K a0 a1 k) x146=some x109'∧x146.length=x126.length∧H=[⟨some b131,1,92,5,1,([pO b128 x126.length x126.length]++(eQ 0))⟩,hO cQ b128 x126.length 42 x126.length x146,⟨some b16,1,90,3,1,([pI .i64 (a1.length:Int)]++[pO b103 n105 c104]++[pO b7 x5.length x5.length])⟩,hO aQ.cod b103 c104 92 n105 x102,hO cQ b7 x5.length 42 x5.length x49]∧E=[(0,.vc (pS (bJ cQ) a0)),(6,.vc (pI .i64 (a1.length:Int))),(7,.vc (pP (some b16) 0)),(12,.vc (pP (some b131) 0)),(74,.vc (pI .i64 (a1.length:Int))),(75,.vc (pI .i64 x108))]) ?_ (fun Jj153=>?_))))
    ·rintro _ _ ⟨x146,hF,q150,rfl,rfl⟩
     unfold tP at hF
     refine aJ (aH (aI (gV (off:=0) (k:=1) rfl tyF90_1) zU1 ?_))
     refine aI (gC 2 1 rfl rfl rfl rfl (.one tyO88)) zU1 ?_
     refine aFj 1 0 0 rfl q150 rfl rfl rfl rfl rfl ?_
     refine aI (gC 0 5 rfl rfl rfl rfl (.agg tyA92)) zU1 ?_
     refine aI (eR (C:=aQ.cod) (xs:=[.tmp 99]) (ps:=[.va ([pS cQ x146]++(eQ 0))]) (zs:=[(⟨x146,0⟩:aQ)]) rfl tyS88 rfl ⟨⟨trivial,rfl⟩,trivial⟩ rfl) zU1 ?_
     obtain⟨x154,h155,hF⟩:=aM hF
     refine iK 2 rfl tyS88 rfl rfl q106 rfl rfl h155 (fun b156 c157 H158 e159=>?_)
     cases e159
     refine aI (gV (off:=0) (k:=1) rfl tyF90_1) zU1 ?_
     refine mD (t_s 1 rfl rfl rfl tyO88.s) zU2 ?_
     refine aT (aCz (aJ (aH ?_)))
     obtain⟨v161,h162,hF⟩:=aM hF
     refine aI (yK rfl h162) ⟨rfl,qM _ _,trivial⟩ ?_
     refine dS ?_
     refine aT ?_
     exact aF (fun a w hh=>⟨x154,v161,b156,c157,(n105+[(⟨x146,0⟩:aQ)].length),hF,(bD h155 q106),zL [1,2,3] rfl (by decide) (by exact⟨rfl,rfl,rfl,rfl,rfl,trivial⟩) hh⟩)
    obtain⟨x146',hL,hRl152⟩:=aM hF
    refine cA (fun k a w=>∃(x139:List Rat),∃(x145:Int),oZ K a0 a1 x108 k x139 x145=some x146'∧x139.length=x126.length∧hs _ [⟨some b131,1,92,5,1,([pO b128 x126.length x126.length]++(eQ 0))⟩,hO cQ b128 x126.length 42 x126.length x139,⟨some b16,1,90,3,1,([pI .i64 (a1.length:Int)]++[pO b103 n105 c104]++[pO b7 x5.length x5.length])⟩,hO aQ.cod b103 c104 92 n105 x102,hO cQ b7 x5.length 42 x5.length x49] [(0,.vc (pS (bJ cQ) a0)),(6,.vc (pI .i64 (a1.length:Int))),(7,.vc (pP (some b16) 0)),(11,.vc (pI .i64 x108)),(12,.vc (pP (some b131) 0)),(74,.vc (pI .i64 (a1.length:Int))),(75,.vc (pI .i64 x108)),(81,.vc (pI .i64 (a1.length:Int))),(82,.vc (pI .i64 x145))] a w) K (fun a w ⟨_,_,hF,_,_⟩=>by cases hF) (fun k a w ⟨x139,x145,hF,q143,hh⟩=>b0 ?_ hh) (fun a w hh=>⟨x126,0,hL,rfl,zL [0,1,2,3,4] rfl (by decide) (by exact⟨rfl,rfl,rfl,rfl,rfl,rfl,rfl,rfl,rfl,trivial⟩) hh⟩)
    rw [oZ.eq_2] at hF
    refine aC (aH (aI (aHL rfl) zU2 ?_))
    refine aT (aJ (aC (aGW rfl (fun h163=>?_) (fun h163=>?_))))
    ·have hF:=vK h163 hF
     refine eU (aJ (aC (aG (aC (aH (dS ?_))))))
     refine zP ?_
     refine aT (aJ ?_)
     obtain⟨v166,h167,hF⟩:=aM hF
     obtain⟨v168,h169,hF⟩:=aM hF
     obtain⟨v170,h171,hF⟩:=aM hF
     refine iQ [0,1,0,0,0,24,56,0,248,504,1023,2047] 11 1 [.v (.vc (pP (some b131) 0)),.v (.vc (pO b128 x126.length x126.length)),.v (.vc (pI .i64 x145)),.v (.vc (pS (bJ cQ) a0)),.v (.vc (pI .i64 x145)),.v (.vc (pM ((bJ cQ).e v166))),.v (.vc (pS cQ v166)),.v (.vc (pI .i64 x108)),.v (.vc (pM (cQ.e v168))),.v (.va (eQ v168)),.v (.vc (pE b128 x145 cQ.n 0))] aU ⟨d0 (gV (off:=0) (k:=0) rfl tyF92_0) zU1,d0 (gC 0 1 rfl rfl rfl rfl (.one tyO24)) zU1,d0 (aL (.inl rfl)) zU1,d0 (aL (.inl rfl)) zU1,d0 (aL (.inl rfl)) zU1,d0 (zS rfl tyS23 h167) zU2,d0 (x0 1 rfl rfl (.one tyO24)) zU1,d0 (aL (.inl rfl)) zU1,d0 (zS rfl tyS24 h169) zU2,d0 (x0 4 rfl rfl (.agg tyA42)) zU1,d0 (cY (C:=cQ) 1 rfl tyS24 rfl q143 (aD h171).1 (aD h171).2.1) zU2,trivial⟩ (fun bs165 G164=>?_)
     obtain⟨x172,h173,hF⟩:=aM hF
     refine mD (yM 1 rfl rfl h171 h173 tyA42.s) zU2 ?_
     refine aT (aCz (aJ (aH ?_)))
     obtain⟨v175,h176,hF⟩:=aM hF
     refine aI (yK rfl h176) ⟨rfl,qM _ _,trivial⟩ ?_
     refine dS ?_
     refine aT ?_
     exact aF (fun a w hh=>⟨x172,v175,hF,(bC h173 q143),zL [0,1,2,3,4] rfl (by decide) (by exact⟨rfl,rfl,rfl,rfl,rfl,rfl,rfl,rfl,rfl,trivial⟩) hh⟩)
    have hF:=tU h163 hF
    refine aV ?_
    obtain rfl:=eP hF
    exact aEd Jj153 ⟨x139,hRl152,q143,rfl,rfl⟩ [0,1,2,3,4] rfl ⟨rfl,rfl,rfl,rfl,rfl,rfl,trivial⟩
   have hF:=tU h125 hF
   refine aV ?_
   obtain rfl:=eP hF
   exact aEd Jj116 ⟨x102,b103,c104,n105,hRl115,q106,rfl,rfl⟩ [0,1,2] rfl zU1
  obtain⟨x80',hL,hRl86⟩:=aM hF
  refine cA (fun k a w=>∃(x73:List Rat),∃(x79:Int),∃(b74:Option Nat),∃(c75:Nat),∃(n76:Nat),pV K a1 k x73 x79=some x80'∧x73.length=n76∧hs _ [⟨some b65,1,92,5,1,([pO b74 n76 c75]++(eQ v57))⟩,hO cQ b74 c75 42 n76 x73,⟨some b16,1,90,3,1,([pI .i64 (a1.length:Int)]++[pO b44 n46 c45]++[pO b7 x5.length x5.length])⟩,hO aQ.cod b44 c45 92 n46 x43,hO cQ b7 x5.length 42 x5.length x49] [(0,.vc (pS (bJ cQ) a0)),(6,.vc (pI .i64 (a1.length:Int))),(7,.vc (pP (some b16) 0)),(10,.vc (pP (some b65) 0)),(58,.vc (pI .i64 (a1.length:Int))),(59,.vc (pI .i64 x79))] a w) K (fun a w ⟨_,_,_,_,_,hF,_,_⟩=>by cases hF) (fun k a w ⟨x73,x79,b74,c75,n76,hF,q77,hh⟩=>b0 ?_ hh) (fun a w hh=>⟨([]:List Rat),0,none,0,0,hL,rfl,zL [0,1,2,3,4] rfl (by decide) (by exact⟨rfl,rfl,rfl,rfl,rfl,rfl,trivial⟩) hh⟩)
  rw [pV.eq_2] at hF
  refine aC (aH (aI (aHL rfl) zU2 ?_))
  refine aT (aJ (aC (aGW rfl (fun h177=>?_) (fun h177=>?_))))
  ·have hF:=vK h177 hF
   refine eU (aJ (aC (aG ?_)))
   obtain⟨v180,h181,hF⟩:=aM hF
   refine iQ [0,1,0,4,15,31,63] 4 3 [.v (.vc (pP (some b65) 0)),.v (.vc (pO b74 n76 c75)),.v (.va (eQ v180)),.v (.vc (pS cQ [v180]))] aU ⟨d0 (gV (off:=0) (k:=0) rfl tyF92_0) zU1,d0 (gC 0 1 rfl rfl rfl rfl (.one tyO24)) zU1,d0 (bE rfl (uH h181) rfl) ⟨qM _ _,qM _ _,trivial⟩,d0 (eR (C:=cQ) (xs:=[.tmp 63]) (ps:=[.va (eQ v180)]) (zs:=[v180]) rfl tyS24 rfl ⟨⟨trivial,rfl⟩,trivial⟩ rfl) zU1,trivial⟩ (fun bs179 G178=>?_)
   obtain⟨x182,h183,hF⟩:=aM hF
   refine iK 1 rfl tyS24 rfl rfl q77 rfl rfl h183 (fun b184 c185 H186 e187=>?_)
   cases e187
   refine aI (gV (off:=0) (k:=0) rfl tyF92_0) zU1 ?_
   refine mD (t_s 0 rfl rfl rfl tyO24.s) zU2 ?_
   refine aT (aCz (aJ (aH ?_)))
   obtain⟨v189,h190,hF⟩:=aM hF
   refine aI (yK rfl h190) ⟨rfl,qM _ _,trivial⟩ ?_
   refine dS ?_
   refine aT ?_
   exact aF (fun a w hh=>⟨x182,v189,b184,c185,(n76+[v180].length),hF,(bD h183 q77),zL [0,1,2,3,4] rfl (by decide) (by exact⟨rfl,rfl,rfl,rfl,rfl,rfl,trivial⟩) hh⟩)
  have hF:=tU h177 hF
  refine aV ?_
  obtain rfl:=eP hF
  exact aEd Jj87 ⟨x73,b74,c75,n76,hRl86,q77,rfl,rfl⟩ [0,1,2,3,4] rfl ⟨rfl,rfl,rfl,rfl,trivial⟩
 obtain⟨⟨x43',x49'⟩,hL,hRl55⟩:=aM hF
 refine cA (fun k a w=>∃(x30:List aQ),∃(x36:List Rat),∃(x42:Int),∃(b31:Option Nat),∃(c32:Nat),∃(n33:Nat),pU K a1 k x30 x36 x42=some (x43',x49')∧x30.length=n33∧x36.length=x5.length∧hs _ [⟨some b16,1,90,3,1,([pI .i64 (a1.length:Int)]++[pO b31 n33 c32]++[pO b7 x5.length x5.length])⟩,hO aQ.cod b31 c32 92 n33 x30,hO cQ b7 x5.length 42 x5.length x36] [(0,.vc (pS (bJ cQ) a0)),(1,.vc (pS cQ a1)),(6,.vc (pI .i64 (a1.length:Int))),(7,.vc (pP (some b16) 0)),(28,.vc (pI .i64 (a1.length:Int))),(29,.vc (pI .i64 x42))] a w) K (fun a w ⟨_,_,_,_,_,_,hF,_,_,_⟩=>by cases hF) (fun k a w ⟨x30,x36,x42,b31,c32,n33,hF,q34,q40,hh⟩=>b0 ?_ hh) (fun a w hh=>⟨([]:List aQ),x5,0,none,0,0,hL,rfl,rfl,zL [0,1,2] rfl (by decide) (by exact⟨rfl,rfl,rfl,rfl,rfl,rfl,trivial⟩) hh⟩)
 rw [pU.eq_2] at hF
 refine aC (aH (aI (aHL rfl) zU2 ?_))
 refine aT (aJ (aC (aGW rfl (fun h191=>?_) (fun h191=>?_))))
 ·have hF:=vK h191 hF
  refine eU (aJ (aC (aG (aC (aH (dS ?_))))))
  refine zP ?_
  refine aT (aJ (aC ?_))
  obtain⟨v194,h195,hF⟩:=aM hF
  obtain⟨v196,h197,hF⟩:=aM hF
  obtain⟨v198,h199,hF⟩:=aM hF
  refine iQ [0,1,0,0,0,24,56,120,255,511] 9 1 [.v (.vc (pP (some b16) 2)),.v (.vc (pO b7 x5.length x5.length)),.v (.vc (pI .i64 x42)),.v (.vc (pS cQ a1)),.v (.vc (pI .i64 x42)),.v (.vc (pM (cQ.e v194))),.v (.va (eQ v194)),.v (.va (eQ v196)),.v (.vc (pE b7 x42 cQ.n 0))] aU ⟨d0 (gV (off:=0) (k:=2) rfl tyF90_2) zU1,d0 (gC 0 1 rfl rfl rfl rfl (.one tyO24)) zU1,d0 (aL (.inl rfl)) zU1,d0 (aL (.inl rfl)) zU1,d0 (aL (.inl rfl)) zU1,d0 (zS rfl tyS24 h195) zU2,d0 (x0 4 rfl rfl (.agg tyA42)) zU1,d0 (bE rfl (wK h197) rfl) zU1,d0 (cY (C:=cQ) 2 rfl tyS24 rfl q40 (aD h199).1 (aD h199).2.1) zU2,trivial⟩ (fun bs193 G192=>?_)
  obtain⟨x200,h201,hF⟩:=aM hF
  refine mD (yM 2 rfl rfl h199 h201 tyA42.s) zU2 ?_
  refine aT (aJ (aC (aH (dS ?_))))
  obtain⟨x203,h204,hF⟩:=aM hF
  refine nN (C:=cQ) rfl tyS24 rfl tyZ42q rfl h204 (fun b205=>?_)
  refine aI (gU (is:=[0]) (xs:=[.tmp 42]) (ps:=[.vc (pO b205 x203.length x203.length)]) rfl tyB92q rfl rfl ⟨trivial,trivial⟩ rfl) zU1 ?_
  refine aN rfl tyZ92q (fun b208=>?_)
  refine mD (t_s 0 rfl rfl rfl tyA92.s) zU2 ?_
  refine aT (aJ (aC ?_))
  obtain⟨v211,h212,hF⟩:=aM hF
  obtain⟨v213,h214,hF⟩:=aM hF
  refine iQ [0,1,0,0,15,31] 5 1 [.v (.vc (pP (some b208) 0)),.v (.vc (pO b205 x203.length x203.length)),.v (.vc (pI .i64 x42)),.v (.va (eQ v211)),.v (.vc (pE b205 x42 cQ.n 0))] aU ⟨d0 (gV (off:=0) (k:=0) rfl tyF92_0) zU1,d0 (gC 0 1 rfl rfl rfl rfl (.one tyO24)) zU1,d0 (aL (.inl rfl)) zU1,d0 (bE rfl (uH h212) rfl) ⟨qM _ _,qM _ _,trivial⟩,d0 (cY (C:=cQ) 1 rfl tyS24 rfl rfl (aD h214).1 (aD h214).2.1) zU2,trivial⟩ (fun bs210 G209=>?_)
  obtain⟨x215,h216,hF⟩:=aM hF
  refine mD (yM 1 rfl rfl h214 h216 tyA42.s) zU2 ?_
  refine aT (aJ (aH (aI (gV (off:=0) (k:=1) rfl tyF90_1) zU1 ?_)))
  refine aI (gC 2 1 rfl rfl rfl rfl (.one tyO88)) zU1 ?_
  refine aRi 1 0 0 [42,45] rfl (bC h216 rfl) rfl rfl rfl rfl rfl zU2 ?_
  refine aI (gC 0 5 rfl rfl rfl rfl (.agg tyA92)) zU1 ?_
  refine aI (eR (C:=aQ.cod) (xs:=[.tmp 51]) (ps:=[.va ([pS cQ x215]++(eQ 0))]) (zs:=[(⟨x215,0⟩:aQ)]) rfl tyS88 rfl ⟨⟨trivial,rfl⟩,trivial⟩ rfl) zU1 ?_
  obtain⟨x218,h219,hF⟩:=aM hF
  refine iK 2 rfl tyS88 rfl rfl q34 rfl rfl h219 (fun b220 c221 H222 e223=>?_)
  cases e223
  refine aI (gV (off:=0) (k:=1) rfl tyF90_1) zU1 ?_
  refine mD (t_s 1 rfl rfl rfl tyO88.s) zU2 ?_
  refine aT (aCz (aJ (aH ?_)))
  obtain⟨v225,h226,hF⟩:=aM hF
  refine aI (yK rfl h226) ⟨rfl,qM _ _,trivial⟩ ?_
  refine dS ?_
  refine aT ?_
  exact aF (fun a w hh=>⟨x218,x200,v225,b220,c221,(n33+[(⟨x215,0⟩:aQ)].length),hF,(bD h219 q34),(bC h201 q40),zL [1,2,3] rfl (by decide) (by exact⟨rfl,rfl,rfl,rfl,rfl,rfl,trivial⟩) hh⟩)
 have hF:=tU h191 hF
 refine aV ?_
 obtain⟨rfl,rfl⟩:=sm2 hF
 exact aEd Jj56 ⟨x30,x36,b31,c32,n33,hRl55,q34,q40,rfl,rfl⟩ [0,1,2] rfl ⟨rfl,rfl,rfl,trivial⟩
def tL (K:Nat) (a1:List Rat) (a2:List Rat):Option Bool:=
 (zI K a1 a2).bind fun v15=>(xD v15).bind fun v17=>some (decide (v17<0))
def tM (K:Nat) (x12:Int) (recl13:Int→Option (LR Bool Unit)) (x25:Rat):Option (LR Bool Unit):=
 (xD x25).bind fun v28=>bif(decide (0<v28)) then(some (.ret false)) else((aS (x12+1)).bind fun v31=>recl13 v31)
def oS (K:Nat) (a0:List (List Rat)) (a1:List Rat) (a2:List Rat) (x12:Int):Nat→Rat→Int→Option Rat
 |0,_,_=>none
 |k+1,x23,x24=>bif(decide (x24<(a1.length:Int))) then((bF a2 x24).bind fun v36=>(bF a0 x24).bind fun v38=>(bF v38 x12).bind fun v40=>(aEr v36 v40).bind fun v42=>(aFc x23 v42).bind fun v44=>(aS (x24+1)).bind fun v46=>oS K a0 a1 a2 x12 k v44 v46) else(some x23)
def lM (K:Nat) (a0:List (List Rat)) (a1:List Rat) (a2:List Rat):Nat→Int→Option (LR Bool Unit)
 |0,_=>none
 |k+1,x12=>bif(decide (x12<(a1.length:Int))) then((oS K a0 a1 a2 x12 K 0 0).bind fun x25=>tM K x12 (lM K a0 a1 a2 k) x25) else(some (.go ()))
def wJ (K:Nat) (a0:List (List Rat)) (a1:List Rat) (a2:List Rat):Option Bool:=
 (dC K a0 a1).bind fun v1=>bif(!v1) then(some false) else(bif((a2.length:Int) != (a1.length:Int)) then(some false) else((lC K a2).bind fun v5=>bif(!v5) then(some false) else((gX K a2).bind fun v8=>bif v8 then(some false) else((lM K a0 a1 a2 K 0).bind fun o=>match o with| .ret r=>some r| .go _=>tL K a1 a2))))
theorem aCg {K:Nat} {a0:List (List Rat)} {a1:List Rat} {a2:List Rat} {r:Bool} (hF:wJ K a0 a1 a2=some r):Ct Tryz.prog 31 [.vc (pS (bJ cQ) a0),.vc (pS cQ a1),.vc (pS cQ a2)] (.vc (pB r)):=by
 unfold wJ at hF
 refine aA Tryz.func31 rfl (by kernel_rfl) Tryz.ntmps31 rfl (fun w0 M0=>?_)
 obtain⟨v1,h2,hF⟩:=aW hF qP
 refine go ?_ ?_
 refine cC hF (fun h3 hF=>?_) (fun h3 hF=>?_)
 ·refine go ?_ ?_
  refine fV rfl ?_
  exact bI
 refine go ?_ ?_
 refine cC hF (fun h4 hF=>?_) (fun h4 hF=>?_)
 ·refine go ?_ ?_
  refine fV rfl ?_
  exact bI
 obtain⟨v5,h6,hF⟩:=aW hF uT
 refine go ?_ ?_
 refine cC hF (fun h7 hF=>?_) (fun h7 hF=>?_)
 ·refine go ?_ ?_
  refine fV rfl ?_
  exact bI
 obtain⟨v8,h9,hF⟩:=aW hF qZ
 refine go ?_ ?_
 refine aB hF rfl (fun h10 hF=>?_) (fun h10 hF=>?_)
 ·exact bI
 refine go ?_ ?_
 refine aG (aP (fun H E=>tL K a1 a2=some r∧H=[]∧E=[(1,.vc (pS cQ a1)),(2,.vc (pS cQ a2))]) ?_ (fun Jj14=>?_))
 ·rintro _ _ ⟨hF,rfl,rfl⟩
  unfold tL at hF
  obtain⟨v15,h16,hF⟩:=aW hF aDT
  obtain⟨v17,h18,hF⟩:=aW hF eS
  exact bI
 obtain⟨ol13,hL,hRl13⟩:=aM hF
 refine cA (fun k a w=>∃(x12:Int),lM K a0 a1 a2 k x12=some ol13∧hs _ [] [(0,.vc (pS (bJ cQ) a0)),(1,.vc (pS cQ a1)),(2,.vc (pS cQ a2)),(31,.vc (pI .i64 (a1.length:Int))),(32,.vc (pI .i64 x12))] a w) K (fun a w ⟨_,hF,_⟩=>by cases hF) (fun k a w ⟨x12,hF,hh⟩=>b0 ?_ hh) (fun a w hh=>⟨0,hL,dI [] hh⟩)
 rw [lM.eq_2] at hF
 refine go ?_ ?_
 refine aB hF rfl (fun h19 hF=>?_) (fun h19 hF=>?_)
 ·refine go ?_ ?_
  refine aG (go ?_ ?_)
  refine aI (gU (is:=[]) (xs:=[]) (ps:=[]) rfl tyB42q rfl rfl trivial rfl) trivial ?_
  refine aN rfl tyZ42q (fun b20=>?_)
  refine go ?_ ?_
  refine aG (aP (fun H E=>∃(x25:Rat),tM K x12 (lM K a0 a1 a2 k) x25=some ol13∧H=[⟨some b20,1,42,4,1,(eQ x25)⟩]∧E=[(0,.vc (pS (bJ cQ) a0)),(1,.vc (pS cQ a1)),(2,.vc (pS cQ a2)),(8,.vc (pP (some b20) 0)),(31,.vc (pI .i64 (a1.length:Int))),(32,.vc (pI .i64 x12))]) ?_ (fun Jj27=>?_))
  ·rintro _ _ ⟨x25,hF,rfl,rfl⟩
   unfold tM at hF
   obtain⟨v28,h29,hF⟩:=aW hF eS
   refine go ?_ ?_
   refine aB hF rfl (fun h30 hF=>?_) (fun h30 hF=>?_)
   ·exact bI
   obtain⟨v31,h32,hF⟩:=aM hF
   refine go ?_ ?_
   exact aF (fun a w hh=>⟨v31,hF,dI [] hh⟩)
  obtain⟨x25',hL,hRl26⟩:=aM hF
  refine cA (fun k a w=>∃(x23:Rat),∃(x24:Int),oS K a0 a1 a2 x12 k x23 x24=some x25'∧hs _ [⟨some b20,1,42,4,1,(eQ x23)⟩] [(0,.vc (pS (bJ cQ) a0)),(1,.vc (pS cQ a1)),(2,.vc (pS cQ a2)),(7,.vc (pI .i64 x12)),(8,.vc (pP (some b20) 0)),(31,.vc (pI .i64 (a1.length:Int))),(32,.vc (pI .i64 x12)),(37,.vc (pI .i64 (a1.length:Int))),(38,.vc (pI .i64 x24))] a w) K (fun a w ⟨_,_,hF,_⟩=>by cases hF) (fun k a w ⟨x23,x24,hF,hh⟩=>b0 ?_ hh) (fun a w hh=>⟨0,0,hL,dI [0] hh⟩)
  rw [oS.eq_2] at hF
  refine go ?_ ?_
  refine aB hF rfl (fun h33 hF=>?_) (fun h33 hF=>?_)
  ·refine go ?_ ?_
   refine aG ?_
   obtain⟨v36,h37,v38,h39,v40,h41,hF⟩:=bn3 hF
   obtain⟨v42,h43,hF⟩:=aW hF xR
   obtain⟨v44,h45,hF⟩:=aW hF aDL
   refine go ?_ ?_
   refine dr [0,0,0,6,14,0,0,96,224,0,992,2016,4094,8191,16383] 14 1 ?_ (fun bs35 G34=>?_)
   obtain⟨v46,h47,hF⟩:=aM hF
   refine go ?_ ?_
   exact aF (fun a w hh=>⟨v44,v46,hF,dI [0] hh⟩)
  refine aV ?_
  obtain rfl:=eP hF
  exact nK Jj27 ⟨x23,hRl26,rfl,rfl⟩ [0]
 refine aV ?_
 obtain rfl:=eP hF
 exact nK Jj14 ⟨hRl13,rfl,rfl⟩ []
def aAA (K:Nat) (x4:Int) (x8:List Bool):Nat→(List Bool)→Int→Option (List Bool)
 |0,_,_=>none
 |k+1,x20,x26=>bif(decide (x26<(x8.length:Int))) then((aNQ x4 x26).bind fun v41=>(bF x20 x26).bind fun v43=>(qL x20 x26 ((ian v41 1)==1)).bind fun x45=>(aS (x26+1)).bind fun v48=>aAA K x4 x8 k x45 v48) else(some x20)
def tN (a0:List (List Rat)):Option Int:=
 bif((a0.length:Int)==0) then(some 0) else((bF a0 0).bind fun v2=>some (v2.length:Int))
theorem aAP {a0:List (List Rat)} {r:Int} (hF:tN a0=some r):Ct Tryz.prog 82 [.vc (pS (bJ cQ) a0)] (.vc (pI .i64 r)):=by
 unfold tN at hF
 refine aA Tryz.func82 rfl (by kernel_rfl) Tryz.ntmps82 rfl (fun w0 M0=>?_)
 refine go ?_ ?_
 refine aB hF rfl (fun h1 hF=>?_) (fun h1 hF=>?_)
 ·exact bI
 obtain⟨v2,h3,hF⟩:=aM hF
 exact bI
def kA (K:Nat):Option Int:=
 some (-1)
def bW (K:Nat) (a0:List (List Rat)) (a1:((List Rat)→Option Bool)):Nat→Int→Option (LR Int Unit)
 |0,_=>none
 |k+1,x2=>bif(decide (x2<(a0.length:Int))) then((bF a0 x2).bind fun v6=>(a1 v6).bind fun v8=>bif v8 then(some (.ret x2)) else((aS (x2+1)).bind fun v11=>bW K a0 a1 k v11)) else(some (.go ()))
def fL (K:Nat) (a0:List (List Rat)) (a1:((List Rat)→Option Bool)):Option Int:=
 (bW K a0 a1 K 0).bind fun o=>match o with| .ret r=>some r| .go _=>kA K
theorem xF {K:Nat} {a0:List (List Rat)} {a1:((List Rat)→Option Bool)} {r:Int} (hF:fL K a0 a1=some r):Ct Tryz.prog 160 [.vc (pS (bJ cQ) a0),.vc (pFn Tryz.prog (fun x:(List Rat)=>[.vc (pS cQ x)]) (fun r:Bool=>.vc (pB r)) a1)] (.vc (pI .i64 r)):=by
 unfold fL at hF
 refine aA Tryz.func160 rfl (by kernel_rfl) Tryz.ntmps160 rfl (fun w0 M0=>?_)
 refine go ?_ ?_
 refine aG (aP (fun H E=>kA K=some r∧H=[]∧E=[]) ?_ (fun Jj4=>?_))
 ·rintro _ _ ⟨hF,rfl,rfl⟩
  unfold kA at hF
  exact bI
 obtain⟨ol3,hL,hRl3⟩:=aM hF
 refine cA (fun k a w=>∃(x2:Int),bW K a0 a1 k x2=some ol3∧hs _ [] [(0,.vc (pS (bJ cQ) a0)),(1,.vc (pFn Tryz.prog (fun x:(List Rat)=>[.vc (pS cQ x)]) (fun r:Bool=>.vc (pB r)) a1)),(7,.vc (pI .i64 (a0.length:Int))),(8,.vc (pI .i64 x2))] a w) K (fun a w ⟨_,hF,_⟩=>by cases hF) (fun k a w ⟨x2,hF,hh⟩=>b0 ?_ hh) (fun a w hh=>⟨0,hL,dI [] hh⟩)
 rw [bW.eq_2] at hF
 refine go ?_ ?_
 refine aB hF rfl (fun h5 hF=>?_) (fun h5 hF=>?_)
 ·refine go ?_ ?_
  refine aG ?_
  obtain⟨v6,h7,v8,h9,hF⟩:=tW hF
  refine go ?_ ?_
  refine aI (aEC (pre:=fun x:(List Rat)=>[.vc (pS cQ x)]) (post:=fun r:Bool=>.vc (pB r)) (x:=v6) (r:=v8) rfl h9 rfl) zU2 ?_
  refine aT (aJ (aB hF rfl (fun h10 hF=>?_) (fun h10 hF=>?_)))
  ·exact bI
  obtain⟨v11,h12,hF⟩:=aM hF
  refine go ?_ ?_
  exact aF (fun a w hh=>⟨v11,hF,dI [] hh⟩)
 refine aV ?_
 obtain rfl:=eP hF
 exact nK Jj4 ⟨hRl3,rfl,rfl⟩ []
def nD (K:Nat) (a0:List (List Rat)) (a1:((List Rat)→Option Bool)):Option Bool:=
 (fL K a0 a1).bind fun v1=>some (decide (0≤v1))
theorem aAo {K:Nat} {a0:List (List Rat)} {a1:((List Rat)→Option Bool)} {r:Bool} (hF:nD K a0 a1=some r):Ct Tryz.prog 129 [.vc (pS (bJ cQ) a0),.vc (pFn Tryz.prog (fun x:(List Rat)=>[.vc (pS cQ x)]) (fun r:Bool=>.vc (pB r)) a1)] (.vc (pB r)):=by
 unfold nD at hF
 refine aA Tryz.func129 rfl (by kernel_rfl) Tryz.ntmps129 rfl (fun w0 M0=>?_)
 obtain⟨v1,h2,hF⟩:=aW hF xF
 exact bI
def rM (c0:List (List Rat)) (a0:List Rat):Option Bool:=
 (bF c0 0).bind fun v1=>some ((a0.length:Int) != (v1.length:Int))
theorem aD9 {c0:List (List Rat)} {a0:List Rat} {r:Bool} (hF:rM c0 a0=some r):Ct Tryz.prog 130 [.vc (pS cQ a0),.vc (pM ((bJ (bJ cQ)).e c0))] (.vc (pB r)):=by
 unfold rM at hF
 refine aA Tryz.func130 rfl (by kernel_rfl) Tryz.ntmps130 rfl (fun w0 M0=>?_)
 obtain⟨v1,h2,hF⟩:=aM hF
 exact bI
def uE (K:Nat) (a0:List (List Rat)):Option Bool:=
 bif(decide ((a0.length:Int)≤64)) then((tN a0).bind fun v3=>bif(decide (v3≤64)) then((nD K a0 (rM a0)).bind fun v6=>some (!v6)) else(some false)) else(some false)
theorem aB1 {K:Nat} {a0:List (List Rat)} {r:Bool} (hF:uE K a0=some r):Ct Tryz.prog 80 [.vc (pS (bJ cQ) a0)] (.vc (pB r)):=by
 unfold uE at hF
 refine aA Tryz.func80 rfl (by kernel_rfl) Tryz.ntmps80 rfl (fun w0 M0=>?_)
 refine aC (aH (bV rfl rfl trivial (fun b1=>?_)))
 refine go ?_ ?_
 refine cC hF (fun h2 hF=>?_) (fun h2 hF=>?_)
 ·obtain⟨v3,h4,hF⟩:=aW hF aAP
  refine go ?_ ?_
  refine cC hF (fun h5 hF=>?_) (fun h5 hF=>?_)
  ·refine w8 (gC 0 1 rfl rfl rfl rfl (.one tyO23)) zU1 ?_
   refine aFV 0 [(1,0)] rfl zU1 rfl ?_
   refine w8 (aJf (φ:=(rM a0)) (pre:=fun x:(List Rat)=>[.vc (pS cQ x)]) (post:=fun r:Bool=>.vc (pB r)) (xs:=[.tmp 1]) (cs:=[pM ((bJ (bJ cQ)).e a0)]) rfl rfl (fun x r h=>aD9 h)) zU1 ?_
   obtain⟨v6,h7,hF⟩:=aW hF aAo
   exact bI
  exact bI
 exact bI
def sB (K:Nat) (c0:((List Nat×List (List Rat))×List Int×Rat)) (x54:List Nat) (x60:List (List Rat)):Option ((List Nat×List (List Rat))×List Int×Rat):=
 some ((x54,x60),c0.2.1,c0.2.2)
def gZ (K:Nat) (a0:Int) (a1:Int) (v22:Rat):Nat→(List Nat)→(List (List Rat))→Int→Option ((List Nat)×(List (List Rat)))
 |0,_,_,_=>none
 |k+1,x41,x47,x53=>(bF x41 a0).bind fun v68=>bif(decide (x53<((x47.getD v68 []).length:Int))) then((bF x41 a1).bind fun v71=>(bF (x47.getD v71 []) x53).bind fun v73=>(xD v73).bind fun v75=>bif(v75 != 0) then((bF x41 a0).bind fun v80=>(bF x41 a0).bind fun v82=>(bF (x47.getD v82 []) x53).bind fun v84=>(bF x41 a1).bind fun v86=>(bF (x47.getD v86 []) x53).bind fun v88=>(aEr v22 v88).bind fun v90=>(aGr v84 v90).bind fun v92=>(bF (x47.getD v80 []) x53).bind fun v94=>(qL (x47.getD v80 []) x53 v92).bind fun x96=>(aS (x53+1)).bind fun v99=>gZ K a0 a1 v22 k x41 (x47.set v80 x96) v99) else((aS (x53+1)).bind fun v101=>gZ K a0 a1 v22 k x41 x47 v101)) else(some (x41,x47))
def p7 (K:Nat) (c0:((List Nat×List (List Rat))×List Int×Rat)) (a0:Int) (a1:Int) (a2:Int):Option ((List Nat×List (List Rat))×List Int×Rat):=
 (bF c0.1.1 a0).bind fun v20=>(bF (c0.1.2.getD v20 []) a2).bind fun v22=>(xD v22).bind fun v25=>bif(v25==0) then(some ((c0.1.1,c0.1.2),c0.2.1,c0.2.2)) else((gZ K a0 a1 v22 K c0.1.1 c0.1.2 a2).bind fun(x54,x60)=>sB K c0 x54 x60)
theorem aDm {K:Nat} {c0:((List Nat×List (List Rat))×List Int×Rat)} {a0:Int} {a1:Int} {a2:Int} {r:((List Nat×List (List Rat))×List Int×Rat)} (hF:p7 K c0 a0 a1 a2=some r) {p0:Nat} {b5:Option Nat} {c6 n4:Nat} {g3:List rK} {N9:Nat} (q7:c0.1.1.length=n4) (q10:c0.1.2.length=N9) (q11:cJ g3 c0.1.2) (q12:(∀k∈c0.1.1,k<N9)) {b16:Option Nat} {c17 n15:Nat} (q18:c0.2.1.length=n15):CtO Tryz.prog 166 ([⟨some p0,1,139,6,1,([pO b5 n4 c6]++[pO b16 n15 c17]++(eQ c0.2.2))⟩,hO (cH g3) b5 c6 24 n4 c0.1.1,hO cI b16 c17 3 n15 c0.2.1]++eD cQ 42 g3 c0.1.2) [.vc (pI .i64 a0),.vc (pI .i64 a1),.vc (pI .i64 a2),.vc (pP (some p0) 0)] (fun Ho q=>∃b107 c108 n106 g105 N111,∃b118 c119 n117,r.1.1.length=n106∧r.1.2.length=N111∧cJ g105 r.1.2∧(∀k∈r.1.1,k<N111)∧r.2.1.length=n117∧Ho=([⟨some p0,1,139,6,1,([pO b107 n106 c108]++[pO b118 n117 c119]++(eQ r.2.2))⟩,hO (cH g105) b107 c108 24 n106 r.1.1,hO cI b118 c119 3 n117 r.2.1]++eD cQ 42 g105 r.1.2)∧q=.any):=by
 unfold p7 at hF
 refine aA Tryz.func166 rfl (by kernel_rfl) Tryz.ntmps166 rfl (fun w0 M0=>?_)
 obtain⟨v20,h21,v22,h23,hF⟩:=tW hF
 refine go ?_ ?_
 refine aI (cY (3+v20) rfl tyS24 (rV 3 rfl q11 q10 (q12 _ (aO h21))) (cR q11 q10 (q12 _ (aO h21))) (aD h23).1 (aD h23).2.1) zU2 ?_
 refine aI (iD (k:=4) (3+v20) rfl (rV 3 rfl q11 q10 (q12 _ (aO h21))) h23 rfl (.agg tyA42) rfl) zU1 ?_
 refine aN rfl tyZ42q (fun b24=>?_)
 obtain⟨v25,h26,hF⟩:=aW hF eS
 refine go ?_ ?_
 refine aB hF rfl (fun h27 hF=>?_) (fun h27 hF=>?_)
 ·refine dQ (dL ?_)
  obtain rfl:=eP hF
  exact jT (.inl rfl) Tryz.results166 .nil rfl 4 [1,2,3] rfl rfl (by decide) ⟨b5,c6,n4,g3,N9,b16,c17,n15,q7,q10,q11,q12,q18,rfl,rfl⟩
 refine go ?_ ?_
 refine aG (aP (fun H E=>∃(x54:List Nat),∃(x60:List (List Rat)),∃(b55:Option Nat),∃(c56:Nat),∃(n57:Nat),∃(g61:List rK),∃(N62:Nat),sB K c0 x54 x60=some r∧x54.length=n57∧x60.length=N62∧cJ g61 x60∧(∀k∈x54,k<N62)∧H=([⟨some p0,1,139,6,1,([pO b55 n57 c56]++[pO b16 n15 c17]++(eQ c0.2.2))⟩,hO (cH g61) b55 c56 24 n57 x54,hO cI b16 c17 3 n15 c0.2.1]++eD cQ 42 g61 x60)∧E=[(3,.vc (pP (some p0) 0))]) ?_ (fun Jj67=>?_))
 ·rintro _ _ ⟨x54,x60,b55,c56,n57,g61,N62,hF,q58,q63,q64,q65,rfl,rfl⟩
  unfold sB at hF
  obtain rfl:=eP hF
  exact jT (.inr rfl) Tryz.results166 .nil rfl 3 [0,1,2] rfl rfl (by decide) ⟨b55,c56,n57,g61,N62,b16,c17,n15,q58,q63,q64,q65,q18,rfl,rfl⟩
 obtain⟨⟨x54',x60'⟩,hL,hRl66⟩:=aM hF
 refine cA (fun k a w=>∃(x41:List Nat),∃(x47:List (List Rat)),∃(x53:Int),∃(b42:Option Nat),∃(c43:Nat),∃(n44:Nat),∃(g48:List rK),∃(N49:Nat),gZ K a0 a1 v22 k x41 x47 x53=some (x54',x60')∧x41.length=n44∧x47.length=N49∧cJ g48 x47∧(∀k∈x41,k<N49)∧hs _ ([⟨some b24,1,42,4,1,(eQ v22)⟩,⟨some p0,1,139,6,1,([pO b42 n44 c43]++[pO b16 n15 c17]++(eQ c0.2.2))⟩,hO (cH g48) b42 c43 24 n44 x41,hO cI b16 c17 3 n15 c0.2.1]++eD cQ 42 g48 x47) [(0,.vc (pI .i64 a0)),(1,.vc (pI .i64 a1)),(3,.vc (pP (some p0) 0)),(7,.vc (pP (some b24) 0)),(8,.vc (pI .i64 x53))] a w) K (fun a w ⟨_,_,_,_,_,_,_,_,hF,_,_,_,_,_⟩=>by cases hF) (fun k a w ⟨x41,x47,x53,b42,c43,n44,g48,N49,hF,q45,q50,q51,q52,hh⟩=>b0 ?_ hh) (fun a w hh=>⟨c0.1.1,c0.1.2,a2,b5,c6,n4,g3,N9,hL,q7,q10,q11,q12,aR 4 [0,1,2,3] rfl rfl (by decide) (by exact⟨rfl,rfl,rfl,rfl,rfl,trivial⟩) hh⟩)
 rw [gZ.eq_2] at hF
 obtain⟨v68,h69,hF⟩:=aM hF
 refine go ?_ ?_
 refine aI (aB3 (C:=cQ) (xs:=(x47.getD v68 [])) (T:=42) rfl tyS24 (cR q51 q50 (q52 _ (aO h69)))) zU1 ?_
 refine go ?_ ?_
 refine aB hF rfl (fun h70 hF=>?_) (fun h70 hF=>?_)
 ·refine go ?_ ?_
  refine aG ?_
  obtain⟨v71,h72,v73,h74,hF⟩:=tW hF
  refine go ?_ ?_
  refine aI (cY (4+v71) rfl tyS24 (rV 4 rfl q51 q50 (q52 _ (aO h72))) (cR q51 q50 (q52 _ (aO h72))) (aD h74).1 (aD h74).2.1) zU2 ?_
  refine aI (iD (k:=4) (4+v71) rfl (rV 4 rfl q51 q50 (q52 _ (aO h72))) h74 rfl (.agg tyA42) rfl) zU1 ?_
  obtain⟨v75,h76,hF⟩:=aW hF eS
  refine go ?_ ?_
  refine aB hF rfl (fun h77 hF=>?_) (fun h77 hF=>?_)
  ·have hF:=tJ h69 hF
   have hF:=tJ h69 hF
   obtain⟨v84,h85,hF⟩:=aM hF
   have hF:=tJ h72 hF
   have hF:=tJ h74 hF
   obtain⟨v90,h91,hF⟩:=aW hF xR
   obtain⟨v92,h93,hF⟩:=aW hF zD
   have hF:=tJ h85 hF
   refine iQ (0::1::0::7::15::0::0::64::0::448::960::0::4032::8128::0::0::32768::0::229376::491520::0::2064384::4161536::8372224::16777152::33554431::67108863::[]) 26 1 (.v (.vc (pP (some p0) 0))::.v (.vc (pO b42 n44 c43))::.v (.vc (pI .i64 a0))::.v (.vc (pE b42 a0 (cH g48).n 0))::.v (.vc (pO (gA g48 v68).1 (gA g48 v68).2.1 (gA g48 v68).2.2))::.v (.vc (pI .i64 x53))::.v (.vc (pP (some p0) 0))::.v (.vc (pO b42 n44 c43))::.v (.vc (pI .i64 a0))::.v (.vc (pE b42 a0 (cH g48).n 0))::.v (.vc (pO (gA g48 v68).1 (gA g48 v68).2.1 (gA g48 v68).2.2))::.v (.vc (pI .i64 x53))::.v (.vc (pE (gA g48 v68).1 x53 cQ.n 0))::.v (.va (eQ v84))::.v (.va (eQ v22))::.v (.vc (pP (some p0) 0))::.v (.vc (pO b42 n44 c43))::.v (.vc (pI .i64 a1))::.v (.vc (pE b42 a1 (cH g48).n 0))::.v (.vc (pO (gA g48 v71).1 (gA g48 v71).2.1 (gA g48 v71).2.2))::.v (.vc (pI .i64 x53))::.v (.vc (pE (gA g48 v71).1 x53 cQ.n 0))::.v (.va (eQ v73))::.v (.va (eQ v90))::.v (.va (eQ v92))::.v (.vc (pE (gA g48 v68).1 x53 cQ.n 0))::[]) aU ⟨d0 (gV (off:=0) (k:=0) rfl tyF139_0) zU1,d0 (gC 1 1 rfl rfl rfl rfl (.one tyO23)) zU1,d0 (aL (.inl rfl)) zU1,d0 (cY (C:=(cH g48)) 2 rfl tyS23 rfl q45 (aD h69).1 (aD h69).2.1) zU2,d0 (iD (C:=(cH g48)) (k:=1) 2 rfl rfl h69 rfl (.one tyO24) rfl) zU1,d0 (aL (.inl rfl)) zU1,d0 (gV (off:=0) (k:=0) rfl tyF139_0) zU1,d0 (gC 1 1 rfl rfl rfl rfl (.one tyO23)) zU1,d0 (aL (.inl rfl)) zU1,d0 (cY (C:=(cH g48)) 2 rfl tyS23 rfl q45 (aD h69).1 (aD h69).2.1) zU2,d0 (iD (C:=(cH g48)) (k:=1) 2 rfl rfl h69 rfl (.one tyO24) rfl) zU1,d0 (aL (.inl rfl)) zU1,d0 (cY (4+v68) rfl tyS24 (gW 4 rfl q51 q50 (q52 _ (aO h69))) (cR q51 q50 (q52 _ (aO h69))) (aD h85).1 (aD h85).2.1) zU2,d0 (iD (k:=4) (4+v68) rfl (gW 4 rfl q51 q50 (q52 _ (aO h69))) h85 rfl (.agg tyA42) rfl) zU1,d0 (gC 0 4 rfl rfl rfl rfl (.agg tyA42)) zU1,d0 (gV (off:=0) (k:=0) rfl tyF139_0) zU1,d0 (gC 1 1 rfl rfl rfl rfl (.one tyO23)) zU1,d0 (aL (.inl rfl)) zU1,d0 (cY (C:=(cH g48)) 2 rfl tyS23 rfl q45 (aD h72).1 (aD h72).2.1) zU2,d0 (iD (C:=(cH g48)) (k:=1) 2 rfl rfl h72 rfl (.one tyO24) rfl) zU1,d0 (aL (.inl rfl)) zU1,d0 (cY (4+v71) rfl tyS24 (gW 4 rfl q51 q50 (q52 _ (aO h72))) (cR q51 q50 (q52 _ (aO h72))) (aD h74).1 (aD h74).2.1) zU2,d0 (iD (k:=4) (4+v71) rfl (gW 4 rfl q51 q50 (q52 _ (aO h72))) h74 rfl (.agg tyA42) rfl) zU1,d0 (bE rfl h91 rfl) zU2,d0 (bE rfl h93 rfl) zU2,d0 (cY (4+v68) rfl tyS24 (gW 4 rfl q51 q50 (q52 _ (aO h69))) (cR q51 q50 (q52 _ (aO h69))) (aD h85).1 (aD h85).2.1) zU2,trivial⟩ (fun bs79 G78=>?_)
   obtain⟨x96,h97,hF⟩:=aM hF
   refine mD (yM (H':=([⟨some b24,1,42,4,1,(eQ v22)⟩,⟨some p0,1,139,6,1,([pO b42 n44 c43]++[pO b16 n15 c17]++(eQ c0.2.2))⟩,hO (cH g48) b42 c43 24 n44 x41,hO cI b16 c17 3 n15 c0.2.1]++eD cQ 42 g48 (x47.set v68 x96))) (4+v68) rfl (rV 4 rfl q51 q50 (q52 _ (aO h69))) h85 h97 tyA42.s (hH:=stN 4 rfl q51 q50 (q52 _ (aO h69)))) zU2 ?_
   obtain⟨v99,h100,hF⟩:=aM hF
   refine go ?_ ?_
   exact aF (fun a w hh=>⟨x41,(x47.set v68 x96),v99,b42,c43,n44,g48,N49,hF,q45,(aBR q50),(aDI q51 q50 (q52 _ (aO h69)) (bC h97 rfl)),q52,aR 4 [0,1,2,3] rfl rfl (by decide) (by exact⟨rfl,rfl,rfl,rfl,rfl,trivial⟩) hh⟩)
  obtain⟨v101,h102,hF⟩:=aM hF
  refine go ?_ ?_
  exact aF (fun a w hh=>⟨x41,x47,v101,b42,c43,n44,g48,N49,hF,q45,q50,q51,q52,aR 4 [0,1,2,3] rfl rfl (by decide) (by exact⟨rfl,rfl,rfl,rfl,rfl,trivial⟩) hh⟩)
 refine aV ?_
 obtain⟨rfl,rfl⟩:=sm2 hF
 exact eJ Jj67 ⟨x41,x47,b42,c43,n44,g48,N49,hRl66,q45,q50,q51,q52,rfl,rfl⟩ 4 [1,2,3] rfl rfl zU1
def lE (c0:Int) (a0:List Rat):Option Bool:=
 (bF a0 c0).bind fun v1=>(xD v1).bind fun v3=>some (v3 != 0)
theorem aD4 {c0:Int} {a0:List Rat} {r:Bool} (hF:lE c0 a0=some r):Ct Tryz.prog 167 [.vc (pS cQ a0),.vc (pM (cI.e c0))] (.vc (pB r)):=by
 unfold lE at hF
 refine aA Tryz.func167 rfl (by kernel_rfl) Tryz.ntmps167 rfl (fun w0 M0=>?_)
 obtain⟨v1,h2,hF⟩:=aM hF
 obtain⟨v3,h4,hF⟩:=aW hF eS
 exact bI
def s8 (K:Nat) (x104:List Int) (x110:List Nat) (x116:List (List Rat)) (x122:Rat):Option mF:=
 some (⟨(w7 x116 x110),x104,x122⟩:mF)
def tF (K:Nat) (x103:Int) (recl123:(List Int)→(List Nat)→(List (List Rat))→Rat→Int→Option ((List Int)×(List Nat)×(List (List Rat))×Rat)) (x238:List Int) (x244:List Nat) (x250:List (List Rat)) (x256:Rat):Option ((List Int)×(List Nat)×(List (List Rat))×Rat):=
 (oG x238 [x103]).bind fun x259=>(aS (x103+1)).bind fun v266=>recl123 x259 x244 x250 x256 v266
def gH (K:Nat) (x84:List Int) (x103:Int) (x184:List Nat):Nat→(List Int)→(List Nat)→(List (List Rat))→Rat→Int→Option ((List Int)×(List Nat)×(List (List Rat))×Rat)
 |0,_,_,_,_,_=>none
 |k+1,x218,x224,x230,x236,x237=>bif(decide (x237<(x184.length:Int))) then(bif(x237 != (x84.length:Int)) then((p7 K ((x224,x230),x218,x236) x237 (x84.length:Int) x103).bind fun v270=>(aS (x237+1)).bind fun v291=>gH K x84 x103 x184 k v270.2.1 v270.1.1 v270.1.2 v270.2.2 v291) else((aS (x237+1)).bind fun v293=>gH K x84 x103 x184 k x218 x224 x230 x236 v293)) else(some (x218,x224,x230,x236))
def sR (K:Nat) (x84:List Int) (x103:Int) (v156:Rat) (recl123:(List Int)→(List Nat)→(List (List Rat))→Rat→Int→Option ((List Int)×(List Nat)×(List (List Rat))×Rat)) (x184:List Nat) (x190:List (List Rat)):Option ((List Int)×(List Nat)×(List (List Rat))×Rat):=
 (gH K x84 x103 x184 K x84 x184 x190 v156 0).bind fun(x238,x244,x250,x256)=>tF K x103 recl123 x238 x244 x250 x256
def kB (K:Nat) (x84:List Int) (v154:Rat):Nat→(List Nat)→(List (List Rat))→Int→Option ((List Nat)×(List (List Rat)))
 |0,_,_,_=>none
 |k+1,x171,x177,x183=>(bF x171 (x84.length:Int)).bind fun v295=>bif(decide (x183<((x177.getD v295 []).length:Int))) then((bF x171 (x84.length:Int)).bind fun v300=>(bF x171 (x84.length:Int)).bind fun v302=>(bF (x177.getD v302 []) x183).bind fun v304=>(aGv v304 v154).bind fun v306=>(bF (x177.getD v300 []) x183).bind fun v308=>(qL (x177.getD v300 []) x183 v306).bind fun x310=>(aS (x183+1)).bind fun v313=>kB K x84 v154 k x171 (x177.set v300 x310) v313) else(some (x171,x177))
def mH (K:Nat) (x84:List Int) (x103:Int) (recl123:(List Int)→(List Nat)→(List (List Rat))→Rat→Int→Option ((List Int)×(List Nat)×(List (List Rat))×Rat)) (x136:List Nat) (x142:List (List Rat)) (x148:Rat):Option ((List Int)×(List Nat)×(List (List Rat))×Rat):=
 (bF x136 (x84.length:Int)).bind fun v152=>(bF (x142.getD v152 []) x103).bind fun v154=>(aEr x148 v154).bind fun v156=>(kB K x84 v154 K x136 x142 x103).bind fun(x184,x190)=>sR K x84 x103 v156 recl123 x184 x190
def cG (K:Nat) (a1:Int):Nat→(List Int)→(List Nat)→(List (List Rat))→Rat→Int→Option ((List Int)×(List Nat)×(List (List Rat))×Rat)
 |0,_,_,_,_,_=>none
 |k+1,x84,x90,x96,x102,x103=>bif(decide (x103<a1)) then((slL (w7 x96 x90) (x84.length:Int) ((w7 x96 x90).length:Int)).bind fun x128=>(fL K x128 (lE x103)).bind fun v130=>bif(decide (v130<0)) then((aS (x103+1)).bind fun v133=>cG K a1 k x84 x90 x96 x102 v133) else(bif(decide (0<v130)) then((aS ((x84.length:Int)+v130)).bind fun v318=>(aS ((x84.length:Int)+v130)).bind fun v320=>(bF x90 v320).bind fun v322=>(bF x90 (x84.length:Int)).bind fun v324=>(bF x90 (x84.length:Int)).bind fun v326=>(qL x90 (x84.length:Int) v322).bind fun x328=>(bF x328 v318).bind fun v331=>(qL x328 v318 v324).bind fun x334=>(aCh x102).bind fun v337=>mH K x84 x103 (cG K a1 k) x334 x96 v337) else(mH K x84 x103 (cG K a1 k) x90 x96 x102))) else(some (x84,x90,x96,x102))
def t6 (K:Nat) (a1:Int) (v2:Rat) (x50:List Nat) (x56:List (List Rat)):Option mF:=
 (cG K a1 K ([]:List Int) x50 x56 v2 0).bind fun(x104,x110,x116,x122)=>s8 K x104 x110 x116 x122
def kW (K:Nat) (a0:List (List Rat)):Nat→(List Nat)→(List (List Rat))→Int→Option ((List Nat)×(List (List Rat)))
 |0,_,_,_=>none
 |k+1,x37,x43,x49=>bif(decide (x49<(a0.length:Int))) then((bF a0 x49).bind fun v340=>(iZ v340).bind fun v344=>(oG x37 [x43.length]).bind fun x353=>(aS (x49+1)).bind fun v360=>kW K a0 k x353 (x43++[v344]) v360) else(some (x37,x43))
def sM (K:Nat) (a0:List (List Rat)) (a1:Int):Option mF:=
 (qof 1 1).bind fun v2=>(kW K a0 K ([]:List Nat) ([]:List (List Rat)) 0).bind fun(x50,x56)=>t6 K a1 v2 x50 x56
theorem aBj {K:Nat} {a0:List (List Rat)} {a1:Int} {r:mF} (hF:sM K a0 a1=some r):Ct Tryz.prog 142 [.vc (pS (bJ cQ) a0),.vc (pI .i64 a1)] (.va (mF.enc r)):=by
 unfold sM at hF
 refine aA Tryz.func142 rfl (by kernel_rfl) Tryz.ntmps142 rfl (fun w0 M0=>?_)
 refine aC (aH (aN rfl tyZ139q (fun b1=>?_)))
 refine aT (aJ (aC (aH ?_)))
 obtain⟨v2,h3,hF⟩:=aW hF uH
 refine aI (bE rfl h3 rfl) ⟨qM _ _,qM _ _,trivial⟩ ?_
 refine aFF cQ 42 ?_
 refine aBa (cH ([]:List rK)) 24 ?_
 refine aBa cI 3 ?_
 refine aI (gU (is:=[2]) (xs:=[.tmp 15]) (ps:=[.va (eQ v2)]) rfl tyB139_o0_o1q rfl rfl ⟨trivial,trivial⟩ rfl) zU1 ?_
 refine aN rfl tyZ139q (fun b23=>?_)
 refine go ?_ ?_
 refine aG (aP (fun H E=>∃(x50:List Nat),∃(x56:List (List Rat)),∃(b51:Option Nat),∃(c52:Nat),∃(n53:Nat),∃(g57:List rK),∃(N58:Nat),t6 K a1 v2 x50 x56=some r∧x50.length=n53∧x56.length=N58∧cJ g57 x56∧(∀k∈x50,k<N58)∧H=([⟨some b23,1,139,6,1,([pO b51 n53 c52]++[pO none 0 0]++(eQ v2))⟩,hO cI none 0 3 0 ([]:List Int),hO (cH g57) b51 c52 24 n53 x50,⟨some b1,1,139,6,1,([pS (bJ cQ) ([]:List (List Rat))]++[pS cI ([]:List Int)]++(eQ 0))⟩]++eD cQ 42 g57 x56)∧E=[(1,.vc (pI .i64 a1)),(4,.vc (pP (some b1) 0)),(5,.vc (pP (some b23) 0))]) ?_ (fun Jj63=>?_))
 ·rintro _ _ ⟨x50,x56,b51,c52,n53,g57,N58,hF,q54,q59,q60,q61,rfl,rfl⟩
  unfold t6 at hF
  refine go ?_ ?_
  refine aI (aMH (xs:=[.tmp 5]) (cs:=[pP (some b23) 0]) rfl rfl) zU1 ?_
  refine go ?_ ?_
  refine aG (aP (fun H E=>∃(x104:List Int),∃(x110:List Nat),∃(x116:List (List Rat)),∃(x122:Rat),∃(b105:Option Nat),∃(c106:Nat),∃(n107:Nat),∃(b111:Option Nat),∃(c112:Nat),∃(n113:Nat),∃(g117:List rK),∃(N118:Nat),s8 K x104 x110 x116 x122=some r∧x104.length=n107∧x110.length=n113∧x116.length=N118∧cJ g117 x116∧(∀k∈x110,k<N118)∧H=([⟨some b23,1,139,6,1,([pO b111 n113 c112]++[pO b105 n107 c106]++(eQ x122))⟩,hO cI b105 c106 3 n107 x104,hO (cH g117) b111 c112 24 n113 x110,⟨some b1,1,139,6,1,([pS (bJ cQ) ([]:List (List Rat))]++[pS cI ([]:List Int)]++(eQ 0))⟩]++eD cQ 42 g117 x116)∧E=[(4,.vc (pP (some b1) 0)),(5,.vc (pP (some b23) 0))]) ?_ (fun Jj124=>?_))
  ·rintro _ _ ⟨x104,x110,x116,x122,b105,c106,n107,b111,c112,n113,g117,N118,hF,q108,q114,q119,q120,q121,rfl,rfl⟩
   unfold s8 at hF
   refine aJ (aC (aH (aRN 2 4 rfl rfl q120 (yI q119 q121) ?_)))
   refine aFj 2 0 0 rfl ((sP _ _).trans q114) rfl rfl rfl rfl rfl ?_
   refine aFj 1 0 1 rfl q108 rfl rfl rfl rfl rfl ?_
   exact bI
  obtain⟨⟨x104',x110',x116',x122'⟩,hL,hRl123⟩:=aM hF
  refine cA (fun k a w=>∃(x84:List Int),∃(x90:List Nat),∃(x96:List (List Rat)),∃(x102:Rat),∃(x103:Int),∃(b85:Option Nat),∃(c86:Nat),∃(n87:Nat),∃(b91:Option Nat),∃(c92:Nat),∃(n93:Nat),∃(g97:List rK),∃(N98:Nat),cG K a1 k x84 x90 x96 x102 x103=some (x104',x110',x116',x122')∧x84.length=n87∧x90.length=n93∧x96.length=N98∧cJ g97 x96∧(∀k∈x90,k<N98)∧hs _ ([⟨some b23,1,139,6,1,([pO b91 n93 c92]++[pO b85 n87 c86]++(eQ x102))⟩,hO cI b85 c86 3 n87 x84,hO (cH g97) b91 c92 24 n93 x90,⟨some b1,1,139,6,1,([pS (bJ cQ) ([]:List (List Rat))]++[pS cI ([]:List Int)]++(eQ 0))⟩]++eD cQ 42 g97 x96) [(4,.vc (pP (some b1) 0)),(5,.vc (pP (some b23) 0)),(8,.vc (pF 166 [pP (some b23) 0])),(32,.vc (pI .i64 a1)),(33,.vc (pI .i64 x103))] a w) K (fun a w ⟨_,_,_,_,_,_,_,_,_,_,_,_,_,hF,_,_,_,_,_,_⟩=>by cases hF) (fun k a w ⟨x84,x90,x96,x102,x103,b85,c86,n87,b91,c92,n93,g97,N98,hF,q88,q94,q99,q100,q101,hh⟩=>b0 ?_ hh) (fun a w hh=>⟨([]:List Int),x50,x56,v2,0,none,0,0,b51,c52,n53,g57,N58,hL,rfl,q54,q59,q60,q61,aR 4 [0,1,2,3] rfl rfl (by decide) (by exact⟨rfl,rfl,rfl,rfl,rfl,trivial⟩) hh⟩)
  rw [cG.eq_2] at hF
  refine go ?_ ?_
  refine aB hF rfl (fun h126 hF=>?_) (fun h126 hF=>?_)
  ·refine go ?_ ?_
   refine aG (go ?_ ?_)
   refine aN rfl tyZ3q (fun b127=>?_)
   obtain⟨x128,h129,hF⟩:=aM hF
   refine go ?_ ?_
   refine aI (aQX (i:=3) rfl tyS23 rfl rfl rfl rfl (aKg h129).1 (aRe h129 q94)) zU2 ?_
   refine aFV 0 [(9,0)] rfl zU1 rfl ?_
   refine aI (aJf (φ:=(lE x103)) (pre:=fun x:(List Rat)=>[.vc (pS cQ x)]) (post:=fun r:Bool=>.vc (pB r)) (xs:=[.tmp 9]) (cs:=[pM (cI.e x103)]) rfl rfl (fun x r h=>aD4 h)) zU1 ?_
   obtain⟨v130,h131,hF⟩:=aW hF xF
   refine aI (aFy (pre':=[.vc (pC (pO b91 n93 c92) (x84.length:Int).toNat 1),.vc (pFn Tryz.prog (fun x:(List Rat)=>[.vc (pS cQ x)]) (fun r:Bool=>.vc (pB r)) (lE x103))]) rfl h131 rfl (aSR (aKg h129).2.2 (aNO 2 4 [] (by rw [List.append_nil];rfl) rfl q100 (yI q99 q101) q94)) (fun _ _ _ h=>h)) zU2 ?_
   refine go ?_ ?_
   refine aB hF rfl (fun h132 hF=>?_) (fun h132 hF=>?_)
   ·refine aV ?_
    obtain⟨v133,h134,hF⟩:=aM hF
    refine go ?_ ?_
    exact aF (fun a w hh=>⟨x84,x90,x96,x102,v133,b85,c86,n87,b91,c92,n93,g97,N98,hF,q88,q94,q99,q100,q101,aR 4 [0,1,2,3] rfl rfl (by decide) (by exact⟨rfl,rfl,rfl,rfl,rfl,trivial⟩) hh⟩)
   refine eU (aJ (aC (aAa (fun H E=>∃(x136:List Nat),∃(x142:List (List Rat)),∃(x148:Rat),∃(b137:Option Nat),∃(c138:Nat),∃(n139:Nat),∃(g143:List rK),∃(N144:Nat),mH K x84 x103 (cG K a1 k) x136 x142 x148=some (x104',x110',x116',x122')∧x136.length=n139∧x142.length=N144∧cJ g143 x142∧(∀k∈x136,k<N144)∧H=([⟨some b23,1,139,6,1,([pO b137 n139 c138]++[pO b85 n87 c86]++(eQ x148))⟩,hO cI b85 c86 3 n87 x84,hO (cH g143) b137 c138 24 n139 x136,⟨some b1,1,139,6,1,([pS (bJ cQ) ([]:List (List Rat))]++[pS cI ([]:List Int)]++(eQ 0))⟩]++eD cQ 42 g143 x142)∧E=[(4,.vc (pP (some b1) 0)),(5,.vc (pP (some b23) 0)),(8,.vc (pF 166 [pP (some b23) 0])),(9,.vc (pM (cI.e x103))),(10,.vc (pI .i64 (x84.length:Int))),(32,.vc (pI .i64 a1)),(33,.vc (pI .i64 x103))]) ?_ (fun Jj149=>?_))))
   ·rintro _ _ ⟨x136,x142,x148,b137,c138,n139,g143,N144,hF,q140,q145,q146,q147,rfl,rfl⟩
    unfold mH at hF
    refine aC ?_
    obtain⟨v152,h153,hF⟩:=aM hF
    obtain⟨v154,h155,hF⟩:=aM hF
    refine iQ [0,1,0,7,15,0,63,127,0,511] 9 1 [.v (.vc (pP (some b23) 0)),.v (.vc (pO b137 n139 c138)),.v (.vc (pI .i64 (x84.length:Int))),.v (.vc (pE b137 (x84.length:Int) (cH g143).n 0)),.v (.vc (pO (gA g143 v152).1 (gA g143 v152).2.1 (gA g143 v152).2.2)),.v (.vc (pI .i64 x103)),.v (.vc (pE (gA g143 v152).1 x103 cQ.n 0)),.v (.va (eQ v154)),.a 42 (eQ 0)] aU ⟨d0 (gV (off:=0) (k:=0) rfl tyF139_0) zU1,d0 (gC 0 1 rfl rfl rfl rfl (.one tyO23)) zU1,d0 (aL (.inl rfl)) zU1,d0 (cY (C:=(cH g143)) 2 rfl tyS23 rfl q140 (aD h153).1 (aD h153).2.1) zU2,d0 (iD (C:=(cH g143)) (k:=1) 2 rfl rfl h153 rfl (.one tyO24) rfl) zU1,d0 (x0 1 rfl rfl (.one tyO3)) zU1,d0 (cY (4+v152) rfl tyS24 (gW 4 rfl q146 q145 (q147 _ (aO h153))) (cR q146 q145 (q147 _ (aO h153))) (aD h155).1 (aD h155).2.1) zU2,d0 (iD (k:=4) (4+v152) rfl (gW 4 rfl q146 q145 (q147 _ (aO h153))) h155 rfl (.agg tyA42) rfl) zU1,⟨rfl,.alc tyZ42q⟩,trivial⟩ (fun bs151 G150=>?_)
    obtain⟨v156,h157,hF⟩:=aW hF xR
    refine go ?_ ?_
    refine aG (aP (fun H E=>∃(x184:List Nat),∃(x190:List (List Rat)),∃(b185:Option Nat),∃(c186:Nat),∃(n187:Nat),∃(g191:List rK),∃(N192:Nat),sR K x84 x103 v156 (cG K a1 k) x184 x190=some (x104',x110',x116',x122')∧x184.length=n187∧x190.length=N192∧cJ g191 x190∧(∀k∈x184,k<N192)∧H=([⟨some b23,1,139,6,1,([pO b185 n187 c186]++[pO b85 n87 c86]++(eQ v156))⟩,hO cI b85 c86 3 n87 x84,hO (cH g191) b185 c186 24 n187 x184,⟨some b1,1,139,6,1,([pS (bJ cQ) ([]:List (List Rat))]++[pS cI ([]:List Int)]++(eQ 0))⟩]++eD cQ 42 g191 x190)∧E=[(4,.vc (pP (some b1) 0)),(5,.vc (pP (some b23) 0)),(8,.vc (pF 166 [pP (some b23) 0])),(9,.vc (pM (cI.e x103))),(10,.vc (pI .i64 (x84.length:Int))),(32,.vc (pI .i64 a1)),(33,.vc (pI .i64 x103))]) ?_ (fun Jj197=>?_))
    ·rintro _ _ ⟨x184,x190,b185,c186,n187,g191,N192,hF,q188,q193,q194,q195,rfl,rfl⟩
     unfold sR at hF
     refine go ?_ ?_
     refine aG (aP (fun H E=>∃(x238:List Int),∃(x244:List Nat),∃(x250:List (List Rat)),∃(x256:Rat),∃(b239:Option Nat),∃(c240:Nat),∃(n241:Nat),∃(b245:Option Nat),∃(c246:Nat),∃(n247:Nat),∃(g251:List rK),∃(N252:Nat),tF K x103 (cG K a1 k) x238 x244 x250 x256=some (x104',x110',x116',x122')∧x238.length=n241∧x244.length=n247∧x250.length=N252∧cJ g251 x250∧(∀k∈x244,k<N252)∧H=([⟨some b23,1,139,6,1,([pO b245 n247 c246]++[pO b239 n241 c240]++(eQ x256))⟩,hO cI b239 c240 3 n241 x238,hO (cH g251) b245 c246 24 n247 x244,⟨some b1,1,139,6,1,([pS (bJ cQ) ([]:List (List Rat))]++[pS cI ([]:List Int)]++(eQ 0))⟩]++eD cQ 42 g251 x250)∧E=[(4,.vc (pP (some b1) 0)),(5,.vc (pP (some b23) 0)),(8,.vc (pF 166 [pP (some b23) 0])),(9,.vc (pM (cI.e x103))),(32,.vc (pI .i64 a1)),(33,.vc (pI .i64 x103))]) ?_ (fun Jj258=>?_))
     ·rintro _ _ ⟨x238,x244,x250,x256,b239,c240,n241,b245,c246,n247,g251,N252,hF,q242,q248,q253,q254,q255,rfl,rfl⟩
      unfold tF at hF
      refine go ?_ ?_
      refine aI (eR (C:=cI) (xs:=[.tmp 133]) (ps:=[.vc (pI .i64 x103)]) (zs:=[x103]) rfl tyS22 rfl ⟨⟨trivial,rfl⟩,trivial⟩ rfl) zU1 ?_
      obtain⟨x259,h260,hF⟩:=aM hF
      refine iK 1 rfl tyS22 rfl rfl q242 rfl rfl h260 (fun b261 c262 H263 e264=>?_)
      cases e264
      obtain⟨v266,h267,hF⟩:=aM hF
      refine go ?_ ?_
      exact aF (fun a w hh=>⟨x259,x244,x250,x256,v266,b261,c262,(n241+[x103].length),b245,c246,n247,g251,N252,hF,(bD h260 q242),q248,q253,q254,q255,aR 4 [0,1,2,3] rfl rfl (by decide) (by exact⟨rfl,rfl,rfl,rfl,rfl,trivial⟩) hh⟩)
     obtain⟨⟨x238',x244',x250',x256'⟩,hL,hRl257⟩:=aM hF
     refine cA (fun k a w=>∃(x218:List Int),∃(x224:List Nat),∃(x230:List (List Rat)),∃(x236:Rat),∃(x237:Int),∃(b219:Option Nat),∃(c220:Nat),∃(n221:Nat),∃(b225:Option Nat),∃(c226:Nat),∃(n227:Nat),∃(g231:List rK),∃(N232:Nat),gH K x84 x103 x184 k x218 x224 x230 x236 x237=some (x238',x244',x250',x256')∧x218.length=n221∧x224.length=n227∧x230.length=N232∧cJ g231 x230∧(∀k∈x224,k<N232)∧hs _ ([⟨some b23,1,139,6,1,([pO b225 n227 c226]++[pO b219 n221 c220]++(eQ x236))⟩,hO cI b219 c220 3 n221 x218,hO (cH g231) b225 c226 24 n227 x224,⟨some b1,1,139,6,1,([pS (bJ cQ) ([]:List (List Rat))]++[pS cI ([]:List Int)]++(eQ 0))⟩]++eD cQ 42 g231 x230) [(4,.vc (pP (some b1) 0)),(5,.vc (pP (some b23) 0)),(8,.vc (pF 166 [pP (some b23) 0])),(9,.vc (pM (cI.e x103))),(10,.vc (pI .i64 (x84.length:Int))),(32,.vc (pI .i64 a1)),(33,.vc (pI .i64 x103)),(118,.vc (pI .i64 (x184.length:Int))),(119,.vc (pI .i64 x237))] a w) K (fun a w ⟨_,_,_,_,_,_,_,_,_,_,_,_,_,hF,_,_,_,_,_,_⟩=>by cases hF) (fun k a w ⟨x218,x224,x230,x236,x237,b219,c220,n221,b225,c226,n227,g231,N232,hF,q222,q228,q233,q234,q235,hh⟩=>b0 ?_ hh) (fun a w hh=>⟨x84,x184,x190,v156,0,b85,c86,n87,b185,c186,n187,g191,N192,hL,q88,q188,q193,q194,q195,aR 4 [0,1,2,3] rfl rfl (by decide) (by exact⟨rfl,rfl,rfl,rfl,rfl,rfl,rfl,rfl,rfl,trivial⟩) hh⟩)
     rw [gH.eq_2] at hF
     refine go ?_ ?_
     refine aB hF rfl (fun h268 hF=>?_) (fun h268 hF=>?_)
     ·refine go ?_ ?_
      refine aG (go ?_ ?_)
      refine aB hF rfl (fun h269 hF=>?_) (fun h269 hF=>?_)
      ·obtain⟨v270,h271,hF⟩:=aM hF
       refine go ?_ ?_
       refine aNX (f:=166) (cs:=[pP (some b23) 0]) (pre:=[.vc (pI .i64 x237),.vc (pI .i64 (x84.length:Int)),.vc (pI .i64 x103)]) (xs:=[.tmp 126,.tmp 127,.tmp 128]) 4 [0,2,1] [3] rfl (aDm h271 q228 q233 q234 q235 q222) ⟨rfl,rfl,rfl,rfl,trivial⟩ rfl rfl rfl (by decide) ?_
       rintro _ _ ⟨b276,c277,n275,g274,N280,b287,c288,n286,q278,q281,q282,q283,q289,rfl,rfl⟩
       refine mM (jS [⟨some b23,1,139,6,1,([pO b276 n275 c277]++[pO b287 n286 c288]++(eQ v270.2.2))⟩,hO (cH g274) b276 c277 24 n275 v270.1.1,hO cI b287 c288 3 n286 v270.2.1] (eD cQ 42 g274 v270.1.2) [⟨some b1,1,139,6,1,([pS (bJ cQ) ([]:List (List Rat))]++[pS cI ([]:List Int)]++(eQ 0))⟩]) ?_
       obtain⟨v291,h292,hF⟩:=aM hF
       refine go ?_ ?_
       exact aF (fun a w hh=>⟨v270.2.1,v270.1.1,v270.1.2,v270.2.2,v291,b287,c288,n286,b276,c277,n275,g274,N280,hF,q289,q278,q281,q282,q283,aR 4 [0,2,1,3] rfl rfl (by decide) (by exact⟨rfl,rfl,rfl,rfl,rfl,rfl,rfl,rfl,rfl,trivial⟩) hh⟩)
      obtain⟨v293,h294,hF⟩:=aM hF
      refine go ?_ ?_
      exact aF (fun a w hh=>⟨x218,x224,x230,x236,v293,b219,c220,n221,b225,c226,n227,g231,N232,hF,q222,q228,q233,q234,q235,aR 4 [0,1,2,3] rfl rfl (by decide) (by exact⟨rfl,rfl,rfl,rfl,rfl,rfl,rfl,rfl,rfl,trivial⟩) hh⟩)
     refine aV ?_
     obtain⟨rfl,rfl,rfl,rfl⟩:=sm4 hF
     exact eJ Jj258 ⟨x218,x224,x230,x236,b219,c220,n221,b225,c226,n227,g231,N232,hRl257,q222,q228,q233,q234,q235,rfl,rfl⟩ 4 [0,1,2,3] rfl rfl ⟨rfl,rfl,rfl,rfl,rfl,rfl,trivial⟩
    obtain⟨⟨x184',x190'⟩,hL,hRl196⟩:=aM hF
    refine cA (fun k a w=>∃(x171:List Nat),∃(x177:List (List Rat)),∃(x183:Int),∃(b172:Option Nat),∃(c173:Nat),∃(n174:Nat),∃(g178:List rK),∃(N179:Nat),kB K x84 v154 k x171 x177 x183=some (x184',x190')∧x171.length=n174∧x177.length=N179∧cJ g178 x177∧(∀k∈x171,k<N179)∧hs _ ([⟨some (bs151 8),1,42,4,1,(eQ v154)⟩,⟨some b23,1,139,6,1,([pO b172 n174 c173]++[pO b85 n87 c86]++(eQ v156))⟩,hO cI b85 c86 3 n87 x84,hO (cH g178) b172 c173 24 n174 x171,⟨some b1,1,139,6,1,([pS (bJ cQ) ([]:List (List Rat))]++[pS cI ([]:List Int)]++(eQ 0))⟩]++eD cQ 42 g178 x177) [(4,.vc (pP (some b1) 0)),(5,.vc (pP (some b23) 0)),(8,.vc (pF 166 [pP (some b23) 0])),(9,.vc (pM (cI.e x103))),(10,.vc (pI .i64 (x84.length:Int))),(12,.vc (pP (some (bs151 8)) 0)),(13,.vc (pI .i64 x183)),(32,.vc (pI .i64 a1)),(33,.vc (pI .i64 x103))] a w) K (fun a w ⟨_,_,_,_,_,_,_,_,hF,_,_,_,_,_⟩=>by cases hF) (fun k a w ⟨x171,x177,x183,b172,c173,n174,g178,N179,hF,q175,q180,q181,q182,hh⟩=>b0 ?_ hh) (fun a w hh=>⟨x136,x142,x103,b137,c138,n139,g143,N144,hL,q140,q145,q146,q147,aR 5 [0,1,2,3,4] rfl rfl (by decide) (by exact⟨rfl,rfl,rfl,rfl,rfl,rfl,rfl,rfl,rfl,trivial⟩) hh⟩)
    rw [kB.eq_2] at hF
    obtain⟨v295,h296,hF⟩:=aM hF
    refine go ?_ ?_
    refine aI (aB3 (C:=cQ) (xs:=(x177.getD v295 [])) (T:=42) rfl tyS24 (cR q181 q180 (q182 _ (aO h296)))) zU1 ?_
    refine go ?_ ?_
    refine aB hF rfl (fun h297 hF=>?_) (fun h297 hF=>?_)
    ·refine go ?_ ?_
     refine aG ?_
     have hF:=tJ h296 hF
     have hF:=tJ h296 hF
     obtain⟨v304,h305,hF⟩:=aM hF
     obtain⟨v306,h307,hF⟩:=aW hF y9
     have hF:=tJ h305 hF
     refine iQ [0,1,0,7,15,0,0,64,0,448,960,0,4032,8128,0,32704,65535,131071] 17 1 [.v (.vc (pP (some b23) 0)),.v (.vc (pO b172 n174 c173)),.v (.vc (pI .i64 (x84.length:Int))),.v (.vc (pE b172 (x84.length:Int) (cH g178).n 0)),.v (.vc (pO (gA g178 v295).1 (gA g178 v295).2.1 (gA g178 v295).2.2)),.v (.vc (pI .i64 x183)),.v (.vc (pP (some b23) 0)),.v (.vc (pO b172 n174 c173)),.v (.vc (pI .i64 (x84.length:Int))),.v (.vc (pE b172 (x84.length:Int) (cH g178).n 0)),.v (.vc (pO (gA g178 v295).1 (gA g178 v295).2.1 (gA g178 v295).2.2)),.v (.vc (pI .i64 x183)),.v (.vc (pE (gA g178 v295).1 x183 cQ.n 0)),.v (.va (eQ v304)),.v (.va (eQ v154)),.v (.va (eQ v306)),.v (.vc (pE (gA g178 v295).1 x183 cQ.n 0))] aU ⟨d0 (gV (off:=0) (k:=0) rfl tyF139_0) zU1,d0 (gC 1 1 rfl rfl rfl rfl (.one tyO23)) zU1,d0 (aL (.inl rfl)) zU1,d0 (cY (C:=(cH g178)) 3 rfl tyS23 rfl q175 (aD h296).1 (aD h296).2.1) zU2,d0 (iD (C:=(cH g178)) (k:=1) 3 rfl rfl h296 rfl (.one tyO24) rfl) zU1,d0 (aL (.inl rfl)) zU1,d0 (gV (off:=0) (k:=0) rfl tyF139_0) zU1,d0 (gC 1 1 rfl rfl rfl rfl (.one tyO23)) zU1,d0 (aL (.inl rfl)) zU1,d0 (cY (C:=(cH g178)) 3 rfl tyS23 rfl q175 (aD h296).1 (aD h296).2.1) zU2,d0 (iD (C:=(cH g178)) (k:=1) 3 rfl rfl h296 rfl (.one tyO24) rfl) zU1,d0 (aL (.inl rfl)) zU1,d0 (cY (5+v295) rfl tyS24 (gW 5 rfl q181 q180 (q182 _ (aO h296))) (cR q181 q180 (q182 _ (aO h296))) (aD h305).1 (aD h305).2.1) zU2,d0 (iD (k:=4) (5+v295) rfl (gW 5 rfl q181 q180 (q182 _ (aO h296))) h305 rfl (.agg tyA42) rfl) zU1,d0 (gC 0 4 rfl rfl rfl rfl (.agg tyA42)) zU1,d0 (bE rfl h307 rfl) zU2,d0 (cY (5+v295) rfl tyS24 (gW 5 rfl q181 q180 (q182 _ (aO h296))) (cR q181 q180 (q182 _ (aO h296))) (aD h305).1 (aD h305).2.1) zU2,trivial⟩ (fun bs299 G298=>?_)
     obtain⟨x310,h311,hF⟩:=aM hF
     refine mD (yM (H':=([⟨some (bs151 8),1,42,4,1,(eQ v154)⟩,⟨some b23,1,139,6,1,([pO b172 n174 c173]++[pO b85 n87 c86]++(eQ v156))⟩,hO cI b85 c86 3 n87 x84,hO (cH g178) b172 c173 24 n174 x171,⟨some b1,1,139,6,1,([pS (bJ cQ) ([]:List (List Rat))]++[pS cI ([]:List Int)]++(eQ 0))⟩]++eD cQ 42 g178 (x177.set v295 x310))) (5+v295) rfl (rV 5 rfl q181 q180 (q182 _ (aO h296))) h305 h311 tyA42.s (hH:=stN 5 rfl q181 q180 (q182 _ (aO h296)))) zU2 ?_
     obtain⟨v313,h314,hF⟩:=aM hF
     refine go ?_ ?_
     exact aF (fun a w hh=>⟨x171,(x177.set v295 x310),v313,b172,c173,n174,g178,N179,hF,q175,(aBR q180),(aDI q181 q180 (q182 _ (aO h296)) (bC h311 rfl)),q182,aR 5 [0,1,2,3,4] rfl rfl (by decide) (by exact⟨rfl,rfl,rfl,rfl,rfl,rfl,rfl,rfl,rfl,trivial⟩) hh⟩)
    refine aV ?_
    obtain⟨rfl,rfl⟩:=sm2 hF
    exact eJ Jj197 ⟨x171,x177,b172,c173,n174,g178,N179,hRl196,q175,q180,q181,q182,rfl,rfl⟩ 5 [1,2,3,4] rfl rfl ⟨rfl,rfl,rfl,rfl,rfl,rfl,rfl,trivial⟩
   refine go ?_ ?_
   refine aB hF rfl (fun h315 hF=>?_) (fun h315 hF=>?_)
   ·refine aC ?_
    obtain⟨v318,h319,hF⟩:=aM hF
    have hF:=tJ h319 hF
    obtain⟨v322,h323,hF⟩:=aM hF
    obtain⟨v324,h325,hF⟩:=aM hF
    have hF:=tJ h325 hF
    obtain⟨x328,h329,hF⟩:=aM hF
    obtain⟨v331,h332,hF⟩:=aM hF
    refine r6 (HsM [(0,fun G316=>([⟨some b23,1,139,6,1,([pO b91 n93 c92]++[pO b85 n87 c86]++(eQ x102))⟩,hO cI b85 c86 3 n87 x84,hO (cH g97) b91 c92 24 n93 x90,⟨some b1,1,139,6,1,([pS (bJ cQ) ([]:List (List Rat))]++[pS cI ([]:List Int)]++(eQ 0))⟩]++eD cQ 42 g97 x96)),(1,fun G316=>([⟨some b23,1,139,6,1,([pO b91 n93 c92]++[pO b85 n87 c86]++(eQ x102))⟩,hO cI b85 c86 3 n87 x84,hO (cH g97) b91 c92 24 n93 x328,⟨some b1,1,139,6,1,([pS (bJ cQ) ([]:List (List Rat))]++[pS cI ([]:List Int)]++(eQ 0))⟩]++eD cQ 42 g97 x96))]) [21] [0,1,0,0,8,0,0,96,0,256,0,0,3072,7936,16128,0,32768,0,229376,491520,1048327,2096903,4194303,8388607] 23 1 [.v (.vc (pP (some b23) 0)),.v (.vc (pO b91 n93 c92)),.v (.vc (pI .i64 (x84.length:Int))),.v (.vc (pP (some b23) 0)),.v (.vc (pO b91 n93 c92)),.v (.vc (pI .i64 (x84.length:Int))),.v (.vc (pI .i64 v130)),.v (.vc (pI .i64 v318)),.v (.vc (pP (some b23) 0)),.v (.vc (pO b91 n93 c92)),.v (.vc (pI .i64 (x84.length:Int))),.v (.vc (pI .i64 v130)),.v (.vc (pI .i64 v318)),.v (.vc (pE b91 v318 (cH g97).n 0)),.v (.vc (pO (gA g97 v322).1 (gA g97 v322).2.1 (gA g97 v322).2.2)),.v (.vc (pP (some b23) 0)),.v (.vc (pO b91 n93 c92)),.v (.vc (pI .i64 (x84.length:Int))),.v (.vc (pE b91 (x84.length:Int) (cH g97).n 0)),.v (.vc (pO (gA g97 v324).1 (gA g97 v324).2.1 (gA g97 v324).2.2)),.v (.vc (pE b91 (x84.length:Int) (cH g97).n 0)),.g (fun _ _=>.any),.v (.vc (pE b91 v318 (cH g97).n 0))] aU ⟨d1 0 (gV (off:=0) (k:=0) rfl tyF139_0) zU1,d1 0 (gC 0 1 rfl rfl rfl rfl (.one tyO23)) zU1,d1 0 (aL (.inl rfl)) zU1,⟨rfl,.run (L:=[0,1]) ⟨fun G316 A=>gV (off:=0) (k:=0) rfl tyF139_0,fun G316 A=>gV (off:=0) (k:=0) rfl tyF139_0,trivial⟩ (fun G316=>zU1)⟩,⟨rfl,.run (L:=[0,1]) ⟨fun G316 A=>gC 0 1 rfl rfl rfl rfl (.one tyO23),fun G316 A=>gC 0 1 rfl rfl rfl rfl (.one tyO23),trivial⟩ (fun G316=>zU1)⟩,⟨rfl,.run (L:=[0,1]) ⟨fun G316 A=>aL (.inl rfl),fun G316 A=>aL (.inl rfl),trivial⟩ (fun G316=>zU1)⟩,⟨rfl,.run (L:=[0,1]) ⟨fun G316 A=>aL (.inl rfl),fun G316 A=>aL (.inl rfl),trivial⟩ (fun G316=>zU1)⟩,⟨rfl,.run (L:=[0,1]) ⟨fun G316 A=>yK rfl h319,fun G316 A=>yK rfl h319,trivial⟩ (fun G316=>zU2)⟩,d1 0 (gV (off:=0) (k:=0) rfl tyF139_0) zU1,d1 0 (gC 0 1 rfl rfl rfl rfl (.one tyO23)) zU1,d1 0 (aL (.inl rfl)) zU1,d1 0 (aL (.inl rfl)) zU1,d1 0 (yK rfl h319) zU2,d1 0 (cY (C:=(cH g97)) 2 rfl tyS23 rfl q94 (aD h323).1 (aD h323).2.1) zU2,d1 0 (iD (C:=(cH g97)) (k:=1) 2 rfl rfl h323 rfl (.one tyO24) rfl) zU1,d1 0 (gV (off:=0) (k:=0) rfl tyF139_0) zU1,d1 0 (gC 0 1 rfl rfl rfl rfl (.one tyO23)) zU1,d1 0 (aL (.inl rfl)) zU1,d1 0 (cY (C:=(cH g97)) 2 rfl tyS23 rfl q94 (aD h325).1 (aD h325).2.1) zU2,d1 0 (iD (C:=(cH g97)) (k:=1) 2 rfl rfl h325 rfl (.one tyO24) rfl) zU1,d1 0 (cY (C:=(cH g97)) 2 rfl tyS23 rfl q94 (aD h325).1 (aD h325).2.1) zU2,⟨rfl,.hvy [0] ⟨fun G316 A=>aB8 (yM (C:=(cH g97)) 2 rfl rfl h325 h329 tyO24.s),trivial⟩ (fun G316=>zU2)⟩,d1 1 (cY (C:=(cH g97)) 2 rfl tyS23 rfl (bC h329 q94) (aD h332).1 (aD h332).2.1) zU2,trivial⟩ (fun bs317 G316=>?_)
    obtain⟨x334,h335,hF⟩:=aM hF
    refine mD (yM (C:=(cH g97)) 2 rfl rfl h332 h335 tyO24.s) zU2 ?_
    refine aT (aJ (aH (aI (gV (off:=0) (k:=2) rfl tyF139_2) zU1 ?_)))
    refine aI (gC 0 4 rfl rfl rfl rfl (.agg tyA42)) zU1 ?_
    obtain⟨v337,h338,hF⟩:=aW hF wK
    refine aI (bE rfl h338 rfl) zU1 ?_
    refine aI (gV (off:=0) (k:=2) rfl tyF139_2) zU1 ?_
    refine mD (t_s 0 rfl rfl rfl tyA42.s) zU2 ?_
    refine aT ?_
    exact eJ Jj149 ⟨x334,x96,v337,b91,c92,n93,g97,N98,hF,(bC h335 (bC h329 q94)),q99,q100,(aKw (aKw q101 h329 (q101 _ (aO h323))) h335 (q101 _ (aO h325))),rfl,rfl⟩ 4 [0,1,2,3] rfl rfl ⟨rfl,rfl,rfl,rfl,rfl,rfl,rfl,trivial⟩
   refine eU ?_
   exact eJ Jj149 ⟨x90,x96,x102,b91,c92,n93,g97,N98,hF,q94,q99,q100,q101,rfl,rfl⟩ 4 [0,1,2,3] rfl rfl ⟨rfl,rfl,rfl,rfl,rfl,rfl,rfl,trivial⟩
  refine aV ?_
  obtain⟨rfl,rfl,rfl,rfl⟩:=sm4 hF
  exact eJ Jj124 ⟨x84,x90,x96,x102,b85,c86,n87,b91,c92,n93,g97,N98,hRl123,q88,q94,q99,q100,q101,rfl,rfl⟩ 4 [0,1,2,3] rfl rfl zU2
 obtain⟨⟨x50',x56'⟩,hL,hRl62⟩:=aM hF
 refine cA (fun k a w=>∃(x37:List Nat),∃(x43:List (List Rat)),∃(x49:Int),∃(b38:Option Nat),∃(c39:Nat),∃(n40:Nat),∃(g44:List rK),∃(N45:Nat),kW K a0 k x37 x43 x49=some (x50',x56')∧x37.length=n40∧x43.length=N45∧cJ g44 x43∧(∀k∈x37,k<N45)∧hs _ ([⟨some b23,1,139,6,1,([pO b38 n40 c39]++[pO none 0 0]++(eQ v2))⟩,hO cI none 0 3 0 ([]:List Int),hO (cH g44) b38 c39 24 n40 x37,⟨some b1,1,139,6,1,([pS (bJ cQ) ([]:List (List Rat))]++[pS cI ([]:List Int)]++(eQ 0))⟩]++eD cQ 42 g44 x43) [(1,.vc (pI .i64 a1)),(4,.vc (pP (some b1) 0)),(5,.vc (pP (some b23) 0)),(17,.vc (pS (bJ cQ) a0)),(18,.vc (pI .i64 (a0.length:Int))),(19,.vc (pI .i64 x49))] a w) K (fun a w ⟨_,_,_,_,_,_,_,_,hF,_,_,_,_,_⟩=>by cases hF) (fun k a w ⟨x37,x43,x49,b38,c39,n40,g44,N45,hF,q41,q46,q47,q48,hh⟩=>b0 ?_ hh) (fun a w hh=>⟨([]:List Nat),([]:List (List Rat)),0,none,0,0,([]:List rK),0,hL,rfl,(rfl),aDa,(by simp),aR 4 [0,1,2,3] rfl rfl (by decide) (by exact⟨rfl,rfl,rfl,rfl,rfl,rfl,trivial⟩) hh⟩)
 rw [kW.eq_2] at hF
 refine go ?_ ?_
 refine aB hF rfl (fun h339 hF=>?_) (fun h339 hF=>?_)
 ·refine go ?_ ?_
  refine aG ?_
  obtain⟨v340,h341,v344,h345,hF⟩:=tW hF
  refine go ?_ ?_
  refine r6 (HsM [(0,fun G342=>([⟨some b23,1,139,6,1,([pO b38 n40 c39]++[pO none 0 0]++(eQ v2))⟩,hO cI none 0 3 0 ([]:List Int),hO (cH g44) b38 c39 24 n40 x37,⟨some b1,1,139,6,1,([pS (bJ cQ) ([]:List (List Rat))]++[pS cI ([]:List Int)]++(eQ 0))⟩]++eD cQ 42 g44 x43)),(1,fun G342=>([hO cQ ((G342 3).1) ((G342 3).2) 42 v344.length v344,⟨some b23,1,139,6,1,([pO b38 n40 c39]++[pO none 0 0]++(eQ v2))⟩,hO cI none 0 3 0 ([]:List Int),hO (cH g44) b38 c39 24 n40 x37,⟨some b1,1,139,6,1,([pS (bJ cQ) ([]:List (List Rat))]++[pS cI ([]:List Int)]++(eQ 0))⟩]++eD cQ 42 g44 x43)),(3,fun G342=>([hO cQ ((G342 4).1) ((G342 4).2) 42 v344.length v344,⟨some b23,1,139,6,1,([pO b38 n40 c39]++[pO none 0 0]++(eQ v2))⟩,hO cI none 0 3 0 ([]:List Int),hO (cH (g44++[((G342 4).1,v344.length,(G342 4).2)])) b38 c39 24 n40 x37,⟨some b1,1,139,6,1,([pS (bJ cQ) ([]:List (List Rat))]++[pS cI ([]:List Int)]++(eQ 0))⟩]++eD cQ 42 g44 x43))]) [3,4] [0,1,0,4,12,31,63,127] 5 3 [.v (.vc (pP (some b23) 0)),.v (.vc (pO b38 n40 c39)),.v (.vc (pS cQ v340)),.g (fun b c=>.vc (pO b v344.length c)),.g (fun b c=>.vc (pS (cH (g44++[(b,v344.length,c)])) [x43.length]))] aU ⟨⟨rfl,.run (L:=[0,1,3]) ⟨fun G342 A=>gV (off:=0) (k:=0) rfl tyF139_0,fun G342 A=>gV (off:=0) (k:=0) rfl tyF139_0,fun G342 A=>gV (off:=0) (k:=0) rfl tyF139_0,trivial⟩ (fun G342=>zU1)⟩,⟨rfl,.run (L:=[0,1,3]) ⟨fun G342 A=>gC 0 1 rfl rfl rfl rfl (.one tyO23),fun G342 A=>gC 1 1 rfl rfl rfl rfl (.one tyO23),fun G342 A=>gC 1 1 rfl rfl rfl rfl (.one tyO23),trivial⟩ (fun G342=>zU1)⟩,d1 0 (aL (.inl rfl)) zU1,⟨rfl,.hvy [0] ⟨fun G342 A=>aIu rfl (wP h345) rfl,trivial⟩ (fun G342=>zU1)⟩,⟨rfl,.hvy [1] ⟨fun G342 A=>aIU ((G342 3).1) ((G342 3).2) (aLG (rs:=x43) rfl tyS23 q47.1 (show([hO cQ ((G342 3).1) ((G342 3).2) 42 v344.length v344,⟨some b23,1,139,6,1,([pO b38 n40 c39]++[pO none 0 0]++(eQ v2))⟩,hO cI none 0 3 0 ([]:List Int),hO (cH (g44++[((G342 3).1,v344.length,(G342 3).2)])) b38 c39 24 n40 x37,⟨some b1,1,139,6,1,([pS (bJ cQ) ([]:List (List Rat))]++[pS cI ([]:List Int)]++(eQ 0))⟩]++eD cQ 42 g44 x43)++A=([hO cQ ((G342 3).1) ((G342 3).2) 42 v344.length v344,⟨some b23,1,139,6,1,([pO b38 n40 c39]++[pO none 0 0]++(eQ v2))⟩,hO cI none 0 3 0 ([]:List Int),hO (cH g44) b38 c39 24 n40 x37,⟨some b1,1,139,6,1,([pS (bJ cQ) ([]:List (List Rat))]++[pS cI ([]:List Int)]++(eQ 0))⟩]++eD cQ 42 g44 x43)++A from by rw [aGo (N:=x43.length) ((G342 3).1,v344.length,(G342 3).2) q47.1 (yI q46 q48)])),trivial⟩ (fun G342=>zU1)⟩,trivial⟩ (fun bs343 G342=>?_)
  refine aEq (g:=((G342 4).1,v344.length,(G342 4).2)) 0 5 rfl rfl rfl q47 ?_
  obtain⟨x353,h354,hF⟩:=aM hF
  refine iK 2 rfl tyS23 rfl rfl q41 rfl rfl h354 (fun b355 c356 H357 e358=>?_)
  cases e358
  obtain⟨v360,h361,hF⟩:=aM hF
  refine go ?_ ?_
  exact aF (fun a w hh=>⟨x353,(x43++[v344]),v360,b355,c356,(n40+[x43.length].length),(g44++[((G342 4).1,v344.length,(G342 4).2)]),(N45+1),hF,(bD h354 q41),(aCM q46),(aAB q47 rfl),(aIw q48 q46 h354),aR 4 [0,1,2,3] rfl rfl (by decide) (by exact⟨rfl,rfl,rfl,rfl,rfl,rfl,trivial⟩) hh⟩)
 refine aV ?_
 obtain⟨rfl,rfl⟩:=sm2 hF
 exact eJ Jj63 ⟨x37,x43,b38,c39,n40,g44,N45,hRl62,q41,q46,q47,q48,rfl,rfl⟩ 4 [0,1,2,3] rfl rfl ⟨rfl,rfl,rfl,trivial⟩
def xA (K:Nat) (a0:List (List Rat)):Option (Int×Int):=
 (uE K a0).bind fun v1=>bif(!v1) then(some (0,1)) else((tN a0).bind fun v4=>(sM K a0 v4).bind fun v6=>some ((v6.pivots.length:Int),0))
theorem aGs {K:Nat} {a0:List (List Rat)} {r:Int×Int} (hF:xA K a0=some r):Ct Tryz.prog 103 [.vc (pS (bJ cQ) a0)] (.t2 (.vc (pI .i64 r.1)) (.vc (pI .i64 r.2))):=by
 unfold xA at hF
 refine aA Tryz.func103 rfl (by kernel_rfl) Tryz.ntmps103 rfl (fun w0 M0=>?_)
 obtain⟨v1,h2,hF⟩:=aW hF aB1
 refine go ?_ ?_
 refine aB hF rfl (fun h3 hF=>?_) (fun h3 hF=>?_)
 ·exact bI
 obtain⟨v4,h5,hF⟩:=aW hF aAP
 obtain⟨v6,h7,hF⟩:=aW hF aBj
 refine go ?_ ?_
 refine aI (aRW (off:=1) (p:=pS cI v6.pivots) rfl tyG139_1 rfl) zU1 ?_
 exact bI
def vG (K:Nat) (x59:List Rat):Option ((List Rat)×Int):=
 some (x59,0)
def l7 (K:Nat) (v5:Int) (v31:mF):Nat→(List Rat)→Int→Option (List Rat)
 |0,_,_=>none
 |k+1,x52,x58=>bif(decide (x58<(v31.pivots.length:Int))) then((bF v31.pivots x58).bind fun v68=>(bF v31.rows x58).bind fun v70=>(bF v70 v5).bind fun v72=>(bF x52 v68).bind fun v74=>(qL x52 v68 v72).bind fun x76=>(aS (x58+1)).bind fun v79=>l7 K v5 v31 k x76 v79) else(some x52)
def vF (K:Nat) (v5:Int) (v31:mF):Option ((List Rat)×Int):=
 (mkL v5 0).bind fun x40=>(l7 K v5 v31 K x40 0).bind fun x59=>vG K x59
def l9 (K:Nat) (v5:Int) (x34:List (List Rat)):Nat→Int→Option (LR ((List Rat)×Int) Unit)
 |0,_=>none
 |k+1,x37=>bif(decide (x37<(x34.length:Int))) then((bF x34 x37).bind fun v82=>(bF v82 v5).bind fun v84=>(xD v84).bind fun v86=>bif(v86 != 0) then(some (.ret ([],6))) else((aS (x37+1)).bind fun v89=>l9 K v5 x34 k v89)) else(some (.go ()))
def vC (K:Nat) (v5:Int) (x23:List (List Rat)):Option ((List Rat)×Int):=
 (sM K x23 v5).bind fun v31=>(slL v31.rows (v31.pivots.length:Int) (v31.rows.length:Int)).bind fun x34=>(l9 K v5 x34 K 0).bind fun o=>match o with| .ret r=>some r| .go _=>vF K v5 v31
def l3 (K:Nat) (a0:List (List Rat)) (a1:List Rat):Nat→(List (List Rat))→Int→Option (List (List Rat))
 |0,_,_=>none
 |k+1,x16,x22=>bif(decide (x22<(a0.length:Int))) then((bF a0 x22).bind fun v92=>(iZ v92).bind fun v96=>(bF a1 x22).bind fun v100=>(oG v96 [v100]).bind fun x102=>(oG x16 [x102]).bind fun x106=>(aS (x22+1)).bind fun v113=>l3 K a0 a1 k x106 v113) else(some x16)
def wQ (K:Nat) (a0:List (List Rat)) (a1:List Rat):Option ((List Rat)×Int):=
 (uE K a0).bind fun v1=>bif(!v1) then(some ([],1)) else(bif((a1.length:Int) != (a0.length:Int)) then(some ([],1)) else((tN a0).bind fun v5=>(l3 K a0 a1 K ([]:List (List Rat)) 0).bind fun x23=>vC K v5 x23))
theorem aFn {K:Nat} {a0:List (List Rat)} {a1:List Rat} {r:(List Rat)×Int} (hF:wQ K a0 a1=some r):Ct Tryz.prog 104 [.vc (pS (bJ cQ) a0),.vc (pS cQ a1)] (.t2 (.vc (pS cQ r.1)) (.vc (pI .i64 r.2))):=by
 unfold wQ at hF
 refine aA Tryz.func104 rfl (by kernel_rfl) Tryz.ntmps104 rfl (fun w0 M0=>?_)
 refine aC (aH (aI (aL (.inr rfl)) ⟨cD cQ,trivial⟩ ?_))
 obtain⟨v1,h2,hF⟩:=aW hF aB1
 refine go ?_ ?_
 refine cC hF (fun h3 hF=>?_) (fun h3 hF=>?_)
 ·refine go ?_ ?_
  refine fV rfl ?_
  refine aC (aH (aI (aL (.inr rfl)) ⟨cD cQ,trivial⟩ ?_))
  exact bI
 refine go ?_ ?_
 refine aB hF rfl (fun h4 hF=>?_) (fun h4 hF=>?_)
 ·refine aC (aH (aI (aL (.inr rfl)) ⟨cD cQ,trivial⟩ ?_))
  exact bI
 refine eU (aJ (aC (aH (dS ?_))))
 obtain⟨v5,h6,hF⟩:=aW hF aAP
 refine aI (bE rfl h6 rfl) zU1 ?_
 refine zP ?_
 refine aT (aJ (aC (aH (jP (bJ cQ) 24 rfl ?_))))
 refine go ?_ ?_
 refine aG (aP (fun H E=>∃(x23:List (List Rat)),∃(b24:Option Nat),∃(c25:Nat),∃(n26:Nat),vC K v5 x23=some r∧x23.length=n26∧H=[hO (bJ cQ) b24 c25 24 n26 x23]∧E=[(6,.vc (pI .i64 v5)),(7,.vc (pO b24 n26 c25))]) ?_ (fun Jj30=>?_))
 ·rintro _ _ ⟨x23,b24,c25,n26,hF,q27,rfl,rfl⟩
  unfold vC at hF
  refine aJ (aC (aH (dS ?_)))
  refine dS ?_
  refine tV 0 [7,47] rfl q27 zU2 rfl ?_
  obtain⟨v31,h32,hF⟩:=aW hF aBj
  refine aI (bE rfl h32 rfl) zU2 ?_
  refine aN rfl tyZ139q (fun b33=>?_)
  obtain⟨x34,h35,hF⟩:=aM hF
  refine go ?_ ?_
  refine aG (aP (fun H E=>vF K v5 v31=some r∧H=[⟨some b33,1,139,6,1,(mF.enc v31)⟩]∧E=[(6,.vc (pI .i64 v5)),(10,.vc (pP (some b33) 0))]) ?_ (fun Jj39=>?_))
  ·rintro _ _ ⟨hF,rfl,rfl⟩
   unfold vF at hF
   obtain⟨x40,h41,hF⟩:=aM hF
   refine go ?_ ?_
   refine nN (C:=cQ) rfl tyS24 rfl tyZ42q rfl h41 (fun b42=>?_)
   refine go ?_ ?_
   refine aG (aP (fun H E=>∃(x59:List Rat),vG K x59=some r∧x59.length=x40.length∧H=[hO cQ b42 x40.length 42 x40.length x59]∧E=[(13,.vc (pO b42 x40.length x40.length))]) ?_ (fun Jj66=>?_))
   ·rintro _ _ ⟨x59,hF,q63,rfl,rfl⟩
    unfold vG at hF
    refine go ?_ ?_
    refine dQ (dL (lF 0 [4,13,90] rfl q63 ⟨rfl,rfl,rfl,trivial⟩ rfl ?_))
    obtain rfl:=eP hF
    exact eE (.inl rfl) Tryz.results104 (.tmp rfl (.tmp rfl .nil)) rfl rfl
   obtain⟨x59',hL,hRl65⟩:=aM hF
   refine cA (fun k a w=>∃(x52:List Rat),∃(x58:Int),l7 K v5 v31 k x52 x58=some x59'∧x52.length=x40.length∧hs _ [hO cQ b42 x40.length 42 x40.length x52,⟨some b33,1,139,6,1,(mF.enc v31)⟩] [(6,.vc (pI .i64 v5)),(10,.vc (pP (some b33) 0)),(13,.vc (pO b42 x40.length x40.length)),(71,.vc (pS cI v31.pivots)),(72,.vc (pI .i64 (v31.pivots.length:Int))),(73,.vc (pI .i64 x58))] a w) K (fun a w ⟨_,_,hF,_,_⟩=>by cases hF) (fun k a w ⟨x52,x58,hF,q56,hh⟩=>b0 ?_ hh) (fun a w hh=>⟨x40,0,hL,rfl,dI [0,1] hh⟩)
   rw [l7.eq_2] at hF
   refine go ?_ ?_
   refine aB hF rfl (fun h67 hF=>?_) (fun h67 hF=>?_)
   ·refine go ?_ ?_
    refine aG ?_
    obtain⟨v68,h69,v70,h71,v72,h73,v74,h75,hF⟩:=bn4 hF
    obtain⟨x76,h77,v79,h80,hF⟩:=tW hF
    refine go ?_ ?_
    exact aF (fun a w hh=>⟨x76,v79,hF,(bC h77 q56),dI [0,1] hh⟩)
   refine aV ?_
   obtain rfl:=eP hF
   exact nK Jj66 ⟨x52,hRl65,q56,rfl,rfl⟩ [0]
  obtain⟨ol38,hL,hRl38⟩:=aM hF
  refine cA (fun k a w=>∃(x37:Int),l9 K v5 x34 k x37=some ol38∧hs _ [⟨some b33,1,139,6,1,(mF.enc v31)⟩] [(6,.vc (pI .i64 v5)),(10,.vc (pP (some b33) 0)),(55,.vc (pS (bJ cQ) x34)),(56,.vc (pI .i64 (x34.length:Int))),(57,.vc (pI .i64 x37))] a w) K (fun a w ⟨_,hF,_⟩=>by cases hF) (fun k a w ⟨x37,hF,hh⟩=>b0 ?_ hh) (fun a w hh=>⟨0,hL,dI [0] hh⟩)
  rw [l9.eq_2] at hF
  refine go ?_ ?_
  refine aB hF rfl (fun h81 hF=>?_) (fun h81 hF=>?_)
  ·refine go ?_ ?_
   refine aG ?_
   obtain⟨v82,h83,v84,h85,hF⟩:=tW hF
   obtain⟨v86,h87,hF⟩:=aW hF eS
   refine go ?_ ?_
   refine aB hF rfl (fun h88 hF=>?_) (fun h88 hF=>?_)
   ·refine aC (aH (aI (aL (.inr rfl)) ⟨cD cQ,trivial⟩ ?_))
    exact bI
   obtain⟨v89,h90,hF⟩:=aM hF
   refine go ?_ ?_
   exact aF (fun a w hh=>⟨v89,hF,dI [0] hh⟩)
  refine aV ?_
  obtain rfl:=eP hF
  exact nK Jj39 ⟨hRl38,rfl,rfl⟩ [0]
 obtain⟨x23',hL,hRl29⟩:=aM hF
 refine cA (fun k a w=>∃(x16:List (List Rat)),∃(x22:Int),∃(b17:Option Nat),∃(c18:Nat),∃(n19:Nat),l3 K a0 a1 k x16 x22=some x23'∧x16.length=n19∧hs _ [hO (bJ cQ) b17 c18 24 n19 x16] [(1,.vc (pS cQ a1)),(6,.vc (pI .i64 v5)),(7,.vc (pO b17 n19 c18)),(28,.vc (pS (bJ cQ) a0)),(29,.vc (pI .i64 (a0.length:Int))),(30,.vc (pI .i64 x22))] a w) K (fun a w ⟨_,_,_,_,_,hF,_,_⟩=>by cases hF) (fun k a w ⟨x16,x22,b17,c18,n19,hF,q20,hh⟩=>b0 ?_ hh) (fun a w hh=>⟨([]:List (List Rat)),0,none,0,0,hL,rfl,dI [0] hh⟩)
 rw [l3.eq_2] at hF
 refine go ?_ ?_
 refine aB hF rfl (fun h91 hF=>?_) (fun h91 hF=>?_)
 ·refine go ?_ ?_
  refine aG ?_
  obtain⟨v92,h93,v96,h97,v100,h101,x102,h103,hF⟩:=bn4 hF
  refine go ?_ ?_
  refine r6 (HsM [(0,fun G94=>[hO (bJ cQ) b17 c18 24 n19 x16]),(1,fun G94=>[hO cQ ((G94 2).1) ((G94 2).2) 42 v96.length v96,hO (bJ cQ) b17 c18 24 n19 x16]),(3,fun G94=>[hO (bJ cQ) b17 c18 24 n19 x16])]) [2,8] [0,0,2,0,0,24,56,120,254,510,1023,2047] 10 2 [.v (.vc (pO b17 n19 c18)),.v (.vc (pS cQ v92)),.g (fun b c=>.vc (pO b v96.length c)),.v (.vc (pS cQ a1)),.v (.vc (pI .i64 x22)),.v (.vc (pM (cQ.e v100))),.v (.va (eQ v100)),.v (.vc (pS cQ [v100])),.g (fun _ _=>.vc (pS cQ x102)),.v (.vc (pS (bJ cQ) [x102]))] aU ⟨⟨rfl,.run (L:=[0,1,3]) ⟨fun G94 A=>aL (.inl rfl),fun G94 A=>aL (.inl rfl),fun G94 A=>aL (.inl rfl),trivial⟩ (fun G94=>zU1)⟩,d1 0 (aL (.inl rfl)) zU1,⟨rfl,.hvy [0] ⟨fun G94 A=>aIu rfl (wP h97) rfl,trivial⟩ (fun G94=>zU1)⟩,⟨rfl,.run (L:=[0,1]) ⟨fun G94 A=>aL (.inl rfl),fun G94 A=>aL (.inl rfl),trivial⟩ (fun G94=>zU1)⟩,⟨rfl,.run (L:=[0,1]) ⟨fun G94 A=>aL (.inl rfl),fun G94 A=>aL (.inl rfl),trivial⟩ (fun G94=>zU1)⟩,⟨rfl,.run (L:=[0,1]) ⟨fun G94 A=>zS rfl tyS24 h101,fun G94 A=>zS rfl tyS24 h101,trivial⟩ (fun G94=>zU2)⟩,⟨rfl,.run (L:=[0,1]) ⟨fun G94 A=>x0 4 rfl rfl (.agg tyA42),fun G94 A=>x0 4 rfl rfl (.agg tyA42),trivial⟩ (fun G94=>zU1)⟩,⟨rfl,.run (L:=[0,1]) ⟨fun G94 A=>eR (C:=cQ) (xs:=[.tmp 41]) (ps:=[.va (eQ v100)]) (zs:=[v100]) rfl tyS24 rfl ⟨⟨trivial,rfl⟩,trivial⟩ rfl,fun G94 A=>eR (C:=cQ) (xs:=[.tmp 41]) (ps:=[.va (eQ v100)]) (zs:=[v100]) rfl tyS24 rfl ⟨⟨trivial,rfl⟩,trivial⟩ rfl,trivial⟩ (fun G94=>zU1)⟩,⟨rfl,.hvy [1] ⟨fun G94 A=>aB8 (aJ5 0 (aBc 0 rfl tyS24 rfl rfl rfl h103) (fun _ _=>rfl) (bD h103 rfl) (fun _ _=>rfl)),trivial⟩ (fun G94=>zU2)⟩,d1 3 (eR (C:=(bJ cQ)) (xs:=[.tmp 43]) (ps:=[.vc (pS cQ x102)]) (zs:=[x102]) rfl tyS23 rfl ⟨⟨trivial,rfl⟩,trivial⟩ rfl) zU1,trivial⟩ (fun bs95 G94=>?_)
  obtain⟨x106,h107,hF⟩:=aM hF
  refine iK 0 rfl tyS23 rfl rfl q20 rfl rfl h107 (fun b108 c109 H110 e111=>?_)
  cases e111
  obtain⟨v113,h114,hF⟩:=aM hF
  refine go ?_ ?_
  exact aF (fun a w hh=>⟨x106,v113,b108,c109,(n19+[x102].length),hF,(bD h107 q20),dI [0] hh⟩)
 refine aV ?_
 obtain rfl:=eP hF
 exact nK Jj30 ⟨x16,b17,c18,n19,hRl29,q20,rfl,rfl⟩ [0]
def mK (K:Nat) (x96:List Rat):Option ((List Rat)×Bool):=
 some (x96,true)
def eO (K:Nat) (x17:List Int) (v79:(List Rat)×Int):Nat→(List Rat)→Int→Option (List Rat)
 |0,_,_=>none
 |k+1,x89,x95=>bif(decide (x95<(x17.length:Int))) then((bF x17 x95).bind fun v105=>(bF v79.1 x95).bind fun v107=>(bF x89 v105).bind fun v109=>(qL x89 v105 v107).bind fun x111=>(aS (x95+1)).bind fun v114=>eO K x17 v79 k x111 v114) else(some x89)
def mQ (K:Nat) (a1:List Rat) (x17:List Int) (x55:List Rat) (x61:List (List Rat)):Option ((List Rat)×Bool):=
 (mkL (a1.length:Int) 0).bind fun x69=>bif((x17.length:Int)==0) then(some (x69,true)) else((xA K x61).bind fun v75=>bif(v75.2 != 0) then(some ([],false)) else(bif(v75.1 != (x17.length:Int)) then(some ([],false)) else((wQ K x61 x55).bind fun v79=>bif(v79.2 != 0) then(some ([],false)) else((eO K x17 v79 K x69 0).bind fun x96=>mK K x96))))
def mJ (K:Nat) (a1:List Rat) (x42:List Rat) (x48:List (List Rat)) (x54:Int) (v117:Int) (recl67:(List Rat)→(List (List Rat))→Int→Option ((List Rat)×(List (List Rat)))) (x135:List Rat):Option ((List Rat)×(List (List Rat))):=
 (oG x48 [x135]).bind fun x143=>(bF a1 v117).bind fun v150=>(aCh v150).bind fun v152=>(oG x42 [v152]).bind fun x154=>(aS (x54+1)).bind fun v161=>recl67 x154 x143 v161
def eM (K:Nat) (a0:List (List Rat)) (x17:List Int) (v117:Int):Nat→(List Rat)→Int→Option (List Rat)
 |0,_,_=>none
 |k+1,x128,x134=>bif(decide (x134<(x17.length:Int))) then((bF x17 x134).bind fun v164=>(bF a0 v117).bind fun v166=>(bF v166 v164).bind fun v168=>(oG x128 [v168]).bind fun x170=>(aS (x134+1)).bind fun v177=>eM K a0 x17 v117 k x170 v177) else(some x128)
def dP (K:Nat) (a0:List (List Rat)) (a1:List Rat) (x17:List Int):Nat→(List Rat)→(List (List Rat))→Int→Option ((List Rat)×(List (List Rat)))
 |0,_,_,_=>none
 |k+1,x42,x48,x54=>bif(decide (x54<(x17.length:Int))) then((bF x17 x54).bind fun v117=>(eM K a0 x17 v117 K ([]:List Rat) 0).bind fun x135=>mJ K a1 x42 x48 x54 v117 (dP K a0 a1 x17 k) x135) else(some (x42,x48))
def mU (K:Nat) (a0:List (List Rat)) (a1:List Rat) (x17:List Int):Option ((List Rat)×Bool):=
 (dP K a0 a1 x17 K ([]:List Rat) ([]:List (List Rat)) 0).bind fun(x55,x61)=>mQ K a1 x17 x55 x61
def dN (K:Nat) (a2:List Bool):Nat→(List Int)→Int→Option (List Int)
 |0,_,_=>none
 |k+1,x10,x16=>bif(decide (x16<(a2.length:Int))) then((bF a2 x16).bind fun v180=>bif v180 then((oG x10 [x16]).bind fun x183=>(aS (x16+1)).bind fun v190=>dN K a2 k x183 v190) else((aS (x16+1)).bind fun v192=>dN K a2 k x10 v192)) else(some x10)
def nE (K:Nat) (a0:List (List Rat)) (a1:List Rat) (a2:List Bool):Option ((List Rat)×Bool):=
 (dN K a2 K ([]:List Int) 0).bind fun x17=>mU K a0 a1 x17
theorem aBo {K:Nat} {a0:List (List Rat)} {a1:List Rat} {a2:List Bool} {r:(List Rat)×Bool} (hF:nE K a0 a1 a2=some r):Ct Tryz.prog 65 [.vc (pS (bJ cQ) a0),.vc (pS cQ a1),.vc (pS cB a2)] (.t2 (.vc (pS cQ r.1)) (.vc (pB r.2))):=by
 unfold nE at hF
 refine aA Tryz.func65 rfl (by kernel_rfl) Tryz.ntmps65 rfl (fun w0 M0=>?_)
 refine aC (aH (aI (aL (.inr rfl)) ⟨cD cQ,trivial⟩ ?_))
 refine aI (aL (.inr rfl)) ⟨k_B _,trivial⟩ ?_
 refine aT (aJ (aC (aH (jP cI 3 rfl ?_))))
 refine go ?_ ?_
 refine aG (aP (fun H E=>∃(x17:List Int),∃(b18:Option Nat),∃(c19:Nat),∃(n20:Nat),mU K a0 a1 x17=some r∧x17.length=n20∧H=[hO cI b18 c19 3 n20 x17]∧E=[(0,.vc (pS (bJ cQ) a0)),(1,.vc (pS cQ a1)),(8,.vc (pO b18 n20 c19))]) ?_ (fun Jj24=>?_))
 ·rintro _ _ ⟨x17,b18,c19,n20,hF,q21,rfl,rfl⟩
  unfold mU at hF
  refine aJ (aC (aH (jP (bJ cQ) 24 rfl ?_)))
  refine aT (aJ (aC (aH (jP cQ 42 rfl ?_))))
  refine go ?_ ?_
  refine aG (aP (fun H E=>∃(x55:List Rat),∃(x61:List (List Rat)),∃(b56:Option Nat),∃(c57:Nat),∃(n58:Nat),∃(b62:Option Nat),∃(c63:Nat),∃(n64:Nat),mQ K a1 x17 x55 x61=some r∧x55.length=n58∧x61.length=n64∧H=[hO cQ b56 c57 42 n58 x55,hO (bJ cQ) b62 c63 24 n64 x61,hO cI b18 c19 3 n20 x17]∧E=[(1,.vc (pS cQ a1)),(8,.vc (pO b18 n20 c19)),(11,.vc (pO b62 n64 c63)),(12,.vc (pO b56 n58 c57))]) ?_ (fun Jj68=>?_))
  ·rintro _ _ ⟨x55,x61,b56,c57,n58,b62,c63,n64,hF,q59,q65,rfl,rfl⟩
   unfold mQ at hF
   obtain⟨x69,h70,hF⟩:=aM hF
   refine go ?_ ?_
   refine nN (C:=cQ) rfl tyS24 rfl tyZ42q rfl h70 (fun b71=>?_)
   refine go ?_ ?_
   refine aB hF rfl (fun h74 hF=>?_) (fun h74 hF=>?_)
   ·refine go ?_ ?_
    refine dQ (dL (lF 0 [6,18,76,80] rfl rfl ⟨rfl,rfl,rfl,rfl,trivial⟩ rfl ?_))
    obtain rfl:=eP hF
    exact eE (.inl rfl) Tryz.results65 (.tmp rfl (.tmp rfl .nil)) rfl rfl
   refine eU (aJ (aC (aC (aH (dS ?_)))))
   refine tV 2 [11,82] rfl q65 zU2 rfl ?_
   obtain⟨v75,h76,hF⟩:=aW hF aGs
   refine go ?_ ?_
   refine cC hF (fun h77 hF=>?_) (fun h77 hF=>?_)
   ·refine go ?_ ?_
    refine fV rfl ?_
    refine aC (aH (aI (aL (.inr rfl)) ⟨cD cQ,trivial⟩ ?_))
    exact bI
   refine go ?_ ?_
   refine aB hF rfl (fun h78 hF=>?_) (fun h78 hF=>?_)
   ·refine aC (aH (aI (aL (.inr rfl)) ⟨cD cQ,trivial⟩ ?_))
    exact bI
   refine eU (aJ (aC (aH (dS ?_))))
   refine dS ?_
   refine tV 1 [12,96] rfl q59 zU2 rfl ?_
   obtain⟨v79,h80,hF⟩:=aW hF aFn
   refine go ?_ ?_
   refine aB hF rfl (fun h81 hF=>?_) (fun h81 hF=>?_)
   ·refine aC (aH (aI (aL (.inr rfl)) ⟨cD cQ,trivial⟩ ?_))
    exact bI
   refine go ?_ ?_
   refine aG (aP (fun H E=>∃(x96:List Rat),mK K x96=some r∧x96.length=x69.length∧H=[hO cQ b71 x69.length 42 x69.length x96]∧E=[(18,.vc (pO b71 x69.length x69.length))]) ?_ (fun Jj103=>?_))
   ·rintro _ _ ⟨x96,hF,q100,rfl,rfl⟩
    unfold mK at hF
    refine go ?_ ?_
    refine dQ (dL (lF 0 [6,18,117] rfl q100 ⟨rfl,rfl,rfl,trivial⟩ rfl ?_))
    obtain rfl:=eP hF
    exact eE (.inl rfl) Tryz.results65 (.tmp rfl (.tmp rfl .nil)) rfl rfl
   obtain⟨x96',hL,hRl102⟩:=aM hF
   refine cA (fun k a w=>∃(x89:List Rat),∃(x95:Int),eO K x17 v79 k x89 x95=some x96'∧x89.length=x69.length∧hs _ [hO cQ b71 x69.length 42 x69.length x89,hO cI b18 c19 3 n20 x17] [(18,.vc (pO b71 x69.length x69.length)),(21,.vc (pS cQ v79.1)),(102,.vc (pO b18 n20 c19)),(103,.vc (pI .i64 (x17.length:Int))),(104,.vc (pI .i64 x95))] a w) K (fun a w ⟨_,_,hF,_,_⟩=>by cases hF) (fun k a w ⟨x89,x95,hF,q93,hh⟩=>b0 ?_ hh) (fun a w hh=>⟨x69,0,hL,rfl,dI [0,1] hh⟩)
   rw [eO.eq_2] at hF
   refine go ?_ ?_
   refine aB hF rfl (fun h104 hF=>?_) (fun h104 hF=>?_)
   ·refine go ?_ ?_
    refine aG ?_
    obtain⟨v105,h106,v107,h108,v109,h110,x111,h112,hF⟩:=bn4 hF
    obtain⟨v114,h115,hF⟩:=aM hF
    refine go ?_ ?_
    exact aF (fun a w hh=>⟨x111,v114,hF,(bC h112 q93),dI [0,1] hh⟩)
   refine aV ?_
   obtain rfl:=eP hF
   exact nK Jj103 ⟨x89,hRl102,q93,rfl,rfl⟩ [0]
  obtain⟨⟨x55',x61'⟩,hL,hRl67⟩:=aM hF
  refine cA (fun k a w=>∃(x42:List Rat),∃(x48:List (List Rat)),∃(x54:Int),∃(b43:Option Nat),∃(c44:Nat),∃(n45:Nat),∃(b49:Option Nat),∃(c50:Nat),∃(n51:Nat),dP K a0 a1 x17 k x42 x48 x54=some (x55',x61')∧x42.length=n45∧x48.length=n51∧hs _ [hO cQ b43 c44 42 n45 x42,hO (bJ cQ) b49 c50 24 n51 x48,hO cI b18 c19 3 n20 x17] [(0,.vc (pS (bJ cQ) a0)),(1,.vc (pS cQ a1)),(8,.vc (pO b18 n20 c19)),(11,.vc (pO b49 n51 c50)),(12,.vc (pO b43 n45 c44)),(38,.vc (pO b18 n20 c19)),(39,.vc (pI .i64 (x17.length:Int))),(40,.vc (pI .i64 x54))] a w) K (fun a w ⟨_,_,_,_,_,_,_,_,_,hF,_,_,_⟩=>by cases hF) (fun k a w ⟨x42,x48,x54,b43,c44,n45,b49,c50,n51,hF,q46,q52,hh⟩=>b0 ?_ hh) (fun a w hh=>⟨([]:List Rat),([]:List (List Rat)),0,none,0,0,none,0,0,hL,rfl,rfl,dI [0,1,2] hh⟩)
  rw [dP.eq_2] at hF
  refine go ?_ ?_
  refine aB hF rfl (fun h116 hF=>?_) (fun h116 hF=>?_)
  ·refine go ?_ ?_
   refine aG (aC (aH ?_))
   obtain⟨v117,h118,hF⟩:=aM hF
   refine aI (cY (C:=cI) 2 rfl tyS22 rfl q21 (aD h118).1 (aD h118).2.1) zU2 ?_
   refine aI (iD (k:=1) 2 rfl rfl h118 rfl (.one tyO3) rfl) zU1 ?_
   refine zP ?_
   refine aT (aJ (aC (aH (jP cQ 42 rfl ?_))))
   refine go ?_ ?_
   refine aG (aP (fun H E=>∃(x135:List Rat),∃(b136:Option Nat),∃(c137:Nat),∃(n138:Nat),mJ K a1 x42 x48 x54 v117 (dP K a0 a1 x17 k) x135=some (x55',x61')∧x135.length=n138∧H=[hO cQ b136 c137 42 n138 x135,hO cQ b43 c44 42 n45 x42,hO (bJ cQ) b49 c50 24 n51 x48,hO cI b18 c19 3 n20 x17]∧E=[(0,.vc (pS (bJ cQ) a0)),(1,.vc (pS cQ a1)),(8,.vc (pO b18 n20 c19)),(11,.vc (pO b49 n51 c50)),(12,.vc (pO b43 n45 c44)),(14,.vc (pI .i64 v117)),(15,.vc (pO b136 n138 c137)),(38,.vc (pO b18 n20 c19)),(39,.vc (pI .i64 (x17.length:Int))),(40,.vc (pI .i64 x54))]) ?_ (fun Jj142=>?_))
   ·rintro _ _ ⟨x135,b136,c137,n138,hF,q139,rfl,rfl⟩
    unfold mJ at hF
    refine aJ (aC (aH (dS ?_)))
    refine dS ?_
    refine tV 0 [15,62] rfl q139 zU2 rfl ?_
    refine aI (eR (C:=(bJ cQ)) (xs:=[.tmp 62]) (ps:=[.vc (pS cQ x135)]) (zs:=[x135]) rfl tyS23 rfl ⟨⟨trivial,rfl⟩,trivial⟩ rfl) zU1 ?_
    obtain⟨x143,h144,hF⟩:=aM hF
    refine iK 1 rfl tyS23 rfl rfl q52 rfl rfl h144 (fun b145 c146 H147 e148=>?_)
    cases e148
    obtain⟨v150,h151,hF⟩:=aM hF
    obtain⟨v152,h153,hF⟩:=aW hF wK
    refine go ?_ ?_
    refine aI (eR (C:=cQ) (xs:=[.tmp 70]) (ps:=[.va (eQ v152)]) (zs:=[v152]) rfl tyS24 rfl ⟨⟨trivial,rfl⟩,trivial⟩ rfl) zU1 ?_
    obtain⟨x154,h155,hF⟩:=aM hF
    refine iK 0 rfl tyS24 rfl rfl q46 rfl rfl h155 (fun b156 c157 H158 e159=>?_)
    cases e159
    obtain⟨v161,h162,hF⟩:=aM hF
    refine go ?_ ?_
    exact aF (fun a w hh=>⟨x154,x143,v161,b156,c157,(n45+[v152].length),b145,c146,(n51+[x135].length),hF,(bD h155 q46),(bD h144 q52),dI [0,1,2] hh⟩)
   obtain⟨x135',hL,hRl141⟩:=aM hF
   refine cA (fun k a w=>∃(x128:List Rat),∃(x134:Int),∃(b129:Option Nat),∃(c130:Nat),∃(n131:Nat),eM K a0 x17 v117 k x128 x134=some x135'∧x128.length=n131∧hs _ [hO cQ b129 c130 42 n131 x128,hO cQ b43 c44 42 n45 x42,hO (bJ cQ) b49 c50 24 n51 x48,hO cI b18 c19 3 n20 x17] [(0,.vc (pS (bJ cQ) a0)),(1,.vc (pS cQ a1)),(8,.vc (pO b18 n20 c19)),(11,.vc (pO b49 n51 c50)),(12,.vc (pO b43 n45 c44)),(14,.vc (pI .i64 v117)),(15,.vc (pO b129 n131 c130)),(38,.vc (pO b18 n20 c19)),(39,.vc (pI .i64 (x17.length:Int))),(40,.vc (pI .i64 x54)),(44,.vc (pO b18 n20 c19)),(45,.vc (pI .i64 (x17.length:Int))),(46,.vc (pI .i64 x134))] a w) K (fun a w ⟨_,_,_,_,_,hF,_,_⟩=>by cases hF) (fun k a w ⟨x128,x134,b129,c130,n131,hF,q132,hh⟩=>b0 ?_ hh) (fun a w hh=>⟨([]:List Rat),0,none,0,0,hL,rfl,dI [0,1,2,3] hh⟩)
   rw [eM.eq_2] at hF
   refine go ?_ ?_
   refine aB hF rfl (fun h163 hF=>?_) (fun h163 hF=>?_)
   ·refine go ?_ ?_
    refine aG ?_
    obtain⟨v164,h165,v166,h167,v168,h169,hF⟩:=bn3 hF
    refine go ?_ ?_
    refine aI (eR (C:=cQ) (xs:=[.tmp 57]) (ps:=[.va (eQ v168)]) (zs:=[v168]) rfl tyS24 rfl ⟨⟨trivial,rfl⟩,trivial⟩ rfl) zU1 ?_
    obtain⟨x170,h171,hF⟩:=aM hF
    refine iK 0 rfl tyS24 rfl rfl q132 rfl rfl h171 (fun b172 c173 H174 e175=>?_)
    cases e175
    obtain⟨v177,h178,hF⟩:=aM hF
    refine go ?_ ?_
    exact aF (fun a w hh=>⟨x170,v177,b172,c173,(n131+[v168].length),hF,(bD h171 q132),dI [0,1,2,3] hh⟩)
   refine aV ?_
   obtain rfl:=eP hF
   exact nK Jj142 ⟨x128,b129,c130,n131,hRl141,q132,rfl,rfl⟩ [0,1,2,3]
  refine aV ?_
  obtain⟨rfl,rfl⟩:=sm2 hF
  exact nK Jj68 ⟨x42,x48,b43,c44,n45,b49,c50,n51,hRl67,q46,q52,rfl,rfl⟩ [0,1,2]
 obtain⟨x17',hL,hRl23⟩:=aM hF
 refine cA (fun k a w=>∃(x10:List Int),∃(x16:Int),∃(b11:Option Nat),∃(c12:Nat),∃(n13:Nat),dN K a2 k x10 x16=some x17'∧x10.length=n13∧hs _ [hO cI b11 c12 3 n13 x10] [(0,.vc (pS (bJ cQ) a0)),(1,.vc (pS cQ a1)),(8,.vc (pO b11 n13 c12)),(25,.vc (pS cB a2)),(26,.vc (pI .i64 (a2.length:Int))),(27,.vc (pI .i64 x16))] a w) K (fun a w ⟨_,_,_,_,_,hF,_,_⟩=>by cases hF) (fun k a w ⟨x10,x16,b11,c12,n13,hF,q14,hh⟩=>b0 ?_ hh) (fun a w hh=>⟨([]:List Int),0,none,0,0,hL,rfl,dI [0] hh⟩)
 rw [dN.eq_2] at hF
 refine go ?_ ?_
 refine aB hF rfl (fun h179 hF=>?_) (fun h179 hF=>?_)
 ·refine go ?_ ?_
  refine aG ?_
  obtain⟨v180,h181,hF⟩:=aM hF
  refine go ?_ ?_
  refine aB hF rfl (fun h182 hF=>?_) (fun h182 hF=>?_)
  ·refine go ?_ ?_
   refine aI (eR (C:=cI) (xs:=[.tmp 34]) (ps:=[.vc (pI .i64 x16)]) (zs:=[x16]) rfl tyS22 rfl ⟨⟨trivial,rfl⟩,trivial⟩ rfl) zU1 ?_
   obtain⟨x183,h184,hF⟩:=aM hF
   refine iK 0 rfl tyS22 rfl rfl q14 rfl rfl h184 (fun b185 c186 H187 e188=>?_)
   cases e188
   obtain⟨v190,h191,hF⟩:=aM hF
   refine go ?_ ?_
   exact aF (fun a w hh=>⟨x183,v190,b185,c186,(n13+[x16].length),hF,(bD h184 q14),dI [0] hh⟩)
  obtain⟨v192,h193,hF⟩:=aM hF
  refine go ?_ ?_
  exact aF (fun a w hh=>⟨x10,v192,b11,c12,n13,hF,q14,dI [0] hh⟩)
 refine aV ?_
 obtain rfl:=eP hF
 exact nK Jj24 ⟨x10,b11,c12,n13,hRl23,q14,rfl,rfl⟩ [0]
def tE (K:Nat) (a0:List Rat) (a1:List Rat):Option Bool:=
 some ((a0.length:Int)==(a1.length:Int))
def kH (K:Nat) (a0:List Rat) (a1:List Rat):Nat→Int→Option (LR Bool Unit)
 |0,_=>none
 |k+1,x2=>bif(decide (x2<(a0.length:Int))) then((bF a0 x2).bind fun v8=>(bF a1 x2).bind fun v10=>(aHE v8 v10).bind fun v12=>bif(!v12) then(some (.ret false)) else((aS (x2+1)).bind fun v15=>kH K a0 a1 k v15)) else(some (.go ()))
def tC (K:Nat) (a0:List Rat) (a1:List Rat):Option Bool:=
 (kH K a0 a1 K 0).bind fun o=>match o with| .ret r=>some r| .go _=>tE K a0 a1
theorem aDy {K:Nat} {a0:List Rat} {a1:List Rat} {r:Bool} (hF:tC K a0 a1=some r):Ct Tryz.prog 66 [.vc (pS cQ a0),.vc (pS cQ a1)] (.vc (pB r)):=by
 unfold tC at hF
 refine aA Tryz.func66 rfl (by kernel_rfl) Tryz.ntmps66 rfl (fun w0 M0=>?_)
 refine go ?_ ?_
 refine aG (aP (fun H E=>tE K a0 a1=some r∧H=[]∧E=[(0,.vc (pS cQ a0)),(1,.vc (pS cQ a1))]) ?_ (fun Jj4=>?_))
 ·rintro _ _ ⟨hF,rfl,rfl⟩
  unfold tE at hF
  exact bI
 obtain⟨ol3,hL,hRl3⟩:=aM hF
 refine cA (fun k a w=>∃(x2:Int),kH K a0 a1 k x2=some ol3∧hs _ [] [(0,.vc (pS cQ a0)),(1,.vc (pS cQ a1)),(7,.vc (pI .i64 (a0.length:Int))),(8,.vc (pI .i64 x2))] a w) K (fun a w ⟨_,hF,_⟩=>by cases hF) (fun k a w ⟨x2,hF,hh⟩=>b0 ?_ hh) (fun a w hh=>⟨0,hL,dI [] hh⟩)
 rw [kH.eq_2] at hF
 refine go ?_ ?_
 refine aB hF rfl (fun h5 hF=>?_) (fun h5 hF=>?_)
 ·refine go ?_ ?_
  refine aG ?_
  obtain⟨v8,h9,v10,h11,hF⟩:=tW hF
  obtain⟨v12,h13,hF⟩:=aW hF aIP
  refine go ?_ ?_
  refine dr [0,0,3,7,0,0,48,112,255,511] 10 0 ?_ (fun bs7 G6=>?_)
  refine aT (aJ (aB hF rfl (fun h14 hF=>?_) (fun h14 hF=>?_)))
  ·exact bI
  obtain⟨v15,h16,hF⟩:=aM hF
  refine go ?_ ?_
  exact aF (fun a w hh=>⟨v15,hF,dI [] hh⟩)
 refine aV ?_
 obtain rfl:=eP hF
 exact nK Jj4 ⟨hRl3,rfl,rfl⟩ []
def qA (a0:Int):Option Int:=
 some a0
theorem aAU {a0:Int} {r:Int} (hF:qA a0=some r):CtO Tryz.prog 64 [] [.vc (pI .i64 a0)] (fun Ho q=>Ho=[]∧q=.vc (pF 102 [pM (cI.e r)])):=by
 unfold qA at hF
 refine aA Tryz.func64 rfl (by kernel_rfl) Tryz.ntmps64 rfl (fun w0 M0=>?_)
 refine aC (aH (bV rfl rfl trivial (fun b1=>?_)))
 refine aI (aL (p:=.any) (.inr rfl)) ⟨fun _=>trivial,trivial⟩ ?_
 refine aT (aJ (aC (aH (aFV 0 [(1,0)] rfl zU1 rfl ?_))))
 refine aI (aMH (xs:=[.tmp 1]) (cs:=[pM (cI.e a0)]) rfl rfl) zU1 ?_
 refine go ?_ ?_
 refine dQ (dL ?_)
 obtain rfl:=eP hF
 exact aCq (.inl rfl) Tryz.results64 (.tmp rfl .nil) rfl [] rfl (by decide) ⟨rfl,rfl⟩
def k5 (K:Nat) (x29:List (List Rat)):Option (Nat×(List (List Rat))):=
 some (0,x29)
def k9 (K:Nat) (yF:(List Bool)→(List (List Rat))→Option (Nat×(List (List Rat)))) (x22:List (List Rat)) (x28:Int) (recl35:(List (List Rat))→Int→Option (LR (Nat×(List (List Rat))) (List (List Rat)))) (x57:List Bool):Option (LR (Nat×(List (List Rat))) (List (List Rat))):=
 (yF x57 x22).bind fun v65=>bif Nat.beq v65.1 0 then((aS (x28+1)).bind fun v74=>recl35 v65.2 v74) else(some (.ret (v65.1,v65.2)))
def dR (K:Nat) (x28:Int) (x38:List Bool):Nat→(List Bool)→Int→Option (List Bool)
 |0,_,_=>none
 |k+1,x50,x56=>bif(decide (x56<(x38.length:Int))) then((aNQ x28 x56).bind fun v85=>(bF x50 x56).bind fun v87=>(qL x50 x56 ((ian v85 1)==1)).bind fun x89=>(aS (x56+1)).bind fun v92=>dR K x28 x38 k x89 v92) else(some x50)
def cM (K:Nat) (a0:Int) (yF:(List Bool)→(List (List Rat))→Option (Nat×(List (List Rat)))) (v13:Int):Nat→(List (List Rat))→Int→Option (LR (Nat×(List (List Rat))) (List (List Rat)))
 |0,_,_=>none
 |k+1,x22,x28=>bif(decide (x28<v13)) then((mkL a0 false).bind fun x38=>(dR K x28 x38 K x38 0).bind fun x57=>k9 K yF x22 x28 (cM K a0 yF v13 k) x57) else(some (.go x22))
def nV (K:Nat) (yF:(List Bool)→(List (List Rat))→Option (Nat×(List (List Rat)))) (a0:Int) (a1:List Rat) (a2:List (List Rat)) (a3:List (List Rat)):Option (Nat×(List (List Rat))):=
 (aOP 1 a0).bind fun v13=>(cM K a0 yF v13 K a3 0).bind fun o=>match o with| .ret r=>some r| .go x29=>k5 K x29
theorem aAq {K:Nat} {yF:(List Bool)→(List (List Rat))→Option (Nat×(List (List Rat)))} {l:Nat} {x:LX} {jump:Nat→Code} {Mb:jI} {a0:Int} {a1:List Rat} {a2:List (List Rat)} {a3:List (List Rat)} {p0:Nat} {p1:Nat} {p2:Nat} {b2:Option Nat} {c3 n4:Nat} (hY:∀(k0:List Bool) (x7:List (List Rat)) (r:Nat×(List (List Rat))) (b8:Option Nat) (c9:Nat) (n10:Nat),x7.length=n10→yF k0 x7=some r→CtY Tryz.prog l x jump Mb [⟨some p0,1,23,1,1,[pO b8 n10 c9]⟩,⟨some p1,1,24,1,1,[pS cQ a1]⟩,⟨some p2,1,23,1,1,[pS (bJ cQ) a2]⟩,hO (bJ cQ) b8 c9 24 n10 x7] [.vc (pS cB k0)] (fun j Ho=>∃(b8':Option Nat),∃(c9':Nat),∃(n10':Nat),j=r.1∧r.2.length=n10'∧Ho=[⟨some p0,1,23,1,1,[pO b8' n10' c9']⟩,⟨some p1,1,24,1,1,[pS cQ a1]⟩,⟨some p2,1,23,1,1,[pS (bJ cQ) a2]⟩,hO (bJ cQ) b8' c9' 24 n10' r.2])) {r:Nat×(List (List Rat))} (hF:nV K yF a0 a1 a2 a3=some r) (q5:a3.length=n4):CtI Tryz.prog 102 l x jump Mb [⟨some p0,1,23,1,1,[pO b2 n4 c3]⟩,⟨some p1,1,24,1,1,[pS cQ a1]⟩,⟨some p2,1,23,1,1,[pS (bJ cQ) a2]⟩,hO (bJ cQ) b2 c3 24 n4 a3] [.vc (pY l),.vc (pM (cI.e a0))] (fun j Ho=>∃(b8':Option Nat),∃(c9':Nat),∃(n10':Nat),j=r.1∧r.2.length=n10'∧Ho=[⟨some p0,1,23,1,1,[pO b8' n10' c9']⟩,⟨some p1,1,24,1,1,[pS cQ a1]⟩,⟨some p2,1,23,1,1,[pS (bJ cQ) a2]⟩,hO (bJ cQ) b8' c9' 24 n10' r.2]):=by
 unfold nV at hF
 refine aG4 Tryz.func102 rfl (by kernel_rfl) Tryz.ntmps102 rfl (fun w0 M0 h0 hMb=>?_)
 obtain⟨v13,h14,hF⟩:=aM hF
 refine go ?_ ?_
 refine aI (aSM rfl h14) ⟨qM _ _,rfl,trivial⟩ ?_
 refine go ?_ ?_
 refine aG (aP (fun H E=>∃(x29:List (List Rat)),∃(b30:Option Nat),∃(c31:Nat),∃(n32:Nat),k5 K x29=some r∧x29.length=n32∧H=[⟨some p0,1,23,1,1,[pO b30 n32 c31]⟩,⟨some p1,1,24,1,1,[pS cQ a1]⟩,⟨some p2,1,23,1,1,[pS (bJ cQ) a2]⟩,hO (bJ cQ) b30 c31 24 n32 x29]∧E=[]) ?_ (fun Jj36=>?_))
 ·rintro _ _ ⟨x29,b30,c31,n32,hF,q33,rfl,rfl⟩
  unfold k5 at hF
  obtain rfl:=eP hF
  exact aFv 0 (.inr rfl) Tryz.results102 h0 (aBv [0,1,2,3] rfl) ⟨b30,c31,n32,rfl,q33,rfl⟩
 obtain⟨ol35,hL,hRl35⟩:=aM hF
 refine cA (fun k a w=>∃(x22:List (List Rat)),∃(x28:Int),∃(b23:Option Nat),∃(c24:Nat),∃(n25:Nat),cM K a0 yF v13 k x22 x28=some ol35∧x22.length=n25∧hs _ [⟨some p0,1,23,1,1,[pO b23 n25 c24]⟩,⟨some p1,1,24,1,1,[pS cQ a1]⟩,⟨some p2,1,23,1,1,[pS (bJ cQ) a2]⟩,hO (bJ cQ) b23 c24 24 n25 x22] [(0,.vc (pY l)),(1,.vc (pM (cI.e a0))),(7,.vc (pI .i64 v13)),(8,.vc (pI .i64 x28))] a w) K (fun a w ⟨_,_,_,_,_,hF,_,_⟩=>by cases hF) (fun k a w ⟨x22,x28,b23,c24,n25,hF,q26,hh⟩=>b0 ?_ hh) (fun a w hh=>⟨a3,0,b2,c3,n4,hL,q5,dI [0,1,2,3] hh⟩)
 rw [cM.eq_2] at hF
 refine go ?_ ?_
 refine aB hF rfl (fun h37 hF=>?_) (fun h37 hF=>?_)
 ·refine go ?_ ?_
  refine aG ?_
  obtain⟨x38,h39,hF⟩:=aM hF
  refine go ?_ ?_
  refine nN (C:=cB) rfl tyS85 rfl tyZ4q rfl h39 (fun b40=>?_)
  refine go ?_ ?_
  refine aG (aP (fun H E=>∃(x57:List Bool),k9 K yF x22 x28 (cM K a0 yF v13 k) x57=some ol35∧x57.length=x38.length∧H=[hO cB b40 x38.length 4 x38.length x57,⟨some p0,1,23,1,1,[pO b23 n25 c24]⟩,⟨some p1,1,24,1,1,[pS cQ a1]⟩,⟨some p2,1,23,1,1,[pS (bJ cQ) a2]⟩,hO (bJ cQ) b23 c24 24 n25 x22]∧E=[(0,.vc (pY l)),(1,.vc (pM (cI.e a0))),(4,.vc (pO b40 x38.length x38.length)),(7,.vc (pI .i64 v13)),(8,.vc (pI .i64 x28))]) ?_ (fun Jj64=>?_))
  ·rintro _ _ ⟨x57,hF,q61,rfl,rfl⟩
   unfold k9 at hF
   refine aJ (aC (aH (dS ?_)))
   refine dS ?_
   refine tV 0 [4,28] rfl q61 zU2 rfl ?_
   obtain⟨v65,h66,hF⟩:=aM hF
   refine aRm rfl (hY _ _ _ _ _ _ q26 h66) h0 hMb zU2 ?_ ?_
   ·skip
    rintro _ ⟨b69,c70,n71,hj67,q72,rfl⟩
    have hF:=vK (show Nat.beq v65.1 0=true by rw [←hj67];rfl) hF
    refine go ?_ ?_
    refine wX rfl ?_
    obtain⟨v74,h75,hF⟩:=aM hF
    refine go ?_ ?_
    exact aF (fun a w hh=>⟨v65.2,v74,b69,c70,n71,hF,q72,dI [0,1,2,3] hh⟩)
   rintro j76 _ ⟨b79,c80,n81,hj77,q82,rfl⟩
   have hF:=tU (show Nat.beq v65.1 0=false by rw [←hj77];rfl) hF
   refine go ?_ ?_
   refine fV rfl ?_
   refine dQ (dL ?_)
   obtain rfl:=eP hF
   obtain rfl:=eP hRl35
   exact aFv (j76+1) (.inl rfl) Tryz.results102 h0 (aBv [0,1,2,3] rfl) ⟨b79,c80,n81,hj77,q82,rfl⟩
  obtain⟨x57',hL,hRl63⟩:=aM hF
  refine cA (fun k a w=>∃(x50:List Bool),∃(x56:Int),dR K x28 x38 k x50 x56=some x57'∧x50.length=x38.length∧hs _ [hO cB b40 x38.length 4 x38.length x50,⟨some p0,1,23,1,1,[pO b23 n25 c24]⟩,⟨some p1,1,24,1,1,[pS cQ a1]⟩,⟨some p2,1,23,1,1,[pS (bJ cQ) a2]⟩,hO (bJ cQ) b23 c24 24 n25 x22] [(0,.vc (pY l)),(1,.vc (pM (cI.e a0))),(3,.vc (pI .i64 x28)),(4,.vc (pO b40 x38.length x38.length)),(7,.vc (pI .i64 v13)),(8,.vc (pI .i64 x28)),(14,.vc (pI .i64 (x38.length:Int))),(15,.vc (pI .i64 x56))] a w) K (fun a w ⟨_,_,hF,_,_⟩=>by cases hF) (fun k a w ⟨x50,x56,hF,q54,hh⟩=>b0 ?_ hh) (fun a w hh=>⟨x38,0,hL,rfl,dI [0,1,2,3,4] hh⟩)
  rw [dR.eq_2] at hF
  refine go ?_ ?_
  refine aB hF rfl (fun h84 hF=>?_) (fun h84 hF=>?_)
  ·refine go ?_ ?_
   refine aG ?_
   obtain⟨v85,h86,hF⟩:=aM hF
   refine go ?_ ?_
   refine aI (aRZ rfl h86) zU2 ?_
   refine aI (aRT rfl) ⟨rfl,qM _ _,trivial⟩ ?_
   obtain⟨v87,h88,x89,h90,v92,h93,hF⟩:=bn3 hF
   refine go ?_ ?_
   exact aF (fun a w hh=>⟨x89,v92,hF,(bC h90 q54),dI [0,1,2,3,4] hh⟩)
  refine aV ?_
  obtain rfl:=eP hF
  exact nK Jj64 ⟨x50,hRl63,q54,rfl,rfl⟩ [0,1,2,3,4]
 refine aV ?_
 obtain rfl:=eP hF
 exact nK Jj36 ⟨x22,b23,c24,n25,hRl35,q26,rfl,rfl⟩ [0,1,2,3]
def sU (K:Nat) (x17:List (List Rat)) (v27:(List Rat)×Bool):Option (Nat×(List (List Rat))):=
 (oG x17 [v27.1]).bind fun x37=>some (0,x37)
def kK (K:Nat) (x17:List (List Rat)) (v27:(List Rat)×Bool):Nat→Int→Option (LR (Nat×(List (List Rat))) Unit)
 |0,_=>none
 |k+1,x34=>bif(decide (x34<(x17.length:Int))) then((bF x17 x34).bind fun v45=>(tC K v45 v27.1).bind fun v47=>bif v47 then(some (.ret (0,x17))) else((aS (x34+1)).bind fun v50=>kK K x17 v27 k v50)) else(some (.go ()))
def pJ (K:Nat) (a0:List (List Rat)) (a1:List Rat) (k23:List Bool) (x17:List (List Rat)):Option (Nat×(List (List Rat))):=
 (nE K a0 a1 k23).bind fun v27=>bif(!v27.2) then(some (0,x17)) else((l4 K a0 a1 v27.1).bind fun v30=>bif(!v30) then(some (0,x17)) else((kK K x17 v27 K 0).bind fun o=>match o with| .ret r=>some r| .go _=>sU K x17 v27))
def iL (K:Nat) (a0:List (List Rat)) (a1:List Rat):Option ((List (List Rat))×Int):=
 (dC K a0 a1).bind fun v3=>bif(!v3) then(some ([],1)) else(bif(decide (8<(a1.length:Int))) then(some ([],4)) else((qA (a1.length:Int)).bind fun v14=>(nV K (pJ K a0 a1) v14 a1 a0 ([]:List (List Rat))).bind fun v25=>bif Nat.beq v25.1 0 then(some (v25.2,0)) else(none)))
theorem yG {K:Nat} {a0:List (List Rat)} {a1:List Rat} {r:(List (List Rat))×Int} (hF:iL K a0 a1=some r):Ct Tryz.prog 24 [.vc (pS (bJ cQ) a0),.vc (pS cQ a1)] (.t2 (.vc (pS (bJ cQ) r.1)) (.vc (pI .i64 r.2))):=by
 unfold iL at hF
 refine aA Tryz.func24 rfl (by kernel_rfl) Tryz.ntmps24 rfl (fun w0 M0=>?_)
 refine aC (aH (bV rfl rfl trivial (fun b1=>?_)))
 refine bV rfl rfl trivial (fun b2=>?_)
 refine aI (aL (.inr rfl)) ⟨cD (bJ cQ),trivial⟩ ?_
 obtain⟨v3,h4,hF⟩:=aW hF qP
 refine go ?_ ?_
 refine aB hF rfl (fun h5 hF=>?_) (fun h5 hF=>?_)
 ·refine aC (aH (aI (aL (.inr rfl)) ⟨cD (bJ cQ),trivial⟩ ?_))
  exact bI
 refine go ?_ ?_
 refine aB hF rfl (fun h6 hF=>?_) (fun h6 hF=>?_)
 ·refine aC (aH (aI (aL (.inr rfl)) ⟨cD (bJ cQ),trivial⟩ ?_))
  exact bI
 refine eU (aJ (aC (aH (aBa (bJ cQ) 24 ?_))))
 refine aN rfl tyZ23_oq (fun b13=>?_)
 obtain⟨v14,h15,hF⟩:=aM hF
 refine go ?_ ?_
 refine aFC [] [0,1,2,3] rfl (aAU h15) zU1 rfl rfl (by decide) ?_
 rintro _ _ ⟨rfl,rfl⟩
 refine aT (aJ (aG (aOY [0,2,3,1] rfl ?_)))
 obtain⟨v25,h26,hF⟩:=aM hF
 refine aOh (fun _=>Go.Code.skip) rfl (fun x l Mb hx1 hx2 hx3 ht=>aAq (fun k23 x17 rb24 b18 c19 n20 q21 hF=>?_) h26 rfl) (fun Ho hHo=>?_) (fun j Ho hHo=>?_)
 ·refine aG5 ht hx1 rfl (fun w0 M0 h0 hMb=>?_)
  rw [hx2,hx3]
  unfold pJ at hF
  refine go ?_ ?_
  refine aKQ h0 ?_
  refine aG ?_
  obtain⟨v27,h28,hF⟩:=aW hF aBo
  refine go ?_ ?_
  refine cC hF (fun h29 hF=>?_) (fun h29 hF=>?_)
  ·refine go ?_ ?_
   refine fV rfl ?_
   refine aV ?_
   obtain rfl:=eP hF
   exact aK9 h0 (aBv [0,1,2,3] rfl) ⟨b18,c19,n20,rfl,q21,rfl⟩
  obtain⟨v30,h31,hF⟩:=aW hF w4
  refine go ?_ ?_
  refine aB hF rfl (fun h32 hF=>?_) (fun h32 hF=>?_)
  ·refine aV ?_
   obtain rfl:=eP hF
   exact aK9 h0 (aBv [0,1,2,3] rfl) ⟨b18,c19,n20,rfl,q21,rfl⟩
  refine go ?_ ?_
  refine aG (aP (fun H E=>sU K x17 v27=some rb24∧H=[⟨some b13,1,23,1,1,[pO b18 n20 c19]⟩,⟨some b2,1,24,1,1,[pS cQ a1]⟩,⟨some b1,1,23,1,1,[pS (bJ cQ) a0]⟩,hO (bJ cQ) b18 c19 24 n20 x17]∧E=[(2,.vc (pP (some b1) 0)),(3,.vc (pP (some b2) 0)),(4,.vc (pS (bJ cQ) [])),(5,.vc (pI .i64 0)),(6,.vc (pP (some b13) 0)),(8,.vc (pS cQ v27.1)),(21,.vc (pF 102 [pM (cI.e v14)]))]) ?_ (fun Jj36=>?_))
  ·rintro _ _ ⟨hF,rfl,rfl⟩
   unfold sU at hF
   refine go ?_ ?_
   refine aI (eR (C:=(bJ cQ)) (xs:=[.tmp 50]) (ps:=[.vc (pS cQ v27.1)]) (zs:=[v27.1]) rfl tyS23 rfl ⟨⟨trivial,rfl⟩,trivial⟩ rfl) zU1 ?_
   obtain⟨x37,h38,hF⟩:=aM hF
   refine iK 3 rfl tyS23 rfl rfl q21 rfl rfl h38 (fun b39 c40 H41 e42=>?_)
   cases e42
   obtain rfl:=eP hF
   refine go ?_ ?_
   exact aK9 h0 (aBv [0,1,2,3] rfl) ⟨b39,c40,(n20+[v27.1].length),rfl,(bD h38 q21),rfl⟩
  obtain⟨ol35,hL,hRl35⟩:=aM hF
  refine cA (fun k a w=>∃(x34:Int),kK K x17 v27 k x34=some ol35∧hs _ [⟨some b13,1,23,1,1,[pO b18 n20 c19]⟩,⟨some b2,1,24,1,1,[pS cQ a1]⟩,⟨some b1,1,23,1,1,[pS (bJ cQ) a0]⟩,hO (bJ cQ) b18 c19 24 n20 x17] [(2,.vc (pP (some b1) 0)),(3,.vc (pP (some b2) 0)),(4,.vc (pS (bJ cQ) [])),(5,.vc (pI .i64 0)),(6,.vc (pP (some b13) 0)),(8,.vc (pS cQ v27.1)),(21,.vc (pF 102 [pM (cI.e v14)])),(39,.vc (pO b18 n20 c19)),(40,.vc (pI .i64 (x17.length:Int))),(41,.vc (pI .i64 x34))] a w) K (fun a w ⟨_,hF,_⟩=>by cases hF) (fun k a w ⟨x34,hF,hh⟩=>b0 ?_ hh) (fun a w hh=>⟨0,hL,dI [0,1,2,3] hh⟩)
  rw [kK.eq_2] at hF
  refine go ?_ ?_
  refine aB hF rfl (fun h44 hF=>?_) (fun h44 hF=>?_)
  ·refine go ?_ ?_
   refine aG ?_
   obtain⟨v45,h46,hF⟩:=aM hF
   obtain⟨v47,h48,hF⟩:=aW hF aDy
   refine go ?_ ?_
   refine aB hF rfl (fun h49 hF=>?_) (fun h49 hF=>?_)
   ·refine aV ?_
    obtain rfl:=eP hF
    obtain rfl:=eP hRl35
    exact aK9 h0 (aBv [0,1,2,3] rfl) ⟨b18,c19,n20,rfl,q21,rfl⟩
   obtain⟨v50,h51,hF⟩:=aM hF
   refine go ?_ ?_
   exact aF (fun a w hh=>⟨v50,hF,dI [0,1,2,3] hh⟩)
  refine aV ?_
  obtain rfl:=eP hF
  exact nK Jj36 ⟨hRl35,rfl,rfl⟩ [0,1,2,3]
 ·skip
  obtain⟨b54,c55,n56,hj52,q57,rfl⟩:=hHo
  have hF:=vK (show Nat.beq v25.1 0=true by rw [←hj52];rfl) hF
  refine go ?_ ?_
  refine dQ (dL (aRB 3 0 0 [4,53] rfl q57 rfl rfl rfl rfl rfl zU2 ?_))
  obtain rfl:=eP hF
  exact eE (.inl rfl) Tryz.results24 (.tmp rfl (.tmp rfl .nil)) rfl rfl
 obtain⟨b18,c19,n20,hj,q21,rfl⟩:=hHo
 have hF:=tU (show Nat.beq v25.1 0=false by rw [←hj];rfl) hF
 cases hF
def t9 (K:Nat) (x17:List Rat):Option (List Rat):=
 some x17
def kV (K:Nat) (a0:List (List Rat)) (a1:List Rat) (a2:List Rat):Nat→(List Rat)→Int→Option (List Rat)
 |0,_,_=>none
 |k+1,x10,x16=>bif(decide (x16<(a1.length:Int))) then((bF a1 x16).bind fun v28=>(bF a0 x16).bind fun v30=>(k6 K v30 a2).bind fun v32=>(aFc v28 v32).bind fun v34=>(oG x10 [v34]).bind fun x36=>(aS (x16+1)).bind fun v43=>kV K a0 a1 a2 k x36 v43) else(some x10)
def vJ (K:Nat) (a0:List (List Rat)) (a1:List Rat) (a2:List Rat):Option (List Rat):=
 (kV K a0 a1 a2 K ([]:List Rat) 0).bind fun x17=>t9 K x17
theorem aFb {K:Nat} {a0:List (List Rat)} {a1:List Rat} {a2:List Rat} {r:List Rat} (hF:vJ K a0 a1 a2=some r):Ct Tryz.prog 17 [.vc (pS (bJ cQ) a0),.vc (pS cQ a1),.vc (pS cQ a2)] (.vc (pS cQ r)):=by
 unfold vJ at hF
 refine aA Tryz.func17 rfl (by kernel_rfl) Tryz.ntmps17 rfl (fun w0 M0=>?_)
 refine aC (aH (aI (aL (.inr rfl)) ⟨cD cQ,trivial⟩ ?_))
 refine aT (aJ (aC (aH (jP cQ 42 rfl ?_))))
 refine go ?_ ?_
 refine aG (aP (fun H E=>∃(x17:List Rat),∃(b18:Option Nat),∃(c19:Nat),∃(n20:Nat),t9 K x17=some r∧x17.length=n20∧H=[hO cQ b18 c19 42 n20 x17]∧E=[(7,.vc (pO b18 n20 c19))]) ?_ (fun Jj24=>?_))
 ·rintro _ _ ⟨x17,b18,c19,n20,hF,q21,rfl,rfl⟩
  unfold t9 at hF
  refine go ?_ ?_
  refine dQ (dL (lF 0 [6,7,29] rfl q21 ⟨rfl,rfl,rfl,trivial⟩ rfl ?_))
  obtain rfl:=eP hF
  exact eE (.inl rfl) Tryz.results17 (.tmp rfl .nil) rfl rfl
 obtain⟨x17',hL,hRl23⟩:=aM hF
 refine cA (fun k a w=>∃(x10:List Rat),∃(x16:Int),∃(b11:Option Nat),∃(c12:Nat),∃(n13:Nat),kV K a0 a1 a2 k x10 x16=some x17'∧x10.length=n13∧hs _ [hO cQ b11 c12 42 n13 x10] [(0,.vc (pS (bJ cQ) a0)),(1,.vc (pS cQ a1)),(2,.vc (pS cQ a2)),(7,.vc (pO b11 n13 c12)),(8,.vc (pI .i64 x16))] a w) K (fun a w ⟨_,_,_,_,_,hF,_,_⟩=>by cases hF) (fun k a w ⟨x10,x16,b11,c12,n13,hF,q14,hh⟩=>b0 ?_ hh) (fun a w hh=>⟨([]:List Rat),0,none,0,0,hL,rfl,dI [0] hh⟩)
 rw [kV.eq_2] at hF
 refine go ?_ ?_
 refine aB hF rfl (fun h25 hF=>?_) (fun h25 hF=>?_)
 ·refine go ?_ ?_
  refine aG ?_
  obtain⟨v28,h29,hF⟩:=aM hF
  obtain⟨v30,h31,hF⟩:=aM hF
  obtain⟨v32,h33,hF⟩:=aW hF xN
  obtain⟨v34,h35,hF⟩:=aW hF oH
  refine iQ [0,0,0,6,14,0,0,96,224,0,992,2046,4094,8191,16383] 13 2 [.v (.vc (pO b11 n13 c12)),.v (.vc (pS cQ a1)),.v (.vc (pI .i64 x16)),.v (.vc (pM (cQ.e v28))),.v (.va (eQ v28)),.v (.vc (pS (bJ cQ) a0)),.v (.vc (pI .i64 x16)),.v (.vc (pM ((bJ cQ).e v30))),.v (.vc (pS cQ v30)),.v (.vc (pS cQ a2)),.v (.va (eQ v32)),.v (.va (eQ v34)),.v (.vc (pS cQ [v34]))] aU ⟨d0 (aL (.inl rfl)) zU1,d0 (aL (.inl rfl)) zU1,d0 (aL (.inl rfl)) zU1,d0 (zS rfl tyS24 h29) zU2,d0 (x0 4 rfl rfl (.agg tyA42)) zU1,d0 (aL (.inl rfl)) zU1,d0 (aL (.inl rfl)) zU1,d0 (zS rfl tyS23 h31) zU2,d0 (x0 1 rfl rfl (.one tyO24)) zU1,d0 (aL (.inl rfl)) zU1,d0 (bE rfl h33 rfl) zU2,d0 (bE rfl h35 rfl) zU2,d0 (eR (C:=cQ) (xs:=[.tmp 26]) (ps:=[.va (eQ v34)]) (zs:=[v34]) rfl tyS24 rfl ⟨⟨trivial,rfl⟩,trivial⟩ rfl) zU1,trivial⟩ (fun bs27 G26=>?_)
  obtain⟨x36,h37,hF⟩:=aM hF
  refine iK 0 rfl tyS24 rfl rfl q14 rfl rfl h37 (fun b38 c39 H40 e41=>?_)
  cases e41
  obtain⟨v43,h44,hF⟩:=aM hF
  refine go ?_ ?_
  exact aF (fun a w hh=>⟨x36,v43,b38,c39,(n13+[v34].length),hF,(bD h37 q14),dI [0] hh⟩)
 refine aV ?_
 obtain rfl:=eP hF
 exact nK Jj24 ⟨x10,b11,c12,n13,hRl23,q14,rfl,rfl⟩ [0]
def sE (K:Nat):Option Bool:=
 some true
def jN (K:Nat) (a0:List Rat):Nat→Int→Option (LR Bool Unit)
 |0,_=>none
 |k+1,x2=>bif(decide (x2<(a0.length:Int))) then((bF a0 x2).bind fun v6=>(aMF v6).bind fun v8=>bif(!v8) then(some (.ret false)) else((aS (x2+1)).bind fun v11=>jN K a0 k v11)) else(some (.go ()))
def lW (K:Nat) (a0:List Rat):Option Bool:=
 (jN K a0 K 0).bind fun o=>match o with| .ret r=>some r| .go _=>sE K
theorem wY {K:Nat} {a0:List Rat} {r:Bool} (hF:lW K a0=some r):Ct Tryz.prog 63 [.vc (pS cQ a0)] (.vc (pB r)):=by
 unfold lW at hF
 refine aA Tryz.func63 rfl (by kernel_rfl) Tryz.ntmps63 rfl (fun w0 M0=>?_)
 refine go ?_ ?_
 refine aG (aP (fun H E=>sE K=some r∧H=[]∧E=[]) ?_ (fun Jj4=>?_))
 ·rintro _ _ ⟨hF,rfl,rfl⟩
  unfold sE at hF
  exact bI
 obtain⟨ol3,hL,hRl3⟩:=aM hF
 refine cA (fun k a w=>∃(x2:Int),jN K a0 k x2=some ol3∧hs _ [] [(0,.vc (pS cQ a0)),(3,.vc (pI .i64 x2))] a w) K (fun a w ⟨_,hF,_⟩=>by cases hF) (fun k a w ⟨x2,hF,hh⟩=>b0 ?_ hh) (fun a w hh=>⟨0,hL,dI [] hh⟩)
 rw [jN.eq_2] at hF
 refine go ?_ ?_
 refine aB hF rfl (fun h5 hF=>?_) (fun h5 hF=>?_)
 ·refine go ?_ ?_
  refine aG ?_
  obtain⟨v6,h7,hF⟩:=aM hF
  obtain⟨v8,h9,hF⟩:=aW hF aCr
  refine go ?_ ?_
  refine aB hF rfl (fun h10 hF=>?_) (fun h10 hF=>?_)
  ·exact bI
  obtain⟨v11,h12,hF⟩:=aM hF
  refine go ?_ ?_
  exact aF (fun a w hh=>⟨v11,hF,dI [] hh⟩)
 refine aV ?_
 obtain rfl:=eP hF
 exact nK Jj4 ⟨hRl3,rfl,rfl⟩ []
def qW (K:Nat):Option Bool:=
 some true
def dH (K:Nat) (a0:List (List Rat)) (a1:List Rat):Nat→Int→Option (LR Bool Unit)
 |0,_=>none
 |k+1,x7=>bif(decide (x7<(a0.length:Int))) then((bF a0 x7).bind fun v11=>bif((v11.length:Int) != (a1.length:Int)) then(some (.ret false)) else((bF a0 x7).bind fun v14=>(lW K v14).bind fun v16=>bif(!v16) then(some (.ret false)) else((aS (x7+1)).bind fun v19=>dH K a0 a1 k v19))) else(some (.go ()))
def fR (K:Nat) (a0:List (List Rat)) (a1:List Rat):Option Bool:=
 bif((a0.length:Int) != (a1.length:Int)) then(some false) else(bif(decide (32<(a1.length:Int))) then(some false) else((lW K a1).bind fun v3=>bif(!v3) then(some false) else((dH K a0 a1 K 0).bind fun o=>match o with| .ret r=>some r| .go _=>qW K)))
theorem zY {K:Nat} {a0:List (List Rat)} {a1:List Rat} {r:Bool} (hF:fR K a0 a1=some r):Ct Tryz.prog 28 [.vc (pS (bJ cQ) a0),.vc (pS cQ a1)] (.vc (pB r)):=by
 unfold fR at hF
 refine aA Tryz.func28 rfl (by kernel_rfl) Tryz.ntmps28 rfl (fun w0 M0=>?_)
 refine go ?_ ?_
 refine cC hF (fun h1 hF=>?_) (fun h1 hF=>?_)
 ·refine go ?_ ?_
  refine fV rfl ?_
  exact bI
 refine go ?_ ?_
 refine cC hF (fun h2 hF=>?_) (fun h2 hF=>?_)
 ·refine go ?_ ?_
  refine fV rfl ?_
  exact bI
 obtain⟨v3,h4,hF⟩:=aW hF wY
 refine go ?_ ?_
 refine aB hF rfl (fun h5 hF=>?_) (fun h5 hF=>?_)
 ·exact bI
 refine go ?_ ?_
 refine aG (aP (fun H E=>qW K=some r∧H=[]∧E=[]) ?_ (fun Jj9=>?_))
 ·rintro _ _ ⟨hF,rfl,rfl⟩
  unfold qW at hF
  exact bI
 obtain⟨ol8,hL,hRl8⟩:=aM hF
 refine cA (fun k a w=>∃(x7:Int),dH K a0 a1 k x7=some ol8∧hs _ [] [(0,.vc (pS (bJ cQ) a0)),(1,.vc (pS cQ a1)),(5,.vc (pI .i64 x7))] a w) K (fun a w ⟨_,hF,_⟩=>by cases hF) (fun k a w ⟨x7,hF,hh⟩=>b0 ?_ hh) (fun a w hh=>⟨0,hL,dI [] hh⟩)
 rw [dH.eq_2] at hF
 refine go ?_ ?_
 refine aB hF rfl (fun h10 hF=>?_) (fun h10 hF=>?_)
 ·refine go ?_ ?_
  refine aG ?_
  obtain⟨v11,h12,hF⟩:=aM hF
  refine go ?_ ?_
  refine cC hF (fun h13 hF=>?_) (fun h13 hF=>?_)
  ·refine go ?_ ?_
   refine fV rfl ?_
   exact bI
  have hF:=tJ h12 hF
  obtain⟨v16,h17,hF⟩:=aW hF wY
  refine go ?_ ?_
  refine aB hF rfl (fun h18 hF=>?_) (fun h18 hF=>?_)
  ·exact bI
  obtain⟨v19,h20,hF⟩:=aM hF
  refine go ?_ ?_
  exact aF (fun a w hh=>⟨v19,hF,dI [] hh⟩)
 refine aV ?_
 obtain rfl:=eP hF
 exact nK Jj9 ⟨hRl8,rfl,rfl⟩ []
def nR (K:Nat):Option Bool:=
 some false
def fX (K:Nat) (a0:List Rat):Nat→Int→Option (LR Bool Unit)
 |0,_=>none
 |k+1,x2=>bif(decide (x2<(a0.length:Int))) then((bF a0 x2).bind fun v6=>(xD v6).bind fun v8=>bif(decide (v8<0)) then(some (.ret true)) else((aS (x2+1)).bind fun v11=>fX K a0 k v11)) else(some (.go ()))
def kQ (K:Nat) (a0:List Rat):Option Bool:=
 (fX K a0 K 0).bind fun o=>match o with| .ret r=>some r| .go _=>nR K
theorem xW {K:Nat} {a0:List Rat} {r:Bool} (hF:kQ K a0=some r):Ct Tryz.prog 33 [.vc (pS cQ a0)] (.vc (pB r)):=by
 unfold kQ at hF
 refine aA Tryz.func33 rfl (by kernel_rfl) Tryz.ntmps33 rfl (fun w0 M0=>?_)
 refine go ?_ ?_
 refine aG (aP (fun H E=>nR K=some r∧H=[]∧E=[]) ?_ (fun Jj4=>?_))
 ·rintro _ _ ⟨hF,rfl,rfl⟩
  unfold nR at hF
  exact bI
 obtain⟨ol3,hL,hRl3⟩:=aM hF
 refine cA (fun k a w=>∃(x2:Int),fX K a0 k x2=some ol3∧hs _ [] [(0,.vc (pS cQ a0)),(3,.vc (pI .i64 x2))] a w) K (fun a w ⟨_,hF,_⟩=>by cases hF) (fun k a w ⟨x2,hF,hh⟩=>b0 ?_ hh) (fun a w hh=>⟨0,hL,dI [] hh⟩)
 rw [fX.eq_2] at hF
 refine go ?_ ?_
 refine aB hF rfl (fun h5 hF=>?_) (fun h5 hF=>?_)
 ·refine go ?_ ?_
  refine aG ?_
  obtain⟨v6,h7,hF⟩:=aM hF
  obtain⟨v8,h9,hF⟩:=aW hF kZ
  refine go ?_ ?_
  refine aB hF rfl (fun h10 hF=>?_) (fun h10 hF=>?_)
  ·exact bI
  obtain⟨v11,h12,hF⟩:=aM hF
  refine go ?_ ?_
  exact aF (fun a w hh=>⟨v11,hF,dI [] hh⟩)
 refine aV ?_
 obtain rfl:=eP hF
 exact nK Jj4 ⟨hRl3,rfl,rfl⟩ []
end Go.Proofs.YtolfcbpgmfbgmaaGreat
