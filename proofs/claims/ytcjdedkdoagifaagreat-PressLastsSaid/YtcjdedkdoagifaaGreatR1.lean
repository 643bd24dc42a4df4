import Derived.Test.YtcjdedkdoagifaaGreatP8
set_option linter.unusedVariables false
set_option maxRecDepth 100000
namespace Go.Proofs.YtcjdedkdoagifaaGreat
theorem tyA44:TyA Tryz.prog 44 4:=mkA Tryz.underlying44 rfl (by kernel_rfl)
theorem tyB44:TyB Tryz.prog 44 [(0,2),(2,2)] (([pB false]++[pS cI ([]:List Int)])++([pB false]++[pS cI ([]:List Int)])):=mkB (z:=.agg #[.bool false,.slice none 0 0,.bool false,.slice none 0 0]) (by kernel_rfl) Tryz.underlying44 (by kernel_rfl) (fun M=>bR.app (bR.app (show bR M [pB false] [.bool false] from⟨rfl,trivial⟩) (show bR M [pS cI ([]:List Int)] [.slice none 0 0] from⟨eJ cI M,trivial⟩)) (bR.app (show bR M [pB false] [.bool false] from⟨rfl,trivial⟩) (show bR M [pS cI ([]:List Int)] [.slice none 0 0] from⟨eJ cI M,trivial⟩)))
theorem tyF44_0:wS Tryz.prog 44 0 0:=yC (ft:=42) (k:=1) Tryz.underlying44 rfl rfl rfl (by kernel_rfl)
theorem tyF44_1:wS Tryz.prog 44 1 2:=yC (ft:=42) (k:=1) Tryz.underlying44 rfl rfl rfl (by kernel_rfl)
theorem tyZ44:zL Tryz.prog 44 (([pB false]++[pS cI ([]:List Int)])++([pB false]++[pS cI ([]:List Int)])):=mkZ (z:=.agg #[.bool false,.slice none 0 0,.bool false,.slice none 0 0]) (k:=4) (by kernel_rfl) rfl (fun M=>bR.app (bR.app (show bR M [pB false] [.bool false] from⟨rfl,trivial⟩) (show bR M [pS cI ([]:List Int)] [.slice none 0 0] from⟨eJ cI M,trivial⟩)) (bR.app (show bR M [pB false] [.bool false] from⟨rfl,trivial⟩) (show bR M [pS cI ([]:List Int)] [.slice none 0 0] from⟨eJ cI M,trivial⟩)))
def lF (a0:aP):Option Bool:=
 bif a0.neg then(some false) else(bif((a0.d.length:Int) != 1) then(some false) else((dO a0.d 0).bind fun v4=>some (v4==1)))
theorem sO {a0:aP} {r:Bool} (hF:lF a0=some r):Ct Tryz.prog 169 [.va (aP.e a0)] (.vc (pB r)):=by
 unfold lF at hF
 refine a9 Tryz.func169 rfl (by kernel_rfl) Tryz.ntmps169 rfl (fun w0 M0=>?_)
 refine aD (aE (cV rfl rfl trivial (fun b1=>?_)))
 refine aB (aL (.inr rfl)) ⟨dH _,trivial⟩ ?_
 refine aC (aA (aD (aD (aE (aB (a8 (off:=0) (k:=0) rfl tyF42_0) ⟨rfl,trivial⟩ ?_)))))
 refine aB (bD 0 1 rfl rfl rfl rfl (.one tyO4)) ⟨rfl,trivial⟩ ?_
 refine aF ?_
 refine cU (fun h2=>?_) (fun h2=>?_)
 ·have hF:=aT h2 hF
  refine aJ ?_
  refine aJ ?_
  refine aJ ?_
  refine aJ ?_
  refine aB (bK rfl) ⟨rfl,dH _,trivial⟩ ?_
  refine aC (aA (kT rfl ?_))
  refine aD (aE (aB (aL (.inr rfl)) ⟨dH _,trivial⟩ ?_))
  refine aC (aA (aX (aW ?_)))
  obtain rfl:=bX hF
  exact aI (.inl rfl) Tryz.results169 (.tmp rfl .nil) rfl rfl
 have hF:=aU h2 hF
 refine aZ (a8 (off:=0) (k:=1) rfl tyF42_1) ⟨rfl,trivial⟩ ?_
 refine aZ (bD 0 1 rfl rfl rfl rfl (.one tyO22)) ⟨rfl,trivial⟩ ?_
 refine aZ (bZ rfl tyS22) ⟨rfl,trivial⟩ ?_
 refine aZ (sC rfl) ⟨rfl,bC _ _,trivial⟩ ?_
 refine aB (bL rfl) ⟨rfl,rfl,trivial⟩ ?_
 refine aC (aA (bO rfl (fun h3=>?_) (fun h3=>?_)))
 ·have hF:=aT h3 hF
  refine aD (aE (aB (aL (.inr rfl)) ⟨dH _,trivial⟩ ?_))
  refine aC (aA (aX (aW ?_)))
  obtain rfl:=bX hF
  exact aI (.inl rfl) Tryz.results169 (.tmp rfl .nil) rfl rfl
 have hF:=aU h3 hF
 refine aV (aA (aD (aE (aB (a8 (off:=0) (k:=1) rfl tyF42_1) ⟨rfl,trivial⟩ ?_))))
 refine aB (bD 0 1 rfl rfl rfl rfl (.one tyO22)) ⟨rfl,trivial⟩ ?_
 obtain⟨v4,h5,hF⟩:=aO hF
 refine aB (dX rfl tyS22 h5) ⟨rfl,bC _ _,trivial⟩ ?_
 refine aB (dM 1 rfl rfl (.one tyO3)) ⟨rfl,trivial⟩ ?_
 refine aB (iJ rfl) ⟨rfl,bC _ _,trivial⟩ ?_
 refine bB ?_
 refine aC (aA (aX (aW ?_)))
 obtain rfl:=bX hF
 exact aI (.inl rfl) Tryz.results169 (.tmp rfl .nil) rfl rfl
def f8 (K:Nat) (a0:aP) (a1:aP):Option cB:=
 bif((a1.d.length:Int)==0) then(some (⟨(⟨false,([]:List Int)⟩:aP),(⟨false,([]:List Int)⟩:aP)⟩:cB)) else(bif((a0.d.length:Int)==0) then(some (⟨(⟨false,([]:List Int)⟩:aP),(⟨false,([]:List Int)⟩:aP)⟩:cB)) else((nE K a0 a1).bind fun v6=>(iG K a0 v6).bind fun v9=>(iG K a1 v6).bind fun v13=>bif v13.1.neg then((k8 K v9.1).bind fun v18=>(k8 K v13.1).bind fun v20=>(lF v20).bind fun v22=>bif v22 then(some (⟨v18,(⟨false,([]:List Int)⟩:aP)⟩:cB)) else(some (⟨v18,v20⟩:cB))) else((lF v13.1).bind fun v25=>bif v25 then(some (⟨v9.1,(⟨false,([]:List Int)⟩:aP)⟩:cB)) else(some (⟨v9.1,v13.1⟩:cB)))))
theorem qC {K:Nat} {a0:aP} {a1:aP} {r:cB} (hF:f8 K a0 a1=some r):Ct Tryz.prog 93 [.va (aP.e a0),.va (aP.e a1)] (.va (cB.e r)):=by
 unfold f8 at hF
 refine a9 Tryz.func93 rfl (by kernel_rfl) Tryz.ntmps93 rfl (fun w0 M0=>?_)
 refine aD (aE (cV rfl rfl trivial (fun b1=>?_)))
 refine cV rfl rfl trivial (fun b2=>?_)
 refine bJ rfl tyZ44 (fun b3=>?_)
 refine aC (aA (aD (aD (aE (aB (a8 (off:=0) (k:=1) rfl tyF42_1) ⟨rfl,trivial⟩ ?_)))))
 refine aB (bD 1 1 rfl rfl rfl rfl (.one tyO22)) ⟨rfl,trivial⟩ ?_
 refine aB (bZ rfl tyS22) ⟨rfl,trivial⟩ ?_
 refine aB (iJ rfl) ⟨rfl,bC _ _,trivial⟩ ?_
 refine aF ?_
 refine cU (fun h4=>?_) (fun h4=>?_)
 ·have hF:=aT h4 hF
  refine aJ ?_
  refine aJ ?_
  refine aJ ?_
  refine aJ ?_
  refine aB (bK rfl) ⟨rfl,dH _,trivial⟩ ?_
  refine aC (aA (kT rfl ?_))
  refine aD (aE (aB (fA (is:=[]) (xs:=[]) (ps:=[]) rfl tyB44 rfl rfl trivial rfl) trivial ?_))
  refine aY (dA 0 rfl rfl rfl tyA44.s) ⟨rfl,rfl,trivial⟩ ?_
  refine aC (aA (aX (aW ?_)))
  obtain rfl:=bX hF
  exact aI (.inl rfl) Tryz.results93 (bM 0 4 rfl rfl rfl rfl (.agg tyA44) .nil) rfl rfl
 have hF:=aU h4 hF
 refine aZ (a8 (off:=0) (k:=1) rfl tyF42_1) ⟨rfl,trivial⟩ ?_
 refine aZ (bD 2 1 rfl rfl rfl rfl (.one tyO22)) ⟨rfl,trivial⟩ ?_
 refine aZ (bZ rfl tyS22) ⟨rfl,trivial⟩ ?_
 refine aZ (iJ rfl) ⟨rfl,bC _ _,trivial⟩ ?_
 refine aB (bL rfl) ⟨rfl,rfl,trivial⟩ ?_
 refine aC (aA (bO rfl (fun h5=>?_) (fun h5=>?_)))
 ·have hF:=aT h5 hF
  refine aD (aE (aB (fA (is:=[]) (xs:=[]) (ps:=[]) rfl tyB44 rfl rfl trivial rfl) trivial ?_))
  refine aY (dA 0 rfl rfl rfl tyA44.s) ⟨rfl,rfl,trivial⟩ ?_
  refine aC (aA (aX (aW ?_)))
  obtain rfl:=bX hF
  exact aI (.inl rfl) Tryz.results93 (bM 0 4 rfl rfl rfl rfl (.agg tyA44) .nil) rfl rfl
 have hF:=aU h5 hF
 refine aV (aA (aD (aE (aB (bD 2 2 rfl rfl rfl rfl (.agg tyA42)) ⟨rfl,trivial⟩ ?_))))
 refine aB (bD 1 2 rfl rfl rfl rfl (.agg tyA42)) ⟨rfl,trivial⟩ ?_
 obtain⟨v6,h7,hF⟩:=aO hF
 refine aB (aG rfl (w8 h7) rfl) ⟨rfl,rfl,trivial⟩ ?_
 refine bJ rfl tyZ42 (fun b8=>?_)
 refine aY (dA 0 rfl rfl rfl tyA42.s) ⟨rfl,rfl,trivial⟩ ?_
 refine aC (aA (aD (aE (aB (bD 3 2 rfl rfl rfl rfl (.agg tyA42)) ⟨rfl,trivial⟩ ?_))))
 refine aB (bD 0 2 rfl rfl rfl rfl (.agg tyA42)) ⟨rfl,trivial⟩ ?_
 obtain⟨v9,h10,hF⟩:=aO hF
 refine aB (aG rfl (oR h10) rfl) ⟨rfl,rfl,trivial⟩ ?_
 refine aF ?_
 refine aB (lV rfl) ⟨rfl,trivial⟩ ?_
 refine aB (lR rfl) ⟨rfl,trivial⟩ ?_
 refine bJ rfl tyZ42 (fun b11=>?_)
 refine bJ rfl tyZ42 (fun b12=>?_)
 refine aY (dA 1 rfl rfl rfl tyA42.s) ⟨rfl,rfl,trivial⟩ ?_
 refine aY (dA 0 rfl rfl rfl tyA42.s) ⟨rfl,rfl,trivial⟩ ?_
 refine aC (aA (aD (aE (aB (bD 4 2 rfl rfl rfl rfl (.agg tyA42)) ⟨rfl,trivial⟩ ?_))))
 refine aB (bD 2 2 rfl rfl rfl rfl (.agg tyA42)) ⟨rfl,trivial⟩ ?_
 obtain⟨v13,h14,hF⟩:=aO hF
 refine aB (aG rfl (oR h14) rfl) ⟨rfl,rfl,trivial⟩ ?_
 refine aF ?_
 refine aB (lV rfl) ⟨rfl,trivial⟩ ?_
 refine aB (lR rfl) ⟨rfl,trivial⟩ ?_
 refine bJ rfl tyZ42 (fun b15=>?_)
 refine bJ rfl tyZ42 (fun b16=>?_)
 refine aY (dA 1 rfl rfl rfl tyA42.s) ⟨rfl,rfl,trivial⟩ ?_
 refine aY (dA 0 rfl rfl rfl tyA42.s) ⟨rfl,rfl,trivial⟩ ?_
 refine aC (aA (aD (aD (aE (aB (a8 (off:=0) (k:=0) rfl tyF42_0) ⟨rfl,trivial⟩ ?_)))))
 refine aB (bD 1 1 rfl rfl rfl rfl (.one tyO4)) ⟨rfl,trivial⟩ ?_
 refine aC (aA (bO rfl (fun h17=>?_) (fun h17=>?_)))
 ·have hF:=aT h17 hF
  refine aD (aE (aB (bD 3 2 rfl rfl rfl rfl (.agg tyA42)) ⟨rfl,trivial⟩ ?_))
  obtain⟨v18,h19,hF⟩:=aO hF
  refine aB (aG rfl (sN h19) rfl) ⟨rfl,trivial⟩ ?_
  refine aY (dA 3 rfl rfl rfl tyA42.s) ⟨rfl,rfl,trivial⟩ ?_
  refine aC (aA (aE (aB (bD 1 2 rfl rfl rfl rfl (.agg tyA42)) ⟨rfl,trivial⟩ ?_)))
  obtain⟨v20,h21,hF⟩:=aO hF
  refine aB (aG rfl (sN h21) rfl) ⟨rfl,trivial⟩ ?_
  refine aY (dA 1 rfl rfl rfl tyA42.s) ⟨rfl,rfl,trivial⟩ ?_
  refine aC (aA (aD (aD (aE (aB (bD 1 2 rfl rfl rfl rfl (.agg tyA42)) ⟨rfl,trivial⟩ ?_)))))
  obtain⟨v22,h23,hF⟩:=aO hF
  refine aB (aG rfl (sO h23) rfl) ⟨rfl,trivial⟩ ?_
  refine aC (aA (bO rfl (fun h24=>?_) (fun h24=>?_)))
  ·have hF:=aT h24 hF
   refine aD (aE (aB (bD 3 2 rfl rfl rfl rfl (.agg tyA42)) ⟨rfl,trivial⟩ ?_))
   refine aB (fA (is:=[0]) (xs:=[.tmp 44]) (ps:=[.va (aP.e v18)]) rfl tyB44 rfl rfl ⟨trivial,trivial⟩ rfl) ⟨rfl,trivial⟩ ?_
   refine aY (dA 5 rfl rfl rfl tyA44.s) ⟨rfl,rfl,trivial⟩ ?_
   refine aC (aA (aX (aW ?_)))
   obtain rfl:=bX hF
   exact aI (.inl rfl) Tryz.results93 (bM 5 4 rfl rfl rfl rfl (.agg tyA44) .nil) rfl rfl
  have hF:=aU h24 hF
  refine aV (aA (aD (aE (aB (bD 3 2 rfl rfl rfl rfl (.agg tyA42)) ⟨rfl,trivial⟩ ?_))))
  refine aB (bD 1 2 rfl rfl rfl rfl (.agg tyA42)) ⟨rfl,trivial⟩ ?_
  refine aB (fA (is:=[0,1]) (xs:=[.tmp 46,.tmp 47]) (ps:=[.va (aP.e v18),.va (aP.e v20)]) rfl tyB44 rfl rfl ⟨trivial,trivial,trivial⟩ rfl) ⟨rfl,rfl,trivial⟩ ?_
  refine aY (dA 5 rfl rfl rfl tyA44.s) ⟨rfl,rfl,trivial⟩ ?_
  refine aC (aA (aX (aW ?_)))
  obtain rfl:=bX hF
  exact aI (.inl rfl) Tryz.results93 (bM 5 4 rfl rfl rfl rfl (.agg tyA44) .nil) rfl rfl
 have hF:=aU h17 hF
 refine aV (aA (aD (aD (aE (aB (bD 1 2 rfl rfl rfl rfl (.agg tyA42)) ⟨rfl,trivial⟩ ?_)))))
 obtain⟨v25,h26,hF⟩:=aO hF
 refine aB (aG rfl (sO h26) rfl) ⟨rfl,trivial⟩ ?_
 refine aC (aA (bO rfl (fun h27=>?_) (fun h27=>?_)))
 ·have hF:=aT h27 hF
  refine aD (aE (aB (bD 3 2 rfl rfl rfl rfl (.agg tyA42)) ⟨rfl,trivial⟩ ?_))
  refine aB (fA (is:=[0]) (xs:=[.tmp 44]) (ps:=[.va (aP.e v9.1)]) rfl tyB44 rfl rfl ⟨trivial,trivial⟩ rfl) ⟨rfl,trivial⟩ ?_
  refine aY (dA 5 rfl rfl rfl tyA44.s) ⟨rfl,rfl,trivial⟩ ?_
  refine aC (aA (aX (aW ?_)))
  obtain rfl:=bX hF
  exact aI (.inl rfl) Tryz.results93 (bM 5 4 rfl rfl rfl rfl (.agg tyA44) .nil) rfl rfl
 have hF:=aU h27 hF
 refine aV (aA (aD (aE (aB (bD 3 2 rfl rfl rfl rfl (.agg tyA42)) ⟨rfl,trivial⟩ ?_))))
 refine aB (bD 1 2 rfl rfl rfl rfl (.agg tyA42)) ⟨rfl,trivial⟩ ?_
 refine aB (fA (is:=[0,1]) (xs:=[.tmp 46,.tmp 47]) (ps:=[.va (aP.e v9.1),.va (aP.e v13.1)]) rfl tyB44 rfl rfl ⟨trivial,trivial,trivial⟩ rfl) ⟨rfl,rfl,trivial⟩ ?_
 refine aY (dA 5 rfl rfl rfl tyA44.s) ⟨rfl,rfl,trivial⟩ ?_
 refine aC (aA (aX (aW ?_)))
 obtain rfl:=bX hF
 exact aI (.inl rfl) Tryz.results93 (bM 5 4 rfl rfl rfl rfl (.agg tyA44) .nil) rfl rfl
abbrev yF:Nat:=30
def p7 (K:Nat) (a0:Int) (a1:Int):Option cB:=
 (fO K a0).bind fun v2=>(fO K a1).bind fun v4=>(f8 K v2 v4).bind fun v6=>some v6
theorem xM {K:Nat} {a0:Int} {a1:Int} {r:cB} (hF:p7 K a0 a1=some r):Ct Tryz.prog 30 [.vc (pI .i64 a0),.vc (pI .i64 a1)] (.va (cB.e r)):=by
 unfold p7 at hF
 refine a9 Tryz.func30 rfl (by kernel_rfl) Tryz.ntmps30 rfl (fun w0 M0=>?_)
 refine aD (aE (bJ rfl tyZ44 (fun b1=>?_)))
 refine aC (aA (aD (aE (aF ?_))))
 obtain⟨v2,h3,hF⟩:=aO hF
 refine aB (aG rfl (jG h3) rfl) ⟨rfl,trivial⟩ ?_
 refine aF ?_
 obtain⟨v4,h5,hF⟩:=aO hF
 refine aB (aG rfl (jG h5) rfl) ⟨rfl,trivial⟩ ?_
 obtain⟨v6,h7,hF⟩:=aO hF
 refine aB (aG rfl (qC h7) rfl) ⟨rfl,rfl,trivial⟩ ?_
 refine aY (dA 0 rfl rfl rfl tyA44.s) ⟨rfl,rfl,trivial⟩ ?_
 refine aC (aA (aX (aW ?_)))
 obtain rfl:=bX hF
 exact aI (.inl rfl) Tryz.results30 (bM 0 4 rfl rfl rfl rfl (.agg tyA44) .nil) rfl rfl
def oN (a0:aP):Option Bool:=
 bif(!a0.neg) then(bif((a0.d.length:Int)==1) then((dO a0.d 0).bind fun v4=>some (v4==1)) else(some false)) else(some false)
theorem r7 {a0:aP} {r:Bool} (hF:oN a0=some r):Ct Tryz.prog 165 [.va (aP.e a0)] (.vc (pB r)):=by
 unfold oN at hF
 refine a9 Tryz.func165 rfl (by kernel_rfl) Tryz.ntmps165 rfl (fun w0 M0=>?_)
 refine aD (aE (cV rfl rfl trivial (fun b1=>?_)))
 refine aB (aL (.inr rfl)) ⟨dH _,trivial⟩ ?_
 refine aC (aA (aD (aE (aB (a8 (off:=0) (k:=0) rfl tyF42_0) ⟨rfl,trivial⟩ ?_))))
 refine aB (bD 0 1 rfl rfl rfl rfl (.one tyO4)) ⟨rfl,trivial⟩ ?_
 refine aB (lK rfl) ⟨rfl,trivial⟩ ?_
 refine aF ?_
 refine cU (fun h2=>?_) (fun h2=>?_)
 ·have hF:=aT h2 hF
  refine aZ (a8 (off:=0) (k:=1) rfl tyF42_1) ⟨rfl,trivial⟩ ?_
  refine aZ (bD 0 1 rfl rfl rfl rfl (.one tyO22)) ⟨rfl,trivial⟩ ?_
  refine aZ (bZ rfl tyS22) ⟨rfl,trivial⟩ ?_
  refine aZ (iJ rfl) ⟨rfl,bC _ _,trivial⟩ ?_
  refine aB (bK rfl) ⟨rfl,rfl,trivial⟩ ?_
  refine aF ?_
  refine cU (fun h3=>?_) (fun h3=>?_)
  ·have hF:=aT h3 hF
   refine aZ (a8 (off:=0) (k:=1) rfl tyF42_1) ⟨rfl,trivial⟩ ?_
   refine aZ (bD 0 1 rfl rfl rfl rfl (.one tyO22)) ⟨rfl,trivial⟩ ?_
   obtain⟨v4,h5,hF⟩:=aO hF
   refine aZ (dX rfl tyS22 h5) ⟨rfl,bC _ _,trivial⟩ ?_
   refine aZ (dM 1 rfl rfl (.one tyO3)) ⟨rfl,trivial⟩ ?_
   refine aZ (iJ rfl) ⟨rfl,bC _ _,trivial⟩ ?_
   refine aB (bK rfl) ⟨rfl,rfl,trivial⟩ ?_
   refine bB ?_
   refine aC (aA (aX (aW ?_)))
   obtain rfl:=bX hF
   exact aI (.inl rfl) Tryz.results165 (.tmp rfl .nil) rfl rfl
  have hF:=aU h3 hF
  refine aJ ?_
  refine aJ ?_
  refine aJ ?_
  refine aJ ?_
  refine aJ ?_
  refine aB (bL rfl) ⟨rfl,dH _,trivial⟩ ?_
  refine bB ?_
  refine aC (aA (aX (aW ?_)))
  obtain rfl:=bX hF
  exact aI (.inl rfl) Tryz.results165 (.tmp rfl .nil) rfl rfl
 have hF:=aU h2 hF
 refine aJ ?_
 refine aJ ?_
 refine aJ ?_
 refine aJ ?_
 refine aB (bL rfl) ⟨rfl,dH _,trivial⟩ ?_
 refine aF ?_
 refine aJ ?_
 refine aJ ?_
 refine aJ ?_
 refine aJ ?_
 refine aJ ?_
 refine aB (bL rfl) ⟨rfl,dH _,trivial⟩ ?_
 refine bB ?_
 refine aC (aA (aX (aW ?_)))
 obtain rfl:=bX hF
 exact aI (.inl rfl) Tryz.results165 (.tmp rfl .nil) rfl rfl
def kV (a0:aP) (a1:aP):Option cB:=
 bif a1.neg then((nM a0).bind fun v7=>(nM a1).bind fun v9=>(oN v9).bind fun v11=>bif v11 then(some (⟨v7,(⟨false,([]:List Int)⟩:aP)⟩:cB)) else(some (⟨v7,v9⟩:cB))) else((oN a1).bind fun v14=>bif v14 then(some (⟨a0,(⟨false,([]:List Int)⟩:aP)⟩:cB)) else(some (⟨a0,a1⟩:cB)))
theorem qH {a0:aP} {a1:aP} {r:cB} (hF:kV a0 a1=some r):Ct Tryz.prog 98 [.va (aP.e a0),.va (aP.e a1)] (.va (cB.e r)):=by
 unfold kV at hF
 refine a9 Tryz.func98 rfl (by kernel_rfl) Tryz.ntmps98 rfl (fun w0 M0=>?_)
 refine aD (aE (cV rfl rfl trivial (fun b1=>?_)))
 refine cV rfl rfl trivial (fun b2=>?_)
 refine bJ rfl tyZ44 (fun b3=>?_)
 refine aC (aA (aD (aD (aE (aB (a8 (off:=0) (k:=0) rfl tyF42_0) ⟨rfl,trivial⟩ ?_)))))
 refine aB (bD 1 1 rfl rfl rfl rfl (.one tyO4)) ⟨rfl,trivial⟩ ?_
 refine aC (aA (bO rfl (fun h4=>?_) (fun h4=>?_)))
 ·have hF:=aT h4 hF
  obtain⟨v7,h8,hF⟩:=aO hF
  obtain⟨v9,h10,hF⟩:=aO hF
  refine bP [0,1,0,7,15,31] 4 2 [.v (.va (aP.e a0)),.v (.va (aP.e v7)),.v (.va (aP.e a1)),.v (.va (aP.e v9))] aR ⟨d0 (bD 2 2 rfl rfl rfl rfl (.agg tyA42)) ⟨rfl,trivial⟩,d0 (aG rfl (sK h8) rfl) ⟨rfl,trivial⟩,d0 (bD 1 2 rfl rfl rfl rfl (.agg tyA42)) ⟨rfl,trivial⟩,d0 (aG rfl (sK h10) rfl) ⟨rfl,trivial⟩,trivial⟩ (fun bs6 G5=>?_)
  refine aY (dA 2 rfl rfl rfl tyA42.s) ⟨rfl,rfl,trivial⟩ ?_
  refine aY (dA 1 rfl rfl rfl tyA42.s) ⟨rfl,rfl,trivial⟩ ?_
  refine aC (aA (aD (aD (aE (aB (bD 1 2 rfl rfl rfl rfl (.agg tyA42)) ⟨rfl,trivial⟩ ?_)))))
  obtain⟨v11,h12,hF⟩:=aO hF
  refine aB (aG rfl (r7 h12) rfl) ⟨rfl,trivial⟩ ?_
  refine aC (aA (bO rfl (fun h13=>?_) (fun h13=>?_)))
  ·have hF:=aT h13 hF
   refine aD (aE (aB (bD 2 2 rfl rfl rfl rfl (.agg tyA42)) ⟨rfl,trivial⟩ ?_))
   refine aB (fA (is:=[0]) (xs:=[.tmp 13]) (ps:=[.va (aP.e v7)]) rfl tyB44 rfl rfl ⟨trivial,trivial⟩ rfl) ⟨rfl,trivial⟩ ?_
   refine aY (dA 0 rfl rfl rfl tyA44.s) ⟨rfl,rfl,trivial⟩ ?_
   refine aC (aA (aX (aW ?_)))
   obtain rfl:=bX hF
   exact aI (.inl rfl) Tryz.results98 (bM 0 4 rfl rfl rfl rfl (.agg tyA44) .nil) rfl rfl
  have hF:=aU h13 hF
  refine aV (aA (aD (aE (aB (bD 2 2 rfl rfl rfl rfl (.agg tyA42)) ⟨rfl,trivial⟩ ?_))))
  refine aB (bD 1 2 rfl rfl rfl rfl (.agg tyA42)) ⟨rfl,trivial⟩ ?_
  refine aB (fA (is:=[0,1]) (xs:=[.tmp 15,.tmp 16]) (ps:=[.va (aP.e v7),.va (aP.e v9)]) rfl tyB44 rfl rfl ⟨trivial,trivial,trivial⟩ rfl) ⟨rfl,rfl,trivial⟩ ?_
  refine aY (dA 0 rfl rfl rfl tyA44.s) ⟨rfl,rfl,trivial⟩ ?_
  refine aC (aA (aX (aW ?_)))
  obtain rfl:=bX hF
  exact aI (.inl rfl) Tryz.results98 (bM 0 4 rfl rfl rfl rfl (.agg tyA44) .nil) rfl rfl
 have hF:=aU h4 hF
 refine aV (aA (aD (aD (aE (aB (bD 1 2 rfl rfl rfl rfl (.agg tyA42)) ⟨rfl,trivial⟩ ?_)))))
 obtain⟨v14,h15,hF⟩:=aO hF
 refine aB (aG rfl (r7 h15) rfl) ⟨rfl,trivial⟩ ?_
 refine aC (aA (bO rfl (fun h16=>?_) (fun h16=>?_)))
 ·have hF:=aT h16 hF
  refine aD (aE (aB (bD 2 2 rfl rfl rfl rfl (.agg tyA42)) ⟨rfl,trivial⟩ ?_))
  refine aB (fA (is:=[0]) (xs:=[.tmp 13]) (ps:=[.va (aP.e a0)]) rfl tyB44 rfl rfl ⟨trivial,trivial⟩ rfl) ⟨rfl,trivial⟩ ?_
  refine aY (dA 0 rfl rfl rfl tyA44.s) ⟨rfl,rfl,trivial⟩ ?_
  refine aC (aA (aX (aW ?_)))
  obtain rfl:=bX hF
  exact aI (.inl rfl) Tryz.results98 (bM 0 4 rfl rfl rfl rfl (.agg tyA44) .nil) rfl rfl
 have hF:=aU h16 hF
 refine aV (aA (aD (aE (aB (bD 2 2 rfl rfl rfl rfl (.agg tyA42)) ⟨rfl,trivial⟩ ?_))))
 refine aB (bD 1 2 rfl rfl rfl rfl (.agg tyA42)) ⟨rfl,trivial⟩ ?_
 refine aB (fA (is:=[0,1]) (xs:=[.tmp 15,.tmp 16]) (ps:=[.va (aP.e a0),.va (aP.e a1)]) rfl tyB44 rfl rfl ⟨trivial,trivial,trivial⟩ rfl) ⟨rfl,rfl,trivial⟩ ?_
 refine aY (dA 0 rfl rfl rfl tyA44.s) ⟨rfl,rfl,trivial⟩ ?_
 refine aC (aA (aX (aW ?_)))
 obtain rfl:=bX hF
 exact aI (.inl rfl) Tryz.results98 (bM 0 4 rfl rfl rfl rfl (.agg tyA44) .nil) rfl rfl
def gV (K:Nat) (a0:aP) (a1:aP):Option cB:=
 bif((a1.d.length:Int)==0) then(some (⟨(⟨false,([]:List Int)⟩:aP),(⟨false,([]:List Int)⟩:aP)⟩:cB)) else(bif((a0.d.length:Int)==0) then(some (⟨(⟨false,([]:List Int)⟩:aP),(⟨false,([]:List Int)⟩:aP)⟩:cB)) else((oV K a0 a1).bind fun v6=>(oN v6).bind fun v9=>bif(!v9) then((oW K a0 v6).bind fun v12=>(oW K a1 v6).bind fun v14=>(kV v12.1 v14.1).bind fun v16=>some v16) else((kV a0 a1).bind fun v18=>some v18)))
theorem pQ {K:Nat} {a0:aP} {a1:aP} {r:cB} (hF:gV K a0 a1=some r):Ct Tryz.prog 96 [.va (aP.e a0),.va (aP.e a1)] (.va (cB.e r)):=by
 unfold gV at hF
 refine a9 Tryz.func96 rfl (by kernel_rfl) Tryz.ntmps96 rfl (fun w0 M0=>?_)
 refine aD (aE (cV rfl rfl trivial (fun b1=>?_)))
 refine cV rfl rfl trivial (fun b2=>?_)
 refine bJ rfl tyZ44 (fun b3=>?_)
 refine aC (aA (aD (aD (aE (aB (a8 (off:=0) (k:=1) rfl tyF42_1) ⟨rfl,trivial⟩ ?_)))))
 refine aB (bD 1 1 rfl rfl rfl rfl (.one tyO22)) ⟨rfl,trivial⟩ ?_
 refine aB (bZ rfl tyS22) ⟨rfl,trivial⟩ ?_
 refine aB (iJ rfl) ⟨rfl,bC _ _,trivial⟩ ?_
 refine aF ?_
 refine cU (fun h4=>?_) (fun h4=>?_)
 ·have hF:=aT h4 hF
  refine aJ ?_
  refine aJ ?_
  refine aJ ?_
  refine aJ ?_
  refine aB (bK rfl) ⟨rfl,dH _,trivial⟩ ?_
  refine aC (aA (kT rfl ?_))
  refine aD (aE (aB (fA (is:=[]) (xs:=[]) (ps:=[]) rfl tyB44 rfl rfl trivial rfl) trivial ?_))
  refine aY (dA 0 rfl rfl rfl tyA44.s) ⟨rfl,rfl,trivial⟩ ?_
  refine aC (aA (aX (aW ?_)))
  obtain rfl:=bX hF
  exact aI (.inl rfl) Tryz.results96 (bM 0 4 rfl rfl rfl rfl (.agg tyA44) .nil) rfl rfl
 have hF:=aU h4 hF
 refine aZ (a8 (off:=0) (k:=1) rfl tyF42_1) ⟨rfl,trivial⟩ ?_
 refine aZ (bD 2 1 rfl rfl rfl rfl (.one tyO22)) ⟨rfl,trivial⟩ ?_
 refine aZ (bZ rfl tyS22) ⟨rfl,trivial⟩ ?_
 refine aZ (iJ rfl) ⟨rfl,bC _ _,trivial⟩ ?_
 refine aB (bL rfl) ⟨rfl,rfl,trivial⟩ ?_
 refine aC (aA (bO rfl (fun h5=>?_) (fun h5=>?_)))
 ·have hF:=aT h5 hF
  refine aD (aE (aB (fA (is:=[]) (xs:=[]) (ps:=[]) rfl tyB44 rfl rfl trivial rfl) trivial ?_))
  refine aY (dA 0 rfl rfl rfl tyA44.s) ⟨rfl,rfl,trivial⟩ ?_
  refine aC (aA (aX (aW ?_)))
  obtain rfl:=bX hF
  exact aI (.inl rfl) Tryz.results96 (bM 0 4 rfl rfl rfl rfl (.agg tyA44) .nil) rfl rfl
 have hF:=aU h5 hF
 refine aV (aA (aD (aD (aE (aB (bD 2 2 rfl rfl rfl rfl (.agg tyA42)) ⟨rfl,trivial⟩ ?_)))))
 refine aB (bD 1 2 rfl rfl rfl rfl (.agg tyA42)) ⟨rfl,trivial⟩ ?_
 obtain⟨v6,h7,hF⟩:=aO hF
 refine aB (aG rfl (vW h7) rfl) ⟨rfl,rfl,trivial⟩ ?_
 refine bJ rfl tyZ42 (fun b8=>?_)
 refine aY (dA 0 rfl rfl rfl tyA42.s) ⟨rfl,rfl,trivial⟩ ?_
 refine aC (aA (aD (aE (aB (bD 0 2 rfl rfl rfl rfl (.agg tyA42)) ⟨rfl,trivial⟩ ?_))))
 obtain⟨v9,h10,hF⟩:=aO hF
 refine aB (aG rfl (r7 h10) rfl) ⟨rfl,trivial⟩ ?_
 refine aB (lK rfl) ⟨rfl,trivial⟩ ?_
 refine aC (aA (bO rfl (fun h11=>?_) (fun h11=>?_)))
 ·have hF:=aT h11 hF
  refine aD (aE (aB (bD 3 2 rfl rfl rfl rfl (.agg tyA42)) ⟨rfl,trivial⟩ ?_))
  refine aB (bD 0 2 rfl rfl rfl rfl (.agg tyA42)) ⟨rfl,trivial⟩ ?_
  obtain⟨v12,h13,hF⟩:=aO hF
  refine aB (aG rfl (vS h13) rfl) ⟨rfl,rfl,trivial⟩ ?_
  refine aF ?_
  refine aB (lV rfl) ⟨rfl,trivial⟩ ?_
  refine aB (lR rfl) ⟨rfl,trivial⟩ ?_
  refine aY (dA 3 rfl rfl rfl tyA42.s) ⟨rfl,rfl,trivial⟩ ?_
  refine aC (aA (aE (aB (bD 2 2 rfl rfl rfl rfl (.agg tyA42)) ⟨rfl,trivial⟩ ?_)))
  refine aB (bD 0 2 rfl rfl rfl rfl (.agg tyA42)) ⟨rfl,trivial⟩ ?_
  obtain⟨v14,h15,hF⟩:=aO hF
  refine aB (aG rfl (vS h15) rfl) ⟨rfl,rfl,trivial⟩ ?_
  refine aF ?_
  refine aB (lV rfl) ⟨rfl,trivial⟩ ?_
  refine aB (lR rfl) ⟨rfl,trivial⟩ ?_
  refine aY (dA 2 rfl rfl rfl tyA42.s) ⟨rfl,rfl,trivial⟩ ?_
  refine aC (aA (aD (aE (aB (bD 3 2 rfl rfl rfl rfl (.agg tyA42)) ⟨rfl,trivial⟩ ?_))))
  refine aB (bD 2 2 rfl rfl rfl rfl (.agg tyA42)) ⟨rfl,trivial⟩ ?_
  obtain⟨v16,h17,hF⟩:=aO hF
  refine aB (aG rfl (qH h17) rfl) ⟨rfl,rfl,trivial⟩ ?_
  refine aY (dA 1 rfl rfl rfl tyA44.s) ⟨rfl,rfl,trivial⟩ ?_
  refine aC (aA (aX (aW ?_)))
  obtain rfl:=bX hF
  exact aI (.inl rfl) Tryz.results96 (bM 1 4 rfl rfl rfl rfl (.agg tyA44) .nil) rfl rfl
 have hF:=aU h11 hF
 refine aV (aA (aD (aE (aB (bD 3 2 rfl rfl rfl rfl (.agg tyA42)) ⟨rfl,trivial⟩ ?_))))
 refine aB (bD 2 2 rfl rfl rfl rfl (.agg tyA42)) ⟨rfl,trivial⟩ ?_
 obtain⟨v18,h19,hF⟩:=aO hF
 refine aB (aG rfl (qH h19) rfl) ⟨rfl,rfl,trivial⟩ ?_
 refine aY (dA 1 rfl rfl rfl tyA44.s) ⟨rfl,rfl,trivial⟩ ?_
 refine aC (aA (aX (aW ?_)))
 obtain rfl:=bX hF
 exact aI (.inl rfl) Tryz.results96 (bM 1 4 rfl rfl rfl rfl (.agg tyA44) .nil) rfl rfl
def wD:Option aP:=
 (jJ 1).bind fun v2=>some v2
theorem aCM {r:aP} (hF:wD=some r):Ct Tryz.prog 185 [] (.va (aP.e r)):=by
 unfold wD at hF
 refine a9 Tryz.func185 rfl (by kernel_rfl) Tryz.ntmps185 rfl (fun w0 M0=>?_)
 refine aD (aE (bJ rfl tyZ42 (fun b1=>?_)))
 refine aC (aA (aD (aE ?_)))
 obtain⟨v2,h3,hF⟩:=aO hF
 refine aB (aG rfl (nL h3) rfl) ⟨bC _ _,trivial⟩ ?_
 refine aY (dA 0 rfl rfl rfl tyA42.s) ⟨rfl,rfl,trivial⟩ ?_
 refine aC (aA (aX (aW ?_)))
 obtain rfl:=bX hF
 exact aI (.inl rfl) Tryz.results185 (bM 0 2 rfl rfl rfl rfl (.agg tyA42) .nil) rfl rfl
def eK (a0:cB):Option aP:=
 bif((a0.q.d.length:Int)==0) then((wD).bind fun v4=>some v4) else(some a0.q)
theorem iR {a0:cB} {r:aP} (hF:eK a0=some r):Ct Tryz.prog 97 [.va (cB.e a0)] (.va (aP.e r)):=by
 unfold eK at hF
 refine a9 Tryz.func97 rfl (by kernel_rfl) Tryz.ntmps97 rfl (fun w0 M0=>?_)
 refine aD (aE (cV rfl rfl trivial (fun b1=>?_)))
 refine bJ rfl tyZ42 (fun b2=>?_)
 refine aC (aA (aD (aD (aE (aB (a8 (off:=0) (k:=2) rfl tyF44_1) ⟨rfl,trivial⟩ ?_)))))
 refine aB (a8 (off:=2) (k:=1) rfl tyF42_1) ⟨rfl,trivial⟩ ?_
 refine aB (bD 1 1 rfl rfl rfl rfl (.one tyO22)) ⟨rfl,trivial⟩ ?_
 refine aB (bZ rfl tyS22) ⟨rfl,trivial⟩ ?_
 refine aB (iJ rfl) ⟨rfl,bC _ _,trivial⟩ ?_
 refine aC (aA (bO rfl (fun h3=>?_) (fun h3=>?_)))
 ·have hF:=aT h3 hF
  refine aD (aE ?_)
  obtain⟨v4,h5,hF⟩:=aO hF
  refine aB (aG rfl (aCM h5) rfl) trivial ?_
  refine aY (dA 0 rfl rfl rfl tyA42.s) ⟨rfl,rfl,trivial⟩ ?_
  refine aC (aA (aX (aW ?_)))
  obtain rfl:=bX hF
  exact aI (.inl rfl) Tryz.results97 (bM 0 2 rfl rfl rfl rfl (.agg tyA42) .nil) rfl rfl
 have hF:=aU h3 hF
 refine aV (aA (aD (aE (aB (a8 (off:=0) (k:=2) rfl tyF44_1) ⟨rfl,trivial⟩ ?_))))
 refine aB (bD 1 2 rfl rfl rfl rfl (.agg tyA42)) ⟨rfl,trivial⟩ ?_
 refine aY (dA 0 rfl rfl rfl tyA42.s) ⟨rfl,rfl,trivial⟩ ?_
 refine aC (aA (aX (aW ?_)))
 obtain rfl:=bX hF
 exact aI (.inl rfl) Tryz.results97 (bM 0 2 rfl rfl rfl rfl (.agg tyA42) .nil) rfl rfl
abbrev aD1:Nat:=31
def tZ (K:Nat) (a0:cB) (a1:cB):Option cB:=
 bif((a0.p.d.length:Int)==0) then(some (⟨(⟨false,([]:List Int)⟩:aP),(⟨false,([]:List Int)⟩:aP)⟩:cB)) else(bif((a1.p.d.length:Int)==0) then(some (⟨(⟨false,([]:List Int)⟩:aP),(⟨false,([]:List Int)⟩:aP)⟩:cB)) else(bif((a0.q.d.length:Int)==0) then(bif((a1.q.d.length:Int)==0) then((cK K a0.p a1.p).bind fun v8=>some (⟨v8,(⟨false,([]:List Int)⟩:aP)⟩:cB)) else((eK a1).bind fun v12=>(gV K a0.p v12).bind fun v14=>(eK a0).bind fun v16=>(gV K a1.p v16).bind fun v18=>(cK K v14.p v18.p).bind fun v22=>(eK v14).bind fun v24=>(eK v18).bind fun v26=>(cK K v24 v26).bind fun v28=>(kV v22 v28).bind fun v30=>some v30)) else((eK a1).bind fun v34=>(gV K a0.p v34).bind fun v36=>(eK a0).bind fun v38=>(gV K a1.p v38).bind fun v40=>(cK K v36.p v40.p).bind fun v44=>(eK v36).bind fun v46=>(eK v40).bind fun v48=>(cK K v46 v48).bind fun v50=>(kV v44 v50).bind fun v52=>some v52)))
theorem aAi {K:Nat} {a0:cB} {a1:cB} {r:cB} (hF:tZ K a0 a1=some r):Ct Tryz.prog 31 [.va (cB.e a0),.va (cB.e a1)] (.va (cB.e r)):=by
 unfold tZ at hF
 refine a9 Tryz.func31 rfl (by kernel_rfl) Tryz.ntmps31 rfl (fun w0 M0=>?_)
 refine aD (aE (cV rfl rfl trivial (fun b1=>?_)))
 refine cV rfl rfl trivial (fun b2=>?_)
 refine bJ rfl tyZ44 (fun b3=>?_)
 refine aC (aA (aD (aD (aE (aB (a8 (off:=0) (k:=0) rfl tyF44_0) ⟨rfl,trivial⟩ ?_)))))
 refine aB (a8 (off:=0) (k:=1) rfl tyF42_1) ⟨rfl,trivial⟩ ?_
 refine aB (bD 2 1 rfl rfl rfl rfl (.one tyO22)) ⟨rfl,trivial⟩ ?_
 refine aB (bZ rfl tyS22) ⟨rfl,trivial⟩ ?_
 refine aB (iJ rfl) ⟨rfl,bC _ _,trivial⟩ ?_
 refine aF ?_
 refine cU (fun h4=>?_) (fun h4=>?_)
 ·have hF:=aT h4 hF
  refine aJ ?_
  refine aJ ?_
  refine aJ ?_
  refine aJ ?_
  refine aJ ?_
  refine aB (bK rfl) ⟨rfl,dH _,trivial⟩ ?_
  refine aC (aA (kT rfl ?_))
  refine aD (aE (aB (fA (is:=[]) (xs:=[]) (ps:=[]) rfl tyB44 rfl rfl trivial rfl) trivial ?_))
  refine aY (dA 0 rfl rfl rfl tyA44.s) ⟨rfl,rfl,trivial⟩ ?_
  refine aC (aA (aX (aW ?_)))
  obtain rfl:=bX hF
  exact aI (.inl rfl) Tryz.results31 (bM 0 4 rfl rfl rfl rfl (.agg tyA44) .nil) rfl rfl
 have hF:=aU h4 hF
 refine aZ (a8 (off:=0) (k:=0) rfl tyF44_0) ⟨rfl,trivial⟩ ?_
 refine aZ (a8 (off:=0) (k:=1) rfl tyF42_1) ⟨rfl,trivial⟩ ?_
 refine aZ (bD 1 1 rfl rfl rfl rfl (.one tyO22)) ⟨rfl,trivial⟩ ?_
 refine aZ (bZ rfl tyS22) ⟨rfl,trivial⟩ ?_
 refine aZ (iJ rfl) ⟨rfl,bC _ _,trivial⟩ ?_
 refine aB (bL rfl) ⟨rfl,rfl,trivial⟩ ?_
 refine aC (aA (bO rfl (fun h5=>?_) (fun h5=>?_)))
 ·have hF:=aT h5 hF
  refine aD (aE (aB (fA (is:=[]) (xs:=[]) (ps:=[]) rfl tyB44 rfl rfl trivial rfl) trivial ?_))
  refine aY (dA 0 rfl rfl rfl tyA44.s) ⟨rfl,rfl,trivial⟩ ?_
  refine aC (aA (aX (aW ?_)))
  obtain rfl:=bX hF
  exact aI (.inl rfl) Tryz.results31 (bM 0 4 rfl rfl rfl rfl (.agg tyA44) .nil) rfl rfl
 have hF:=aU h5 hF
 refine aV (aA (aD (aD (aE (aB (a8 (off:=0) (k:=2) rfl tyF44_1) ⟨rfl,trivial⟩ ?_)))))
 refine aB (a8 (off:=2) (k:=1) rfl tyF42_1) ⟨rfl,trivial⟩ ?_
 refine aB (bD 2 1 rfl rfl rfl rfl (.one tyO22)) ⟨rfl,trivial⟩ ?_
 refine aB (bZ rfl tyS22) ⟨rfl,trivial⟩ ?_
 refine aB (iJ rfl) ⟨rfl,bC _ _,trivial⟩ ?_
 refine aF ?_
 refine cU (fun h6=>?_) (fun h6=>?_)
 ·have hF:=aT h6 hF
  refine aZ (a8 (off:=0) (k:=2) rfl tyF44_1) ⟨rfl,trivial⟩ ?_
  refine aZ (a8 (off:=2) (k:=1) rfl tyF42_1) ⟨rfl,trivial⟩ ?_
  refine aZ (bD 1 1 rfl rfl rfl rfl (.one tyO22)) ⟨rfl,trivial⟩ ?_
  refine aZ (bZ rfl tyS22) ⟨rfl,trivial⟩ ?_
  refine aZ (iJ rfl) ⟨rfl,bC _ _,trivial⟩ ?_
  refine aB (bK rfl) ⟨rfl,rfl,trivial⟩ ?_
  refine aC (aA (bO rfl (fun h7=>?_) (fun h7=>?_)))
  ·have hF:=aT h7 hF
   refine aD (aE (aB (a8 (off:=0) (k:=0) rfl tyF44_0) ⟨rfl,trivial⟩ ?_))
   refine aB (bD 2 2 rfl rfl rfl rfl (.agg tyA42)) ⟨rfl,trivial⟩ ?_
   refine aB (a8 (off:=0) (k:=0) rfl tyF44_0) ⟨rfl,trivial⟩ ?_
   refine aB (bD 1 2 rfl rfl rfl rfl (.agg tyA42)) ⟨rfl,trivial⟩ ?_
   obtain⟨v8,h9,hF⟩:=aO hF
   refine aB (aG rfl (fP h9) rfl) ⟨rfl,rfl,trivial⟩ ?_
   refine aB (fA (is:=[0]) (xs:=[.tmp 36]) (ps:=[.va (aP.e v8)]) rfl tyB44 rfl rfl ⟨trivial,trivial⟩ rfl) ⟨rfl,trivial⟩ ?_
   refine aY (dA 0 rfl rfl rfl tyA44.s) ⟨rfl,rfl,trivial⟩ ?_
   refine aC (aA (aX (aW ?_)))
   obtain rfl:=bX hF
   exact aI (.inl rfl) Tryz.results31 (bM 0 4 rfl rfl rfl rfl (.agg tyA44) .nil) rfl rfl
  have hF:=aU h7 hF
  refine aV (aA (aD ?_))
  obtain⟨v12,h13,hF⟩:=aO hF
  obtain⟨v14,h15,hF⟩:=aO hF
  obtain⟨v16,h17,hF⟩:=aO hF
  obtain⟨v18,h19,hF⟩:=aO hF
  refine bP [0,1,0,4,15,0,32,0,159,511,0,0,4095,8191] 12 2 [.v (.vc (pP (some b1) 0)),.v (.va (aP.e a0.p)),.v (.va (cB.e a1)),.v (.va (aP.e v12)),.v (.va (cB.e v14)),.v (.vc (pP (some b2) 0)),.v (.va (aP.e a1.p)),.v (.va (cB.e a0)),.v (.va (aP.e v16)),.v (.va (cB.e v18)),.a 44 (([pB false]++[pS cI ([]:List Int)])++([pB false]++[pS cI ([]:List Int)])),.a 44 (([pB false]++[pS cI ([]:List Int)])++([pB false]++[pS cI ([]:List Int)]))] aR ⟨d0 (a8 (off:=0) (k:=0) rfl tyF44_0) ⟨rfl,trivial⟩,d0 (bD 2 2 rfl rfl rfl rfl (.agg tyA42)) ⟨rfl,trivial⟩,d0 (bD 1 4 rfl rfl rfl rfl (.agg tyA44)) ⟨rfl,trivial⟩,d0 (aG rfl (iR h13) rfl) ⟨rfl,trivial⟩,d0 (aG rfl (pQ h15) rfl) ⟨rfl,rfl,trivial⟩,d0 (a8 (off:=0) (k:=0) rfl tyF44_0) ⟨rfl,trivial⟩,d0 (bD 1 2 rfl rfl rfl rfl (.agg tyA42)) ⟨rfl,trivial⟩,d0 (bD 2 4 rfl rfl rfl rfl (.agg tyA44)) ⟨rfl,trivial⟩,d0 (aG rfl (iR h17) rfl) ⟨rfl,trivial⟩,d0 (aG rfl (pQ h19) rfl) ⟨rfl,rfl,trivial⟩,⟨rfl,.alc tyZ44⟩,⟨rfl,.alc tyZ44⟩,trivial⟩ (fun bs11 G10=>?_)
  refine aY (dA 0 rfl rfl rfl tyA44.s) ⟨rfl,rfl,trivial⟩ ?_
  refine aY (dA 1 rfl rfl rfl tyA44.s) ⟨rfl,rfl,trivial⟩ ?_
  refine aC (aA (aD ?_))
  obtain⟨v22,h23,hF⟩:=aO hF
  obtain⟨v24,h25,hF⟩:=aO hF
  obtain⟨v26,h27,hF⟩:=aO hF
  obtain⟨v28,h29,hF⟩:=aO hF
  obtain⟨v30,h31,hF⟩:=aO hF
  refine bP [0,1,0,4,15,0,63,0,255,511,1023,2047] 11 1 [.v (.vc (pP (some (bs11 10)) 0)),.v (.va (aP.e v14.p)),.v (.vc (pP (some (bs11 11)) 0)),.v (.va (aP.e v18.p)),.v (.va (aP.e v22)),.v (.va (cB.e v14)),.v (.va (aP.e v24)),.v (.va (cB.e v18)),.v (.va (aP.e v26)),.v (.va (aP.e v28)),.v (.va (cB.e v30))] aR ⟨d0 (a8 (off:=0) (k:=0) rfl tyF44_0) ⟨rfl,trivial⟩,d0 (bD 0 2 rfl rfl rfl rfl (.agg tyA42)) ⟨rfl,trivial⟩,d0 (a8 (off:=0) (k:=0) rfl tyF44_0) ⟨rfl,trivial⟩,d0 (bD 1 2 rfl rfl rfl rfl (.agg tyA42)) ⟨rfl,trivial⟩,d0 (aG rfl (fP h23) rfl) ⟨rfl,rfl,trivial⟩,d0 (bD 0 4 rfl rfl rfl rfl (.agg tyA44)) ⟨rfl,trivial⟩,d0 (aG rfl (iR h25) rfl) ⟨rfl,trivial⟩,d0 (bD 1 4 rfl rfl rfl rfl (.agg tyA44)) ⟨rfl,trivial⟩,d0 (aG rfl (iR h27) rfl) ⟨rfl,trivial⟩,d0 (aG rfl (fP h29) rfl) ⟨rfl,rfl,trivial⟩,d0 (aG rfl (qH h31) rfl) ⟨rfl,rfl,trivial⟩,trivial⟩ (fun bs21 G20=>?_)
  refine aY (dA 2 rfl rfl rfl tyA44.s) ⟨rfl,rfl,trivial⟩ ?_
  refine aC (aA (aX (aW ?_)))
  obtain rfl:=bX hF
  exact aI (.inl rfl) Tryz.results31 (bM 2 4 rfl rfl rfl rfl (.agg tyA44) .nil) rfl rfl
 have hF:=aU h6 hF
 refine aJ ?_
 refine aJ ?_
 refine aJ ?_
 refine aJ ?_
 refine aJ ?_
 refine aB (bL rfl) ⟨rfl,dH _,trivial⟩ ?_
 refine aC (aA (qG rfl ?_))
 refine aV (aA (aD ?_))
 obtain⟨v34,h35,hF⟩:=aO hF
 obtain⟨v36,h37,hF⟩:=aO hF
 obtain⟨v38,h39,hF⟩:=aO hF
 obtain⟨v40,h41,hF⟩:=aO hF
 refine bP [0,1,0,4,15,0,32,0,159,511,0,0,4095,8191] 12 2 [.v (.vc (pP (some b1) 0)),.v (.va (aP.e a0.p)),.v (.va (cB.e a1)),.v (.va (aP.e v34)),.v (.va (cB.e v36)),.v (.vc (pP (some b2) 0)),.v (.va (aP.e a1.p)),.v (.va (cB.e a0)),.v (.va (aP.e v38)),.v (.va (cB.e v40)),.a 44 (([pB false]++[pS cI ([]:List Int)])++([pB false]++[pS cI ([]:List Int)])),.a 44 (([pB false]++[pS cI ([]:List Int)])++([pB false]++[pS cI ([]:List Int)]))] aR ⟨d0 (a8 (off:=0) (k:=0) rfl tyF44_0) ⟨rfl,trivial⟩,d0 (bD 2 2 rfl rfl rfl rfl (.agg tyA42)) ⟨rfl,trivial⟩,d0 (bD 1 4 rfl rfl rfl rfl (.agg tyA44)) ⟨rfl,trivial⟩,d0 (aG rfl (iR h35) rfl) ⟨rfl,trivial⟩,d0 (aG rfl (pQ h37) rfl) ⟨rfl,rfl,trivial⟩,d0 (a8 (off:=0) (k:=0) rfl tyF44_0) ⟨rfl,trivial⟩,d0 (bD 1 2 rfl rfl rfl rfl (.agg tyA42)) ⟨rfl,trivial⟩,d0 (bD 2 4 rfl rfl rfl rfl (.agg tyA44)) ⟨rfl,trivial⟩,d0 (aG rfl (iR h39) rfl) ⟨rfl,trivial⟩,d0 (aG rfl (pQ h41) rfl) ⟨rfl,rfl,trivial⟩,⟨rfl,.alc tyZ44⟩,⟨rfl,.alc tyZ44⟩,trivial⟩ (fun bs33 G32=>?_)
 refine aY (dA 0 rfl rfl rfl tyA44.s) ⟨rfl,rfl,trivial⟩ ?_
 refine aY (dA 1 rfl rfl rfl tyA44.s) ⟨rfl,rfl,trivial⟩ ?_
 refine aC (aA (aD ?_))
 obtain⟨v44,h45,hF⟩:=aO hF
 obtain⟨v46,h47,hF⟩:=aO hF
 obtain⟨v48,h49,hF⟩:=aO hF
 obtain⟨v50,h51,hF⟩:=aO hF
 obtain⟨v52,h53,hF⟩:=aO hF
 refine bP [0,1,0,4,15,0,63,0,255,511,1023,2047] 11 1 [.v (.vc (pP (some (bs33 10)) 0)),.v (.va (aP.e v36.p)),.v (.vc (pP (some (bs33 11)) 0)),.v (.va (aP.e v40.p)),.v (.va (aP.e v44)),.v (.va (cB.e v36)),.v (.va (aP.e v46)),.v (.va (cB.e v40)),.v (.va (aP.e v48)),.v (.va (aP.e v50)),.v (.va (cB.e v52))] aR ⟨d0 (a8 (off:=0) (k:=0) rfl tyF44_0) ⟨rfl,trivial⟩,d0 (bD 0 2 rfl rfl rfl rfl (.agg tyA42)) ⟨rfl,trivial⟩,d0 (a8 (off:=0) (k:=0) rfl tyF44_0) ⟨rfl,trivial⟩,d0 (bD 1 2 rfl rfl rfl rfl (.agg tyA42)) ⟨rfl,trivial⟩,d0 (aG rfl (fP h45) rfl) ⟨rfl,rfl,trivial⟩,d0 (bD 0 4 rfl rfl rfl rfl (.agg tyA44)) ⟨rfl,trivial⟩,d0 (aG rfl (iR h47) rfl) ⟨rfl,trivial⟩,d0 (bD 1 4 rfl rfl rfl rfl (.agg tyA44)) ⟨rfl,trivial⟩,d0 (aG rfl (iR h49) rfl) ⟨rfl,trivial⟩,d0 (aG rfl (fP h51) rfl) ⟨rfl,rfl,trivial⟩,d0 (aG rfl (qH h53) rfl) ⟨rfl,rfl,trivial⟩,trivial⟩ (fun bs43 G42=>?_)
 refine aY (dA 2 rfl rfl rfl tyA44.s) ⟨rfl,rfl,trivial⟩ ?_
 refine aC (aA (aX (aW ?_)))
 obtain rfl:=bX hF
 exact aI (.inl rfl) Tryz.results31 (bM 2 4 rfl rfl rfl rfl (.agg tyA44) .nil) rfl rfl
def o8 (K:Nat):Option Bool:=
 some true
def fK (K:Nat) (a0:List Int) (a1:List Int):Nat→Int→Option (LR Bool Unit)
 |0,_=>none
 |k+1,x3=>bif(decide (x3<(a0.length:Int))) then((dO a0 x3).bind fun v9=>(dO a1 x3).bind fun v11=>bif(v9 != v11) then(some (.ret false)) else((bQ (x3+1)).bind fun v14=>fK K a0 a1 k v14)) else(some (.go ()))
def l7 (K:Nat) (a0:List Int) (a1:List Int):Option Bool:=
 bif((a0.length:Int) != (a1.length:Int)) then(some false) else((fK K a0 a1 K 0).bind fun o=>match o with| .ret r=>some r| .go _=>o8 K)
theorem wM {K:Nat} {a0:List Int} {a1:List Int} {r:Bool} (hF:l7 K a0 a1=some r):Ct Tryz.prog 100 [.vc (pS cI a0),.vc (pS cI a1)] (.vc (pB r)):=by
 unfold l7 at hF
 refine a9 Tryz.func100 rfl (by kernel_rfl) Tryz.ntmps100 rfl (fun w0 M0=>?_)
 refine aD (aE (aB (aL (.inr rfl)) ⟨dH _,trivial⟩ ?_))
 refine aC (aA (aD (aD (aE (aF ?_)))))
 refine aB (bZ rfl tyS22) ⟨rfl,trivial⟩ ?_
 refine aF ?_
 refine aB (bZ rfl tyS22) ⟨rfl,trivial⟩ ?_
 refine aB (sC rfl) ⟨rfl,rfl,trivial⟩ ?_
 refine aC (aA (bO rfl (fun h1=>?_) (fun h1=>?_)))
 ·have hF:=aT h1 hF
  refine aD (aE (aB (aL (.inr rfl)) ⟨dH _,trivial⟩ ?_))
  refine aC (aA (aX (aW ?_)))
  obtain rfl:=bX hF
  exact aI (.inl rfl) Tryz.results100 (.tmp rfl .nil) rfl rfl
 have hF:=aU h1 hF
 refine aV (aA (aD (aD (aE (aF ?_)))))
 refine aB (bZ rfl tyS22) ⟨rfl,trivial⟩ ?_
 refine aB (aL (.inl rfl)) ⟨bC _ _,trivial⟩ ?_
 refine aC (aA (bN (cL (fun H E=>o8 K=some r∧H=[]∧E=[]) ?_ (fun Jj5=>?_))))
 ·rintro _ _ ⟨hF,rfl,rfl⟩
  unfold o8 at hF
  refine aA (aD (aE (aB (aL (.inr rfl)) ⟨dH _,trivial⟩ ?_)))
  refine aC (aA (aX (aW ?_)))
  obtain rfl:=bX hF
  exact aI (.inl rfl) Tryz.results100 (.tmp rfl .nil) rfl rfl
 obtain⟨ol4,hL,hRl4⟩:=aO hF
 refine gY (fun k a w=>∃(x3:Int),fK K a0 a1 k x3=some ol4∧hs _ [] [(0,.vc (pS cI a0)),(1,.vc (pS cI a1)),(12,.vc (pI .i64 (a0.length:Int))),(13,.vc (pI .i64 x3))] a w) K (fun a w ⟨_,hF,_⟩=>by cases hF) (fun k a w ⟨x3,hF,hh⟩=>gX ?_ hh) (fun a w hh=>⟨0,hL,bA [] rfl (by decide) (by exact⟨rfl,rfl,rfl,rfl,trivial⟩) hh⟩)
 rw [fK.eq_2] at hF
 refine aD (aE (aB (dQ rfl) ⟨rfl,rfl,trivial⟩ ?_))
 refine aC (aA (aD (bO rfl (fun h6=>?_) (fun h6=>?_))))
 ·have hF:=aT h6 hF
  refine aV (aA (aD (bN (aD (aE (aF ?_))))))
  refine bB ?_
  refine aC (aA (aD ?_))
  obtain⟨v9,h10,hF⟩:=aO hF
  obtain⟨v11,h12,hF⟩:=aO hF
  refine bP [0,0,3,7,0,0,48,112,255] 9 0 [.v (.vc (pS cI a0)),.v (.vc (pI .i64 x3)),.v (.vc (pM (cI.e v9))),.v (.vc (pI .i64 v9)),.v (.vc (pS cI a1)),.v (.vc (pI .i64 x3)),.v (.vc (pM (cI.e v11))),.v (.vc (pI .i64 v11)),.v (.vc (pB (v9 != v11)))] aR ⟨d0 (aL (.inl rfl)) ⟨rfl,trivial⟩,d0 (aL (.inl rfl)) ⟨rfl,trivial⟩,d0 (dX rfl tyS22 h10) ⟨rfl,rfl,trivial⟩,d0 (dM 1 rfl rfl (.one tyO3)) ⟨rfl,trivial⟩,d0 (aL (.inl rfl)) ⟨rfl,trivial⟩,d0 (aL (.inl rfl)) ⟨rfl,trivial⟩,d0 (dX rfl tyS22 h12) ⟨rfl,rfl,trivial⟩,d0 (dM 1 rfl rfl (.one tyO3)) ⟨rfl,trivial⟩,d0 (sC rfl) ⟨rfl,rfl,trivial⟩,trivial⟩ (fun bs8 G7=>?_)
  refine aC (aA (bO rfl (fun h13=>?_) (fun h13=>?_)))
  ·have hF:=aT h13 hF
   refine aD (aE (aB (aL (.inr rfl)) ⟨dH _,trivial⟩ ?_))
   refine aC (aA (aX (aW ?_)))
   obtain rfl:=bX hF
   obtain rfl:=bX hRl4
   exact aI (.inl rfl) Tryz.results100 (.tmp rfl .nil) rfl rfl
  have hF:=aU h13 hF
  refine aV (bF (aA (aE ?_)))
  obtain⟨v14,h15,hF⟩:=aO hF
  refine aB (bI rfl h15) ⟨rfl,bC _ _,trivial⟩ ?_
  refine aF ?_
  refine aC ?_
  exact bG (fun a w hh=>⟨v14,hF,bA [] rfl (by decide) (by exact⟨rfl,rfl,rfl,rfl,trivial⟩) hh⟩)
 have hF:=aU h6 hF
 refine dE ?_
 obtain rfl:=bX hF
 exact bS Jj5 ⟨hRl4,rfl,rfl⟩ [] rfl trivial
def pY (K:Nat) (a0:aP) (a1:aP):Option Bool:=
 bif(a0.neg==a1.neg) then((l7 K a0.d a1.d).bind fun v4=>some v4) else(some false)
theorem wU {K:Nat} {a0:aP} {a1:aP} {r:Bool} (hF:pY K a0 a1=some r):Ct Tryz.prog 99 [.va (aP.e a0),.va (aP.e a1)] (.vc (pB r)):=by
 unfold pY at hF
 refine a9 Tryz.func99 rfl (by kernel_rfl) Tryz.ntmps99 rfl (fun w0 M0=>?_)
 refine aD (aE (cV rfl rfl trivial (fun b1=>?_)))
 refine cV rfl rfl trivial (fun b2=>?_)
 refine aB (aL (.inr rfl)) ⟨dH _,trivial⟩ ?_
 refine aC (aA (aD (aE (aB (a8 (off:=0) (k:=0) rfl tyF42_0) ⟨rfl,trivial⟩ ?_))))
 refine aB (bD 1 1 rfl rfl rfl rfl (.one tyO4)) ⟨rfl,trivial⟩ ?_
 refine aB (a8 (off:=0) (k:=0) rfl tyF42_0) ⟨rfl,trivial⟩ ?_
 refine aB (bD 0 1 rfl rfl rfl rfl (.one tyO4)) ⟨rfl,trivial⟩ ?_
 refine aB (yZ rfl Tryz.underlying4) ⟨rfl,rfl,trivial⟩ ?_
 refine aF ?_
 refine cU (fun h3=>?_) (fun h3=>?_)
 ·have hF:=aT h3 hF
  refine aZ (a8 (off:=0) (k:=1) rfl tyF42_1) ⟨rfl,trivial⟩ ?_
  refine aZ (bD 1 1 rfl rfl rfl rfl (.one tyO22)) ⟨rfl,trivial⟩ ?_
  refine aZ (a8 (off:=0) (k:=1) rfl tyF42_1) ⟨rfl,trivial⟩ ?_
  refine aZ (bD 0 1 rfl rfl rfl rfl (.one tyO22)) ⟨rfl,trivial⟩ ?_
  obtain⟨v4,h5,hF⟩:=aO hF
  refine aZ (aG rfl (wM h5) rfl) ⟨rfl,rfl,trivial⟩ ?_
  refine aB (bK rfl) ⟨rfl,rfl,trivial⟩ ?_
  refine bB ?_
  refine aC (aA (aX (aW ?_)))
  obtain rfl:=bX hF
  exact aI (.inl rfl) Tryz.results99 (.tmp rfl .nil) rfl rfl
 have hF:=aU h3 hF
 refine aJ ?_
 refine aJ ?_
 refine aJ ?_
 refine aJ ?_
 refine aJ ?_
 refine aB (bL rfl) ⟨rfl,dH _,trivial⟩ ?_
 refine bB ?_
 refine aC (aA (aX (aW ?_)))
 obtain rfl:=bX hF
 exact aI (.inl rfl) Tryz.results99 (.tmp rfl .nil) rfl rfl
abbrev aCx:Nat:=32
def uU (K:Nat) (a0:cB) (a1:cB):Option Bool:=
 (pY K a0.p a1.p).bind fun v3=>bif v3 then((pY K a0.q a1.q).bind fun v6=>some v6) else(some false)
theorem aBO {K:Nat} {a0:cB} {a1:cB} {r:Bool} (hF:uU K a0 a1=some r):Ct Tryz.prog 32 [.va (cB.e a0),.va (cB.e a1)] (.vc (pB r)):=by
 unfold uU at hF
 refine a9 Tryz.func32 rfl (by kernel_rfl) Tryz.ntmps32 rfl (fun w0 M0=>?_)
 refine aD (aE (cV rfl rfl trivial (fun b1=>?_)))
 refine cV rfl rfl trivial (fun b2=>?_)
 refine aB (aL (.inr rfl)) ⟨dH _,trivial⟩ ?_
 refine aC (aA (aD (aE (aB (aL (.inr rfl)) ⟨k_F _,trivial⟩ ?_))))
 refine aC (aA (aD (aE (aF ?_))))
 refine aB (a8 (off:=0) (k:=0) rfl tyF44_0) ⟨rfl,trivial⟩ ?_
 refine aB (bD 1 2 rfl rfl rfl rfl (.agg tyA42)) ⟨rfl,trivial⟩ ?_
 refine aB (a8 (off:=0) (k:=0) rfl tyF44_0) ⟨rfl,trivial⟩ ?_
 refine aB (bD 0 2 rfl rfl rfl rfl (.agg tyA42)) ⟨rfl,trivial⟩ ?_
 obtain⟨v3,h4,hF⟩:=aO hF
 refine aB (aBg (cs:=[]) (pre:=[.va (aP.e a0.p),.va (aP.e a1.p)]) rfl (wU h4) rfl) ⟨rfl,rfl,rfl,trivial⟩ ?_
 refine aF ?_
 refine cU (fun h5=>?_) (fun h5=>?_)
 ·have hF:=aT h5 hF
  refine aZ (aL (.inl rfl)) ⟨rfl,trivial⟩ ?_
  refine aZ (a8 (off:=0) (k:=2) rfl tyF44_1) ⟨rfl,trivial⟩ ?_
  refine aZ (bD 1 2 rfl rfl rfl rfl (.agg tyA42)) ⟨rfl,trivial⟩ ?_
  refine aZ (a8 (off:=0) (k:=2) rfl tyF44_1) ⟨rfl,trivial⟩ ?_
  refine aZ (bD 0 2 rfl rfl rfl rfl (.agg tyA42)) ⟨rfl,trivial⟩ ?_
  obtain⟨v6,h7,hF⟩:=aO hF
  refine aZ (aBg (cs:=[]) (pre:=[.va (aP.e a0.q),.va (aP.e a1.q)]) rfl (wU h7) rfl) ⟨rfl,rfl,rfl,trivial⟩ ?_
  refine aB (bK rfl) ⟨rfl,rfl,trivial⟩ ?_
  refine bB ?_
  refine aC (aA (aX (aW ?_)))
  obtain rfl:=bX hF
  exact aI (.inl rfl) Tryz.results32 (.tmp rfl .nil) rfl rfl
 have hF:=aU h5 hF
 refine aJ ?_
 refine aJ ?_
 refine aJ ?_
 refine aJ ?_
 refine aJ ?_
 refine aJ ?_
 refine aB (bL rfl) ⟨rfl,dH _,trivial⟩ ?_
 refine bB ?_
 refine aC (aA (aX (aW ?_)))
 obtain rfl:=bX hF
 exact aI (.inl rfl) Tryz.results32 (.tmp rfl .nil) rfl rfl
abbrev aD3:Nat:=34
def tW (K:Nat) (a0:cB) (a1:cB):Option cB:=
 bif((a0.q.d.length:Int)==0) then(bif((a1.q.d.length:Int)==0) then((kX K a0.p a1.p).bind fun v6=>some (⟨v6,(⟨false,([]:List Int)⟩:aP)⟩:cB)) else(bif((a0.p.d.length:Int)==0) then(some a1) else(bif((a1.p.d.length:Int)==0) then(some a0) else((eK a0).bind fun v12=>(eK a1).bind fun v14=>(cK K a0.p v14).bind fun v18=>(cK K a1.p v12).bind fun v20=>(kX K v18 v20).bind fun v22=>(cK K v12 v14).bind fun v24=>(gV K v22 v24).bind fun v26=>some v26)))) else(bif((a0.p.d.length:Int)==0) then(some a1) else(bif((a1.p.d.length:Int)==0) then(some a0) else((eK a0).bind fun v32=>(eK a1).bind fun v34=>(cK K a0.p v34).bind fun v38=>(cK K a1.p v32).bind fun v40=>(kX K v38 v40).bind fun v42=>(cK K v32 v34).bind fun v44=>(gV K v42 v44).bind fun v46=>some v46)))
theorem zS {K:Nat} {a0:cB} {a1:cB} {r:cB} (hF:tW K a0 a1=some r):Ct Tryz.prog 34 [.va (cB.e a0),.va (cB.e a1)] (.va (cB.e r)):=by
 unfold tW at hF
 refine a9 Tryz.func34 rfl (by kernel_rfl) Tryz.ntmps34 rfl (fun w0 M0=>?_)
 refine aD (aE (cV rfl rfl trivial (fun b1=>?_)))
 refine cV rfl rfl trivial (fun b2=>?_)
 refine bJ rfl tyZ44 (fun b3=>?_)
 refine aC (aA (aD (bN (aD (aE (aB (a8 (off:=0) (k:=2) rfl tyF44_1) ⟨rfl,trivial⟩ ?_))))))
 refine aB (a8 (off:=2) (k:=1) rfl tyF42_1) ⟨rfl,trivial⟩ ?_
 refine aB (bD 2 1 rfl rfl rfl rfl (.one tyO22)) ⟨rfl,trivial⟩ ?_
 refine aB (bZ rfl tyS22) ⟨rfl,trivial⟩ ?_
 refine aB (iJ rfl) ⟨rfl,bC _ _,trivial⟩ ?_
 refine aF ?_
 refine cU (fun h4=>?_) (fun h4=>?_)
 ·have hF:=aT h4 hF
  refine aZ (a8 (off:=0) (k:=2) rfl tyF44_1) ⟨rfl,trivial⟩ ?_
  refine aZ (a8 (off:=2) (k:=1) rfl tyF42_1) ⟨rfl,trivial⟩ ?_
  refine aZ (bD 1 1 rfl rfl rfl rfl (.one tyO22)) ⟨rfl,trivial⟩ ?_
  refine aZ (bZ rfl tyS22) ⟨rfl,trivial⟩ ?_
  refine aZ (iJ rfl) ⟨rfl,bC _ _,trivial⟩ ?_
  refine aB (bK rfl) ⟨rfl,rfl,trivial⟩ ?_
  refine bB ?_
  refine aC (aA (bO rfl (fun h5=>?_) (fun h5=>?_)))
  ·have hF:=aT h5 hF
   refine aD (aE (aB (a8 (off:=0) (k:=0) rfl tyF44_0) ⟨rfl,trivial⟩ ?_))
   refine aB (bD 2 2 rfl rfl rfl rfl (.agg tyA42)) ⟨rfl,trivial⟩ ?_
   refine aB (a8 (off:=0) (k:=0) rfl tyF44_0) ⟨rfl,trivial⟩ ?_
   refine aB (bD 1 2 rfl rfl rfl rfl (.agg tyA42)) ⟨rfl,trivial⟩ ?_
   obtain⟨v6,h7,hF⟩:=aO hF
   refine aB (aG rfl (sV h7) rfl) ⟨rfl,rfl,trivial⟩ ?_
   refine aB (fA (is:=[0]) (xs:=[.tmp 24]) (ps:=[.va (aP.e v6)]) rfl tyB44 rfl rfl ⟨trivial,trivial⟩ rfl) ⟨rfl,trivial⟩ ?_
   refine aY (dA 0 rfl rfl rfl tyA44.s) ⟨rfl,rfl,trivial⟩ ?_
   refine aC (aA (aX (aW ?_)))
   obtain rfl:=bX hF
   exact aI (.inl rfl) Tryz.results34 (bM 0 4 rfl rfl rfl rfl (.agg tyA44) .nil) rfl rfl
  have hF:=aU h5 hF
  refine aD (aE (aB (a8 (off:=0) (k:=0) rfl tyF44_0) ⟨rfl,trivial⟩ ?_))
  refine aB (a8 (off:=0) (k:=1) rfl tyF42_1) ⟨rfl,trivial⟩ ?_
  refine aB (bD 2 1 rfl rfl rfl rfl (.one tyO22)) ⟨rfl,trivial⟩ ?_
  refine aB (bZ rfl tyS22) ⟨rfl,trivial⟩ ?_
  refine aB (iJ rfl) ⟨rfl,bC _ _,trivial⟩ ?_
  refine bB ?_
  refine aC (aA (bO rfl (fun h8=>?_) (fun h8=>?_)))
  ·have hF:=aT h8 hF
   refine aD (aE (aB (bD 1 4 rfl rfl rfl rfl (.agg tyA44)) ⟨rfl,trivial⟩ ?_))
   refine aY (dA 0 rfl rfl rfl tyA44.s) ⟨rfl,rfl,trivial⟩ ?_
   refine aC (aA (aX (aW ?_)))
   obtain rfl:=bX hF
   exact aI (.inl rfl) Tryz.results34 (bM 0 4 rfl rfl rfl rfl (.agg tyA44) .nil) rfl rfl
  have hF:=aU h8 hF
  refine aD (aE (aB (a8 (off:=0) (k:=0) rfl tyF44_0) ⟨rfl,trivial⟩ ?_))
  refine aB (a8 (off:=0) (k:=1) rfl tyF42_1) ⟨rfl,trivial⟩ ?_
  refine aB (bD 1 1 rfl rfl rfl rfl (.one tyO22)) ⟨rfl,trivial⟩ ?_
  refine aB (bZ rfl tyS22) ⟨rfl,trivial⟩ ?_
  refine aB (iJ rfl) ⟨rfl,bC _ _,trivial⟩ ?_
  refine bB ?_
  refine aC (aA (bO rfl (fun h9=>?_) (fun h9=>?_)))
  ·have hF:=aT h9 hF
   refine aD (aE (aB (bD 2 4 rfl rfl rfl rfl (.agg tyA44)) ⟨rfl,trivial⟩ ?_))
   refine aY (dA 0 rfl rfl rfl tyA44.s) ⟨rfl,rfl,trivial⟩ ?_
   refine aC (aA (aX (aW ?_)))
   obtain rfl:=bX hF
   exact aI (.inl rfl) Tryz.results34 (bM 0 4 rfl rfl rfl rfl (.agg tyA44) .nil) rfl rfl
  have hF:=aU h9 hF
  refine aV (bF (aA (aD ?_)))
  obtain⟨v12,h13,hF⟩:=aO hF
  obtain⟨v14,h15,hF⟩:=aO hF
  refine bP [0,1,0,7,0,0,63,127] 6 2 [.v (.va (cB.e a0)),.v (.va (aP.e v12)),.v (.va (cB.e a1)),.v (.va (aP.e v14)),.a 42 ([pB false]++[pS cI ([]:List Int)]),.a 42 ([pB false]++[pS cI ([]:List Int)])] aR ⟨d0 (bD 2 4 rfl rfl rfl rfl (.agg tyA44)) ⟨rfl,trivial⟩,d0 (aG rfl (iR h13) rfl) ⟨rfl,trivial⟩,d0 (bD 1 4 rfl rfl rfl rfl (.agg tyA44)) ⟨rfl,trivial⟩,d0 (aG rfl (iR h15) rfl) ⟨rfl,trivial⟩,⟨rfl,.alc tyZ42⟩,⟨rfl,.alc tyZ42⟩,trivial⟩ (fun bs11 G10=>?_)
  refine aY (dA 0 rfl rfl rfl tyA42.s) ⟨rfl,rfl,trivial⟩ ?_
  refine aY (dA 1 rfl rfl rfl tyA42.s) ⟨rfl,rfl,trivial⟩ ?_
  refine aC (aA (aD ?_))
  obtain⟨v18,h19,hF⟩:=aO hF
  obtain⟨v20,h21,hF⟩:=aO hF
  obtain⟨v22,h23,hF⟩:=aO hF
  obtain⟨v24,h25,hF⟩:=aO hF
  obtain⟨v26,h27,hF⟩:=aO hF
  refine bP [0,1,0,7,0,16,0,127,255,0,0,2047,4095,8191] 13 1 [.v (.vc (pP (some b1) 0)),.v (.va (aP.e a0.p)),.v (.va (aP.e v14)),.v (.va (aP.e v18)),.v (.vc (pP (some b2) 0)),.v (.va (aP.e a1.p)),.v (.va (aP.e v12)),.v (.va (aP.e v20)),.v (.va (aP.e v22)),.v (.va (aP.e v12)),.v (.va (aP.e v14)),.v (.va (aP.e v24)),.v (.va (cB.e v26))] aR ⟨d0 (a8 (off:=0) (k:=0) rfl tyF44_0) ⟨rfl,trivial⟩,d0 (bD 4 2 rfl rfl rfl rfl (.agg tyA42)) ⟨rfl,trivial⟩,d0 (bD 1 2 rfl rfl rfl rfl (.agg tyA42)) ⟨rfl,trivial⟩,d0 (aG rfl (fP h19) rfl) ⟨rfl,rfl,trivial⟩,d0 (a8 (off:=0) (k:=0) rfl tyF44_0) ⟨rfl,trivial⟩,d0 (bD 3 2 rfl rfl rfl rfl (.agg tyA42)) ⟨rfl,trivial⟩,d0 (bD 0 2 rfl rfl rfl rfl (.agg tyA42)) ⟨rfl,trivial⟩,d0 (aG rfl (fP h21) rfl) ⟨rfl,rfl,trivial⟩,d0 (aG rfl (sV h23) rfl) ⟨rfl,rfl,trivial⟩,d0 (bD 0 2 rfl rfl rfl rfl (.agg tyA42)) ⟨rfl,trivial⟩,d0 (bD 1 2 rfl rfl rfl rfl (.agg tyA42)) ⟨rfl,trivial⟩,d0 (aG rfl (fP h25) rfl) ⟨rfl,rfl,trivial⟩,d0 (aG rfl (pQ h27) rfl) ⟨rfl,rfl,trivial⟩,trivial⟩ (fun bs17 G16=>?_)
  refine aY (dA 2 rfl rfl rfl tyA44.s) ⟨rfl,rfl,trivial⟩ ?_
  refine aC (aA (aX (aW ?_)))
  obtain rfl:=bX hF
  exact aI (.inl rfl) Tryz.results34 (bM 2 4 rfl rfl rfl rfl (.agg tyA44) .nil) rfl rfl
 have hF:=aU h4 hF
 refine aJ ?_
 refine aJ ?_
 refine aJ ?_
 refine aJ ?_
 refine aJ ?_
 refine aB (bL rfl) ⟨rfl,dH _,trivial⟩ ?_
 refine bB ?_
 refine aC (aA (qG rfl ?_))
 refine aD (aE (aB (a8 (off:=0) (k:=0) rfl tyF44_0) ⟨rfl,trivial⟩ ?_))
 refine aB (a8 (off:=0) (k:=1) rfl tyF42_1) ⟨rfl,trivial⟩ ?_
 refine aB (bD 2 1 rfl rfl rfl rfl (.one tyO22)) ⟨rfl,trivial⟩ ?_
 refine aB (bZ rfl tyS22) ⟨rfl,trivial⟩ ?_
 refine aB (iJ rfl) ⟨rfl,bC _ _,trivial⟩ ?_
 refine bB ?_
 refine aC (aA (bO rfl (fun h28=>?_) (fun h28=>?_)))
 ·have hF:=aT h28 hF
  refine aD (aE (aB (bD 1 4 rfl rfl rfl rfl (.agg tyA44)) ⟨rfl,trivial⟩ ?_))
  refine aY (dA 0 rfl rfl rfl tyA44.s) ⟨rfl,rfl,trivial⟩ ?_
  refine aC (aA (aX (aW ?_)))
  obtain rfl:=bX hF
  exact aI (.inl rfl) Tryz.results34 (bM 0 4 rfl rfl rfl rfl (.agg tyA44) .nil) rfl rfl
 have hF:=aU h28 hF
 refine aD (aE (aB (a8 (off:=0) (k:=0) rfl tyF44_0) ⟨rfl,trivial⟩ ?_))
 refine aB (a8 (off:=0) (k:=1) rfl tyF42_1) ⟨rfl,trivial⟩ ?_
 refine aB (bD 1 1 rfl rfl rfl rfl (.one tyO22)) ⟨rfl,trivial⟩ ?_
 refine aB (bZ rfl tyS22) ⟨rfl,trivial⟩ ?_
 refine aB (iJ rfl) ⟨rfl,bC _ _,trivial⟩ ?_
 refine bB ?_
 refine aC (aA (bO rfl (fun h29=>?_) (fun h29=>?_)))
 ·have hF:=aT h29 hF
  refine aD (aE (aB (bD 2 4 rfl rfl rfl rfl (.agg tyA44)) ⟨rfl,trivial⟩ ?_))
  refine aY (dA 0 rfl rfl rfl tyA44.s) ⟨rfl,rfl,trivial⟩ ?_
  refine aC (aA (aX (aW ?_)))
  obtain rfl:=bX hF
  exact aI (.inl rfl) Tryz.results34 (bM 0 4 rfl rfl rfl rfl (.agg tyA44) .nil) rfl rfl
 have hF:=aU h29 hF
 refine aV (bF (aA (aD ?_)))
 obtain⟨v32,h33,hF⟩:=aO hF
 obtain⟨v34,h35,hF⟩:=aO hF
 refine bP [0,1,0,7,0,0,63,127] 6 2 [.v (.va (cB.e a0)),.v (.va (aP.e v32)),.v (.va (cB.e a1)),.v (.va (aP.e v34)),.a 42 ([pB false]++[pS cI ([]:List Int)]),.a 42 ([pB false]++[pS cI ([]:List Int)])] aR ⟨d0 (bD 2 4 rfl rfl rfl rfl (.agg tyA44)) ⟨rfl,trivial⟩,d0 (aG rfl (iR h33) rfl) ⟨rfl,trivial⟩,d0 (bD 1 4 rfl rfl rfl rfl (.agg tyA44)) ⟨rfl,trivial⟩,d0 (aG rfl (iR h35) rfl) ⟨rfl,trivial⟩,⟨rfl,.alc tyZ42⟩,⟨rfl,.alc tyZ42⟩,trivial⟩ (fun bs31 G30=>?_)
 refine aY (dA 0 rfl rfl rfl tyA42.s) ⟨rfl,rfl,trivial⟩ ?_
 refine aY (dA 1 rfl rfl rfl tyA42.s) ⟨rfl,rfl,trivial⟩ ?_
 refine aC (aA (aD ?_))
 obtain⟨v38,h39,hF⟩:=aO hF
 obtain⟨v40,h41,hF⟩:=aO hF
 obtain⟨v42,h43,hF⟩:=aO hF
 obtain⟨v44,h45,hF⟩:=aO hF
 obtain⟨v46,h47,hF⟩:=aO hF
 refine bP [0,1,0,7,0,16,0,127,255,0,0,2047,4095,8191] 13 1 [.v (.vc (pP (some b1) 0)),.v (.va (aP.e a0.p)),.v (.va (aP.e v34)),.v (.va (aP.e v38)),.v (.vc (pP (some b2) 0)),.v (.va (aP.e a1.p)),.v (.va (aP.e v32)),.v (.va (aP.e v40)),.v (.va (aP.e v42)),.v (.va (aP.e v32)),.v (.va (aP.e v34)),.v (.va (aP.e v44)),.v (.va (cB.e v46))] aR ⟨d0 (a8 (off:=0) (k:=0) rfl tyF44_0) ⟨rfl,trivial⟩,d0 (bD 4 2 rfl rfl rfl rfl (.agg tyA42)) ⟨rfl,trivial⟩,d0 (bD 1 2 rfl rfl rfl rfl (.agg tyA42)) ⟨rfl,trivial⟩,d0 (aG rfl (fP h39) rfl) ⟨rfl,rfl,trivial⟩,d0 (a8 (off:=0) (k:=0) rfl tyF44_0) ⟨rfl,trivial⟩,d0 (bD 3 2 rfl rfl rfl rfl (.agg tyA42)) ⟨rfl,trivial⟩,d0 (bD 0 2 rfl rfl rfl rfl (.agg tyA42)) ⟨rfl,trivial⟩,d0 (aG rfl (fP h41) rfl) ⟨rfl,rfl,trivial⟩,d0 (aG rfl (sV h43) rfl) ⟨rfl,rfl,trivial⟩,d0 (bD 0 2 rfl rfl rfl rfl (.agg tyA42)) ⟨rfl,trivial⟩,d0 (bD 1 2 rfl rfl rfl rfl (.agg tyA42)) ⟨rfl,trivial⟩,d0 (aG rfl (fP h45) rfl) ⟨rfl,rfl,trivial⟩,d0 (aG rfl (pQ h47) rfl) ⟨rfl,rfl,trivial⟩,trivial⟩ (fun bs37 G36=>?_)
 refine aY (dA 2 rfl rfl rfl tyA44.s) ⟨rfl,rfl,trivial⟩ ?_
 refine aC (aA (aX (aW ?_)))
 obtain rfl:=bX hF
 exact aI (.inl rfl) Tryz.results34 (bM 2 4 rfl rfl rfl rfl (.agg tyA44) .nil) rfl rfl
abbrev aCP:Nat:=35
def rR (a0:cB):Option Int:=
 (pT a0.p).bind fun v2=>some v2
theorem vL {a0:cB} {r:Int} (hF:rR a0=some r):Ct Tryz.prog 35 [.va (cB.e a0)] (.vc (pI .i64 r)):=by
 unfold rR at hF
 refine a9 Tryz.func35 rfl (by kernel_rfl) Tryz.ntmps35 rfl (fun w0 M0=>?_)
 refine aD (aE (cV rfl rfl trivial (fun b1=>?_)))
 refine aB (aL (.inr rfl)) ⟨bC _ _,trivial⟩ ?_
 refine aC (aA (aD (aE (aB (a8 (off:=0) (k:=0) rfl tyF44_0) ⟨rfl,trivial⟩ ?_))))
 refine aB (bD 0 2 rfl rfl rfl rfl (.agg tyA42)) ⟨rfl,trivial⟩ ?_
 obtain⟨v2,h3,hF⟩:=aO hF
 refine aB (aG rfl (y9 h3) rfl) ⟨rfl,trivial⟩ ?_
 refine bB ?_
 refine aC (aA (aX (aW ?_)))
 obtain rfl:=bX hF
 exact aI (.inl rfl) Tryz.results35 (.tmp rfl .nil) rfl rfl
abbrev aD8:Nat:=65
def wF (K:Nat) (a0:cB) (a1:cB):Option cB:=
 bif((a1.p.d.length:Int)==0) then(some (⟨(⟨false,([]:List Int)⟩:aP),(⟨false,([]:List Int)⟩:aP)⟩:cB)) else((eK a1).bind fun v7=>(kV v7 a1.p).bind fun v9=>(tZ K a0 v9).bind fun v11=>some v11)
theorem aCH {K:Nat} {a0:cB} {a1:cB} {r:cB} (hF:wF K a0 a1=some r):Ct Tryz.prog 65 [.va (cB.e a0),.va (cB.e a1)] (.va (cB.e r)):=by
 unfold wF at hF
 refine a9 Tryz.func65 rfl (by kernel_rfl) Tryz.ntmps65 rfl (fun w0 M0=>?_)
 refine aD (aE (cV rfl rfl trivial (fun b1=>?_)))
 refine cV rfl rfl trivial (fun b2=>?_)
 refine bJ rfl tyZ44 (fun b3=>?_)
 refine aC (aA (aD (aD (aE (aB (a8 (off:=0) (k:=0) rfl tyF44_0) ⟨rfl,trivial⟩ ?_)))))
 refine aB (a8 (off:=0) (k:=1) rfl tyF42_1) ⟨rfl,trivial⟩ ?_
 refine aB (bD 1 1 rfl rfl rfl rfl (.one tyO22)) ⟨rfl,trivial⟩ ?_
 refine aB (bZ rfl tyS22) ⟨rfl,trivial⟩ ?_
 refine aB (iJ rfl) ⟨rfl,bC _ _,trivial⟩ ?_
 refine aC (aA (bO rfl (fun h4=>?_) (fun h4=>?_)))
 ·have hF:=aT h4 hF
  refine aD (aE (aB (fA (is:=[]) (xs:=[]) (ps:=[]) rfl tyB44 rfl rfl trivial rfl) trivial ?_))
  refine aY (dA 0 rfl rfl rfl tyA44.s) ⟨rfl,rfl,trivial⟩ ?_
  refine aC (aA (aX (aW ?_)))
  obtain rfl:=bX hF
  exact aI (.inl rfl) Tryz.results65 (bM 0 4 rfl rfl rfl rfl (.agg tyA44) .nil) rfl rfl
 have hF:=aU h4 hF
 refine aV (aA (aD ?_))
 obtain⟨v7,h8,hF⟩:=aO hF
 obtain⟨v9,h10,hF⟩:=aO hF
 obtain⟨v11,h12,hF⟩:=aO hF
 refine bP [0,0,2,0,8,30,63,127] 7 1 [.v (.va (cB.e a0)),.v (.va (cB.e a1)),.v (.va (aP.e v7)),.v (.vc (pP (some b2) 0)),.v (.va (aP.e a1.p)),.v (.va (cB.e v9)),.v (.va (cB.e v11))] aR ⟨d0 (bD 2 4 rfl rfl rfl rfl (.agg tyA44)) ⟨rfl,trivial⟩,d0 (bD 1 4 rfl rfl rfl rfl (.agg tyA44)) ⟨rfl,trivial⟩,d0 (aG rfl (iR h8) rfl) ⟨rfl,trivial⟩,d0 (a8 (off:=0) (k:=0) rfl tyF44_0) ⟨rfl,trivial⟩,d0 (bD 1 2 rfl rfl rfl rfl (.agg tyA42)) ⟨rfl,trivial⟩,d0 (aG rfl (qH h10) rfl) ⟨rfl,rfl,trivial⟩,d0 (aG rfl (aAi h12) rfl) ⟨rfl,rfl,trivial⟩,trivial⟩ (fun bs6 G5=>?_)
 refine aY (dA 0 rfl rfl rfl tyA44.s) ⟨rfl,rfl,trivial⟩ ?_
 refine aC (aA (aX (aW ?_)))
 obtain rfl:=bX hF
 exact aI (.inl rfl) Tryz.results65 (bM 0 4 rfl rfl rfl rfl (.agg tyA44) .nil) rfl rfl
abbrev w4:Nat:=68
def oS (K:Nat) (a0:cB):Option Int:=
 (l6 K a0.p).bind fun v2=>some v2
theorem wJ {K:Nat} {a0:cB} {r:Int} (hF:oS K a0=some r):Ct Tryz.prog 68 [.va (cB.e a0)] (.vc (pI .i64 r)):=by
 unfold oS at hF
 refine a9 Tryz.func68 rfl (by kernel_rfl) Tryz.ntmps68 rfl (fun w0 M0=>?_)
 refine aD (aE (cV rfl rfl trivial (fun b1=>?_)))
 refine aB (aL (.inr rfl)) ⟨bC _ _,trivial⟩ ?_
 refine aC (aA (aD (aE (aB (a8 (off:=0) (k:=0) rfl tyF44_0) ⟨rfl,trivial⟩ ?_))))
 refine aB (bD 0 2 rfl rfl rfl rfl (.agg tyA42)) ⟨rfl,trivial⟩ ?_
 obtain⟨v2,h3,hF⟩:=aO hF
 refine aB (aG rfl (wN h3) rfl) ⟨rfl,trivial⟩ ?_
 refine bB ?_
 refine aC (aA (aX (aW ?_)))
 obtain rfl:=bX hF
 exact aI (.inl rfl) Tryz.results68 (.tmp rfl .nil) rfl rfl
abbrev aDD:Nat:=132
def tR (a0:cB):Option cB:=
 (nM a0.p).bind fun v5=>some (⟨v5,a0.q⟩:cB)
theorem zQ {a0:cB} {r:cB} (hF:tR a0=some r):Ct Tryz.prog 132 [.va (cB.e a0)] (.va (cB.e r)):=by
 unfold tR at hF
 refine a9 Tryz.func132 rfl (by kernel_rfl) Tryz.ntmps132 rfl (fun w0 M0=>?_)
 refine aD (aE (cV rfl rfl trivial (fun b1=>?_)))
 refine bJ rfl tyZ44 (fun b2=>?_)
 refine aC (aA (aD ?_))
 obtain⟨v5,h6,hF⟩:=aO hF
 refine bP [0,1,3,0,8,31,63] 6 1 [.v (.vc (pP (some b1) 0)),.v (.va (aP.e a0.p)),.v (.va (aP.e v5)),.v (.vc (pP (some b1) 2)),.v (.va (aP.e a0.q)),.v (.va ((aP.e v5)++(aP.e a0.q)))] aR ⟨d0 (a8 (off:=0) (k:=0) rfl tyF44_0) ⟨rfl,trivial⟩,d0 (bD 1 2 rfl rfl rfl rfl (.agg tyA42)) ⟨rfl,trivial⟩,d0 (aG rfl (sK h6) rfl) ⟨rfl,trivial⟩,d0 (a8 (off:=0) (k:=2) rfl tyF44_1) ⟨rfl,trivial⟩,d0 (bD 1 2 rfl rfl rfl rfl (.agg tyA42)) ⟨rfl,trivial⟩,d0 (fA (is:=[0,1]) (xs:=[.tmp 5,.tmp 7]) (ps:=[.va (aP.e v5),.va (aP.e a0.q)]) rfl tyB44 rfl rfl ⟨trivial,trivial,trivial⟩ rfl) ⟨rfl,rfl,trivial⟩,trivial⟩ (fun bs4 G3=>?_)
 refine aY (dA 0 rfl rfl rfl tyA44.s) ⟨rfl,rfl,trivial⟩ ?_
 refine aC (aA (aX (aW ?_)))
 obtain rfl:=bX hF
 exact aI (.inl rfl) Tryz.results132 (bM 0 4 rfl rfl rfl rfl (.agg tyA44) .nil) rfl rfl
abbrev aDZ:Nat:=73
def wB (K:Nat) (a0:cB) (a1:cB):Option cB:=
 (tR a1).bind fun v6=>(tW K a0 v6).bind fun v8=>some v8
theorem aCB {K:Nat} {a0:cB} {a1:cB} {r:cB} (hF:wB K a0 a1=some r):Ct Tryz.prog 73 [.va (cB.e a0),.va (cB.e a1)] (.va (cB.e r)):=by
 unfold wB at hF
 refine a9 Tryz.func73 rfl (by kernel_rfl) Tryz.ntmps73 rfl (fun w0 M0=>?_)
 refine aD (aE (cV rfl rfl trivial (fun b1=>?_)))
 refine cV rfl rfl trivial (fun b2=>?_)
 refine bJ rfl tyZ44 (fun b3=>?_)
 refine aC (aA (aD ?_))
 obtain⟨v6,h7,hF⟩:=aO hF
 obtain⟨v8,h9,hF⟩:=aO hF
 refine bP [0,0,2,7,15] 4 1 [.v (.va (cB.e a0)),.v (.va (cB.e a1)),.v (.va (cB.e v6)),.v (.va (cB.e v8))] aR ⟨d0 (bD 2 4 rfl rfl rfl rfl (.agg tyA44)) ⟨rfl,trivial⟩,d0 (bD 1 4 rfl rfl rfl rfl (.agg tyA44)) ⟨rfl,trivial⟩,d0 (aG rfl (zQ h7) rfl) ⟨rfl,trivial⟩,d0 (aG rfl (zS h9) rfl) ⟨rfl,rfl,trivial⟩,trivial⟩ (fun bs5 G4=>?_)
 refine aY (dA 0 rfl rfl rfl tyA44.s) ⟨rfl,rfl,trivial⟩ ?_
 refine aC (aA (aX (aW ?_)))
 obtain rfl:=bX hF
 exact aI (.inl rfl) Tryz.results73 (bM 0 4 rfl rfl rfl rfl (.agg tyA44) .nil) rfl rfl
abbrev aB6:Nat:=78
def s7 (K:Nat) (a0:cB):Option Bool:=
 (lH K a0.p).bind fun v2=>bif(!v2) then(some false) else((lH K a0.q).bind fun v5=>bif(!v5) then(some false) else(bif a0.q.neg then(some false) else((oN a0.q).bind fun v9=>bif v9 then(some false) else(bif((a0.q.d.length:Int)==0) then(some true) else((oV K a0.p a0.q).bind fun v13=>(oN v13).bind fun v15=>some v15)))))
theorem aA8 {K:Nat} {a0:cB} {r:Bool} (hF:s7 K a0=some r):Ct Tryz.prog 78 [.va (cB.e a0)] (.vc (pB r)):=by
 unfold s7 at hF
 refine a9 Tryz.func78 rfl (by kernel_rfl) Tryz.ntmps78 rfl (fun w0 M0=>?_)
 refine aD (aE (cV rfl rfl trivial (fun b1=>?_)))
 refine aB (aL (.inr rfl)) ⟨dH _,trivial⟩ ?_
 refine aC (aA (aD (bN (aD (aE (aB (a8 (off:=0) (k:=0) rfl tyF44_0) ⟨rfl,trivial⟩ ?_))))))
 refine aB (bD 0 2 rfl rfl rfl rfl (.agg tyA42)) ⟨rfl,trivial⟩ ?_
 obtain⟨v2,h3,hF⟩:=aO hF
 refine aB (aG rfl (t0 h3) rfl) ⟨rfl,trivial⟩ ?_
 refine aB (lK rfl) ⟨rfl,trivial⟩ ?_
 refine aF ?_
 refine cU (fun h4=>?_) (fun h4=>?_)
 ·have hF:=aT h4 hF
  refine aJ ?_
  refine aJ ?_
  refine aJ ?_
  refine aJ ?_
  refine aB (bK rfl) ⟨rfl,dH _,trivial⟩ ?_
  refine aF ?_
  refine aJ ?_
  refine aJ ?_
  refine aJ ?_
  refine aB (bK rfl) ⟨rfl,dH _,trivial⟩ ?_
  refine aF ?_
  refine aJ ?_
  refine aJ ?_
  refine aJ ?_
  refine aB (bK rfl) ⟨rfl,dH _,trivial⟩ ?_
  refine bB ?_
  refine aC (aA (kT rfl ?_))
  refine aD (aE (aB (aL (.inr rfl)) ⟨dH _,trivial⟩ ?_))
  refine aC (aA (aX (aW ?_)))
  obtain rfl:=bX hF
  exact aI (.inl rfl) Tryz.results78 (.tmp rfl .nil) rfl rfl
 have hF:=aU h4 hF
 refine aZ (a8 (off:=0) (k:=2) rfl tyF44_1) ⟨rfl,trivial⟩ ?_
 refine aZ (bD 0 2 rfl rfl rfl rfl (.agg tyA42)) ⟨rfl,trivial⟩ ?_
 obtain⟨v5,h6,hF⟩:=aO hF
 refine aZ (aG rfl (t0 h6) rfl) ⟨rfl,trivial⟩ ?_
 refine aZ (lK rfl) ⟨rfl,trivial⟩ ?_
 refine aB (bL rfl) ⟨rfl,rfl,trivial⟩ ?_
 refine aF ?_
 refine cU (fun h7=>?_) (fun h7=>?_)
 ·have hF:=aT h7 hF
  refine aJ ?_
  refine aJ ?_
  refine aJ ?_
  refine aB (bK rfl) ⟨rfl,dH _,trivial⟩ ?_
  refine aF ?_
  refine aJ ?_
  refine aJ ?_
  refine aJ ?_
  refine aB (bK rfl) ⟨rfl,dH _,trivial⟩ ?_
  refine bB ?_
  refine aC (aA (kT rfl ?_))
  refine aD (aE (aB (aL (.inr rfl)) ⟨dH _,trivial⟩ ?_))
  refine aC (aA (aX (aW ?_)))
  obtain rfl:=bX hF
  exact aI (.inl rfl) Tryz.results78 (.tmp rfl .nil) rfl rfl
 have hF:=aU h7 hF
 refine aZ (a8 (off:=0) (k:=2) rfl tyF44_1) ⟨rfl,trivial⟩ ?_
 refine aZ (a8 (off:=2) (k:=0) rfl tyF42_0) ⟨rfl,trivial⟩ ?_
 refine aZ (bD 0 1 rfl rfl rfl rfl (.one tyO4)) ⟨rfl,trivial⟩ ?_
 refine aB (bL rfl) ⟨rfl,rfl,trivial⟩ ?_
 refine aF ?_
 refine cU (fun h8=>?_) (fun h8=>?_)
 ·have hF:=aT h8 hF
  refine aJ ?_
  refine aJ ?_
  refine aJ ?_
  refine aB (bK rfl) ⟨rfl,dH _,trivial⟩ ?_
  refine bB ?_
  refine aC (aA (kT rfl ?_))
  refine aD (aE (aB (aL (.inr rfl)) ⟨dH _,trivial⟩ ?_))
  refine aC (aA (aX (aW ?_)))
  obtain rfl:=bX hF
  exact aI (.inl rfl) Tryz.results78 (.tmp rfl .nil) rfl rfl
 have hF:=aU h8 hF
 refine aZ (a8 (off:=0) (k:=2) rfl tyF44_1) ⟨rfl,trivial⟩ ?_
 refine aZ (bD 0 2 rfl rfl rfl rfl (.agg tyA42)) ⟨rfl,trivial⟩ ?_
 obtain⟨v9,h10,hF⟩:=aO hF
 refine aZ (aG rfl (r7 h10) rfl) ⟨rfl,trivial⟩ ?_
 refine aB (bL rfl) ⟨rfl,rfl,trivial⟩ ?_
 refine bB ?_
 refine aC (aA (bO rfl (fun h11=>?_) (fun h11=>?_)))
 ·have hF:=aT h11 hF
  refine aD (aE (aB (aL (.inr rfl)) ⟨dH _,trivial⟩ ?_))
  refine aC (aA (aX (aW ?_)))
  obtain rfl:=bX hF
  exact aI (.inl rfl) Tryz.results78 (.tmp rfl .nil) rfl rfl
 have hF:=aU h11 hF
 refine aD (aE (aB (a8 (off:=0) (k:=2) rfl tyF44_1) ⟨rfl,trivial⟩ ?_))
 refine aB (a8 (off:=2) (k:=1) rfl tyF42_1) ⟨rfl,trivial⟩ ?_
 refine aB (bD 0 1 rfl rfl rfl rfl (.one tyO22)) ⟨rfl,trivial⟩ ?_
 refine aB (bZ rfl tyS22) ⟨rfl,trivial⟩ ?_
 refine aB (iJ rfl) ⟨rfl,bC _ _,trivial⟩ ?_
 refine bB ?_
 refine aC (aA (bO rfl (fun h12=>?_) (fun h12=>?_)))
 ·have hF:=aT h12 hF
  refine aD (aE (aB (aL (.inr rfl)) ⟨dH _,trivial⟩ ?_))
  refine aC (aA (aX (aW ?_)))
  obtain rfl:=bX hF
  exact aI (.inl rfl) Tryz.results78 (.tmp rfl .nil) rfl rfl
 have hF:=aU h12 hF
 refine aV (bF (aA (aD (aE (aB (a8 (off:=0) (k:=0) rfl tyF44_0) ⟨rfl,trivial⟩ ?_)))))
 refine aB (bD 0 2 rfl rfl rfl rfl (.agg tyA42)) ⟨rfl,trivial⟩ ?_
 refine aB (a8 (off:=0) (k:=2) rfl tyF44_1) ⟨rfl,trivial⟩ ?_
 refine aB (bD 0 2 rfl rfl rfl rfl (.agg tyA42)) ⟨rfl,trivial⟩ ?_
 obtain⟨v13,h14,hF⟩:=aO hF
 refine aB (aG rfl (vW h14) rfl) ⟨rfl,rfl,trivial⟩ ?_
 obtain⟨v15,h16,hF⟩:=aO hF
 refine aB (aG rfl (r7 h16) rfl) ⟨rfl,trivial⟩ ?_
 refine bB ?_
 refine aC (aA (aX (aW ?_)))
 obtain rfl:=bX hF
 exact aI (.inl rfl) Tryz.results78 (.tmp rfl .nil) rfl rfl
def fW (K:Nat) (a0:cB):Option aP:=
 bif((a0.q.d.length:Int)==0) then((fO K 1).bind fun v4=>some v4) else(some a0.q)
theorem kR {K:Nat} {a0:cB} {r:aP} (hF:fW K a0=some r):Ct Tryz.prog 176 [.va (cB.e a0)] (.va (aP.e r)):=by
 unfold fW at hF
 refine a9 Tryz.func176 rfl (by kernel_rfl) Tryz.ntmps176 rfl (fun w0 M0=>?_)
 refine aD (aE (cV rfl rfl trivial (fun b1=>?_)))
 refine bJ rfl tyZ42 (fun b2=>?_)
 refine aC (aA (aD (aD (aE (aB (a8 (off:=0) (k:=2) rfl tyF44_1) ⟨rfl,trivial⟩ ?_)))))
 refine aB (a8 (off:=2) (k:=1) rfl tyF42_1) ⟨rfl,trivial⟩ ?_
 refine aB (bD 1 1 rfl rfl rfl rfl (.one tyO22)) ⟨rfl,trivial⟩ ?_
 refine aB (bZ rfl tyS22) ⟨rfl,trivial⟩ ?_
 refine aB (iJ rfl) ⟨rfl,bC _ _,trivial⟩ ?_
 refine aC (aA (bO rfl (fun h3=>?_) (fun h3=>?_)))
 ·have hF:=aT h3 hF
  refine aD (aE ?_)
  obtain⟨v4,h5,hF⟩:=aO hF
  refine aB (aG rfl (jG h5) rfl) ⟨bC _ _,trivial⟩ ?_
  refine aY (dA 0 rfl rfl rfl tyA42.s) ⟨rfl,rfl,trivial⟩ ?_
  refine aC (aA (aX (aW ?_)))
  obtain rfl:=bX hF
  exact aI (.inl rfl) Tryz.results176 (bM 0 2 rfl rfl rfl rfl (.agg tyA42) .nil) rfl rfl
 have hF:=aU h3 hF
 refine aV (aA (aD (aE (aB (a8 (off:=0) (k:=2) rfl tyF44_1) ⟨rfl,trivial⟩ ?_))))
 refine aB (bD 1 2 rfl rfl rfl rfl (.agg tyA42)) ⟨rfl,trivial⟩ ?_
 refine aY (dA 0 rfl rfl rfl tyA42.s) ⟨rfl,rfl,trivial⟩ ?_
 refine aC (aA (aX (aW ?_)))
 obtain rfl:=bX hF
 exact aI (.inl rfl) Tryz.results176 (bM 0 2 rfl rfl rfl rfl (.agg tyA42) .nil) rfl rfl
abbrev xG:Nat:=86
def pA (K:Nat) (a0:cB) (a1:cB):Option cB:=
 (fV K a0.p a1.p).bind fun v6=>(fW K a0).bind fun v8=>(fW K a1).bind fun v10=>(fV K v8 v10).bind fun v12=>(f8 K v6 v12).bind fun v14=>some v14
theorem w6 {K:Nat} {a0:cB} {a1:cB} {r:cB} (hF:pA K a0 a1=some r):Ct Tryz.prog 86 [.va (cB.e a0),.va (cB.e a1)] (.va (cB.e r)):=by
 unfold pA at hF
 refine a9 Tryz.func86 rfl (by kernel_rfl) Tryz.ntmps86 rfl (fun w0 M0=>?_)
 refine aD (aE (cV rfl rfl trivial (fun b1=>?_)))
 refine cV rfl rfl trivial (fun b2=>?_)
 refine bJ rfl tyZ44 (fun b3=>?_)
 refine aC (aA (aD ?_))
 obtain⟨v6,h7,hF⟩:=aO hF
 obtain⟨v8,h9,hF⟩:=aO hF
 obtain⟨v10,h11,hF⟩:=aO hF
 obtain⟨v12,h13,hF⟩:=aO hF
 obtain⟨v14,h15,hF⟩:=aO hF
 refine bP [0,1,0,4,15,0,63,0,255,511,1023,2047] 11 1 [.v (.vc (pP (some b1) 0)),.v (.va (aP.e a0.p)),.v (.vc (pP (some b2) 0)),.v (.va (aP.e a1.p)),.v (.va (aP.e v6)),.v (.va (cB.e a0)),.v (.va (aP.e v8)),.v (.va (cB.e a1)),.v (.va (aP.e v10)),.v (.va (aP.e v12)),.v (.va (cB.e v14))] aR ⟨d0 (a8 (off:=0) (k:=0) rfl tyF44_0) ⟨rfl,trivial⟩,d0 (bD 2 2 rfl rfl rfl rfl (.agg tyA42)) ⟨rfl,trivial⟩,d0 (a8 (off:=0) (k:=0) rfl tyF44_0) ⟨rfl,trivial⟩,d0 (bD 1 2 rfl rfl rfl rfl (.agg tyA42)) ⟨rfl,trivial⟩,d0 (aG rfl (kM h7) rfl) ⟨rfl,rfl,trivial⟩,d0 (bD 2 4 rfl rfl rfl rfl (.agg tyA44)) ⟨rfl,trivial⟩,d0 (aG rfl (kR h9) rfl) ⟨rfl,trivial⟩,d0 (bD 1 4 rfl rfl rfl rfl (.agg tyA44)) ⟨rfl,trivial⟩,d0 (aG rfl (kR h11) rfl) ⟨rfl,trivial⟩,d0 (aG rfl (kM h13) rfl) ⟨rfl,rfl,trivial⟩,d0 (aG rfl (qC h15) rfl) ⟨rfl,rfl,trivial⟩,trivial⟩ (fun bs5 G4=>?_)
 refine aY (dA 0 rfl rfl rfl tyA44.s) ⟨rfl,rfl,trivial⟩ ?_
 refine aC (aA (aX (aW ?_)))
 obtain rfl:=bX hF
 exact aI (.inl rfl) Tryz.results86 (bM 0 4 rfl rfl rfl rfl (.agg tyA44) .nil) rfl rfl
abbrev xR:Nat:=87
def pL (K:Nat) (a0:cB) (a1:cB):Option cB:=
 (fW K a1).bind fun v6=>(fV K a0.p v6).bind fun v8=>(fW K a0).bind fun v12=>(fV K a1.p v12).bind fun v14=>(k7 K v8 v14).bind fun v18=>(fW K a0).bind fun v20=>(fW K a1).bind fun v22=>(fV K v20 v22).bind fun v24=>(f8 K v18 v24).bind fun v26=>some v26
theorem wV {K:Nat} {a0:cB} {a1:cB} {r:cB} (hF:pL K a0 a1=some r):Ct Tryz.prog 87 [.va (cB.e a0),.va (cB.e a1)] (.va (cB.e r)):=by
 unfold pL at hF
 refine a9 Tryz.func87 rfl (by kernel_rfl) Tryz.ntmps87 rfl (fun w0 M0=>?_)
 refine aD (aE (cV rfl rfl trivial (fun b1=>?_)))
 refine cV rfl rfl trivial (fun b2=>?_)
 refine bJ rfl tyZ44 (fun b3=>?_)
 refine aC (aA (aD ?_))
 obtain⟨v6,h7,hF⟩:=aO hF
 obtain⟨v8,h9,hF⟩:=aO hF
 refine bP [0,1,0,4,15,0,63] 6 1 [.v (.vc (pP (some b1) 0)),.v (.va (aP.e a0.p)),.v (.va (cB.e a1)),.v (.va (aP.e v6)),.v (.va (aP.e v8)),.a 42 ([pB false]++[pS cI ([]:List Int)])] aR ⟨d0 (a8 (off:=0) (k:=0) rfl tyF44_0) ⟨rfl,trivial⟩,d0 (bD 2 2 rfl rfl rfl rfl (.agg tyA42)) ⟨rfl,trivial⟩,d0 (bD 1 4 rfl rfl rfl rfl (.agg tyA44)) ⟨rfl,trivial⟩,d0 (aG rfl (kR h7) rfl) ⟨rfl,trivial⟩,d0 (aG rfl (kM h9) rfl) ⟨rfl,rfl,trivial⟩,⟨rfl,.alc tyZ42⟩,trivial⟩ (fun bs5 G4=>?_)
 refine aY (dA 0 rfl rfl rfl tyA42.s) ⟨rfl,rfl,trivial⟩ ?_
 refine aC (aA (aD ?_))
 obtain⟨v12,h13,hF⟩:=aO hF
 obtain⟨v14,h15,hF⟩:=aO hF
 refine bP [0,1,0,4,15,0,63] 6 1 [.v (.vc (pP (some b2) 0)),.v (.va (aP.e a1.p)),.v (.va (cB.e a0)),.v (.va (aP.e v12)),.v (.va (aP.e v14)),.a 42 ([pB false]++[pS cI ([]:List Int)])] aR ⟨d0 (a8 (off:=0) (k:=0) rfl tyF44_0) ⟨rfl,trivial⟩,d0 (bD 2 2 rfl rfl rfl rfl (.agg tyA42)) ⟨rfl,trivial⟩,d0 (bD 3 4 rfl rfl rfl rfl (.agg tyA44)) ⟨rfl,trivial⟩,d0 (aG rfl (kR h13) rfl) ⟨rfl,trivial⟩,d0 (aG rfl (kM h15) rfl) ⟨rfl,rfl,trivial⟩,⟨rfl,.alc tyZ42⟩,trivial⟩ (fun bs11 G10=>?_)
 refine aY (dA 0 rfl rfl rfl tyA42.s) ⟨rfl,rfl,trivial⟩ ?_
 refine aC (aA (aD ?_))
 obtain⟨v18,h19,hF⟩:=aO hF
 obtain⟨v20,h21,hF⟩:=aO hF
 obtain⟨v22,h23,hF⟩:=aO hF
 obtain⟨v24,h25,hF⟩:=aO hF
 obtain⟨v26,h27,hF⟩:=aO hF
 refine bP [0,0,3,0,15,0,63,127,255,511] 9 1 [.v (.va (aP.e v8)),.v (.va (aP.e v14)),.v (.va (aP.e v18)),.v (.va (cB.e a0)),.v (.va (aP.e v20)),.v (.va (cB.e a1)),.v (.va (aP.e v22)),.v (.va (aP.e v24)),.v (.va (cB.e v26))] aR ⟨d0 (bD 1 2 rfl rfl rfl rfl (.agg tyA42)) ⟨rfl,trivial⟩,d0 (bD 0 2 rfl rfl rfl rfl (.agg tyA42)) ⟨rfl,trivial⟩,d0 (aG rfl (sP h19) rfl) ⟨rfl,rfl,trivial⟩,d0 (bD 4 4 rfl rfl rfl rfl (.agg tyA44)) ⟨rfl,trivial⟩,d0 (aG rfl (kR h21) rfl) ⟨rfl,trivial⟩,d0 (bD 3 4 rfl rfl rfl rfl (.agg tyA44)) ⟨rfl,trivial⟩,d0 (aG rfl (kR h23) rfl) ⟨rfl,trivial⟩,d0 (aG rfl (kM h25) rfl) ⟨rfl,rfl,trivial⟩,d0 (aG rfl (qC h27) rfl) ⟨rfl,rfl,trivial⟩,trivial⟩ (fun bs17 G16=>?_)
 refine aY (dA 2 rfl rfl rfl tyA44.s) ⟨rfl,rfl,trivial⟩ ?_
 refine aC (aA (aX (aW ?_)))
 obtain rfl:=bX hF
 exact aI (.inl rfl) Tryz.results87 (bM 2 4 rfl rfl rfl rfl (.agg tyA44) .nil) rfl rfl
abbrev aEj:Nat:=112
def xY (K:Nat) (a0:Int) (a1:Int):Option cB:=
 (jJ a0).bind fun v2=>(jJ a1).bind fun v4=>(gV K v2 v4).bind fun v6=>some v6
theorem aDI {K:Nat} {a0:Int} {a1:Int} {r:cB} (hF:xY K a0 a1=some r):Ct Tryz.prog 112 [.vc (pI .i64 a0),.vc (pI .i64 a1)] (.va (cB.e r)):=by
 unfold xY at hF
 refine a9 Tryz.func112 rfl (by kernel_rfl) Tryz.ntmps112 rfl (fun w0 M0=>?_)
 refine aD (aE (bJ rfl tyZ44 (fun b1=>?_)))
 refine aC (aA (aD (aE (aF ?_))))
 obtain⟨v2,h3,hF⟩:=aO hF
 refine aB (aG rfl (nL h3) rfl) ⟨rfl,trivial⟩ ?_
 refine aF ?_
 obtain⟨v4,h5,hF⟩:=aO hF
 refine aB (aG rfl (nL h5) rfl) ⟨rfl,trivial⟩ ?_
 obtain⟨v6,h7,hF⟩:=aO hF
 refine aB (aG rfl (pQ h7) rfl) ⟨rfl,rfl,trivial⟩ ?_
 refine aY (dA 0 rfl rfl rfl tyA44.s) ⟨rfl,rfl,trivial⟩ ?_
 refine aC (aA (aX (aW ?_)))
 obtain rfl:=bX hF
 exact aI (.inl rfl) Tryz.results112 (bM 0 4 rfl rfl rfl rfl (.agg tyA44) .nil) rfl rfl
abbrev aAC:Nat:=144
def rW (K:Nat) (a0:cB) (a1:cB):Option Int:=
 (rR a0).bind fun v5=>(rR a1).bind fun v7=>bif(v5 != v7) then((jJ v5).bind fun v10=>(jJ v7).bind fun v12=>(jP K v10 v12).bind fun v14=>some v14) else(bif(v5==0) then((jJ v5).bind fun v17=>(jJ v7).bind fun v19=>(jP K v17 v19).bind fun v21=>some v21) else((eK a1).bind fun v25=>(cK K a0.p v25).bind fun v27=>(eK a0).bind fun v29=>(cK K a1.p v29).bind fun v31=>(jP K v27 v31).bind fun v33=>some v33))
theorem zY {K:Nat} {a0:cB} {a1:cB} {r:Int} (hF:rW K a0 a1=some r):Ct Tryz.prog 144 [.va (cB.e a0),.va (cB.e a1)] (.vc (pI .i64 r)):=by
 unfold rW at hF
 refine a9 Tryz.func144 rfl (by kernel_rfl) Tryz.ntmps144 rfl (fun w0 M0=>?_)
 refine aD (aE (cV rfl rfl trivial (fun b1=>?_)))
 refine cV rfl rfl trivial (fun b2=>?_)
 refine aB (aL (.inr rfl)) ⟨bC _ _,trivial⟩ ?_
 refine aC (aA (aD (aD ?_)))
 obtain⟨v5,h6,hF⟩:=aO hF
 obtain⟨v7,h8,hF⟩:=aO hF
 refine bP [0,1,0,7,15,31] 6 0 [.v (.va (cB.e a0)),.v (.vc (pI .i64 v5)),.v (.va (cB.e a1)),.v (.vc (pI .i64 v7)),.v (.vc (pI .i64 v5)),.v (.vc (pI .i64 v7))] aR ⟨d0 (bD 1 4 rfl rfl rfl rfl (.agg tyA44)) ⟨rfl,trivial⟩,d0 (aG rfl (vL h6) rfl) ⟨rfl,trivial⟩,d0 (bD 0 4 rfl rfl rfl rfl (.agg tyA44)) ⟨rfl,trivial⟩,d0 (aG rfl (vL h8) rfl) ⟨rfl,trivial⟩,d0 (aL (.inr rfl)) ⟨rfl,trivial⟩,d0 (aL (.inr rfl)) ⟨rfl,trivial⟩,trivial⟩ (fun bs4 G3=>?_)
 refine aC (aA (aD (aE (aF ?_))))
 refine aF ?_
 refine aB (sC rfl) ⟨rfl,rfl,trivial⟩ ?_
 refine aF ?_
 refine cU (fun h9=>?_) (fun h9=>?_)
 ·have hF:=aT h9 hF
  refine aJ ?_
  refine aJ ?_
  refine aB (bK rfl) ⟨rfl,dH _,trivial⟩ ?_
  refine aC (aA (kT rfl ?_))
  refine aD (aE (aF ?_))
  obtain⟨v10,h11,hF⟩:=aO hF
  refine aB (aG rfl (nL h11) rfl) ⟨rfl,trivial⟩ ?_
  refine aF ?_
  obtain⟨v12,h13,hF⟩:=aO hF
  refine aB (aG rfl (nL h13) rfl) ⟨rfl,trivial⟩ ?_
  obtain⟨v14,h15,hF⟩:=aO hF
  refine aB (aG rfl (qR h15) rfl) ⟨rfl,rfl,trivial⟩ ?_
  refine bB ?_
  refine aC (aA (aX (aW ?_)))
  obtain rfl:=bX hF
  exact aI (.inl rfl) Tryz.results144 (.tmp rfl .nil) rfl rfl
 have hF:=aU h9 hF
 refine aZ (aL (.inl rfl)) ⟨rfl,trivial⟩ ?_
 refine aZ (iJ rfl) ⟨rfl,bC _ _,trivial⟩ ?_
 refine aB (bL rfl) ⟨rfl,rfl,trivial⟩ ?_
 refine aC (aA (bO rfl (fun h16=>?_) (fun h16=>?_)))
 ·have hF:=aT h16 hF
  refine aD (aE (aF ?_))
  obtain⟨v17,h18,hF⟩:=aO hF
  refine aB (aG rfl (nL h18) rfl) ⟨rfl,trivial⟩ ?_
  refine aF ?_
  obtain⟨v19,h20,hF⟩:=aO hF
  refine aB (aG rfl (nL h20) rfl) ⟨rfl,trivial⟩ ?_
  obtain⟨v21,h22,hF⟩:=aO hF
  refine aB (aG rfl (qR h22) rfl) ⟨rfl,rfl,trivial⟩ ?_
  refine bB ?_
  refine aC (aA (aX (aW ?_)))
  obtain rfl:=bX hF
  exact aI (.inl rfl) Tryz.results144 (.tmp rfl .nil) rfl rfl
 have hF:=aU h16 hF
 refine aV (aA (aD ?_))
 obtain⟨v25,h26,hF⟩:=aO hF
 obtain⟨v27,h28,hF⟩:=aO hF
 obtain⟨v29,h30,hF⟩:=aO hF
 obtain⟨v31,h32,hF⟩:=aO hF
 obtain⟨v33,h34,hF⟩:=aO hF
 refine bP [0,1,0,4,15,0,32,0,159,511,1023,2047] 12 0 [.v (.vc (pP (some b1) 0)),.v (.va (aP.e a0.p)),.v (.va (cB.e a1)),.v (.va (aP.e v25)),.v (.va (aP.e v27)),.v (.vc (pP (some b2) 0)),.v (.va (aP.e a1.p)),.v (.va (cB.e a0)),.v (.va (aP.e v29)),.v (.va (aP.e v31)),.v (.vc (pI .i64 v33)),.v (.vc (pI .i64 v33))] aR ⟨d0 (a8 (off:=0) (k:=0) rfl tyF44_0) ⟨rfl,trivial⟩,d0 (bD 1 2 rfl rfl rfl rfl (.agg tyA42)) ⟨rfl,trivial⟩,d0 (bD 0 4 rfl rfl rfl rfl (.agg tyA44)) ⟨rfl,trivial⟩,d0 (aG rfl (iR h26) rfl) ⟨rfl,trivial⟩,d0 (aG rfl (fP h28) rfl) ⟨rfl,rfl,trivial⟩,d0 (a8 (off:=0) (k:=0) rfl tyF44_0) ⟨rfl,trivial⟩,d0 (bD 0 2 rfl rfl rfl rfl (.agg tyA42)) ⟨rfl,trivial⟩,d0 (bD 1 4 rfl rfl rfl rfl (.agg tyA44)) ⟨rfl,trivial⟩,d0 (aG rfl (iR h30) rfl) ⟨rfl,trivial⟩,d0 (aG rfl (fP h32) rfl) ⟨rfl,rfl,trivial⟩,d0 (aG rfl (qR h34) rfl) ⟨rfl,rfl,trivial⟩,d0 (aL (.inr rfl)) ⟨rfl,trivial⟩,trivial⟩ (fun bs24 G23=>?_)
 refine aC (aA (aX (aW ?_)))
 obtain rfl:=bX hF
 exact aI (.inl rfl) Tryz.results144 (.tmp rfl .nil) rfl rfl
end Go.Proofs.YtcjdedkdoagifaaGreat
