import Derived.Test.YtcjdedkdoagifaaGreatI1
set_option linter.unusedVariables false
set_option maxRecDepth 100000
namespace Go.Proofs.YtcjdedkdoagifaaGreat
def hY (K:Nat) (x46:List Int) (x52:List Int):Option ((List Int)×(List Int)):=
 some (x46,x52)
def fX (K:Nat) (a1:List Int) (x38:List Int) (x45:Int) (v68:aP) (recl53:(List Int)→(List Int)→Int→Option ((List Int)×(List Int))) (x78:Int):Option ((List Int)×(List Int)):=
 (gH K a1 x78).bind fun v81=>(eW K v68.d v81).bind fun v83=>(bT K false v83).bind fun v85=>(dO x38 x45).bind fun v88=>(n8 x38 x45 x78).bind fun x90=>(bQ (x45-1)).bind fun v93=>recl53 x90 v85.d v93
def cD (K:Nat) (a1:List Int) (v68:aP):Nat→Int→Int→Option Int
 |0,_,_=>none
 |k+1,x76,x77=>bif(decide (x76<x77)) then((bQ (x76+x77)).bind fun v96=>(bQ (v96+1)).bind fun v98=>(r4 v98 2).bind fun v100=>(gH K a1 v100).bind fun v102=>(cM K v102 v68.d).bind fun v104=>bif(decide (v104≤0)) then(cD K a1 v68 k v100 x77) else((bQ (v100-1)).bind fun v107=>cD K a1 v68 k x76 v107)) else(some x76)
def eZ (K:Nat) (a1:List Int) (x38:List Int) (x45:Int) (v68:aP) (recl53:(List Int)→(List Int)→Int→Option ((List Int)×(List Int))) (x72:Int):Option ((List Int)×(List Int)):=
 (cD K a1 v68 K 0 x72).bind fun x78=>fX K a1 x38 x45 v68 recl53 x78
def bY (K:Nat) (a0:List Int) (a1:List Int):Nat→(List Int)→(List Int)→Int→Option ((List Int)×(List Int))
 |0,_,_,_=>none
 |k+1,x38,x44,x45=>bif(decide (0≤x45)) then((dO a0 x45).bind fun v56=>(tB [v56] x44).bind fun x61=>(bT K false x61).bind fun v68=>(cM K v68.d a1).bind fun v109=>bif(decide (v109<0)) then(eZ K a1 x38 x45 v68 (bY K a0 a1 k) 0) else(eZ K a1 x38 x45 v68 (bY K a0 a1 k) 999999999)) else(some (x38,x44))
def mB (K:Nat) (x135:List Int) (x141:List Int):Option ((List Int)×(List Int)):=
 some (x135,x141)
def jL (K:Nat) (a1:List Int) (x127:List Int) (x134:Int) (v157:aP) (recl142:(List Int)→(List Int)→Int→Option ((List Int)×(List Int))) (x167:Int):Option ((List Int)×(List Int)):=
 (gH K a1 x167).bind fun v170=>(eW K v157.d v170).bind fun v172=>(bT K false v172).bind fun v174=>(dO x127 x134).bind fun v177=>(n8 x127 x134 x167).bind fun x179=>(bQ (x134-1)).bind fun v182=>recl142 x179 v174.d v182
def eL (K:Nat) (a1:List Int) (v157:aP):Nat→Int→Int→Option Int
 |0,_,_=>none
 |k+1,x165,x166=>bif(decide (x165<x166)) then((bQ (x165+x166)).bind fun v185=>(bQ (v185+1)).bind fun v187=>(r4 v187 2).bind fun v189=>(gH K a1 v189).bind fun v191=>(cM K v191 v157.d).bind fun v193=>bif(decide (v193≤0)) then(eL K a1 v157 k v189 x166) else((bQ (v189-1)).bind fun v196=>eL K a1 v157 k x165 v196)) else(some x165)
def gW (K:Nat) (a1:List Int) (x127:List Int) (x134:Int) (v157:aP) (recl142:(List Int)→(List Int)→Int→Option ((List Int)×(List Int))) (x161:Int):Option ((List Int)×(List Int)):=
 (eL K a1 v157 K 0 x161).bind fun x167=>jL K a1 x127 x134 v157 recl142 x167
def cS (K:Nat) (a0:List Int) (a1:List Int):Nat→(List Int)→(List Int)→Int→Option ((List Int)×(List Int))
 |0,_,_,_=>none
 |k+1,x127,x133,x134=>bif(decide (0≤x134)) then((dO a0 x134).bind fun v145=>(tB [v145] x133).bind fun x150=>(bT K false x150).bind fun v157=>(cM K v157.d a1).bind fun v198=>bif(decide (v198<0)) then(gW K a1 x127 x134 v157 (cS K a0 a1 k) 0) else(gW K a1 x127 x134 v157 (cS K a0 a1 k) 999999999)) else(some (x127,x133))
def gI (K:Nat) (a0:List Int) (a1:List Int):Option ((List Int)×(List Int)):=
 bif(decide ((a0.length:Int)≤2)) then(bif(decide ((a1.length:Int)≤2)) then((fI a0).bind fun v3=>(fI a1).bind fun v5=>(r4 v3 v5).bind fun v7=>(fO K v7).bind fun v9=>(fI a0).bind fun v12=>(fI a1).bind fun v14=>(r6 v12 v14).bind fun v16=>(fO K v16).bind fun v18=>some (v9.d,v18.d)) else((s6 (a0.length:Int) 0).bind fun x23=>(bQ ((a0.length:Int)-1)).bind fun v28=>(bY K a0 a1 K x23 [] v28).bind fun(x46,x52)=>hY K x46 x52)) else((s6 (a0.length:Int) 0).bind fun x112=>(bQ ((a0.length:Int)-1)).bind fun v117=>(cS K a0 a1 K x112 [] v117).bind fun(x135,x141)=>mB K x135 x141)
theorem uR {K:Nat} {a0:List Int} {a1:List Int} {r:(List Int)×(List Int)} (hF:gI K a0 a1=some r):Ct Tryz.prog 232 [.vc (pS cI a0),.vc (pS cI a1)] (.t2 (.vc (pS cI r.1)) (.vc (pS cI r.2))):=by
 unfold gI at hF
 refine a9 Tryz.func232 rfl (by kernel_rfl) Tryz.ntmps232 rfl (fun w0 M0=>?_)
 refine aD (aE (aB (aL (.inr rfl)) ⟨eJ cI,trivial⟩ ?_))
 refine aB (aL (.inr rfl)) ⟨eJ cI,trivial⟩ ?_
 refine aC (aA (aD (aD (aE (aF ?_)))))
 refine aB (bZ rfl tyS22) ⟨rfl,trivial⟩ ?_
 refine aB (w9 rfl) ⟨rfl,bC _ _,trivial⟩ ?_
 refine aF ?_
 refine cU (fun h1=>?_) (fun h1=>?_)
 ·have hF:=aT h1 hF
  refine aZ (aL (.inl rfl)) ⟨rfl,trivial⟩ ?_
  refine aZ (bZ rfl tyS22) ⟨rfl,trivial⟩ ?_
  refine aZ (w9 rfl) ⟨rfl,bC _ _,trivial⟩ ?_
  refine aB (bK rfl) ⟨rfl,rfl,trivial⟩ ?_
  refine aC (aA (bO rfl (fun h2=>?_) (fun h2=>?_)))
  ·have hF:=aT h2 hF
   refine aD (aE (aF ?_))
   obtain⟨v3,h4,hF⟩:=aO hF
   refine aB (aG rfl (jV h4) rfl) ⟨rfl,trivial⟩ ?_
   refine aF ?_
   obtain⟨v5,h6,hF⟩:=aO hF
   refine aB (aG rfl (jV h6) rfl) ⟨rfl,trivial⟩ ?_
   obtain⟨v7,h8,hF⟩:=aO hF
   refine aB (oD rfl h8) ⟨rfl,rfl,trivial⟩ ?_
   obtain⟨v9,h10,hF⟩:=aO hF
   refine aB (aG rfl (jG h10) rfl) ⟨rfl,trivial⟩ ?_
   refine bJ rfl tyZ42 (fun b11=>?_)
   refine aY (dA 0 rfl rfl rfl tyA42.s) ⟨rfl,rfl,trivial⟩ ?_
   refine aC (aA (aD (aE (aF ?_))))
   obtain⟨v12,h13,hF⟩:=aO hF
   refine aB (aG rfl (jV h13) rfl) ⟨rfl,trivial⟩ ?_
   refine aF ?_
   obtain⟨v14,h15,hF⟩:=aO hF
   refine aB (aG rfl (jV h15) rfl) ⟨rfl,trivial⟩ ?_
   obtain⟨v16,h17,hF⟩:=aO hF
   refine aB (mZ rfl h17) ⟨rfl,rfl,trivial⟩ ?_
   obtain⟨v18,h19,hF⟩:=aO hF
   refine aB (aG rfl (jG h19) rfl) ⟨rfl,trivial⟩ ?_
   refine bJ rfl tyZ42 (fun b20=>?_)
   refine aY (dA 0 rfl rfl rfl tyA42.s) ⟨rfl,rfl,trivial⟩ ?_
   refine aC (aA (aD (bP [0,1,0,4,3,31] 6 0 [.v (.vc (pP (some b11) 1)),.v (.vc (pS cI v9.d)),.v (.vc (pP (some b20) 1)),.v (.vc (pS cI v18.d)),.v (.vc (pS cI v9.d)),.v (.vc (pS cI v18.d))] aR ⟨d0 (a8 (off:=0) (k:=1) rfl tyF42_1) ⟨rfl,trivial⟩,d0 (bD 1 1 rfl rfl rfl rfl (.one tyO22)) ⟨rfl,trivial⟩,d0 (a8 (off:=0) (k:=1) rfl tyF42_1) ⟨rfl,trivial⟩,d0 (bD 0 1 rfl rfl rfl rfl (.one tyO22)) ⟨rfl,trivial⟩,d0 (aL (.inr rfl)) ⟨rfl,trivial⟩,d0 (aL (.inr rfl)) ⟨rfl,trivial⟩,trivial⟩ (fun bs22 G21=>?_))))
   refine aC (aA (aX (aW ?_)))
   obtain rfl:=bX hF
   exact aI (.inl rfl) Tryz.results232 (.tmp rfl (.tmp rfl .nil)) rfl rfl
  have hF:=aU h2 hF
  refine aV (aA (aD (aE (aF ?_))))
  refine aB (bZ rfl tyS22) ⟨rfl,trivial⟩ ?_
  obtain⟨x23,h24,hF⟩:=aO hF
  refine rK (C:=cI) rfl tyS22 rfl tyZ3 rfl h24 (fun b25=>?_)
  refine bB ?_
  refine aC (aA (aD (aE (aB (aL (.inr rfl)) ⟨eJ cI,trivial⟩ ?_))))
  refine aC (aA (aD (aD (aE (aF ?_)))))
  refine aB (bZ rfl tyS22) ⟨rfl,trivial⟩ ?_
  obtain⟨v28,h29,hF⟩:=aO hF
  refine aB (fH rfl h29) ⟨rfl,bC _ _,trivial⟩ ?_
  refine bB ?_
  refine aC (aA (bN (cL (fun H E=>∃(x46:List Int),∃(x52:List Int),hY K x46 x52=some r∧x46.length=x23.length∧H=[hO cI b25 x23.length 3 x23.length x46]∧E=[(8,.vc (pO b25 x23.length x23.length)),(9,.vc (pS cI x52))]) ?_ (fun Jj54=>?_))))
  ·rintro _ _ ⟨x46,x52,hF,q50,rfl,rfl⟩
   unfold hY at hF
   refine aA (aD (aE (aF ?_)))
   refine aF ?_
   refine bB ?_
   refine bB ?_
   refine aC (aA (aX (aW (t5 0 [4,8,93] rfl q50 ⟨rfl,rfl,rfl,trivial⟩ rfl ?_))))
   obtain rfl:=bX hF
   exact aI (.inl rfl) Tryz.results232 (.tmp rfl (.tmp rfl .nil)) rfl rfl
  obtain⟨⟨x46',x52'⟩,hL,hRl53⟩:=aO hF
  refine gY (fun k a w=>∃(x38:List Int),∃(x44:List Int),∃(x45:Int),bY K a0 a1 k x38 x44 x45=some (x46',x52')∧x38.length=x23.length∧hs _ [hO cI b25 x23.length 3 x23.length x38] [(0,.vc (pS cI a0)),(1,.vc (pS cI a1)),(8,.vc (pO b25 x23.length x23.length)),(9,.vc (pS cI x44)),(10,.vc (pI .i64 x45))] a w) K (fun a w ⟨_,_,_,hF,_,_⟩=>by cases hF) (fun k a w ⟨x38,x44,x45,hF,q42,hh⟩=>gX ?_ hh) (fun a w hh=>⟨x23,[],v28,hL,rfl,bA [0] rfl (by decide) (by exact⟨rfl,rfl,rfl,rfl,rfl,trivial⟩) hh⟩)
  rw [bY.eq_2] at hF
  refine aD (aD (aE (aF ?_)))
  refine aB (sB rfl) ⟨rfl,bC _ _,trivial⟩ ?_
  refine aC (aA (bO rfl (fun h55=>?_) (fun h55=>?_)))
  ·have hF:=aT h55 hF
   refine aV (aA (aD (bN (aD (aE (aF ?_))))))
   refine aF ?_
   obtain⟨v56,h57,hF⟩:=aO hF
   refine aB (dX rfl tyS22 h57) ⟨rfl,rfl,trivial⟩ ?_
   refine aB (dM 1 rfl rfl (.one tyO3)) ⟨rfl,trivial⟩ ?_
   refine aDE (aDk (C:=cI) (xs:=[.tmp 53]) (ps:=[.vc (pI .i64 v56)]) (zs:=[v56]) rfl tyS22 rfl ⟨⟨trivial,rfl⟩,trivial⟩ rfl) ⟨rfl,trivial⟩ (fun b58 _=>?_)
   refine aF ?_
   obtain⟨x61,h62,hF⟩:=aO hF
   refine nY 0 rfl tyS22 rfl rfl rfl rfl rfl h62 (fun b63 c64 H65 e66=>?_)
   cases e66
   refine xZ 0 [56] rfl (gB h62 rfl) ⟨rfl,trivial⟩ rfl ?_
   obtain⟨v68,h69,hF⟩:=aO hF
   refine aB (aG rfl (cA h69) rfl) ⟨dH _,rfl,trivial⟩ ?_
   refine bJ rfl tyZ42 (fun b70=>?_)
   refine aY (dA 0 rfl rfl rfl tyA42.s) ⟨rfl,rfl,trivial⟩ ?_
   refine aC (aA (aD (aE (aB (a8 (off:=0) (k:=1) rfl tyF42_1) ⟨rfl,trivial⟩ ?_))))
   refine aB (bD 0 1 rfl rfl rfl rfl (.one tyO22)) ⟨rfl,trivial⟩ ?_
   refine bB ?_
   refine aC (aA (aD (aE (aB (aL (.inr rfl)) ⟨bC _ _,trivial⟩ ?_))))
   refine aC (aA (aD (aE (aB (aL (.inr rfl)) ⟨bC _ _,trivial⟩ ?_))))
   refine aC (aA (aD (rB (fun H E=>∃(x72:Int),eZ K a1 x38 x45 v68 (bY K a0 a1 k) x72=some (x46',x52')∧H=[hO cI b25 x23.length 3 x23.length x38]∧E=[(0,.vc (pS cI a0)),(1,.vc (pS cI a1)),(8,.vc (pO b25 x23.length x23.length)),(9,.vc (pS cI v68.d)),(10,.vc (pI .i64 x45)),(12,.vc (pI .i64 0)),(13,.vc (pI .i64 x72))]) ?_ (fun Jj73=>?_))))
   ·rintro _ _ ⟨x72,hF,rfl,rfl⟩
    unfold eZ at hF
    refine aD (bN (cL (fun H E=>∃(x78:Int),fX K a1 x38 x45 v68 (bY K a0 a1 k) x78=some (x46',x52')∧H=[hO cI b25 x23.length 3 x23.length x38]∧E=[(0,.vc (pS cI a0)),(1,.vc (pS cI a1)),(8,.vc (pO b25 x23.length x23.length)),(9,.vc (pS cI v68.d)),(10,.vc (pI .i64 x45)),(12,.vc (pI .i64 x78))]) ?_ (fun Jj80=>?_)))
    ·rintro _ _ ⟨x78,hF,rfl,rfl⟩
     unfold fX at hF
     refine aA (aD (aE (aF ?_)))
     refine aF ?_
     refine aF ?_
     obtain⟨v81,h82,hF⟩:=aO hF
     refine aB (aG rfl (m5 h82) rfl) ⟨rfl,rfl,trivial⟩ ?_
     obtain⟨v83,h84,hF⟩:=aO hF
     refine aB (aG rfl (k5 h84) rfl) ⟨rfl,rfl,trivial⟩ ?_
     obtain⟨v85,h86,hF⟩:=aO hF
     refine aB (aG rfl (cA h86) rfl) ⟨dH _,rfl,trivial⟩ ?_
     refine bJ rfl tyZ42 (fun b87=>?_)
     refine aY (dA 0 rfl rfl rfl tyA42.s) ⟨rfl,rfl,trivial⟩ ?_
     refine aC (aA (aD (aE (aF ?_))))
     refine aF ?_
     refine aF ?_
     obtain⟨v88,h89,hF⟩:=aO hF
     refine aB (cE (C:=cI) 1 rfl tyS22 rfl q42 (aN h89).1 (aN h89).2.1) ⟨rfl,rfl,trivial⟩ ?_
     obtain⟨x90,h91,hF⟩:=aO hF
     refine aY (fL 1 rfl rfl h89 h91 tyO3.s) ⟨rfl,rfl,trivial⟩ ?_
     refine aC (aA (aE (aB (a8 (off:=0) (k:=1) rfl tyF42_1) ⟨rfl,trivial⟩ ?_)))
     refine aB (bD 0 1 rfl rfl rfl rfl (.one tyO22)) ⟨rfl,trivial⟩ ?_
     refine bB ?_
     refine aC (bF (aA (aE (aF ?_))))
     obtain⟨v93,h94,hF⟩:=aO hF
     refine aB (fH rfl h94) ⟨rfl,bC _ _,trivial⟩ ?_
     refine bB ?_
     refine aC ?_
     exact bG (fun a w hh=>⟨x90,v85.d,v93,hF,(b0 h91 q42),bA [1] rfl (by decide) (by exact⟨rfl,rfl,rfl,rfl,rfl,trivial⟩) hh⟩)
    obtain⟨x78',hL,hRl79⟩:=aO hF
    refine gY (fun k a w=>∃(x76:Int),∃(x77:Int),cD K a1 v68 k x76 x77=some x78'∧hs _ [hO cI b25 x23.length 3 x23.length x38] [(0,.vc (pS cI a0)),(1,.vc (pS cI a1)),(8,.vc (pO b25 x23.length x23.length)),(9,.vc (pS cI v68.d)),(10,.vc (pI .i64 x45)),(12,.vc (pI .i64 x76)),(13,.vc (pI .i64 x77))] a w) K (fun a w ⟨_,_,hF,_⟩=>by cases hF) (fun k a w ⟨x76,x77,hF,hh⟩=>gX ?_ hh) (fun a w hh=>⟨0,x72,hL,bA [0] rfl (by decide) (by exact⟨rfl,rfl,rfl,rfl,rfl,rfl,rfl,trivial⟩) hh⟩)
    rw [cD.eq_2] at hF
    refine aD (aD (aE (aF ?_)))
    refine aF ?_
    refine aB (dQ rfl) ⟨rfl,rfl,trivial⟩ ?_
    refine aC (aA (bO rfl (fun h95=>?_) (fun h95=>?_)))
    ·have hF:=aT h95 hF
     refine aV (aA (bN (aD (aE (aF ?_)))))
     refine aF ?_
     obtain⟨v96,h97,hF⟩:=aO hF
     refine aB (bI rfl h97) ⟨rfl,rfl,trivial⟩ ?_
     obtain⟨v98,h99,hF⟩:=aO hF
     refine aB (bI rfl h99) ⟨rfl,bC _ _,trivial⟩ ?_
     obtain⟨v100,h101,hF⟩:=aO hF
     refine aB (oD rfl h101) ⟨rfl,bC _ _,trivial⟩ ?_
     refine bB ?_
     refine aC (aA (aD (aE (aF ?_))))
     refine aF ?_
     obtain⟨v102,h103,hF⟩:=aO hF
     refine aB (aG rfl (m5 h103) rfl) ⟨rfl,rfl,trivial⟩ ?_
     refine aF ?_
     obtain⟨v104,h105,hF⟩:=aO hF
     refine aB (aG rfl (fT h105) rfl) ⟨rfl,rfl,trivial⟩ ?_
     refine aB (w9 rfl) ⟨rfl,bC _ _,trivial⟩ ?_
     refine aC (aA (bO rfl (fun h106=>?_) (fun h106=>?_)))
     ·have hF:=aT h106 hF
      refine aE (aF ?_)
      refine bB ?_
      refine aC (bF ?_)
      exact bG (fun a w hh=>⟨v100,x77,hF,bA [0] rfl (by decide) (by exact⟨rfl,rfl,rfl,rfl,rfl,rfl,rfl,trivial⟩) hh⟩)
     have hF:=aU h106 hF
     refine aE (aF ?_)
     obtain⟨v107,h108,hF⟩:=aO hF
     refine aB (fH rfl h108) ⟨rfl,bC _ _,trivial⟩ ?_
     refine bB ?_
     refine aC (bF ?_)
     exact bG (fun a w hh=>⟨x76,v107,hF,bA [0] rfl (by decide) (by exact⟨rfl,rfl,rfl,rfl,rfl,rfl,rfl,trivial⟩) hh⟩)
    have hF:=aU h95 hF
    refine dE ?_
    obtain rfl:=bX hF
    exact bS Jj80 ⟨x76,hRl79,rfl,rfl⟩ [0] rfl ⟨rfl,rfl,rfl,rfl,rfl,rfl,trivial⟩
   refine aD (aE (aF ?_))
   refine aF ?_
   obtain⟨v109,h110,hF⟩:=aO hF
   refine aB (aG rfl (fT h110) rfl) ⟨rfl,rfl,trivial⟩ ?_
   refine aB (dQ rfl) ⟨rfl,bC _ _,trivial⟩ ?_
   refine aC (aA (bO rfl (fun h111=>?_) (fun h111=>?_)))
   ·have hF:=aT h111 hF
    refine aE (aB (aL (.inr rfl)) ⟨bC _ _,trivial⟩ ?_)
    refine aC ?_
    exact bS Jj73 ⟨0,hF,rfl,rfl⟩ [1] rfl ⟨rfl,rfl,rfl,rfl,rfl,rfl,rfl,trivial⟩
   have hF:=aU h111 hF
   refine aV ?_
   exact bS Jj73 ⟨999999999,hF,rfl,rfl⟩ [1] rfl ⟨rfl,rfl,rfl,rfl,rfl,rfl,rfl,trivial⟩
  have hF:=aU h55 hF
  refine dE ?_
  obtain⟨rfl,rfl⟩:=sm2 hF
  exact bS Jj54 ⟨x38,x44,hRl53,q42,rfl,rfl⟩ [0] rfl ⟨rfl,rfl,trivial⟩
 have hF:=aU h1 hF
 refine aJ ?_
 refine aJ ?_
 refine aJ ?_
 refine aB (bL rfl) ⟨rfl,dH _,trivial⟩ ?_
 refine aC (aA (qG rfl ?_))
 refine aV (aA (aD (aE (aF ?_))))
 refine aB (bZ rfl tyS22) ⟨rfl,trivial⟩ ?_
 obtain⟨x112,h113,hF⟩:=aO hF
 refine rK (C:=cI) rfl tyS22 rfl tyZ3 rfl h113 (fun b114=>?_)
 refine bB ?_
 refine aC (aA (aD (aE (aB (aL (.inr rfl)) ⟨eJ cI,trivial⟩ ?_))))
 refine aC (aA (aD (aD (aE (aF ?_)))))
 refine aB (bZ rfl tyS22) ⟨rfl,trivial⟩ ?_
 obtain⟨v117,h118,hF⟩:=aO hF
 refine aB (fH rfl h118) ⟨rfl,bC _ _,trivial⟩ ?_
 refine bB ?_
 refine aC (aA (bN (cL (fun H E=>∃(x135:List Int),∃(x141:List Int),mB K x135 x141=some r∧x135.length=x112.length∧H=[hO cI b114 x112.length 3 x112.length x135]∧E=[(8,.vc (pO b114 x112.length x112.length)),(9,.vc (pS cI x141))]) ?_ (fun Jj143=>?_))))
 ·rintro _ _ ⟨x135,x141,hF,q139,rfl,rfl⟩
  unfold mB at hF
  refine aA (aD (aE (aF ?_)))
  refine aF ?_
  refine bB ?_
  refine bB ?_
  refine aC (aA (aX (aW (t5 0 [4,8,93] rfl q139 ⟨rfl,rfl,rfl,trivial⟩ rfl ?_))))
  obtain rfl:=bX hF
  exact aI (.inl rfl) Tryz.results232 (.tmp rfl (.tmp rfl .nil)) rfl rfl
 obtain⟨⟨x135',x141'⟩,hL,hRl142⟩:=aO hF
 refine gY (fun k a w=>∃(x127:List Int),∃(x133:List Int),∃(x134:Int),cS K a0 a1 k x127 x133 x134=some (x135',x141')∧x127.length=x112.length∧hs _ [hO cI b114 x112.length 3 x112.length x127] [(0,.vc (pS cI a0)),(1,.vc (pS cI a1)),(8,.vc (pO b114 x112.length x112.length)),(9,.vc (pS cI x133)),(10,.vc (pI .i64 x134))] a w) K (fun a w ⟨_,_,_,hF,_,_⟩=>by cases hF) (fun k a w ⟨x127,x133,x134,hF,q131,hh⟩=>gX ?_ hh) (fun a w hh=>⟨x112,[],v117,hL,rfl,bA [0] rfl (by decide) (by exact⟨rfl,rfl,rfl,rfl,rfl,trivial⟩) hh⟩)
 rw [cS.eq_2] at hF
 refine aD (aD (aE (aF ?_)))
 refine aB (sB rfl) ⟨rfl,bC _ _,trivial⟩ ?_
 refine aC (aA (bO rfl (fun h144=>?_) (fun h144=>?_)))
 ·have hF:=aT h144 hF
  refine aV (aA (aD (bN (aD (aE (aF ?_))))))
  refine aF ?_
  obtain⟨v145,h146,hF⟩:=aO hF
  refine aB (dX rfl tyS22 h146) ⟨rfl,rfl,trivial⟩ ?_
  refine aB (dM 1 rfl rfl (.one tyO3)) ⟨rfl,trivial⟩ ?_
  refine aDE (aDk (C:=cI) (xs:=[.tmp 53]) (ps:=[.vc (pI .i64 v145)]) (zs:=[v145]) rfl tyS22 rfl ⟨⟨trivial,rfl⟩,trivial⟩ rfl) ⟨rfl,trivial⟩ (fun b147 _=>?_)
  refine aF ?_
  obtain⟨x150,h151,hF⟩:=aO hF
  refine nY 0 rfl tyS22 rfl rfl rfl rfl rfl h151 (fun b152 c153 H154 e155=>?_)
  cases e155
  refine xZ 0 [56] rfl (gB h151 rfl) ⟨rfl,trivial⟩ rfl ?_
  obtain⟨v157,h158,hF⟩:=aO hF
  refine aB (aG rfl (cA h158) rfl) ⟨dH _,rfl,trivial⟩ ?_
  refine bJ rfl tyZ42 (fun b159=>?_)
  refine aY (dA 0 rfl rfl rfl tyA42.s) ⟨rfl,rfl,trivial⟩ ?_
  refine aC (aA (aD (aE (aB (a8 (off:=0) (k:=1) rfl tyF42_1) ⟨rfl,trivial⟩ ?_))))
  refine aB (bD 0 1 rfl rfl rfl rfl (.one tyO22)) ⟨rfl,trivial⟩ ?_
  refine bB ?_
  refine aC (aA (aD (aE (aB (aL (.inr rfl)) ⟨bC _ _,trivial⟩ ?_))))
  refine aC (aA (aD (aE (aB (aL (.inr rfl)) ⟨bC _ _,trivial⟩ ?_))))
  refine aC (aA (aD (rB (fun H E=>∃(x161:Int),gW K a1 x127 x134 v157 (cS K a0 a1 k) x161=some (x135',x141')∧H=[hO cI b114 x112.length 3 x112.length x127]∧E=[(0,.vc (pS cI a0)),(1,.vc (pS cI a1)),(8,.vc (pO b114 x112.length x112.length)),(9,.vc (pS cI v157.d)),(10,.vc (pI .i64 x134)),(12,.vc (pI .i64 0)),(13,.vc (pI .i64 x161))]) ?_ (fun Jj162=>?_))))
  ·rintro _ _ ⟨x161,hF,rfl,rfl⟩
   unfold gW at hF
   refine aD (bN (cL (fun H E=>∃(x167:Int),jL K a1 x127 x134 v157 (cS K a0 a1 k) x167=some (x135',x141')∧H=[hO cI b114 x112.length 3 x112.length x127]∧E=[(0,.vc (pS cI a0)),(1,.vc (pS cI a1)),(8,.vc (pO b114 x112.length x112.length)),(9,.vc (pS cI v157.d)),(10,.vc (pI .i64 x134)),(12,.vc (pI .i64 x167))]) ?_ (fun Jj169=>?_)))
   ·rintro _ _ ⟨x167,hF,rfl,rfl⟩
    unfold jL at hF
    refine aA (aD (aE (aF ?_)))
    refine aF ?_
    refine aF ?_
    obtain⟨v170,h171,hF⟩:=aO hF
    refine aB (aG rfl (m5 h171) rfl) ⟨rfl,rfl,trivial⟩ ?_
    obtain⟨v172,h173,hF⟩:=aO hF
    refine aB (aG rfl (k5 h173) rfl) ⟨rfl,rfl,trivial⟩ ?_
    obtain⟨v174,h175,hF⟩:=aO hF
    refine aB (aG rfl (cA h175) rfl) ⟨dH _,rfl,trivial⟩ ?_
    refine bJ rfl tyZ42 (fun b176=>?_)
    refine aY (dA 0 rfl rfl rfl tyA42.s) ⟨rfl,rfl,trivial⟩ ?_
    refine aC (aA (aD (aE (aF ?_))))
    refine aF ?_
    refine aF ?_
    obtain⟨v177,h178,hF⟩:=aO hF
    refine aB (cE (C:=cI) 1 rfl tyS22 rfl q131 (aN h178).1 (aN h178).2.1) ⟨rfl,rfl,trivial⟩ ?_
    obtain⟨x179,h180,hF⟩:=aO hF
    refine aY (fL 1 rfl rfl h178 h180 tyO3.s) ⟨rfl,rfl,trivial⟩ ?_
    refine aC (aA (aE (aB (a8 (off:=0) (k:=1) rfl tyF42_1) ⟨rfl,trivial⟩ ?_)))
    refine aB (bD 0 1 rfl rfl rfl rfl (.one tyO22)) ⟨rfl,trivial⟩ ?_
    refine bB ?_
    refine aC (bF (aA (aE (aF ?_))))
    obtain⟨v182,h183,hF⟩:=aO hF
    refine aB (fH rfl h183) ⟨rfl,bC _ _,trivial⟩ ?_
    refine bB ?_
    refine aC ?_
    exact bG (fun a w hh=>⟨x179,v174.d,v182,hF,(b0 h180 q131),bA [1] rfl (by decide) (by exact⟨rfl,rfl,rfl,rfl,rfl,trivial⟩) hh⟩)
   obtain⟨x167',hL,hRl168⟩:=aO hF
   refine gY (fun k a w=>∃(x165:Int),∃(x166:Int),eL K a1 v157 k x165 x166=some x167'∧hs _ [hO cI b114 x112.length 3 x112.length x127] [(0,.vc (pS cI a0)),(1,.vc (pS cI a1)),(8,.vc (pO b114 x112.length x112.length)),(9,.vc (pS cI v157.d)),(10,.vc (pI .i64 x134)),(12,.vc (pI .i64 x165)),(13,.vc (pI .i64 x166))] a w) K (fun a w ⟨_,_,hF,_⟩=>by cases hF) (fun k a w ⟨x165,x166,hF,hh⟩=>gX ?_ hh) (fun a w hh=>⟨0,x161,hL,bA [0] rfl (by decide) (by exact⟨rfl,rfl,rfl,rfl,rfl,rfl,rfl,trivial⟩) hh⟩)
   rw [eL.eq_2] at hF
   refine aD (aD (aE (aF ?_)))
   refine aF ?_
   refine aB (dQ rfl) ⟨rfl,rfl,trivial⟩ ?_
   refine aC (aA (bO rfl (fun h184=>?_) (fun h184=>?_)))
   ·have hF:=aT h184 hF
    refine aV (aA (bN (aD (aE (aF ?_)))))
    refine aF ?_
    obtain⟨v185,h186,hF⟩:=aO hF
    refine aB (bI rfl h186) ⟨rfl,rfl,trivial⟩ ?_
    obtain⟨v187,h188,hF⟩:=aO hF
    refine aB (bI rfl h188) ⟨rfl,bC _ _,trivial⟩ ?_
    obtain⟨v189,h190,hF⟩:=aO hF
    refine aB (oD rfl h190) ⟨rfl,bC _ _,trivial⟩ ?_
    refine bB ?_
    refine aC (aA (aD (aE (aF ?_))))
    refine aF ?_
    obtain⟨v191,h192,hF⟩:=aO hF
    refine aB (aG rfl (m5 h192) rfl) ⟨rfl,rfl,trivial⟩ ?_
    refine aF ?_
    obtain⟨v193,h194,hF⟩:=aO hF
    refine aB (aG rfl (fT h194) rfl) ⟨rfl,rfl,trivial⟩ ?_
    refine aB (w9 rfl) ⟨rfl,bC _ _,trivial⟩ ?_
    refine aC (aA (bO rfl (fun h195=>?_) (fun h195=>?_)))
    ·have hF:=aT h195 hF
     refine aE (aF ?_)
     refine bB ?_
     refine aC (bF ?_)
     exact bG (fun a w hh=>⟨v189,x166,hF,bA [0] rfl (by decide) (by exact⟨rfl,rfl,rfl,rfl,rfl,rfl,rfl,trivial⟩) hh⟩)
    have hF:=aU h195 hF
    refine aE (aF ?_)
    obtain⟨v196,h197,hF⟩:=aO hF
    refine aB (fH rfl h197) ⟨rfl,bC _ _,trivial⟩ ?_
    refine bB ?_
    refine aC (bF ?_)
    exact bG (fun a w hh=>⟨x165,v196,hF,bA [0] rfl (by decide) (by exact⟨rfl,rfl,rfl,rfl,rfl,rfl,rfl,trivial⟩) hh⟩)
   have hF:=aU h184 hF
   refine dE ?_
   obtain rfl:=bX hF
   exact bS Jj169 ⟨x165,hRl168,rfl,rfl⟩ [0] rfl ⟨rfl,rfl,rfl,rfl,rfl,rfl,trivial⟩
  refine aD (aE (aF ?_))
  refine aF ?_
  obtain⟨v198,h199,hF⟩:=aO hF
  refine aB (aG rfl (fT h199) rfl) ⟨rfl,rfl,trivial⟩ ?_
  refine aB (dQ rfl) ⟨rfl,bC _ _,trivial⟩ ?_
  refine aC (aA (bO rfl (fun h200=>?_) (fun h200=>?_)))
  ·have hF:=aT h200 hF
   refine aE (aB (aL (.inr rfl)) ⟨bC _ _,trivial⟩ ?_)
   refine aC ?_
   exact bS Jj162 ⟨0,hF,rfl,rfl⟩ [1] rfl ⟨rfl,rfl,rfl,rfl,rfl,rfl,rfl,trivial⟩
  have hF:=aU h200 hF
  refine aV ?_
  exact bS Jj162 ⟨999999999,hF,rfl,rfl⟩ [1] rfl ⟨rfl,rfl,rfl,rfl,rfl,rfl,rfl,trivial⟩
 have hF:=aU h144 hF
 refine dE ?_
 obtain⟨rfl,rfl⟩:=sm2 hF
 exact bS Jj143 ⟨x127,x133,hRl142,q131,rfl,rfl⟩ [0] rfl ⟨rfl,rfl,trivial⟩
def iG (K:Nat) (a0:aP) (a1:aP):Option (aP×aP):=
 bif((a1.d.length:Int)==0) then(some ((⟨false,([]:List Int)⟩:aP),(⟨false,([]:List Int)⟩:aP))) else((gI K a0.d a1.d).bind fun v6=>(bT K (a0.neg != a1.neg) v6.1).bind fun v8=>(bT K false v6.2).bind fun v11=>bif a0.neg then(bif(decide (0<(v11.d.length:Int))) then((bT K (a0.neg != a1.neg) [1]).bind fun v18=>(k7 K v8 v18).bind fun v20=>(eW K a1.d v11.d).bind fun v22=>(bT K false v22).bind fun v24=>some (v20,v24)) else(some (v8,v11))) else(some (v8,v11)))
theorem oR {K:Nat} {a0:aP} {a1:aP} {r:aP×aP} (hF:iG K a0 a1=some r):Ct Tryz.prog 179 [.va (aP.e a0),.va (aP.e a1)] (.t2 (.va (aP.e r.1)) (.va (aP.e r.2))):=by
 unfold iG at hF
 refine a9 Tryz.func179 rfl (by kernel_rfl) Tryz.ntmps179 rfl (fun w0 M0=>?_)
 refine aD (aE (cV rfl rfl trivial (fun b1=>?_)))
 refine cV rfl rfl trivial (fun b2=>?_)
 refine bJ rfl tyZ42 (fun b3=>?_)
 refine bJ rfl tyZ42 (fun b4=>?_)
 refine aC (aA (aD (aD (aE (aB (a8 (off:=0) (k:=1) rfl tyF42_1) ⟨rfl,trivial⟩ ?_)))))
 refine aB (bD 2 1 rfl rfl rfl rfl (.one tyO22)) ⟨rfl,trivial⟩ ?_
 refine aB (bZ rfl tyS22) ⟨rfl,trivial⟩ ?_
 refine aB (iJ rfl) ⟨rfl,bC _ _,trivial⟩ ?_
 refine aC (aA (bO rfl (fun h5=>?_) (fun h5=>?_)))
 ·have hF:=aT h5 hF
  refine aD (aE (aB (fA (is:=[]) (xs:=[]) (ps:=[]) rfl tyB42 rfl rfl trivial rfl) trivial ?_))
  refine aB (fA (is:=[]) (xs:=[]) (ps:=[]) rfl tyB42 rfl rfl trivial rfl) trivial ?_
  refine aY (dA 1 rfl rfl rfl tyA42.s) ⟨rfl,rfl,trivial⟩ ?_
  refine aY (dA 0 rfl rfl rfl tyA42.s) ⟨rfl,rfl,trivial⟩ ?_
  refine aC (aA (aX (aW ?_)))
  obtain rfl:=bX hF
  exact aI (.inl rfl) Tryz.results179 (bM 1 2 rfl rfl rfl rfl (.agg tyA42) (bM 0 2 rfl rfl rfl rfl (.agg tyA42) .nil)) rfl rfl
 have hF:=aU h5 hF
 refine aV (aA (aD (aE (aB (a8 (off:=0) (k:=1) rfl tyF42_1) ⟨rfl,trivial⟩ ?_))))
 refine aB (bD 3 1 rfl rfl rfl rfl (.one tyO22)) ⟨rfl,trivial⟩ ?_
 refine aB (a8 (off:=0) (k:=1) rfl tyF42_1) ⟨rfl,trivial⟩ ?_
 refine aB (bD 2 1 rfl rfl rfl rfl (.one tyO22)) ⟨rfl,trivial⟩ ?_
 obtain⟨v6,h7,hF⟩:=aO hF
 refine aB (aG rfl (uR h7) rfl) ⟨rfl,rfl,trivial⟩ ?_
 refine aF ?_
 refine aB (lV rfl) ⟨rfl,trivial⟩ ?_
 refine aB (lR rfl) ⟨rfl,trivial⟩ ?_
 refine bB ?_
 refine bB ?_
 refine aC (aA (aD (aE (aB (a8 (off:=0) (k:=0) rfl tyF42_0) ⟨rfl,trivial⟩ ?_))))
 refine aB (bD 3 1 rfl rfl rfl rfl (.one tyO4)) ⟨rfl,trivial⟩ ?_
 refine aB (a8 (off:=0) (k:=0) rfl tyF42_0) ⟨rfl,trivial⟩ ?_
 refine aB (bD 2 1 rfl rfl rfl rfl (.one tyO4)) ⟨rfl,trivial⟩ ?_
 refine aB (vQ rfl Tryz.underlying4) ⟨rfl,rfl,trivial⟩ ?_
 refine aF ?_
 obtain⟨v8,h9,hF⟩:=aO hF
 refine aB (aG rfl (cA h9) rfl) ⟨rfl,rfl,trivial⟩ ?_
 refine bJ rfl tyZ42 (fun b10=>?_)
 refine aY (dA 0 rfl rfl rfl tyA42.s) ⟨rfl,rfl,trivial⟩ ?_
 refine aC (aA (aD (aE (aF ?_))))
 obtain⟨v11,h12,hF⟩:=aO hF
 refine aB (aG rfl (cA h12) rfl) ⟨dH _,rfl,trivial⟩ ?_
 refine bJ rfl tyZ42 (fun b13=>?_)
 refine aY (dA 0 rfl rfl rfl tyA42.s) ⟨rfl,rfl,trivial⟩ ?_
 refine aC (aA (aD (aD (aE (aB (a8 (off:=0) (k:=0) rfl tyF42_0) ⟨rfl,trivial⟩ ?_)))))
 refine aB (bD 5 1 rfl rfl rfl rfl (.one tyO4)) ⟨rfl,trivial⟩ ?_
 refine aF ?_
 refine cU (fun h14=>?_) (fun h14=>?_)
 ·have hF:=aT h14 hF
  refine aZ (a8 (off:=0) (k:=1) rfl tyF42_1) ⟨rfl,trivial⟩ ?_
  refine aZ (bD 0 1 rfl rfl rfl rfl (.one tyO22)) ⟨rfl,trivial⟩ ?_
  refine aZ (bZ rfl tyS22) ⟨rfl,trivial⟩ ?_
  refine aZ (p8 rfl) ⟨rfl,bC _ _,trivial⟩ ?_
  refine aB (bK rfl) ⟨rfl,rfl,trivial⟩ ?_
  refine aC (aA (bO rfl (fun h15=>?_) (fun h15=>?_)))
  ·have hF:=aT h15 hF
   refine aD ?_
   obtain⟨v18,h19,hF⟩:=aO hF
   obtain⟨v20,h21,hF⟩:=aO hF
   refine bP [0,0,2,0,8,30,0,126,255,511] 9 1 [.v (.va (aP.e v8)),.v (.vc (pP (some b1) 0)),.v (.vc (pB a0.neg)),.v (.vc (pP (some b2) 0)),.v (.vc (pB a1.neg)),.v (.vc (pB (a0.neg != a1.neg))),.v (.vc (pS cI [1])),.v (.va (aP.e v18)),.v (.va (aP.e v20))] aR ⟨d0 (bD 1 2 rfl rfl rfl rfl (.agg tyA42)) ⟨rfl,trivial⟩,d0 (a8 (off:=0) (k:=0) rfl tyF42_0) ⟨rfl,trivial⟩,d0 (bD 5 1 rfl rfl rfl rfl (.one tyO4)) ⟨rfl,trivial⟩,d0 (a8 (off:=0) (k:=0) rfl tyF42_0) ⟨rfl,trivial⟩,d0 (bD 4 1 rfl rfl rfl rfl (.one tyO4)) ⟨rfl,trivial⟩,⟨rfl,.run (L:=[0]) ⟨fun G16 A=>vQ rfl Tryz.underlying4,trivial⟩ (fun G16=>⟨rfl,rfl,trivial⟩)⟩,d0 (pX (C:=cI) (xs:=[.const (.int .i64 (1))]) (ps:=[.vc (pI .i64 1)]) (zs:=[1]) rfl tyS22 rfl ⟨⟨trivial,rfl⟩,trivial⟩ rfl) ⟨bC _ _,trivial⟩,d0 (aG rfl (cA h19) rfl) ⟨rfl,rfl,trivial⟩,d0 (aG rfl (sP h21) rfl) ⟨rfl,rfl,trivial⟩,trivial⟩ (fun bs17 G16=>?_)
   refine aY (dA 1 rfl rfl rfl tyA42.s) ⟨rfl,rfl,trivial⟩ ?_
   refine aC (aA (aE (aB (a8 (off:=0) (k:=1) rfl tyF42_1) ⟨rfl,trivial⟩ ?_)))
   refine aB (bD 4 1 rfl rfl rfl rfl (.one tyO22)) ⟨rfl,trivial⟩ ?_
   refine aB (a8 (off:=0) (k:=1) rfl tyF42_1) ⟨rfl,trivial⟩ ?_
   refine aB (bD 0 1 rfl rfl rfl rfl (.one tyO22)) ⟨rfl,trivial⟩ ?_
   obtain⟨v22,h23,hF⟩:=aO hF
   refine aB (aG rfl (k5 h23) rfl) ⟨rfl,rfl,trivial⟩ ?_
   obtain⟨v24,h25,hF⟩:=aO hF
   refine aB (aG rfl (cA h25) rfl) ⟨dH _,rfl,trivial⟩ ?_
   refine aY (dA 0 rfl rfl rfl tyA42.s) ⟨rfl,rfl,trivial⟩ ?_
   refine aC (aA (aD (pG (HsM [(0,fun G26=>[⟨some b13,1,42,2,1,(aP.e v24)⟩,⟨some b10,1,42,2,1,(aP.e v20)⟩,⟨some b4,1,42,2,1,([pB false]++[pS cI ([]:List Int)])⟩,⟨some b3,1,42,2,1,([pB false]++[pS cI ([]:List Int)])⟩,⟨some b2,1,42,2,1,(aP.e a1)⟩,⟨some b1,1,42,2,1,(aP.e a0)⟩]),(1,fun G26=>[⟨some b13,1,42,2,1,(aP.e v24)⟩,⟨some b10,1,42,2,1,(aP.e v20)⟩,⟨some b4,1,42,2,1,([pB false]++[pS cI ([]:List Int)])⟩,⟨some b3,1,42,2,1,(aP.e v20)⟩,⟨some b2,1,42,2,1,(aP.e a1)⟩,⟨some b1,1,42,2,1,(aP.e a0)⟩])]) [2] [0,0,1,7] 3 1 [.v (.va (aP.e v20)),.v (.va (aP.e v24)),.g (fun _ _=>.any)] aR ⟨d1 0 (bD 1 2 rfl rfl rfl rfl (.agg tyA42)) ⟨rfl,trivial⟩,⟨rfl,.run (L:=[0,1]) ⟨fun G26 A=>bD 0 2 rfl rfl rfl rfl (.agg tyA42),fun G26 A=>bD 0 2 rfl rfl rfl rfl (.agg tyA42),trivial⟩ (fun G26=>⟨rfl,trivial⟩)⟩,⟨rfl,.hvy [0] ⟨fun G26 A=>xE (dA 3 rfl rfl rfl tyA42.s),trivial⟩ (fun G26=>⟨rfl,rfl,trivial⟩)⟩,trivial⟩ (fun bs27 G26=>?_))))
   refine aY (dA 2 rfl rfl rfl tyA42.s) ⟨rfl,rfl,trivial⟩ ?_
   refine aC (aA (aX (aW ?_)))
   obtain rfl:=bX hF
   exact aI (.inl rfl) Tryz.results179 (bM 3 2 rfl rfl rfl rfl (.agg tyA42) (bM 2 2 rfl rfl rfl rfl (.agg tyA42) .nil)) rfl rfl
  have hF:=aU h15 hF
  refine aV (aA (aD (pG (HsM [(0,fun G28=>[⟨some b13,1,42,2,1,(aP.e v11)⟩,⟨some b10,1,42,2,1,(aP.e v8)⟩,⟨some b4,1,42,2,1,([pB false]++[pS cI ([]:List Int)])⟩,⟨some b3,1,42,2,1,([pB false]++[pS cI ([]:List Int)])⟩,⟨some b2,1,42,2,1,(aP.e a1)⟩,⟨some b1,1,42,2,1,(aP.e a0)⟩]),(1,fun G28=>[⟨some b13,1,42,2,1,(aP.e v11)⟩,⟨some b10,1,42,2,1,(aP.e v8)⟩,⟨some b4,1,42,2,1,([pB false]++[pS cI ([]:List Int)])⟩,⟨some b3,1,42,2,1,(aP.e v8)⟩,⟨some b2,1,42,2,1,(aP.e a1)⟩,⟨some b1,1,42,2,1,(aP.e a0)⟩])]) [2] [0,0,1,7] 3 1 [.v (.va (aP.e v8)),.v (.va (aP.e v11)),.g (fun _ _=>.any)] aR ⟨d1 0 (bD 1 2 rfl rfl rfl rfl (.agg tyA42)) ⟨rfl,trivial⟩,⟨rfl,.run (L:=[0,1]) ⟨fun G28 A=>bD 0 2 rfl rfl rfl rfl (.agg tyA42),fun G28 A=>bD 0 2 rfl rfl rfl rfl (.agg tyA42),trivial⟩ (fun G28=>⟨rfl,trivial⟩)⟩,⟨rfl,.hvy [0] ⟨fun G28 A=>xE (dA 3 rfl rfl rfl tyA42.s),trivial⟩ (fun G28=>⟨rfl,rfl,trivial⟩)⟩,trivial⟩ (fun bs29 G28=>?_))))
  refine aY (dA 2 rfl rfl rfl tyA42.s) ⟨rfl,rfl,trivial⟩ ?_
  refine aC (aA (aX (aW ?_)))
  obtain rfl:=bX hF
  exact aI (.inl rfl) Tryz.results179 (bM 3 2 rfl rfl rfl rfl (.agg tyA42) (bM 2 2 rfl rfl rfl rfl (.agg tyA42) .nil)) rfl rfl
 have hF:=aU h14 hF
 refine aJ ?_
 refine aJ ?_
 refine aJ ?_
 refine aJ ?_
 refine aB (bL rfl) ⟨rfl,dH _,trivial⟩ ?_
 refine aC (aA (qG rfl ?_))
 refine aV (aA (aD (pG (HsM [(0,fun G30=>[⟨some b13,1,42,2,1,(aP.e v11)⟩,⟨some b10,1,42,2,1,(aP.e v8)⟩,⟨some b4,1,42,2,1,([pB false]++[pS cI ([]:List Int)])⟩,⟨some b3,1,42,2,1,([pB false]++[pS cI ([]:List Int)])⟩,⟨some b2,1,42,2,1,(aP.e a1)⟩,⟨some b1,1,42,2,1,(aP.e a0)⟩]),(1,fun G30=>[⟨some b13,1,42,2,1,(aP.e v11)⟩,⟨some b10,1,42,2,1,(aP.e v8)⟩,⟨some b4,1,42,2,1,([pB false]++[pS cI ([]:List Int)])⟩,⟨some b3,1,42,2,1,(aP.e v8)⟩,⟨some b2,1,42,2,1,(aP.e a1)⟩,⟨some b1,1,42,2,1,(aP.e a0)⟩])]) [2] [0,0,1,7] 3 1 [.v (.va (aP.e v8)),.v (.va (aP.e v11)),.g (fun _ _=>.any)] aR ⟨d1 0 (bD 1 2 rfl rfl rfl rfl (.agg tyA42)) ⟨rfl,trivial⟩,⟨rfl,.run (L:=[0,1]) ⟨fun G30 A=>bD 0 2 rfl rfl rfl rfl (.agg tyA42),fun G30 A=>bD 0 2 rfl rfl rfl rfl (.agg tyA42),trivial⟩ (fun G30=>⟨rfl,trivial⟩)⟩,⟨rfl,.hvy [0] ⟨fun G30 A=>xE (dA 3 rfl rfl rfl tyA42.s),trivial⟩ (fun G30=>⟨rfl,rfl,trivial⟩)⟩,trivial⟩ (fun bs31 G30=>?_))))
 refine aY (dA 2 rfl rfl rfl tyA42.s) ⟨rfl,rfl,trivial⟩ ?_
 refine aC (aA (aX (aW ?_)))
 obtain rfl:=bX hF
 exact aI (.inl rfl) Tryz.results179 (bM 3 2 rfl rfl rfl rfl (.agg tyA42) (bM 2 2 rfl rfl rfl rfl (.agg tyA42) .nil)) rfl rfl
def o9 (K:Nat) (x14:aP):Option aP:=
 some x14
def mH (K:Nat) (x28:Int):Option (LR aP aP):=
 (fO K x28).bind fun v31=>some (.ret v31)
def fN (K:Nat):Nat→Int→Int→Option Int
 |0,_,_=>none
 |k+1,x26,x27=>bif(decide (0<x27)) then((r6 x26 x27).bind fun v34=>fN K k x27 v34) else(some x26)
def eO (K:Nat):Nat→aP→aP→Option (LR aP aP)
 |0,_,_=>none
 |k+1,x12,x13=>bif(decide (0<(x12.d.length:Int))) then(bif(decide ((x13.d.length:Int)≤2)) then(bif(decide ((x12.d.length:Int)≤2)) then((fI x13.d).bind fun v20=>(fI x12.d).bind fun v22=>(fN K K v20 v22).bind fun x28=>mH K x28) else((iG K x13 x12).bind fun v36=>eO K k v36.2 x12)) else((iG K x13 x12).bind fun v40=>eO K k v40.2 x12)) else(some (.go x13))
def nE (K:Nat) (a0:aP) (a1:aP):Option aP:=
 (bT K false a0.d).bind fun v4=>(bT K false a1.d).bind fun v7=>(eO K K v7 v4).bind fun o=>match o with| .ret r=>some r| .go x14=>o9 K x14
theorem w8 {K:Nat} {a0:aP} {a1:aP} {r:aP} (hF:nE K a0 a1=some r):Ct Tryz.prog 170 [.va (aP.e a0),.va (aP.e a1)] (.va (aP.e r)):=by
 unfold nE at hF
 refine a9 Tryz.func170 rfl (by kernel_rfl) Tryz.ntmps170 rfl (fun w0 M0=>?_)
 refine aD (aE (cV rfl rfl trivial (fun b1=>?_)))
 refine cV rfl rfl trivial (fun b2=>?_)
 refine bJ rfl tyZ42 (fun b3=>?_)
 refine aC (aA (aD (aE (aB (a8 (off:=0) (k:=1) rfl tyF42_1) ⟨rfl,trivial⟩ ?_))))
 refine aB (bD 2 1 rfl rfl rfl rfl (.one tyO22)) ⟨rfl,trivial⟩ ?_
 obtain⟨v4,h5,hF⟩:=aO hF
 refine aB (aG rfl (cA h5) rfl) ⟨dH _,rfl,trivial⟩ ?_
 refine bJ rfl tyZ42 (fun b6=>?_)
 refine aY (dA 0 rfl rfl rfl tyA42.s) ⟨rfl,rfl,trivial⟩ ?_
 refine aC (aA (aD (aE (aB (a8 (off:=0) (k:=1) rfl tyF42_1) ⟨rfl,trivial⟩ ?_))))
 refine aB (bD 2 1 rfl rfl rfl rfl (.one tyO22)) ⟨rfl,trivial⟩ ?_
 obtain⟨v7,h8,hF⟩:=aO hF
 refine aB (aG rfl (cA h8) rfl) ⟨dH _,rfl,trivial⟩ ?_
 refine bJ rfl tyZ42 (fun b9=>?_)
 refine aY (dA 0 rfl rfl rfl tyA42.s) ⟨rfl,rfl,trivial⟩ ?_
 refine aC (aA (aD (bN (cL (fun H E=>∃(x14:aP),o9 K x14=some r∧H=[⟨some b6,1,42,2,1,(aP.e x14)⟩,⟨some b3,1,42,2,1,([pB false]++[pS cI ([]:List Int)])⟩]∧E=[(4,.vc (pP (some b3) 0)),(5,.vc (pP (some b6) 0))]) ?_ (fun Jj16=>?_)))))
 ·rintro _ _ ⟨x14,hF,rfl,rfl⟩
  unfold o9 at hF
  refine aA (aD (aE (aB (bD 0 2 rfl rfl rfl rfl (.agg tyA42)) ⟨rfl,trivial⟩ ?_)))
  refine aY (dA 1 rfl rfl rfl tyA42.s) ⟨rfl,rfl,trivial⟩ ?_
  refine aC (aA (aX (aW ?_)))
  obtain rfl:=bX hF
  exact aI (.inl rfl) Tryz.results170 (bM 1 2 rfl rfl rfl rfl (.agg tyA42) .nil) rfl rfl
 obtain⟨ol15,hL,hRl15⟩:=aO hF
 refine gY (fun k a w=>∃(x12:aP),∃(x13:aP),eO K k x12 x13=some ol15∧hs _ [⟨some b9,1,42,2,1,(aP.e x12)⟩,⟨some b6,1,42,2,1,(aP.e x13)⟩,⟨some b3,1,42,2,1,([pB false]++[pS cI ([]:List Int)])⟩] [(4,.vc (pP (some b3) 0)),(5,.vc (pP (some b6) 0)),(6,.vc (pP (some b9) 0))] a w) K (fun a w ⟨_,_,hF,_⟩=>by cases hF) (fun k a w ⟨x12,x13,hF,hh⟩=>gX ?_ hh) (fun a w hh=>⟨v7,v4,hL,bA [0,1,2] rfl (by decide) (by exact⟨rfl,rfl,rfl,trivial⟩) hh⟩)
 rw [eO.eq_2] at hF
 refine aD (aD (aE (aB (a8 (off:=0) (k:=1) rfl tyF42_1) ⟨rfl,trivial⟩ ?_)))
 refine aB (bD 0 1 rfl rfl rfl rfl (.one tyO22)) ⟨rfl,trivial⟩ ?_
 refine aB (bZ rfl tyS22) ⟨rfl,trivial⟩ ?_
 refine aB (p8 rfl) ⟨rfl,bC _ _,trivial⟩ ?_
 refine aC (aA (bO rfl (fun h17=>?_) (fun h17=>?_)))
 ·have hF:=aT h17 hF
  refine aV (aA (bN (aD (aD (aE (aB (a8 (off:=0) (k:=1) rfl tyF42_1) ⟨rfl,trivial⟩ ?_))))))
  refine aB (bD 1 1 rfl rfl rfl rfl (.one tyO22)) ⟨rfl,trivial⟩ ?_
  refine aB (bZ rfl tyS22) ⟨rfl,trivial⟩ ?_
  refine aB (w9 rfl) ⟨rfl,bC _ _,trivial⟩ ?_
  refine aF ?_
  refine cU (fun h18=>?_) (fun h18=>?_)
  ·have hF:=aT h18 hF
   refine aZ (a8 (off:=0) (k:=1) rfl tyF42_1) ⟨rfl,trivial⟩ ?_
   refine aZ (bD 0 1 rfl rfl rfl rfl (.one tyO22)) ⟨rfl,trivial⟩ ?_
   refine aZ (bZ rfl tyS22) ⟨rfl,trivial⟩ ?_
   refine aZ (w9 rfl) ⟨rfl,bC _ _,trivial⟩ ?_
   refine aB (bK rfl) ⟨rfl,rfl,trivial⟩ ?_
   refine aC (aA (bO rfl (fun h19=>?_) (fun h19=>?_)))
   ·have hF:=aT h19 hF
    refine aD (aE (aB (a8 (off:=0) (k:=1) rfl tyF42_1) ⟨rfl,trivial⟩ ?_))
    refine aB (bD 1 1 rfl rfl rfl rfl (.one tyO22)) ⟨rfl,trivial⟩ ?_
    obtain⟨v20,h21,hF⟩:=aO hF
    refine aB (aG rfl (jV h21) rfl) ⟨rfl,trivial⟩ ?_
    refine bB ?_
    refine aC (aA (aD (aE (aB (a8 (off:=0) (k:=1) rfl tyF42_1) ⟨rfl,trivial⟩ ?_))))
    refine aB (bD 0 1 rfl rfl rfl rfl (.one tyO22)) ⟨rfl,trivial⟩ ?_
    obtain⟨v22,h23,hF⟩:=aO hF
    refine aB (aG rfl (jV h23) rfl) ⟨rfl,trivial⟩ ?_
    refine bB ?_
    refine aC (aA (aD (bN (cL (fun H E=>∃(x28:Int),mH K x28=some ol15∧H=[⟨some b3,1,42,2,1,([pB false]++[pS cI ([]:List Int)])⟩]∧E=[(4,.vc (pP (some b3) 0)),(7,.vc (pI .i64 x28))]) ?_ (fun Jj30=>?_)))))
    ·rintro _ _ ⟨x28,hF,rfl,rfl⟩
     unfold mH at hF
     refine aA (aD (aE (aF ?_)))
     obtain⟨v31,h32,hF⟩:=aO hF
     refine aB (aG rfl (jG h32) rfl) ⟨rfl,trivial⟩ ?_
     refine aY (dA 0 rfl rfl rfl tyA42.s) ⟨rfl,rfl,trivial⟩ ?_
     refine aC (aA (aX (aW ?_)))
     obtain rfl:=bX hF
     obtain rfl:=bX hRl15
     exact aI (.inl rfl) Tryz.results170 (bM 0 2 rfl rfl rfl rfl (.agg tyA42) .nil) rfl rfl
    obtain⟨x28',hL,hRl29⟩:=aO hF
    refine gY (fun k a w=>∃(x26:Int),∃(x27:Int),fN K k x26 x27=some x28'∧hs _ [⟨some b3,1,42,2,1,([pB false]++[pS cI ([]:List Int)])⟩] [(4,.vc (pP (some b3) 0)),(7,.vc (pI .i64 x26)),(8,.vc (pI .i64 x27))] a w) K (fun a w ⟨_,_,hF,_⟩=>by cases hF) (fun k a w ⟨x26,x27,hF,hh⟩=>gX ?_ hh) (fun a w hh=>⟨v20,v22,hL,bA [2] rfl (by decide) (by exact⟨rfl,rfl,rfl,trivial⟩) hh⟩)
    rw [fN.eq_2] at hF
    refine aD (aD (aE (aF ?_)))
    refine aB (p8 rfl) ⟨rfl,bC _ _,trivial⟩ ?_
    refine aC (aA (bO rfl (fun h33=>?_) (fun h33=>?_)))
    ·have hF:=aT h33 hF
     refine aV (aA (bN (aD (aE (aF ?_)))))
     refine aF ?_
     obtain⟨v34,h35,hF⟩:=aO hF
     refine aB (mZ rfl h35) ⟨rfl,rfl,trivial⟩ ?_
     refine bB ?_
     refine aC (aA (aD (aE (aF ?_))))
     refine bB ?_
     refine aC (aA (aE (aF ?_)))
     refine bB ?_
     refine aC (bF ?_)
     exact bG (fun a w hh=>⟨x27,v34,hF,bA [0] rfl (by decide) (by exact⟨rfl,rfl,rfl,trivial⟩) hh⟩)
    have hF:=aU h33 hF
    refine dE ?_
    obtain rfl:=bX hF
    exact bS Jj30 ⟨x26,hRl29,rfl,rfl⟩ [0] rfl ⟨rfl,rfl,trivial⟩
   have hF:=aU h19 hF
   refine aV (aA (aD (aE (aB (bD 1 2 rfl rfl rfl rfl (.agg tyA42)) ⟨rfl,trivial⟩ ?_))))
   refine aB (bD 0 2 rfl rfl rfl rfl (.agg tyA42)) ⟨rfl,trivial⟩ ?_
   obtain⟨v36,h37,hF⟩:=aO hF
   refine aB (aG rfl (oR h37) rfl) ⟨rfl,rfl,trivial⟩ ?_
   refine aF ?_
   refine aB (lV rfl) ⟨rfl,trivial⟩ ?_
   refine aB (lR rfl) ⟨rfl,trivial⟩ ?_
   refine bJ rfl tyZ42 (fun b38=>?_)
   refine bJ rfl tyZ42 (fun b39=>?_)
   refine aY (dA 1 rfl rfl rfl tyA42.s) ⟨rfl,rfl,trivial⟩ ?_
   refine aY (dA 0 rfl rfl rfl tyA42.s) ⟨rfl,rfl,trivial⟩ ?_
   refine aC (aA (aD (aE (aB (bD 2 2 rfl rfl rfl rfl (.agg tyA42)) ⟨rfl,trivial⟩ ?_))))
   refine aY (dA 3 rfl rfl rfl tyA42.s) ⟨rfl,rfl,trivial⟩ ?_
   refine aC (aA (aE (aB (bD 0 2 rfl rfl rfl rfl (.agg tyA42)) ⟨rfl,trivial⟩ ?_)))
   refine aY (dA 2 rfl rfl rfl tyA42.s) ⟨rfl,rfl,trivial⟩ ?_
   refine aC (bF ?_)
   exact bG (fun a w hh=>⟨v36.2,x12,hF,bA [2,3,4] rfl (by decide) (by exact⟨rfl,rfl,rfl,trivial⟩) hh⟩)
  have hF:=aU h18 hF
  refine aJ ?_
  refine aJ ?_
  refine aJ ?_
  refine aJ ?_
  refine aB (bL rfl) ⟨rfl,dH _,trivial⟩ ?_
  refine aC (aA (qG rfl ?_))
  refine aV (aA (aD (aE (aB (bD 1 2 rfl rfl rfl rfl (.agg tyA42)) ⟨rfl,trivial⟩ ?_))))
  refine aB (bD 0 2 rfl rfl rfl rfl (.agg tyA42)) ⟨rfl,trivial⟩ ?_
  obtain⟨v40,h41,hF⟩:=aO hF
  refine aB (aG rfl (oR h41) rfl) ⟨rfl,rfl,trivial⟩ ?_
  refine aF ?_
  refine aB (lV rfl) ⟨rfl,trivial⟩ ?_
  refine aB (lR rfl) ⟨rfl,trivial⟩ ?_
  refine bJ rfl tyZ42 (fun b42=>?_)
  refine bJ rfl tyZ42 (fun b43=>?_)
  refine aY (dA 1 rfl rfl rfl tyA42.s) ⟨rfl,rfl,trivial⟩ ?_
  refine aY (dA 0 rfl rfl rfl tyA42.s) ⟨rfl,rfl,trivial⟩ ?_
  refine aC (aA (aD (aE (aB (bD 2 2 rfl rfl rfl rfl (.agg tyA42)) ⟨rfl,trivial⟩ ?_))))
  refine aY (dA 3 rfl rfl rfl tyA42.s) ⟨rfl,rfl,trivial⟩ ?_
  refine aC (aA (aE (aB (bD 0 2 rfl rfl rfl rfl (.agg tyA42)) ⟨rfl,trivial⟩ ?_)))
  refine aY (dA 2 rfl rfl rfl tyA42.s) ⟨rfl,rfl,trivial⟩ ?_
  refine aC (bF ?_)
  exact bG (fun a w hh=>⟨v40.2,x12,hF,bA [2,3,4] rfl (by decide) (by exact⟨rfl,rfl,rfl,trivial⟩) hh⟩)
 have hF:=aU h17 hF
 refine dE ?_
 obtain rfl:=bX hF
 exact bS Jj16 ⟨x13,hRl15,rfl,rfl⟩ [1,2] rfl ⟨rfl,rfl,trivial⟩
def k8 (K:Nat) (a0:aP):Option aP:=
 (bT K (!a0.neg) a0.d).bind fun v3=>some v3
theorem sN {K:Nat} {a0:aP} {r:aP} (hF:k8 K a0=some r):Ct Tryz.prog 180 [.va (aP.e a0)] (.va (aP.e r)):=by
 unfold k8 at hF
 refine a9 Tryz.func180 rfl (by kernel_rfl) Tryz.ntmps180 rfl (fun w0 M0=>?_)
 refine aD (aE (cV rfl rfl trivial (fun b1=>?_)))
 refine bJ rfl tyZ42 (fun b2=>?_)
 refine aC (aA (aD (aE (aB (a8 (off:=0) (k:=0) rfl tyF42_0) ⟨rfl,trivial⟩ ?_))))
 refine aB (bD 1 1 rfl rfl rfl rfl (.one tyO4)) ⟨rfl,trivial⟩ ?_
 refine aB (lK rfl) ⟨rfl,trivial⟩ ?_
 refine aB (a8 (off:=0) (k:=1) rfl tyF42_1) ⟨rfl,trivial⟩ ?_
 refine aB (bD 1 1 rfl rfl rfl rfl (.one tyO22)) ⟨rfl,trivial⟩ ?_
 obtain⟨v3,h4,hF⟩:=aO hF
 refine aB (aG rfl (cA h4) rfl) ⟨rfl,rfl,trivial⟩ ?_
 refine aY (dA 0 rfl rfl rfl tyA42.s) ⟨rfl,rfl,trivial⟩ ?_
 refine aC (aA (aX (aW ?_)))
 obtain rfl:=bX hF
 exact aI (.inl rfl) Tryz.results180 (bM 0 2 rfl rfl rfl rfl (.agg tyA42) .nil) rfl rfl
def jH (K:Nat) (a0:aP) (a1:aP) (x11:aP) (x12:aP):Option (aP×aP):=
 bif(a0.neg != a1.neg) then(some ((⟨(decide (0<(x12.d.length:Int))),x12.d⟩:aP),x11)) else(some ((⟨false,x12.d⟩:aP),x11))
def oW (K:Nat) (a0:aP) (a1:aP):Option (aP×aP):=
 bif((a1.d.length:Int)==0) then(some ((⟨false,([]:List Int)⟩:aP),(⟨false,([]:List Int)⟩:aP))) else((kN K a0.d a1.d).bind fun v6=>bif a0.neg then(bif(decide (0<(v6.2.d.length:Int))) then((mC K v6.1.d [1]).bind fun v21=>(eF K false v21).bind fun v23=>(jY K a1.d v6.2.d).bind fun v25=>(eF K false v25).bind fun v27=>jH K a0 a1 v27 v23) else(jH K a0 a1 v6.2 v6.1)) else(jH K a0 a1 v6.2 v6.1))
theorem vS {K:Nat} {a0:aP} {a1:aP} {r:aP×aP} (hF:oW K a0 a1=some r):Ct Tryz.prog 184 [.va (aP.e a0),.va (aP.e a1)] (.t2 (.va (aP.e r.1)) (.va (aP.e r.2))):=by
 unfold oW at hF
 refine a9 Tryz.func184 rfl (by kernel_rfl) Tryz.ntmps184 rfl (fun w0 M0=>?_)
 refine aD (aE (cV rfl rfl trivial (fun b1=>?_)))
 refine cV rfl rfl trivial (fun b2=>?_)
 refine bJ rfl tyZ42 (fun b3=>?_)
 refine bJ rfl tyZ42 (fun b4=>?_)
 refine aC (aA (aD (aD (aE (aB (a8 (off:=0) (k:=1) rfl tyF42_1) ⟨rfl,trivial⟩ ?_)))))
 refine aB (bD 2 1 rfl rfl rfl rfl (.one tyO22)) ⟨rfl,trivial⟩ ?_
 refine aB (bZ rfl tyS22) ⟨rfl,trivial⟩ ?_
 refine aB (iJ rfl) ⟨rfl,bC _ _,trivial⟩ ?_
 refine aC (aA (bO rfl (fun h5=>?_) (fun h5=>?_)))
 ·have hF:=aT h5 hF
  refine aD (aE (aB (fA (is:=[]) (xs:=[]) (ps:=[]) rfl tyB42 rfl rfl trivial rfl) trivial ?_))
  refine aB (fA (is:=[]) (xs:=[]) (ps:=[]) rfl tyB42 rfl rfl trivial rfl) trivial ?_
  refine aY (dA 1 rfl rfl rfl tyA42.s) ⟨rfl,rfl,trivial⟩ ?_
  refine aY (dA 0 rfl rfl rfl tyA42.s) ⟨rfl,rfl,trivial⟩ ?_
  refine aC (aA (aX (aW ?_)))
  obtain rfl:=bX hF
  exact aI (.inl rfl) Tryz.results184 (bM 1 2 rfl rfl rfl rfl (.agg tyA42) (bM 0 2 rfl rfl rfl rfl (.agg tyA42) .nil)) rfl rfl
 have hF:=aU h5 hF
 refine aV (aA (aD (aE (aB (a8 (off:=0) (k:=1) rfl tyF42_1) ⟨rfl,trivial⟩ ?_))))
 refine aB (bD 3 1 rfl rfl rfl rfl (.one tyO22)) ⟨rfl,trivial⟩ ?_
 refine aB (a8 (off:=0) (k:=1) rfl tyF42_1) ⟨rfl,trivial⟩ ?_
 refine aB (bD 2 1 rfl rfl rfl rfl (.one tyO22)) ⟨rfl,trivial⟩ ?_
 obtain⟨v6,h7,hF⟩:=aO hF
 refine aB (aG rfl (rI h7) rfl) ⟨rfl,rfl,trivial⟩ ?_
 refine aF ?_
 refine aB (lV rfl) ⟨rfl,trivial⟩ ?_
 refine aB (lR rfl) ⟨rfl,trivial⟩ ?_
 refine bJ rfl tyZ42 (fun b8=>?_)
 refine bJ rfl tyZ42 (fun b9=>?_)
 refine aY (dA 1 rfl rfl rfl tyA42.s) ⟨rfl,rfl,trivial⟩ ?_
 refine aY (dA 0 rfl rfl rfl tyA42.s) ⟨rfl,rfl,trivial⟩ ?_
 refine aC (aA (aD (rB (fun H E=>∃(x11:aP),∃(x12:aP),jH K a0 a1 x11 x12=some r∧H=[⟨some b9,1,42,2,1,(aP.e x11)⟩,⟨some b8,1,42,2,1,(aP.e x12)⟩,⟨some b4,1,42,2,1,([pB false]++[pS cI ([]:List Int)])⟩,⟨some b3,1,42,2,1,([pB false]++[pS cI ([]:List Int)])⟩,⟨some b2,1,42,2,1,(aP.e a1)⟩,⟨some b1,1,42,2,1,(aP.e a0)⟩]∧E=[(2,.vc (pP (some b1) 0)),(3,.vc (pP (some b2) 0)),(4,.vc (pP (some b3) 0)),(5,.vc (pP (some b4) 0)),(6,.vc (pP (some b8) 0)),(7,.vc (pP (some b9) 0))]) ?_ (fun Jj13=>?_))))
 ·rintro _ _ ⟨x11,x12,hF,rfl,rfl⟩
  unfold jH at hF
  refine aD (aE (aB (a8 (off:=0) (k:=0) rfl tyF42_0) ⟨rfl,trivial⟩ ?_))
  refine aB (bD 5 1 rfl rfl rfl rfl (.one tyO4)) ⟨rfl,trivial⟩ ?_
  refine aB (a8 (off:=0) (k:=0) rfl tyF42_0) ⟨rfl,trivial⟩ ?_
  refine aB (bD 4 1 rfl rfl rfl rfl (.one tyO4)) ⟨rfl,trivial⟩ ?_
  refine aB (vQ rfl Tryz.underlying4) ⟨rfl,rfl,trivial⟩ ?_
  refine aF ?_
  refine cU (fun h14=>?_) (fun h14=>?_)
  ·have hF:=aT h14 hF
   refine aZ (a8 (off:=0) (k:=1) rfl tyF42_1) ⟨rfl,trivial⟩ ?_
   refine aZ (bD 1 1 rfl rfl rfl rfl (.one tyO22)) ⟨rfl,trivial⟩ ?_
   refine aZ (bZ rfl tyS22) ⟨rfl,trivial⟩ ?_
   refine aZ (p8 rfl) ⟨rfl,bC _ _,trivial⟩ ?_
   refine aB (bK rfl) ⟨rfl,rfl,trivial⟩ ?_
   refine aB (a8 (off:=0) (k:=0) rfl tyF42_0) ⟨rfl,trivial⟩ ?_
   refine aY (dA 1 rfl rfl rfl tyO4.s) ⟨rfl,rfl,trivial⟩ ?_
   refine aC (aA (aD (pG (HsM [(0,fun G15=>[⟨some b9,1,42,2,1,(aP.e x11)⟩,⟨some b8,1,42,2,1,([pB (decide (0<(x12.d.length:Int)))]++[pS cI x12.d])⟩,⟨some b4,1,42,2,1,([pB false]++[pS cI ([]:List Int)])⟩,⟨some b3,1,42,2,1,([pB false]++[pS cI ([]:List Int)])⟩,⟨some b2,1,42,2,1,(aP.e a1)⟩,⟨some b1,1,42,2,1,(aP.e a0)⟩]),(1,fun G15=>[⟨some b9,1,42,2,1,(aP.e x11)⟩,⟨some b8,1,42,2,1,([pB (decide (0<(x12.d.length:Int)))]++[pS cI x12.d])⟩,⟨some b4,1,42,2,1,([pB false]++[pS cI ([]:List Int)])⟩,⟨some b3,1,42,2,1,([pB (decide (0<(x12.d.length:Int)))]++[pS cI x12.d])⟩,⟨some b2,1,42,2,1,(aP.e a1)⟩,⟨some b1,1,42,2,1,(aP.e a0)⟩])]) [2] [0,0,1,7] 3 1 [.v (.va ([pB (decide (0<(x12.d.length:Int)))]++[pS cI x12.d])),.v (.va (aP.e x11)),.g (fun _ _=>.any)] aR ⟨d1 0 (bD 1 2 rfl rfl rfl rfl (.agg tyA42)) ⟨rfl,trivial⟩,⟨rfl,.run (L:=[0,1]) ⟨fun G15 A=>bD 0 2 rfl rfl rfl rfl (.agg tyA42),fun G15 A=>bD 0 2 rfl rfl rfl rfl (.agg tyA42),trivial⟩ (fun G15=>⟨rfl,trivial⟩)⟩,⟨rfl,.hvy [0] ⟨fun G15 A=>xE (dA 3 rfl rfl rfl tyA42.s),trivial⟩ (fun G15=>⟨rfl,rfl,trivial⟩)⟩,trivial⟩ (fun bs16 G15=>?_))))
   refine aY (dA 2 rfl rfl rfl tyA42.s) ⟨rfl,rfl,trivial⟩ ?_
   refine aC (aA (aX (aW ?_)))
   obtain rfl:=bX hF
   exact aI (.inl rfl) Tryz.results184 (bM 3 2 rfl rfl rfl rfl (.agg tyA42) (bM 2 2 rfl rfl rfl rfl (.agg tyA42) .nil)) rfl rfl
  have hF:=aU h14 hF
  refine aJ ?_
  refine aJ ?_
  refine aJ ?_
  refine aJ ?_
  refine aB (bL rfl) ⟨rfl,dH _,trivial⟩ ?_
  refine aB (a8 (off:=0) (k:=0) rfl tyF42_0) ⟨rfl,trivial⟩ ?_
  refine aY (dA 1 rfl rfl rfl tyO4.s) ⟨rfl,rfl,trivial⟩ ?_
  refine aC (aA (aD (pG (HsM [(0,fun G17=>[⟨some b9,1,42,2,1,(aP.e x11)⟩,⟨some b8,1,42,2,1,([pB false]++[pS cI x12.d])⟩,⟨some b4,1,42,2,1,([pB false]++[pS cI ([]:List Int)])⟩,⟨some b3,1,42,2,1,([pB false]++[pS cI ([]:List Int)])⟩,⟨some b2,1,42,2,1,(aP.e a1)⟩,⟨some b1,1,42,2,1,(aP.e a0)⟩]),(1,fun G17=>[⟨some b9,1,42,2,1,(aP.e x11)⟩,⟨some b8,1,42,2,1,([pB false]++[pS cI x12.d])⟩,⟨some b4,1,42,2,1,([pB false]++[pS cI ([]:List Int)])⟩,⟨some b3,1,42,2,1,([pB false]++[pS cI x12.d])⟩,⟨some b2,1,42,2,1,(aP.e a1)⟩,⟨some b1,1,42,2,1,(aP.e a0)⟩])]) [2] [0,0,1,7] 3 1 [.v (.va ([pB false]++[pS cI x12.d])),.v (.va (aP.e x11)),.g (fun _ _=>.any)] aR ⟨d1 0 (bD 1 2 rfl rfl rfl rfl (.agg tyA42)) ⟨rfl,trivial⟩,⟨rfl,.run (L:=[0,1]) ⟨fun G17 A=>bD 0 2 rfl rfl rfl rfl (.agg tyA42),fun G17 A=>bD 0 2 rfl rfl rfl rfl (.agg tyA42),trivial⟩ (fun G17=>⟨rfl,trivial⟩)⟩,⟨rfl,.hvy [0] ⟨fun G17 A=>xE (dA 3 rfl rfl rfl tyA42.s),trivial⟩ (fun G17=>⟨rfl,rfl,trivial⟩)⟩,trivial⟩ (fun bs18 G17=>?_))))
  refine aY (dA 2 rfl rfl rfl tyA42.s) ⟨rfl,rfl,trivial⟩ ?_
  refine aC (aA (aX (aW ?_)))
  obtain rfl:=bX hF
  exact aI (.inl rfl) Tryz.results184 (bM 3 2 rfl rfl rfl rfl (.agg tyA42) (bM 2 2 rfl rfl rfl rfl (.agg tyA42) .nil)) rfl rfl
 refine aD (aE (aB (a8 (off:=0) (k:=0) rfl tyF42_0) ⟨rfl,trivial⟩ ?_))
 refine aB (bD 5 1 rfl rfl rfl rfl (.one tyO4)) ⟨rfl,trivial⟩ ?_
 refine aF ?_
 refine cU (fun h19=>?_) (fun h19=>?_)
 ·have hF:=aT h19 hF
  refine aZ (a8 (off:=0) (k:=1) rfl tyF42_1) ⟨rfl,trivial⟩ ?_
  refine aZ (bD 0 1 rfl rfl rfl rfl (.one tyO22)) ⟨rfl,trivial⟩ ?_
  refine aZ (bZ rfl tyS22) ⟨rfl,trivial⟩ ?_
  refine aZ (p8 rfl) ⟨rfl,bC _ _,trivial⟩ ?_
  refine aB (bK rfl) ⟨rfl,rfl,trivial⟩ ?_
  refine aC (aA (bO rfl (fun h20=>?_) (fun h20=>?_)))
  ·have hF:=aT h20 hF
   refine aD (aE (aB (a8 (off:=0) (k:=1) rfl tyF42_1) ⟨rfl,trivial⟩ ?_))
   refine aB (bD 1 1 rfl rfl rfl rfl (.one tyO22)) ⟨rfl,trivial⟩ ?_
   refine aB (pX (C:=cI) (xs:=[.const (.int .i64 (1))]) (ps:=[.vc (pI .i64 1)]) (zs:=[1]) rfl tyS22 rfl ⟨⟨trivial,rfl⟩,trivial⟩ rfl) ⟨bC _ _,trivial⟩ ?_
   obtain⟨v21,h22,hF⟩:=aO hF
   refine aB (aG rfl (uX h22) rfl) ⟨rfl,rfl,trivial⟩ ?_
   obtain⟨v23,h24,hF⟩:=aO hF
   refine aB (aG rfl (gD h24) rfl) ⟨dH _,rfl,trivial⟩ ?_
   refine aY (dA 1 rfl rfl rfl tyA42.s) ⟨rfl,rfl,trivial⟩ ?_
   refine aC (aA (aE (aB (a8 (off:=0) (k:=1) rfl tyF42_1) ⟨rfl,trivial⟩ ?_)))
   refine aB (bD 4 1 rfl rfl rfl rfl (.one tyO22)) ⟨rfl,trivial⟩ ?_
   refine aB (a8 (off:=0) (k:=1) rfl tyF42_1) ⟨rfl,trivial⟩ ?_
   refine aB (bD 0 1 rfl rfl rfl rfl (.one tyO22)) ⟨rfl,trivial⟩ ?_
   obtain⟨v25,h26,hF⟩:=aO hF
   refine aB (aG rfl (rS h26) rfl) ⟨rfl,rfl,trivial⟩ ?_
   obtain⟨v27,h28,hF⟩:=aO hF
   refine aB (aG rfl (gD h28) rfl) ⟨dH _,rfl,trivial⟩ ?_
   refine aY (dA 0 rfl rfl rfl tyA42.s) ⟨rfl,rfl,trivial⟩ ?_
   refine aC ?_
   exact bS Jj13 ⟨v27,v23,hF,rfl,rfl⟩ [0,1,2,3,4,5] rfl ⟨rfl,rfl,rfl,rfl,rfl,rfl,trivial⟩
  have hF:=aU h20 hF
  refine aV ?_
  exact bS Jj13 ⟨v6.2,v6.1,hF,rfl,rfl⟩ [0,1,2,3,4,5] rfl ⟨rfl,rfl,rfl,rfl,rfl,rfl,trivial⟩
 have hF:=aU h19 hF
 refine aJ ?_
 refine aJ ?_
 refine aJ ?_
 refine aJ ?_
 refine aB (bL rfl) ⟨rfl,dH _,trivial⟩ ?_
 refine aC (aA (qG rfl ?_))
 refine aV ?_
 exact bS Jj13 ⟨v6.2,v6.1,hF,rfl,rfl⟩ [0,1,2,3,4,5] rfl ⟨rfl,rfl,rfl,rfl,rfl,rfl,trivial⟩
def nM (a0:aP):Option aP:=
 bif(!a0.neg) then(some (⟨(decide (0<(a0.d.length:Int))),a0.d⟩:aP)) else(some (⟨false,a0.d⟩:aP))
theorem sK {a0:aP} {r:aP} (hF:nM a0=some r):Ct Tryz.prog 186 [.va (aP.e a0)] (.va (aP.e r)):=by
 unfold nM at hF
 refine a9 Tryz.func186 rfl (by kernel_rfl) Tryz.ntmps186 rfl (fun w0 M0=>?_)
 refine aD (aE (cV rfl rfl trivial (fun b1=>?_)))
 refine bJ rfl tyZ42 (fun b2=>?_)
 refine aC (aA (aD (aE (aB (a8 (off:=0) (k:=0) rfl tyF42_0) ⟨rfl,trivial⟩ ?_))))
 refine aB (bD 1 1 rfl rfl rfl rfl (.one tyO4)) ⟨rfl,trivial⟩ ?_
 refine aB (lK rfl) ⟨rfl,trivial⟩ ?_
 refine aF ?_
 refine cU (fun h3=>?_) (fun h3=>?_)
 ·have hF:=aT h3 hF
  refine aZ (a8 (off:=0) (k:=1) rfl tyF42_1) ⟨rfl,trivial⟩ ?_
  refine aZ (bD 1 1 rfl rfl rfl rfl (.one tyO22)) ⟨rfl,trivial⟩ ?_
  refine aZ (bZ rfl tyS22) ⟨rfl,trivial⟩ ?_
  refine aZ (p8 rfl) ⟨rfl,bC _ _,trivial⟩ ?_
  refine aB (bK rfl) ⟨rfl,rfl,trivial⟩ ?_
  refine aB (a8 (off:=0) (k:=0) rfl tyF42_0) ⟨rfl,trivial⟩ ?_
  refine aY (dA 1 rfl rfl rfl tyO4.s) ⟨rfl,rfl,trivial⟩ ?_
  refine aC (aA (aD (aE (aB (bD 1 2 rfl rfl rfl rfl (.agg tyA42)) ⟨rfl,trivial⟩ ?_))))
  refine aY (dA 0 rfl rfl rfl tyA42.s) ⟨rfl,rfl,trivial⟩ ?_
  refine aC (aA (aX (aW ?_)))
  obtain rfl:=bX hF
  exact aI (.inl rfl) Tryz.results186 (bM 0 2 rfl rfl rfl rfl (.agg tyA42) .nil) rfl rfl
 have hF:=aU h3 hF
 refine aJ ?_
 refine aJ ?_
 refine aJ ?_
 refine aJ ?_
 refine aB (bL rfl) ⟨rfl,dH _,trivial⟩ ?_
 refine aB (a8 (off:=0) (k:=0) rfl tyF42_0) ⟨rfl,trivial⟩ ?_
 refine aY (dA 1 rfl rfl rfl tyO4.s) ⟨rfl,rfl,trivial⟩ ?_
 refine aC (aA (aD (aE (aB (bD 1 2 rfl rfl rfl rfl (.agg tyA42)) ⟨rfl,trivial⟩ ?_))))
 refine aY (dA 0 rfl rfl rfl tyA42.s) ⟨rfl,rfl,trivial⟩ ?_
 refine aC (aA (aX (aW ?_)))
 obtain rfl:=bX hF
 exact aI (.inl rfl) Tryz.results186 (bM 0 2 rfl rfl rfl rfl (.agg tyA42) .nil) rfl rfl
def jJ (a0:Int):Option aP:=
 bif(decide (a0<0)) then((eN (decide (a0<0)) (wu (-(IntKind.u64.wrap a0)))).bind fun v3=>some v3) else((eN (decide (a0<0)) (IntKind.u64.wrap a0)).bind fun v5=>some v5)
theorem nL {a0:Int} {r:aP} (hF:jJ a0=some r):Ct Tryz.prog 196 [.vc (pI .i64 a0)] (.va (aP.e r)):=by
 unfold jJ at hF
 refine a9 Tryz.func196 rfl (by kernel_rfl) Tryz.ntmps196 rfl (fun w0 M0=>?_)
 refine aD (aE (bJ rfl tyZ42 (fun b1=>?_)))
 refine aC (aA (aD (aE (aF ?_))))
 refine aB (yS rfl ⟨_,Tryz.underlying3⟩ Tryz.underlying213) ⟨rfl,trivial⟩ ?_
 refine bB ?_
 refine aC (aA (aD (aD (aE (aF ?_)))))
 refine aB (dQ rfl) ⟨rfl,bC _ _,trivial⟩ ?_
 refine aC (aA (bO rfl (fun h2=>?_) (fun h2=>?_)))
 ·have hF:=aT h2 hF
  refine aE (aF ?_)
  refine aB (aGc rfl) ⟨rfl,trivial⟩ ?_
  refine bB ?_
  refine aC (aA (aD (aE (aF ?_))))
  refine aB (dQ rfl) ⟨rfl,bC _ _,trivial⟩ ?_
  refine aF ?_
  obtain⟨v3,h4,hF⟩:=aO hF
  refine aB (aG rfl (iB h4) rfl) ⟨rfl,rfl,trivial⟩ ?_
  refine aY (dA 0 rfl rfl rfl tyA42.s) ⟨rfl,rfl,trivial⟩ ?_
  refine aC (aA (aX (aW ?_)))
  obtain rfl:=bX hF
  exact aI (.inl rfl) Tryz.results196 (bM 0 2 rfl rfl rfl rfl (.agg tyA42) .nil) rfl rfl
 have hF:=aU h2 hF
 refine aV (aA (aD (aE (aF ?_))))
 refine aB (dQ rfl) ⟨rfl,bC _ _,trivial⟩ ?_
 refine aF ?_
 obtain⟨v5,h6,hF⟩:=aO hF
 refine aB (aG rfl (iB h6) rfl) ⟨rfl,rfl,trivial⟩ ?_
 refine aY (dA 0 rfl rfl rfl tyA42.s) ⟨rfl,rfl,trivial⟩ ?_
 refine aC (aA (aX (aW ?_)))
 obtain rfl:=bX hF
 exact aI (.inl rfl) Tryz.results196 (bM 0 2 rfl rfl rfl rfl (.agg tyA42) .nil) rfl rfl
def jP (K:Nat) (a0:aP) (a1:aP):Option Int:=
 bif(a0.neg != a1.neg) then(bif a0.neg then(some (-1)) else(bif(a0.neg != a1.neg) then(some 1) else(bif a0.neg then((fF K a1.d a0.d).bind fun v7=>some v7) else((fF K a0.d a1.d).bind fun v9=>some v9)))) else(bif(a0.neg != a1.neg) then(some 1) else(bif a0.neg then((fF K a1.d a0.d).bind fun v13=>some v13) else((fF K a0.d a1.d).bind fun v15=>some v15)))
theorem qR {K:Nat} {a0:aP} {a1:aP} {r:Int} (hF:jP K a0 a1=some r):Ct Tryz.prog 216 [.va (aP.e a0),.va (aP.e a1)] (.vc (pI .i64 r)):=by
 unfold jP at hF
 refine a9 Tryz.func216 rfl (by kernel_rfl) Tryz.ntmps216 rfl (fun w0 M0=>?_)
 refine aD (aE (cV rfl rfl trivial (fun b1=>?_)))
 refine cV rfl rfl trivial (fun b2=>?_)
 refine aB (aL (.inr rfl)) ⟨bC _ _,trivial⟩ ?_
 refine aC (aA (aD (bN (aD (aE (aB (a8 (off:=0) (k:=0) rfl tyF42_0) ⟨rfl,trivial⟩ ?_))))))
 refine aB (bD 1 1 rfl rfl rfl rfl (.one tyO4)) ⟨rfl,trivial⟩ ?_
 refine aB (a8 (off:=0) (k:=0) rfl tyF42_0) ⟨rfl,trivial⟩ ?_
 refine aB (bD 0 1 rfl rfl rfl rfl (.one tyO4)) ⟨rfl,trivial⟩ ?_
 refine aB (vQ rfl Tryz.underlying4) ⟨rfl,rfl,trivial⟩ ?_
 refine aF ?_
 refine cU (fun h3=>?_) (fun h3=>?_)
 ·have hF:=aT h3 hF
  refine aZ (a8 (off:=0) (k:=0) rfl tyF42_0) ⟨rfl,trivial⟩ ?_
  refine aZ (bD 1 1 rfl rfl rfl rfl (.one tyO4)) ⟨rfl,trivial⟩ ?_
  refine aB (bK rfl) ⟨rfl,rfl,trivial⟩ ?_
  refine bB ?_
  refine aC (aA (bO rfl (fun h4=>?_) (fun h4=>?_)))
  ·have hF:=aT h4 hF
   refine aD (aE (aB (aL (.inr rfl)) ⟨bC _ _,trivial⟩ ?_))
   refine aC (aA (aX (aW ?_)))
   obtain rfl:=bX hF
   exact aI (.inl rfl) Tryz.results216 (.tmp rfl .nil) rfl rfl
  have hF:=aU h4 hF
  refine aD (aE (aB (a8 (off:=0) (k:=0) rfl tyF42_0) ⟨rfl,trivial⟩ ?_))
  refine aB (bD 1 1 rfl rfl rfl rfl (.one tyO4)) ⟨rfl,trivial⟩ ?_
  refine aB (a8 (off:=0) (k:=0) rfl tyF42_0) ⟨rfl,trivial⟩ ?_
  refine aB (bD 0 1 rfl rfl rfl rfl (.one tyO4)) ⟨rfl,trivial⟩ ?_
  refine aB (vQ rfl Tryz.underlying4) ⟨rfl,rfl,trivial⟩ ?_
  refine bB ?_
  refine aC (aA (bO rfl (fun h5=>?_) (fun h5=>?_)))
  ·have hF:=aT h5 hF
   refine aD (aE (aB (aL (.inr rfl)) ⟨bC _ _,trivial⟩ ?_))
   refine aC (aA (aX (aW ?_)))
   obtain rfl:=bX hF
   exact aI (.inl rfl) Tryz.results216 (.tmp rfl .nil) rfl rfl
  have hF:=aU h5 hF
  refine aD (aE (aB (a8 (off:=0) (k:=0) rfl tyF42_0) ⟨rfl,trivial⟩ ?_))
  refine aB (bD 1 1 rfl rfl rfl rfl (.one tyO4)) ⟨rfl,trivial⟩ ?_
  refine bB ?_
  refine aC (aA (bO rfl (fun h6=>?_) (fun h6=>?_)))
  ·have hF:=aT h6 hF
   refine aD (aE (aB (a8 (off:=0) (k:=1) rfl tyF42_1) ⟨rfl,trivial⟩ ?_))
   refine aB (bD 0 1 rfl rfl rfl rfl (.one tyO22)) ⟨rfl,trivial⟩ ?_
   refine aB (a8 (off:=0) (k:=1) rfl tyF42_1) ⟨rfl,trivial⟩ ?_
   refine aB (bD 1 1 rfl rfl rfl rfl (.one tyO22)) ⟨rfl,trivial⟩ ?_
   obtain⟨v7,h8,hF⟩:=aO hF
   refine aB (aG rfl (kP h8) rfl) ⟨rfl,rfl,trivial⟩ ?_
   refine bB ?_
   refine aC (aA (aX (aW ?_)))
   obtain rfl:=bX hF
   exact aI (.inl rfl) Tryz.results216 (.tmp rfl .nil) rfl rfl
  have hF:=aU h6 hF
  refine aV (bF (aA (aD (aE (aB (a8 (off:=0) (k:=1) rfl tyF42_1) ⟨rfl,trivial⟩ ?_)))))
  refine aB (bD 1 1 rfl rfl rfl rfl (.one tyO22)) ⟨rfl,trivial⟩ ?_
  refine aB (a8 (off:=0) (k:=1) rfl tyF42_1) ⟨rfl,trivial⟩ ?_
  refine aB (bD 0 1 rfl rfl rfl rfl (.one tyO22)) ⟨rfl,trivial⟩ ?_
  obtain⟨v9,h10,hF⟩:=aO hF
  refine aB (aG rfl (kP h10) rfl) ⟨rfl,rfl,trivial⟩ ?_
  refine bB ?_
  refine aC (aA (aX (aW ?_)))
  obtain rfl:=bX hF
  exact aI (.inl rfl) Tryz.results216 (.tmp rfl .nil) rfl rfl
 have hF:=aU h3 hF
 refine aJ ?_
 refine aJ ?_
 refine aB (bL rfl) ⟨rfl,dH _,trivial⟩ ?_
 refine bB ?_
 refine aC (aA (qG rfl ?_))
 refine aD (aE (aB (a8 (off:=0) (k:=0) rfl tyF42_0) ⟨rfl,trivial⟩ ?_))
 refine aB (bD 1 1 rfl rfl rfl rfl (.one tyO4)) ⟨rfl,trivial⟩ ?_
 refine aB (a8 (off:=0) (k:=0) rfl tyF42_0) ⟨rfl,trivial⟩ ?_
 refine aB (bD 0 1 rfl rfl rfl rfl (.one tyO4)) ⟨rfl,trivial⟩ ?_
 refine aB (vQ rfl Tryz.underlying4) ⟨rfl,rfl,trivial⟩ ?_
 refine bB ?_
 refine aC (aA (bO rfl (fun h11=>?_) (fun h11=>?_)))
 ·have hF:=aT h11 hF
  refine aD (aE (aB (aL (.inr rfl)) ⟨bC _ _,trivial⟩ ?_))
  refine aC (aA (aX (aW ?_)))
  obtain rfl:=bX hF
  exact aI (.inl rfl) Tryz.results216 (.tmp rfl .nil) rfl rfl
 have hF:=aU h11 hF
 refine aD (aE (aB (a8 (off:=0) (k:=0) rfl tyF42_0) ⟨rfl,trivial⟩ ?_))
 refine aB (bD 1 1 rfl rfl rfl rfl (.one tyO4)) ⟨rfl,trivial⟩ ?_
 refine bB ?_
 refine aC (aA (bO rfl (fun h12=>?_) (fun h12=>?_)))
 ·have hF:=aT h12 hF
  refine aD (aE (aB (a8 (off:=0) (k:=1) rfl tyF42_1) ⟨rfl,trivial⟩ ?_))
  refine aB (bD 0 1 rfl rfl rfl rfl (.one tyO22)) ⟨rfl,trivial⟩ ?_
  refine aB (a8 (off:=0) (k:=1) rfl tyF42_1) ⟨rfl,trivial⟩ ?_
  refine aB (bD 1 1 rfl rfl rfl rfl (.one tyO22)) ⟨rfl,trivial⟩ ?_
  obtain⟨v13,h14,hF⟩:=aO hF
  refine aB (aG rfl (kP h14) rfl) ⟨rfl,rfl,trivial⟩ ?_
  refine bB ?_
  refine aC (aA (aX (aW ?_)))
  obtain rfl:=bX hF
  exact aI (.inl rfl) Tryz.results216 (.tmp rfl .nil) rfl rfl
 have hF:=aU h12 hF
 refine aV (bF (aA (aD (aE (aB (a8 (off:=0) (k:=1) rfl tyF42_1) ⟨rfl,trivial⟩ ?_)))))
 refine aB (bD 1 1 rfl rfl rfl rfl (.one tyO22)) ⟨rfl,trivial⟩ ?_
 refine aB (a8 (off:=0) (k:=1) rfl tyF42_1) ⟨rfl,trivial⟩ ?_
 refine aB (bD 0 1 rfl rfl rfl rfl (.one tyO22)) ⟨rfl,trivial⟩ ?_
 obtain⟨v15,h16,hF⟩:=aO hF
 refine aB (aG rfl (kP h16) rfl) ⟨rfl,rfl,trivial⟩ ?_
 refine bB ?_
 refine aC (aA (aX (aW ?_)))
 obtain rfl:=bX hF
 exact aI (.inl rfl) Tryz.results216 (.tmp rfl .nil) rfl rfl
end Go.Proofs.YtcjdedkdoagifaaGreat
