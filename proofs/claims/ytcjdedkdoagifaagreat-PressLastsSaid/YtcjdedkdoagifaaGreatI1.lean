import Derived.Test.YtcjdedkdoagifaaGreatD2
import Derived.Test.YtcjdedkdoagifaaGreatProg
import Derived.KernelRfl
set_option linter.unusedVariables false
set_option maxRecDepth 100000
namespace Go.Proofs.YtcjdedkdoagifaaGreat
theorem aR:Tryz.prog.follows .mixedOrders=true:=by kernel_rfl
theorem tyA42:TyA Tryz.prog 42 2:=mkA Tryz.underlying42 rfl (by kernel_rfl)
theorem tyB42:TyB Tryz.prog 42 [(0,1),(1,1)] ([pB false]++[pS cI ([]:List Int)]):=mkB (z:=.agg #[.bool false,.slice none 0 0]) (by kernel_rfl) Tryz.underlying42 (by kernel_rfl) (fun M=>bR.app (show bR M [pB false] [.bool false] from⟨rfl,trivial⟩) (show bR M [pS cI ([]:List Int)] [.slice none 0 0] from⟨eJ cI M,trivial⟩))
theorem tyF42_0:wS Tryz.prog 42 0 0:=yC (ft:=4) (k:=0) Tryz.underlying42 rfl rfl rfl (by kernel_rfl)
theorem tyF42_1:wS Tryz.prog 42 1 1:=yC (ft:=22) (k:=0) Tryz.underlying42 rfl rfl rfl (by kernel_rfl)
theorem tyO22:Ty1 Tryz.prog 22:=mk1 Tryz.underlying22 rfl (by kernel_rfl)
theorem tyO3:Ty1 Tryz.prog 3:=mk1 Tryz.underlying3 rfl (by kernel_rfl)
theorem tyO4:Ty1 Tryz.prog 4:=mk1 Tryz.underlying4 rfl (by kernel_rfl)
theorem tyS22:yJ Tryz.prog 22 3 1 8:=mkS (z:=.int .i64 0) (k:=0) Tryz.underlying22 (by kernel_rfl) rfl
theorem tyZ3:zL Tryz.prog 3 [pI .i64 0]:=mkZ (z:=.int .i64 0) (k:=1) (by kernel_rfl) rfl (fun M=>show bR M [pI .i64 0] [.int .i64 0] from⟨rfl,trivial⟩)
theorem tyZ42:zL Tryz.prog 42 ([pB false]++[pS cI ([]:List Int)]):=mkZ (z:=.agg #[.bool false,.slice none 0 0]) (k:=2) (by kernel_rfl) rfl (fun M=>bR.app (show bR M [pB false] [.bool false] from⟨rfl,trivial⟩) (show bR M [pS cI ([]:List Int)] [.slice none 0 0] from⟨eJ cI M,trivial⟩))
def k9 (K:Nat) (a0:Bool) (a1:List Int) (x4:Int):Option aP:=
 bif(x4==0) then(some (⟨false,([]:List Int)⟩:aP)) else((slL a1 0 x4).bind fun x8=>some (⟨a0,x8⟩:aP))
def eS (K:Nat) (a1:List Int):Nat→Int→Option Int
 |0,_=>none
 |k+1,x3=>bif(decide (0<x3)) then((bQ (x3-1)).bind fun v11=>(dO a1 (max v11 0)).bind fun v13=>bif(v13==0) then((bQ (x3-1)).bind fun v16=>eS K a1 k v16) else(some x3)) else(some x3)
def bT (K:Nat) (a0:Bool) (a1:List Int):Option aP:=
 (eS K a1 K (a1.length:Int)).bind fun x4=>k9 K a0 a1 x4
theorem cA {K:Nat} {a0:Bool} {a1:List Int} {r:aP} (hF:bT K a0 a1=some r):Ct Tryz.prog 181 [.vc (pB a0),.vc (pS cI a1)] (.va (aP.e r)):=by
 unfold bT at hF
 refine a9 Tryz.func181 rfl (by kernel_rfl) Tryz.ntmps181 rfl (fun w0 M0=>?_)
 refine aD (aE (bJ rfl tyZ42 (fun b1=>?_)))
 refine aC (aA (aD (aE (aF ?_))))
 refine aB (bZ rfl tyS22) ⟨rfl,trivial⟩ ?_
 refine bB ?_
 refine aC (aA (aD (bN (cL (fun H E=>∃(x4:Int),k9 K a0 a1 x4=some r∧H=[⟨some b1,1,42,2,1,([pB false]++[pS cI ([]:List Int)])⟩]∧E=[(0,.vc (pB a0)),(1,.vc (pS cI a1)),(4,.vc (pP (some b1) 0)),(5,.vc (pI .i64 x4))]) ?_ (fun Jj6=>?_)))))
 ·rintro _ _ ⟨x4,hF,rfl,rfl⟩
  unfold k9 at hF
  refine aA (aD (aD (aE (aF ?_))))
  refine aB (iJ rfl) ⟨rfl,bC _ _,trivial⟩ ?_
  refine aC (aA (bO rfl (fun h7=>?_) (fun h7=>?_)))
  ·have hF:=aT h7 hF
   refine aD (aE (aB (fA (is:=[]) (xs:=[]) (ps:=[]) rfl tyB42 rfl rfl trivial rfl) trivial ?_))
   refine aY (dA 0 rfl rfl rfl tyA42.s) ⟨rfl,rfl,trivial⟩ ?_
   refine aC (aA (aX (aW ?_)))
   obtain rfl:=bX hF
   exact aI (.inl rfl) Tryz.results181 (bM 0 2 rfl rfl rfl rfl (.agg tyA42) .nil) rfl rfl
  have hF:=aU h7 hF
  refine aV (aA (aD (aE (aF ?_))))
  refine aF ?_
  refine aF ?_
  obtain⟨x8,h9,hF⟩:=aO hF
  refine aB (aBF rfl tyS22 h9) ⟨rfl,rfl,trivial⟩ ?_
  refine aB (fA (is:=[0,1]) (xs:=[.tmp 24,.tmp 27]) (ps:=[.vc (pB a0),.vc (pS cI x8)]) rfl tyB42 rfl rfl ⟨trivial,trivial,trivial⟩ rfl) ⟨rfl,rfl,trivial⟩ ?_
  refine aY (dA 0 rfl rfl rfl tyA42.s) ⟨rfl,rfl,trivial⟩ ?_
  refine aC (aA (aX (aW ?_)))
  obtain rfl:=bX hF
  exact aI (.inl rfl) Tryz.results181 (bM 0 2 rfl rfl rfl rfl (.agg tyA42) .nil) rfl rfl
 obtain⟨x4',hL,hRl5⟩:=aO hF
 refine gY (fun k a w=>∃(x3:Int),eS K a1 k x3=some x4'∧hs _ [⟨some b1,1,42,2,1,([pB false]++[pS cI ([]:List Int)])⟩] [(0,.vc (pB a0)),(1,.vc (pS cI a1)),(4,.vc (pP (some b1) 0)),(5,.vc (pI .i64 x3))] a w) K (fun a w ⟨_,hF,_⟩=>by cases hF) (fun k a w ⟨x3,hF,hh⟩=>gX ?_ hh) (fun a w hh=>⟨(a1.length:Int),hL,bA [0] rfl (by decide) (by exact⟨rfl,rfl,rfl,rfl,trivial⟩) hh⟩)
 rw [eS.eq_2] at hF
 refine aD (aD (aE (aF ?_)))
 refine aB (p8 rfl) ⟨rfl,bC _ _,trivial⟩ ?_
 refine aF ?_
 refine cU (fun h10=>?_) (fun h10=>?_)
 ·have hF:=aT h10 hF
  refine aZ (aL (.inl rfl)) ⟨rfl,trivial⟩ ?_
  refine aZ (aL (.inl rfl)) ⟨rfl,trivial⟩ ?_
  obtain⟨v11,h12,hF⟩:=aO hF
  refine aZ (fH rfl h12) ⟨rfl,bC _ _,trivial⟩ ?_
  refine aZ (aFL rfl) ⟨rfl,bC _ _,trivial⟩ ?_
  obtain⟨v13,h14,hF⟩:=aO hF
  refine aZ (dX rfl tyS22 h14) ⟨rfl,rfl,trivial⟩ ?_
  refine aZ (dM 1 rfl rfl (.one tyO3)) ⟨rfl,trivial⟩ ?_
  refine aZ (iJ rfl) ⟨rfl,bC _ _,trivial⟩ ?_
  refine aB (bK rfl) ⟨rfl,rfl,trivial⟩ ?_
  refine aC (aA (bO rfl (fun h15=>?_) (fun h15=>?_)))
  ·have hF:=aT h15 hF
   refine aV (aA (bN (aE (aF ?_))))
   obtain⟨v16,h17,hF⟩:=aO hF
   refine aB (fH rfl h17) ⟨rfl,bC _ _,trivial⟩ ?_
   refine bB ?_
   refine aC (bF ?_)
   exact bG (fun a w hh=>⟨v16,hF,bA [0] rfl (by decide) (by exact⟨rfl,rfl,rfl,rfl,trivial⟩) hh⟩)
  have hF:=aU h15 hF
  refine dE ?_
  obtain rfl:=bX hF
  exact bS Jj6 ⟨x3,hRl5,rfl,rfl⟩ [0] rfl ⟨rfl,rfl,rfl,rfl,trivial⟩
 have hF:=aU h10 hF
 refine aJ ?_
 refine aJ ?_
 refine aJ ?_
 refine aJ ?_
 refine aJ ?_
 refine aJ ?_
 refine aJ ?_
 refine aB (bL rfl) ⟨rfl,dH _,trivial⟩ ?_
 refine aC (aA (qG rfl ?_))
 refine dE ?_
 obtain rfl:=bX hF
 exact bS Jj6 ⟨x3,hRl5,rfl,rfl⟩ [0] rfl ⟨rfl,rfl,rfl,rfl,trivial⟩
def nI (K:Nat) (a0:Int) (x18:List Int):Option aP:=
 (bT K (decide (a0<0)) x18).bind fun v26=>some v26
def dR (K:Nat):Nat→(List Int)→Int→Option (List Int)
 |0,_,_=>none
 |k+1,x11,x17=>bif(x17 != 0) then((r6 x17 1000000000).bind fun v29=>bif(decide (v29<0)) then((bQ (-v29)).bind fun v32=>(tB x11 [v32]).bind fun x34=>(r4 x17 1000000000).bind fun v41=>dR K k x34 v41) else((tB x11 [v29]).bind fun x43=>(r4 x17 1000000000).bind fun v50=>dR K k x43 v50)) else(some x11)
def fO (K:Nat) (a0:Int):Option aP:=
 (dR K K ([]:List Int) a0).bind fun x18=>nI K a0 x18
theorem jG {K:Nat} {a0:Int} {r:aP} (hF:fO K a0=some r):Ct Tryz.prog 94 [.vc (pI .i64 a0)] (.va (aP.e r)):=by
 unfold fO at hF
 refine a9 Tryz.func94 rfl (by kernel_rfl) Tryz.ntmps94 rfl (fun w0 M0=>?_)
 refine aD (aE (bJ rfl tyZ42 (fun b1=>?_)))
 refine aC (aA (aD (aE (sA cI 3 rfl ?_))))
 refine aC (aA (aD (aE (aF ?_))))
 refine aB (dQ rfl) ⟨rfl,bC _ _,trivial⟩ ?_
 refine bB ?_
 refine aC (aA (aD (bN (cL (fun H E=>∃(x18:List Int),∃(b19:Option Nat),∃(c20:Nat),∃(n21:Nat),nI K a0 x18=some r∧x18.length=n21∧H=[hO cI b19 c20 3 n21 x18,⟨some b1,1,42,2,1,([pB false]++[pS cI ([]:List Int)])⟩]∧E=[(2,.vc (pP (some b1) 0)),(3,.vc (pO b19 n21 c20)),(4,.vc (pB (decide (a0<0))))]) ?_ (fun Jj25=>?_)))))
 ·rintro _ _ ⟨x18,b19,c20,n21,hF,q22,rfl,rfl⟩
  unfold nI at hF
  refine aA (aD (aE (aF ?_)))
  refine aF ?_
  refine xZ 0 [3,23] rfl q22 ⟨rfl,rfl,trivial⟩ rfl ?_
  obtain⟨v26,h27,hF⟩:=aO hF
  refine aB (aG rfl (cA h27) rfl) ⟨rfl,rfl,trivial⟩ ?_
  refine aY (dA 0 rfl rfl rfl tyA42.s) ⟨rfl,rfl,trivial⟩ ?_
  refine aC (aA (aX (aW ?_)))
  obtain rfl:=bX hF
  exact aI (.inl rfl) Tryz.results94 (bM 0 2 rfl rfl rfl rfl (.agg tyA42) .nil) rfl rfl
 obtain⟨x18',hL,hRl24⟩:=aO hF
 refine gY (fun k a w=>∃(x11:List Int),∃(x17:Int),∃(b12:Option Nat),∃(c13:Nat),∃(n14:Nat),dR K k x11 x17=some x18'∧x11.length=n14∧hs _ [hO cI b12 c13 3 n14 x11,⟨some b1,1,42,2,1,([pB false]++[pS cI ([]:List Int)])⟩] [(0,.vc (pI .i64 x17)),(2,.vc (pP (some b1) 0)),(3,.vc (pO b12 n14 c13)),(4,.vc (pB (decide (a0<0))))] a w) K (fun a w ⟨_,_,_,_,_,hF,_,_⟩=>by cases hF) (fun k a w ⟨x11,x17,b12,c13,n14,hF,q15,hh⟩=>gX ?_ hh) (fun a w hh=>⟨([]:List Int),a0,none,0,0,hL,rfl,bA [0,1] rfl (by decide) (by exact⟨rfl,rfl,rfl,rfl,trivial⟩) hh⟩)
 rw [dR.eq_2] at hF
 refine aD (aD (aE (aF ?_)))
 refine aB (sC rfl) ⟨rfl,bC _ _,trivial⟩ ?_
 refine aC (aA (bO rfl (fun h28=>?_) (fun h28=>?_)))
 ·have hF:=aT h28 hF
  refine aV (aA (bN (aD (aE (aF ?_)))))
  obtain⟨v29,h30,hF⟩:=aO hF
  refine aB (mZ rfl h30) ⟨rfl,bC _ _,trivial⟩ ?_
  refine bB ?_
  refine aC (aA (aD (aD (aE (aF ?_)))))
  refine aB (dQ rfl) ⟨rfl,bC _ _,trivial⟩ ?_
  refine aC (aA (bO rfl (fun h31=>?_) (fun h31=>?_)))
  ·have hF:=aT h31 hF
   refine aE (aF ?_)
   obtain⟨v32,h33,hF⟩:=aO hF
   refine aB (aDu rfl h33) ⟨rfl,trivial⟩ ?_
   refine bB ?_
   refine aC (aA (aD (aE (aF ?_))))
   refine aF ?_
   refine aB (pX (C:=cI) (xs:=[.tmp 17]) (ps:=[.vc (pI .i64 v32)]) (zs:=[v32]) rfl tyS22 rfl ⟨⟨trivial,rfl⟩,trivial⟩ rfl) ⟨rfl,trivial⟩ ?_
   obtain⟨x34,h35,hF⟩:=aO hF
   refine nY 0 rfl tyS22 rfl rfl q15 rfl rfl h35 (fun b36 c37 H38 e39=>?_)
   cases e39
   refine bB ?_
   refine aC (aA (aE (aF ?_)))
   obtain⟨v41,h42,hF⟩:=aO hF
   refine aB (oD rfl h42) ⟨rfl,bC _ _,trivial⟩ ?_
   refine bB ?_
   refine aC (bF ?_)
   exact bG (fun a w hh=>⟨x34,v41,b36,c37,(n14+[v32].length),hF,(gB h35 q15),bA [0,1] rfl (by decide) (by exact⟨rfl,rfl,rfl,rfl,trivial⟩) hh⟩)
  have hF:=aU h31 hF
  refine aV (aA (aD (aE (aF ?_))))
  refine aF ?_
  refine aB (pX (C:=cI) (xs:=[.tmp 17]) (ps:=[.vc (pI .i64 v29)]) (zs:=[v29]) rfl tyS22 rfl ⟨⟨trivial,rfl⟩,trivial⟩ rfl) ⟨rfl,trivial⟩ ?_
  obtain⟨x43,h44,hF⟩:=aO hF
  refine nY 0 rfl tyS22 rfl rfl q15 rfl rfl h44 (fun b45 c46 H47 e48=>?_)
  cases e48
  refine bB ?_
  refine aC (aA (aE (aF ?_)))
  obtain⟨v50,h51,hF⟩:=aO hF
  refine aB (oD rfl h51) ⟨rfl,bC _ _,trivial⟩ ?_
  refine bB ?_
  refine aC (bF ?_)
  exact bG (fun a w hh=>⟨x43,v50,b45,c46,(n14+[v29].length),hF,(gB h44 q15),bA [0,1] rfl (by decide) (by exact⟨rfl,rfl,rfl,rfl,trivial⟩) hh⟩)
 have hF:=aU h28 hF
 refine dE ?_
 obtain rfl:=bX hF
 exact bS Jj25 ⟨x11,b12,c13,n14,hRl24,q15,rfl,rfl⟩ [0,1] rfl ⟨rfl,rfl,rfl,trivial⟩
def eN (a0:Bool) (a1:Int):Option aP:=
 bif(a1==0) then(some (⟨false,([]:List Int)⟩:aP)) else(bif(decide (a1<1000000000)) then(some (⟨a0,[(IntKind.i64.wrap a1)]⟩:aP)) else(bif(decide (a1<1000000000000000000)) then((r6 a1 1000000000).bind fun v5=>(uq a1 1000000000).bind fun v7=>some (⟨a0,[(IntKind.i64.wrap v5),(IntKind.i64.wrap v7)]⟩:aP)) else((r6 a1 1000000000).bind fun v9=>(uq a1 1000000000).bind fun v11=>(r6 v11 1000000000).bind fun v13=>(uq a1 1000000000).bind fun v15=>(uq v15 1000000000).bind fun v17=>some (⟨a0,[(IntKind.i64.wrap v9),(IntKind.i64.wrap v13),(IntKind.i64.wrap v17)]⟩:aP))))
theorem iB {a0:Bool} {a1:Int} {r:aP} (hF:eN a0 a1=some r):Ct Tryz.prog 182 [.vc (pB a0),.vc (pI .u64 a1)] (.va (aP.e r)):=by
 unfold eN at hF
 refine a9 Tryz.func182 rfl (by kernel_rfl) Tryz.ntmps182 rfl (fun w0 M0=>?_)
 refine aD (aE (bJ rfl tyZ42 (fun b1=>?_)))
 refine aC (aA (aD (bN (aD (aE (aF ?_))))))
 refine aB (iJ rfl) ⟨rfl,bC _ _,trivial⟩ ?_
 refine bB ?_
 refine aC (aA (bO rfl (fun h2=>?_) (fun h2=>?_)))
 ·have hF:=aT h2 hF
  refine aD (aE (aB (fA (is:=[]) (xs:=[]) (ps:=[]) rfl tyB42 rfl rfl trivial rfl) trivial ?_))
  refine aY (dA 0 rfl rfl rfl tyA42.s) ⟨rfl,rfl,trivial⟩ ?_
  refine aC (aA (aX (aW ?_)))
  obtain rfl:=bX hF
  exact aI (.inl rfl) Tryz.results182 (bM 0 2 rfl rfl rfl rfl (.agg tyA42) .nil) rfl rfl
 have hF:=aU h2 hF
 refine aD (aE (aF ?_))
 refine aB (dQ rfl) ⟨rfl,bC _ _,trivial⟩ ?_
 refine bB ?_
 refine aC (aA (bO rfl (fun h3=>?_) (fun h3=>?_)))
 ·have hF:=aT h3 hF
  refine aD (aE (aF ?_))
  refine aF ?_
  refine aB (yS rfl ⟨_,Tryz.underlying213⟩ Tryz.underlying3) ⟨rfl,trivial⟩ ?_
  refine aB (pX (C:=cI) (xs:=[.tmp 14]) (ps:=[.vc (pI .i64 (IntKind.i64.wrap a1))]) (zs:=[(IntKind.i64.wrap a1)]) rfl tyS22 rfl ⟨⟨trivial,rfl⟩,trivial⟩ rfl) ⟨rfl,trivial⟩ ?_
  refine aB (fA (is:=[0,1]) (xs:=[.tmp 12,.tmp 15]) (ps:=[.vc (pB a0),.vc (pS cI [(IntKind.i64.wrap a1)])]) rfl tyB42 rfl rfl ⟨trivial,trivial,trivial⟩ rfl) ⟨rfl,rfl,trivial⟩ ?_
  refine aY (dA 0 rfl rfl rfl tyA42.s) ⟨rfl,rfl,trivial⟩ ?_
  refine aC (aA (aX (aW ?_)))
  obtain rfl:=bX hF
  exact aI (.inl rfl) Tryz.results182 (bM 0 2 rfl rfl rfl rfl (.agg tyA42) .nil) rfl rfl
 have hF:=aU h3 hF
 refine aD (aE (aF ?_))
 refine aB (dQ rfl) ⟨rfl,bC _ _,trivial⟩ ?_
 refine bB ?_
 refine aC (aA (bO rfl (fun h4=>?_) (fun h4=>?_)))
 ·have hF:=aT h4 hF
  refine aD (aE (aF ?_))
  refine aF ?_
  obtain⟨v5,h6,hF⟩:=aO hF
  refine aB (mZ rfl h6) ⟨rfl,bC _ _,trivial⟩ ?_
  refine aB (yS rfl ⟨_,Tryz.underlying213⟩ Tryz.underlying3) ⟨rfl,trivial⟩ ?_
  refine aF ?_
  obtain⟨v7,h8,hF⟩:=aO hF
  refine aB (aBe rfl h8) ⟨rfl,bC _ _,trivial⟩ ?_
  refine aB (yS rfl ⟨_,Tryz.underlying213⟩ Tryz.underlying3) ⟨rfl,trivial⟩ ?_
  refine aB (pX (C:=cI) (xs:=[.tmp 23,.tmp 26]) (ps:=[.vc (pI .i64 (IntKind.i64.wrap v5)),.vc (pI .i64 (IntKind.i64.wrap v7))]) (zs:=[(IntKind.i64.wrap v5),(IntKind.i64.wrap v7)]) rfl tyS22 rfl ⟨⟨trivial,rfl⟩,⟨trivial,rfl⟩,trivial⟩ rfl) ⟨rfl,rfl,trivial⟩ ?_
  refine aB (fA (is:=[0,1]) (xs:=[.tmp 20,.tmp 27]) (ps:=[.vc (pB a0),.vc (pS cI [(IntKind.i64.wrap v5),(IntKind.i64.wrap v7)])]) rfl tyB42 rfl rfl ⟨trivial,trivial,trivial⟩ rfl) ⟨rfl,rfl,trivial⟩ ?_
  refine aY (dA 0 rfl rfl rfl tyA42.s) ⟨rfl,rfl,trivial⟩ ?_
  refine aC (aA (aX (aW ?_)))
  obtain rfl:=bX hF
  exact aI (.inl rfl) Tryz.results182 (bM 0 2 rfl rfl rfl rfl (.agg tyA42) .nil) rfl rfl
 have hF:=aU h4 hF
 refine aV (bF (aA (aD (aE (aF ?_)))))
 refine aF ?_
 obtain⟨v9,h10,hF⟩:=aO hF
 refine aB (mZ rfl h10) ⟨rfl,bC _ _,trivial⟩ ?_
 refine aB (yS rfl ⟨_,Tryz.underlying213⟩ Tryz.underlying3) ⟨rfl,trivial⟩ ?_
 refine aF ?_
 obtain⟨v11,h12,hF⟩:=aO hF
 refine aB (aBe rfl h12) ⟨rfl,bC _ _,trivial⟩ ?_
 obtain⟨v13,h14,hF⟩:=aO hF
 refine aB (mZ rfl h14) ⟨rfl,bC _ _,trivial⟩ ?_
 refine aB (yS rfl ⟨_,Tryz.underlying213⟩ Tryz.underlying3) ⟨rfl,trivial⟩ ?_
 refine aF ?_
 obtain⟨v15,h16,hF⟩:=aO hF
 refine aB (aBe rfl h16) ⟨rfl,bC _ _,trivial⟩ ?_
 obtain⟨v17,h18,hF⟩:=aO hF
 refine aB (aBe rfl h18) ⟨rfl,bC _ _,trivial⟩ ?_
 refine aB (yS rfl ⟨_,Tryz.underlying213⟩ Tryz.underlying3) ⟨rfl,trivial⟩ ?_
 refine aB (pX (C:=cI) (xs:=[.tmp 32,.tmp 36,.tmp 40]) (ps:=[.vc (pI .i64 (IntKind.i64.wrap v9)),.vc (pI .i64 (IntKind.i64.wrap v13)),.vc (pI .i64 (IntKind.i64.wrap v17))]) (zs:=[(IntKind.i64.wrap v9),(IntKind.i64.wrap v13),(IntKind.i64.wrap v17)]) rfl tyS22 rfl ⟨⟨trivial,rfl⟩,⟨trivial,rfl⟩,⟨trivial,rfl⟩,trivial⟩ rfl) ⟨rfl,rfl,rfl,trivial⟩ ?_
 refine aB (fA (is:=[0,1]) (xs:=[.tmp 29,.tmp 41]) (ps:=[.vc (pB a0),.vc (pS cI [(IntKind.i64.wrap v9),(IntKind.i64.wrap v13),(IntKind.i64.wrap v17)])]) rfl tyB42 rfl rfl ⟨trivial,trivial,trivial⟩ rfl) ⟨rfl,rfl,trivial⟩ ?_
 refine aY (dA 0 rfl rfl rfl tyA42.s) ⟨rfl,rfl,trivial⟩ ?_
 refine aC (aA (aX (aW ?_)))
 obtain rfl:=bX hF
 exact aI (.inl rfl) Tryz.results182 (bM 0 2 rfl rfl rfl rfl (.agg tyA42) .nil) rfl rfl
def qN (K:Nat) (a0:Bool) (a1:List Int) (x4:Int):Option aP:=
 bif(x4==0) then(some (⟨false,([]:List Int)⟩:aP)) else((slL a1 0 x4).bind fun x8=>some (⟨a0,x8⟩:aP))
def jX (K:Nat) (a1:List Int):Nat→Int→Option Int
 |0,_=>none
 |k+1,x3=>bif(decide (0<x3)) then((bQ (x3-1)).bind fun v11=>(dO a1 v11).bind fun v13=>bif(v13==0) then((bQ (x3-1)).bind fun v16=>jX K a1 k v16) else(some x3)) else(some x3)
def eF (K:Nat) (a0:Bool) (a1:List Int):Option aP:=
 (jX K a1 K (a1.length:Int)).bind fun x4=>qN K a0 a1 x4
theorem gD {K:Nat} {a0:Bool} {a1:List Int} {r:aP} (hF:eF K a0 a1=some r):Ct Tryz.prog 183 [.vc (pB a0),.vc (pS cI a1)] (.va (aP.e r)):=by
 unfold eF at hF
 refine a9 Tryz.func183 rfl (by kernel_rfl) Tryz.ntmps183 rfl (fun w0 M0=>?_)
 refine aD (aE (bJ rfl tyZ42 (fun b1=>?_)))
 refine aC (aA (aD (aE (aF ?_))))
 refine aB (bZ rfl tyS22) ⟨rfl,trivial⟩ ?_
 refine bB ?_
 refine aC (aA (aD (bN (cL (fun H E=>∃(x4:Int),qN K a0 a1 x4=some r∧H=[⟨some b1,1,42,2,1,([pB false]++[pS cI ([]:List Int)])⟩]∧E=[(0,.vc (pB a0)),(1,.vc (pS cI a1)),(4,.vc (pP (some b1) 0)),(5,.vc (pI .i64 x4))]) ?_ (fun Jj6=>?_)))))
 ·rintro _ _ ⟨x4,hF,rfl,rfl⟩
  unfold qN at hF
  refine aA (aD (aD (aE (aF ?_))))
  refine aB (iJ rfl) ⟨rfl,bC _ _,trivial⟩ ?_
  refine aC (aA (bO rfl (fun h7=>?_) (fun h7=>?_)))
  ·have hF:=aT h7 hF
   refine aD (aE (aB (fA (is:=[]) (xs:=[]) (ps:=[]) rfl tyB42 rfl rfl trivial rfl) trivial ?_))
   refine aY (dA 0 rfl rfl rfl tyA42.s) ⟨rfl,rfl,trivial⟩ ?_
   refine aC (aA (aX (aW ?_)))
   obtain rfl:=bX hF
   exact aI (.inl rfl) Tryz.results183 (bM 0 2 rfl rfl rfl rfl (.agg tyA42) .nil) rfl rfl
  have hF:=aU h7 hF
  refine aV (aA (aD (aE (aF ?_))))
  refine aF ?_
  refine aF ?_
  refine aF ?_
  obtain⟨x8,h9,hF⟩:=aO hF
  refine aB (aFw rfl tyS22 h9) ⟨rfl,rfl,rfl,trivial⟩ ?_
  refine aB (fA (is:=[0,1]) (xs:=[.tmp 23,.tmp 27]) (ps:=[.vc (pB a0),.vc (pS cI x8)]) rfl tyB42 rfl rfl ⟨trivial,trivial,trivial⟩ rfl) ⟨rfl,rfl,trivial⟩ ?_
  refine aY (dA 0 rfl rfl rfl tyA42.s) ⟨rfl,rfl,trivial⟩ ?_
  refine aC (aA (aX (aW ?_)))
  obtain rfl:=bX hF
  exact aI (.inl rfl) Tryz.results183 (bM 0 2 rfl rfl rfl rfl (.agg tyA42) .nil) rfl rfl
 obtain⟨x4',hL,hRl5⟩:=aO hF
 refine gY (fun k a w=>∃(x3:Int),jX K a1 k x3=some x4'∧hs _ [⟨some b1,1,42,2,1,([pB false]++[pS cI ([]:List Int)])⟩] [(0,.vc (pB a0)),(1,.vc (pS cI a1)),(4,.vc (pP (some b1) 0)),(5,.vc (pI .i64 x3))] a w) K (fun a w ⟨_,hF,_⟩=>by cases hF) (fun k a w ⟨x3,hF,hh⟩=>gX ?_ hh) (fun a w hh=>⟨(a1.length:Int),hL,bA [0] rfl (by decide) (by exact⟨rfl,rfl,rfl,rfl,trivial⟩) hh⟩)
 rw [jX.eq_2] at hF
 refine aD (aD (aE (aF ?_)))
 refine aB (p8 rfl) ⟨rfl,bC _ _,trivial⟩ ?_
 refine aF ?_
 refine cU (fun h10=>?_) (fun h10=>?_)
 ·have hF:=aT h10 hF
  refine aZ (aL (.inl rfl)) ⟨rfl,trivial⟩ ?_
  refine aZ (aL (.inl rfl)) ⟨rfl,trivial⟩ ?_
  obtain⟨v11,h12,hF⟩:=aO hF
  refine aZ (fH rfl h12) ⟨rfl,bC _ _,trivial⟩ ?_
  obtain⟨v13,h14,hF⟩:=aO hF
  refine aZ (dX rfl tyS22 h14) ⟨rfl,rfl,trivial⟩ ?_
  refine aZ (dM 1 rfl rfl (.one tyO3)) ⟨rfl,trivial⟩ ?_
  refine aZ (iJ rfl) ⟨rfl,bC _ _,trivial⟩ ?_
  refine aB (bK rfl) ⟨rfl,rfl,trivial⟩ ?_
  refine aC (aA (bO rfl (fun h15=>?_) (fun h15=>?_)))
  ·have hF:=aT h15 hF
   refine aV (aA (bN (aE (aF ?_))))
   obtain⟨v16,h17,hF⟩:=aO hF
   refine aB (fH rfl h17) ⟨rfl,bC _ _,trivial⟩ ?_
   refine bB ?_
   refine aC (bF ?_)
   exact bG (fun a w hh=>⟨v16,hF,bA [0] rfl (by decide) (by exact⟨rfl,rfl,rfl,rfl,trivial⟩) hh⟩)
  have hF:=aU h15 hF
  refine dE ?_
  obtain rfl:=bX hF
  exact bS Jj6 ⟨x3,hRl5,rfl,rfl⟩ [0] rfl ⟨rfl,rfl,rfl,rfl,trivial⟩
 have hF:=aU h10 hF
 refine aJ ?_
 refine aJ ?_
 refine aJ ?_
 refine aJ ?_
 refine aJ ?_
 refine aJ ?_
 refine aB (bL rfl) ⟨rfl,dH _,trivial⟩ ?_
 refine aC (aA (qG rfl ?_))
 refine dE ?_
 obtain rfl:=bX hF
 exact bS Jj6 ⟨x3,hRl5,rfl,rfl⟩ [0] rfl ⟨rfl,rfl,rfl,rfl,trivial⟩
def m8 (K:Nat) (a0:aP) (a1:aP) (x37:List Int):Option aP:=
 (eF K (a0.neg != a1.neg) x37).bind fun v45=>some v45
def nA (K:Nat) (a1:aP) (x36:Int) (recl43:(List Int)→Int→Option (List Int)) (x66:List Int) (x72:Int):Option (List Int):=
 (bQ (x36+(a1.d.length:Int))).bind fun v75=>(dO x66 v75).bind fun v77=>(n8 x66 v75 x72).bind fun x79=>(bQ (x36+1)).bind fun v82=>recl43 x79 v82
def fU (K:Nat) (a1:aP) (x36:Int) (v48:Int):Nat→(List Int)→Int→Int→Option ((List Int)×Int)
 |0,_,_,_=>none
 |k+1,x58,x64,x65=>bif(decide (x65<(a1.d.length:Int))) then((dO a1.d x65).bind fun v85=>(bQ (x36+x65)).bind fun v87=>(dO x58 v87).bind fun v89=>(bQ (v48*v85)).bind fun v91=>(bQ (v89+v91)).bind fun v93=>(bQ (v93+x64)).bind fun v95=>(r4 v95 1000000000).bind fun v97=>(bQ (x36+x65)).bind fun v99=>(bQ (v97*1000000000)).bind fun v101=>(bQ (v95-v101)).bind fun v103=>(dO x58 v99).bind fun v105=>(n8 x58 v99 v103).bind fun x107=>(bQ (x65+1)).bind fun v110=>fU K a1 x36 v48 k x107 v97 v110) else(some (x58,x64))
def fD (K:Nat) (a0:aP) (a1:aP):Nat→(List Int)→Int→Option (List Int)
 |0,_,_=>none
 |k+1,x30,x36=>bif(decide (x36<(a0.d.length:Int))) then((dO a0.d x36).bind fun v48=>(fU K a1 x36 v48 K x30 0 0).bind fun(x66,x72)=>nA K a1 x36 (fD K a0 a1 k) x66 x72) else(some x30)
def qX (K:Nat) (a0:aP) (a1:aP) (x133:List Int):Option aP:=
 (eF K (a0.neg != a1.neg) x133).bind fun v141=>some v141
def oU (K:Nat) (a1:aP) (x132:Int) (recl139:(List Int)→Int→Option (List Int)) (x162:List Int) (x168:Int):Option (List Int):=
 (bQ (x132+(a1.d.length:Int))).bind fun v171=>(dO x162 v171).bind fun v173=>(n8 x162 v171 x168).bind fun x175=>(bQ (x132+1)).bind fun v178=>recl139 x175 v178
def kK (K:Nat) (a1:aP) (x132:Int) (v144:Int):Nat→(List Int)→Int→Int→Option ((List Int)×Int)
 |0,_,_,_=>none
 |k+1,x154,x160,x161=>bif(decide (x161<(a1.d.length:Int))) then((dO a1.d x161).bind fun v181=>(bQ (x132+x161)).bind fun v183=>(dO x154 v183).bind fun v185=>(bQ (v144*v181)).bind fun v187=>(bQ (v185+v187)).bind fun v189=>(bQ (v189+x160)).bind fun v191=>(r4 v191 1000000000).bind fun v193=>(bQ (x132+x161)).bind fun v195=>(bQ (v193*1000000000)).bind fun v197=>(bQ (v191-v197)).bind fun v199=>(dO x154 v195).bind fun v201=>(n8 x154 v195 v199).bind fun x203=>(bQ (x161+1)).bind fun v206=>kK K a1 x132 v144 k x203 v193 v206) else(some (x154,x160))
def iT (K:Nat) (a0:aP) (a1:aP):Nat→(List Int)→Int→Option (List Int)
 |0,_,_=>none
 |k+1,x126,x132=>bif(decide (x132<(a0.d.length:Int))) then((dO a0.d x132).bind fun v144=>(kK K a1 x132 v144 K x126 0 0).bind fun(x162,x168)=>oU K a1 x132 (iT K a0 a1 k) x162 x168) else(some x126)
def cK (K:Nat) (a0:aP) (a1:aP):Option aP:=
 bif((a0.d.length:Int)==1) then(bif((a1.d.length:Int)==1) then((dO a0.d 0).bind fun v10=>(dO a1.d 0).bind fun v12=>(eN (a0.neg != a1.neg) (wu ((IntKind.u64.wrap v10)*(IntKind.u64.wrap v12)))).bind fun v14=>some v14) else((bQ ((a0.d.length:Int)+(a1.d.length:Int))).bind fun v16=>(s6 v16 0).bind fun x18=>(fD K a0 a1 K x18 0).bind fun x37=>m8 K a0 a1 x37)) else((bQ ((a0.d.length:Int)+(a1.d.length:Int))).bind fun v112=>(s6 v112 0).bind fun x114=>(iT K a0 a1 K x114 0).bind fun x133=>qX K a0 a1 x133)
theorem fP {K:Nat} {a0:aP} {a1:aP} {r:aP} (hF:cK K a0 a1=some r):Ct Tryz.prog 95 [.va (aP.e a0),.va (aP.e a1)] (.va (aP.e r)):=by
 unfold cK at hF
 refine a9 Tryz.func95 rfl (by kernel_rfl) Tryz.ntmps95 rfl (fun w0 M0=>?_)
 refine aD (aE (cV rfl rfl trivial (fun b1=>?_)))
 refine cV rfl rfl trivial (fun b2=>?_)
 refine bJ rfl tyZ42 (fun b3=>?_)
 refine aC (aA (aD (bP [0,1,0,4,3,31] 6 0 [.v (.vc (pP (some b1) 1)),.v (.vc (pS cI a0.d)),.v (.vc (pP (some b2) 1)),.v (.vc (pS cI a1.d)),.v (.vc (pS cI a0.d)),.v (.vc (pS cI a1.d))] aR ⟨d0 (a8 (off:=0) (k:=1) rfl tyF42_1) ⟨rfl,trivial⟩,d0 (bD 2 1 rfl rfl rfl rfl (.one tyO22)) ⟨rfl,trivial⟩,d0 (a8 (off:=0) (k:=1) rfl tyF42_1) ⟨rfl,trivial⟩,d0 (bD 1 1 rfl rfl rfl rfl (.one tyO22)) ⟨rfl,trivial⟩,d0 (aL (.inr rfl)) ⟨rfl,trivial⟩,d0 (aL (.inr rfl)) ⟨rfl,trivial⟩,trivial⟩ (fun bs5 G4=>?_))))
 refine aC (aA (aD (aD (aE (aF ?_)))))
 refine aB (bZ rfl tyS22) ⟨rfl,trivial⟩ ?_
 refine aB (iJ rfl) ⟨rfl,bC _ _,trivial⟩ ?_
 refine aF ?_
 refine cU (fun h6=>?_) (fun h6=>?_)
 ·have hF:=aT h6 hF
  refine aZ (aL (.inl rfl)) ⟨rfl,trivial⟩ ?_
  refine aZ (bZ rfl tyS22) ⟨rfl,trivial⟩ ?_
  refine aZ (iJ rfl) ⟨rfl,bC _ _,trivial⟩ ?_
  refine aB (bK rfl) ⟨rfl,rfl,trivial⟩ ?_
  refine aC (aA (bO rfl (fun h7=>?_) (fun h7=>?_)))
  ·have hF:=aT h7 hF
   refine aD ?_
   obtain⟨v10,h11,hF⟩:=aO hF
   obtain⟨v12,h13,hF⟩:=aO hF
   obtain⟨v14,h15,hF⟩:=aO hF
   refine bP [0,1,0,4,15,0,32,96,224,0,512,1536,3584,8160,16383,32767] 15 1 [.v (.vc (pP (some b1) 0)),.v (.vc (pB a0.neg)),.v (.vc (pP (some b2) 0)),.v (.vc (pB a1.neg)),.v (.vc (pB (a0.neg != a1.neg))),.v (.vc (pS cI a0.d)),.v (.vc (pM (cI.e v10))),.v (.vc (pI .i64 v10)),.v (.vc (pI .u64 (IntKind.u64.wrap v10))),.v (.vc (pS cI a1.d)),.v (.vc (pM (cI.e v12))),.v (.vc (pI .i64 v12)),.v (.vc (pI .u64 (IntKind.u64.wrap v12))),.v (.vc (pI .u64 (wu ((IntKind.u64.wrap v10)*(IntKind.u64.wrap v12))))),.v (.va (aP.e v14))] aR ⟨d0 (a8 (off:=0) (k:=0) rfl tyF42_0) ⟨rfl,trivial⟩,d0 (bD 2 1 rfl rfl rfl rfl (.one tyO4)) ⟨rfl,trivial⟩,d0 (a8 (off:=0) (k:=0) rfl tyF42_0) ⟨rfl,trivial⟩,d0 (bD 1 1 rfl rfl rfl rfl (.one tyO4)) ⟨rfl,trivial⟩,⟨rfl,.run (L:=[0]) ⟨fun G8 A=>vQ rfl Tryz.underlying4,trivial⟩ (fun G8=>⟨rfl,rfl,trivial⟩)⟩,d0 (aL (.inl rfl)) ⟨rfl,trivial⟩,d0 (dX rfl tyS22 h11) ⟨rfl,bC _ _,trivial⟩,d0 (dM 1 rfl rfl (.one tyO3)) ⟨rfl,trivial⟩,⟨rfl,.run (L:=[0]) ⟨fun G8 A=>yS rfl ⟨_,Tryz.underlying3⟩ Tryz.underlying213,trivial⟩ (fun G8=>⟨rfl,trivial⟩)⟩,d0 (aL (.inl rfl)) ⟨rfl,trivial⟩,d0 (dX rfl tyS22 h13) ⟨rfl,bC _ _,trivial⟩,d0 (dM 1 rfl rfl (.one tyO3)) ⟨rfl,trivial⟩,⟨rfl,.run (L:=[0]) ⟨fun G8 A=>yS rfl ⟨_,Tryz.underlying3⟩ Tryz.underlying213,trivial⟩ (fun G8=>⟨rfl,trivial⟩)⟩,d0 (aGo rfl) ⟨rfl,rfl,trivial⟩,d0 (aG rfl (iB h15) rfl) ⟨rfl,rfl,trivial⟩,trivial⟩ (fun bs9 G8=>?_)
   refine aY (dA 0 rfl rfl rfl tyA42.s) ⟨rfl,rfl,trivial⟩ ?_
   refine aC (aA (aX (aW ?_)))
   obtain rfl:=bX hF
   exact aI (.inl rfl) Tryz.results95 (bM 0 2 rfl rfl rfl rfl (.agg tyA42) .nil) rfl rfl
  have hF:=aU h7 hF
  refine aV (aA (aD (aE (aF ?_))))
  refine aB (bZ rfl tyS22) ⟨rfl,trivial⟩ ?_
  refine aF ?_
  refine aB (bZ rfl tyS22) ⟨rfl,trivial⟩ ?_
  obtain⟨v16,h17,hF⟩:=aO hF
  refine aB (bI rfl h17) ⟨rfl,rfl,trivial⟩ ?_
  obtain⟨x18,h19,hF⟩:=aO hF
  refine rK (C:=cI) rfl tyS22 rfl tyZ3 rfl h19 (fun b20=>?_)
  refine bB ?_
  refine aC (aA (aD (aD (aE (aF ?_)))))
  refine aB (bZ rfl tyS22) ⟨rfl,trivial⟩ ?_
  refine aB (aL (.inl rfl)) ⟨bC _ _,trivial⟩ ?_
  refine aC (aA (bN (cL (fun H E=>∃(x37:List Int),m8 K a0 a1 x37=some r∧x37.length=x18.length∧H=[hO cI b20 x18.length 3 x18.length x37,⟨some b3,1,42,2,1,([pB false]++[pS cI ([]:List Int)])⟩,⟨some b2,1,42,2,1,(aP.e a1)⟩,⟨some b1,1,42,2,1,(aP.e a0)⟩]∧E=[(2,.vc (pP (some b1) 0)),(3,.vc (pP (some b2) 0)),(4,.vc (pP (some b3) 0)),(7,.vc (pO b20 x18.length x18.length))]) ?_ (fun Jj44=>?_))))
  ·rintro _ _ ⟨x37,hF,q41,rfl,rfl⟩
   unfold m8 at hF
   refine aA (aD (aE (aB (a8 (off:=0) (k:=0) rfl tyF42_0) ⟨rfl,trivial⟩ ?_)))
   refine aB (bD 3 1 rfl rfl rfl rfl (.one tyO4)) ⟨rfl,trivial⟩ ?_
   refine aB (a8 (off:=0) (k:=0) rfl tyF42_0) ⟨rfl,trivial⟩ ?_
   refine aB (bD 2 1 rfl rfl rfl rfl (.one tyO4)) ⟨rfl,trivial⟩ ?_
   refine aB (vQ rfl Tryz.underlying4) ⟨rfl,rfl,trivial⟩ ?_
   refine aF ?_
   refine xZ 0 [7,98] rfl q41 ⟨rfl,rfl,trivial⟩ rfl ?_
   obtain⟨v45,h46,hF⟩:=aO hF
   refine aB (aG rfl (gD h46) rfl) ⟨rfl,rfl,trivial⟩ ?_
   refine aY (dA 0 rfl rfl rfl tyA42.s) ⟨rfl,rfl,trivial⟩ ?_
   refine aC (aA (aX (aW ?_)))
   obtain rfl:=bX hF
   exact aI (.inl rfl) Tryz.results95 (bM 0 2 rfl rfl rfl rfl (.agg tyA42) .nil) rfl rfl
  obtain⟨x37',hL,hRl43⟩:=aO hF
  refine gY (fun k a w=>∃(x30:List Int),∃(x36:Int),fD K a0 a1 k x30 x36=some x37'∧x30.length=x18.length∧hs _ [hO cI b20 x18.length 3 x18.length x30,⟨some b3,1,42,2,1,([pB false]++[pS cI ([]:List Int)])⟩,⟨some b2,1,42,2,1,(aP.e a1)⟩,⟨some b1,1,42,2,1,(aP.e a0)⟩] [(2,.vc (pP (some b1) 0)),(3,.vc (pP (some b2) 0)),(4,.vc (pP (some b3) 0)),(6,.vc (pS cI a1.d)),(7,.vc (pO b20 x18.length x18.length)),(47,.vc (pS cI a0.d)),(48,.vc (pI .i64 (a0.d.length:Int))),(49,.vc (pI .i64 x36))] a w) K (fun a w ⟨_,_,hF,_,_⟩=>by cases hF) (fun k a w ⟨x30,x36,hF,q34,hh⟩=>gX ?_ hh) (fun a w hh=>⟨x18,0,hL,rfl,bA [0,1,2,3] rfl (by decide) (by exact⟨rfl,rfl,rfl,rfl,rfl,rfl,rfl,rfl,trivial⟩) hh⟩)
  rw [fD.eq_2] at hF
  refine aD (aE (aB (dQ rfl) ⟨rfl,rfl,trivial⟩ ?_))
  refine aC (aA (aD (bO rfl (fun h47=>?_) (fun h47=>?_))))
  ·have hF:=aT h47 hF
   refine aV (aA (aD (bN (aD (aE (aF ?_))))))
   obtain⟨v48,h49,hF⟩:=aO hF
   refine aB (dX rfl tyS22 h49) ⟨rfl,rfl,trivial⟩ ?_
   refine aB (dM 1 rfl rfl (.one tyO3)) ⟨rfl,trivial⟩ ?_
   refine bB ?_
   refine bB ?_
   refine aC (aA (aD (aE (aB (aL (.inr rfl)) ⟨bC _ _,trivial⟩ ?_))))
   refine aC (aA (aD (aD (aE (aF ?_)))))
   refine aB (bZ rfl tyS22) ⟨rfl,trivial⟩ ?_
   refine aB (aL (.inl rfl)) ⟨bC _ _,trivial⟩ ?_
   refine aC (aA (bN (cL (fun H E=>∃(x66:List Int),∃(x72:Int),nA K a1 x36 (fD K a0 a1 k) x66 x72=some x37'∧x66.length=x18.length∧H=[hO cI b20 x18.length 3 x18.length x66,⟨some b3,1,42,2,1,([pB false]++[pS cI ([]:List Int)])⟩,⟨some b2,1,42,2,1,(aP.e a1)⟩,⟨some b1,1,42,2,1,(aP.e a0)⟩]∧E=[(2,.vc (pP (some b1) 0)),(3,.vc (pP (some b2) 0)),(4,.vc (pP (some b3) 0)),(6,.vc (pS cI a1.d)),(7,.vc (pO b20 x18.length x18.length)),(8,.vc (pI .i64 x36)),(10,.vc (pI .i64 x72)),(47,.vc (pS cI a0.d)),(48,.vc (pI .i64 (a0.d.length:Int))),(49,.vc (pI .i64 x36))]) ?_ (fun Jj74=>?_))))
   ·rintro _ _ ⟨x66,x72,hF,q70,rfl,rfl⟩
    unfold nA at hF
    refine aA (aE (aF ?_))
    refine aF ?_
    refine aF ?_
    refine aB (bZ rfl tyS22) ⟨rfl,trivial⟩ ?_
    obtain⟨v75,h76,hF⟩:=aO hF
    refine aB (bI rfl h76) ⟨rfl,rfl,trivial⟩ ?_
    refine aF ?_
    obtain⟨v77,h78,hF⟩:=aO hF
    refine aB (cE (C:=cI) 0 rfl tyS22 rfl q70 (aN h78).1 (aN h78).2.1) ⟨rfl,rfl,trivial⟩ ?_
    obtain⟨x79,h80,hF⟩:=aO hF
    refine aY (fL 0 rfl rfl h78 h80 tyO3.s) ⟨rfl,rfl,trivial⟩ ?_
    refine aC (bF (aA (aE ?_)))
    obtain⟨v82,h83,hF⟩:=aO hF
    refine aB (bI rfl h83) ⟨rfl,bC _ _,trivial⟩ ?_
    refine aF ?_
    refine aC ?_
    exact bG (fun a w hh=>⟨x79,v82,hF,(b0 h80 q70),bA [0,1,2,3] rfl (by decide) (by exact⟨rfl,rfl,rfl,rfl,rfl,rfl,rfl,rfl,trivial⟩) hh⟩)
   obtain⟨⟨x66',x72'⟩,hL,hRl73⟩:=aO hF
   refine gY (fun k a w=>∃(x58:List Int),∃(x64:Int),∃(x65:Int),fU K a1 x36 v48 k x58 x64 x65=some (x66',x72')∧x58.length=x18.length∧hs _ [hO cI b20 x18.length 3 x18.length x58,⟨some b3,1,42,2,1,([pB false]++[pS cI ([]:List Int)])⟩,⟨some b2,1,42,2,1,(aP.e a1)⟩,⟨some b1,1,42,2,1,(aP.e a0)⟩] [(2,.vc (pP (some b1) 0)),(3,.vc (pP (some b2) 0)),(4,.vc (pP (some b3) 0)),(6,.vc (pS cI a1.d)),(7,.vc (pO b20 x18.length x18.length)),(8,.vc (pI .i64 x36)),(9,.vc (pI .i64 v48)),(10,.vc (pI .i64 x64)),(47,.vc (pS cI a0.d)),(48,.vc (pI .i64 (a0.d.length:Int))),(49,.vc (pI .i64 x36)),(54,.vc (pS cI a1.d)),(55,.vc (pI .i64 (a1.d.length:Int))),(56,.vc (pI .i64 x65))] a w) K (fun a w ⟨_,_,_,hF,_,_⟩=>by cases hF) (fun k a w ⟨x58,x64,x65,hF,q62,hh⟩=>gX ?_ hh) (fun a w hh=>⟨x30,0,0,hL,q34,bA [0,1,2,3] rfl (by decide) (by exact⟨rfl,rfl,rfl,rfl,rfl,rfl,rfl,rfl,rfl,rfl,rfl,rfl,rfl,rfl,trivial⟩) hh⟩)
   rw [fU.eq_2] at hF
   refine aD (aE (aB (dQ rfl) ⟨rfl,rfl,trivial⟩ ?_))
   refine aC (aA (aD (bO rfl (fun h84=>?_) (fun h84=>?_))))
   ·have hF:=aT h84 hF
    refine aV (aA (aD (bN (aD (aE (aF ?_))))))
    obtain⟨v85,h86,hF⟩:=aO hF
    refine aB (dX rfl tyS22 h86) ⟨rfl,rfl,trivial⟩ ?_
    refine aB (dM 1 rfl rfl (.one tyO3)) ⟨rfl,trivial⟩ ?_
    refine bB ?_
    refine bB ?_
    refine aC (aA (aD (aE (aF ?_))))
    refine aF ?_
    refine aF ?_
    obtain⟨v87,h88,hF⟩:=aO hF
    refine aB (bI rfl h88) ⟨rfl,rfl,trivial⟩ ?_
    obtain⟨v89,h90,hF⟩:=aO hF
    refine aB (cE (C:=cI) 0 rfl tyS22 rfl q62 (aN h90).1 (aN h90).2.1) ⟨rfl,rfl,trivial⟩ ?_
    refine aB (gA (k:=1) 0 rfl rfl h90 rfl (.one tyO3) rfl) ⟨rfl,trivial⟩ ?_
    refine aF ?_
    refine aF ?_
    obtain⟨v91,h92,hF⟩:=aO hF
    refine aB (lL rfl h92) ⟨rfl,rfl,trivial⟩ ?_
    obtain⟨v93,h94,hF⟩:=aO hF
    refine aB (bI rfl h94) ⟨rfl,rfl,trivial⟩ ?_
    refine aF ?_
    obtain⟨v95,h96,hF⟩:=aO hF
    refine aB (bI rfl h96) ⟨rfl,rfl,trivial⟩ ?_
    refine bB ?_
    refine aC (aA (aD (aE (aF ?_))))
    obtain⟨v97,h98,hF⟩:=aO hF
    refine aB (oD rfl h98) ⟨rfl,bC _ _,trivial⟩ ?_
    refine bB ?_
    refine aC (aA (aE (aF ?_)))
    refine aF ?_
    refine aF ?_
    obtain⟨v99,h100,hF⟩:=aO hF
    refine aB (bI rfl h100) ⟨rfl,rfl,trivial⟩ ?_
    refine aF ?_
    refine aF ?_
    obtain⟨v101,h102,hF⟩:=aO hF
    refine aB (lL rfl h102) ⟨rfl,bC _ _,trivial⟩ ?_
    obtain⟨v103,h104,hF⟩:=aO hF
    refine aB (fH rfl h104) ⟨rfl,rfl,trivial⟩ ?_
    obtain⟨v105,h106,hF⟩:=aO hF
    refine aB (cE (C:=cI) 0 rfl tyS22 rfl q62 (aN h106).1 (aN h106).2.1) ⟨rfl,rfl,trivial⟩ ?_
    obtain⟨x107,h108,hF⟩:=aO hF
    refine aY (fL 0 rfl rfl h106 h108 tyO3.s) ⟨rfl,rfl,trivial⟩ ?_
    refine aC (bF (aA (aE ?_)))
    obtain⟨v110,h111,hF⟩:=aO hF
    refine aB (bI rfl h111) ⟨rfl,bC _ _,trivial⟩ ?_
    refine aF ?_
    refine aC ?_
    exact bG (fun a w hh=>⟨x107,v97,v110,hF,(b0 h108 q62),bA [0,1,2,3] rfl (by decide) (by exact⟨rfl,rfl,rfl,rfl,rfl,rfl,rfl,rfl,rfl,rfl,rfl,rfl,rfl,rfl,trivial⟩) hh⟩)
   have hF:=aU h84 hF
   refine dE ?_
   obtain⟨rfl,rfl⟩:=sm2 hF
   exact bS Jj74 ⟨x58,x64,hRl73,q62,rfl,rfl⟩ [0,1,2,3] rfl ⟨rfl,rfl,rfl,rfl,rfl,rfl,rfl,rfl,rfl,rfl,trivial⟩
  have hF:=aU h47 hF
  refine dE ?_
  obtain rfl:=bX hF
  exact bS Jj44 ⟨x30,hRl43,q34,rfl,rfl⟩ [0,1,2,3] rfl ⟨rfl,rfl,rfl,rfl,trivial⟩
 have hF:=aU h6 hF
 refine aJ ?_
 refine aJ ?_
 refine aJ ?_
 refine aB (bL rfl) ⟨rfl,dH _,trivial⟩ ?_
 refine aC (aA (qG rfl ?_))
 refine aV (aA (aD (aE (aF ?_))))
 refine aB (bZ rfl tyS22) ⟨rfl,trivial⟩ ?_
 refine aF ?_
 refine aB (bZ rfl tyS22) ⟨rfl,trivial⟩ ?_
 obtain⟨v112,h113,hF⟩:=aO hF
 refine aB (bI rfl h113) ⟨rfl,rfl,trivial⟩ ?_
 obtain⟨x114,h115,hF⟩:=aO hF
 refine rK (C:=cI) rfl tyS22 rfl tyZ3 rfl h115 (fun b116=>?_)
 refine bB ?_
 refine aC (aA (aD (aD (aE (aF ?_)))))
 refine aB (bZ rfl tyS22) ⟨rfl,trivial⟩ ?_
 refine aB (aL (.inl rfl)) ⟨bC _ _,trivial⟩ ?_
 refine aC (aA (bN (cL (fun H E=>∃(x133:List Int),qX K a0 a1 x133=some r∧x133.length=x114.length∧H=[hO cI b116 x114.length 3 x114.length x133,⟨some b3,1,42,2,1,([pB false]++[pS cI ([]:List Int)])⟩,⟨some b2,1,42,2,1,(aP.e a1)⟩,⟨some b1,1,42,2,1,(aP.e a0)⟩]∧E=[(2,.vc (pP (some b1) 0)),(3,.vc (pP (some b2) 0)),(4,.vc (pP (some b3) 0)),(7,.vc (pO b116 x114.length x114.length))]) ?_ (fun Jj140=>?_))))
 ·rintro _ _ ⟨x133,hF,q137,rfl,rfl⟩
  unfold qX at hF
  refine aA (aD (aE (aB (a8 (off:=0) (k:=0) rfl tyF42_0) ⟨rfl,trivial⟩ ?_)))
  refine aB (bD 3 1 rfl rfl rfl rfl (.one tyO4)) ⟨rfl,trivial⟩ ?_
  refine aB (a8 (off:=0) (k:=0) rfl tyF42_0) ⟨rfl,trivial⟩ ?_
  refine aB (bD 2 1 rfl rfl rfl rfl (.one tyO4)) ⟨rfl,trivial⟩ ?_
  refine aB (vQ rfl Tryz.underlying4) ⟨rfl,rfl,trivial⟩ ?_
  refine aF ?_
  refine xZ 0 [7,98] rfl q137 ⟨rfl,rfl,trivial⟩ rfl ?_
  obtain⟨v141,h142,hF⟩:=aO hF
  refine aB (aG rfl (gD h142) rfl) ⟨rfl,rfl,trivial⟩ ?_
  refine aY (dA 0 rfl rfl rfl tyA42.s) ⟨rfl,rfl,trivial⟩ ?_
  refine aC (aA (aX (aW ?_)))
  obtain rfl:=bX hF
  exact aI (.inl rfl) Tryz.results95 (bM 0 2 rfl rfl rfl rfl (.agg tyA42) .nil) rfl rfl
 obtain⟨x133',hL,hRl139⟩:=aO hF
 refine gY (fun k a w=>∃(x126:List Int),∃(x132:Int),iT K a0 a1 k x126 x132=some x133'∧x126.length=x114.length∧hs _ [hO cI b116 x114.length 3 x114.length x126,⟨some b3,1,42,2,1,([pB false]++[pS cI ([]:List Int)])⟩,⟨some b2,1,42,2,1,(aP.e a1)⟩,⟨some b1,1,42,2,1,(aP.e a0)⟩] [(2,.vc (pP (some b1) 0)),(3,.vc (pP (some b2) 0)),(4,.vc (pP (some b3) 0)),(6,.vc (pS cI a1.d)),(7,.vc (pO b116 x114.length x114.length)),(47,.vc (pS cI a0.d)),(48,.vc (pI .i64 (a0.d.length:Int))),(49,.vc (pI .i64 x132))] a w) K (fun a w ⟨_,_,hF,_,_⟩=>by cases hF) (fun k a w ⟨x126,x132,hF,q130,hh⟩=>gX ?_ hh) (fun a w hh=>⟨x114,0,hL,rfl,bA [0,1,2,3] rfl (by decide) (by exact⟨rfl,rfl,rfl,rfl,rfl,rfl,rfl,rfl,trivial⟩) hh⟩)
 rw [iT.eq_2] at hF
 refine aD (aE (aB (dQ rfl) ⟨rfl,rfl,trivial⟩ ?_))
 refine aC (aA (aD (bO rfl (fun h143=>?_) (fun h143=>?_))))
 ·have hF:=aT h143 hF
  refine aV (aA (aD (bN (aD (aE (aF ?_))))))
  obtain⟨v144,h145,hF⟩:=aO hF
  refine aB (dX rfl tyS22 h145) ⟨rfl,rfl,trivial⟩ ?_
  refine aB (dM 1 rfl rfl (.one tyO3)) ⟨rfl,trivial⟩ ?_
  refine bB ?_
  refine bB ?_
  refine aC (aA (aD (aE (aB (aL (.inr rfl)) ⟨bC _ _,trivial⟩ ?_))))
  refine aC (aA (aD (aD (aE (aF ?_)))))
  refine aB (bZ rfl tyS22) ⟨rfl,trivial⟩ ?_
  refine aB (aL (.inl rfl)) ⟨bC _ _,trivial⟩ ?_
  refine aC (aA (bN (cL (fun H E=>∃(x162:List Int),∃(x168:Int),oU K a1 x132 (iT K a0 a1 k) x162 x168=some x133'∧x162.length=x114.length∧H=[hO cI b116 x114.length 3 x114.length x162,⟨some b3,1,42,2,1,([pB false]++[pS cI ([]:List Int)])⟩,⟨some b2,1,42,2,1,(aP.e a1)⟩,⟨some b1,1,42,2,1,(aP.e a0)⟩]∧E=[(2,.vc (pP (some b1) 0)),(3,.vc (pP (some b2) 0)),(4,.vc (pP (some b3) 0)),(6,.vc (pS cI a1.d)),(7,.vc (pO b116 x114.length x114.length)),(8,.vc (pI .i64 x132)),(10,.vc (pI .i64 x168)),(47,.vc (pS cI a0.d)),(48,.vc (pI .i64 (a0.d.length:Int))),(49,.vc (pI .i64 x132))]) ?_ (fun Jj170=>?_))))
  ·rintro _ _ ⟨x162,x168,hF,q166,rfl,rfl⟩
   unfold oU at hF
   refine aA (aE (aF ?_))
   refine aF ?_
   refine aF ?_
   refine aB (bZ rfl tyS22) ⟨rfl,trivial⟩ ?_
   obtain⟨v171,h172,hF⟩:=aO hF
   refine aB (bI rfl h172) ⟨rfl,rfl,trivial⟩ ?_
   refine aF ?_
   obtain⟨v173,h174,hF⟩:=aO hF
   refine aB (cE (C:=cI) 0 rfl tyS22 rfl q166 (aN h174).1 (aN h174).2.1) ⟨rfl,rfl,trivial⟩ ?_
   obtain⟨x175,h176,hF⟩:=aO hF
   refine aY (fL 0 rfl rfl h174 h176 tyO3.s) ⟨rfl,rfl,trivial⟩ ?_
   refine aC (bF (aA (aE ?_)))
   obtain⟨v178,h179,hF⟩:=aO hF
   refine aB (bI rfl h179) ⟨rfl,bC _ _,trivial⟩ ?_
   refine aF ?_
   refine aC ?_
   exact bG (fun a w hh=>⟨x175,v178,hF,(b0 h176 q166),bA [0,1,2,3] rfl (by decide) (by exact⟨rfl,rfl,rfl,rfl,rfl,rfl,rfl,rfl,trivial⟩) hh⟩)
  obtain⟨⟨x162',x168'⟩,hL,hRl169⟩:=aO hF
  refine gY (fun k a w=>∃(x154:List Int),∃(x160:Int),∃(x161:Int),kK K a1 x132 v144 k x154 x160 x161=some (x162',x168')∧x154.length=x114.length∧hs _ [hO cI b116 x114.length 3 x114.length x154,⟨some b3,1,42,2,1,([pB false]++[pS cI ([]:List Int)])⟩,⟨some b2,1,42,2,1,(aP.e a1)⟩,⟨some b1,1,42,2,1,(aP.e a0)⟩] [(2,.vc (pP (some b1) 0)),(3,.vc (pP (some b2) 0)),(4,.vc (pP (some b3) 0)),(6,.vc (pS cI a1.d)),(7,.vc (pO b116 x114.length x114.length)),(8,.vc (pI .i64 x132)),(9,.vc (pI .i64 v144)),(10,.vc (pI .i64 x160)),(47,.vc (pS cI a0.d)),(48,.vc (pI .i64 (a0.d.length:Int))),(49,.vc (pI .i64 x132)),(54,.vc (pS cI a1.d)),(55,.vc (pI .i64 (a1.d.length:Int))),(56,.vc (pI .i64 x161))] a w) K (fun a w ⟨_,_,_,hF,_,_⟩=>by cases hF) (fun k a w ⟨x154,x160,x161,hF,q158,hh⟩=>gX ?_ hh) (fun a w hh=>⟨x126,0,0,hL,q130,bA [0,1,2,3] rfl (by decide) (by exact⟨rfl,rfl,rfl,rfl,rfl,rfl,rfl,rfl,rfl,rfl,rfl,rfl,rfl,rfl,trivial⟩) hh⟩)
  rw [kK.eq_2] at hF
  refine aD (aE (aB (dQ rfl) ⟨rfl,rfl,trivial⟩ ?_))
  refine aC (aA (aD (bO rfl (fun h180=>?_) (fun h180=>?_))))
  ·have hF:=aT h180 hF
   refine aV (aA (aD (bN (aD (aE (aF ?_))))))
   obtain⟨v181,h182,hF⟩:=aO hF
   refine aB (dX rfl tyS22 h182) ⟨rfl,rfl,trivial⟩ ?_
   refine aB (dM 1 rfl rfl (.one tyO3)) ⟨rfl,trivial⟩ ?_
   refine bB ?_
   refine bB ?_
   refine aC (aA (aD (aE (aF ?_))))
   refine aF ?_
   refine aF ?_
   obtain⟨v183,h184,hF⟩:=aO hF
   refine aB (bI rfl h184) ⟨rfl,rfl,trivial⟩ ?_
   obtain⟨v185,h186,hF⟩:=aO hF
   refine aB (cE (C:=cI) 0 rfl tyS22 rfl q158 (aN h186).1 (aN h186).2.1) ⟨rfl,rfl,trivial⟩ ?_
   refine aB (gA (k:=1) 0 rfl rfl h186 rfl (.one tyO3) rfl) ⟨rfl,trivial⟩ ?_
   refine aF ?_
   refine aF ?_
   obtain⟨v187,h188,hF⟩:=aO hF
   refine aB (lL rfl h188) ⟨rfl,rfl,trivial⟩ ?_
   obtain⟨v189,h190,hF⟩:=aO hF
   refine aB (bI rfl h190) ⟨rfl,rfl,trivial⟩ ?_
   refine aF ?_
   obtain⟨v191,h192,hF⟩:=aO hF
   refine aB (bI rfl h192) ⟨rfl,rfl,trivial⟩ ?_
   refine bB ?_
   refine aC (aA (aD (aE (aF ?_))))
   obtain⟨v193,h194,hF⟩:=aO hF
   refine aB (oD rfl h194) ⟨rfl,bC _ _,trivial⟩ ?_
   refine bB ?_
   refine aC (aA (aE (aF ?_)))
   refine aF ?_
   refine aF ?_
   obtain⟨v195,h196,hF⟩:=aO hF
   refine aB (bI rfl h196) ⟨rfl,rfl,trivial⟩ ?_
   refine aF ?_
   refine aF ?_
   obtain⟨v197,h198,hF⟩:=aO hF
   refine aB (lL rfl h198) ⟨rfl,bC _ _,trivial⟩ ?_
   obtain⟨v199,h200,hF⟩:=aO hF
   refine aB (fH rfl h200) ⟨rfl,rfl,trivial⟩ ?_
   obtain⟨v201,h202,hF⟩:=aO hF
   refine aB (cE (C:=cI) 0 rfl tyS22 rfl q158 (aN h202).1 (aN h202).2.1) ⟨rfl,rfl,trivial⟩ ?_
   obtain⟨x203,h204,hF⟩:=aO hF
   refine aY (fL 0 rfl rfl h202 h204 tyO3.s) ⟨rfl,rfl,trivial⟩ ?_
   refine aC (bF (aA (aE ?_)))
   obtain⟨v206,h207,hF⟩:=aO hF
   refine aB (bI rfl h207) ⟨rfl,bC _ _,trivial⟩ ?_
   refine aF ?_
   refine aC ?_
   exact bG (fun a w hh=>⟨x203,v193,v206,hF,(b0 h204 q158),bA [0,1,2,3] rfl (by decide) (by exact⟨rfl,rfl,rfl,rfl,rfl,rfl,rfl,rfl,rfl,rfl,rfl,rfl,rfl,rfl,trivial⟩) hh⟩)
  have hF:=aU h180 hF
  refine dE ?_
  obtain⟨rfl,rfl⟩:=sm2 hF
  exact bS Jj170 ⟨x154,x160,hRl169,q158,rfl,rfl⟩ [0,1,2,3] rfl ⟨rfl,rfl,rfl,rfl,rfl,rfl,rfl,rfl,rfl,rfl,trivial⟩
 have hF:=aU h143 hF
 refine dE ?_
 obtain rfl:=bX hF
 exact bS Jj140 ⟨x126,hRl139,q130,rfl,rfl⟩ [0,1,2,3] rfl ⟨rfl,rfl,rfl,rfl,trivial⟩
def oG (K:Nat) (x2:List Int) (x28:List Int) (x34:Int):Option (List Int):=
 (dO x28 (x2.length:Int)).bind fun v37=>(n8 x28 (x2.length:Int) x34).bind fun x39=>some x39
def dL (K:Nat) (x2:List Int) (x3:List Int):Nat→(List Int)→Int→Int→Option ((List Int)×Int)
 |0,_,_,_=>none
 |k+1,x20,x26,x27=>bif(decide (x27<(x2.length:Int))) then((dO x2 x27).bind fun v43=>(bQ (v43+x26)).bind fun v45=>bif(decide (x27<(x3.length:Int))) then((dO x3 x27).bind fun v48=>(bQ (v45+v48)).bind fun v50=>bif(decide (1000000000≤v50)) then((bQ (v50-1000000000)).bind fun v53=>(dO x20 x27).bind fun v55=>(n8 x20 x27 v53).bind fun x57=>(bQ (x27+1)).bind fun v60=>dL K x2 x3 k x57 1 v60) else((dO x20 x27).bind fun v62=>(n8 x20 x27 v50).bind fun x64=>(bQ (x27+1)).bind fun v67=>dL K x2 x3 k x64 0 v67)) else(bif(decide (1000000000≤v45)) then((bQ (v45-1000000000)).bind fun v70=>(dO x20 x27).bind fun v72=>(n8 x20 x27 v70).bind fun x74=>(bQ (x27+1)).bind fun v77=>dL K x2 x3 k x74 1 v77) else((dO x20 x27).bind fun v79=>(n8 x20 x27 v45).bind fun x81=>(bQ (x27+1)).bind fun v84=>dL K x2 x3 k x81 0 v84))) else(some (x20,x26))
def lC (K:Nat) (x2:List Int) (x3:List Int):Option (List Int):=
 (bQ ((x2.length:Int)+1)).bind fun v5=>(s6 v5 0).bind fun x7=>(dL K x2 x3 K x7 0 0).bind fun(x28,x34)=>oG K x2 x28 x34
def mC (K:Nat) (a0:List Int) (a1:List Int):Option (List Int):=
 bif(decide ((a0.length:Int)<(a1.length:Int))) then(lC K a1 a0) else(lC K a0 a1)
theorem uX {K:Nat} {a0:List Int} {a1:List Int} {r:List Int} (hF:mC K a0 a1=some r):Ct Tryz.prog 187 [.vc (pS cI a0),.vc (pS cI a1)] (.vc (pS cI r)):=by
 unfold mC at hF
 refine a9 Tryz.func187 rfl (by kernel_rfl) Tryz.ntmps187 rfl (fun w0 M0=>?_)
 refine aD (aE (aB (aL (.inr rfl)) ⟨eJ cI,trivial⟩ ?_))
 refine aC (aA (aD (rB (fun H E=>∃(x2:List Int),∃(x3:List Int),lC K x2 x3=some r∧H=[]∧E=[(0,.vc (pS cI x2)),(1,.vc (pS cI x3))]) ?_ (fun Jj4=>?_))))
 ·rintro _ _ ⟨x2,x3,hF,rfl,rfl⟩
  unfold lC at hF
  refine aD (aE (aF ?_))
  refine aB (bZ rfl tyS22) ⟨rfl,trivial⟩ ?_
  obtain⟨v5,h6,hF⟩:=aO hF
  refine aB (bI rfl h6) ⟨rfl,bC _ _,trivial⟩ ?_
  obtain⟨x7,h8,hF⟩:=aO hF
  refine rK (C:=cI) rfl tyS22 rfl tyZ3 rfl h8 (fun b9=>?_)
  refine bB ?_
  refine aC (aA (aD (aE (aB (aL (.inr rfl)) ⟨bC _ _,trivial⟩ ?_))))
  refine aC (aA (aD (aD (aE (aF ?_)))))
  refine aB (bZ rfl tyS22) ⟨rfl,trivial⟩ ?_
  refine aB (aL (.inl rfl)) ⟨bC _ _,trivial⟩ ?_
  refine aC (aA (bN (cL (fun H E=>∃(x28:List Int),∃(x34:Int),oG K x2 x28 x34=some r∧x28.length=x7.length∧H=[hO cI b9 x7.length 3 x7.length x28]∧E=[(0,.vc (pS cI x2)),(5,.vc (pO b9 x7.length x7.length)),(6,.vc (pI .i64 x34))]) ?_ (fun Jj36=>?_))))
  ·rintro _ _ ⟨x28,x34,hF,q32,rfl,rfl⟩
   unfold oG at hF
   refine aA (aD (aE (aF ?_)))
   refine aF ?_
   refine aB (bZ rfl tyS22) ⟨rfl,trivial⟩ ?_
   refine aF ?_
   obtain⟨v37,h38,hF⟩:=aO hF
   refine aB (cE (C:=cI) 0 rfl tyS22 rfl q32 (aN h38).1 (aN h38).2.1) ⟨rfl,rfl,trivial⟩ ?_
   obtain⟨x39,h40,hF⟩:=aO hF
   refine aY (fL 0 rfl rfl h38 h40 tyO3.s) ⟨rfl,rfl,trivial⟩ ?_
   refine aC (aA (aD (aE (aF ?_))))
   refine bB ?_
   refine aC (aA (aX (aW (t5 0 [4,5,50,55] rfl (b0 h40 q32) ⟨rfl,rfl,rfl,rfl,trivial⟩ rfl ?_))))
   obtain rfl:=bX hF
   exact aI (.inl rfl) Tryz.results187 (.tmp rfl .nil) rfl rfl
  obtain⟨⟨x28',x34'⟩,hL,hRl35⟩:=aO hF
  refine gY (fun k a w=>∃(x20:List Int),∃(x26:Int),∃(x27:Int),dL K x2 x3 k x20 x26 x27=some (x28',x34')∧x20.length=x7.length∧hs _ [hO cI b9 x7.length 3 x7.length x20] [(0,.vc (pS cI x2)),(1,.vc (pS cI x3)),(5,.vc (pO b9 x7.length x7.length)),(6,.vc (pI .i64 x26)),(21,.vc (pS cI x2)),(22,.vc (pI .i64 (x2.length:Int))),(23,.vc (pI .i64 x27))] a w) K (fun a w ⟨_,_,_,hF,_,_⟩=>by cases hF) (fun k a w ⟨x20,x26,x27,hF,q24,hh⟩=>gX ?_ hh) (fun a w hh=>⟨x7,0,0,hL,rfl,bA [0] rfl (by decide) (by exact⟨rfl,rfl,rfl,rfl,rfl,rfl,rfl,trivial⟩) hh⟩)
  rw [dL.eq_2] at hF
  refine aD (aE (aB (dQ rfl) ⟨rfl,rfl,trivial⟩ ?_))
  refine aC (aA (aD (bO rfl (fun h42=>?_) (fun h42=>?_))))
  ·have hF:=aT h42 hF
   refine aV (aA (aD (bN (aD (aE (aF ?_))))))
   obtain⟨v43,h44,hF⟩:=aO hF
   refine aB (dX rfl tyS22 h44) ⟨rfl,rfl,trivial⟩ ?_
   refine aB (dM 1 rfl rfl (.one tyO3)) ⟨rfl,trivial⟩ ?_
   refine bB ?_
   refine bB ?_
   refine aC (aA (aD (aE (aF ?_))))
   refine aF ?_
   obtain⟨v45,h46,hF⟩:=aO hF
   refine aB (bI rfl h46) ⟨rfl,rfl,trivial⟩ ?_
   refine bB ?_
   refine aC (aA (aD (aD (aE (aF ?_)))))
   refine aF ?_
   refine aB (bZ rfl tyS22) ⟨rfl,trivial⟩ ?_
   refine aB (dQ rfl) ⟨rfl,rfl,trivial⟩ ?_
   refine aC (aA (bO rfl (fun h47=>?_) (fun h47=>?_)))
   ·have hF:=aT h47 hF
    refine aE (aF ?_)
    refine aF ?_
    refine aF ?_
    obtain⟨v48,h49,hF⟩:=aO hF
    refine aB (dX rfl tyS22 h49) ⟨rfl,rfl,trivial⟩ ?_
    refine aB (dM 1 rfl rfl (.one tyO3)) ⟨rfl,trivial⟩ ?_
    obtain⟨v50,h51,hF⟩:=aO hF
    refine aB (bI rfl h51) ⟨rfl,rfl,trivial⟩ ?_
    refine bB ?_
    refine aC (aA (aD (aE (aB (aL (.inr rfl)) ⟨bC _ _,trivial⟩ ?_))))
    refine aC (aA (aD (aD (aE (aF ?_)))))
    refine aB (sB rfl) ⟨rfl,bC _ _,trivial⟩ ?_
    refine aC (aA (bO rfl (fun h52=>?_) (fun h52=>?_)))
    ·have hF:=aT h52 hF
     refine aE (aF ?_)
     obtain⟨v53,h54,hF⟩:=aO hF
     refine aB (fH rfl h54) ⟨rfl,bC _ _,trivial⟩ ?_
     refine bB ?_
     refine aB (aL (.inr rfl)) ⟨bC _ _,trivial⟩ ?_
     refine aC (aA (aE (aF ?_)))
     refine aF ?_
     refine aF ?_
     obtain⟨v55,h56,hF⟩:=aO hF
     refine aB (cE (C:=cI) 0 rfl tyS22 rfl q24 (aN h56).1 (aN h56).2.1) ⟨rfl,rfl,trivial⟩ ?_
     obtain⟨x57,h58,hF⟩:=aO hF
     refine aY (fL 0 rfl rfl h56 h58 tyO3.s) ⟨rfl,rfl,trivial⟩ ?_
     refine aC (bF (aA (aE ?_)))
     obtain⟨v60,h61,hF⟩:=aO hF
     refine aB (bI rfl h61) ⟨rfl,bC _ _,trivial⟩ ?_
     refine aF ?_
     refine aC ?_
     exact bG (fun a w hh=>⟨x57,1,v60,hF,(b0 h58 q24),bA [0] rfl (by decide) (by exact⟨rfl,rfl,rfl,rfl,rfl,rfl,rfl,trivial⟩) hh⟩)
    have hF:=aU h52 hF
    refine aV (aA (aE (aF ?_)))
    refine aF ?_
    refine aF ?_
    obtain⟨v62,h63,hF⟩:=aO hF
    refine aB (cE (C:=cI) 0 rfl tyS22 rfl q24 (aN h63).1 (aN h63).2.1) ⟨rfl,rfl,trivial⟩ ?_
    obtain⟨x64,h65,hF⟩:=aO hF
    refine aY (fL 0 rfl rfl h63 h65 tyO3.s) ⟨rfl,rfl,trivial⟩ ?_
    refine aC (bF (aA (aE ?_)))
    obtain⟨v67,h68,hF⟩:=aO hF
    refine aB (bI rfl h68) ⟨rfl,bC _ _,trivial⟩ ?_
    refine aF ?_
    refine aC ?_
    exact bG (fun a w hh=>⟨x64,0,v67,hF,(b0 h65 q24),bA [0] rfl (by decide) (by exact⟨rfl,rfl,rfl,rfl,rfl,rfl,rfl,trivial⟩) hh⟩)
   have hF:=aU h47 hF
   refine aV (aA (aD (aE (aB (aL (.inr rfl)) ⟨bC _ _,trivial⟩ ?_))))
   refine aC (aA (aD (aD (aE (aF ?_)))))
   refine aB (sB rfl) ⟨rfl,bC _ _,trivial⟩ ?_
   refine aC (aA (bO rfl (fun h69=>?_) (fun h69=>?_)))
   ·have hF:=aT h69 hF
    refine aE (aF ?_)
    obtain⟨v70,h71,hF⟩:=aO hF
    refine aB (fH rfl h71) ⟨rfl,bC _ _,trivial⟩ ?_
    refine bB ?_
    refine aB (aL (.inr rfl)) ⟨bC _ _,trivial⟩ ?_
    refine aC (aA (aE (aF ?_)))
    refine aF ?_
    refine aF ?_
    obtain⟨v72,h73,hF⟩:=aO hF
    refine aB (cE (C:=cI) 0 rfl tyS22 rfl q24 (aN h73).1 (aN h73).2.1) ⟨rfl,rfl,trivial⟩ ?_
    obtain⟨x74,h75,hF⟩:=aO hF
    refine aY (fL 0 rfl rfl h73 h75 tyO3.s) ⟨rfl,rfl,trivial⟩ ?_
    refine aC (bF (aA (aE ?_)))
    obtain⟨v77,h78,hF⟩:=aO hF
    refine aB (bI rfl h78) ⟨rfl,bC _ _,trivial⟩ ?_
    refine aF ?_
    refine aC ?_
    exact bG (fun a w hh=>⟨x74,1,v77,hF,(b0 h75 q24),bA [0] rfl (by decide) (by exact⟨rfl,rfl,rfl,rfl,rfl,rfl,rfl,trivial⟩) hh⟩)
   have hF:=aU h69 hF
   refine aV (aA (aE (aF ?_)))
   refine aF ?_
   refine aF ?_
   obtain⟨v79,h80,hF⟩:=aO hF
   refine aB (cE (C:=cI) 0 rfl tyS22 rfl q24 (aN h80).1 (aN h80).2.1) ⟨rfl,rfl,trivial⟩ ?_
   obtain⟨x81,h82,hF⟩:=aO hF
   refine aY (fL 0 rfl rfl h80 h82 tyO3.s) ⟨rfl,rfl,trivial⟩ ?_
   refine aC (bF (aA (aE ?_)))
   obtain⟨v84,h85,hF⟩:=aO hF
   refine aB (bI rfl h85) ⟨rfl,bC _ _,trivial⟩ ?_
   refine aF ?_
   refine aC ?_
   exact bG (fun a w hh=>⟨x81,0,v84,hF,(b0 h82 q24),bA [0] rfl (by decide) (by exact⟨rfl,rfl,rfl,rfl,rfl,rfl,rfl,trivial⟩) hh⟩)
  have hF:=aU h42 hF
  refine dE ?_
  obtain⟨rfl,rfl⟩:=sm2 hF
  exact bS Jj36 ⟨x20,x26,hRl35,q24,rfl,rfl⟩ [0] rfl ⟨rfl,rfl,rfl,trivial⟩
 refine aD (aE (aF ?_))
 refine aB (bZ rfl tyS22) ⟨rfl,trivial⟩ ?_
 refine aF ?_
 refine aB (bZ rfl tyS22) ⟨rfl,trivial⟩ ?_
 refine aB (dQ rfl) ⟨rfl,rfl,trivial⟩ ?_
 refine aC (aA (bO rfl (fun h86=>?_) (fun h86=>?_)))
 ·have hF:=aT h86 hF
  refine aE (aF ?_)
  refine aF ?_
  refine bB ?_
  refine bB ?_
  refine aC ?_
  exact bS Jj4 ⟨a1,a0,hF,rfl,rfl⟩ [] rfl ⟨rfl,rfl,trivial⟩
 have hF:=aU h86 hF
 refine aV ?_
 exact bS Jj4 ⟨a0,a1,hF,rfl,rfl⟩ [] rfl ⟨rfl,rfl,trivial⟩
def kI (a0:Int):Option Bool:=
 some (a0 != a0)
theorem q0 {a0:Int} {r:Bool} (hF:kI a0=some r):Ct Tryz.prog 261 [.vc (pI .i64 a0)] (.vc (pB r)):=by
 unfold kI at hF
 refine a9 Tryz.func261 rfl (by kernel_rfl) Tryz.ntmps261 rfl (fun w0 M0=>?_)
 refine aD (aE (aB (aL (.inr rfl)) ⟨dH _,trivial⟩ ?_))
 refine aC (aA (aD (aE (aF ?_))))
 refine aF ?_
 refine aB (sC rfl) ⟨rfl,rfl,trivial⟩ ?_
 refine bB ?_
 refine aC (aA (aX (aW ?_)))
 obtain rfl:=bX hF
 exact aI (.inl rfl) Tryz.results261 (.tmp rfl .nil) rfl rfl
def fY (a0:Int) (a1:Int):Option Int:=
 (kI a0).bind fun v1=>(kI a1).bind fun v3=>bif v1 then(bif v3 then(some 0) else(some (-1))) else(bif v3 then(some 1) else(bif(decide (a0<a1)) then(some (-1)) else(bif(decide (a1<a0)) then(some 1) else(some 0))))
theorem pV {a0:Int} {a1:Int} {r:Int} (hF:fY a0 a1=some r):Ct Tryz.prog 233 [.vc (pI .i64 a0),.vc (pI .i64 a1)] (.vc (pI .i64 r)):=by
 unfold fY at hF
 refine a9 Tryz.func233 rfl (by kernel_rfl) Tryz.ntmps233 rfl (fun w0 M0=>?_)
 refine aD (aE (aB (aL (.inr rfl)) ⟨bC _ _,trivial⟩ ?_))
 refine aC (aA (aD (aE (aF ?_))))
 obtain⟨v1,h2,hF⟩:=aO hF
 refine aB (aG rfl (q0 h2) rfl) ⟨rfl,trivial⟩ ?_
 refine bB ?_
 refine aC (aA (aD (aE (aF ?_))))
 obtain⟨v3,h4,hF⟩:=aO hF
 refine aB (aG rfl (q0 h4) rfl) ⟨rfl,trivial⟩ ?_
 refine bB ?_
 refine aC (aA (aD (aD (aE (aF ?_)))))
 refine aC (aA (bO rfl (fun h5=>?_) (fun h5=>?_)))
 ·have hF:=aT h5 hF
  refine aD (aD (aE (aF ?_)))
  refine aC (aA (bO rfl (fun h6=>?_) (fun h6=>?_)))
  ·have hF:=aT h6 hF
   refine aD (aE (aB (aL (.inr rfl)) ⟨bC _ _,trivial⟩ ?_))
   refine aC (aA (aX (aW ?_)))
   obtain rfl:=bX hF
   exact aI (.inl rfl) Tryz.results233 (.tmp rfl .nil) rfl rfl
  have hF:=aU h6 hF
  refine aV (aA (aD (aE (aB (aL (.inr rfl)) ⟨bC _ _,trivial⟩ ?_))))
  refine aC (aA (aX (aW ?_)))
  obtain rfl:=bX hF
  exact aI (.inl rfl) Tryz.results233 (.tmp rfl .nil) rfl rfl
 have hF:=aU h5 hF
 refine aV (aA (aD (aD (aE (aF ?_)))))
 refine aC (aA (bO rfl (fun h7=>?_) (fun h7=>?_)))
 ·have hF:=aT h7 hF
  refine aD (aE (aB (aL (.inr rfl)) ⟨bC _ _,trivial⟩ ?_))
  refine aC (aA (aX (aW ?_)))
  obtain rfl:=bX hF
  exact aI (.inl rfl) Tryz.results233 (.tmp rfl .nil) rfl rfl
 have hF:=aU h7 hF
 refine aV (aA (aD (aD (aE (aF ?_)))))
 refine aF ?_
 refine aB (dQ rfl) ⟨rfl,rfl,trivial⟩ ?_
 refine aC (aA (bO rfl (fun h8=>?_) (fun h8=>?_)))
 ·have hF:=aT h8 hF
  refine aD (aE (aB (aL (.inr rfl)) ⟨bC _ _,trivial⟩ ?_))
  refine aC (aA (aX (aW ?_)))
  obtain rfl:=bX hF
  exact aI (.inl rfl) Tryz.results233 (.tmp rfl .nil) rfl rfl
 have hF:=aU h8 hF
 refine aV (aA (aD (aD (aE (aF ?_)))))
 refine aF ?_
 refine aB (p8 rfl) ⟨rfl,rfl,trivial⟩ ?_
 refine aC (aA (bO rfl (fun h9=>?_) (fun h9=>?_)))
 ·have hF:=aT h9 hF
  refine aD (aE (aB (aL (.inr rfl)) ⟨bC _ _,trivial⟩ ?_))
  refine aC (aA (aX (aW ?_)))
  obtain rfl:=bX hF
  exact aI (.inl rfl) Tryz.results233 (.tmp rfl .nil) rfl rfl
 have hF:=aU h9 hF
 refine aV (aA (aD (aE (aB (aL (.inr rfl)) ⟨bC _ _,trivial⟩ ?_))))
 refine aC (aA (aX (aW ?_)))
 obtain rfl:=bX hF
 exact aI (.inl rfl) Tryz.results233 (.tmp rfl .nil) rfl rfl
def pU (K:Nat):Option Int:=
 some 0
def fG (K:Nat) (a0:List Int) (a1:List Int):Nat→Int→Option (LR Int Unit)
 |0,_=>none
 |k+1,x7=>bif(decide (0≤x7)) then((dO a0 x7).bind fun v13=>(dO a1 x7).bind fun v15=>bif(v13 != v15) then((dO a0 x7).bind fun v20=>(dO a1 x7).bind fun v22=>(fY v20 v22).bind fun v24=>some (.ret v24)) else((bQ (x7-1)).bind fun v26=>fG K a0 a1 k v26)) else(some (.go ()))
def fF (K:Nat) (a0:List Int) (a1:List Int):Option Int:=
 bif((a0.length:Int) != (a1.length:Int)) then((fY (a0.length:Int) (a1.length:Int)).bind fun v2=>some v2) else((bQ ((a0.length:Int)-1)).bind fun v4=>(fG K a0 a1 K v4).bind fun o=>match o with| .ret r=>some r| .go _=>pU K)
theorem kP {K:Nat} {a0:List Int} {a1:List Int} {r:Int} (hF:fF K a0 a1=some r):Ct Tryz.prog 188 [.vc (pS cI a0),.vc (pS cI a1)] (.vc (pI .i64 r)):=by
 unfold fF at hF
 refine a9 Tryz.func188 rfl (by kernel_rfl) Tryz.ntmps188 rfl (fun w0 M0=>?_)
 refine aD (aE (aB (aL (.inr rfl)) ⟨bC _ _,trivial⟩ ?_))
 refine aC (aA (aD (aD (aE (aF ?_)))))
 refine aB (bZ rfl tyS22) ⟨rfl,trivial⟩ ?_
 refine aF ?_
 refine aB (bZ rfl tyS22) ⟨rfl,trivial⟩ ?_
 refine aB (sC rfl) ⟨rfl,rfl,trivial⟩ ?_
 refine aC (aA (bO rfl (fun h1=>?_) (fun h1=>?_)))
 ·have hF:=aT h1 hF
  refine aD (aE (aF ?_))
  refine aB (bZ rfl tyS22) ⟨rfl,trivial⟩ ?_
  refine aF ?_
  refine aB (bZ rfl tyS22) ⟨rfl,trivial⟩ ?_
  obtain⟨v2,h3,hF⟩:=aO hF
  refine aB (aG rfl (pV h3) rfl) ⟨rfl,rfl,trivial⟩ ?_
  refine bB ?_
  refine aC (aA (aX (aW ?_)))
  obtain rfl:=bX hF
  exact aI (.inl rfl) Tryz.results188 (.tmp rfl .nil) rfl rfl
 have hF:=aU h1 hF
 refine aV (aA (aD (aD (aE (aF ?_)))))
 refine aB (bZ rfl tyS22) ⟨rfl,trivial⟩ ?_
 obtain⟨v4,h5,hF⟩:=aO hF
 refine aB (fH rfl h5) ⟨rfl,bC _ _,trivial⟩ ?_
 refine bB ?_
 refine aC (aA (bN (cL (fun H E=>pU K=some r∧H=[]∧E=[]) ?_ (fun Jj9=>?_))))
 ·rintro _ _ ⟨hF,rfl,rfl⟩
  unfold pU at hF
  refine aA (aD (aE (aB (aL (.inr rfl)) ⟨bC _ _,trivial⟩ ?_)))
  refine aC (aA (aX (aW ?_)))
  obtain rfl:=bX hF
  exact aI (.inl rfl) Tryz.results188 (.tmp rfl .nil) rfl rfl
 obtain⟨ol8,hL,hRl8⟩:=aO hF
 refine gY (fun k a w=>∃(x7:Int),fG K a0 a1 k x7=some ol8∧hs _ [] [(0,.vc (pS cI a0)),(1,.vc (pS cI a1)),(5,.vc (pI .i64 x7))] a w) K (fun a w ⟨_,hF,_⟩=>by cases hF) (fun k a w ⟨x7,hF,hh⟩=>gX ?_ hh) (fun a w hh=>⟨v4,hL,bA [] rfl (by decide) (by exact⟨rfl,rfl,rfl,trivial⟩) hh⟩)
 rw [fG.eq_2] at hF
 refine aD (aD (aE (aF ?_)))
 refine aB (sB rfl) ⟨rfl,bC _ _,trivial⟩ ?_
 refine aC (aA (bO rfl (fun h10=>?_) (fun h10=>?_)))
 ·have hF:=aT h10 hF
  refine aV (aA (aD (bN (aD ?_))))
  obtain⟨v13,h14,hF⟩:=aO hF
  obtain⟨v15,h16,hF⟩:=aO hF
  refine bP [0,0,3,7,0,0,48,112,255] 9 0 [.v (.vc (pS cI a0)),.v (.vc (pI .i64 x7)),.v (.vc (pM (cI.e v13))),.v (.vc (pI .i64 v13)),.v (.vc (pS cI a1)),.v (.vc (pI .i64 x7)),.v (.vc (pM (cI.e v15))),.v (.vc (pI .i64 v15)),.v (.vc (pB (v13 != v15)))] aR ⟨d0 (aL (.inl rfl)) ⟨rfl,trivial⟩,d0 (aL (.inl rfl)) ⟨rfl,trivial⟩,d0 (dX rfl tyS22 h14) ⟨rfl,rfl,trivial⟩,d0 (dM 1 rfl rfl (.one tyO3)) ⟨rfl,trivial⟩,d0 (aL (.inl rfl)) ⟨rfl,trivial⟩,d0 (aL (.inl rfl)) ⟨rfl,trivial⟩,d0 (dX rfl tyS22 h16) ⟨rfl,rfl,trivial⟩,d0 (dM 1 rfl rfl (.one tyO3)) ⟨rfl,trivial⟩,d0 (sC rfl) ⟨rfl,rfl,trivial⟩,trivial⟩ (fun bs12 G11=>?_)
  refine aC (aA (bO rfl (fun h17=>?_) (fun h17=>?_)))
  ·have hF:=aT h17 hF
   refine aD ?_
   obtain⟨v20,h21,hF⟩:=aO hF
   obtain⟨v22,h23,hF⟩:=aO hF
   obtain⟨v24,h25,hF⟩:=aO hF
   refine bP [0,0,3,7,0,0,48,112,255,511] 10 0 [.v (.vc (pS cI a0)),.v (.vc (pI .i64 x7)),.v (.vc (pM (cI.e v20))),.v (.vc (pI .i64 v20)),.v (.vc (pS cI a1)),.v (.vc (pI .i64 x7)),.v (.vc (pM (cI.e v22))),.v (.vc (pI .i64 v22)),.v (.vc (pI .i64 v24)),.v (.vc (pI .i64 v24))] aR ⟨d0 (aL (.inl rfl)) ⟨rfl,trivial⟩,d0 (aL (.inl rfl)) ⟨rfl,trivial⟩,d0 (dX rfl tyS22 h21) ⟨rfl,rfl,trivial⟩,d0 (dM 1 rfl rfl (.one tyO3)) ⟨rfl,trivial⟩,d0 (aL (.inl rfl)) ⟨rfl,trivial⟩,d0 (aL (.inl rfl)) ⟨rfl,trivial⟩,d0 (dX rfl tyS22 h23) ⟨rfl,rfl,trivial⟩,d0 (dM 1 rfl rfl (.one tyO3)) ⟨rfl,trivial⟩,d0 (aG rfl (pV h25) rfl) ⟨rfl,rfl,trivial⟩,d0 (aL (.inr rfl)) ⟨rfl,trivial⟩,trivial⟩ (fun bs19 G18=>?_)
   refine aC (aA (aX (aW ?_)))
   obtain rfl:=bX hF
   obtain rfl:=bX hRl8
   exact aI (.inl rfl) Tryz.results188 (.tmp rfl .nil) rfl rfl
  have hF:=aU h17 hF
  refine aV (bF (aA (aE (aF ?_))))
  obtain⟨v26,h27,hF⟩:=aO hF
  refine aB (fH rfl h27) ⟨rfl,bC _ _,trivial⟩ ?_
  refine bB ?_
  refine aC ?_
  exact bG (fun a w hh=>⟨v26,hF,bA [] rfl (by decide) (by exact⟨rfl,rfl,rfl,trivial⟩) hh⟩)
 have hF:=aU h10 hF
 refine dE ?_
 obtain rfl:=bX hF
 exact bS Jj9 ⟨hRl8,rfl,rfl⟩ [] rfl trivial
def nU (K:Nat) (x21:List Int):Option (List Int):=
 some x21
def iD (K:Nat) (x20:Int) (recl27:(List Int)→Int→Option (List Int)) (x31:List Int):Option (List Int):=
 (dO x31 x20).bind fun v38=>bif(decide (v38<0)) then((dO x31 x20).bind fun v41=>(bQ (v41+1000000000)).bind fun v43=>(dO x31 x20).bind fun v45=>(n8 x31 x20 v43).bind fun x47=>(bQ (x20+1)).bind fun v50=>(dO x47 v50).bind fun v52=>(bQ (v52-1)).bind fun v54=>(dO x47 v50).bind fun v56=>(n8 x47 v50 v54).bind fun x58=>(bQ (x20+1)).bind fun v61=>recl27 x58 v61) else((bQ (x20+1)).bind fun v63=>recl27 x31 v63)
def eA (K:Nat) (a0:List Int) (a1:List Int) (x1:List Int):Nat→(List Int)→Int→Option (List Int)
 |0,_,_=>none
 |k+1,x14,x20=>bif(decide (x20<((zC x1 a0).length:Int))) then(bif(decide (x20<(a1.length:Int))) then((dO x14 x20).bind fun v68=>(dO a1 x20).bind fun v70=>(bQ (v68-v70)).bind fun v72=>(dO x14 x20).bind fun v74=>(n8 x14 x20 v72).bind fun x76=>iD K x20 (eA K a0 a1 x1 k) x76) else(iD K x20 (eA K a0 a1 x1 k) x14)) else(some x14)
def jY (K:Nat) (a0:List Int) (a1:List Int):Option (List Int):=
 (s6 (a0.length:Int) 0).bind fun x1=>(eA K a0 a1 x1 K (zC x1 a0) 0).bind fun x21=>nU K x21
theorem rS {K:Nat} {a0:List Int} {a1:List Int} {r:List Int} (hF:jY K a0 a1=some r):Ct Tryz.prog 189 [.vc (pS cI a0),.vc (pS cI a1)] (.vc (pS cI r)):=by
 unfold jY at hF
 refine a9 Tryz.func189 rfl (by kernel_rfl) Tryz.ntmps189 rfl (fun w0 M0=>?_)
 refine aD (aE (aB (aL (.inr rfl)) ⟨eJ cI,trivial⟩ ?_))
 refine aC (aA (aD (aE (aF ?_))))
 refine aB (bZ rfl tyS22) ⟨rfl,trivial⟩ ?_
 obtain⟨x1,h2,hF⟩:=aO hF
 refine rK (C:=cI) rfl tyS22 rfl tyZ3 rfl h2 (fun b3=>?_)
 refine bB ?_
 refine aC (aA (aD (aE (aF ?_))))
 refine aF ?_
 refine aB (t_cp 0 rfl tyS22 rfl rfl rfl) ⟨rfl,rfl,trivial⟩ ?_
 refine aC (aA (aD (aD (aE (aF ?_)))))
 refine aB (y0 (C:=cI) (xs:=(zC x1 a0)) (T:=3) rfl tyS22 (xP rfl)) ⟨rfl,trivial⟩ ?_
 refine aB (aL (.inl rfl)) ⟨bC _ _,trivial⟩ ?_
 refine aC (aA (bN (cL (fun H E=>∃(x21:List Int),nU K x21=some r∧x21.length=x1.length∧H=[hO cI b3 x1.length 3 x1.length x21]∧E=[(5,.vc (pO b3 x1.length x1.length))]) ?_ (fun Jj28=>?_))))
 ·rintro _ _ ⟨x21,hF,q25,rfl,rfl⟩
  unfold nU at hF
  refine aA (aD (aE (aF ?_)))
  refine bB ?_
  refine aC (aA (aX (aW (t5 0 [4,5,51] rfl q25 ⟨rfl,rfl,rfl,trivial⟩ rfl ?_))))
  obtain rfl:=bX hF
  exact aI (.inl rfl) Tryz.results189 (.tmp rfl .nil) rfl rfl
 obtain⟨x21',hL,hRl27⟩:=aO hF
 refine gY (fun k a w=>∃(x14:List Int),∃(x20:Int),eA K a0 a1 x1 k x14 x20=some x21'∧x14.length=x1.length∧hs _ [hO cI b3 x1.length 3 x1.length x14] [(1,.vc (pS cI a1)),(5,.vc (pO b3 x1.length x1.length)),(14,.vc (pI .i64 ((zC x1 a0).length:Int))),(15,.vc (pI .i64 x20))] a w) K (fun a w ⟨_,_,hF,_,_⟩=>by cases hF) (fun k a w ⟨x14,x20,hF,q18,hh⟩=>gX ?_ hh) (fun a w hh=>⟨(zC x1 a0),0,hL,(xP rfl),bA [0] rfl (by decide) (by exact⟨rfl,rfl,rfl,rfl,trivial⟩) hh⟩)
 rw [eA.eq_2] at hF
 refine aD (aE (aB (dQ rfl) ⟨rfl,rfl,trivial⟩ ?_))
 refine aC (aA (aD (bO rfl (fun h29=>?_) (fun h29=>?_))))
 ·have hF:=aT h29 hF
  refine aV (aA (aD (bN (aD (aE (aF ?_))))))
  refine bB ?_
  refine aC (aA (aD (rB (fun H E=>∃(x31:List Int),iD K x20 (eA K a0 a1 x1 k) x31=some x21'∧x31.length=x1.length∧H=[hO cI b3 x1.length 3 x1.length x31]∧E=[(1,.vc (pS cI a1)),(5,.vc (pO b3 x1.length x1.length)),(6,.vc (pI .i64 x20)),(14,.vc (pI .i64 ((zC x1 a0).length:Int))),(15,.vc (pI .i64 x20))]) ?_ (fun Jj37=>?_))))
  ·rintro _ _ ⟨x31,hF,q35,rfl,rfl⟩
   unfold iD at hF
   refine aD (aE (aF ?_))
   refine aF ?_
   obtain⟨v38,h39,hF⟩:=aO hF
   refine aB (cE (C:=cI) 0 rfl tyS22 rfl q35 (aN h39).1 (aN h39).2.1) ⟨rfl,rfl,trivial⟩ ?_
   refine aB (gA (k:=1) 0 rfl rfl h39 rfl (.one tyO3) rfl) ⟨rfl,trivial⟩ ?_
   refine aB (dQ rfl) ⟨rfl,bC _ _,trivial⟩ ?_
   refine aC (aA (bO rfl (fun h40=>?_) (fun h40=>?_)))
   ·have hF:=aT h40 hF
    refine aD (aE (aF ?_))
    refine aF ?_
    obtain⟨v41,h42,hF⟩:=aO hF
    refine aB (cE (C:=cI) 0 rfl tyS22 rfl q35 (aN h42).1 (aN h42).2.1) ⟨rfl,rfl,trivial⟩ ?_
    refine aB (gA (k:=1) 0 rfl rfl h42 rfl (.one tyO3) rfl) ⟨rfl,trivial⟩ ?_
    obtain⟨v43,h44,hF⟩:=aO hF
    refine aB (bI rfl h44) ⟨rfl,bC _ _,trivial⟩ ?_
    obtain⟨v45,h46,hF⟩:=aO hF
    refine aB (cE (C:=cI) 0 rfl tyS22 rfl q35 (aN h46).1 (aN h46).2.1) ⟨rfl,rfl,trivial⟩ ?_
    obtain⟨x47,h48,hF⟩:=aO hF
    refine aY (fL 0 rfl rfl h46 h48 tyO3.s) ⟨rfl,rfl,trivial⟩ ?_
    refine aC (aA (aE (aF ?_)))
    refine aF ?_
    obtain⟨v50,h51,hF⟩:=aO hF
    refine aB (bI rfl h51) ⟨rfl,bC _ _,trivial⟩ ?_
    obtain⟨v52,h53,hF⟩:=aO hF
    refine aB (cE (C:=cI) 0 rfl tyS22 rfl (b0 h48 q35) (aN h53).1 (aN h53).2.1) ⟨rfl,rfl,trivial⟩ ?_
    refine aB (gA (k:=1) 0 rfl rfl h53 rfl (.one tyO3) rfl) ⟨rfl,trivial⟩ ?_
    obtain⟨v54,h55,hF⟩:=aO hF
    refine aB (fH rfl h55) ⟨rfl,bC _ _,trivial⟩ ?_
    obtain⟨v56,h57,hF⟩:=aO hF
    refine aB (cE (C:=cI) 0 rfl tyS22 rfl (b0 h48 q35) (aN h57).1 (aN h57).2.1) ⟨rfl,rfl,trivial⟩ ?_
    obtain⟨x58,h59,hF⟩:=aO hF
    refine aY (fL 0 rfl rfl h57 h59 tyO3.s) ⟨rfl,rfl,trivial⟩ ?_
    refine aC (bF (aA (aE ?_)))
    obtain⟨v61,h62,hF⟩:=aO hF
    refine aB (bI rfl h62) ⟨rfl,bC _ _,trivial⟩ ?_
    refine aF ?_
    refine aC ?_
    exact bG (fun a w hh=>⟨x58,v61,hF,(b0 h59 (b0 h48 q35)),bA [0] rfl (by decide) (by exact⟨rfl,rfl,rfl,rfl,trivial⟩) hh⟩)
   have hF:=aU h40 hF
   refine aV (bF (aA (aE ?_)))
   obtain⟨v63,h64,hF⟩:=aO hF
   refine aB (bI rfl h64) ⟨rfl,bC _ _,trivial⟩ ?_
   refine aF ?_
   refine aC ?_
   exact bG (fun a w hh=>⟨x31,v63,hF,q35,bA [0] rfl (by decide) (by exact⟨rfl,rfl,rfl,rfl,trivial⟩) hh⟩)
  refine aD (aE (aF ?_))
  refine aF ?_
  refine aB (bZ rfl tyS22) ⟨rfl,trivial⟩ ?_
  refine aB (dQ rfl) ⟨rfl,rfl,trivial⟩ ?_
  refine aC (aA (bO rfl (fun h65=>?_) (fun h65=>?_)))
  ·have hF:=aT h65 hF
   obtain⟨v68,h69,hF⟩:=aO hF
   obtain⟨v70,h71,hF⟩:=aO hF
   obtain⟨v72,h73,hF⟩:=aO hF
   obtain⟨v74,h75,hF⟩:=aO hF
   refine bP [0,0,3,7,0,0,48,112,255,511,1023] 10 1 [.v (.vc (pO b3 x1.length x1.length)),.v (.vc (pI .i64 x20)),.v (.vc (pE b3 x20 cI.n 0)),.v (.vc (pI .i64 v68)),.v (.vc (pS cI a1)),.v (.vc (pI .i64 x20)),.v (.vc (pM (cI.e v70))),.v (.vc (pI .i64 v70)),.v (.vc (pI .i64 v72)),.v (.vc (pE b3 x20 cI.n 0))] aR ⟨d0 (aL (.inl rfl)) ⟨rfl,trivial⟩,d0 (aL (.inl rfl)) ⟨rfl,trivial⟩,d0 (cE (C:=cI) 0 rfl tyS22 rfl q18 (aN h69).1 (aN h69).2.1) ⟨rfl,rfl,trivial⟩,d0 (gA (k:=1) 0 rfl rfl h69 rfl (.one tyO3) rfl) ⟨rfl,trivial⟩,d0 (aL (.inl rfl)) ⟨rfl,trivial⟩,d0 (aL (.inl rfl)) ⟨rfl,trivial⟩,d0 (dX rfl tyS22 h71) ⟨rfl,rfl,trivial⟩,d0 (dM 1 rfl rfl (.one tyO3)) ⟨rfl,trivial⟩,d0 (fH rfl h73) ⟨rfl,rfl,trivial⟩,d0 (cE (C:=cI) 0 rfl tyS22 rfl q18 (aN h75).1 (aN h75).2.1) ⟨rfl,rfl,trivial⟩,trivial⟩ (fun bs67 G66=>?_)
   obtain⟨x76,h77,hF⟩:=aO hF
   refine aY (fL 0 rfl rfl h75 h77 tyO3.s) ⟨rfl,rfl,trivial⟩ ?_
   refine aC ?_
   exact bS Jj37 ⟨x76,hF,(b0 h77 q18),rfl,rfl⟩ [0] rfl ⟨rfl,rfl,rfl,rfl,rfl,trivial⟩
  have hF:=aU h65 hF
  refine aV ?_
  exact bS Jj37 ⟨x14,hF,q18,rfl,rfl⟩ [0] rfl ⟨rfl,rfl,rfl,rfl,rfl,trivial⟩
 have hF:=aU h29 hF
 refine dE ?_
 obtain rfl:=bX hF
 exact bS Jj28 ⟨x14,hRl27,q18,rfl,rfl⟩ [0] rfl ⟨rfl,trivial⟩
def kX (K:Nat) (a0:aP) (a1:aP):Option aP:=
 bif(a0.neg==a1.neg) then((mC K a0.d a1.d).bind fun v7=>(eF K a0.neg v7).bind fun v9=>some v9) else((fF K a0.d a1.d).bind fun v11=>bif(decide (v11<0)) then((jY K a1.d a0.d).bind fun v16=>(eF K a1.neg v16).bind fun v18=>some v18) else((jY K a0.d a1.d).bind fun v22=>(eF K a0.neg v22).bind fun v24=>some v24))
theorem sV {K:Nat} {a0:aP} {a1:aP} {r:aP} (hF:kX K a0 a1=some r):Ct Tryz.prog 101 [.va (aP.e a0),.va (aP.e a1)] (.va (aP.e r)):=by
 unfold kX at hF
 refine a9 Tryz.func101 rfl (by kernel_rfl) Tryz.ntmps101 rfl (fun w0 M0=>?_)
 refine aD (aE (cV rfl rfl trivial (fun b1=>?_)))
 refine cV rfl rfl trivial (fun b2=>?_)
 refine bJ rfl tyZ42 (fun b3=>?_)
 refine aC (aA (aD (bN (aD (aE (aB (a8 (off:=0) (k:=0) rfl tyF42_0) ⟨rfl,trivial⟩ ?_))))))
 refine aB (bD 2 1 rfl rfl rfl rfl (.one tyO4)) ⟨rfl,trivial⟩ ?_
 refine aB (a8 (off:=0) (k:=0) rfl tyF42_0) ⟨rfl,trivial⟩ ?_
 refine aB (bD 1 1 rfl rfl rfl rfl (.one tyO4)) ⟨rfl,trivial⟩ ?_
 refine aB (yZ rfl Tryz.underlying4) ⟨rfl,rfl,trivial⟩ ?_
 refine bB ?_
 refine aC (aA (bO rfl (fun h4=>?_) (fun h4=>?_)))
 ·have hF:=aT h4 hF
  refine aD ?_
  obtain⟨v7,h8,hF⟩:=aO hF
  obtain⟨v9,h10,hF⟩:=aO hF
  refine bP [0,1,0,4,0,16,60,127,255] 8 1 [.v (.vc (pP (some b1) 0)),.v (.vc (pB a0.neg)),.v (.vc (pP (some b1) 1)),.v (.vc (pS cI a0.d)),.v (.vc (pP (some b2) 1)),.v (.vc (pS cI a1.d)),.v (.vc (pS cI v7)),.v (.va (aP.e v9))] aR ⟨d0 (a8 (off:=0) (k:=0) rfl tyF42_0) ⟨rfl,trivial⟩,d0 (bD 2 1 rfl rfl rfl rfl (.one tyO4)) ⟨rfl,trivial⟩,d0 (a8 (off:=0) (k:=1) rfl tyF42_1) ⟨rfl,trivial⟩,d0 (bD 2 1 rfl rfl rfl rfl (.one tyO22)) ⟨rfl,trivial⟩,d0 (a8 (off:=0) (k:=1) rfl tyF42_1) ⟨rfl,trivial⟩,d0 (bD 1 1 rfl rfl rfl rfl (.one tyO22)) ⟨rfl,trivial⟩,d0 (aG rfl (uX h8) rfl) ⟨rfl,rfl,trivial⟩,d0 (aG rfl (gD h10) rfl) ⟨rfl,rfl,trivial⟩,trivial⟩ (fun bs6 G5=>?_)
  refine aY (dA 0 rfl rfl rfl tyA42.s) ⟨rfl,rfl,trivial⟩ ?_
  refine aC (aA (aX (aW ?_)))
  obtain rfl:=bX hF
  exact aI (.inl rfl) Tryz.results101 (bM 0 2 rfl rfl rfl rfl (.agg tyA42) .nil) rfl rfl
 have hF:=aU h4 hF
 refine aD (aE (aB (a8 (off:=0) (k:=1) rfl tyF42_1) ⟨rfl,trivial⟩ ?_))
 refine aB (bD 2 1 rfl rfl rfl rfl (.one tyO22)) ⟨rfl,trivial⟩ ?_
 refine aB (a8 (off:=0) (k:=1) rfl tyF42_1) ⟨rfl,trivial⟩ ?_
 refine aB (bD 1 1 rfl rfl rfl rfl (.one tyO22)) ⟨rfl,trivial⟩ ?_
 obtain⟨v11,h12,hF⟩:=aO hF
 refine aB (aG rfl (kP h12) rfl) ⟨rfl,rfl,trivial⟩ ?_
 refine aB (dQ rfl) ⟨rfl,bC _ _,trivial⟩ ?_
 refine bB ?_
 refine aC (aA (bO rfl (fun h13=>?_) (fun h13=>?_)))
 ·have hF:=aT h13 hF
  refine aD ?_
  obtain⟨v16,h17,hF⟩:=aO hF
  obtain⟨v18,h19,hF⟩:=aO hF
  refine bP [0,1,0,4,0,16,60,127,255] 8 1 [.v (.vc (pP (some b2) 0)),.v (.vc (pB a1.neg)),.v (.vc (pP (some b2) 1)),.v (.vc (pS cI a1.d)),.v (.vc (pP (some b1) 1)),.v (.vc (pS cI a0.d)),.v (.vc (pS cI v16)),.v (.va (aP.e v18))] aR ⟨d0 (a8 (off:=0) (k:=0) rfl tyF42_0) ⟨rfl,trivial⟩,d0 (bD 1 1 rfl rfl rfl rfl (.one tyO4)) ⟨rfl,trivial⟩,d0 (a8 (off:=0) (k:=1) rfl tyF42_1) ⟨rfl,trivial⟩,d0 (bD 1 1 rfl rfl rfl rfl (.one tyO22)) ⟨rfl,trivial⟩,d0 (a8 (off:=0) (k:=1) rfl tyF42_1) ⟨rfl,trivial⟩,d0 (bD 2 1 rfl rfl rfl rfl (.one tyO22)) ⟨rfl,trivial⟩,d0 (aG rfl (rS h17) rfl) ⟨rfl,rfl,trivial⟩,d0 (aG rfl (gD h19) rfl) ⟨rfl,rfl,trivial⟩,trivial⟩ (fun bs15 G14=>?_)
  refine aY (dA 0 rfl rfl rfl tyA42.s) ⟨rfl,rfl,trivial⟩ ?_
  refine aC (aA (aX (aW ?_)))
  obtain rfl:=bX hF
  exact aI (.inl rfl) Tryz.results101 (bM 0 2 rfl rfl rfl rfl (.agg tyA42) .nil) rfl rfl
 have hF:=aU h13 hF
 refine aV (bF (aA (aD ?_)))
 obtain⟨v22,h23,hF⟩:=aO hF
 obtain⟨v24,h25,hF⟩:=aO hF
 refine bP [0,1,0,4,0,16,60,127,255] 8 1 [.v (.vc (pP (some b1) 0)),.v (.vc (pB a0.neg)),.v (.vc (pP (some b1) 1)),.v (.vc (pS cI a0.d)),.v (.vc (pP (some b2) 1)),.v (.vc (pS cI a1.d)),.v (.vc (pS cI v22)),.v (.va (aP.e v24))] aR ⟨d0 (a8 (off:=0) (k:=0) rfl tyF42_0) ⟨rfl,trivial⟩,d0 (bD 2 1 rfl rfl rfl rfl (.one tyO4)) ⟨rfl,trivial⟩,d0 (a8 (off:=0) (k:=1) rfl tyF42_1) ⟨rfl,trivial⟩,d0 (bD 2 1 rfl rfl rfl rfl (.one tyO22)) ⟨rfl,trivial⟩,d0 (a8 (off:=0) (k:=1) rfl tyF42_1) ⟨rfl,trivial⟩,d0 (bD 1 1 rfl rfl rfl rfl (.one tyO22)) ⟨rfl,trivial⟩,d0 (aG rfl (rS h23) rfl) ⟨rfl,rfl,trivial⟩,d0 (aG rfl (gD h25) rfl) ⟨rfl,rfl,trivial⟩,trivial⟩ (fun bs21 G20=>?_)
 refine aY (dA 0 rfl rfl rfl tyA42.s) ⟨rfl,rfl,trivial⟩ ?_
 refine aC (aA (aX (aW ?_)))
 obtain rfl:=bX hF
 exact aI (.inl rfl) Tryz.results101 (bM 0 2 rfl rfl rfl rfl (.agg tyA42) .nil) rfl rfl
def pT (a0:aP):Option Int:=
 bif a0.neg then(some (-1)) else(bif((a0.d.length:Int)==0) then(some 0) else(some 1))
theorem y9 {a0:aP} {r:Int} (hF:pT a0=some r):Ct Tryz.prog 102 [.va (aP.e a0)] (.vc (pI .i64 r)):=by
 unfold pT at hF
 refine a9 Tryz.func102 rfl (by kernel_rfl) Tryz.ntmps102 rfl (fun w0 M0=>?_)
 refine aD (aE (cV rfl rfl trivial (fun b1=>?_)))
 refine aB (aL (.inr rfl)) ⟨bC _ _,trivial⟩ ?_
 refine aC (aA (aD (bN (aD (aE (aB (a8 (off:=0) (k:=0) rfl tyF42_0) ⟨rfl,trivial⟩ ?_))))))
 refine aB (bD 0 1 rfl rfl rfl rfl (.one tyO4)) ⟨rfl,trivial⟩ ?_
 refine bB ?_
 refine aC (aA (bO rfl (fun h2=>?_) (fun h2=>?_)))
 ·have hF:=aT h2 hF
  refine aD (aE (aB (aL (.inr rfl)) ⟨bC _ _,trivial⟩ ?_))
  refine aC (aA (aX (aW ?_)))
  obtain rfl:=bX hF
  exact aI (.inl rfl) Tryz.results102 (.tmp rfl .nil) rfl rfl
 have hF:=aU h2 hF
 refine aD (aE (aB (a8 (off:=0) (k:=1) rfl tyF42_1) ⟨rfl,trivial⟩ ?_))
 refine aB (bD 0 1 rfl rfl rfl rfl (.one tyO22)) ⟨rfl,trivial⟩ ?_
 refine aB (bZ rfl tyS22) ⟨rfl,trivial⟩ ?_
 refine aB (iJ rfl) ⟨rfl,bC _ _,trivial⟩ ?_
 refine bB ?_
 refine aC (aA (bO rfl (fun h3=>?_) (fun h3=>?_)))
 ·have hF:=aT h3 hF
  refine aD (aE (aB (aL (.inr rfl)) ⟨bC _ _,trivial⟩ ?_))
  refine aC (aA (aX (aW ?_)))
  obtain rfl:=bX hF
  exact aI (.inl rfl) Tryz.results102 (.tmp rfl .nil) rfl rfl
 have hF:=aU h3 hF
 refine aV (bF (aA (aD (aE (aB (aL (.inr rfl)) ⟨bC _ _,trivial⟩ ?_)))))
 refine aC (aA (aX (aW ?_)))
 obtain rfl:=bX hF
 exact aI (.inl rfl) Tryz.results102 (.tmp rfl .nil) rfl rfl
def mP (K:Nat):Option Int:=
 some 0
def dG (K:Nat) (a0:List Int) (a1:List Int):Nat→Int→Option (LR Int Unit)
 |0,_=>none
 |k+1,x6=>bif(decide (0≤x6)) then((dO a0 x6).bind fun v12=>(dO a1 x6).bind fun v14=>bif(decide (v12<v14)) then(some (.ret (-1))) else((dO a0 x6).bind fun v19=>(dO a1 x6).bind fun v21=>bif(decide (v21<v19)) then(some (.ret 1)) else((bQ (x6-1)).bind fun v24=>dG K a0 a1 k v24))) else(some (.go ()))
def cM (K:Nat) (a0:List Int) (a1:List Int):Option Int:=
 bif(decide ((a0.length:Int)<(a1.length:Int))) then(some (-1)) else(bif(decide ((a1.length:Int)<(a0.length:Int))) then(some 1) else((bQ ((a0.length:Int)-1)).bind fun v3=>(dG K a0 a1 K v3).bind fun o=>match o with| .ret r=>some r| .go _=>mP K))
theorem fT {K:Nat} {a0:List Int} {a1:List Int} {r:Int} (hF:cM K a0 a1=some r):Ct Tryz.prog 230 [.vc (pS cI a0),.vc (pS cI a1)] (.vc (pI .i64 r)):=by
 unfold cM at hF
 refine a9 Tryz.func230 rfl (by kernel_rfl) Tryz.ntmps230 rfl (fun w0 M0=>?_)
 refine aD (aE (aB (aL (.inr rfl)) ⟨bC _ _,trivial⟩ ?_))
 refine aC (aA (aD (aD (aE (aF ?_)))))
 refine aB (bZ rfl tyS22) ⟨rfl,trivial⟩ ?_
 refine aF ?_
 refine aB (bZ rfl tyS22) ⟨rfl,trivial⟩ ?_
 refine aB (dQ rfl) ⟨rfl,rfl,trivial⟩ ?_
 refine aC (aA (bO rfl (fun h1=>?_) (fun h1=>?_)))
 ·have hF:=aT h1 hF
  refine aD (aE (aB (aL (.inr rfl)) ⟨bC _ _,trivial⟩ ?_))
  refine aC (aA (aX (aW ?_)))
  obtain rfl:=bX hF
  exact aI (.inl rfl) Tryz.results230 (.tmp rfl .nil) rfl rfl
 have hF:=aU h1 hF
 refine aV (aA (aD (aD (aE (aF ?_)))))
 refine aB (bZ rfl tyS22) ⟨rfl,trivial⟩ ?_
 refine aF ?_
 refine aB (bZ rfl tyS22) ⟨rfl,trivial⟩ ?_
 refine aB (p8 rfl) ⟨rfl,rfl,trivial⟩ ?_
 refine aC (aA (bO rfl (fun h2=>?_) (fun h2=>?_)))
 ·have hF:=aT h2 hF
  refine aD (aE (aB (aL (.inr rfl)) ⟨bC _ _,trivial⟩ ?_))
  refine aC (aA (aX (aW ?_)))
  obtain rfl:=bX hF
  exact aI (.inl rfl) Tryz.results230 (.tmp rfl .nil) rfl rfl
 have hF:=aU h2 hF
 refine aV (aA (aD (aD (aE (aF ?_)))))
 refine aB (bZ rfl tyS22) ⟨rfl,trivial⟩ ?_
 obtain⟨v3,h4,hF⟩:=aO hF
 refine aB (fH rfl h4) ⟨rfl,bC _ _,trivial⟩ ?_
 refine bB ?_
 refine aC (aA (bN (cL (fun H E=>mP K=some r∧H=[]∧E=[]) ?_ (fun Jj8=>?_))))
 ·rintro _ _ ⟨hF,rfl,rfl⟩
  unfold mP at hF
  refine aA (aD (aE (aB (aL (.inr rfl)) ⟨bC _ _,trivial⟩ ?_)))
  refine aC (aA (aX (aW ?_)))
  obtain rfl:=bX hF
  exact aI (.inl rfl) Tryz.results230 (.tmp rfl .nil) rfl rfl
 obtain⟨ol7,hL,hRl7⟩:=aO hF
 refine gY (fun k a w=>∃(x6:Int),dG K a0 a1 k x6=some ol7∧hs _ [] [(0,.vc (pS cI a0)),(1,.vc (pS cI a1)),(5,.vc (pI .i64 x6))] a w) K (fun a w ⟨_,hF,_⟩=>by cases hF) (fun k a w ⟨x6,hF,hh⟩=>gX ?_ hh) (fun a w hh=>⟨v3,hL,bA [] rfl (by decide) (by exact⟨rfl,rfl,rfl,trivial⟩) hh⟩)
 rw [dG.eq_2] at hF
 refine aD (aD (aE (aF ?_)))
 refine aB (sB rfl) ⟨rfl,bC _ _,trivial⟩ ?_
 refine aC (aA (bO rfl (fun h9=>?_) (fun h9=>?_)))
 ·have hF:=aT h9 hF
  refine aV (aA (aD (bN (aD (aD ?_)))))
  obtain⟨v12,h13,hF⟩:=aO hF
  obtain⟨v14,h15,hF⟩:=aO hF
  refine bP [0,0,3,7,0,0,48,112,255] 9 0 [.v (.vc (pS cI a0)),.v (.vc (pI .i64 x6)),.v (.vc (pM (cI.e v12))),.v (.vc (pI .i64 v12)),.v (.vc (pS cI a1)),.v (.vc (pI .i64 x6)),.v (.vc (pM (cI.e v14))),.v (.vc (pI .i64 v14)),.v (.vc (pB (decide (v12<v14))))] aR ⟨d0 (aL (.inl rfl)) ⟨rfl,trivial⟩,d0 (aL (.inl rfl)) ⟨rfl,trivial⟩,d0 (dX rfl tyS22 h13) ⟨rfl,rfl,trivial⟩,d0 (dM 1 rfl rfl (.one tyO3)) ⟨rfl,trivial⟩,d0 (aL (.inl rfl)) ⟨rfl,trivial⟩,d0 (aL (.inl rfl)) ⟨rfl,trivial⟩,d0 (dX rfl tyS22 h15) ⟨rfl,rfl,trivial⟩,d0 (dM 1 rfl rfl (.one tyO3)) ⟨rfl,trivial⟩,d0 (dQ rfl) ⟨rfl,rfl,trivial⟩,trivial⟩ (fun bs11 G10=>?_)
  refine aC (aA (bO rfl (fun h16=>?_) (fun h16=>?_)))
  ·have hF:=aT h16 hF
   refine aD (aE (aB (aL (.inr rfl)) ⟨bC _ _,trivial⟩ ?_))
   refine aC (aA (aX (aW ?_)))
   obtain rfl:=bX hF
   obtain rfl:=bX hRl7
   exact aI (.inl rfl) Tryz.results230 (.tmp rfl .nil) rfl rfl
  have hF:=aU h16 hF
  refine aV (aA (aD ?_))
  obtain⟨v19,h20,hF⟩:=aO hF
  obtain⟨v21,h22,hF⟩:=aO hF
  refine bP [0,0,3,7,0,0,48,112,255] 9 0 [.v (.vc (pS cI a0)),.v (.vc (pI .i64 x6)),.v (.vc (pM (cI.e v19))),.v (.vc (pI .i64 v19)),.v (.vc (pS cI a1)),.v (.vc (pI .i64 x6)),.v (.vc (pM (cI.e v21))),.v (.vc (pI .i64 v21)),.v (.vc (pB (decide (v21<v19))))] aR ⟨d0 (aL (.inl rfl)) ⟨rfl,trivial⟩,d0 (aL (.inl rfl)) ⟨rfl,trivial⟩,d0 (dX rfl tyS22 h20) ⟨rfl,rfl,trivial⟩,d0 (dM 1 rfl rfl (.one tyO3)) ⟨rfl,trivial⟩,d0 (aL (.inl rfl)) ⟨rfl,trivial⟩,d0 (aL (.inl rfl)) ⟨rfl,trivial⟩,d0 (dX rfl tyS22 h22) ⟨rfl,rfl,trivial⟩,d0 (dM 1 rfl rfl (.one tyO3)) ⟨rfl,trivial⟩,d0 (p8 rfl) ⟨rfl,rfl,trivial⟩,trivial⟩ (fun bs18 G17=>?_)
  refine aC (aA (bO rfl (fun h23=>?_) (fun h23=>?_)))
  ·have hF:=aT h23 hF
   refine aD (aE (aB (aL (.inr rfl)) ⟨bC _ _,trivial⟩ ?_))
   refine aC (aA (aX (aW ?_)))
   obtain rfl:=bX hF
   obtain rfl:=bX hRl7
   exact aI (.inl rfl) Tryz.results230 (.tmp rfl .nil) rfl rfl
  have hF:=aU h23 hF
  refine aV (bF (aA (aE (aF ?_))))
  obtain⟨v24,h25,hF⟩:=aO hF
  refine aB (fH rfl h25) ⟨rfl,bC _ _,trivial⟩ ?_
  refine bB ?_
  refine aC ?_
  exact bG (fun a w hh=>⟨v24,hF,bA [] rfl (by decide) (by exact⟨rfl,rfl,rfl,trivial⟩) hh⟩)
 have hF:=aU h9 hF
 refine dE ?_
 obtain rfl:=bX hF
 exact bS Jj8 ⟨hRl7,rfl,rfl⟩ [] rfl trivial
def kH (K:Nat) (a0:aP) (a1:aP):Option Int:=
 bif(a0.neg != a1.neg) then(bif a0.neg then(some (-1)) else(some 1)) else(bif a0.neg then((cM K a1.d a0.d).bind fun v6=>some v6) else((cM K a0.d a1.d).bind fun v8=>some v8))
theorem uM {K:Nat} {a0:aP} {a1:aP} {r:Int} (hF:kH K a0 a1=some r):Ct Tryz.prog 221 [.va (aP.e a0),.va (aP.e a1)] (.vc (pI .i64 r)):=by
 unfold kH at hF
 refine a9 Tryz.func221 rfl (by kernel_rfl) Tryz.ntmps221 rfl (fun w0 M0=>?_)
 refine aD (aE (cV rfl rfl trivial (fun b1=>?_)))
 refine cV rfl rfl trivial (fun b2=>?_)
 refine aB (aL (.inr rfl)) ⟨bC _ _,trivial⟩ ?_
 refine aC (aA (aD (aD (aE (aB (a8 (off:=0) (k:=0) rfl tyF42_0) ⟨rfl,trivial⟩ ?_)))))
 refine aB (bD 1 1 rfl rfl rfl rfl (.one tyO4)) ⟨rfl,trivial⟩ ?_
 refine aB (a8 (off:=0) (k:=0) rfl tyF42_0) ⟨rfl,trivial⟩ ?_
 refine aB (bD 0 1 rfl rfl rfl rfl (.one tyO4)) ⟨rfl,trivial⟩ ?_
 refine aB (vQ rfl Tryz.underlying4) ⟨rfl,rfl,trivial⟩ ?_
 refine aC (aA (bO rfl (fun h3=>?_) (fun h3=>?_)))
 ·have hF:=aT h3 hF
  refine aD (aD (aE (aB (a8 (off:=0) (k:=0) rfl tyF42_0) ⟨rfl,trivial⟩ ?_)))
  refine aB (bD 1 1 rfl rfl rfl rfl (.one tyO4)) ⟨rfl,trivial⟩ ?_
  refine aC (aA (bO rfl (fun h4=>?_) (fun h4=>?_)))
  ·have hF:=aT h4 hF
   refine aD (aE (aB (aL (.inr rfl)) ⟨bC _ _,trivial⟩ ?_))
   refine aC (aA (aX (aW ?_)))
   obtain rfl:=bX hF
   exact aI (.inl rfl) Tryz.results221 (.tmp rfl .nil) rfl rfl
  have hF:=aU h4 hF
  refine aV (aA (aD (aE (aB (aL (.inr rfl)) ⟨bC _ _,trivial⟩ ?_))))
  refine aC (aA (aX (aW ?_)))
  obtain rfl:=bX hF
  exact aI (.inl rfl) Tryz.results221 (.tmp rfl .nil) rfl rfl
 have hF:=aU h3 hF
 refine aV (aA (aD (aD (aE (aB (a8 (off:=0) (k:=0) rfl tyF42_0) ⟨rfl,trivial⟩ ?_)))))
 refine aB (bD 1 1 rfl rfl rfl rfl (.one tyO4)) ⟨rfl,trivial⟩ ?_
 refine aC (aA (bO rfl (fun h5=>?_) (fun h5=>?_)))
 ·have hF:=aT h5 hF
  refine aD (aE (aB (a8 (off:=0) (k:=1) rfl tyF42_1) ⟨rfl,trivial⟩ ?_))
  refine aB (bD 0 1 rfl rfl rfl rfl (.one tyO22)) ⟨rfl,trivial⟩ ?_
  refine aB (a8 (off:=0) (k:=1) rfl tyF42_1) ⟨rfl,trivial⟩ ?_
  refine aB (bD 1 1 rfl rfl rfl rfl (.one tyO22)) ⟨rfl,trivial⟩ ?_
  obtain⟨v6,h7,hF⟩:=aO hF
  refine aB (aG rfl (fT h7) rfl) ⟨rfl,rfl,trivial⟩ ?_
  refine bB ?_
  refine aC (aA (aX (aW ?_)))
  obtain rfl:=bX hF
  exact aI (.inl rfl) Tryz.results221 (.tmp rfl .nil) rfl rfl
 have hF:=aU h5 hF
 refine aV (aA (aD (aE (aB (a8 (off:=0) (k:=1) rfl tyF42_1) ⟨rfl,trivial⟩ ?_))))
 refine aB (bD 1 1 rfl rfl rfl rfl (.one tyO22)) ⟨rfl,trivial⟩ ?_
 refine aB (a8 (off:=0) (k:=1) rfl tyF42_1) ⟨rfl,trivial⟩ ?_
 refine aB (bD 0 1 rfl rfl rfl rfl (.one tyO22)) ⟨rfl,trivial⟩ ?_
 obtain⟨v8,h9,hF⟩:=aO hF
 refine aB (aG rfl (fT h9) rfl) ⟨rfl,rfl,trivial⟩ ?_
 refine bB ?_
 refine aC (aA (aX (aW ?_)))
 obtain rfl:=bX hF
 exact aI (.inl rfl) Tryz.results221 (.tmp rfl .nil) rfl rfl
def l6 (K:Nat) (a0:aP):Option Int:=
 (kH K a0 (⟨false,([]:List Int)⟩:aP)).bind fun v2=>some v2
theorem wN {K:Nat} {a0:aP} {r:Int} (hF:l6 K a0=some r):Ct Tryz.prog 152 [.va (aP.e a0)] (.vc (pI .i64 r)):=by
 unfold l6 at hF
 refine a9 Tryz.func152 rfl (by kernel_rfl) Tryz.ntmps152 rfl (fun w0 M0=>?_)
 refine aD (aE (cV rfl rfl trivial (fun b1=>?_)))
 refine aB (aL (.inr rfl)) ⟨bC _ _,trivial⟩ ?_
 refine aC (aA (aD (aE (aB (bD 0 2 rfl rfl rfl rfl (.agg tyA42)) ⟨rfl,trivial⟩ ?_))))
 refine aB (fA (is:=[]) (xs:=[]) (ps:=[]) rfl tyB42 rfl rfl trivial rfl) trivial ?_
 obtain⟨v2,h3,hF⟩:=aO hF
 refine aB (aG rfl (uM h3) rfl) ⟨rfl,rfl,trivial⟩ ?_
 refine bB ?_
 refine aC (aA (aX (aW ?_)))
 obtain rfl:=bX hF
 exact aI (.inl rfl) Tryz.results152 (.tmp rfl .nil) rfl rfl
def mR (K:Nat):Option Int:=
 some (-1)
def eY (K:Nat) (a0:List Int) (a1:(Int→Option Bool)):Nat→Int→Option (LR Int Unit)
 |0,_=>none
 |k+1,x2=>bif(decide (x2<(a0.length:Int))) then((dO a0 x2).bind fun v6=>(a1 v6).bind fun v8=>bif v8 then(some (.ret x2)) else((bQ (x2+1)).bind fun v11=>eY K a0 a1 k v11)) else(some (.go ()))
def lS (K:Nat) (a0:List Int) (a1:(Int→Option Bool)):Option Int:=
 (eY K a0 a1 K 0).bind fun o=>match o with| .ret r=>some r| .go _=>mR K
theorem tT {K:Nat} {a0:List Int} {a1:(Int→Option Bool)} {r:Int} (hF:lS K a0 a1=some r):Ct Tryz.prog 256 [.vc (pS cI a0),.vc (pFn Tryz.prog (fun x:Int=>[.vc (pI .i64 x)]) (fun r:Bool=>.vc (pB r)) a1)] (.vc (pI .i64 r)):=by
 unfold lS at hF
 refine a9 Tryz.func256 rfl (by kernel_rfl) Tryz.ntmps256 rfl (fun w0 M0=>?_)
 refine aD (aE (aB (aL (.inr rfl)) ⟨bC _ _,trivial⟩ ?_))
 refine aC (aA (aD (aD (aE (aF ?_)))))
 refine aB (bZ rfl tyS22) ⟨rfl,trivial⟩ ?_
 refine aB (aL (.inl rfl)) ⟨bC _ _,trivial⟩ ?_
 refine aC (aA (bN (cL (fun H E=>mR K=some r∧H=[]∧E=[]) ?_ (fun Jj4=>?_))))
 ·rintro _ _ ⟨hF,rfl,rfl⟩
  unfold mR at hF
  refine aA (aD (aE (aB (aL (.inr rfl)) ⟨bC _ _,trivial⟩ ?_)))
  refine aC (aA (aX (aW ?_)))
  obtain rfl:=bX hF
  exact aI (.inl rfl) Tryz.results256 (.tmp rfl .nil) rfl rfl
 obtain⟨ol3,hL,hRl3⟩:=aO hF
 refine gY (fun k a w=>∃(x2:Int),eY K a0 a1 k x2=some ol3∧hs _ [] [(0,.vc (pS cI a0)),(1,.vc (pFn Tryz.prog (fun x:Int=>[.vc (pI .i64 x)]) (fun r:Bool=>.vc (pB r)) a1)),(7,.vc (pI .i64 (a0.length:Int))),(8,.vc (pI .i64 x2))] a w) K (fun a w ⟨_,hF,_⟩=>by cases hF) (fun k a w ⟨x2,hF,hh⟩=>gX ?_ hh) (fun a w hh=>⟨0,hL,bA [] rfl (by decide) (by exact⟨rfl,rfl,rfl,rfl,trivial⟩) hh⟩)
 rw [eY.eq_2] at hF
 refine aD (aE (aB (dQ rfl) ⟨rfl,rfl,trivial⟩ ?_))
 refine aC (aA (aD (bO rfl (fun h5=>?_) (fun h5=>?_))))
 ·have hF:=aT h5 hF
  refine aV (aA (aD (bN (aD (aE (aF ?_))))))
  refine bB ?_
  refine aC (aA (aD (aE (aF ?_))))
  refine aF ?_
  refine aF ?_
  obtain⟨v6,h7,hF⟩:=aO hF
  refine aB (dX rfl tyS22 h7) ⟨rfl,rfl,trivial⟩ ?_
  refine aB (dM 1 rfl rfl (.one tyO3)) ⟨rfl,trivial⟩ ?_
  obtain⟨v8,h9,hF⟩:=aO hF
  refine aB (xW (pre:=fun x:Int=>[.vc (pI .i64 x)]) (post:=fun r:Bool=>.vc (pB r)) (x:=v6) (r:=v8) rfl h9 rfl) ⟨rfl,rfl,trivial⟩ ?_
  refine aC (aA (bO rfl (fun h10=>?_) (fun h10=>?_)))
  ·have hF:=aT h10 hF
   refine aD (aE (aF ?_))
   refine bB ?_
   refine aC (aA (aX (aW ?_)))
   obtain rfl:=bX hF
   obtain rfl:=bX hRl3
   exact aI (.inl rfl) Tryz.results256 (.tmp rfl .nil) rfl rfl
  have hF:=aU h10 hF
  refine aV (bF (aA (aE ?_)))
  obtain⟨v11,h12,hF⟩:=aO hF
  refine aB (bI rfl h12) ⟨rfl,bC _ _,trivial⟩ ?_
  refine aF ?_
  refine aC ?_
  exact bG (fun a w hh=>⟨v11,hF,bA [] rfl (by decide) (by exact⟨rfl,rfl,rfl,rfl,trivial⟩) hh⟩)
 have hF:=aU h5 hF
 refine dE ?_
 obtain rfl:=bX hF
 exact bS Jj4 ⟨hRl3,rfl,rfl⟩ [] rfl trivial
def hU (K:Nat) (a0:List Int) (a1:(Int→Option Bool)):Option Bool:=
 (lS K a0 a1).bind fun v1=>some (decide (0≤v1))
theorem sM {K:Nat} {a0:List Int} {a1:(Int→Option Bool)} {r:Bool} (hF:hU K a0 a1=some r):Ct Tryz.prog 223 [.vc (pS cI a0),.vc (pFn Tryz.prog (fun x:Int=>[.vc (pI .i64 x)]) (fun r:Bool=>.vc (pB r)) a1)] (.vc (pB r)):=by
 unfold hU at hF
 refine a9 Tryz.func223 rfl (by kernel_rfl) Tryz.ntmps223 rfl (fun w0 M0=>?_)
 refine aD (aE (aB (aL (.inr rfl)) ⟨dH _,trivial⟩ ?_))
 refine aC (aA (aD (aE (aF ?_))))
 refine aF ?_
 obtain⟨v1,h2,hF⟩:=aO hF
 refine aB (aG rfl (tT h2) rfl) ⟨rfl,rfl,trivial⟩ ?_
 refine aB (sB rfl) ⟨rfl,bC _ _,trivial⟩ ?_
 refine bB ?_
 refine aC (aA (aX (aW ?_)))
 obtain rfl:=bX hF
 exact aI (.inl rfl) Tryz.results223 (.tmp rfl .nil) rfl rfl
def iE (a0:Int):Option Bool:=
 bif(decide (a0<0)) then(some true) else(some (decide (1000000000≤a0)))
theorem w7 {a0:Int} {r:Bool} (hF:iE a0=some r):Ct Tryz.prog 224 [.vc (pI .i64 a0)] (.vc (pB r)):=by
 unfold iE at hF
 refine a9 Tryz.func224 rfl (by kernel_rfl) Tryz.ntmps224 rfl (fun w0 M0=>?_)
 refine aD (aE (aB (aL (.inr rfl)) ⟨dH _,trivial⟩ ?_))
 refine aC (aA (aD (aE (aF ?_))))
 refine aB (dQ rfl) ⟨rfl,bC _ _,trivial⟩ ?_
 refine aF ?_
 refine cU (fun h1=>?_) (fun h1=>?_)
 ·have hF:=aT h1 hF
  refine aJ ?_
  refine aJ ?_
  refine aB (bK rfl) ⟨rfl,dH _,trivial⟩ ?_
  refine bB ?_
  refine aC (aA (aX (aW ?_)))
  obtain rfl:=bX hF
  exact aI (.inl rfl) Tryz.results224 (.tmp rfl .nil) rfl rfl
 have hF:=aU h1 hF
 refine aZ (aL (.inl rfl)) ⟨rfl,trivial⟩ ?_
 refine aZ (sB rfl) ⟨rfl,bC _ _,trivial⟩ ?_
 refine aB (bL rfl) ⟨rfl,rfl,trivial⟩ ?_
 refine bB ?_
 refine aC (aA (aX (aW ?_)))
 obtain rfl:=bX hF
 exact aI (.inl rfl) Tryz.results224 (.tmp rfl .nil) rfl rfl
def lH (K:Nat) (a0:aP):Option Bool:=
 (hU K a0.d (iE)).bind fun v2=>bif v2 then(some false) else(bif((a0.d.length:Int)==0) then(bif(!a0.neg) then(some true) else(bif(decide (0<(a0.d.length:Int))) then((bQ ((a0.d.length:Int)-1)).bind fun v8=>(dO a0.d v8).bind fun v10=>some (v10 != 0)) else(some false))) else(bif(decide (0<(a0.d.length:Int))) then((bQ ((a0.d.length:Int)-1)).bind fun v13=>(dO a0.d v13).bind fun v15=>some (v15 != 0)) else(some false)))
theorem t0 {K:Nat} {a0:aP} {r:Bool} (hF:lH K a0=some r):Ct Tryz.prog 164 [.va (aP.e a0)] (.vc (pB r)):=by
 unfold lH at hF
 refine a9 Tryz.func164 rfl (by kernel_rfl) Tryz.ntmps164 rfl (fun w0 M0=>?_)
 refine aD (aE (cV rfl rfl trivial (fun b1=>?_)))
 refine aB (aL (.inr rfl)) ⟨dH _,trivial⟩ ?_
 refine aC (aA (aD (aD (aE (aB (a8 (off:=0) (k:=1) rfl tyF42_1) ⟨rfl,trivial⟩ ?_)))))
 refine aB (bD 0 1 rfl rfl rfl rfl (.one tyO22)) ⟨rfl,trivial⟩ ?_
 obtain⟨v2,h3,hF⟩:=aO hF
 refine aB (aG rfl (sM h3) rfl) ⟨rfl,(aFD (P:=Tryz.prog) (φ:=(iE)) (pre:=fun x:Int=>[.vc (pI .i64 x)]) (post:=fun r:Bool=>.vc (pB r)) (fun x r h=>w7 h)),trivial⟩ ?_
 refine aC (aA (bO rfl (fun h4=>?_) (fun h4=>?_)))
 ·have hF:=aT h4 hF
  refine aD (aE (aB (aL (.inr rfl)) ⟨dH _,trivial⟩ ?_))
  refine aC (aA (aX (aW ?_)))
  obtain rfl:=bX hF
  exact aI (.inl rfl) Tryz.results164 (.tmp rfl .nil) rfl rfl
 have hF:=aU h4 hF
 refine aV (aA (aD (aE (aB (a8 (off:=0) (k:=1) rfl tyF42_1) ⟨rfl,trivial⟩ ?_))))
 refine aB (bD 0 1 rfl rfl rfl rfl (.one tyO22)) ⟨rfl,trivial⟩ ?_
 refine aB (bZ rfl tyS22) ⟨rfl,trivial⟩ ?_
 refine aB (iJ rfl) ⟨rfl,bC _ _,trivial⟩ ?_
 refine aF ?_
 refine cU (fun h5=>?_) (fun h5=>?_)
 ·have hF:=aT h5 hF
  refine aZ (a8 (off:=0) (k:=0) rfl tyF42_0) ⟨rfl,trivial⟩ ?_
  refine aZ (bD 0 1 rfl rfl rfl rfl (.one tyO4)) ⟨rfl,trivial⟩ ?_
  refine aZ (lK rfl) ⟨rfl,trivial⟩ ?_
  refine aB (bK rfl) ⟨rfl,rfl,trivial⟩ ?_
  refine aF ?_
  refine cU (fun h6=>?_) (fun h6=>?_)
  ·have hF:=aT h6 hF
   refine aJ ?_
   refine aJ ?_
   refine aJ ?_
   refine aJ ?_
   refine aJ ?_
   refine rP ?_
   refine rP ?_
   refine rP ?_
   refine rP ?_
   refine rP ?_
   refine rP ?_
   refine rP ?_
   refine rP ?_
   refine rP ?_
   refine aJ ?_
   refine aB (bK rfl) ⟨rfl,dH _,trivial⟩ ?_
   refine bB ?_
   refine aC (aA (aX (aW ?_)))
   obtain rfl:=bX hF
   exact aI (.inl rfl) Tryz.results164 (.tmp rfl .nil) rfl rfl
  have hF:=aU h6 hF
  refine aZ (a8 (off:=0) (k:=1) rfl tyF42_1) ⟨rfl,trivial⟩ ?_
  refine aZ (bD 0 1 rfl rfl rfl rfl (.one tyO22)) ⟨rfl,trivial⟩ ?_
  refine aZ (bZ rfl tyS22) ⟨rfl,trivial⟩ ?_
  refine aZ (p8 rfl) ⟨rfl,bC _ _,trivial⟩ ?_
  refine aZ (aL (.inl rfl)) ⟨rfl,trivial⟩ ?_
  refine cU (fun h7=>?_) (fun h7=>?_)
  ·have hF:=aT h7 hF
   refine aZ (a8 (off:=0) (k:=1) rfl tyF42_1) ⟨rfl,trivial⟩ ?_
   refine aZ (bD 0 1 rfl rfl rfl rfl (.one tyO22)) ⟨rfl,trivial⟩ ?_
   refine aZ (a8 (off:=0) (k:=1) rfl tyF42_1) ⟨rfl,trivial⟩ ?_
   refine aZ (bD 0 1 rfl rfl rfl rfl (.one tyO22)) ⟨rfl,trivial⟩ ?_
   refine aZ (bZ rfl tyS22) ⟨rfl,trivial⟩ ?_
   obtain⟨v8,h9,hF⟩:=aO hF
   refine aZ (fH rfl h9) ⟨rfl,bC _ _,trivial⟩ ?_
   obtain⟨v10,h11,hF⟩:=aO hF
   refine aZ (dX rfl tyS22 h11) ⟨rfl,rfl,trivial⟩ ?_
   refine aZ (dM 1 rfl rfl (.one tyO3)) ⟨rfl,trivial⟩ ?_
   refine aZ (sC rfl) ⟨rfl,bC _ _,trivial⟩ ?_
   refine aZ (bK rfl) ⟨rfl,rfl,trivial⟩ ?_
   refine aB (bL rfl) ⟨rfl,rfl,trivial⟩ ?_
   refine bB ?_
   refine aC (aA (aX (aW ?_)))
   obtain rfl:=bX hF
   exact aI (.inl rfl) Tryz.results164 (.tmp rfl .nil) rfl rfl
  have hF:=aU h7 hF
  refine aJ ?_
  refine aJ ?_
  refine aJ ?_
  refine aJ ?_
  refine aJ ?_
  refine aJ ?_
  refine aJ ?_
  refine aJ ?_
  refine aJ ?_
  refine aZ (bL rfl) ⟨rfl,dH _,trivial⟩ ?_
  refine aB (bL rfl) ⟨rfl,rfl,trivial⟩ ?_
  refine bB ?_
  refine aC (aA (aX (aW ?_)))
  obtain rfl:=bX hF
  exact aI (.inl rfl) Tryz.results164 (.tmp rfl .nil) rfl rfl
 have hF:=aU h5 hF
 refine aJ ?_
 refine aJ ?_
 refine aJ ?_
 refine aB (bL rfl) ⟨rfl,dH _,trivial⟩ ?_
 refine aF ?_
 refine aZ (a8 (off:=0) (k:=1) rfl tyF42_1) ⟨rfl,trivial⟩ ?_
 refine aZ (bD 0 1 rfl rfl rfl rfl (.one tyO22)) ⟨rfl,trivial⟩ ?_
 refine aZ (bZ rfl tyS22) ⟨rfl,trivial⟩ ?_
 refine aZ (p8 rfl) ⟨rfl,bC _ _,trivial⟩ ?_
 refine aZ (aL (.inl rfl)) ⟨rfl,trivial⟩ ?_
 refine cU (fun h12=>?_) (fun h12=>?_)
 ·have hF:=aT h12 hF
  refine aZ (a8 (off:=0) (k:=1) rfl tyF42_1) ⟨rfl,trivial⟩ ?_
  refine aZ (bD 0 1 rfl rfl rfl rfl (.one tyO22)) ⟨rfl,trivial⟩ ?_
  refine aZ (a8 (off:=0) (k:=1) rfl tyF42_1) ⟨rfl,trivial⟩ ?_
  refine aZ (bD 0 1 rfl rfl rfl rfl (.one tyO22)) ⟨rfl,trivial⟩ ?_
  refine aZ (bZ rfl tyS22) ⟨rfl,trivial⟩ ?_
  obtain⟨v13,h14,hF⟩:=aO hF
  refine aZ (fH rfl h14) ⟨rfl,bC _ _,trivial⟩ ?_
  obtain⟨v15,h16,hF⟩:=aO hF
  refine aZ (dX rfl tyS22 h16) ⟨rfl,rfl,trivial⟩ ?_
  refine aZ (dM 1 rfl rfl (.one tyO3)) ⟨rfl,trivial⟩ ?_
  refine aZ (sC rfl) ⟨rfl,bC _ _,trivial⟩ ?_
  refine aZ (bK rfl) ⟨rfl,rfl,trivial⟩ ?_
  refine aB (bL rfl) ⟨rfl,rfl,trivial⟩ ?_
  refine bB ?_
  refine aC (aA (aX (aW ?_)))
  obtain rfl:=bX hF
  exact aI (.inl rfl) Tryz.results164 (.tmp rfl .nil) rfl rfl
 have hF:=aU h12 hF
 refine aJ ?_
 refine aJ ?_
 refine aJ ?_
 refine aJ ?_
 refine aJ ?_
 refine aJ ?_
 refine aJ ?_
 refine aJ ?_
 refine aJ ?_
 refine aZ (bL rfl) ⟨rfl,dH _,trivial⟩ ?_
 refine aB (bL rfl) ⟨rfl,rfl,trivial⟩ ?_
 refine bB ?_
 refine aC (aA (aX (aW ?_)))
 obtain rfl:=bX hF
 exact aI (.inl rfl) Tryz.results164 (.tmp rfl .nil) rfl rfl
def lX (a0:List Int):Option (Int×Bool):=
 bif((a0.length:Int)==0) then(some (0,true)) else(bif((a0.length:Int)==1) then((dO a0 0).bind fun v3=>some (v3,true)) else(bif((a0.length:Int)==2) then((dO a0 1).bind fun v8=>(bQ (v8*1000000000)).bind fun v10=>(dO a0 0).bind fun v12=>(bQ (v10+v12)).bind fun v14=>some (v14,true)) else(some (0,false))))
theorem rM {a0:List Int} {r:Int×Bool} (hF:lX a0=some r):Ct Tryz.prog 225 [.vc (pS cI a0)] (.t2 (.vc (pI .i64 r.1)) (.vc (pB r.2))):=by
 unfold lX at hF
 refine a9 Tryz.func225 rfl (by kernel_rfl) Tryz.ntmps225 rfl (fun w0 M0=>?_)
 refine aD (aE (aB (aL (.inr rfl)) ⟨bC _ _,trivial⟩ ?_))
 refine aB (aL (.inr rfl)) ⟨dH _,trivial⟩ ?_
 refine aC (aA (aD (aD (aE (aF ?_)))))
 refine aB (bZ rfl tyS22) ⟨rfl,trivial⟩ ?_
 refine aC (aA (bN (aD (aE (aB (iJ rfl) ⟨rfl,bC _ _,trivial⟩ ?_)))))
 refine bB ?_
 refine aC (aA (bO rfl (fun h1=>?_) (fun h1=>?_)))
 ·have hF:=aT h1 hF
  refine aD (aE (aB (aL (.inr rfl)) ⟨bC _ _,trivial⟩ ?_))
  refine aB (aL (.inr rfl)) ⟨dH _,trivial⟩ ?_
  refine aC (aA (aX (aW ?_)))
  obtain rfl:=bX hF
  exact aI (.inl rfl) Tryz.results225 (.tmp rfl (.tmp rfl .nil)) rfl rfl
 have hF:=aU h1 hF
 refine aD (aE (aB (iJ rfl) ⟨rfl,bC _ _,trivial⟩ ?_))
 refine bB ?_
 refine aC (aA (bO rfl (fun h2=>?_) (fun h2=>?_)))
 ·have hF:=aT h2 hF
  refine aD (aE (aF ?_))
  obtain⟨v3,h4,hF⟩:=aO hF
  refine aB (dX rfl tyS22 h4) ⟨rfl,bC _ _,trivial⟩ ?_
  refine aB (dM 1 rfl rfl (.one tyO3)) ⟨rfl,trivial⟩ ?_
  refine bB ?_
  refine aB (aL (.inr rfl)) ⟨dH _,trivial⟩ ?_
  refine aC (aA (aX (aW ?_)))
  obtain rfl:=bX hF
  exact aI (.inl rfl) Tryz.results225 (.tmp rfl (.tmp rfl .nil)) rfl rfl
 have hF:=aU h2 hF
 refine aD (aE (aB (iJ rfl) ⟨rfl,bC _ _,trivial⟩ ?_))
 refine bB ?_
 refine aC (aA (bO rfl (fun h5=>?_) (fun h5=>?_)))
 ·have hF:=aT h5 hF
  refine aD ?_
  obtain⟨v8,h9,hF⟩:=aO hF
  obtain⟨v10,h11,hF⟩:=aO hF
  obtain⟨v12,h13,hF⟩:=aO hF
  obtain⟨v14,h15,hF⟩:=aO hF
  refine bP [0,1,3,7,0,16,48,127,255,511] 10 0 [.v (.vc (pS cI a0)),.v (.vc (pM (cI.e v8))),.v (.vc (pI .i64 v8)),.v (.vc (pI .i64 v10)),.v (.vc (pS cI a0)),.v (.vc (pM (cI.e v12))),.v (.vc (pI .i64 v12)),.v (.vc (pI .i64 v14)),.v (.vc (pI .i64 v14)),.v (.vc (pB true))] aR ⟨d0 (aL (.inl rfl)) ⟨rfl,trivial⟩,d0 (dX rfl tyS22 h9) ⟨rfl,bC _ _,trivial⟩,d0 (dM 1 rfl rfl (.one tyO3)) ⟨rfl,trivial⟩,d0 (lL rfl h11) ⟨rfl,bC _ _,trivial⟩,d0 (aL (.inl rfl)) ⟨rfl,trivial⟩,d0 (dX rfl tyS22 h13) ⟨rfl,bC _ _,trivial⟩,d0 (dM 1 rfl rfl (.one tyO3)) ⟨rfl,trivial⟩,d0 (bI rfl h15) ⟨rfl,rfl,trivial⟩,d0 (aL (.inr rfl)) ⟨rfl,trivial⟩,d0 (aL (.inr rfl)) ⟨dH _,trivial⟩,trivial⟩ (fun bs7 G6=>?_)
  refine aC (aA (aX (aW ?_)))
  obtain rfl:=bX hF
  exact aI (.inl rfl) Tryz.results225 (.tmp rfl (.tmp rfl .nil)) rfl rfl
 have hF:=aU h5 hF
 refine aV (bF (aA (aD (aE (aB (aL (.inr rfl)) ⟨bC _ _,trivial⟩ ?_)))))
 refine aB (aL (.inr rfl)) ⟨dH _,trivial⟩ ?_
 refine aC (aA (aX (aW ?_)))
 obtain rfl:=bX hF
 exact aI (.inl rfl) Tryz.results225 (.tmp rfl (.tmp rfl .nil)) rfl rfl
def nR (K:Nat) (x24:List Int) (x30:Int):Option ((List Int)×Int):=
 some (x24,x30)
def iA (K:Nat) (a0:List Int) (a1:Int):Nat→(List Int)→Int→Int→Option ((List Int)×Int)
 |0,_,_,_=>none
 |k+1,x16,x22,x23=>bif(decide (0≤x23)) then((bQ (x22*1000000000)).bind fun v34=>(dO a0 x23).bind fun v36=>(bQ (v34+v36)).bind fun v38=>(r4 v38 a1).bind fun v42=>(r6 v38 a1).bind fun v44=>(dO x16 x23).bind fun v46=>(n8 x16 x23 v42).bind fun x48=>(bQ (x23-1)).bind fun v52=>iA K a0 a1 k x48 v44 v52) else(some (x16,x22))
def mW (K:Nat) (a0:List Int) (a1:Int):Option ((List Int)×Int):=
 (s6 (a0.length:Int) 0).bind fun x1=>(bQ ((a0.length:Int)-1)).bind fun v6=>(iA K a0 a1 K x1 0 v6).bind fun(x24,x30)=>nR K x24 x30
theorem tS {K:Nat} {a0:List Int} {a1:Int} {r:(List Int)×Int} (hF:mW K a0 a1=some r):Ct Tryz.prog 257 [.vc (pS cI a0),.vc (pI .i64 a1)] (.t2 (.vc (pS cI r.1)) (.vc (pI .i64 r.2))):=by
 unfold mW at hF
 refine a9 Tryz.func257 rfl (by kernel_rfl) Tryz.ntmps257 rfl (fun w0 M0=>?_)
 refine aD (aE (aB (aL (.inr rfl)) ⟨eJ cI,trivial⟩ ?_))
 refine aB (aL (.inr rfl)) ⟨bC _ _,trivial⟩ ?_
 refine aC (aA (aD (aE (aF ?_))))
 refine aB (bZ rfl tyS22) ⟨rfl,trivial⟩ ?_
 obtain⟨x1,h2,hF⟩:=aO hF
 refine rK (C:=cI) rfl tyS22 rfl tyZ3 rfl h2 (fun b3=>?_)
 refine bB ?_
 refine aC (aA (aD (aE (aB (aL (.inr rfl)) ⟨bC _ _,trivial⟩ ?_))))
 refine aC (aA (aD (aD (aE (aF ?_)))))
 refine aB (bZ rfl tyS22) ⟨rfl,trivial⟩ ?_
 obtain⟨v6,h7,hF⟩:=aO hF
 refine aB (fH rfl h7) ⟨rfl,bC _ _,trivial⟩ ?_
 refine bB ?_
 refine aC (aA (bN (cL (fun H E=>∃(x24:List Int),∃(x30:Int),nR K x24 x30=some r∧x24.length=x1.length∧H=[hO cI b3 x1.length 3 x1.length x24]∧E=[(6,.vc (pO b3 x1.length x1.length)),(7,.vc (pI .i64 x30))]) ?_ (fun Jj32=>?_))))
 ·rintro _ _ ⟨x24,x30,hF,q28,rfl,rfl⟩
  unfold nR at hF
  refine aA (aD (aE (aF ?_)))
  refine aF ?_
  refine bB ?_
  refine bB ?_
  refine aC (aA (aX (aW (t5 0 [4,6,36] rfl q28 ⟨rfl,rfl,rfl,trivial⟩ rfl ?_))))
  obtain rfl:=bX hF
  exact aI (.inl rfl) Tryz.results257 (.tmp rfl (.tmp rfl .nil)) rfl rfl
 obtain⟨⟨x24',x30'⟩,hL,hRl31⟩:=aO hF
 refine gY (fun k a w=>∃(x16:List Int),∃(x22:Int),∃(x23:Int),iA K a0 a1 k x16 x22 x23=some (x24',x30')∧x16.length=x1.length∧hs _ [hO cI b3 x1.length 3 x1.length x16] [(0,.vc (pS cI a0)),(1,.vc (pI .i64 a1)),(6,.vc (pO b3 x1.length x1.length)),(7,.vc (pI .i64 x22)),(8,.vc (pI .i64 x23))] a w) K (fun a w ⟨_,_,_,hF,_,_⟩=>by cases hF) (fun k a w ⟨x16,x22,x23,hF,q20,hh⟩=>gX ?_ hh) (fun a w hh=>⟨x1,0,v6,hL,rfl,bA [0] rfl (by decide) (by exact⟨rfl,rfl,rfl,rfl,rfl,trivial⟩) hh⟩)
 rw [iA.eq_2] at hF
 refine aD (aD (aE (aF ?_)))
 refine aB (sB rfl) ⟨rfl,bC _ _,trivial⟩ ?_
 refine aC (aA (bO rfl (fun h33=>?_) (fun h33=>?_)))
 ·have hF:=aT h33 hF
  refine aV (aA (aD (bN (aD (aE (aF ?_))))))
  obtain⟨v34,h35,hF⟩:=aO hF
  refine aB (lL rfl h35) ⟨rfl,bC _ _,trivial⟩ ?_
  refine aF ?_
  refine aF ?_
  obtain⟨v36,h37,hF⟩:=aO hF
  refine aB (dX rfl tyS22 h37) ⟨rfl,rfl,trivial⟩ ?_
  refine aB (dM 1 rfl rfl (.one tyO3)) ⟨rfl,trivial⟩ ?_
  obtain⟨v38,h39,hF⟩:=aO hF
  refine aB (bI rfl h39) ⟨rfl,rfl,trivial⟩ ?_
  refine bB ?_
  refine aC (aA ?_)
  obtain⟨v42,h43,hF⟩:=aO hF
  obtain⟨v44,h45,hF⟩:=aO hF
  obtain⟨v46,h47,hF⟩:=aO hF
  obtain⟨x48,h49,hF⟩:=aO hF
  refine pG (HsM [(0,fun G40=>[hO cI b3 x1.length 3 x1.length x16]),(1,fun G40=>[hO cI b3 x1.length 3 x1.length x48])]) [9] [0,0,0,0,12,0,0,96,31,287,1023] 11 0 [.v (.vc (pO b3 x1.length x1.length)),.v (.vc (pI .i64 x23)),.v (.vc (pI .i64 v38)),.v (.vc (pI .i64 a1)),.v (.vc (pI .i64 v42)),.v (.vc (pI .i64 v38)),.v (.vc (pI .i64 a1)),.v (.vc (pI .i64 v44)),.v (.vc (pE b3 x23 cI.n 0)),.g (fun _ _=>.any),.v (.vc (pI .i64 v44))] aR ⟨d1 0 (aL (.inl rfl)) ⟨rfl,trivial⟩,d1 0 (aL (.inl rfl)) ⟨rfl,trivial⟩,d1 0 (aL (.inl rfl)) ⟨rfl,trivial⟩,d1 0 (aL (.inl rfl)) ⟨rfl,trivial⟩,d1 0 (oD rfl h43) ⟨rfl,rfl,trivial⟩,⟨rfl,.run (L:=[0,1]) ⟨fun G40 A=>aL (.inl rfl),fun G40 A=>aL (.inl rfl),trivial⟩ (fun G40=>⟨rfl,trivial⟩)⟩,⟨rfl,.run (L:=[0,1]) ⟨fun G40 A=>aL (.inl rfl),fun G40 A=>aL (.inl rfl),trivial⟩ (fun G40=>⟨rfl,trivial⟩)⟩,⟨rfl,.run (L:=[0,1]) ⟨fun G40 A=>mZ rfl h45,fun G40 A=>mZ rfl h45,trivial⟩ (fun G40=>⟨rfl,rfl,trivial⟩)⟩,d1 0 (cE (C:=cI) 0 rfl tyS22 rfl q20 (aN h47).1 (aN h47).2.1) ⟨rfl,rfl,trivial⟩,⟨rfl,.hvy [0] ⟨fun G40 A=>xE (fL 0 rfl rfl h47 h49 tyO3.s),trivial⟩ (fun G40=>⟨rfl,rfl,trivial⟩)⟩,d1 1 (aL (.inr rfl)) ⟨rfl,trivial⟩,trivial⟩ (fun bs41 G40=>?_)
  refine aC (bF (aA (aE (aF ?_))))
  obtain⟨v52,h53,hF⟩:=aO hF
  refine aB (fH rfl h53) ⟨rfl,bC _ _,trivial⟩ ?_
  refine bB ?_
  refine aC ?_
  exact bG (fun a w hh=>⟨x48,v44,v52,hF,(b0 h49 q20),bA [0] rfl (by decide) (by exact⟨rfl,rfl,rfl,rfl,rfl,trivial⟩) hh⟩)
 have hF:=aU h33 hF
 refine dE ?_
 obtain⟨rfl,rfl⟩:=sm2 hF
 exact bS Jj32 ⟨x16,x22,hRl31,q20,rfl,rfl⟩ [0] rfl ⟨rfl,rfl,trivial⟩
def nJ (K:Nat) (a0:List Int) (x26:List Int) (x32:Int):Option (List Int):=
 (dO x26 (a0.length:Int)).bind fun v35=>(n8 x26 (a0.length:Int) x32).bind fun x37=>some x37
def gR (K:Nat) (a0:List Int) (a1:Int):Nat→(List Int)→Int→Int→Option ((List Int)×Int)
 |0,_,_,_=>none
 |k+1,x18,x24,x25=>bif(decide (x25<(a0.length:Int))) then((dO a0 x25).bind fun v41=>(bQ (v41*a1)).bind fun v43=>(bQ (v43+x24)).bind fun v45=>(r6 v45 1000000000).bind fun v47=>(r4 v45 1000000000).bind fun v49=>(dO x18 x25).bind fun v51=>(n8 x18 x25 v47).bind fun x53=>(bQ (x25+1)).bind fun v56=>gR K a0 a1 k x53 v49 v56) else(some (x18,x24))
def kO (K:Nat) (a0:List Int) (a1:Int):Option (List Int):=
 (bQ ((a0.length:Int)+1)).bind fun v3=>(s6 v3 0).bind fun x5=>(gR K a0 a1 K x5 0 0).bind fun(x26,x32)=>nJ K a0 x26 x32
theorem sX {K:Nat} {a0:List Int} {a1:Int} {r:List Int} (hF:kO K a0 a1=some r):CtO Tryz.prog 268 [] [.vc (pS cI a0),.vc (pI .i64 a1)] (fun Ho q=>∃b60 c61 n59,r.length=n59∧Ho=[hO cI b60 c61 3 n59 r]∧q=.vc (pO b60 n59 c61)):=by
 unfold kO at hF
 refine a9 Tryz.func268 rfl (by kernel_rfl) Tryz.ntmps268 rfl (fun w0 M0=>?_)
 refine aD (aE (sA cI 3 rfl ?_))
 refine aC (aA (aD (aE (aF ?_))))
 refine aB (bZ rfl tyS22) ⟨rfl,trivial⟩ ?_
 obtain⟨v3,h4,hF⟩:=aO hF
 refine aB (bI rfl h4) ⟨rfl,bC _ _,trivial⟩ ?_
 obtain⟨x5,h6,hF⟩:=aO hF
 refine rK (C:=cI) rfl tyS22 rfl tyZ3 rfl h6 (fun b7=>?_)
 refine bB ?_
 refine aC (aA (aD (aE (aB (aL (.inr rfl)) ⟨bC _ _,trivial⟩ ?_))))
 refine aC (aA (aD (aD (aE (aF ?_)))))
 refine aB (bZ rfl tyS22) ⟨rfl,trivial⟩ ?_
 refine aB (aL (.inl rfl)) ⟨bC _ _,trivial⟩ ?_
 refine aC (aA (bN (cL (fun H E=>∃(x26:List Int),∃(x32:Int),nJ K a0 x26 x32=some r∧x26.length=x5.length∧H=[hO cI b7 x5.length 3 x5.length x26]∧E=[(0,.vc (pS cI a0)),(5,.vc (pO b7 x5.length x5.length)),(6,.vc (pI .i64 x32))]) ?_ (fun Jj34=>?_))))
 ·rintro _ _ ⟨x26,x32,hF,q30,rfl,rfl⟩
  unfold nJ at hF
  refine aA (aD (aE (aF ?_)))
  refine aF ?_
  refine aB (bZ rfl tyS22) ⟨rfl,trivial⟩ ?_
  refine aF ?_
  obtain⟨v35,h36,hF⟩:=aO hF
  refine aB (cE (C:=cI) 0 rfl tyS22 rfl q30 (aN h36).1 (aN h36).2.1) ⟨rfl,rfl,trivial⟩ ?_
  obtain⟨x37,h38,hF⟩:=aO hF
  refine aY (fL 0 rfl rfl h36 h38 tyO3.s) ⟨rfl,rfl,trivial⟩ ?_
  refine aC (aA (aD (aE (aF ?_))))
  refine bB ?_
  refine aC (aA (aX (aW ?_)))
  obtain rfl:=bX hF
  exact vH (.inl rfl) Tryz.results268 (.tmp rfl .nil) rfl [0] rfl (by decide) ⟨b7,x5.length,x5.length,(b0 h38 q30),rfl,rfl⟩
 obtain⟨⟨x26',x32'⟩,hL,hRl33⟩:=aO hF
 refine gY (fun k a w=>∃(x18:List Int),∃(x24:Int),∃(x25:Int),gR K a0 a1 k x18 x24 x25=some (x26',x32')∧x18.length=x5.length∧hs _ [hO cI b7 x5.length 3 x5.length x18] [(0,.vc (pS cI a0)),(1,.vc (pI .i64 a1)),(5,.vc (pO b7 x5.length x5.length)),(6,.vc (pI .i64 x24)),(14,.vc (pS cI a0)),(15,.vc (pI .i64 (a0.length:Int))),(16,.vc (pI .i64 x25))] a w) K (fun a w ⟨_,_,_,hF,_,_⟩=>by cases hF) (fun k a w ⟨x18,x24,x25,hF,q22,hh⟩=>gX ?_ hh) (fun a w hh=>⟨x5,0,0,hL,rfl,bA [0] rfl (by decide) (by exact⟨rfl,rfl,rfl,rfl,rfl,rfl,rfl,trivial⟩) hh⟩)
 rw [gR.eq_2] at hF
 refine aD (aE (aB (dQ rfl) ⟨rfl,rfl,trivial⟩ ?_))
 refine aC (aA (aD (bO rfl (fun h40=>?_) (fun h40=>?_))))
 ·have hF:=aT h40 hF
  refine aV (aA (aD (bN (aD (aE (aF ?_))))))
  obtain⟨v41,h42,hF⟩:=aO hF
  refine aB (dX rfl tyS22 h42) ⟨rfl,rfl,trivial⟩ ?_
  refine aB (dM 1 rfl rfl (.one tyO3)) ⟨rfl,trivial⟩ ?_
  refine bB ?_
  refine bB ?_
  refine aC (aA (aD (aE (aF ?_))))
  refine aF ?_
  obtain⟨v43,h44,hF⟩:=aO hF
  refine aB (lL rfl h44) ⟨rfl,rfl,trivial⟩ ?_
  refine aF ?_
  obtain⟨v45,h46,hF⟩:=aO hF
  refine aB (bI rfl h46) ⟨rfl,rfl,trivial⟩ ?_
  refine bB ?_
  refine aC (aA (aE (aF ?_)))
  refine aF ?_
  refine aF ?_
  obtain⟨v47,h48,hF⟩:=aO hF
  refine aB (mZ rfl h48) ⟨rfl,bC _ _,trivial⟩ ?_
  refine aF ?_
  obtain⟨v49,h50,hF⟩:=aO hF
  refine aB (oD rfl h50) ⟨rfl,bC _ _,trivial⟩ ?_
  obtain⟨v51,h52,hF⟩:=aO hF
  refine aB (cE (C:=cI) 0 rfl tyS22 rfl q22 (aN h52).1 (aN h52).2.1) ⟨rfl,rfl,trivial⟩ ?_
  obtain⟨x53,h54,hF⟩:=aO hF
  refine aY (fL 0 rfl rfl h52 h54 tyO3.s) ⟨rfl,rfl,trivial⟩ ?_
  refine bB ?_
  refine aC (bF (aA (aE ?_)))
  obtain⟨v56,h57,hF⟩:=aO hF
  refine aB (bI rfl h57) ⟨rfl,bC _ _,trivial⟩ ?_
  refine aF ?_
  refine aC ?_
  exact bG (fun a w hh=>⟨x53,v49,v56,hF,(b0 h54 q22),bA [0] rfl (by decide) (by exact⟨rfl,rfl,rfl,rfl,rfl,rfl,rfl,trivial⟩) hh⟩)
 have hF:=aU h40 hF
 refine dE ?_
 obtain⟨rfl,rfl⟩:=sm2 hF
 exact bS Jj34 ⟨x18,x24,hRl33,q22,rfl,rfl⟩ [0] rfl ⟨rfl,rfl,rfl,trivial⟩
theorem xH {K:Nat} {a0:List Int} {a1:Int} {r:List Int} (hF:kO K a0 a1=some r):Ct Tryz.prog 268 [.vc (pS cI a0),.vc (pI .i64 a1)] (.vc (pS cI r)):=aGj (sX hF)
def oH (K:Nat) (a1:List Int) (v7:Int) (x60:List Int) (x66:List Int):Option ((List Int)×(List Int)):=
 (slL x66 0 (a1.length:Int)).bind fun x74=>(mW K x74 v7).bind fun v76=>some (x60,v76.1)
def nQ (K:Nat) (a1:List Int) (x47:List Int) (x59:Int) (v157:Int) (recl72:(List Int)→(List Int)→Int→Option ((List Int)×(List Int))) (x175:List Int) (x181:Int):Option ((List Int)×(List Int)):=
 (bQ (x59+(a1.length:Int))).bind fun v184=>(dO x175 v184).bind fun v186=>(bQ (v186+x181)).bind fun v188=>(dO x175 v184).bind fun v190=>(n8 x175 v184 v188).bind fun x192=>(dO x47 x59).bind fun v195=>(n8 x47 x59 v157).bind fun x197=>(bQ (x59-1)).bind fun v200=>recl72 x197 x192 v200
def gG (K:Nat) (a1:List Int) (x17:List Int) (x59:Int):Nat→(List Int)→Int→Int→Option ((List Int)×Int)
 |0,_,_,_=>none
 |k+1,x167,x173,x174=>bif(decide (x174<(a1.length:Int))) then((bQ (x174+x59)).bind fun v205=>(dO x167 v205).bind fun v207=>(dO x17 x174).bind fun v209=>(bQ (v207+v209)).bind fun v211=>(bQ (v211+x173)).bind fun v213=>(bQ (x174+x59)).bind fun v215=>(r6 v213 1000000000).bind fun v217=>(r4 v213 1000000000).bind fun v219=>(dO x167 v215).bind fun v221=>(n8 x167 v215 v217).bind fun x223=>(bQ (x174+1)).bind fun v226=>gG K a1 x17 x59 k x223 v219 v226) else(some (x167,x173))
def lJ (K:Nat) (a1:List Int) (x17:List Int) (x47:List Int) (x59:Int) (x113:Int) (recl72:(List Int)→(List Int)→Int→Option ((List Int)×(List Int))) (x132:List Int) (x138:Int):Option ((List Int)×(List Int)):=
 (bQ (x59+(a1.length:Int))).bind fun v141=>(dO x132 v141).bind fun v143=>(bQ (v143-x138)).bind fun v145=>(dO x132 v141).bind fun v147=>(n8 x132 v141 v145).bind fun x149=>(bQ (x59+(a1.length:Int))).bind fun v152=>(dO x149 v152).bind fun v154=>bif(decide (v154<0)) then((bQ (x113-1)).bind fun v157=>(gG K a1 x17 x59 K x149 0 0).bind fun(x175,x181)=>nQ K a1 x47 x59 v157 recl72 x175 x181) else((dO x47 x59).bind fun v228=>(n8 x47 x59 x113).bind fun x230=>(bQ (x59-1)).bind fun v233=>recl72 x230 x149 v233)
def eV (K:Nat) (a1:List Int) (x17:List Int) (x59:Int) (x113:Int):Nat→(List Int)→Int→Int→Option ((List Int)×Int)
 |0,_,_,_=>none
 |k+1,x124,x130,x131=>bif(decide (x131<(a1.length:Int))) then((bQ (x131+x59)).bind fun v238=>(dO x124 v238).bind fun v240=>(dO x17 x131).bind fun v242=>(bQ (x113*v242)).bind fun v244=>(bQ (v240-v244)).bind fun v246=>(bQ (v246-x130)).bind fun v248=>bif(decide (v248<0)) then((bQ (-v248)).bind fun v251=>(bQ (v251+1000000000)).bind fun v253=>(bQ (v253-1)).bind fun v255=>(r4 v255 1000000000).bind fun v257=>(bQ (v257*1000000000)).bind fun v259=>(bQ (v248+v259)).bind fun v261=>(bQ (x131+x59)).bind fun v263=>(dO x124 v263).bind fun v265=>(n8 x124 v263 v261).bind fun x267=>(bQ (x131+1)).bind fun v270=>eV K a1 x17 x59 x113 k x267 v257 v270) else((bQ (x131+x59)).bind fun v272=>(dO x124 v272).bind fun v274=>(n8 x124 v272 v248).bind fun x276=>(bQ (x131+1)).bind fun v279=>eV K a1 x17 x59 x113 k x276 0 v279)) else(some (x124,x130))
def lM (K:Nat) (a1:List Int) (x17:List Int) (x47:List Int) (x53:List Int) (x59:Int) (recl72:(List Int)→(List Int)→Int→Option ((List Int)×(List Int))) (x113:Int):Option ((List Int)×(List Int)):=
 (eV K a1 x17 x59 x113 K x53 0 0).bind fun(x132,x138)=>lJ K a1 x17 x47 x59 x113 recl72 x132 x138
def d9 (K:Nat) (a1:List Int) (x17:List Int) (x53:List Int) (x59:Int):Nat→Int→Int→Option Int
 |0,_,_=>none
 |k+1,x111,x112=>bif(decide (1000000000≤x111)) then((bQ (x111-1)).bind fun v284=>(bQ ((a1.length:Int)-1)).bind fun v286=>(dO x17 v286).bind fun v288=>(bQ (x112+v288)).bind fun v290=>bif(decide (1000000000≤v290)) then(some v284) else(d9 K a1 x17 x53 x59 k v284 v290)) else((bQ ((a1.length:Int)-2)).bind fun v293=>(dO x17 v293).bind fun v295=>(bQ (x111*v295)).bind fun v297=>(bQ (x112*1000000000)).bind fun v299=>(bQ (x59+(a1.length:Int))).bind fun v301=>(bQ (v301-2)).bind fun v303=>(dO x53 v303).bind fun v305=>(bQ (v299+v305)).bind fun v307=>bif(decide (v307<v297)) then((bQ (x111-1)).bind fun v310=>(bQ ((a1.length:Int)-1)).bind fun v312=>(dO x17 v312).bind fun v314=>(bQ (x112+v314)).bind fun v316=>bif(decide (1000000000≤v316)) then(some v310) else(d9 K a1 x17 x53 x59 k v310 v316)) else(some x111))
def eM (K:Nat) (a1:List Int) (x17:List Int):Nat→(List Int)→(List Int)→Int→Option ((List Int)×(List Int))
 |0,_,_,_=>none
 |k+1,x47,x53,x59=>bif(decide (0≤x59)) then((bQ (x59+(a1.length:Int))).bind fun v81=>(dO x53 v81).bind fun v83=>(bQ (v83*1000000000)).bind fun v85=>(bQ (x59+(a1.length:Int))).bind fun v87=>(bQ (v87-1)).bind fun v89=>(dO x53 v89).bind fun v91=>(bQ (v85+v91)).bind fun v93=>(bQ ((a1.length:Int)-1)).bind fun v97=>(dO x17 v97).bind fun v99=>(r4 v93 v99).bind fun v101=>(bQ ((a1.length:Int)-1)).bind fun v103=>(dO x17 v103).bind fun v105=>(r6 v93 v105).bind fun v107=>(d9 K a1 x17 x53 x59 K v101 v107).bind fun x113=>lM K a1 x17 x47 x53 x59 (eM K a1 x17 k) x113) else(some (x47,x53))
def pN (K:Nat) (a0:List Int) (a1:List Int):Option ((List Int)×(List Int)):=
 (bQ ((a1.length:Int)-1)).bind fun v1=>(dO a1 v1).bind fun v3=>(bQ (v3+1)).bind fun v5=>(r4 1000000000 v5).bind fun v7=>(kO K a0 v7).bind fun v11=>(kO K a1 v7).bind fun v15=>(slL v15 0 (a1.length:Int)).bind fun x17=>(bQ ((a0.length:Int)-(a1.length:Int))).bind fun v23=>(bQ (v23+1)).bind fun v25=>(s6 v25 0).bind fun x27=>(bQ ((a0.length:Int)-(a1.length:Int))).bind fun v32=>(eM K a1 x17 K x27 v11 v32).bind fun(x60,x66)=>oH K a1 v7 x60 x66
theorem y5 {K:Nat} {a0:List Int} {a1:List Int} {r:(List Int)×(List Int)} (hF:pN K a0 a1=some r):Ct Tryz.prog 258 [.vc (pS cI a0),.vc (pS cI a1)] (.t2 (.vc (pS cI r.1)) (.vc (pS cI r.2))):=by
 unfold pN at hF
 refine a9 Tryz.func258 rfl (by kernel_rfl) Tryz.ntmps258 rfl (fun w0 M0=>?_)
 refine aD (aE (aB (aL (.inr rfl)) ⟨eJ cI,trivial⟩ ?_))
 refine aB (aL (.inr rfl)) ⟨eJ cI,trivial⟩ ?_
 refine aC (aA (aD (aE (aF ?_))))
 refine aF ?_
 refine aB (bZ rfl tyS22) ⟨rfl,trivial⟩ ?_
 obtain⟨v1,h2,hF⟩:=aO hF
 refine aB (fH rfl h2) ⟨rfl,bC _ _,trivial⟩ ?_
 obtain⟨v3,h4,hF⟩:=aO hF
 refine aB (dX rfl tyS22 h4) ⟨rfl,rfl,trivial⟩ ?_
 refine aB (dM 1 rfl rfl (.one tyO3)) ⟨rfl,trivial⟩ ?_
 obtain⟨v5,h6,hF⟩:=aO hF
 refine aB (bI rfl h6) ⟨rfl,bC _ _,trivial⟩ ?_
 obtain⟨v7,h8,hF⟩:=aO hF
 refine aB (oD rfl h8) ⟨bC _ _,rfl,trivial⟩ ?_
 refine bB ?_
 refine aC (aA (aD ?_))
 obtain⟨v11,h12,hF⟩:=aO hF
 obtain⟨v15,h16,hF⟩:=aO hF
 obtain⟨x17,h18,hF⟩:=aO hF
 refine pG (HsM [(0,fun G9=>[]),(1,fun G9=>[hO cI ((G9 2).1) ((G9 2).2) 3 v11.length v11]),(3,fun G9=>[hO cI ((G9 9).1) ((G9 9).2) 3 v11.length v11])]) [2,9] [0,0,3,0,0,31,0,64,255,63,1023] 11 0 [.v (.vc (pS cI a0)),.v (.vc (pI .i64 v7)),.g (fun b c=>.vc (pO b v11.length c)),.v (.vc (pS cI a1)),.v (.vc (pI .i64 v7)),.v (.vc (pS cI v15)),.v (.vc (pS cI a1)),.v (.vc (pI .i64 (a1.length:Int))),.v (.vc (pS cI x17)),.g (fun b c=>.vc (pO b v11.length c)),.v (.vc (pS cI x17))] aR ⟨d1 0 (aL (.inl rfl)) ⟨rfl,trivial⟩,d1 0 (aL (.inl rfl)) ⟨rfl,trivial⟩,⟨rfl,.hvy [0] ⟨fun G9 A=>aFH rfl (sX h12) rfl,trivial⟩ (fun G9=>⟨rfl,rfl,trivial⟩)⟩,⟨rfl,.run (L:=[0,1]) ⟨fun G9 A=>aL (.inl rfl),fun G9 A=>aL (.inl rfl),trivial⟩ (fun G9=>⟨rfl,trivial⟩)⟩,⟨rfl,.run (L:=[0,1]) ⟨fun G9 A=>aL (.inl rfl),fun G9 A=>aL (.inl rfl),trivial⟩ (fun G9=>⟨rfl,trivial⟩)⟩,d1 1 (aG rfl (xH h16) rfl) ⟨rfl,rfl,trivial⟩,⟨rfl,.run (L:=[0,1,3]) ⟨fun G9 A=>aL (.inl rfl),fun G9 A=>aL (.inl rfl),fun G9 A=>aL (.inl rfl),trivial⟩ (fun G9=>⟨rfl,trivial⟩)⟩,⟨rfl,.run (L:=[0,1,3]) ⟨fun G9 A=>bZ rfl tyS22,fun G9 A=>bZ rfl tyS22,fun G9 A=>bZ rfl tyS22,trivial⟩ (fun G9=>⟨rfl,trivial⟩)⟩,⟨rfl,.run (L:=[1,3]) ⟨fun G9 A=>aBF rfl tyS22 h18,fun G9 A=>aBF rfl tyS22 h18,trivial⟩ (fun G9=>⟨rfl,rfl,trivial⟩)⟩,⟨rfl,.hvy [1] ⟨fun G9 A=>aGG ((G9 2).1) ((G9 2).2) (aL (.inr rfl)),trivial⟩ (fun G9=>⟨rfl,trivial⟩)⟩,d1 3 (aL (.inr rfl)) ⟨rfl,trivial⟩,trivial⟩ (fun bs10 G9=>?_)
 refine aC (aA (aD (aE (aF ?_))))
 refine aB (bZ rfl tyS22) ⟨rfl,trivial⟩ ?_
 refine bB ?_
 refine aC (aA (aD (aE (aF ?_))))
 refine aB (bZ rfl tyS22) ⟨rfl,trivial⟩ ?_
 refine aF ?_
 obtain⟨v23,h24,hF⟩:=aO hF
 refine aB (fH rfl h24) ⟨rfl,rfl,trivial⟩ ?_
 obtain⟨v25,h26,hF⟩:=aO hF
 refine aB (bI rfl h26) ⟨rfl,bC _ _,trivial⟩ ?_
 obtain⟨x27,h28,hF⟩:=aO hF
 refine rK (C:=cI) rfl tyS22 rfl tyZ3 rfl h28 (fun b29=>?_)
 refine bB ?_
 refine aC (aA (aD (aD (aE (aF ?_)))))
 refine aB (bZ rfl tyS22) ⟨rfl,trivial⟩ ?_
 refine aF ?_
 obtain⟨v32,h33,hF⟩:=aO hF
 refine aB (fH rfl h33) ⟨rfl,rfl,trivial⟩ ?_
 refine bB ?_
 refine aC (aA (bN (cL (fun H E=>∃(x60:List Int),∃(x66:List Int),oH K a1 v7 x60 x66=some r∧x60.length=x27.length∧x66.length=v11.length∧H=[hO cI b29 x27.length 3 x27.length x60,hO cI ((G9 9).1) ((G9 9).2) 3 v11.length x66]∧E=[(6,.vc (pI .i64 v7)),(7,.vc (pO ((G9 9).1) v11.length ((G9 9).2))),(9,.vc (pI .i64 (a1.length:Int))),(10,.vc (pO b29 x27.length x27.length))]) ?_ (fun Jj73=>?_))))
 ·rintro _ _ ⟨x60,x66,hF,q64,q70,rfl,rfl⟩
  unfold oH at hF
  refine aA (aD (aE (aF ?_)))
  refine aF ?_
  refine xZ 1 [7,213] rfl q70 ⟨rfl,rfl,trivial⟩ rfl ?_
  obtain⟨x74,h75,hF⟩:=aO hF
  refine aB (aBF rfl tyS22 h75) ⟨rfl,rfl,trivial⟩ ?_
  refine aF ?_
  obtain⟨v76,h77,hF⟩:=aO hF
  refine aB (aG rfl (tS h77) rfl) ⟨rfl,rfl,trivial⟩ ?_
  refine aF ?_
  refine aB (lV rfl) ⟨rfl,trivial⟩ ?_
  refine aB (lR rfl) ⟨rfl,trivial⟩ ?_
  refine bB ?_
  refine bB ?_
  refine aC (aA (aD (aE (aF ?_))))
  refine aF ?_
  refine bB ?_
  refine bB ?_
  refine aC (aA (aX (aW (t5 0 [4,10,220] rfl q64 ⟨rfl,rfl,rfl,trivial⟩ rfl ?_))))
  obtain rfl:=bX hF
  exact aI (.inl rfl) Tryz.results258 (.tmp rfl (.tmp rfl .nil)) rfl rfl
 obtain⟨⟨x60',x66'⟩,hL,hRl72⟩:=aO hF
 refine gY (fun k a w=>∃(x47:List Int),∃(x53:List Int),∃(x59:Int),eM K a1 x17 k x47 x53 x59=some (x60',x66')∧x47.length=x27.length∧x53.length=v11.length∧hs _ [hO cI b29 x27.length 3 x27.length x47,hO cI ((G9 9).1) ((G9 9).2) 3 v11.length x53] [(6,.vc (pI .i64 v7)),(7,.vc (pO ((G9 9).1) v11.length ((G9 9).2))),(8,.vc (pS cI x17)),(9,.vc (pI .i64 (a1.length:Int))),(10,.vc (pO b29 x27.length x27.length)),(11,.vc (pI .i64 x59))] a w) K (fun a w ⟨_,_,_,hF,_,_,_⟩=>by cases hF) (fun k a w ⟨x47,x53,x59,hF,q51,q57,hh⟩=>gX ?_ hh) (fun a w hh=>⟨x27,v11,v32,hL,rfl,rfl,bA [0,1] rfl (by decide) (by exact⟨rfl,rfl,rfl,rfl,rfl,rfl,trivial⟩) hh⟩)
 rw [eM.eq_2] at hF
 refine aD (aD (aE (aF ?_)))
 refine aB (sB rfl) ⟨rfl,bC _ _,trivial⟩ ?_
 refine aC (aA (bO rfl (fun h78=>?_) (fun h78=>?_)))
 ·have hF:=aT h78 hF
  refine aV (aA (aD (bN (aCZ (aD ?_)))))
  obtain⟨v81,h82,hF⟩:=aO hF
  obtain⟨v83,h84,hF⟩:=aO hF
  obtain⟨v85,h86,hF⟩:=aO hF
  obtain⟨v87,h88,hF⟩:=aO hF
  obtain⟨v89,h90,hF⟩:=aO hF
  obtain⟨v91,h92,hF⟩:=aO hF
  obtain⟨v93,h94,hF⟩:=aO hF
  refine bP [0,0,0,6,15,31,63,0,0,0,768,1792,3968,8064,16383,32767] 16 0 [.v (.vc (pO ((G9 9).1) v11.length ((G9 9).2))),.v (.vc (pI .i64 x59)),.v (.vc (pI .i64 (a1.length:Int))),.v (.vc (pI .i64 v81)),.v (.vc (pE ((G9 9).1) v81 cI.n 0)),.v (.vc (pI .i64 v83)),.v (.vc (pI .i64 v85)),.v (.vc (pO ((G9 9).1) v11.length ((G9 9).2))),.v (.vc (pI .i64 x59)),.v (.vc (pI .i64 (a1.length:Int))),.v (.vc (pI .i64 v87)),.v (.vc (pI .i64 v89)),.v (.vc (pE ((G9 9).1) v89 cI.n 0)),.v (.vc (pI .i64 v91)),.v (.vc (pI .i64 v93)),.v (.vc (pI .i64 v93))] aR ⟨d0 (aL (.inl rfl)) ⟨rfl,trivial⟩,d0 (aL (.inl rfl)) ⟨rfl,trivial⟩,d0 (aL (.inl rfl)) ⟨rfl,trivial⟩,d0 (bI rfl h82) ⟨rfl,rfl,trivial⟩,d0 (cE (C:=cI) 1 rfl tyS22 rfl q57 (aN h84).1 (aN h84).2.1) ⟨rfl,rfl,trivial⟩,d0 (gA (k:=1) 1 rfl rfl h84 rfl (.one tyO3) rfl) ⟨rfl,trivial⟩,d0 (lL rfl h86) ⟨rfl,bC _ _,trivial⟩,d0 (aL (.inl rfl)) ⟨rfl,trivial⟩,d0 (aL (.inl rfl)) ⟨rfl,trivial⟩,d0 (aL (.inl rfl)) ⟨rfl,trivial⟩,d0 (bI rfl h88) ⟨rfl,rfl,trivial⟩,d0 (fH rfl h90) ⟨rfl,bC _ _,trivial⟩,d0 (cE (C:=cI) 1 rfl tyS22 rfl q57 (aN h92).1 (aN h92).2.1) ⟨rfl,rfl,trivial⟩,d0 (gA (k:=1) 1 rfl rfl h92 rfl (.one tyO3) rfl) ⟨rfl,trivial⟩,d0 (bI rfl h94) ⟨rfl,rfl,trivial⟩,d0 (aL (.inr rfl)) ⟨rfl,trivial⟩,trivial⟩ (fun bs80 G79=>?_)
  refine aC (aA (aD ?_))
  obtain⟨v97,h98,hF⟩:=aO hF
  obtain⟨v99,h100,hF⟩:=aO hF
  obtain⟨v101,h102,hF⟩:=aO hF
  obtain⟨v103,h104,hF⟩:=aO hF
  obtain⟨v105,h106,hF⟩:=aO hF
  obtain⟨v107,h108,hF⟩:=aO hF
  refine bP [0,0,0,4,14,30,63,0,0,0,512,1792,3840,8064,127,32767] 16 0 [.v (.vc (pI .i64 v93)),.v (.vc (pS cI x17)),.v (.vc (pI .i64 (a1.length:Int))),.v (.vc (pI .i64 v97)),.v (.vc (pM (cI.e v99))),.v (.vc (pI .i64 v99)),.v (.vc (pI .i64 v101)),.v (.vc (pI .i64 v93)),.v (.vc (pS cI x17)),.v (.vc (pI .i64 (a1.length:Int))),.v (.vc (pI .i64 v103)),.v (.vc (pM (cI.e v105))),.v (.vc (pI .i64 v105)),.v (.vc (pI .i64 v107)),.v (.vc (pI .i64 v101)),.v (.vc (pI .i64 v107))] aR ⟨d0 (aL (.inl rfl)) ⟨rfl,trivial⟩,d0 (aL (.inl rfl)) ⟨rfl,trivial⟩,d0 (aL (.inl rfl)) ⟨rfl,trivial⟩,d0 (fH rfl h98) ⟨rfl,bC _ _,trivial⟩,d0 (dX rfl tyS22 h100) ⟨rfl,rfl,trivial⟩,d0 (dM 1 rfl rfl (.one tyO3)) ⟨rfl,trivial⟩,d0 (oD rfl h102) ⟨rfl,rfl,trivial⟩,d0 (aL (.inl rfl)) ⟨rfl,trivial⟩,d0 (aL (.inl rfl)) ⟨rfl,trivial⟩,d0 (aL (.inl rfl)) ⟨rfl,trivial⟩,d0 (fH rfl h104) ⟨rfl,bC _ _,trivial⟩,d0 (dX rfl tyS22 h106) ⟨rfl,rfl,trivial⟩,d0 (dM 1 rfl rfl (.one tyO3)) ⟨rfl,trivial⟩,d0 (mZ rfl h108) ⟨rfl,rfl,trivial⟩,d0 (aL (.inr rfl)) ⟨rfl,trivial⟩,d0 (aL (.inr rfl)) ⟨rfl,trivial⟩,trivial⟩ (fun bs96 G95=>?_)
  refine aC (aA (aD (aDo (aA (aD (bN (cL (fun H E=>∃(x113:Int),lM K a1 x17 x47 x53 x59 (eM K a1 x17 k) x113=some (x60',x66')∧H=[hO cI b29 x27.length 3 x27.length x47,hO cI ((G9 9).1) ((G9 9).2) 3 v11.length x53]∧E=[(6,.vc (pI .i64 v7)),(7,.vc (pO ((G9 9).1) v11.length ((G9 9).2))),(8,.vc (pS cI x17)),(9,.vc (pI .i64 (a1.length:Int))),(10,.vc (pO b29 x27.length x27.length)),(11,.vc (pI .i64 x59)),(13,.vc (pI .i64 x113))]) ?_ (fun Jj115=>?_))))))))
  ·rintro _ _ ⟨x113,hF,rfl,rfl⟩
   unfold lM at hF
   refine aA (aD (aE (aB (aL (.inr rfl)) ⟨bC _ _,trivial⟩ ?_)))
   refine aC (aA (aD (aD (aE (aF ?_)))))
   refine aB (aL (.inl rfl)) ⟨bC _ _,trivial⟩ ?_
   refine aC (aA (bN (cL (fun H E=>∃(x132:List Int),∃(x138:Int),lJ K a1 x17 x47 x59 x113 (eM K a1 x17 k) x132 x138=some (x60',x66')∧x132.length=v11.length∧H=[hO cI b29 x27.length 3 x27.length x47,hO cI ((G9 9).1) ((G9 9).2) 3 v11.length x132]∧E=[(6,.vc (pI .i64 v7)),(7,.vc (pO ((G9 9).1) v11.length ((G9 9).2))),(8,.vc (pS cI x17)),(9,.vc (pI .i64 (a1.length:Int))),(10,.vc (pO b29 x27.length x27.length)),(11,.vc (pI .i64 x59)),(13,.vc (pI .i64 x113)),(15,.vc (pI .i64 x138))]) ?_ (fun Jj140=>?_))))
   ·rintro _ _ ⟨x132,x138,hF,q136,rfl,rfl⟩
    unfold lJ at hF
    refine aA (aD (aD (aE (aF ?_))))
    refine aF ?_
    refine aF ?_
    obtain⟨v141,h142,hF⟩:=aO hF
    refine aB (bI rfl h142) ⟨rfl,rfl,trivial⟩ ?_
    obtain⟨v143,h144,hF⟩:=aO hF
    refine aB (cE (C:=cI) 1 rfl tyS22 rfl q136 (aN h144).1 (aN h144).2.1) ⟨rfl,rfl,trivial⟩ ?_
    refine aB (gA (k:=1) 1 rfl rfl h144 rfl (.one tyO3) rfl) ⟨rfl,trivial⟩ ?_
    refine aF ?_
    obtain⟨v145,h146,hF⟩:=aO hF
    refine aB (fH rfl h146) ⟨rfl,rfl,trivial⟩ ?_
    obtain⟨v147,h148,hF⟩:=aO hF
    refine aB (cE (C:=cI) 1 rfl tyS22 rfl q136 (aN h148).1 (aN h148).2.1) ⟨rfl,rfl,trivial⟩ ?_
    obtain⟨x149,h150,hF⟩:=aO hF
    refine aY (fL 1 rfl rfl h148 h150 tyO3.s) ⟨rfl,rfl,trivial⟩ ?_
    refine aC (aA (aD (aE (aF ?_))))
    refine aF ?_
    refine aF ?_
    obtain⟨v152,h153,hF⟩:=aO hF
    refine aB (bI rfl h153) ⟨rfl,rfl,trivial⟩ ?_
    obtain⟨v154,h155,hF⟩:=aO hF
    refine aB (cE (C:=cI) 1 rfl tyS22 rfl (b0 h150 q136) (aN h155).1 (aN h155).2.1) ⟨rfl,rfl,trivial⟩ ?_
    refine aB (gA (k:=1) 1 rfl rfl h155 rfl (.one tyO3) rfl) ⟨rfl,trivial⟩ ?_
    refine aB (dQ rfl) ⟨rfl,bC _ _,trivial⟩ ?_
    refine aC (aA (bO rfl (fun h156=>?_) (fun h156=>?_)))
    ·have hF:=aT h156 hF
     refine aD (aE (aF ?_))
     obtain⟨v157,h158,hF⟩:=aO hF
     refine aB (fH rfl h158) ⟨rfl,bC _ _,trivial⟩ ?_
     refine bB ?_
     refine aC (aA (aD (aE (aB (aL (.inr rfl)) ⟨bC _ _,trivial⟩ ?_))))
     refine aC (aA (aD (aD (aE (aF ?_)))))
     refine aB (aL (.inl rfl)) ⟨bC _ _,trivial⟩ ?_
     refine aC (aA (bN (cL (fun H E=>∃(x175:List Int),∃(x181:Int),nQ K a1 x47 x59 v157 (eM K a1 x17 k) x175 x181=some (x60',x66')∧x175.length=v11.length∧H=[hO cI b29 x27.length 3 x27.length x47,hO cI ((G9 9).1) ((G9 9).2) 3 v11.length x175]∧E=[(6,.vc (pI .i64 v7)),(7,.vc (pO ((G9 9).1) v11.length ((G9 9).2))),(8,.vc (pS cI x17)),(9,.vc (pI .i64 (a1.length:Int))),(10,.vc (pO b29 x27.length x27.length)),(11,.vc (pI .i64 x59)),(13,.vc (pI .i64 v157)),(15,.vc (pI .i64 x181))]) ?_ (fun Jj183=>?_))))
     ·rintro _ _ ⟨x175,x181,hF,q179,rfl,rfl⟩
      unfold nQ at hF
      refine aA (aE (aF ?_))
      refine aF ?_
      refine aF ?_
      obtain⟨v184,h185,hF⟩:=aO hF
      refine aB (bI rfl h185) ⟨rfl,rfl,trivial⟩ ?_
      obtain⟨v186,h187,hF⟩:=aO hF
      refine aB (cE (C:=cI) 1 rfl tyS22 rfl q179 (aN h187).1 (aN h187).2.1) ⟨rfl,rfl,trivial⟩ ?_
      refine aB (gA (k:=1) 1 rfl rfl h187 rfl (.one tyO3) rfl) ⟨rfl,trivial⟩ ?_
      refine aF ?_
      obtain⟨v188,h189,hF⟩:=aO hF
      refine aB (bI rfl h189) ⟨rfl,rfl,trivial⟩ ?_
      obtain⟨v190,h191,hF⟩:=aO hF
      refine aB (cE (C:=cI) 1 rfl tyS22 rfl q179 (aN h191).1 (aN h191).2.1) ⟨rfl,rfl,trivial⟩ ?_
      obtain⟨x192,h193,hF⟩:=aO hF
      refine aY (fL 1 rfl rfl h191 h193 tyO3.s) ⟨rfl,rfl,trivial⟩ ?_
      refine aC (aA (aE (aF ?_)))
      refine aF ?_
      refine aF ?_
      obtain⟨v195,h196,hF⟩:=aO hF
      refine aB (cE (C:=cI) 0 rfl tyS22 rfl q51 (aN h196).1 (aN h196).2.1) ⟨rfl,rfl,trivial⟩ ?_
      obtain⟨x197,h198,hF⟩:=aO hF
      refine aY (fL 0 rfl rfl h196 h198 tyO3.s) ⟨rfl,rfl,trivial⟩ ?_
      refine aC (aFS (bF (aA (aE (aF ?_)))))
      obtain⟨v200,h201,hF⟩:=aO hF
      refine aB (fH rfl h201) ⟨rfl,bC _ _,trivial⟩ ?_
      refine bB ?_
      refine aC ?_
      exact bG (fun a w hh=>⟨x197,x192,v200,hF,(b0 h198 q51),(b0 h193 q179),bA [0,1] rfl (by decide) (by exact⟨rfl,rfl,rfl,rfl,rfl,rfl,trivial⟩) hh⟩)
     obtain⟨⟨x175',x181'⟩,hL,hRl182⟩:=aO hF
     refine gY (fun k a w=>∃(x167:List Int),∃(x173:Int),∃(x174:Int),gG K a1 x17 x59 k x167 x173 x174=some (x175',x181')∧x167.length=v11.length∧hs _ [hO cI b29 x27.length 3 x27.length x47,hO cI ((G9 9).1) ((G9 9).2) 3 v11.length x167] [(6,.vc (pI .i64 v7)),(7,.vc (pO ((G9 9).1) v11.length ((G9 9).2))),(8,.vc (pS cI x17)),(9,.vc (pI .i64 (a1.length:Int))),(10,.vc (pO b29 x27.length x27.length)),(11,.vc (pI .i64 x59)),(13,.vc (pI .i64 v157)),(15,.vc (pI .i64 x173)),(172,.vc (pI .i64 (a1.length:Int))),(173,.vc (pI .i64 x174))] a w) K (fun a w ⟨_,_,_,hF,_,_⟩=>by cases hF) (fun k a w ⟨x167,x173,x174,hF,q171,hh⟩=>gX ?_ hh) (fun a w hh=>⟨x149,0,0,hL,(b0 h150 q136),bA [0,1] rfl (by decide) (by exact⟨rfl,rfl,rfl,rfl,rfl,rfl,rfl,rfl,rfl,rfl,trivial⟩) hh⟩)
     rw [gG.eq_2] at hF
     refine aD (aE (aB (dQ rfl) ⟨rfl,rfl,trivial⟩ ?_))
     refine aC (aA (aD (bO rfl (fun h202=>?_) (fun h202=>?_))))
     ·have hF:=aT h202 hF
      refine aV (aA (aD (bN (aD (aE (aF ?_))))))
      refine bB ?_
      refine aC (aA (aD ?_))
      obtain⟨v205,h206,hF⟩:=aO hF
      obtain⟨v207,h208,hF⟩:=aO hF
      obtain⟨v209,h210,hF⟩:=aO hF
      obtain⟨v211,h212,hF⟩:=aO hF
      obtain⟨v213,h214,hF⟩:=aO hF
      refine bP [0,0,0,6,15,31,0,0,192,448,1023,0,4095,8191] 14 0 [.v (.vc (pO ((G9 9).1) v11.length ((G9 9).2))),.v (.vc (pI .i64 x174)),.v (.vc (pI .i64 x59)),.v (.vc (pI .i64 v205)),.v (.vc (pE ((G9 9).1) v205 cI.n 0)),.v (.vc (pI .i64 v207)),.v (.vc (pS cI x17)),.v (.vc (pI .i64 x174)),.v (.vc (pM (cI.e v209))),.v (.vc (pI .i64 v209)),.v (.vc (pI .i64 v211)),.v (.vc (pI .i64 x173)),.v (.vc (pI .i64 v213)),.v (.vc (pI .i64 v213))] aR ⟨d0 (aL (.inl rfl)) ⟨rfl,trivial⟩,d0 (aL (.inl rfl)) ⟨rfl,trivial⟩,d0 (aL (.inl rfl)) ⟨rfl,trivial⟩,d0 (bI rfl h206) ⟨rfl,rfl,trivial⟩,d0 (cE (C:=cI) 1 rfl tyS22 rfl q171 (aN h208).1 (aN h208).2.1) ⟨rfl,rfl,trivial⟩,d0 (gA (k:=1) 1 rfl rfl h208 rfl (.one tyO3) rfl) ⟨rfl,trivial⟩,d0 (aL (.inl rfl)) ⟨rfl,trivial⟩,d0 (aL (.inl rfl)) ⟨rfl,trivial⟩,d0 (dX rfl tyS22 h210) ⟨rfl,rfl,trivial⟩,d0 (dM 1 rfl rfl (.one tyO3)) ⟨rfl,trivial⟩,d0 (bI rfl h212) ⟨rfl,rfl,trivial⟩,d0 (aL (.inl rfl)) ⟨rfl,trivial⟩,d0 (bI rfl h214) ⟨rfl,rfl,trivial⟩,d0 (aL (.inr rfl)) ⟨rfl,trivial⟩,trivial⟩ (fun bs204 G203=>?_)
      refine aC (aA (aE (aF ?_)))
      refine aF ?_
      refine aF ?_
      obtain⟨v215,h216,hF⟩:=aO hF
      refine aB (bI rfl h216) ⟨rfl,rfl,trivial⟩ ?_
      refine aF ?_
      obtain⟨v217,h218,hF⟩:=aO hF
      refine aB (mZ rfl h218) ⟨rfl,bC _ _,trivial⟩ ?_
      refine aF ?_
      obtain⟨v219,h220,hF⟩:=aO hF
      refine aB (oD rfl h220) ⟨rfl,bC _ _,trivial⟩ ?_
      obtain⟨v221,h222,hF⟩:=aO hF
      refine aB (cE (C:=cI) 1 rfl tyS22 rfl q171 (aN h222).1 (aN h222).2.1) ⟨rfl,rfl,trivial⟩ ?_
      obtain⟨x223,h224,hF⟩:=aO hF
      refine aY (fL 1 rfl rfl h222 h224 tyO3.s) ⟨rfl,rfl,trivial⟩ ?_
      refine bB ?_
      refine aC (bF (aA (aE ?_)))
      obtain⟨v226,h227,hF⟩:=aO hF
      refine aB (bI rfl h227) ⟨rfl,bC _ _,trivial⟩ ?_
      refine aF ?_
      refine aC ?_
      exact bG (fun a w hh=>⟨x223,v219,v226,hF,(b0 h224 q171),bA [0,1] rfl (by decide) (by exact⟨rfl,rfl,rfl,rfl,rfl,rfl,rfl,rfl,rfl,rfl,trivial⟩) hh⟩)
     have hF:=aU h202 hF
     refine dE ?_
     obtain⟨rfl,rfl⟩:=sm2 hF
     exact bS Jj183 ⟨x167,x173,hRl182,q171,rfl,rfl⟩ [0,1] rfl ⟨rfl,rfl,rfl,rfl,rfl,rfl,rfl,rfl,trivial⟩
    have hF:=aU h156 hF
    refine aV (aA (aE (aF ?_)))
    refine aF ?_
    refine aF ?_
    obtain⟨v228,h229,hF⟩:=aO hF
    refine aB (cE (C:=cI) 0 rfl tyS22 rfl q51 (aN h229).1 (aN h229).2.1) ⟨rfl,rfl,trivial⟩ ?_
    obtain⟨x230,h231,hF⟩:=aO hF
    refine aY (fL 0 rfl rfl h229 h231 tyO3.s) ⟨rfl,rfl,trivial⟩ ?_
    refine aC (aFS (bF (aA (aE (aF ?_)))))
    obtain⟨v233,h234,hF⟩:=aO hF
    refine aB (fH rfl h234) ⟨rfl,bC _ _,trivial⟩ ?_
    refine bB ?_
    refine aC ?_
    exact bG (fun a w hh=>⟨x230,x149,v233,hF,(b0 h231 q51),(b0 h150 q136),bA [0,1] rfl (by decide) (by exact⟨rfl,rfl,rfl,rfl,rfl,rfl,trivial⟩) hh⟩)
   obtain⟨⟨x132',x138'⟩,hL,hRl139⟩:=aO hF
   refine gY (fun k a w=>∃(x124:List Int),∃(x130:Int),∃(x131:Int),eV K a1 x17 x59 x113 k x124 x130 x131=some (x132',x138')∧x124.length=v11.length∧hs _ [hO cI b29 x27.length 3 x27.length x47,hO cI ((G9 9).1) ((G9 9).2) 3 v11.length x124] [(6,.vc (pI .i64 v7)),(7,.vc (pO ((G9 9).1) v11.length ((G9 9).2))),(8,.vc (pS cI x17)),(9,.vc (pI .i64 (a1.length:Int))),(10,.vc (pO b29 x27.length x27.length)),(11,.vc (pI .i64 x59)),(13,.vc (pI .i64 x113)),(15,.vc (pI .i64 x130)),(117,.vc (pI .i64 (a1.length:Int))),(118,.vc (pI .i64 x131))] a w) K (fun a w ⟨_,_,_,hF,_,_⟩=>by cases hF) (fun k a w ⟨x124,x130,x131,hF,q128,hh⟩=>gX ?_ hh) (fun a w hh=>⟨x53,0,0,hL,q57,bA [0,1] rfl (by decide) (by exact⟨rfl,rfl,rfl,rfl,rfl,rfl,rfl,rfl,rfl,rfl,trivial⟩) hh⟩)
   rw [eV.eq_2] at hF
   refine aD (aE (aB (dQ rfl) ⟨rfl,rfl,trivial⟩ ?_))
   refine aC (aA (aD (bO rfl (fun h235=>?_) (fun h235=>?_))))
   ·have hF:=aT h235 hF
    refine aV (aA (aD (bN (aD (aE (aF ?_))))))
    refine bB ?_
    refine aC (aA (aD ?_))
    obtain⟨v238,h239,hF⟩:=aO hF
    obtain⟨v240,h241,hF⟩:=aO hF
    obtain⟨v242,h243,hF⟩:=aO hF
    obtain⟨v244,h245,hF⟩:=aO hF
    obtain⟨v246,h247,hF⟩:=aO hF
    obtain⟨v248,h249,hF⟩:=aO hF
    refine bP [0,0,0,6,15,31,0,0,0,384,896,1984,4095,0,16383,32767] 16 0 [.v (.vc (pO ((G9 9).1) v11.length ((G9 9).2))),.v (.vc (pI .i64 x131)),.v (.vc (pI .i64 x59)),.v (.vc (pI .i64 v238)),.v (.vc (pE ((G9 9).1) v238 cI.n 0)),.v (.vc (pI .i64 v240)),.v (.vc (pI .i64 x113)),.v (.vc (pS cI x17)),.v (.vc (pI .i64 x131)),.v (.vc (pM (cI.e v242))),.v (.vc (pI .i64 v242)),.v (.vc (pI .i64 v244)),.v (.vc (pI .i64 v246)),.v (.vc (pI .i64 x130)),.v (.vc (pI .i64 v248)),.v (.vc (pI .i64 v248))] aR ⟨d0 (aL (.inl rfl)) ⟨rfl,trivial⟩,d0 (aL (.inl rfl)) ⟨rfl,trivial⟩,d0 (aL (.inl rfl)) ⟨rfl,trivial⟩,d0 (bI rfl h239) ⟨rfl,rfl,trivial⟩,d0 (cE (C:=cI) 1 rfl tyS22 rfl q128 (aN h241).1 (aN h241).2.1) ⟨rfl,rfl,trivial⟩,d0 (gA (k:=1) 1 rfl rfl h241 rfl (.one tyO3) rfl) ⟨rfl,trivial⟩,d0 (aL (.inl rfl)) ⟨rfl,trivial⟩,d0 (aL (.inl rfl)) ⟨rfl,trivial⟩,d0 (aL (.inl rfl)) ⟨rfl,trivial⟩,d0 (dX rfl tyS22 h243) ⟨rfl,rfl,trivial⟩,d0 (dM 1 rfl rfl (.one tyO3)) ⟨rfl,trivial⟩,d0 (lL rfl h245) ⟨rfl,rfl,trivial⟩,d0 (fH rfl h247) ⟨rfl,rfl,trivial⟩,d0 (aL (.inl rfl)) ⟨rfl,trivial⟩,d0 (fH rfl h249) ⟨rfl,rfl,trivial⟩,d0 (aL (.inr rfl)) ⟨rfl,trivial⟩,trivial⟩ (fun bs237 G236=>?_)
    refine aC (aA (aD (aE (aB (aL (.inr rfl)) ⟨bC _ _,trivial⟩ ?_))))
    refine aC (aA (aD (aD (aE (aF ?_)))))
    refine aB (dQ rfl) ⟨rfl,bC _ _,trivial⟩ ?_
    refine aC (aA (bO rfl (fun h250=>?_) (fun h250=>?_)))
    ·have hF:=aT h250 hF
     refine aD (aE (aF ?_))
     obtain⟨v251,h252,hF⟩:=aO hF
     refine aB (aDu rfl h252) ⟨rfl,trivial⟩ ?_
     obtain⟨v253,h254,hF⟩:=aO hF
     refine aB (bI rfl h254) ⟨rfl,bC _ _,trivial⟩ ?_
     obtain⟨v255,h256,hF⟩:=aO hF
     refine aB (fH rfl h256) ⟨rfl,bC _ _,trivial⟩ ?_
     obtain⟨v257,h258,hF⟩:=aO hF
     refine aB (oD rfl h258) ⟨rfl,bC _ _,trivial⟩ ?_
     refine bB ?_
     refine aC (aA (aE (aF ?_)))
     refine aF ?_
     obtain⟨v259,h260,hF⟩:=aO hF
     refine aB (lL rfl h260) ⟨rfl,bC _ _,trivial⟩ ?_
     obtain⟨v261,h262,hF⟩:=aO hF
     refine aB (bI rfl h262) ⟨rfl,rfl,trivial⟩ ?_
     refine bB ?_
     refine aC (aA (aE (aF ?_)))
     refine aF ?_
     refine aF ?_
     obtain⟨v263,h264,hF⟩:=aO hF
     refine aB (bI rfl h264) ⟨rfl,rfl,trivial⟩ ?_
     refine aF ?_
     obtain⟨v265,h266,hF⟩:=aO hF
     refine aB (cE (C:=cI) 1 rfl tyS22 rfl q128 (aN h266).1 (aN h266).2.1) ⟨rfl,rfl,trivial⟩ ?_
     obtain⟨x267,h268,hF⟩:=aO hF
     refine aY (fL 1 rfl rfl h266 h268 tyO3.s) ⟨rfl,rfl,trivial⟩ ?_
     refine aC (bF (aA (aE ?_)))
     obtain⟨v270,h271,hF⟩:=aO hF
     refine aB (bI rfl h271) ⟨rfl,bC _ _,trivial⟩ ?_
     refine aF ?_
     refine aC ?_
     exact bG (fun a w hh=>⟨x267,v257,v270,hF,(b0 h268 q128),bA [0,1] rfl (by decide) (by exact⟨rfl,rfl,rfl,rfl,rfl,rfl,rfl,rfl,rfl,rfl,trivial⟩) hh⟩)
    have hF:=aU h250 hF
    refine aV (aA (aE (aF ?_)))
    refine aF ?_
    refine aF ?_
    obtain⟨v272,h273,hF⟩:=aO hF
    refine aB (bI rfl h273) ⟨rfl,rfl,trivial⟩ ?_
    refine aF ?_
    obtain⟨v274,h275,hF⟩:=aO hF
    refine aB (cE (C:=cI) 1 rfl tyS22 rfl q128 (aN h275).1 (aN h275).2.1) ⟨rfl,rfl,trivial⟩ ?_
    obtain⟨x276,h277,hF⟩:=aO hF
    refine aY (fL 1 rfl rfl h275 h277 tyO3.s) ⟨rfl,rfl,trivial⟩ ?_
    refine aC (bF (aA (aE ?_)))
    obtain⟨v279,h280,hF⟩:=aO hF
    refine aB (bI rfl h280) ⟨rfl,bC _ _,trivial⟩ ?_
    refine aF ?_
    refine aC ?_
    exact bG (fun a w hh=>⟨x276,0,v279,hF,(b0 h277 q128),bA [0,1] rfl (by decide) (by exact⟨rfl,rfl,rfl,rfl,rfl,rfl,rfl,rfl,rfl,rfl,trivial⟩) hh⟩)
   have hF:=aU h235 hF
   refine dE ?_
   obtain⟨rfl,rfl⟩:=sm2 hF
   exact bS Jj140 ⟨x124,x130,hRl139,q128,rfl,rfl⟩ [0,1] rfl ⟨rfl,rfl,rfl,rfl,rfl,rfl,rfl,rfl,trivial⟩
  obtain⟨x113',hL,hRl114⟩:=aO hF
  refine gY (fun k a w=>∃(x111:Int),∃(x112:Int),d9 K a1 x17 x53 x59 k x111 x112=some x113'∧hs _ [hO cI b29 x27.length 3 x27.length x47,hO cI ((G9 9).1) ((G9 9).2) 3 v11.length x53] [(6,.vc (pI .i64 v7)),(7,.vc (pO ((G9 9).1) v11.length ((G9 9).2))),(8,.vc (pS cI x17)),(9,.vc (pI .i64 (a1.length:Int))),(10,.vc (pO b29 x27.length x27.length)),(11,.vc (pI .i64 x59)),(13,.vc (pI .i64 x111)),(14,.vc (pI .i64 x112))] a w) K (fun a w ⟨_,_,hF,_⟩=>by cases hF) (fun k a w ⟨x111,x112,hF,hh⟩=>gX ?_ hh) (fun a w hh=>⟨v101,v107,hL,bA [0,1] rfl (by decide) (by exact⟨rfl,rfl,rfl,rfl,rfl,rfl,rfl,rfl,trivial⟩) hh⟩)
  rw [d9.eq_2] at hF
  refine aD (aD ?_)
  rcases Bool.eq_false_or_eq_true (decide (1000000000≤x111)) with h283|h283
  ·have hF:=aT h283 hF
   refine bP [0,1,3,7,7,7,39,119,247,511,7,1031,7,7,7,24583,57351,126983,258055,523271,1048575,2097151] 22 0 [.v (.vc (pI .i64 x111)),.v (.vc (pB (decide (1000000000≤x111)))),.v (.vc (pB true)),.v .un,.v .un,.v .un,.v .un,.v .un,.v .un,.v .un,.v .un,.v .un,.v .un,.v .un,.v .un,.v .un,.v .un,.v .un,.v .un,.v .un,.v .un,.v (.vc (pB true))] aR ⟨d0 (aL (.inl rfl)) ⟨rfl,trivial⟩,d0 (sB rfl) ⟨rfl,bC _ _,trivial⟩,d0 (cW (aL (.inl rfl)) h283) ⟨rfl,trivial⟩,⟨rfl,.skipN⟩,⟨rfl,.skipN⟩,⟨rfl,.skipN⟩,⟨rfl,.skipN⟩,⟨rfl,.skipN⟩,⟨rfl,.skipN⟩,⟨rfl,.skipN⟩,⟨rfl,.skipN⟩,⟨rfl,.skipN⟩,⟨rfl,.skipN⟩,⟨rfl,.skipN⟩,⟨rfl,.skipN⟩,⟨rfl,.skipN⟩,⟨rfl,.skipN⟩,⟨rfl,.skipN⟩,⟨rfl,.skipN⟩,⟨rfl,.skipN⟩,⟨rfl,.skipN⟩,d0 (bK rfl) ⟨rfl,dH _,trivial⟩,trivial⟩ (fun bs282 G281=>?_)
   refine aC (aA (kT rfl ?_))
   refine aV (aA (bN (aD (aE (aF ?_)))))
   obtain⟨v284,h285,hF⟩:=aO hF
   refine aB (fH rfl h285) ⟨rfl,bC _ _,trivial⟩ ?_
   refine bB ?_
   refine aC (aA (aD (aE (aF ?_))))
   refine aF ?_
   refine aF ?_
   obtain⟨v286,h287,hF⟩:=aO hF
   refine aB (fH rfl h287) ⟨rfl,bC _ _,trivial⟩ ?_
   obtain⟨v288,h289,hF⟩:=aO hF
   refine aB (dX rfl tyS22 h289) ⟨rfl,rfl,trivial⟩ ?_
   refine aB (dM 1 rfl rfl (.one tyO3)) ⟨rfl,trivial⟩ ?_
   obtain⟨v290,h291,hF⟩:=aO hF
   refine aB (bI rfl h291) ⟨rfl,rfl,trivial⟩ ?_
   refine bB ?_
   refine aC (aA (aD (aE (aF ?_))))
   refine aB (sB rfl) ⟨rfl,bC _ _,trivial⟩ ?_
   refine aC (aA (bO rfl (fun h292=>?_) (fun h292=>?_)))
   ·have hF:=aT h292 hF
    refine dE ?_
    obtain rfl:=bX hF
    exact bS Jj115 ⟨v284,hRl114,rfl,rfl⟩ [0,1] rfl ⟨rfl,rfl,rfl,rfl,rfl,rfl,rfl,trivial⟩
   have hF:=aU h292 hF
   refine aV (bF ?_)
   exact bG (fun a w hh=>⟨v284,v290,hF,bA [0,1] rfl (by decide) (by exact⟨rfl,rfl,rfl,rfl,rfl,rfl,rfl,rfl,trivial⟩) hh⟩)
  have hF:=aU h283 hF
  obtain⟨v293,h294,hF⟩:=aO hF
  obtain⟨v295,h296,hF⟩:=aO hF
  obtain⟨v297,h298,hF⟩:=aO hF
  obtain⟨v299,h300,hF⟩:=aO hF
  obtain⟨v301,h302,hF⟩:=aO hF
  obtain⟨v303,h304,hF⟩:=aO hF
  obtain⟨v305,h306,hF⟩:=aO hF
  obtain⟨v307,h308,hF⟩:=aO hF
  refine bP [0,1,3,7,7,7,39,119,247,511,7,1031,7,7,7,24583,57351,126983,258055,523271,1048575,2097151] 22 0 [.v (.vc (pI .i64 x111)),.v (.vc (pB (decide (1000000000≤x111)))),.v (.vc (pB false)),.v (.vc (pI .i64 x111)),.v (.vc (pS cI x17)),.v (.vc (pI .i64 (a1.length:Int))),.v (.vc (pI .i64 v293)),.v (.vc (pM (cI.e v295))),.v (.vc (pI .i64 v295)),.v (.vc (pI .i64 v297)),.v (.vc (pI .i64 x112)),.v (.vc (pI .i64 v299)),.v (.vc (pO ((G9 9).1) v11.length ((G9 9).2))),.v (.vc (pI .i64 x59)),.v (.vc (pI .i64 (a1.length:Int))),.v (.vc (pI .i64 v301)),.v (.vc (pI .i64 v303)),.v (.vc (pE ((G9 9).1) v303 cI.n 0)),.v (.vc (pI .i64 v305)),.v (.vc (pI .i64 v307)),.v (.vc (pB (decide (v307<v297)))),.v (.vc (pB (decide (v307<v297))))] aR ⟨d0 (aL (.inl rfl)) ⟨rfl,trivial⟩,d0 (sB rfl) ⟨rfl,bC _ _,trivial⟩,d0 (cW (aL (.inl rfl)) h283) ⟨rfl,trivial⟩,g0 (aL (.inl rfl)) ⟨rfl,trivial⟩,g0 (aL (.inl rfl)) ⟨rfl,trivial⟩,g0 (aL (.inl rfl)) ⟨rfl,trivial⟩,g0 (fH rfl h294) ⟨rfl,bC _ _,trivial⟩,g0 (dX rfl tyS22 h296) ⟨rfl,rfl,trivial⟩,g0 (dM 1 rfl rfl (.one tyO3)) ⟨rfl,trivial⟩,g0 (lL rfl h298) ⟨rfl,rfl,trivial⟩,g0 (aL (.inl rfl)) ⟨rfl,trivial⟩,g0 (lL rfl h300) ⟨rfl,bC _ _,trivial⟩,g0 (aL (.inl rfl)) ⟨rfl,trivial⟩,g0 (aL (.inl rfl)) ⟨rfl,trivial⟩,g0 (aL (.inl rfl)) ⟨rfl,trivial⟩,g0 (bI rfl h302) ⟨rfl,rfl,trivial⟩,g0 (fH rfl h304) ⟨rfl,bC _ _,trivial⟩,g0 (cE (C:=cI) 1 rfl tyS22 rfl q57 (aN h306).1 (aN h306).2.1) ⟨rfl,rfl,trivial⟩,g0 (gA (k:=1) 1 rfl rfl h306 rfl (.one tyO3) rfl) ⟨rfl,trivial⟩,g0 (bI rfl h308) ⟨rfl,rfl,trivial⟩,g0 (p8 rfl) ⟨rfl,rfl,trivial⟩,d0 (bL rfl) ⟨rfl,rfl,trivial⟩,trivial⟩ (fun bs282 G281=>?_)
  refine aC (aA (bO rfl (fun h309=>?_) (fun h309=>?_)))
  ·have hF:=aT h309 hF
   refine aV (aA (bN (aD (aE (aF ?_)))))
   obtain⟨v310,h311,hF⟩:=aO hF
   refine aB (fH rfl h311) ⟨rfl,bC _ _,trivial⟩ ?_
   refine bB ?_
   refine aC (aA (aD (aE (aF ?_))))
   refine aF ?_
   refine aF ?_
   obtain⟨v312,h313,hF⟩:=aO hF
   refine aB (fH rfl h313) ⟨rfl,bC _ _,trivial⟩ ?_
   obtain⟨v314,h315,hF⟩:=aO hF
   refine aB (dX rfl tyS22 h315) ⟨rfl,rfl,trivial⟩ ?_
   refine aB (dM 1 rfl rfl (.one tyO3)) ⟨rfl,trivial⟩ ?_
   obtain⟨v316,h317,hF⟩:=aO hF
   refine aB (bI rfl h317) ⟨rfl,rfl,trivial⟩ ?_
   refine bB ?_
   refine aC (aA (aD (aE (aF ?_))))
   refine aB (sB rfl) ⟨rfl,bC _ _,trivial⟩ ?_
   refine aC (aA (bO rfl (fun h318=>?_) (fun h318=>?_)))
   ·have hF:=aT h318 hF
    refine dE ?_
    obtain rfl:=bX hF
    exact bS Jj115 ⟨v310,hRl114,rfl,rfl⟩ [0,1] rfl ⟨rfl,rfl,rfl,rfl,rfl,rfl,rfl,trivial⟩
   have hF:=aU h318 hF
   refine aV (bF ?_)
   exact bG (fun a w hh=>⟨v310,v316,hF,bA [0,1] rfl (by decide) (by exact⟨rfl,rfl,rfl,rfl,rfl,rfl,rfl,rfl,trivial⟩) hh⟩)
  have hF:=aU h309 hF
  refine dE ?_
  obtain rfl:=bX hF
  exact bS Jj115 ⟨x111,hRl114,rfl,rfl⟩ [0,1] rfl ⟨rfl,rfl,rfl,rfl,rfl,rfl,rfl,trivial⟩
 have hF:=aU h78 hF
 refine dE ?_
 obtain⟨rfl,rfl⟩:=sm2 hF
 exact bS Jj73 ⟨x47,x53,hRl72,q51,q57,rfl,rfl⟩ [0,1] rfl ⟨rfl,rfl,rfl,rfl,trivial⟩
def jU (K:Nat) (a0:List Int) (a1:List Int):Option (aP×aP):=
 (fF K a0 a1).bind fun v5=>bif(decide (v5<0)) then((eF K false a0).bind fun v8=>some ((⟨false,([]:List Int)⟩:aP),v8)) else(bif((a1.length:Int)==1) then((dO a1 0).bind fun v11=>(mW K a0 v11).bind fun v13=>(eF K false v13.1).bind fun v15=>(eN false (IntKind.u64.wrap v13.2)).bind fun v17=>some (v15,v17)) else((pN K a0 a1).bind fun v19=>(eF K false v19.1).bind fun v21=>(eF K false v19.2).bind fun v23=>some (v21,v23)))
def kN (K:Nat) (a0:List Int) (a1:List Int):Option (aP×aP):=
 (lX a0).bind fun v25=>bif v25.2 then((lX a1).bind fun v28=>bif v28.2 then((r4 v25.1 v28.1).bind fun v33=>(eN false (IntKind.u64.wrap v33)).bind fun v35=>(r6 v25.1 v28.1).bind fun v37=>(eN false (IntKind.u64.wrap v37)).bind fun v39=>some (v35,v39)) else(jU K a0 a1)) else(jU K a0 a1)
theorem rI {K:Nat} {a0:List Int} {a1:List Int} {r:aP×aP} (hF:kN K a0 a1=some r):Ct Tryz.prog 226 [.vc (pS cI a0),.vc (pS cI a1)] (.t2 (.va (aP.e r.1)) (.va (aP.e r.2))):=by
 unfold kN at hF
 refine a9 Tryz.func226 rfl (by kernel_rfl) Tryz.ntmps226 rfl (fun w0 M0=>?_)
 refine aD (aE (bJ rfl tyZ42 (fun b1=>?_)))
 refine bJ rfl tyZ42 (fun b2=>?_)
 refine aC (aA (aD (rB (fun H E=>jU K a0 a1=some r∧H=[⟨some b2,1,42,2,1,([pB false]++[pS cI ([]:List Int)])⟩,⟨some b1,1,42,2,1,([pB false]++[pS cI ([]:List Int)])⟩]∧E=[(0,.vc (pS cI a0)),(1,.vc (pS cI a1)),(4,.vc (pP (some b1) 0)),(5,.vc (pP (some b2) 0))]) ?_ (fun Jj4=>?_))))
 ·rintro _ _ ⟨hF,rfl,rfl⟩
  unfold jU at hF
  refine aD (aD (aE (aF ?_)))
  refine aF ?_
  obtain⟨v5,h6,hF⟩:=aO hF
  refine aB (aG rfl (kP h6) rfl) ⟨rfl,rfl,trivial⟩ ?_
  refine aB (dQ rfl) ⟨rfl,bC _ _,trivial⟩ ?_
  refine aC (aA (bO rfl (fun h7=>?_) (fun h7=>?_)))
  ·have hF:=aT h7 hF
   refine aD (aE (aB (fA (is:=[]) (xs:=[]) (ps:=[]) rfl tyB42 rfl rfl trivial rfl) trivial ?_))
   refine aF ?_
   obtain⟨v8,h9,hF⟩:=aO hF
   refine aB (aG rfl (gD h9) rfl) ⟨dH _,rfl,trivial⟩ ?_
   refine aY (dA 1 rfl rfl rfl tyA42.s) ⟨rfl,rfl,trivial⟩ ?_
   refine aY (dA 0 rfl rfl rfl tyA42.s) ⟨rfl,rfl,trivial⟩ ?_
   refine aC (aA (aX (aW ?_)))
   obtain rfl:=bX hF
   exact aI (.inl rfl) Tryz.results226 (bM 1 2 rfl rfl rfl rfl (.agg tyA42) (bM 0 2 rfl rfl rfl rfl (.agg tyA42) .nil)) rfl rfl
  have hF:=aU h7 hF
  refine aV (aA (aD (aD (aE (aF ?_)))))
  refine aB (bZ rfl tyS22) ⟨rfl,trivial⟩ ?_
  refine aB (iJ rfl) ⟨rfl,bC _ _,trivial⟩ ?_
  refine aC (aA (bO rfl (fun h10=>?_) (fun h10=>?_)))
  ·have hF:=aT h10 hF
   refine aD (aE (aF ?_))
   refine aF ?_
   obtain⟨v11,h12,hF⟩:=aO hF
   refine aB (dX rfl tyS22 h12) ⟨rfl,bC _ _,trivial⟩ ?_
   refine aB (dM 1 rfl rfl (.one tyO3)) ⟨rfl,trivial⟩ ?_
   obtain⟨v13,h14,hF⟩:=aO hF
   refine aB (aG rfl (tS h14) rfl) ⟨rfl,rfl,trivial⟩ ?_
   refine aF ?_
   refine aB (lV rfl) ⟨rfl,trivial⟩ ?_
   refine aB (lR rfl) ⟨rfl,trivial⟩ ?_
   refine bB ?_
   refine bB ?_
   refine aC (aA (aD (aE (aF ?_))))
   obtain⟨v15,h16,hF⟩:=aO hF
   refine aB (aG rfl (gD h16) rfl) ⟨dH _,rfl,trivial⟩ ?_
   refine aF ?_
   refine aB (yS rfl ⟨_,Tryz.underlying3⟩ Tryz.underlying213) ⟨rfl,trivial⟩ ?_
   obtain⟨v17,h18,hF⟩:=aO hF
   refine aB (aG rfl (iB h18) rfl) ⟨dH _,rfl,trivial⟩ ?_
   refine aY (dA 1 rfl rfl rfl tyA42.s) ⟨rfl,rfl,trivial⟩ ?_
   refine aY (dA 0 rfl rfl rfl tyA42.s) ⟨rfl,rfl,trivial⟩ ?_
   refine aC (aA (aX (aW ?_)))
   obtain rfl:=bX hF
   exact aI (.inl rfl) Tryz.results226 (bM 1 2 rfl rfl rfl rfl (.agg tyA42) (bM 0 2 rfl rfl rfl rfl (.agg tyA42) .nil)) rfl rfl
  have hF:=aU h10 hF
  refine aV (aA (aD (aE (aF ?_))))
  refine aF ?_
  obtain⟨v19,h20,hF⟩:=aO hF
  refine aB (aG rfl (y5 h20) rfl) ⟨rfl,rfl,trivial⟩ ?_
  refine aF ?_
  refine aB (lV rfl) ⟨rfl,trivial⟩ ?_
  refine aB (lR rfl) ⟨rfl,trivial⟩ ?_
  refine bB ?_
  refine bB ?_
  refine aC (aA (aD (aE (aF ?_))))
  obtain⟨v21,h22,hF⟩:=aO hF
  refine aB (aG rfl (gD h22) rfl) ⟨dH _,rfl,trivial⟩ ?_
  refine aF ?_
  obtain⟨v23,h24,hF⟩:=aO hF
  refine aB (aG rfl (gD h24) rfl) ⟨dH _,rfl,trivial⟩ ?_
  refine aY (dA 1 rfl rfl rfl tyA42.s) ⟨rfl,rfl,trivial⟩ ?_
  refine aY (dA 0 rfl rfl rfl tyA42.s) ⟨rfl,rfl,trivial⟩ ?_
  refine aC (aA (aX (aW ?_)))
  obtain rfl:=bX hF
  exact aI (.inl rfl) Tryz.results226 (bM 1 2 rfl rfl rfl rfl (.agg tyA42) (bM 0 2 rfl rfl rfl rfl (.agg tyA42) .nil)) rfl rfl
 refine aD (aE (aF ?_))
 obtain⟨v25,h26,hF⟩:=aO hF
 refine aB (aG rfl (rM h26) rfl) ⟨rfl,trivial⟩ ?_
 refine aF ?_
 refine aB (lV rfl) ⟨rfl,trivial⟩ ?_
 refine aB (lR rfl) ⟨rfl,trivial⟩ ?_
 refine bB ?_
 refine bB ?_
 refine aC (aA (aD (aE (aF ?_))))
 refine aC (aA (bO rfl (fun h27=>?_) (fun h27=>?_)))
 ·have hF:=aT h27 hF
  refine aD (aE (aF ?_))
  obtain⟨v28,h29,hF⟩:=aO hF
  refine aB (aG rfl (rM h29) rfl) ⟨rfl,trivial⟩ ?_
  refine aF ?_
  refine aB (lV rfl) ⟨rfl,trivial⟩ ?_
  refine aB (lR rfl) ⟨rfl,trivial⟩ ?_
  refine bB ?_
  refine bB ?_
  refine aC (aA (aD (aE (aF ?_))))
  refine aC (aA (bO rfl (fun h30=>?_) (fun h30=>?_)))
  ·have hF:=aT h30 hF
   refine aD ?_
   obtain⟨v33,h34,hF⟩:=aO hF
   obtain⟨v35,h36,hF⟩:=aO hF
   obtain⟨v37,h38,hF⟩:=aO hF
   obtain⟨v39,h40,hF⟩:=aO hF
   refine bP [0,0,3,7,15,0,0,96,224,511,1023,2047] 10 2 [.v (.vc (pI .i64 v25.1)),.v (.vc (pI .i64 v28.1)),.v (.vc (pI .i64 v33)),.v (.vc (pI .u64 (IntKind.u64.wrap v33))),.v (.va (aP.e v35)),.v (.vc (pI .i64 v25.1)),.v (.vc (pI .i64 v28.1)),.v (.vc (pI .i64 v37)),.v (.vc (pI .u64 (IntKind.u64.wrap v37))),.v (.va (aP.e v39))] aR ⟨d0 (aL (.inl rfl)) ⟨rfl,trivial⟩,d0 (aL (.inl rfl)) ⟨rfl,trivial⟩,d0 (oD rfl h34) ⟨rfl,rfl,trivial⟩,⟨rfl,.run (L:=[0]) ⟨fun G31 A=>yS rfl ⟨_,Tryz.underlying3⟩ Tryz.underlying213,trivial⟩ (fun G31=>⟨rfl,trivial⟩)⟩,d0 (aG rfl (iB h36) rfl) ⟨dH _,rfl,trivial⟩,d0 (aL (.inl rfl)) ⟨rfl,trivial⟩,d0 (aL (.inl rfl)) ⟨rfl,trivial⟩,d0 (mZ rfl h38) ⟨rfl,rfl,trivial⟩,⟨rfl,.run (L:=[0]) ⟨fun G31 A=>yS rfl ⟨_,Tryz.underlying3⟩ Tryz.underlying213,trivial⟩ (fun G31=>⟨rfl,trivial⟩)⟩,d0 (aG rfl (iB h40) rfl) ⟨dH _,rfl,trivial⟩,trivial⟩ (fun bs32 G31=>?_)
   refine aY (dA 1 rfl rfl rfl tyA42.s) ⟨rfl,rfl,trivial⟩ ?_
   refine aY (dA 0 rfl rfl rfl tyA42.s) ⟨rfl,rfl,trivial⟩ ?_
   refine aC (aA (aX (aW ?_)))
   obtain rfl:=bX hF
   exact aI (.inl rfl) Tryz.results226 (bM 1 2 rfl rfl rfl rfl (.agg tyA42) (bM 0 2 rfl rfl rfl rfl (.agg tyA42) .nil)) rfl rfl
  have hF:=aU h30 hF
  refine aV ?_
  exact bS Jj4 ⟨hF,rfl,rfl⟩ [0,1] rfl ⟨rfl,rfl,rfl,rfl,trivial⟩
 have hF:=aU h27 hF
 refine aV ?_
 exact bS Jj4 ⟨hF,rfl,rfl⟩ [0,1] rfl ⟨rfl,rfl,rfl,rfl,trivial⟩
def rE (K:Nat) (x14:aP):Option aP:=
 some x14
def pD (K:Nat) (x28:Int):Option (LR aP aP):=
 (eN false (IntKind.u64.wrap x28)).bind fun v31=>some (.ret v31)
def iH (K:Nat):Nat→Int→Int→Option Int
 |0,_,_=>none
 |k+1,x26,x27=>bif(decide (0<x27)) then((r6 x26 x27).bind fun v36=>iH K k x27 v36) else(some x26)
def gK (K:Nat):Nat→aP→aP→Option (LR aP aP)
 |0,_,_=>none
 |k+1,x12,x13=>bif(decide (0<(x13.d.length:Int))) then((lX x12.d).bind fun v18=>(lX x13.d).bind fun v20=>bif v18.2 then(bif v20.2 then((iH K K v18.1 v20.1).bind fun x28=>pD K x28) else((kN K x12.d x13.d).bind fun v38=>gK K k x13 v38.2)) else((kN K x12.d x13.d).bind fun v44=>gK K k x13 v44.2)) else(some (.go x12))
def oV (K:Nat) (a0:aP) (a1:aP):Option aP:=
 (eF K false a0.d).bind fun v6=>(eF K false a1.d).bind fun v8=>(gK K K v6 v8).bind fun o=>match o with| .ret r=>some r| .go x14=>rE K x14
theorem vW {K:Nat} {a0:aP} {a1:aP} {r:aP} (hF:oV K a0 a1=some r):Ct Tryz.prog 166 [.va (aP.e a0),.va (aP.e a1)] (.va (aP.e r)):=by
 unfold oV at hF
 refine a9 Tryz.func166 rfl (by kernel_rfl) Tryz.ntmps166 rfl (fun w0 M0=>?_)
 refine aD (aE (cV rfl rfl trivial (fun b1=>?_)))
 refine cV rfl rfl trivial (fun b2=>?_)
 refine bJ rfl tyZ42 (fun b3=>?_)
 refine aC (aA (aD ?_))
 obtain⟨v6,h7,hF⟩:=aO hF
 obtain⟨v8,h9,hF⟩:=aO hF
 refine bP [0,1,3,0,8,31,0,0,255,511] 8 2 [.v (.vc (pP (some b1) 1)),.v (.vc (pS cI a0.d)),.v (.va (aP.e v6)),.v (.vc (pP (some b2) 1)),.v (.vc (pS cI a1.d)),.v (.va (aP.e v8)),.a 42 ([pB false]++[pS cI ([]:List Int)]),.a 42 ([pB false]++[pS cI ([]:List Int)])] aR ⟨d0 (a8 (off:=0) (k:=1) rfl tyF42_1) ⟨rfl,trivial⟩,d0 (bD 2 1 rfl rfl rfl rfl (.one tyO22)) ⟨rfl,trivial⟩,d0 (aG rfl (gD h7) rfl) ⟨dH _,rfl,trivial⟩,d0 (a8 (off:=0) (k:=1) rfl tyF42_1) ⟨rfl,trivial⟩,d0 (bD 1 1 rfl rfl rfl rfl (.one tyO22)) ⟨rfl,trivial⟩,d0 (aG rfl (gD h9) rfl) ⟨dH _,rfl,trivial⟩,⟨rfl,.alc tyZ42⟩,⟨rfl,.alc tyZ42⟩,trivial⟩ (fun bs5 G4=>?_)
 refine aY (dA 0 rfl rfl rfl tyA42.s) ⟨rfl,rfl,trivial⟩ ?_
 refine aY (dA 1 rfl rfl rfl tyA42.s) ⟨rfl,rfl,trivial⟩ ?_
 refine aC (aA (aD (bN (cL (fun H E=>∃(x14:aP),rE K x14=some r∧H=[⟨some (bs5 6),1,42,2,1,(aP.e x14)⟩,⟨some b3,1,42,2,1,([pB false]++[pS cI ([]:List Int)])⟩]∧E=[(4,.vc (pP (some b3) 0)),(5,.vc (pP (some (bs5 6)) 0))]) ?_ (fun Jj16=>?_)))))
 ·rintro _ _ ⟨x14,hF,rfl,rfl⟩
  unfold rE at hF
  refine aA (aD (aE (aB (bD 0 2 rfl rfl rfl rfl (.agg tyA42)) ⟨rfl,trivial⟩ ?_)))
  refine aY (dA 1 rfl rfl rfl tyA42.s) ⟨rfl,rfl,trivial⟩ ?_
  refine aC (aA (aX (aW ?_)))
  obtain rfl:=bX hF
  exact aI (.inl rfl) Tryz.results166 (bM 1 2 rfl rfl rfl rfl (.agg tyA42) .nil) rfl rfl
 obtain⟨ol15,hL,hRl15⟩:=aO hF
 refine gY (fun k a w=>∃(x12:aP),∃(x13:aP),gK K k x12 x13=some ol15∧hs _ [⟨some (bs5 6),1,42,2,1,(aP.e x12)⟩,⟨some (bs5 7),1,42,2,1,(aP.e x13)⟩,⟨some b3,1,42,2,1,([pB false]++[pS cI ([]:List Int)])⟩] [(4,.vc (pP (some b3) 0)),(5,.vc (pP (some (bs5 6)) 0)),(6,.vc (pP (some (bs5 7)) 0))] a w) K (fun a w ⟨_,_,hF,_⟩=>by cases hF) (fun k a w ⟨x12,x13,hF,hh⟩=>gX ?_ hh) (fun a w hh=>⟨v6,v8,hL,bA [0,1,2] rfl (by decide) (by exact⟨rfl,rfl,rfl,trivial⟩) hh⟩)
 rw [gK.eq_2] at hF
 refine aD (aD (aE (aB (a8 (off:=0) (k:=1) rfl tyF42_1) ⟨rfl,trivial⟩ ?_)))
 refine aB (bD 1 1 rfl rfl rfl rfl (.one tyO22)) ⟨rfl,trivial⟩ ?_
 refine aB (bZ rfl tyS22) ⟨rfl,trivial⟩ ?_
 refine aB (p8 rfl) ⟨rfl,bC _ _,trivial⟩ ?_
 refine aC (aA (bO rfl (fun h17=>?_) (fun h17=>?_)))
 ·have hF:=aT h17 hF
  refine aV (aA (bN (aD (aE (aB (a8 (off:=0) (k:=1) rfl tyF42_1) ⟨rfl,trivial⟩ ?_)))))
  refine aB (bD 0 1 rfl rfl rfl rfl (.one tyO22)) ⟨rfl,trivial⟩ ?_
  obtain⟨v18,h19,hF⟩:=aO hF
  refine aB (aG rfl (rM h19) rfl) ⟨rfl,trivial⟩ ?_
  refine aF ?_
  refine aB (lV rfl) ⟨rfl,trivial⟩ ?_
  refine aB (lR rfl) ⟨rfl,trivial⟩ ?_
  refine bB ?_
  refine bB ?_
  refine aC (aA (aD (aE (aB (a8 (off:=0) (k:=1) rfl tyF42_1) ⟨rfl,trivial⟩ ?_))))
  refine aB (bD 1 1 rfl rfl rfl rfl (.one tyO22)) ⟨rfl,trivial⟩ ?_
  obtain⟨v20,h21,hF⟩:=aO hF
  refine aB (aG rfl (rM h21) rfl) ⟨rfl,trivial⟩ ?_
  refine aF ?_
  refine aB (lV rfl) ⟨rfl,trivial⟩ ?_
  refine aB (lR rfl) ⟨rfl,trivial⟩ ?_
  refine bB ?_
  refine bB ?_
  refine aC (aA (aD (aD (aE (aF ?_)))))
  refine aF ?_
  refine cU (fun h22=>?_) (fun h22=>?_)
  ·have hF:=aT h22 hF
   refine aZ (aL (.inl rfl)) ⟨rfl,trivial⟩ ?_
   refine aB (bK rfl) ⟨rfl,rfl,trivial⟩ ?_
   refine aC (aA (bO rfl (fun h23=>?_) (fun h23=>?_)))
   ·have hF:=aT h23 hF
    refine aD (bN (cL (fun H E=>∃(x28:Int),pD K x28=some ol15∧H=[⟨some b3,1,42,2,1,([pB false]++[pS cI ([]:List Int)])⟩]∧E=[(4,.vc (pP (some b3) 0)),(7,.vc (pI .i64 x28))]) ?_ (fun Jj30=>?_)))
    ·rintro _ _ ⟨x28,hF,rfl,rfl⟩
     unfold pD at hF
     refine aA (aD (aE (aF ?_)))
     refine aB (yS rfl ⟨_,Tryz.underlying3⟩ Tryz.underlying213) ⟨rfl,trivial⟩ ?_
     obtain⟨v31,h32,hF⟩:=aO hF
     refine aB (aG rfl (iB h32) rfl) ⟨dH _,rfl,trivial⟩ ?_
     refine aY (dA 0 rfl rfl rfl tyA42.s) ⟨rfl,rfl,trivial⟩ ?_
     refine aC (aA (aX (aW ?_)))
     obtain rfl:=bX hF
     obtain rfl:=bX hRl15
     exact aI (.inl rfl) Tryz.results166 (bM 0 2 rfl rfl rfl rfl (.agg tyA42) .nil) rfl rfl
    obtain⟨x28',hL,hRl29⟩:=aO hF
    refine gY (fun k a w=>∃(x26:Int),∃(x27:Int),iH K k x26 x27=some x28'∧hs _ [⟨some b3,1,42,2,1,([pB false]++[pS cI ([]:List Int)])⟩] [(4,.vc (pP (some b3) 0)),(7,.vc (pI .i64 x26)),(9,.vc (pI .i64 x27))] a w) K (fun a w ⟨_,_,hF,_⟩=>by cases hF) (fun k a w ⟨x26,x27,hF,hh⟩=>gX ?_ hh) (fun a w hh=>⟨v18.1,v20.1,hL,bA [2] rfl (by decide) (by exact⟨rfl,rfl,rfl,trivial⟩) hh⟩)
    rw [iH.eq_2] at hF
    refine aD (aD (aE (aF ?_)))
    refine aB (p8 rfl) ⟨rfl,bC _ _,trivial⟩ ?_
    refine aC (aA (bO rfl (fun h33=>?_) (fun h33=>?_)))
    ·have hF:=aT h33 hF
     refine aV (aA (bN ?_))
     obtain⟨v36,h37,hF⟩:=aO hF
     refine bP [0,0,0,6,3,31] 6 0 [.v (.vc (pI .i64 x27)),.v (.vc (pI .i64 x26)),.v (.vc (pI .i64 x27)),.v (.vc (pI .i64 v36)),.v (.vc (pI .i64 x27)),.v (.vc (pI .i64 v36))] aR ⟨d0 (aL (.inl rfl)) ⟨rfl,trivial⟩,d0 (aL (.inl rfl)) ⟨rfl,trivial⟩,d0 (aL (.inl rfl)) ⟨rfl,trivial⟩,d0 (mZ rfl h37) ⟨rfl,rfl,trivial⟩,d0 (aL (.inr rfl)) ⟨rfl,trivial⟩,d0 (aL (.inr rfl)) ⟨rfl,trivial⟩,trivial⟩ (fun bs35 G34=>?_)
     refine aC (bF ?_)
     exact bG (fun a w hh=>⟨x27,v36,hF,bA [0] rfl (by decide) (by exact⟨rfl,rfl,rfl,trivial⟩) hh⟩)
    have hF:=aU h33 hF
    refine dE ?_
    obtain rfl:=bX hF
    exact bS Jj30 ⟨x26,hRl29,rfl,rfl⟩ [0] rfl ⟨rfl,rfl,trivial⟩
   have hF:=aU h23 hF
   refine aV (aA (aD (aE (aB (a8 (off:=0) (k:=1) rfl tyF42_1) ⟨rfl,trivial⟩ ?_))))
   refine aB (bD 0 1 rfl rfl rfl rfl (.one tyO22)) ⟨rfl,trivial⟩ ?_
   refine aB (a8 (off:=0) (k:=1) rfl tyF42_1) ⟨rfl,trivial⟩ ?_
   refine aB (bD 1 1 rfl rfl rfl rfl (.one tyO22)) ⟨rfl,trivial⟩ ?_
   obtain⟨v38,h39,hF⟩:=aO hF
   refine aB (aG rfl (rI h39) rfl) ⟨rfl,rfl,trivial⟩ ?_
   refine aF ?_
   refine aB (lV rfl) ⟨rfl,trivial⟩ ?_
   refine aB (lR rfl) ⟨rfl,trivial⟩ ?_
   refine bJ rfl tyZ42 (fun b40=>?_)
   refine bJ rfl tyZ42 (fun b41=>?_)
   refine aY (dA 1 rfl rfl rfl tyA42.s) ⟨rfl,rfl,trivial⟩ ?_
   refine aY (dA 0 rfl rfl rfl tyA42.s) ⟨rfl,rfl,trivial⟩ ?_
   refine aC (aA (pG (HsM [(0,fun G42=>[⟨some b41,1,42,2,1,(aP.e v38.2)⟩,⟨some b40,1,42,2,1,(aP.e v38.1)⟩,⟨some (bs5 6),1,42,2,1,(aP.e x12)⟩,⟨some (bs5 7),1,42,2,1,(aP.e x13)⟩,⟨some b3,1,42,2,1,([pB false]++[pS cI ([]:List Int)])⟩]),(1,fun G42=>[⟨some b41,1,42,2,1,(aP.e v38.2)⟩,⟨some b40,1,42,2,1,(aP.e v38.1)⟩,⟨some (bs5 6),1,42,2,1,(aP.e x13)⟩,⟨some (bs5 7),1,42,2,1,(aP.e x13)⟩,⟨some b3,1,42,2,1,([pB false]++[pS cI ([]:List Int)])⟩])]) [2] [0,0,1,7] 3 1 [.v (.va (aP.e x13)),.v (.va (aP.e v38.2)),.g (fun _ _=>.any)] aR ⟨d1 0 (bD 3 2 rfl rfl rfl rfl (.agg tyA42)) ⟨rfl,trivial⟩,⟨rfl,.run (L:=[0,1]) ⟨fun G42 A=>bD 0 2 rfl rfl rfl rfl (.agg tyA42),fun G42 A=>bD 0 2 rfl rfl rfl rfl (.agg tyA42),trivial⟩ (fun G42=>⟨rfl,trivial⟩)⟩,⟨rfl,.hvy [0] ⟨fun G42 A=>xE (dA 2 rfl rfl rfl tyA42.s),trivial⟩ (fun G42=>⟨rfl,rfl,trivial⟩)⟩,trivial⟩ (fun bs43 G42=>?_)))
   refine aY (dA 3 rfl rfl rfl tyA42.s) ⟨rfl,rfl,trivial⟩ ?_
   refine aC (bF ?_)
   exact bG (fun a w hh=>⟨x13,v38.2,hF,bA [2,3,4] rfl (by decide) (by exact⟨rfl,rfl,rfl,trivial⟩) hh⟩)
  have hF:=aU h22 hF
  refine aJ ?_
  refine aB (bL rfl) ⟨rfl,dH _,trivial⟩ ?_
  refine aC (aA (qG rfl ?_))
  refine aV (aA (aD (aE (aB (a8 (off:=0) (k:=1) rfl tyF42_1) ⟨rfl,trivial⟩ ?_))))
  refine aB (bD 0 1 rfl rfl rfl rfl (.one tyO22)) ⟨rfl,trivial⟩ ?_
  refine aB (a8 (off:=0) (k:=1) rfl tyF42_1) ⟨rfl,trivial⟩ ?_
  refine aB (bD 1 1 rfl rfl rfl rfl (.one tyO22)) ⟨rfl,trivial⟩ ?_
  obtain⟨v44,h45,hF⟩:=aO hF
  refine aB (aG rfl (rI h45) rfl) ⟨rfl,rfl,trivial⟩ ?_
  refine aF ?_
  refine aB (lV rfl) ⟨rfl,trivial⟩ ?_
  refine aB (lR rfl) ⟨rfl,trivial⟩ ?_
  refine bJ rfl tyZ42 (fun b46=>?_)
  refine bJ rfl tyZ42 (fun b47=>?_)
  refine aY (dA 1 rfl rfl rfl tyA42.s) ⟨rfl,rfl,trivial⟩ ?_
  refine aY (dA 0 rfl rfl rfl tyA42.s) ⟨rfl,rfl,trivial⟩ ?_
  refine aC (aA (pG (HsM [(0,fun G48=>[⟨some b47,1,42,2,1,(aP.e v44.2)⟩,⟨some b46,1,42,2,1,(aP.e v44.1)⟩,⟨some (bs5 6),1,42,2,1,(aP.e x12)⟩,⟨some (bs5 7),1,42,2,1,(aP.e x13)⟩,⟨some b3,1,42,2,1,([pB false]++[pS cI ([]:List Int)])⟩]),(1,fun G48=>[⟨some b47,1,42,2,1,(aP.e v44.2)⟩,⟨some b46,1,42,2,1,(aP.e v44.1)⟩,⟨some (bs5 6),1,42,2,1,(aP.e x13)⟩,⟨some (bs5 7),1,42,2,1,(aP.e x13)⟩,⟨some b3,1,42,2,1,([pB false]++[pS cI ([]:List Int)])⟩])]) [2] [0,0,1,7] 3 1 [.v (.va (aP.e x13)),.v (.va (aP.e v44.2)),.g (fun _ _=>.any)] aR ⟨d1 0 (bD 3 2 rfl rfl rfl rfl (.agg tyA42)) ⟨rfl,trivial⟩,⟨rfl,.run (L:=[0,1]) ⟨fun G48 A=>bD 0 2 rfl rfl rfl rfl (.agg tyA42),fun G48 A=>bD 0 2 rfl rfl rfl rfl (.agg tyA42),trivial⟩ (fun G48=>⟨rfl,trivial⟩)⟩,⟨rfl,.hvy [0] ⟨fun G48 A=>xE (dA 2 rfl rfl rfl tyA42.s),trivial⟩ (fun G48=>⟨rfl,rfl,trivial⟩)⟩,trivial⟩ (fun bs49 G48=>?_)))
  refine aY (dA 3 rfl rfl rfl tyA42.s) ⟨rfl,rfl,trivial⟩ ?_
  refine aC (bF ?_)
  exact bG (fun a w hh=>⟨x13,v44.2,hF,bA [2,3,4] rfl (by decide) (by exact⟨rfl,rfl,rfl,trivial⟩) hh⟩)
 have hF:=aU h17 hF
 refine dE ?_
 obtain rfl:=bX hF
 exact bS Jj16 ⟨x12,hRl15,rfl,rfl⟩ [0,2] rfl ⟨rfl,rfl,trivial⟩
def cZ (a0:List Int) (a1:Int):Option Int:=
 bif(decide (a1<(a0.length:Int))) then((dO a0 a1).bind fun v2=>some v2) else(some 0)
theorem fC {a0:List Int} {a1:Int} {r:Int} (hF:cZ a0 a1=some r):Ct Tryz.prog 259 [.vc (pS cI a0),.vc (pI .i64 a1)] (.vc (pI .i64 r)):=by
 unfold cZ at hF
 refine a9 Tryz.func259 rfl (by kernel_rfl) Tryz.ntmps259 rfl (fun w0 M0=>?_)
 refine aD (aE (aB (aL (.inr rfl)) ⟨bC _ _,trivial⟩ ?_))
 refine aC (aA (aD (aD (aE (aF ?_)))))
 refine aF ?_
 refine aB (bZ rfl tyS22) ⟨rfl,trivial⟩ ?_
 refine aB (dQ rfl) ⟨rfl,rfl,trivial⟩ ?_
 refine aC (aA (bO rfl (fun h1=>?_) (fun h1=>?_)))
 ·have hF:=aT h1 hF
  refine aD (aE (aF ?_))
  refine aF ?_
  obtain⟨v2,h3,hF⟩:=aO hF
  refine aB (dX rfl tyS22 h3) ⟨rfl,rfl,trivial⟩ ?_
  refine aB (dM 1 rfl rfl (.one tyO3)) ⟨rfl,trivial⟩ ?_
  refine bB ?_
  refine aC (aA (aX (aW ?_)))
  obtain rfl:=bX hF
  exact aI (.inl rfl) Tryz.results259 (.tmp rfl .nil) rfl rfl
 have hF:=aU h1 hF
 refine aV (aA (aD (aE (aB (aL (.inr rfl)) ⟨bC _ _,trivial⟩ ?_))))
 refine aC (aA (aX (aW ?_)))
 obtain rfl:=bX hF
 exact aI (.inl rfl) Tryz.results259 (.tmp rfl .nil) rfl rfl
def lQ (K:Nat) (x19:List Int):Option (List Int):=
 some x19
def cN (K:Nat) (a0:List Int) (a1:List Int):Nat→(List Int)→Int→Int→Option (List Int)
 |0,_,_,_=>none
 |k+1,x11,x17,x18=>bif(decide (x18<(a0.length:Int))) then((cZ a0 x18).bind fun v28=>(cZ a1 x18).bind fun v30=>(bQ (v28+v30)).bind fun v32=>(bQ (v32+x17)).bind fun v34=>(r6 v34 1000000000).bind fun v36=>(tB x11 [v36]).bind fun x38=>(r4 v34 1000000000).bind fun v45=>(bQ (x18+1)).bind fun v47=>cN K a0 a1 k x38 v45 v47) else(bif(decide (x18<(a1.length:Int))) then((cZ a0 x18).bind fun v50=>(cZ a1 x18).bind fun v52=>(bQ (v50+v52)).bind fun v54=>(bQ (v54+x17)).bind fun v56=>(r6 v56 1000000000).bind fun v58=>(tB x11 [v58]).bind fun x60=>(r4 v56 1000000000).bind fun v67=>(bQ (x18+1)).bind fun v69=>cN K a0 a1 k x60 v67 v69) else(bif(decide (0<x17)) then((cZ a0 x18).bind fun v72=>(cZ a1 x18).bind fun v74=>(bQ (v72+v74)).bind fun v76=>(bQ (v76+x17)).bind fun v78=>(r6 v78 1000000000).bind fun v80=>(tB x11 [v80]).bind fun x82=>(r4 v78 1000000000).bind fun v89=>(bQ (x18+1)).bind fun v91=>cN K a0 a1 k x82 v89 v91) else(some x11)))
def lY (K:Nat) (a0:List Int) (a1:List Int):Option (List Int):=
 (cN K a0 a1 K ([]:List Int) 0 0).bind fun x19=>lQ K x19
theorem wK {K:Nat} {a0:List Int} {a1:List Int} {r:List Int} (hF:lY K a0 a1=some r):Ct Tryz.prog 229 [.vc (pS cI a0),.vc (pS cI a1)] (.vc (pS cI r)):=by
 unfold lY at hF
 refine a9 Tryz.func229 rfl (by kernel_rfl) Tryz.ntmps229 rfl (fun w0 M0=>?_)
 refine aD (aE (aB (aL (.inr rfl)) ⟨eJ cI,trivial⟩ ?_))
 refine aC (aA (aD (aE (sA cI 3 rfl ?_))))
 refine aC (aA (aD (aE (aB (aL (.inr rfl)) ⟨bC _ _,trivial⟩ ?_))))
 refine aC (aA (aD (aD (aE (aB (aL (.inr rfl)) ⟨bC _ _,trivial⟩ ?_)))))
 refine aC (aA (bN (cL (fun H E=>∃(x19:List Int),∃(b20:Option Nat),∃(c21:Nat),∃(n22:Nat),lQ K x19=some r∧x19.length=n22∧H=[hO cI b20 c21 3 n22 x19]∧E=[(5,.vc (pO b20 n22 c21))]) ?_ (fun Jj26=>?_))))
 ·rintro _ _ ⟨x19,b20,c21,n22,hF,q23,rfl,rfl⟩
  unfold lQ at hF
  refine aA (aD (aE (aF ?_)))
  refine bB ?_
  refine aC (aA (aX (aW (t5 0 [4,5,41] rfl q23 ⟨rfl,rfl,rfl,trivial⟩ rfl ?_))))
  obtain rfl:=bX hF
  exact aI (.inl rfl) Tryz.results229 (.tmp rfl .nil) rfl rfl
 obtain⟨x19',hL,hRl25⟩:=aO hF
 refine gY (fun k a w=>∃(x11:List Int),∃(x17:Int),∃(x18:Int),∃(b12:Option Nat),∃(c13:Nat),∃(n14:Nat),cN K a0 a1 k x11 x17 x18=some x19'∧x11.length=n14∧hs _ [hO cI b12 c13 3 n14 x11] [(0,.vc (pS cI a0)),(1,.vc (pS cI a1)),(5,.vc (pO b12 n14 c13)),(6,.vc (pI .i64 x17)),(7,.vc (pI .i64 x18))] a w) K (fun a w ⟨_,_,_,_,_,_,hF,_,_⟩=>by cases hF) (fun k a w ⟨x11,x17,x18,b12,c13,n14,hF,q15,hh⟩=>gX ?_ hh) (fun a w hh=>⟨([]:List Int),0,0,none,0,0,hL,rfl,bA [0] rfl (by decide) (by exact⟨rfl,rfl,rfl,rfl,rfl,trivial⟩) hh⟩)
 rw [cN.eq_2] at hF
 refine aD (aD (aE (aF ?_)))
 refine aF ?_
 refine aB (bZ rfl tyS22) ⟨rfl,trivial⟩ ?_
 refine aB (dQ rfl) ⟨rfl,rfl,trivial⟩ ?_
 refine aF ?_
 refine cU (fun h27=>?_) (fun h27=>?_)
 ·have hF:=aT h27 hF
  refine aJ ?_
  refine aJ ?_
  refine aJ ?_
  refine aJ ?_
  refine aB (bK rfl) ⟨rfl,dH _,trivial⟩ ?_
  refine aF ?_
  refine aJ ?_
  refine aJ ?_
  refine aB (bK rfl) ⟨rfl,dH _,trivial⟩ ?_
  refine aC (aA (kT rfl ?_))
  refine aV (aA (aD (bN (aD (aE (aF ?_))))))
  refine aF ?_
  obtain⟨v28,h29,hF⟩:=aO hF
  refine aB (aG rfl (fC h29) rfl) ⟨rfl,rfl,trivial⟩ ?_
  refine aF ?_
  refine aF ?_
  obtain⟨v30,h31,hF⟩:=aO hF
  refine aB (aG rfl (fC h31) rfl) ⟨rfl,rfl,trivial⟩ ?_
  obtain⟨v32,h33,hF⟩:=aO hF
  refine aB (bI rfl h33) ⟨rfl,rfl,trivial⟩ ?_
  refine aF ?_
  obtain⟨v34,h35,hF⟩:=aO hF
  refine aB (bI rfl h35) ⟨rfl,rfl,trivial⟩ ?_
  refine bB ?_
  refine aC (aA (aD (aE (aF ?_))))
  refine aF ?_
  obtain⟨v36,h37,hF⟩:=aO hF
  refine aB (mZ rfl h37) ⟨rfl,bC _ _,trivial⟩ ?_
  refine aB (pX (C:=cI) (xs:=[.tmp 36]) (ps:=[.vc (pI .i64 v36)]) (zs:=[v36]) rfl tyS22 rfl ⟨⟨trivial,rfl⟩,trivial⟩ rfl) ⟨rfl,trivial⟩ ?_
  obtain⟨x38,h39,hF⟩:=aO hF
  refine nY 0 rfl tyS22 rfl rfl q15 rfl rfl h39 (fun b40 c41 H42 e43=>?_)
  cases e43
  refine bB ?_
  refine aC (aA (aE (aF ?_)))
  obtain⟨v45,h46,hF⟩:=aO hF
  refine aB (oD rfl h46) ⟨rfl,bC _ _,trivial⟩ ?_
  refine bB ?_
  refine aC (bF (aA (aE (aF ?_))))
  obtain⟨v47,h48,hF⟩:=aO hF
  refine aB (bI rfl h48) ⟨rfl,bC _ _,trivial⟩ ?_
  refine bB ?_
  refine aC ?_
  exact bG (fun a w hh=>⟨x38,v45,v47,b40,c41,(n14+[v36].length),hF,(gB h39 q15),bA [0] rfl (by decide) (by exact⟨rfl,rfl,rfl,rfl,rfl,trivial⟩) hh⟩)
 have hF:=aU h27 hF
 refine aZ (aL (.inl rfl)) ⟨rfl,trivial⟩ ?_
 refine aZ (aL (.inl rfl)) ⟨rfl,trivial⟩ ?_
 refine aZ (bZ rfl tyS22) ⟨rfl,trivial⟩ ?_
 refine aZ (dQ rfl) ⟨rfl,rfl,trivial⟩ ?_
 refine aB (bL rfl) ⟨rfl,rfl,trivial⟩ ?_
 refine aF ?_
 refine cU (fun h49=>?_) (fun h49=>?_)
 ·have hF:=aT h49 hF
  refine aJ ?_
  refine aJ ?_
  refine aB (bK rfl) ⟨rfl,dH _,trivial⟩ ?_
  refine aC (aA (kT rfl ?_))
  refine aV (aA (aD (bN (aD (aE (aF ?_))))))
  refine aF ?_
  obtain⟨v50,h51,hF⟩:=aO hF
  refine aB (aG rfl (fC h51) rfl) ⟨rfl,rfl,trivial⟩ ?_
  refine aF ?_
  refine aF ?_
  obtain⟨v52,h53,hF⟩:=aO hF
  refine aB (aG rfl (fC h53) rfl) ⟨rfl,rfl,trivial⟩ ?_
  obtain⟨v54,h55,hF⟩:=aO hF
  refine aB (bI rfl h55) ⟨rfl,rfl,trivial⟩ ?_
  refine aF ?_
  obtain⟨v56,h57,hF⟩:=aO hF
  refine aB (bI rfl h57) ⟨rfl,rfl,trivial⟩ ?_
  refine bB ?_
  refine aC (aA (aD (aE (aF ?_))))
  refine aF ?_
  obtain⟨v58,h59,hF⟩:=aO hF
  refine aB (mZ rfl h59) ⟨rfl,bC _ _,trivial⟩ ?_
  refine aB (pX (C:=cI) (xs:=[.tmp 36]) (ps:=[.vc (pI .i64 v58)]) (zs:=[v58]) rfl tyS22 rfl ⟨⟨trivial,rfl⟩,trivial⟩ rfl) ⟨rfl,trivial⟩ ?_
  obtain⟨x60,h61,hF⟩:=aO hF
  refine nY 0 rfl tyS22 rfl rfl q15 rfl rfl h61 (fun b62 c63 H64 e65=>?_)
  cases e65
  refine bB ?_
  refine aC (aA (aE (aF ?_)))
  obtain⟨v67,h68,hF⟩:=aO hF
  refine aB (oD rfl h68) ⟨rfl,bC _ _,trivial⟩ ?_
  refine bB ?_
  refine aC (bF (aA (aE (aF ?_))))
  obtain⟨v69,h70,hF⟩:=aO hF
  refine aB (bI rfl h70) ⟨rfl,bC _ _,trivial⟩ ?_
  refine bB ?_
  refine aC ?_
  exact bG (fun a w hh=>⟨x60,v67,v69,b62,c63,(n14+[v58].length),hF,(gB h61 q15),bA [0] rfl (by decide) (by exact⟨rfl,rfl,rfl,rfl,rfl,trivial⟩) hh⟩)
 have hF:=aU h49 hF
 refine aZ (aL (.inl rfl)) ⟨rfl,trivial⟩ ?_
 refine aZ (p8 rfl) ⟨rfl,bC _ _,trivial⟩ ?_
 refine aB (bL rfl) ⟨rfl,rfl,trivial⟩ ?_
 refine aC (aA (bO rfl (fun h71=>?_) (fun h71=>?_)))
 ·have hF:=aT h71 hF
  refine aV (aA (aD (bN (aD (aE (aF ?_))))))
  refine aF ?_
  obtain⟨v72,h73,hF⟩:=aO hF
  refine aB (aG rfl (fC h73) rfl) ⟨rfl,rfl,trivial⟩ ?_
  refine aF ?_
  refine aF ?_
  obtain⟨v74,h75,hF⟩:=aO hF
  refine aB (aG rfl (fC h75) rfl) ⟨rfl,rfl,trivial⟩ ?_
  obtain⟨v76,h77,hF⟩:=aO hF
  refine aB (bI rfl h77) ⟨rfl,rfl,trivial⟩ ?_
  refine aF ?_
  obtain⟨v78,h79,hF⟩:=aO hF
  refine aB (bI rfl h79) ⟨rfl,rfl,trivial⟩ ?_
  refine bB ?_
  refine aC (aA (aD (aE (aF ?_))))
  refine aF ?_
  obtain⟨v80,h81,hF⟩:=aO hF
  refine aB (mZ rfl h81) ⟨rfl,bC _ _,trivial⟩ ?_
  refine aB (pX (C:=cI) (xs:=[.tmp 36]) (ps:=[.vc (pI .i64 v80)]) (zs:=[v80]) rfl tyS22 rfl ⟨⟨trivial,rfl⟩,trivial⟩ rfl) ⟨rfl,trivial⟩ ?_
  obtain⟨x82,h83,hF⟩:=aO hF
  refine nY 0 rfl tyS22 rfl rfl q15 rfl rfl h83 (fun b84 c85 H86 e87=>?_)
  cases e87
  refine bB ?_
  refine aC (aA (aE (aF ?_)))
  obtain⟨v89,h90,hF⟩:=aO hF
  refine aB (oD rfl h90) ⟨rfl,bC _ _,trivial⟩ ?_
  refine bB ?_
  refine aC (bF (aA (aE (aF ?_))))
  obtain⟨v91,h92,hF⟩:=aO hF
  refine aB (bI rfl h92) ⟨rfl,bC _ _,trivial⟩ ?_
  refine bB ?_
  refine aC ?_
  exact bG (fun a w hh=>⟨x82,v89,v91,b84,c85,(n14+[v80].length),hF,(gB h83 q15),bA [0] rfl (by decide) (by exact⟨rfl,rfl,rfl,rfl,rfl,trivial⟩) hh⟩)
 have hF:=aU h71 hF
 refine dE ?_
 obtain rfl:=bX hF
 exact bS Jj26 ⟨x11,b12,c13,n14,hRl25,q15,rfl,rfl⟩ [0] rfl ⟨rfl,trivial⟩
def lD (K:Nat) (x19:List Int):Option (List Int):=
 some x19
def dW (K:Nat) (a0:List Int) (a1:List Int):Nat→(List Int)→Int→Int→Option (List Int)
 |0,_,_,_=>none
 |k+1,x11,x17,x18=>bif(decide (x18<(a0.length:Int))) then((dO a0 x18).bind fun v30=>(cZ a1 x18).bind fun v32=>(bQ (v30-v32)).bind fun v34=>(bQ (v34-x17)).bind fun v36=>bif(decide (v36<0)) then((bQ (v36+1000000000)).bind fun v39=>(tB x11 [v39]).bind fun x41=>(bQ (x18+1)).bind fun v48=>dW K a0 a1 k x41 1 v48) else((tB x11 [v36]).bind fun x50=>(bQ (x18+1)).bind fun v57=>dW K a0 a1 k x50 0 v57)) else(some x11)
def eW (K:Nat) (a0:List Int) (a1:List Int):Option (List Int):=
 (dW K a0 a1 K ([]:List Int) 0 0).bind fun x19=>lD K x19
theorem k5 {K:Nat} {a0:List Int} {a1:List Int} {r:List Int} (hF:eW K a0 a1=some r):Ct Tryz.prog 231 [.vc (pS cI a0),.vc (pS cI a1)] (.vc (pS cI r)):=by
 unfold eW at hF
 refine a9 Tryz.func231 rfl (by kernel_rfl) Tryz.ntmps231 rfl (fun w0 M0=>?_)
 refine aD (aE (aB (aL (.inr rfl)) ⟨eJ cI,trivial⟩ ?_))
 refine aC (aA (aD (aE (sA cI 3 rfl ?_))))
 refine aC (aA (aD (aE (aB (aL (.inr rfl)) ⟨bC _ _,trivial⟩ ?_))))
 refine aC (aA (aD (aD (aE (aB (aL (.inr rfl)) ⟨bC _ _,trivial⟩ ?_)))))
 refine aC (aA (bN (cL (fun H E=>∃(x19:List Int),∃(b20:Option Nat),∃(c21:Nat),∃(n22:Nat),lD K x19=some r∧x19.length=n22∧H=[hO cI b20 c21 3 n22 x19]∧E=[(5,.vc (pO b20 n22 c21))]) ?_ (fun Jj26=>?_))))
 ·rintro _ _ ⟨x19,b20,c21,n22,hF,q23,rfl,rfl⟩
  unfold lD at hF
  refine aA (aD (aE (aF ?_)))
  refine bB ?_
  refine aC (aA (aX (aW (t5 0 [4,5,33] rfl q23 ⟨rfl,rfl,rfl,trivial⟩ rfl ?_))))
  obtain rfl:=bX hF
  exact aI (.inl rfl) Tryz.results231 (.tmp rfl .nil) rfl rfl
 obtain⟨x19',hL,hRl25⟩:=aO hF
 refine gY (fun k a w=>∃(x11:List Int),∃(x17:Int),∃(x18:Int),∃(b12:Option Nat),∃(c13:Nat),∃(n14:Nat),dW K a0 a1 k x11 x17 x18=some x19'∧x11.length=n14∧hs _ [hO cI b12 c13 3 n14 x11] [(0,.vc (pS cI a0)),(1,.vc (pS cI a1)),(5,.vc (pO b12 n14 c13)),(6,.vc (pI .i64 x17)),(7,.vc (pI .i64 x18))] a w) K (fun a w ⟨_,_,_,_,_,_,hF,_,_⟩=>by cases hF) (fun k a w ⟨x11,x17,x18,b12,c13,n14,hF,q15,hh⟩=>gX ?_ hh) (fun a w hh=>⟨([]:List Int),0,0,none,0,0,hL,rfl,bA [0] rfl (by decide) (by exact⟨rfl,rfl,rfl,rfl,rfl,trivial⟩) hh⟩)
 rw [dW.eq_2] at hF
 refine aD (aD (aE (aF ?_)))
 refine aF ?_
 refine aB (bZ rfl tyS22) ⟨rfl,trivial⟩ ?_
 refine aB (dQ rfl) ⟨rfl,rfl,trivial⟩ ?_
 refine aC (aA (bO rfl (fun h27=>?_) (fun h27=>?_)))
 ·have hF:=aT h27 hF
  refine aV (aA (aD (bN (aD ?_))))
  obtain⟨v30,h31,hF⟩:=aO hF
  obtain⟨v32,h33,hF⟩:=aO hF
  obtain⟨v34,h35,hF⟩:=aO hF
  obtain⟨v36,h37,hF⟩:=aO hF
  refine bP [0,0,3,7,0,0,48,127,0,511,1023] 11 0 [.v (.vc (pS cI a0)),.v (.vc (pI .i64 x18)),.v (.vc (pM (cI.e v30))),.v (.vc (pI .i64 v30)),.v (.vc (pS cI a1)),.v (.vc (pI .i64 x18)),.v (.vc (pI .i64 v32)),.v (.vc (pI .i64 v34)),.v (.vc (pI .i64 x17)),.v (.vc (pI .i64 v36)),.v (.vc (pI .i64 v36))] aR ⟨d0 (aL (.inl rfl)) ⟨rfl,trivial⟩,d0 (aL (.inl rfl)) ⟨rfl,trivial⟩,d0 (dX rfl tyS22 h31) ⟨rfl,rfl,trivial⟩,d0 (dM 1 rfl rfl (.one tyO3)) ⟨rfl,trivial⟩,d0 (aL (.inl rfl)) ⟨rfl,trivial⟩,d0 (aL (.inl rfl)) ⟨rfl,trivial⟩,d0 (aG rfl (fC h33) rfl) ⟨rfl,rfl,trivial⟩,d0 (fH rfl h35) ⟨rfl,rfl,trivial⟩,d0 (aL (.inl rfl)) ⟨rfl,trivial⟩,d0 (fH rfl h37) ⟨rfl,rfl,trivial⟩,d0 (aL (.inr rfl)) ⟨rfl,trivial⟩,trivial⟩ (fun bs29 G28=>?_)
  refine aC (aA (aD (aE (aB (aL (.inr rfl)) ⟨bC _ _,trivial⟩ ?_))))
  refine aC (aA (aD (aD (aE (aF ?_)))))
  refine aB (dQ rfl) ⟨rfl,bC _ _,trivial⟩ ?_
  refine aC (aA (bO rfl (fun h38=>?_) (fun h38=>?_)))
  ·have hF:=aT h38 hF
   refine aD (aE (aF ?_))
   obtain⟨v39,h40,hF⟩:=aO hF
   refine aB (bI rfl h40) ⟨rfl,bC _ _,trivial⟩ ?_
   refine bB ?_
   refine aC (aA (aE (aB (aL (.inr rfl)) ⟨bC _ _,trivial⟩ ?_)))
   refine aC (aA (aE (aF ?_)))
   refine aF ?_
   refine aB (pX (C:=cI) (xs:=[.tmp 30]) (ps:=[.vc (pI .i64 v39)]) (zs:=[v39]) rfl tyS22 rfl ⟨⟨trivial,rfl⟩,trivial⟩ rfl) ⟨rfl,trivial⟩ ?_
   obtain⟨x41,h42,hF⟩:=aO hF
   refine nY 0 rfl tyS22 rfl rfl q15 rfl rfl h42 (fun b43 c44 H45 e46=>?_)
   cases e46
   refine bB ?_
   refine aC (bF (aA (aE (aF ?_))))
   obtain⟨v48,h49,hF⟩:=aO hF
   refine aB (bI rfl h49) ⟨rfl,bC _ _,trivial⟩ ?_
   refine bB ?_
   refine aC ?_
   exact bG (fun a w hh=>⟨x41,1,v48,b43,c44,(n14+[v39].length),hF,(gB h42 q15),bA [0] rfl (by decide) (by exact⟨rfl,rfl,rfl,rfl,rfl,trivial⟩) hh⟩)
  have hF:=aU h38 hF
  refine aV (aA (aE (aF ?_)))
  refine aF ?_
  refine aB (pX (C:=cI) (xs:=[.tmp 30]) (ps:=[.vc (pI .i64 v36)]) (zs:=[v36]) rfl tyS22 rfl ⟨⟨trivial,rfl⟩,trivial⟩ rfl) ⟨rfl,trivial⟩ ?_
  obtain⟨x50,h51,hF⟩:=aO hF
  refine nY 0 rfl tyS22 rfl rfl q15 rfl rfl h51 (fun b52 c53 H54 e55=>?_)
  cases e55
  refine bB ?_
  refine aC (bF (aA (aE (aF ?_))))
  obtain⟨v57,h58,hF⟩:=aO hF
  refine aB (bI rfl h58) ⟨rfl,bC _ _,trivial⟩ ?_
  refine bB ?_
  refine aC ?_
  exact bG (fun a w hh=>⟨x50,0,v57,b52,c53,(n14+[v36].length),hF,(gB h51 q15),bA [0] rfl (by decide) (by exact⟨rfl,rfl,rfl,rfl,rfl,trivial⟩) hh⟩)
 have hF:=aU h27 hF
 refine dE ?_
 obtain rfl:=bX hF
 exact bS Jj26 ⟨x11,b12,c13,n14,hRl25,q15,rfl,rfl⟩ [0] rfl ⟨rfl,trivial⟩
def k7 (K:Nat) (a0:aP) (a1:aP):Option aP:=
 bif(a0.neg==a1.neg) then((lY K a0.d a1.d).bind fun v7=>(bT K a0.neg v7).bind fun v9=>some v9) else((cM K a0.d a1.d).bind fun v11=>bif(decide (v11<0)) then((eW K a1.d a0.d).bind fun v16=>(bT K a1.neg v16).bind fun v18=>some v18) else((eW K a0.d a1.d).bind fun v22=>(bT K a0.neg v22).bind fun v24=>some v24))
theorem sP {K:Nat} {a0:aP} {a1:aP} {r:aP} (hF:k7 K a0 a1=some r):Ct Tryz.prog 177 [.va (aP.e a0),.va (aP.e a1)] (.va (aP.e r)):=by
 unfold k7 at hF
 refine a9 Tryz.func177 rfl (by kernel_rfl) Tryz.ntmps177 rfl (fun w0 M0=>?_)
 refine aD (aE (cV rfl rfl trivial (fun b1=>?_)))
 refine cV rfl rfl trivial (fun b2=>?_)
 refine bJ rfl tyZ42 (fun b3=>?_)
 refine aC (aA (aD (aD (aE (aB (a8 (off:=0) (k:=0) rfl tyF42_0) ⟨rfl,trivial⟩ ?_)))))
 refine aB (bD 2 1 rfl rfl rfl rfl (.one tyO4)) ⟨rfl,trivial⟩ ?_
 refine aB (a8 (off:=0) (k:=0) rfl tyF42_0) ⟨rfl,trivial⟩ ?_
 refine aB (bD 1 1 rfl rfl rfl rfl (.one tyO4)) ⟨rfl,trivial⟩ ?_
 refine aB (yZ rfl Tryz.underlying4) ⟨rfl,rfl,trivial⟩ ?_
 refine aC (aA (bO rfl (fun h4=>?_) (fun h4=>?_)))
 ·have hF:=aT h4 hF
  refine aD ?_
  obtain⟨v7,h8,hF⟩:=aO hF
  obtain⟨v9,h10,hF⟩:=aO hF
  refine bP [0,1,0,4,0,16,60,127,255] 8 1 [.v (.vc (pP (some b1) 0)),.v (.vc (pB a0.neg)),.v (.vc (pP (some b1) 1)),.v (.vc (pS cI a0.d)),.v (.vc (pP (some b2) 1)),.v (.vc (pS cI a1.d)),.v (.vc (pS cI v7)),.v (.va (aP.e v9))] aR ⟨d0 (a8 (off:=0) (k:=0) rfl tyF42_0) ⟨rfl,trivial⟩,d0 (bD 2 1 rfl rfl rfl rfl (.one tyO4)) ⟨rfl,trivial⟩,d0 (a8 (off:=0) (k:=1) rfl tyF42_1) ⟨rfl,trivial⟩,d0 (bD 2 1 rfl rfl rfl rfl (.one tyO22)) ⟨rfl,trivial⟩,d0 (a8 (off:=0) (k:=1) rfl tyF42_1) ⟨rfl,trivial⟩,d0 (bD 1 1 rfl rfl rfl rfl (.one tyO22)) ⟨rfl,trivial⟩,d0 (aG rfl (wK h8) rfl) ⟨rfl,rfl,trivial⟩,d0 (aG rfl (cA h10) rfl) ⟨rfl,rfl,trivial⟩,trivial⟩ (fun bs6 G5=>?_)
  refine aY (dA 0 rfl rfl rfl tyA42.s) ⟨rfl,rfl,trivial⟩ ?_
  refine aC (aA (aX (aW ?_)))
  obtain rfl:=bX hF
  exact aI (.inl rfl) Tryz.results177 (bM 0 2 rfl rfl rfl rfl (.agg tyA42) .nil) rfl rfl
 have hF:=aU h4 hF
 refine aV (aA (aD (aD (aE (aB (a8 (off:=0) (k:=1) rfl tyF42_1) ⟨rfl,trivial⟩ ?_)))))
 refine aB (bD 2 1 rfl rfl rfl rfl (.one tyO22)) ⟨rfl,trivial⟩ ?_
 refine aB (a8 (off:=0) (k:=1) rfl tyF42_1) ⟨rfl,trivial⟩ ?_
 refine aB (bD 1 1 rfl rfl rfl rfl (.one tyO22)) ⟨rfl,trivial⟩ ?_
 obtain⟨v11,h12,hF⟩:=aO hF
 refine aB (aG rfl (fT h12) rfl) ⟨rfl,rfl,trivial⟩ ?_
 refine aB (dQ rfl) ⟨rfl,bC _ _,trivial⟩ ?_
 refine aC (aA (bO rfl (fun h13=>?_) (fun h13=>?_)))
 ·have hF:=aT h13 hF
  refine aD ?_
  obtain⟨v16,h17,hF⟩:=aO hF
  obtain⟨v18,h19,hF⟩:=aO hF
  refine bP [0,1,0,4,0,16,60,127,255] 8 1 [.v (.vc (pP (some b2) 0)),.v (.vc (pB a1.neg)),.v (.vc (pP (some b2) 1)),.v (.vc (pS cI a1.d)),.v (.vc (pP (some b1) 1)),.v (.vc (pS cI a0.d)),.v (.vc (pS cI v16)),.v (.va (aP.e v18))] aR ⟨d0 (a8 (off:=0) (k:=0) rfl tyF42_0) ⟨rfl,trivial⟩,d0 (bD 1 1 rfl rfl rfl rfl (.one tyO4)) ⟨rfl,trivial⟩,d0 (a8 (off:=0) (k:=1) rfl tyF42_1) ⟨rfl,trivial⟩,d0 (bD 1 1 rfl rfl rfl rfl (.one tyO22)) ⟨rfl,trivial⟩,d0 (a8 (off:=0) (k:=1) rfl tyF42_1) ⟨rfl,trivial⟩,d0 (bD 2 1 rfl rfl rfl rfl (.one tyO22)) ⟨rfl,trivial⟩,d0 (aG rfl (k5 h17) rfl) ⟨rfl,rfl,trivial⟩,d0 (aG rfl (cA h19) rfl) ⟨rfl,rfl,trivial⟩,trivial⟩ (fun bs15 G14=>?_)
  refine aY (dA 0 rfl rfl rfl tyA42.s) ⟨rfl,rfl,trivial⟩ ?_
  refine aC (aA (aX (aW ?_)))
  obtain rfl:=bX hF
  exact aI (.inl rfl) Tryz.results177 (bM 0 2 rfl rfl rfl rfl (.agg tyA42) .nil) rfl rfl
 have hF:=aU h13 hF
 refine aV (aA (aD ?_))
 obtain⟨v22,h23,hF⟩:=aO hF
 obtain⟨v24,h25,hF⟩:=aO hF
 refine bP [0,1,0,4,0,16,60,127,255] 8 1 [.v (.vc (pP (some b1) 0)),.v (.vc (pB a0.neg)),.v (.vc (pP (some b1) 1)),.v (.vc (pS cI a0.d)),.v (.vc (pP (some b2) 1)),.v (.vc (pS cI a1.d)),.v (.vc (pS cI v22)),.v (.va (aP.e v24))] aR ⟨d0 (a8 (off:=0) (k:=0) rfl tyF42_0) ⟨rfl,trivial⟩,d0 (bD 2 1 rfl rfl rfl rfl (.one tyO4)) ⟨rfl,trivial⟩,d0 (a8 (off:=0) (k:=1) rfl tyF42_1) ⟨rfl,trivial⟩,d0 (bD 2 1 rfl rfl rfl rfl (.one tyO22)) ⟨rfl,trivial⟩,d0 (a8 (off:=0) (k:=1) rfl tyF42_1) ⟨rfl,trivial⟩,d0 (bD 1 1 rfl rfl rfl rfl (.one tyO22)) ⟨rfl,trivial⟩,d0 (aG rfl (k5 h23) rfl) ⟨rfl,rfl,trivial⟩,d0 (aG rfl (cA h25) rfl) ⟨rfl,rfl,trivial⟩,trivial⟩ (fun bs21 G20=>?_)
 refine aY (dA 0 rfl rfl rfl tyA42.s) ⟨rfl,rfl,trivial⟩ ?_
 refine aC (aA (aX (aW ?_)))
 obtain rfl:=bX hF
 exact aI (.inl rfl) Tryz.results177 (bM 0 2 rfl rfl rfl rfl (.agg tyA42) .nil) rfl rfl
def fI (a0:List Int):Option Int:=
 (cZ a0 1).bind fun v1=>(bQ (v1*1000000000)).bind fun v3=>(cZ a0 0).bind fun v5=>(bQ (v3+v5)).bind fun v7=>some v7
theorem jV {a0:List Int} {r:Int} (hF:fI a0=some r):Ct Tryz.prog 228 [.vc (pS cI a0)] (.vc (pI .i64 r)):=by
 unfold fI at hF
 refine a9 Tryz.func228 rfl (by kernel_rfl) Tryz.ntmps228 rfl (fun w0 M0=>?_)
 refine aD (aE (aB (aL (.inr rfl)) ⟨bC _ _,trivial⟩ ?_))
 refine aC (aA (aD (aE (aF ?_))))
 obtain⟨v1,h2,hF⟩:=aO hF
 refine aB (aG rfl (fC h2) rfl) ⟨rfl,bC _ _,trivial⟩ ?_
 obtain⟨v3,h4,hF⟩:=aO hF
 refine aB (lL rfl h4) ⟨rfl,bC _ _,trivial⟩ ?_
 refine aF ?_
 obtain⟨v5,h6,hF⟩:=aO hF
 refine aB (aG rfl (fC h6) rfl) ⟨rfl,bC _ _,trivial⟩ ?_
 obtain⟨v7,h8,hF⟩:=aO hF
 refine aB (bI rfl h8) ⟨rfl,rfl,trivial⟩ ?_
 refine bB ?_
 refine aC (aA (aX (aW ?_)))
 obtain rfl:=bX hF
 exact aI (.inl rfl) Tryz.results228 (.tmp rfl .nil) rfl rfl
def mK (K:Nat) (a0:aP) (a1:aP) (x25:List Int):Option aP:=
 (bT K (a0.neg != a1.neg) x25).bind fun v33=>some v33
def mG (K:Nat) (a1:aP) (x24:Int) (recl31:(List Int)→Int→Option (List Int)) (x52:List Int) (x58:Int):Option (List Int):=
 (bQ (x24+(a1.d.length:Int))).bind fun v61=>(dO x52 v61).bind fun v63=>(n8 x52 v61 x58).bind fun x65=>(bQ (x24+1)).bind fun v68=>recl31 x65 v68
def fJ (K:Nat) (a0:aP) (a1:aP) (x24:Int):Nat→(List Int)→Int→Int→Option ((List Int)×Int)
 |0,_,_,_=>none
 |k+1,x44,x50,x51=>bif(decide (x51<(a1.d.length:Int))) then((bQ (x24+x51)).bind fun v73=>(dO x44 v73).bind fun v75=>(dO a0.d x24).bind fun v77=>(dO a1.d x51).bind fun v79=>(bQ (v77*v79)).bind fun v81=>(bQ (v75+v81)).bind fun v83=>(bQ (v83+x50)).bind fun v85=>(bQ (x24+x51)).bind fun v87=>(r6 v85 1000000000).bind fun v89=>(dO x44 v87).bind fun v91=>(n8 x44 v87 v89).bind fun x93=>(r4 v85 1000000000).bind fun v96=>(bQ (x51+1)).bind fun v98=>fJ K a0 a1 x24 k x93 v96 v98) else(some (x44,x50))
def fM (K:Nat) (a0:aP) (a1:aP):Nat→(List Int)→Int→Option (List Int)
 |0,_,_=>none
 |k+1,x18,x24=>bif(decide (x24<(a0.d.length:Int))) then((fJ K a0 a1 x24 K x18 0 0).bind fun(x52,x58)=>mG K a1 x24 (fM K a0 a1 k) x52 x58) else(some x18)
def fV (K:Nat) (a0:aP) (a1:aP):Option aP:=
 (bQ ((a0.d.length:Int)+(a1.d.length:Int))).bind fun v4=>(s6 v4 0).bind fun x6=>(fM K a0 a1 K x6 0).bind fun x25=>mK K a0 a1 x25
theorem kM {K:Nat} {a0:aP} {a1:aP} {r:aP} (hF:fV K a0 a1=some r):Ct Tryz.prog 175 [.va (aP.e a0),.va (aP.e a1)] (.va (aP.e r)):=by
 unfold fV at hF
 refine a9 Tryz.func175 rfl (by kernel_rfl) Tryz.ntmps175 rfl (fun w0 M0=>?_)
 refine aD (aE (cV rfl rfl trivial (fun b1=>?_)))
 refine cV rfl rfl trivial (fun b2=>?_)
 refine bJ rfl tyZ42 (fun b3=>?_)
 refine aC (aA (aD (aE (aB (a8 (off:=0) (k:=1) rfl tyF42_1) ⟨rfl,trivial⟩ ?_))))
 refine aB (bD 2 1 rfl rfl rfl rfl (.one tyO22)) ⟨rfl,trivial⟩ ?_
 refine aB (bZ rfl tyS22) ⟨rfl,trivial⟩ ?_
 refine aB (a8 (off:=0) (k:=1) rfl tyF42_1) ⟨rfl,trivial⟩ ?_
 refine aB (bD 1 1 rfl rfl rfl rfl (.one tyO22)) ⟨rfl,trivial⟩ ?_
 refine aB (bZ rfl tyS22) ⟨rfl,trivial⟩ ?_
 obtain⟨v4,h5,hF⟩:=aO hF
 refine aB (bI rfl h5) ⟨rfl,rfl,trivial⟩ ?_
 obtain⟨x6,h7,hF⟩:=aO hF
 refine rK (C:=cI) rfl tyS22 rfl tyZ3 rfl h7 (fun b8=>?_)
 refine bB ?_
 refine aC (aA (aD (aD (aE (aB (aL (.inr rfl)) ⟨bC _ _,trivial⟩ ?_)))))
 refine aC (aA (bN (cL (fun H E=>∃(x25:List Int),mK K a0 a1 x25=some r∧x25.length=x6.length∧H=[hO cI b8 x6.length 3 x6.length x25,⟨some b3,1,42,2,1,([pB false]++[pS cI ([]:List Int)])⟩,⟨some b2,1,42,2,1,(aP.e a1)⟩,⟨some b1,1,42,2,1,(aP.e a0)⟩]∧E=[(2,.vc (pP (some b1) 0)),(3,.vc (pP (some b2) 0)),(4,.vc (pP (some b3) 0)),(5,.vc (pO b8 x6.length x6.length))]) ?_ (fun Jj32=>?_))))
 ·rintro _ _ ⟨x25,hF,q29,rfl,rfl⟩
  unfold mK at hF
  refine aA (aD (aE (aB (a8 (off:=0) (k:=0) rfl tyF42_0) ⟨rfl,trivial⟩ ?_)))
  refine aB (bD 3 1 rfl rfl rfl rfl (.one tyO4)) ⟨rfl,trivial⟩ ?_
  refine aB (a8 (off:=0) (k:=0) rfl tyF42_0) ⟨rfl,trivial⟩ ?_
  refine aB (bD 2 1 rfl rfl rfl rfl (.one tyO4)) ⟨rfl,trivial⟩ ?_
  refine aB (vQ rfl Tryz.underlying4) ⟨rfl,rfl,trivial⟩ ?_
  refine aF ?_
  refine xZ 0 [5,74] rfl q29 ⟨rfl,rfl,trivial⟩ rfl ?_
  obtain⟨v33,h34,hF⟩:=aO hF
  refine aB (aG rfl (cA h34) rfl) ⟨rfl,rfl,trivial⟩ ?_
  refine aY (dA 0 rfl rfl rfl tyA42.s) ⟨rfl,rfl,trivial⟩ ?_
  refine aC (aA (aX (aW ?_)))
  obtain rfl:=bX hF
  exact aI (.inl rfl) Tryz.results175 (bM 0 2 rfl rfl rfl rfl (.agg tyA42) .nil) rfl rfl
 obtain⟨x25',hL,hRl31⟩:=aO hF
 refine gY (fun k a w=>∃(x18:List Int),∃(x24:Int),fM K a0 a1 k x18 x24=some x25'∧x18.length=x6.length∧hs _ [hO cI b8 x6.length 3 x6.length x18,⟨some b3,1,42,2,1,([pB false]++[pS cI ([]:List Int)])⟩,⟨some b2,1,42,2,1,(aP.e a1)⟩,⟨some b1,1,42,2,1,(aP.e a0)⟩] [(2,.vc (pP (some b1) 0)),(3,.vc (pP (some b2) 0)),(4,.vc (pP (some b3) 0)),(5,.vc (pO b8 x6.length x6.length)),(6,.vc (pI .i64 x24))] a w) K (fun a w ⟨_,_,hF,_,_⟩=>by cases hF) (fun k a w ⟨x18,x24,hF,q22,hh⟩=>gX ?_ hh) (fun a w hh=>⟨x6,0,hL,rfl,bA [0,1,2,3] rfl (by decide) (by exact⟨rfl,rfl,rfl,rfl,rfl,trivial⟩) hh⟩)
 rw [fM.eq_2] at hF
 refine aD (aD (aE (aF ?_)))
 refine aB (a8 (off:=0) (k:=1) rfl tyF42_1) ⟨rfl,trivial⟩ ?_
 refine aB (bD 3 1 rfl rfl rfl rfl (.one tyO22)) ⟨rfl,trivial⟩ ?_
 refine aB (bZ rfl tyS22) ⟨rfl,trivial⟩ ?_
 refine aB (dQ rfl) ⟨rfl,rfl,trivial⟩ ?_
 refine aC (aA (bO rfl (fun h35=>?_) (fun h35=>?_)))
 ·have hF:=aT h35 hF
  refine aV (aA (aD (bN (aD (aE (aB (aL (.inr rfl)) ⟨bC _ _,trivial⟩ ?_))))))
  refine aC (aA (aD (aD (aE (aB (aL (.inr rfl)) ⟨bC _ _,trivial⟩ ?_)))))
  refine aC (aA (bN (cL (fun H E=>∃(x52:List Int),∃(x58:Int),mG K a1 x24 (fM K a0 a1 k) x52 x58=some x25'∧x52.length=x6.length∧H=[hO cI b8 x6.length 3 x6.length x52,⟨some b3,1,42,2,1,([pB false]++[pS cI ([]:List Int)])⟩,⟨some b2,1,42,2,1,(aP.e a1)⟩,⟨some b1,1,42,2,1,(aP.e a0)⟩]∧E=[(2,.vc (pP (some b1) 0)),(3,.vc (pP (some b2) 0)),(4,.vc (pP (some b3) 0)),(5,.vc (pO b8 x6.length x6.length)),(6,.vc (pI .i64 x24)),(7,.vc (pI .i64 x58))]) ?_ (fun Jj60=>?_))))
  ·rintro _ _ ⟨x52,x58,hF,q56,rfl,rfl⟩
   unfold mG at hF
   refine aA (aE (aF ?_))
   refine aF ?_
   refine aB (a8 (off:=0) (k:=1) rfl tyF42_1) ⟨rfl,trivial⟩ ?_
   refine aB (bD 2 1 rfl rfl rfl rfl (.one tyO22)) ⟨rfl,trivial⟩ ?_
   refine aB (bZ rfl tyS22) ⟨rfl,trivial⟩ ?_
   obtain⟨v61,h62,hF⟩:=aO hF
   refine aB (bI rfl h62) ⟨rfl,rfl,trivial⟩ ?_
   refine aF ?_
   obtain⟨v63,h64,hF⟩:=aO hF
   refine aB (cE (C:=cI) 0 rfl tyS22 rfl q56 (aN h64).1 (aN h64).2.1) ⟨rfl,rfl,trivial⟩ ?_
   obtain⟨x65,h66,hF⟩:=aO hF
   refine aY (fL 0 rfl rfl h64 h66 tyO3.s) ⟨rfl,rfl,trivial⟩ ?_
   refine aC (bF (aA (aE (aF ?_))))
   obtain⟨v68,h69,hF⟩:=aO hF
   refine aB (bI rfl h69) ⟨rfl,bC _ _,trivial⟩ ?_
   refine bB ?_
   refine aC ?_
   exact bG (fun a w hh=>⟨x65,v68,hF,(b0 h66 q56),bA [0,1,2,3] rfl (by decide) (by exact⟨rfl,rfl,rfl,rfl,rfl,trivial⟩) hh⟩)
  obtain⟨⟨x52',x58'⟩,hL,hRl59⟩:=aO hF
  refine gY (fun k a w=>∃(x44:List Int),∃(x50:Int),∃(x51:Int),fJ K a0 a1 x24 k x44 x50 x51=some (x52',x58')∧x44.length=x6.length∧hs _ [hO cI b8 x6.length 3 x6.length x44,⟨some b3,1,42,2,1,([pB false]++[pS cI ([]:List Int)])⟩,⟨some b2,1,42,2,1,(aP.e a1)⟩,⟨some b1,1,42,2,1,(aP.e a0)⟩] [(2,.vc (pP (some b1) 0)),(3,.vc (pP (some b2) 0)),(4,.vc (pP (some b3) 0)),(5,.vc (pO b8 x6.length x6.length)),(6,.vc (pI .i64 x24)),(7,.vc (pI .i64 x50)),(8,.vc (pI .i64 x51))] a w) K (fun a w ⟨_,_,_,hF,_,_⟩=>by cases hF) (fun k a w ⟨x44,x50,x51,hF,q48,hh⟩=>gX ?_ hh) (fun a w hh=>⟨x18,0,0,hL,q22,bA [0,1,2,3] rfl (by decide) (by exact⟨rfl,rfl,rfl,rfl,rfl,rfl,rfl,trivial⟩) hh⟩)
  rw [fJ.eq_2] at hF
  refine aD (aD (aE (aF ?_)))
  refine aB (a8 (off:=0) (k:=1) rfl tyF42_1) ⟨rfl,trivial⟩ ?_
  refine aB (bD 2 1 rfl rfl rfl rfl (.one tyO22)) ⟨rfl,trivial⟩ ?_
  refine aB (bZ rfl tyS22) ⟨rfl,trivial⟩ ?_
  refine aB (dQ rfl) ⟨rfl,rfl,trivial⟩ ?_
  refine aC (aA (bO rfl (fun h70=>?_) (fun h70=>?_)))
  ·have hF:=aT h70 hF
   refine aV (aA (aD (bN (aD ?_))))
   obtain⟨v73,h74,hF⟩:=aO hF
   obtain⟨v75,h76,hF⟩:=aO hF
   obtain⟨v77,h78,hF⟩:=aO hF
   obtain⟨v79,h80,hF⟩:=aO hF
   obtain⟨v81,h82,hF⟩:=aO hF
   obtain⟨v83,h84,hF⟩:=aO hF
   obtain⟨v85,h86,hF⟩:=aO hF
   refine bP [0,0,0,6,15,31,0,64,0,448,960,0,2048,0,14336,30720,65472,131071,0,524287,1048575] 21 0 [.v (.vc (pO b8 x6.length x6.length)),.v (.vc (pI .i64 x24)),.v (.vc (pI .i64 x51)),.v (.vc (pI .i64 v73)),.v (.vc (pE b8 v73 cI.n 0)),.v (.vc (pI .i64 v75)),.v (.vc (pP (some b1) 1)),.v (.vc (pS cI a0.d)),.v (.vc (pI .i64 x24)),.v (.vc (pM (cI.e v77))),.v (.vc (pI .i64 v77)),.v (.vc (pP (some b2) 1)),.v (.vc (pS cI a1.d)),.v (.vc (pI .i64 x51)),.v (.vc (pM (cI.e v79))),.v (.vc (pI .i64 v79)),.v (.vc (pI .i64 v81)),.v (.vc (pI .i64 v83)),.v (.vc (pI .i64 x50)),.v (.vc (pI .i64 v85)),.v (.vc (pI .i64 v85))] aR ⟨d0 (aL (.inl rfl)) ⟨rfl,trivial⟩,d0 (aL (.inl rfl)) ⟨rfl,trivial⟩,d0 (aL (.inl rfl)) ⟨rfl,trivial⟩,d0 (bI rfl h74) ⟨rfl,rfl,trivial⟩,d0 (cE (C:=cI) 0 rfl tyS22 rfl q48 (aN h76).1 (aN h76).2.1) ⟨rfl,rfl,trivial⟩,d0 (gA (k:=1) 0 rfl rfl h76 rfl (.one tyO3) rfl) ⟨rfl,trivial⟩,d0 (a8 (off:=0) (k:=1) rfl tyF42_1) ⟨rfl,trivial⟩,d0 (bD 3 1 rfl rfl rfl rfl (.one tyO22)) ⟨rfl,trivial⟩,d0 (aL (.inl rfl)) ⟨rfl,trivial⟩,d0 (dX rfl tyS22 h78) ⟨rfl,rfl,trivial⟩,d0 (dM 1 rfl rfl (.one tyO3)) ⟨rfl,trivial⟩,d0 (a8 (off:=0) (k:=1) rfl tyF42_1) ⟨rfl,trivial⟩,d0 (bD 2 1 rfl rfl rfl rfl (.one tyO22)) ⟨rfl,trivial⟩,d0 (aL (.inl rfl)) ⟨rfl,trivial⟩,d0 (dX rfl tyS22 h80) ⟨rfl,rfl,trivial⟩,d0 (dM 1 rfl rfl (.one tyO3)) ⟨rfl,trivial⟩,d0 (lL rfl h82) ⟨rfl,rfl,trivial⟩,d0 (bI rfl h84) ⟨rfl,rfl,trivial⟩,d0 (aL (.inl rfl)) ⟨rfl,trivial⟩,d0 (bI rfl h86) ⟨rfl,rfl,trivial⟩,d0 (aL (.inr rfl)) ⟨rfl,trivial⟩,trivial⟩ (fun bs72 G71=>?_)
   refine aC (aA (aD (aE (aF ?_))))
   refine aF ?_
   refine aF ?_
   obtain⟨v87,h88,hF⟩:=aO hF
   refine aB (bI rfl h88) ⟨rfl,rfl,trivial⟩ ?_
   refine aF ?_
   obtain⟨v89,h90,hF⟩:=aO hF
   refine aB (mZ rfl h90) ⟨rfl,bC _ _,trivial⟩ ?_
   obtain⟨v91,h92,hF⟩:=aO hF
   refine aB (cE (C:=cI) 0 rfl tyS22 rfl q48 (aN h92).1 (aN h92).2.1) ⟨rfl,rfl,trivial⟩ ?_
   obtain⟨x93,h94,hF⟩:=aO hF
   refine aY (fL 0 rfl rfl h92 h94 tyO3.s) ⟨rfl,rfl,trivial⟩ ?_
   refine aC (aA (aE (aF ?_)))
   obtain⟨v96,h97,hF⟩:=aO hF
   refine aB (oD rfl h97) ⟨rfl,bC _ _,trivial⟩ ?_
   refine bB ?_
   refine aC (bF (aA (aE (aF ?_))))
   obtain⟨v98,h99,hF⟩:=aO hF
   refine aB (bI rfl h99) ⟨rfl,bC _ _,trivial⟩ ?_
   refine bB ?_
   refine aC ?_
   exact bG (fun a w hh=>⟨x93,v96,v98,hF,(b0 h94 q48),bA [0,1,2,3] rfl (by decide) (by exact⟨rfl,rfl,rfl,rfl,rfl,rfl,rfl,trivial⟩) hh⟩)
  have hF:=aU h70 hF
  refine dE ?_
  obtain⟨rfl,rfl⟩:=sm2 hF
  exact bS Jj60 ⟨x44,x50,hRl59,q48,rfl,rfl⟩ [0,1,2,3] rfl ⟨rfl,rfl,rfl,rfl,rfl,rfl,trivial⟩
 have hF:=aU h35 hF
 refine dE ?_
 obtain rfl:=bX hF
 exact bS Jj32 ⟨x18,hRl31,q22,rfl,rfl⟩ [0,1,2,3] rfl ⟨rfl,rfl,rfl,rfl,trivial⟩
def gH (K:Nat) (a0:List Int) (a1:Int):Option (List Int):=
 (bT K false a0).bind fun v1=>(fO K a1).bind fun v3=>(fV K v1 v3).bind fun v5=>some v5.d
theorem m5 {K:Nat} {a0:List Int} {a1:Int} {r:List Int} (hF:gH K a0 a1=some r):Ct Tryz.prog 260 [.vc (pS cI a0),.vc (pI .i64 a1)] (.vc (pS cI r)):=by
 unfold gH at hF
 refine a9 Tryz.func260 rfl (by kernel_rfl) Tryz.ntmps260 rfl (fun w0 M0=>?_)
 refine aD (aE (aB (aL (.inr rfl)) ⟨eJ cI,trivial⟩ ?_))
 refine aC (aA (aD (aE (aF ?_))))
 obtain⟨v1,h2,hF⟩:=aO hF
 refine aB (aG rfl (cA h2) rfl) ⟨dH _,rfl,trivial⟩ ?_
 refine aF ?_
 obtain⟨v3,h4,hF⟩:=aO hF
 refine aB (aG rfl (jG h4) rfl) ⟨rfl,trivial⟩ ?_
 obtain⟨v5,h6,hF⟩:=aO hF
 refine aB (aG rfl (kM h6) rfl) ⟨rfl,rfl,trivial⟩ ?_
 refine bJ rfl tyZ42 (fun b7=>?_)
 refine aY (dA 0 rfl rfl rfl tyA42.s) ⟨rfl,rfl,trivial⟩ ?_
 refine aC (aA (aD (aE (aB (a8 (off:=0) (k:=1) rfl tyF42_1) ⟨rfl,trivial⟩ ?_))))
 refine aB (bD 0 1 rfl rfl rfl rfl (.one tyO22)) ⟨rfl,trivial⟩ ?_
 refine bB ?_
 refine aC (aA (aX (aW ?_)))
 obtain rfl:=bX hF
 exact aI (.inl rfl) Tryz.results260 (.tmp rfl .nil) rfl rfl
end Go.Proofs.YtcjdedkdoagifaaGreat
