/- Texts of the proof, part 2: I1 I2 IZ P2 P3. -/
import Derived.Test.YtcjdedkdoagifaaGreatProg
import Derived.KernelRfl
import Derived.IntWalk
import Derived.Test.YtcjdedkdoagifaaGreatZ1
set_option linter.unusedVariables false
set_option maxRecDepth 100000
namespace Go.Proofs.YtcjdedkdoagifaaGreat
theorem aU:Tryz.prog.follows .mixedOrders=true:=by kernel_rfl
theorem tyA42:TyA Tryz.prog 42 2:=mkA Tryz.underlying42 rfl (by kernel_rfl)
theorem tyB42:TyB Tryz.prog 42 [(0,1),(1,1)] ([pB false]++[pS cI ([]:List Int)]):=mkB (z:=.agg #[.bool false,.slice none 0 0]) (by kernel_rfl) Tryz.underlying42 (by kernel_rfl) (fun M=>b0.app (show b0 M [pB false] [.bool false] from zU1) (show b0 M [pS cI ([]:List Int)] [.slice none 0 0] from⟨dX cI M,trivial⟩))
theorem tyF42_0:TyF Tryz.prog 42 0 0:=mkF (ft:=4) (k:=0) Tryz.underlying42 rfl rfl rfl (by kernel_rfl)
theorem tyF42_1:TyF Tryz.prog 42 1 1:=mkF (ft:=22) (k:=0) Tryz.underlying42 rfl rfl rfl (by kernel_rfl)
theorem tyO22:Ty1 Tryz.prog 22:=mk1 Tryz.underlying22 rfl (by kernel_rfl)
theorem tyO3:Ty1 Tryz.prog 3:=mk1 Tryz.underlying3 rfl (by kernel_rfl)
theorem tyO4:Ty1 Tryz.prog 4:=mk1 Tryz.underlying4 rfl (by kernel_rfl)
theorem tyS22:TyS Tryz.prog 22 3 1 8:=mkS (z:=.int .i64 0) (k:=0) Tryz.underlying22 (by kernel_rfl) rfl
theorem tyZ3:TyZ Tryz.prog 3 [pI .i64 0]:=mkZ (z:=.int .i64 0) (k:=1) (by kernel_rfl) rfl (fun M=>show b0 M [pI .i64 0] [.int .i64 0] from zU1)
theorem tyZ42:TyZ Tryz.prog 42 ([pB false]++[pS cI ([]:List Int)]):=mkZ (z:=.agg #[.bool false,.slice none 0 0]) (k:=2) (by kernel_rfl) rfl (fun M=>b0.app (show b0 M [pB false] [.bool false] from zU1) (show b0 M [pS cI ([]:List Int)] [.slice none 0 0] from⟨dX cI M,trivial⟩))
def nQ (K:Nat) (a0:Bool) (a1:List Int) (x4:Int):Option aZ:=
 bif(x4==0) then(some (⟨false,([]:List Int)⟩:aZ)) else((slL a1 0 x4).bind fun x8=>some (⟨a0,x8⟩:aZ))
def fL (K:Nat) (a1:List Int):Nat→Int→Option Int
 |0,_=>none
 |k+1,x3=>bif(decide (0<x3)) then((bW (x3-1)).bind fun v11=>(dC a1 (max v11 0)).bind fun v13=>bif(v13==0) then((bW (x3-1)).bind fun v16=>fL K a1 k v16) else(some x3)) else(some x3)
def cA (K:Nat) (a0:Bool) (a1:List Int):Option aZ:=
 (fL K a1 K (a1.length:Int)).bind fun x4=>nQ K a0 a1 x4
theorem cM {K:Nat} {a0:Bool} {a1:List Int} {r:aZ} (hF:cA K a0 a1=some r):Ct Tryz.prog 181 [.vc (pB a0),.vc (pS cI a1)] (.va (aZ.e r)):=by
 unfold cA at hF
 refine bD Tryz.func181 rfl (by kernel_rfl) Tryz.ntmps181 rfl (fun w0 M0=>?_)
 refine aE (aF (bP rfl tyZ42 (fun b1=>?_)))
 refine aC (aA (aE (aF (aI ?_))))
 refine aB (bX rfl tyS22) zU1 ?_
 refine bH ?_
 refine aC (aA (aE (bR (cJ (fun H E=>∃(x4:Int),nQ K a0 a1 x4=some r∧H=[⟨some b1,1,42,2,1,([pB false]++[pS cI ([]:List Int)])⟩]∧E=[(0,.vc (pB a0)),(1,.vc (pS cI a1)),(4,.vc (pP (some b1) 0)),(5,.vc (pI .i64 x4))]) ?_ (fun Jj6=>?_)))))
 ·rintro _ _ ⟨x4,hF,rfl,rfl⟩
  unfold nQ at hF
  refine aA (aE (aE (aF (aI ?_))))
  refine aB (gR rfl) ⟨rfl,bI _ _,trivial⟩ ?_
  refine aC (aA (bS rfl (fun h7=>?_) (fun h7=>?_)))
  ·have hF:=aV h7 hF
   refine aE (aF (aB (cZ (is:=[]) (xs:=[]) (ps:=[]) rfl tyB42 rfl rfl trivial rfl) trivial ?_))
   refine bG (dO 0 rfl rfl rfl tyA42.s) zU2 ?_
   refine aC (aA (a9 (a8 ?_)))
   obtain rfl:=bV hF
   exact aL (.inl rfl) Tryz.results181 (bQ 0 2 rfl rfl rfl rfl (.agg tyA42) .nil) rfl rfl
  have hF:=aX h7 hF
  refine bA (aA (aE (aF (aI ?_))))
  refine aI ?_
  refine aI ?_
  obtain⟨x8,h9,hF⟩:=aP hF
  refine aB (z6 rfl tyS22 h9) zU2 ?_
  refine aB (cZ (is:=[0,1]) (xs:=[.tmp 24,.tmp 27]) (ps:=[.vc (pB a0),.vc (pS cI x8)]) rfl tyB42 rfl rfl ⟨trivial,trivial,trivial⟩ rfl) zU2 ?_
  refine bG (dO 0 rfl rfl rfl tyA42.s) zU2 ?_
  refine aC (aA (a9 (a8 ?_)))
  obtain rfl:=bV hF
  exact aL (.inl rfl) Tryz.results181 (bQ 0 2 rfl rfl rfl rfl (.agg tyA42) .nil) rfl rfl
 obtain⟨x4',hL,hRl5⟩:=aP hF
 refine gB (fun k a w=>∃(x3:Int),fL K a1 k x3=some x4'∧hs _ [⟨some b1,1,42,2,1,([pB false]++[pS cI ([]:List Int)])⟩] [(0,.vc (pB a0)),(1,.vc (pS cI a1)),(4,.vc (pP (some b1) 0)),(5,.vc (pI .i64 x3))] a w) K (fun a w ⟨_,hF,_⟩=>by cases hF) (fun k a w ⟨x3,hF,hh⟩=>gE ?_ hh) (fun a w hh=>⟨(a1.length:Int),hL,bF [0] rfl (by decide) (by exact⟨rfl,rfl,rfl,rfl,trivial⟩) hh⟩)
 rw [fL.eq_2] at hF
 refine aE (aE (aF (aI ?_)))
 refine aB (rV rfl) ⟨rfl,bI _ _,trivial⟩ ?_
 refine aI ?_
 refine cP (fun h10=>?_) (fun h10=>?_)
 ·have hF:=aV h10 hF
  refine aY (aN (.inl rfl)) zU1 ?_
  refine aY (aN (.inl rfl)) zU1 ?_
  obtain⟨v11,h12,hF⟩:=aP hF
  refine aY (eM rfl h12) ⟨rfl,bI _ _,trivial⟩ ?_
  refine aY (aIZ rfl) ⟨rfl,bI _ _,trivial⟩ ?_
  obtain⟨v13,h14,hF⟩:=aP hF
  refine aY (cO rfl tyS22 h14) zU2 ?_
  refine aY (cK 1 rfl rfl (.one tyO3)) zU1 ?_
  refine aY (gR rfl) ⟨rfl,bI _ _,trivial⟩ ?_
  refine aB (bM rfl) zU2 ?_
  refine aC (aA (bS rfl (fun h15=>?_) (fun h15=>?_)))
  ·have hF:=aV h15 hF
   refine bA (aA (bR (aF (aI ?_))))
   obtain⟨v16,h17,hF⟩:=aP hF
   refine aB (eM rfl h17) ⟨rfl,bI _ _,trivial⟩ ?_
   refine bH ?_
   refine aC (bJ ?_)
   exact bL (fun a w hh=>⟨v16,hF,bF [0] rfl (by decide) (by exact⟨rfl,rfl,rfl,rfl,trivial⟩) hh⟩)
  have hF:=aX h15 hF
  refine dI ?_
  obtain rfl:=bV hF
  exact bU Jj6 ⟨x3,hRl5,rfl,rfl⟩ [0] rfl ⟨rfl,rfl,rfl,rfl,trivial⟩
 have hF:=aX h10 hF
 refine aM ?_
 refine aM ?_
 refine aM ?_
 refine aM ?_
 refine aM ?_
 refine aM ?_
 refine aM ?_
 refine aB (bN rfl) ⟨rfl,cW _,trivial⟩ ?_
 refine aC (aA (sT rfl ?_))
 refine dI ?_
 obtain rfl:=bV hF
 exact bU Jj6 ⟨x3,hRl5,rfl,rfl⟩ [0] rfl ⟨rfl,rfl,rfl,rfl,trivial⟩
def p5 (K:Nat) (a0:Int) (x18:List Int):Option aZ:=
 (cA K (decide (a0<0)) x18).bind fun v26=>some v26
def eJ (K:Nat):Nat→(List Int)→Int→Option (List Int)
 |0,_,_=>none
 |k+1,x11,x17=>bif(x17 != 0) then((vM x17 1000000000).bind fun v29=>bif(decide (v29<0)) then((bW (-v29)).bind fun v32=>(qO x11 [v32]).bind fun x34=>(vW x17 1000000000).bind fun v41=>eJ K k x34 v41) else((qO x11 [v29]).bind fun x43=>(vW x17 1000000000).bind fun v50=>eJ K k x43 v50)) else(some x11)
def gU (K:Nat) (a0:Int):Option aZ:=
 (eJ K K ([]:List Int) a0).bind fun x18=>p5 K a0 x18
theorem lD {K:Nat} {a0:Int} {r:aZ} (hF:gU K a0=some r):Ct Tryz.prog 94 [.vc (pI .i64 a0)] (.va (aZ.e r)):=by
 unfold gU at hF
 refine bD Tryz.func94 rfl (by kernel_rfl) Tryz.ntmps94 rfl (fun w0 M0=>?_)
 refine aE (aF (bP rfl tyZ42 (fun b1=>?_)))
 refine aC (aA (aE (aF (sB cI 3 rfl ?_))))
 refine aC (aA (aE (aF (aI ?_))))
 refine aB (dQ rfl) ⟨rfl,bI _ _,trivial⟩ ?_
 refine bH ?_
 refine aC (aA (aE (bR (cJ (fun H E=>∃(x18:List Int),∃(b19:Option Nat),∃(c20:Nat),∃(n21:Nat),p5 K a0 x18=some r∧x18.length=n21∧H=[hO cI b19 c20 3 n21 x18,⟨some b1,1,42,2,1,([pB false]++[pS cI ([]:List Int)])⟩]∧E=[(2,.vc (pP (some b1) 0)),(3,.vc (pO b19 n21 c20)),(4,.vc (pB (decide (a0<0))))]) ?_ (fun Jj25=>?_)))))
 ·rintro _ _ ⟨x18,b19,c20,n21,hF,q22,rfl,rfl⟩
  unfold p5 at hF
  refine aA (aE (aF (aI ?_)))
  refine aI ?_
  refine wI 0 [3,23] rfl q22 zU2 rfl ?_
  obtain⟨v26,h27,hF⟩:=aP hF
  refine aB (aJ rfl (cM h27) rfl) zU2 ?_
  refine bG (dO 0 rfl rfl rfl tyA42.s) zU2 ?_
  refine aC (aA (a9 (a8 ?_)))
  obtain rfl:=bV hF
  exact aL (.inl rfl) Tryz.results94 (bQ 0 2 rfl rfl rfl rfl (.agg tyA42) .nil) rfl rfl
 obtain⟨x18',hL,hRl24⟩:=aP hF
 refine gB (fun k a w=>∃(x11:List Int),∃(x17:Int),∃(b12:Option Nat),∃(c13:Nat),∃(n14:Nat),eJ K k x11 x17=some x18'∧x11.length=n14∧hs _ [hO cI b12 c13 3 n14 x11,⟨some b1,1,42,2,1,([pB false]++[pS cI ([]:List Int)])⟩] [(0,.vc (pI .i64 x17)),(2,.vc (pP (some b1) 0)),(3,.vc (pO b12 n14 c13)),(4,.vc (pB (decide (a0<0))))] a w) K (fun a w ⟨_,_,_,_,_,hF,_,_⟩=>by cases hF) (fun k a w ⟨x11,x17,b12,c13,n14,hF,q15,hh⟩=>gE ?_ hh) (fun a w hh=>⟨([]:List Int),a0,none,0,0,hL,rfl,bF [0,1] rfl (by decide) (by exact⟨rfl,rfl,rfl,rfl,trivial⟩) hh⟩)
 rw [eJ.eq_2] at hF
 refine aE (aE (aF (aI ?_)))
 refine aB (s7 rfl) ⟨rfl,bI _ _,trivial⟩ ?_
 refine aC (aA (bS rfl (fun h28=>?_) (fun h28=>?_)))
 ·have hF:=aV h28 hF
  refine bA (aA (bR (aE (aF (aI ?_)))))
  obtain⟨v29,h30,hF⟩:=aP hF
  refine aB (rA rfl h30) ⟨rfl,bI _ _,trivial⟩ ?_
  refine bH ?_
  refine aC (aA (aE (aE (aF (aI ?_)))))
  refine aB (dQ rfl) ⟨rfl,bI _ _,trivial⟩ ?_
  refine aC (aA (bS rfl (fun h31=>?_) (fun h31=>?_)))
  ·have hF:=aV h31 hF
   refine aF (aI ?_)
   obtain⟨v32,h33,hF⟩:=aP hF
   refine aB (aFd rfl h33) zU1 ?_
   refine bH ?_
   refine aC (aA (aE (aF (aI ?_))))
   refine aI ?_
   refine aB (iJ (C:=cI) (xs:=[.tmp 17]) (ps:=[.vc (pI .i64 v32)]) (zs:=[v32]) rfl tyS22 rfl ⟨⟨trivial,rfl⟩,trivial⟩ rfl) zU1 ?_
   obtain⟨x34,h35,hF⟩:=aP hF
   refine jD 0 rfl tyS22 rfl rfl q15 rfl rfl h35 (fun b36 c37 H38 e39=>?_)
   cases e39
   refine bH ?_
   refine aC (aA (aF (aI ?_)))
   obtain⟨v41,h42,hF⟩:=aP hF
   refine aB (sF rfl h42) ⟨rfl,bI _ _,trivial⟩ ?_
   refine bH ?_
   refine aC (bJ ?_)
   exact bL (fun a w hh=>⟨x34,v41,b36,c37,(n14+[v32].length),hF,(cL h35 q15),bF [0,1] rfl (by decide) (by exact⟨rfl,rfl,rfl,rfl,trivial⟩) hh⟩)
  have hF:=aX h31 hF
  refine bA (aA (aE (aF (aI ?_))))
  refine aI ?_
  refine aB (iJ (C:=cI) (xs:=[.tmp 17]) (ps:=[.vc (pI .i64 v29)]) (zs:=[v29]) rfl tyS22 rfl ⟨⟨trivial,rfl⟩,trivial⟩ rfl) zU1 ?_
  obtain⟨x43,h44,hF⟩:=aP hF
  refine jD 0 rfl tyS22 rfl rfl q15 rfl rfl h44 (fun b45 c46 H47 e48=>?_)
  cases e48
  refine bH ?_
  refine aC (aA (aF (aI ?_)))
  obtain⟨v50,h51,hF⟩:=aP hF
  refine aB (sF rfl h51) ⟨rfl,bI _ _,trivial⟩ ?_
  refine bH ?_
  refine aC (bJ ?_)
  exact bL (fun a w hh=>⟨x43,v50,b45,c46,(n14+[v29].length),hF,(cL h44 q15),bF [0,1] rfl (by decide) (by exact⟨rfl,rfl,rfl,rfl,trivial⟩) hh⟩)
 have hF:=aX h28 hF
 refine dI ?_
 obtain rfl:=bV hF
 exact bU Jj25 ⟨x11,b12,c13,n14,hRl24,q15,rfl,rfl⟩ [0,1] rfl ⟨rfl,rfl,rfl,trivial⟩
def fF (a0:Bool) (a1:Int):Option aZ:=
 bif(a1==0) then(some (⟨false,([]:List Int)⟩:aZ)) else(bif(decide (a1<1000000000)) then(some (⟨a0,[(IntKind.i64.wrap a1)]⟩:aZ)) else(bif(decide (a1<1000000000000000000)) then((vM a1 1000000000).bind fun v5=>(uq a1 1000000000).bind fun v7=>some (⟨a0,[(IntKind.i64.wrap v5),(IntKind.i64.wrap v7)]⟩:aZ)) else((vM a1 1000000000).bind fun v9=>(uq a1 1000000000).bind fun v11=>(vM v11 1000000000).bind fun v13=>(uq a1 1000000000).bind fun v15=>(uq v15 1000000000).bind fun v17=>some (⟨a0,[(IntKind.i64.wrap v9),(IntKind.i64.wrap v13),(IntKind.i64.wrap v17)]⟩:aZ))))
theorem kD {a0:Bool} {a1:Int} {r:aZ} (hF:fF a0 a1=some r):Ct Tryz.prog 182 [.vc (pB a0),.vc (pI .u64 a1)] (.va (aZ.e r)):=by
 unfold fF at hF
 refine bD Tryz.func182 rfl (by kernel_rfl) Tryz.ntmps182 rfl (fun w0 M0=>?_)
 refine aE (aF (bP rfl tyZ42 (fun b1=>?_)))
 refine aC (aA (aE (bR (aE (aF (aI ?_))))))
 refine aB (gR rfl) ⟨rfl,bI _ _,trivial⟩ ?_
 refine bH ?_
 refine aC (aA (bS rfl (fun h2=>?_) (fun h2=>?_)))
 ·have hF:=aV h2 hF
  refine aE (aF (aB (cZ (is:=[]) (xs:=[]) (ps:=[]) rfl tyB42 rfl rfl trivial rfl) trivial ?_))
  refine bG (dO 0 rfl rfl rfl tyA42.s) zU2 ?_
  refine aC (aA (a9 (a8 ?_)))
  obtain rfl:=bV hF
  exact aL (.inl rfl) Tryz.results182 (bQ 0 2 rfl rfl rfl rfl (.agg tyA42) .nil) rfl rfl
 have hF:=aX h2 hF
 refine aE (aF (aI ?_))
 refine aB (dQ rfl) ⟨rfl,bI _ _,trivial⟩ ?_
 refine bH ?_
 refine aC (aA (bS rfl (fun h3=>?_) (fun h3=>?_)))
 ·have hF:=aV h3 hF
  refine aE (aF (aI ?_))
  refine aI ?_
  refine aB (aBU rfl ⟨_,Tryz.underlying213⟩ Tryz.underlying3) zU1 ?_
  refine aB (iJ (C:=cI) (xs:=[.tmp 14]) (ps:=[.vc (pI .i64 (IntKind.i64.wrap a1))]) (zs:=[(IntKind.i64.wrap a1)]) rfl tyS22 rfl ⟨⟨trivial,rfl⟩,trivial⟩ rfl) zU1 ?_
  refine aB (cZ (is:=[0,1]) (xs:=[.tmp 12,.tmp 15]) (ps:=[.vc (pB a0),.vc (pS cI [(IntKind.i64.wrap a1)])]) rfl tyB42 rfl rfl ⟨trivial,trivial,trivial⟩ rfl) zU2 ?_
  refine bG (dO 0 rfl rfl rfl tyA42.s) zU2 ?_
  refine aC (aA (a9 (a8 ?_)))
  obtain rfl:=bV hF
  exact aL (.inl rfl) Tryz.results182 (bQ 0 2 rfl rfl rfl rfl (.agg tyA42) .nil) rfl rfl
 have hF:=aX h3 hF
 refine aE (aF (aI ?_))
 refine aB (dQ rfl) ⟨rfl,bI _ _,trivial⟩ ?_
 refine bH ?_
 refine aC (aA (bS rfl (fun h4=>?_) (fun h4=>?_)))
 ·have hF:=aV h4 hF
  refine aE (aF (aI ?_))
  refine aI ?_
  obtain⟨v5,h6,hF⟩:=aP hF
  refine aB (rA rfl h6) ⟨rfl,bI _ _,trivial⟩ ?_
  refine aB (aBU rfl ⟨_,Tryz.underlying213⟩ Tryz.underlying3) zU1 ?_
  refine aI ?_
  obtain⟨v7,h8,hF⟩:=aP hF
  refine aB (aEw rfl h8) ⟨rfl,bI _ _,trivial⟩ ?_
  refine aB (aBU rfl ⟨_,Tryz.underlying213⟩ Tryz.underlying3) zU1 ?_
  refine aB (iJ (C:=cI) (xs:=[.tmp 23,.tmp 26]) (ps:=[.vc (pI .i64 (IntKind.i64.wrap v5)),.vc (pI .i64 (IntKind.i64.wrap v7))]) (zs:=[(IntKind.i64.wrap v5),(IntKind.i64.wrap v7)]) rfl tyS22 rfl ⟨⟨trivial,rfl⟩,⟨trivial,rfl⟩,trivial⟩ rfl) zU2 ?_
  refine aB (cZ (is:=[0,1]) (xs:=[.tmp 20,.tmp 27]) (ps:=[.vc (pB a0),.vc (pS cI [(IntKind.i64.wrap v5),(IntKind.i64.wrap v7)])]) rfl tyB42 rfl rfl ⟨trivial,trivial,trivial⟩ rfl) zU2 ?_
  refine bG (dO 0 rfl rfl rfl tyA42.s) zU2 ?_
  refine aC (aA (a9 (a8 ?_)))
  obtain rfl:=bV hF
  exact aL (.inl rfl) Tryz.results182 (bQ 0 2 rfl rfl rfl rfl (.agg tyA42) .nil) rfl rfl
 have hF:=aX h4 hF
 refine bA (bJ (aA (aE (aF (aI ?_)))))
 refine aI ?_
 obtain⟨v9,h10,hF⟩:=aP hF
 refine aB (rA rfl h10) ⟨rfl,bI _ _,trivial⟩ ?_
 refine aB (aBU rfl ⟨_,Tryz.underlying213⟩ Tryz.underlying3) zU1 ?_
 refine aI ?_
 obtain⟨v11,h12,hF⟩:=aP hF
 refine aB (aEw rfl h12) ⟨rfl,bI _ _,trivial⟩ ?_
 obtain⟨v13,h14,hF⟩:=aP hF
 refine aB (rA rfl h14) ⟨rfl,bI _ _,trivial⟩ ?_
 refine aB (aBU rfl ⟨_,Tryz.underlying213⟩ Tryz.underlying3) zU1 ?_
 refine aI ?_
 obtain⟨v15,h16,hF⟩:=aP hF
 refine aB (aEw rfl h16) ⟨rfl,bI _ _,trivial⟩ ?_
 obtain⟨v17,h18,hF⟩:=aP hF
 refine aB (aEw rfl h18) ⟨rfl,bI _ _,trivial⟩ ?_
 refine aB (aBU rfl ⟨_,Tryz.underlying213⟩ Tryz.underlying3) zU1 ?_
 refine aB (iJ (C:=cI) (xs:=[.tmp 32,.tmp 36,.tmp 40]) (ps:=[.vc (pI .i64 (IntKind.i64.wrap v9)),.vc (pI .i64 (IntKind.i64.wrap v13)),.vc (pI .i64 (IntKind.i64.wrap v17))]) (zs:=[(IntKind.i64.wrap v9),(IntKind.i64.wrap v13),(IntKind.i64.wrap v17)]) rfl tyS22 rfl ⟨⟨trivial,rfl⟩,⟨trivial,rfl⟩,⟨trivial,rfl⟩,trivial⟩ rfl) ⟨rfl,rfl,rfl,trivial⟩ ?_
 refine aB (cZ (is:=[0,1]) (xs:=[.tmp 29,.tmp 41]) (ps:=[.vc (pB a0),.vc (pS cI [(IntKind.i64.wrap v9),(IntKind.i64.wrap v13),(IntKind.i64.wrap v17)])]) rfl tyB42 rfl rfl ⟨trivial,trivial,trivial⟩ rfl) zU2 ?_
 refine bG (dO 0 rfl rfl rfl tyA42.s) zU2 ?_
 refine aC (aA (a9 (a8 ?_)))
 obtain rfl:=bV hF
 exact aL (.inl rfl) Tryz.results182 (bQ 0 2 rfl rfl rfl rfl (.agg tyA42) .nil) rfl rfl
def tN (K:Nat) (a0:Bool) (a1:List Int) (x4:Int):Option aZ:=
 bif(x4==0) then(some (⟨false,([]:List Int)⟩:aZ)) else((slL a1 0 x4).bind fun x8=>some (⟨a0,x8⟩:aZ))
def l8 (K:Nat) (a1:List Int):Nat→Int→Option Int
 |0,_=>none
 |k+1,x3=>bif(decide (0<x3)) then((bW (x3-1)).bind fun v11=>(dC a1 v11).bind fun v13=>bif(v13==0) then((bW (x3-1)).bind fun v16=>l8 K a1 k v16) else(some x3)) else(some x3)
def eX (K:Nat) (a0:Bool) (a1:List Int):Option aZ:=
 (l8 K a1 K (a1.length:Int)).bind fun x4=>tN K a0 a1 x4
theorem iL {K:Nat} {a0:Bool} {a1:List Int} {r:aZ} (hF:eX K a0 a1=some r):Ct Tryz.prog 183 [.vc (pB a0),.vc (pS cI a1)] (.va (aZ.e r)):=by
 unfold eX at hF
 refine bD Tryz.func183 rfl (by kernel_rfl) Tryz.ntmps183 rfl (fun w0 M0=>?_)
 refine aE (aF (bP rfl tyZ42 (fun b1=>?_)))
 refine aC (aA (aE (aF (aI ?_))))
 refine aB (bX rfl tyS22) zU1 ?_
 refine bH ?_
 refine aC (aA (aE (bR (cJ (fun H E=>∃(x4:Int),tN K a0 a1 x4=some r∧H=[⟨some b1,1,42,2,1,([pB false]++[pS cI ([]:List Int)])⟩]∧E=[(0,.vc (pB a0)),(1,.vc (pS cI a1)),(4,.vc (pP (some b1) 0)),(5,.vc (pI .i64 x4))]) ?_ (fun Jj6=>?_)))))
 ·rintro _ _ ⟨x4,hF,rfl,rfl⟩
  unfold tN at hF
  refine aA (aE (aE (aF (aI ?_))))
  refine aB (gR rfl) ⟨rfl,bI _ _,trivial⟩ ?_
  refine aC (aA (bS rfl (fun h7=>?_) (fun h7=>?_)))
  ·have hF:=aV h7 hF
   refine aE (aF (aB (cZ (is:=[]) (xs:=[]) (ps:=[]) rfl tyB42 rfl rfl trivial rfl) trivial ?_))
   refine bG (dO 0 rfl rfl rfl tyA42.s) zU2 ?_
   refine aC (aA (a9 (a8 ?_)))
   obtain rfl:=bV hF
   exact aL (.inl rfl) Tryz.results183 (bQ 0 2 rfl rfl rfl rfl (.agg tyA42) .nil) rfl rfl
  have hF:=aX h7 hF
  refine bA (aA (aE (aF (aI ?_))))
  refine aI ?_
  refine aI ?_
  refine aI ?_
  obtain⟨x8,h9,hF⟩:=aP hF
  refine aB (aJD rfl tyS22 h9) ⟨rfl,rfl,rfl,trivial⟩ ?_
  refine aB (cZ (is:=[0,1]) (xs:=[.tmp 23,.tmp 27]) (ps:=[.vc (pB a0),.vc (pS cI x8)]) rfl tyB42 rfl rfl ⟨trivial,trivial,trivial⟩ rfl) zU2 ?_
  refine bG (dO 0 rfl rfl rfl tyA42.s) zU2 ?_
  refine aC (aA (a9 (a8 ?_)))
  obtain rfl:=bV hF
  exact aL (.inl rfl) Tryz.results183 (bQ 0 2 rfl rfl rfl rfl (.agg tyA42) .nil) rfl rfl
 obtain⟨x4',hL,hRl5⟩:=aP hF
 refine gB (fun k a w=>∃(x3:Int),l8 K a1 k x3=some x4'∧hs _ [⟨some b1,1,42,2,1,([pB false]++[pS cI ([]:List Int)])⟩] [(0,.vc (pB a0)),(1,.vc (pS cI a1)),(4,.vc (pP (some b1) 0)),(5,.vc (pI .i64 x3))] a w) K (fun a w ⟨_,hF,_⟩=>by cases hF) (fun k a w ⟨x3,hF,hh⟩=>gE ?_ hh) (fun a w hh=>⟨(a1.length:Int),hL,bF [0] rfl (by decide) (by exact⟨rfl,rfl,rfl,rfl,trivial⟩) hh⟩)
 rw [l8.eq_2] at hF
 refine aE (aE (aF (aI ?_)))
 refine aB (rV rfl) ⟨rfl,bI _ _,trivial⟩ ?_
 refine aI ?_
 refine cP (fun h10=>?_) (fun h10=>?_)
 ·have hF:=aV h10 hF
  refine aY (aN (.inl rfl)) zU1 ?_
  refine aY (aN (.inl rfl)) zU1 ?_
  obtain⟨v11,h12,hF⟩:=aP hF
  refine aY (eM rfl h12) ⟨rfl,bI _ _,trivial⟩ ?_
  obtain⟨v13,h14,hF⟩:=aP hF
  refine aY (cO rfl tyS22 h14) zU2 ?_
  refine aY (cK 1 rfl rfl (.one tyO3)) zU1 ?_
  refine aY (gR rfl) ⟨rfl,bI _ _,trivial⟩ ?_
  refine aB (bM rfl) zU2 ?_
  refine aC (aA (bS rfl (fun h15=>?_) (fun h15=>?_)))
  ·have hF:=aV h15 hF
   refine bA (aA (bR (aF (aI ?_))))
   obtain⟨v16,h17,hF⟩:=aP hF
   refine aB (eM rfl h17) ⟨rfl,bI _ _,trivial⟩ ?_
   refine bH ?_
   refine aC (bJ ?_)
   exact bL (fun a w hh=>⟨v16,hF,bF [0] rfl (by decide) (by exact⟨rfl,rfl,rfl,rfl,trivial⟩) hh⟩)
  have hF:=aX h15 hF
  refine dI ?_
  obtain rfl:=bV hF
  exact bU Jj6 ⟨x3,hRl5,rfl,rfl⟩ [0] rfl ⟨rfl,rfl,rfl,rfl,trivial⟩
 have hF:=aX h10 hF
 refine aM ?_
 refine aM ?_
 refine aM ?_
 refine aM ?_
 refine aM ?_
 refine aM ?_
 refine aB (bN rfl) ⟨rfl,cW _,trivial⟩ ?_
 refine aC (aA (sT rfl ?_))
 refine dI ?_
 obtain rfl:=bV hF
 exact bU Jj6 ⟨x3,hRl5,rfl,rfl⟩ [0] rfl ⟨rfl,rfl,rfl,rfl,trivial⟩
def p8 (K:Nat) (a0:aZ) (a1:aZ) (x37:List Int):Option aZ:=
 (eX K (a0.neg != a1.neg) x37).bind fun v45=>some v45
def pZ (K:Nat) (a1:aZ) (x36:Int) (recl43:(List Int)→Int→Option (List Int)) (x66:List Int) (x72:Int):Option (List Int):=
 (bW (x36+(a1.d.length:Int))).bind fun v75=>(dC x66 v75).bind fun v77=>(qC x66 v75 x72).bind fun x79=>(bW (x36+1)).bind fun v82=>recl43 x79 v82
def gV (K:Nat) (a1:aZ) (x36:Int) (v48:Int):Nat→(List Int)→Int→Int→Option ((List Int)×Int)
 |0,_,_,_=>none
 |k+1,x58,x64,x65=>bif(decide (x65<(a1.d.length:Int))) then((dC a1.d x65).bind fun v85=>(bW (x36+x65)).bind fun v87=>(dC x58 v87).bind fun v89=>(bW (v48*v85)).bind fun v91=>(bW (v89+v91)).bind fun v93=>(bW (v93+x64)).bind fun v95=>(vW v95 1000000000).bind fun v97=>(bW (x36+x65)).bind fun v99=>(bW (v97*1000000000)).bind fun v101=>(bW (v95-v101)).bind fun v103=>(dC x58 v99).bind fun v105=>(qC x58 v99 v103).bind fun x107=>(bW (x65+1)).bind fun v110=>gV K a1 x36 v48 k x107 v97 v110) else(some (x58,x64))
def gA (K:Nat) (a0:aZ) (a1:aZ):Nat→(List Int)→Int→Option (List Int)
 |0,_,_=>none
 |k+1,x30,x36=>bif(decide (x36<(a0.d.length:Int))) then((dC a0.d x36).bind fun v48=>(gV K a1 x36 v48 K x30 0 0).bind fun(x66,x72)=>pZ K a1 x36 (gA K a0 a1 k) x66 x72) else(some x30)
def tT (K:Nat) (a0:aZ) (a1:aZ) (x133:List Int):Option aZ:=
 (eX K (a0.neg != a1.neg) x133).bind fun v141=>some v141
def rJ (K:Nat) (a1:aZ) (x132:Int) (recl139:(List Int)→Int→Option (List Int)) (x162:List Int) (x168:Int):Option (List Int):=
 (bW (x132+(a1.d.length:Int))).bind fun v171=>(dC x162 v171).bind fun v173=>(qC x162 v171 x168).bind fun x175=>(bW (x132+1)).bind fun v178=>recl139 x175 v178
def mT (K:Nat) (a1:aZ) (x132:Int) (v144:Int):Nat→(List Int)→Int→Int→Option ((List Int)×Int)
 |0,_,_,_=>none
 |k+1,x154,x160,x161=>bif(decide (x161<(a1.d.length:Int))) then((dC a1.d x161).bind fun v181=>(bW (x132+x161)).bind fun v183=>(dC x154 v183).bind fun v185=>(bW (v144*v181)).bind fun v187=>(bW (v185+v187)).bind fun v189=>(bW (v189+x160)).bind fun v191=>(vW v191 1000000000).bind fun v193=>(bW (x132+x161)).bind fun v195=>(bW (v193*1000000000)).bind fun v197=>(bW (v191-v197)).bind fun v199=>(dC x154 v195).bind fun v201=>(qC x154 v195 v199).bind fun x203=>(bW (x161+1)).bind fun v206=>mT K a1 x132 v144 k x203 v193 v206) else(some (x154,x160))
def kR (K:Nat) (a0:aZ) (a1:aZ):Nat→(List Int)→Int→Option (List Int)
 |0,_,_=>none
 |k+1,x126,x132=>bif(decide (x132<(a0.d.length:Int))) then((dC a0.d x132).bind fun v144=>(mT K a1 x132 v144 K x126 0 0).bind fun(x162,x168)=>rJ K a1 x132 (kR K a0 a1 k) x162 x168) else(some x126)
def dH (K:Nat) (a0:aZ) (a1:aZ):Option aZ:=
 bif((a0.d.length:Int)==1) then(bif((a1.d.length:Int)==1) then((dC a0.d 0).bind fun v10=>(dC a1.d 0).bind fun v12=>(fF (a0.neg != a1.neg) (wu ((IntKind.u64.wrap v10)*(IntKind.u64.wrap v12)))).bind fun v14=>some v14) else((bW ((a0.d.length:Int)+(a1.d.length:Int))).bind fun v16=>(vK v16 0).bind fun x18=>(gA K a0 a1 K x18 0).bind fun x37=>p8 K a0 a1 x37)) else((bW ((a0.d.length:Int)+(a1.d.length:Int))).bind fun v112=>(vK v112 0).bind fun x114=>(kR K a0 a1 K x114 0).bind fun x133=>tT K a0 a1 x133)
theorem gS {K:Nat} {a0:aZ} {a1:aZ} {r:aZ} (hF:dH K a0 a1=some r):Ct Tryz.prog 95 [.va (aZ.e a0),.va (aZ.e a1)] (.va (aZ.e r)):=by
 unfold dH at hF
 refine bD Tryz.func95 rfl (by kernel_rfl) Tryz.ntmps95 rfl (fun w0 M0=>?_)
 refine aE (aF (cY rfl rfl trivial (fun b1=>?_)))
 refine cY rfl rfl trivial (fun b2=>?_)
 refine bP rfl tyZ42 (fun b3=>?_)
 refine aC (aA (aE (bT [0,1,0,4,3,31] 6 0 [.v (.vc (pP (some b1) 1)),.v (.vc (pS cI a0.d)),.v (.vc (pP (some b2) 1)),.v (.vc (pS cI a1.d)),.v (.vc (pS cI a0.d)),.v (.vc (pS cI a1.d))] aU ⟨d0 (bE (off:=0) (k:=1) rfl tyF42_1) zU1,d0 (bK 2 1 rfl rfl rfl rfl (.one tyO22)) zU1,d0 (bE (off:=0) (k:=1) rfl tyF42_1) zU1,d0 (bK 1 1 rfl rfl rfl rfl (.one tyO22)) zU1,d0 (aN (.inr rfl)) zU1,d0 (aN (.inr rfl)) zU1,trivial⟩ (fun bs5 G4=>?_))))
 refine aC (aA (aE (aE (aF (aI ?_)))))
 refine aB (bX rfl tyS22) zU1 ?_
 refine aB (gR rfl) ⟨rfl,bI _ _,trivial⟩ ?_
 refine aI ?_
 refine cP (fun h6=>?_) (fun h6=>?_)
 ·have hF:=aV h6 hF
  refine aY (aN (.inl rfl)) zU1 ?_
  refine aY (bX rfl tyS22) zU1 ?_
  refine aY (gR rfl) ⟨rfl,bI _ _,trivial⟩ ?_
  refine aB (bM rfl) zU2 ?_
  refine aC (aA (bS rfl (fun h7=>?_) (fun h7=>?_)))
  ·have hF:=aV h7 hF
   refine aE ?_
   obtain⟨v10,h11,hF⟩:=aP hF
   obtain⟨v12,h13,hF⟩:=aP hF
   obtain⟨v14,h15,hF⟩:=aP hF
   refine bT [0,1,0,4,15,0,32,96,224,0,512,1536,3584,8160,16383,32767] 15 1 [.v (.vc (pP (some b1) 0)),.v (.vc (pB a0.neg)),.v (.vc (pP (some b2) 0)),.v (.vc (pB a1.neg)),.v (.vc (pB (a0.neg != a1.neg))),.v (.vc (pS cI a0.d)),.v (.vc (pM (cI.e v10))),.v (.vc (pI .i64 v10)),.v (.vc (pI .u64 (IntKind.u64.wrap v10))),.v (.vc (pS cI a1.d)),.v (.vc (pM (cI.e v12))),.v (.vc (pI .i64 v12)),.v (.vc (pI .u64 (IntKind.u64.wrap v12))),.v (.vc (pI .u64 (wu ((IntKind.u64.wrap v10)*(IntKind.u64.wrap v12))))),.v (.va (aZ.e v14))] aU ⟨d0 (bE (off:=0) (k:=0) rfl tyF42_0) zU1,d0 (bK 2 1 rfl rfl rfl rfl (.one tyO4)) zU1,d0 (bE (off:=0) (k:=0) rfl tyF42_0) zU1,d0 (bK 1 1 rfl rfl rfl rfl (.one tyO4)) zU1,⟨rfl,.run (L:=[0]) ⟨fun G8 A=>y6 rfl Tryz.underlying4,trivial⟩ (fun G8=>zU2)⟩,d0 (aN (.inl rfl)) zU1,d0 (cO rfl tyS22 h11) ⟨rfl,bI _ _,trivial⟩,d0 (cK 1 rfl rfl (.one tyO3)) zU1,⟨rfl,.run (L:=[0]) ⟨fun G8 A=>aBU rfl ⟨_,Tryz.underlying3⟩ Tryz.underlying213,trivial⟩ (fun G8=>zU1)⟩,d0 (aN (.inl rfl)) zU1,d0 (cO rfl tyS22 h13) ⟨rfl,bI _ _,trivial⟩,d0 (cK 1 rfl rfl (.one tyO3)) zU1,⟨rfl,.run (L:=[0]) ⟨fun G8 A=>aBU rfl ⟨_,Tryz.underlying3⟩ Tryz.underlying213,trivial⟩ (fun G8=>zU1)⟩,d0 (aK8 rfl) zU2,d0 (aJ rfl (kD h15) rfl) zU2,trivial⟩ (fun bs9 G8=>?_)
   refine bG (dO 0 rfl rfl rfl tyA42.s) zU2 ?_
   refine aC (aA (a9 (a8 ?_)))
   obtain rfl:=bV hF
   exact aL (.inl rfl) Tryz.results95 (bQ 0 2 rfl rfl rfl rfl (.agg tyA42) .nil) rfl rfl
  have hF:=aX h7 hF
  refine bA (aA (aE (aF (aI ?_))))
  refine aB (bX rfl tyS22) zU1 ?_
  refine aI ?_
  refine aB (bX rfl tyS22) zU1 ?_
  obtain⟨v16,h17,hF⟩:=aP hF
  refine aB (bO rfl h17) zU2 ?_
  obtain⟨x18,h19,hF⟩:=aP hF
  refine r6 (C:=cI) rfl tyS22 rfl tyZ3 rfl h19 (fun b20=>?_)
  refine bH ?_
  refine aC (aA (aE (aE (aF (aI ?_)))))
  refine aB (bX rfl tyS22) zU1 ?_
  refine aB (aN (.inl rfl)) ⟨bI _ _,trivial⟩ ?_
  refine aC (aA (bR (cJ (fun H E=>∃(x37:List Int),p8 K a0 a1 x37=some r∧x37.length=x18.length∧H=[hO cI b20 x18.length 3 x18.length x37,⟨some b3,1,42,2,1,([pB false]++[pS cI ([]:List Int)])⟩,⟨some b2,1,42,2,1,(aZ.e a1)⟩,⟨some b1,1,42,2,1,(aZ.e a0)⟩]∧E=[(2,.vc (pP (some b1) 0)),(3,.vc (pP (some b2) 0)),(4,.vc (pP (some b3) 0)),(7,.vc (pO b20 x18.length x18.length))]) ?_ (fun Jj44=>?_))))
  ·rintro _ _ ⟨x37,hF,q41,rfl,rfl⟩
   unfold p8 at hF
   refine aA (aE (aF (aB (bE (off:=0) (k:=0) rfl tyF42_0) zU1 ?_)))
   refine aB (bK 3 1 rfl rfl rfl rfl (.one tyO4)) zU1 ?_
   refine aB (bE (off:=0) (k:=0) rfl tyF42_0) zU1 ?_
   refine aB (bK 2 1 rfl rfl rfl rfl (.one tyO4)) zU1 ?_
   refine aB (y6 rfl Tryz.underlying4) zU2 ?_
   refine aI ?_
   refine wI 0 [7,98] rfl q41 zU2 rfl ?_
   obtain⟨v45,h46,hF⟩:=aP hF
   refine aB (aJ rfl (iL h46) rfl) zU2 ?_
   refine bG (dO 0 rfl rfl rfl tyA42.s) zU2 ?_
   refine aC (aA (a9 (a8 ?_)))
   obtain rfl:=bV hF
   exact aL (.inl rfl) Tryz.results95 (bQ 0 2 rfl rfl rfl rfl (.agg tyA42) .nil) rfl rfl
  obtain⟨x37',hL,hRl43⟩:=aP hF
  refine gB (fun k a w=>∃(x30:List Int),∃(x36:Int),gA K a0 a1 k x30 x36=some x37'∧x30.length=x18.length∧hs _ [hO cI b20 x18.length 3 x18.length x30,⟨some b3,1,42,2,1,([pB false]++[pS cI ([]:List Int)])⟩,⟨some b2,1,42,2,1,(aZ.e a1)⟩,⟨some b1,1,42,2,1,(aZ.e a0)⟩] [(2,.vc (pP (some b1) 0)),(3,.vc (pP (some b2) 0)),(4,.vc (pP (some b3) 0)),(6,.vc (pS cI a1.d)),(7,.vc (pO b20 x18.length x18.length)),(47,.vc (pS cI a0.d)),(48,.vc (pI .i64 (a0.d.length:Int))),(49,.vc (pI .i64 x36))] a w) K (fun a w ⟨_,_,hF,_,_⟩=>by cases hF) (fun k a w ⟨x30,x36,hF,q34,hh⟩=>gE ?_ hh) (fun a w hh=>⟨x18,0,hL,rfl,bF [0,1,2,3] rfl (by decide) (by exact⟨rfl,rfl,rfl,rfl,rfl,rfl,rfl,rfl,trivial⟩) hh⟩)
  rw [gA.eq_2] at hF
  refine aE (aF (aB (dQ rfl) zU2 ?_))
  refine aC (aA (aE (bS rfl (fun h47=>?_) (fun h47=>?_))))
  ·have hF:=aV h47 hF
   refine bA (aA (aE (bR (aE (aF (aI ?_))))))
   obtain⟨v48,h49,hF⟩:=aP hF
   refine aB (cO rfl tyS22 h49) zU2 ?_
   refine aB (cK 1 rfl rfl (.one tyO3)) zU1 ?_
   refine bH ?_
   refine bH ?_
   refine aC (aA (aE (aF (aB (aN (.inr rfl)) ⟨bI _ _,trivial⟩ ?_))))
   refine aC (aA (aE (aE (aF (aI ?_)))))
   refine aB (bX rfl tyS22) zU1 ?_
   refine aB (aN (.inl rfl)) ⟨bI _ _,trivial⟩ ?_
   refine aC (aA (bR (cJ (fun H E=>∃(x66:List Int),∃(x72:Int),pZ K a1 x36 (gA K a0 a1 k) x66 x72=some x37'∧x66.length=x18.length∧H=[hO cI b20 x18.length 3 x18.length x66,⟨some b3,1,42,2,1,([pB false]++[pS cI ([]:List Int)])⟩,⟨some b2,1,42,2,1,(aZ.e a1)⟩,⟨some b1,1,42,2,1,(aZ.e a0)⟩]∧E=[(2,.vc (pP (some b1) 0)),(3,.vc (pP (some b2) 0)),(4,.vc (pP (some b3) 0)),(6,.vc (pS cI a1.d)),(7,.vc (pO b20 x18.length x18.length)),(8,.vc (pI .i64 x36)),(10,.vc (pI .i64 x72)),(47,.vc (pS cI a0.d)),(48,.vc (pI .i64 (a0.d.length:Int))),(49,.vc (pI .i64 x36))]) ?_ (fun Jj74=>?_))))
   ·rintro _ _ ⟨x66,x72,hF,q70,rfl,rfl⟩
    unfold pZ at hF
    refine aA (aF (aI ?_))
    refine aI ?_
    refine aI ?_
    refine aB (bX rfl tyS22) zU1 ?_
    obtain⟨v75,h76,hF⟩:=aP hF
    refine aB (bO rfl h76) zU2 ?_
    refine aI ?_
    obtain⟨v77,h78,hF⟩:=aP hF
    refine aB (cS (C:=cI) 0 rfl tyS22 rfl q70 (aS h78).1 (aS h78).2.1) zU2 ?_
    obtain⟨x79,h80,hF⟩:=aP hF
    refine bG (fW 0 rfl rfl h78 h80 tyO3.s) zU2 ?_
    refine aC (bJ (aA (aF ?_)))
    obtain⟨v82,h83,hF⟩:=aP hF
    refine aB (bO rfl h83) ⟨rfl,bI _ _,trivial⟩ ?_
    refine aI ?_
    refine aC ?_
    exact bL (fun a w hh=>⟨x79,v82,hF,(cE h80 q70),bF [0,1,2,3] rfl (by decide) (by exact⟨rfl,rfl,rfl,rfl,rfl,rfl,rfl,rfl,trivial⟩) hh⟩)
   obtain⟨⟨x66',x72'⟩,hL,hRl73⟩:=aP hF
   refine gB (fun k a w=>∃(x58:List Int),∃(x64:Int),∃(x65:Int),gV K a1 x36 v48 k x58 x64 x65=some (x66',x72')∧x58.length=x18.length∧hs _ [hO cI b20 x18.length 3 x18.length x58,⟨some b3,1,42,2,1,([pB false]++[pS cI ([]:List Int)])⟩,⟨some b2,1,42,2,1,(aZ.e a1)⟩,⟨some b1,1,42,2,1,(aZ.e a0)⟩] [(2,.vc (pP (some b1) 0)),(3,.vc (pP (some b2) 0)),(4,.vc (pP (some b3) 0)),(6,.vc (pS cI a1.d)),(7,.vc (pO b20 x18.length x18.length)),(8,.vc (pI .i64 x36)),(9,.vc (pI .i64 v48)),(10,.vc (pI .i64 x64)),(47,.vc (pS cI a0.d)),(48,.vc (pI .i64 (a0.d.length:Int))),(49,.vc (pI .i64 x36)),(54,.vc (pS cI a1.d)),(55,.vc (pI .i64 (a1.d.length:Int))),(56,.vc (pI .i64 x65))] a w) K (fun a w ⟨_,_,_,hF,_,_⟩=>by cases hF) (fun k a w ⟨x58,x64,x65,hF,q62,hh⟩=>gE ?_ hh) (fun a w hh=>⟨x30,0,0,hL,q34,bF [0,1,2,3] rfl (by decide) (by exact⟨rfl,rfl,rfl,rfl,rfl,rfl,rfl,rfl,rfl,rfl,rfl,rfl,rfl,rfl,trivial⟩) hh⟩)
   rw [gV.eq_2] at hF
   refine aE (aF (aB (dQ rfl) zU2 ?_))
   refine aC (aA (aE (bS rfl (fun h84=>?_) (fun h84=>?_))))
   ·have hF:=aV h84 hF
    refine bA (aA (aE (bR (aE (aF (aI ?_))))))
    obtain⟨v85,h86,hF⟩:=aP hF
    refine aB (cO rfl tyS22 h86) zU2 ?_
    refine aB (cK 1 rfl rfl (.one tyO3)) zU1 ?_
    refine bH ?_
    refine bH ?_
    refine aC (aA (aE (aF (aI ?_))))
    refine aI ?_
    refine aI ?_
    obtain⟨v87,h88,hF⟩:=aP hF
    refine aB (bO rfl h88) zU2 ?_
    obtain⟨v89,h90,hF⟩:=aP hF
    refine aB (cS (C:=cI) 0 rfl tyS22 rfl q62 (aS h90).1 (aS h90).2.1) zU2 ?_
    refine aB (g9 (k:=1) 0 rfl rfl h90 rfl (.one tyO3) rfl) zU1 ?_
    refine aI ?_
    refine aI ?_
    obtain⟨v91,h92,hF⟩:=aP hF
    refine aB (pL rfl h92) zU2 ?_
    obtain⟨v93,h94,hF⟩:=aP hF
    refine aB (bO rfl h94) zU2 ?_
    refine aI ?_
    obtain⟨v95,h96,hF⟩:=aP hF
    refine aB (bO rfl h96) zU2 ?_
    refine bH ?_
    refine aC (aA (aE (aF (aI ?_))))
    obtain⟨v97,h98,hF⟩:=aP hF
    refine aB (sF rfl h98) ⟨rfl,bI _ _,trivial⟩ ?_
    refine bH ?_
    refine aC (aA (aF (aI ?_)))
    refine aI ?_
    refine aI ?_
    obtain⟨v99,h100,hF⟩:=aP hF
    refine aB (bO rfl h100) zU2 ?_
    refine aI ?_
    refine aI ?_
    obtain⟨v101,h102,hF⟩:=aP hF
    refine aB (pL rfl h102) ⟨rfl,bI _ _,trivial⟩ ?_
    obtain⟨v103,h104,hF⟩:=aP hF
    refine aB (eM rfl h104) zU2 ?_
    obtain⟨v105,h106,hF⟩:=aP hF
    refine aB (cS (C:=cI) 0 rfl tyS22 rfl q62 (aS h106).1 (aS h106).2.1) zU2 ?_
    obtain⟨x107,h108,hF⟩:=aP hF
    refine bG (fW 0 rfl rfl h106 h108 tyO3.s) zU2 ?_
    refine aC (bJ (aA (aF ?_)))
    obtain⟨v110,h111,hF⟩:=aP hF
    refine aB (bO rfl h111) ⟨rfl,bI _ _,trivial⟩ ?_
    refine aI ?_
    refine aC ?_
    exact bL (fun a w hh=>⟨x107,v97,v110,hF,(cE h108 q62),bF [0,1,2,3] rfl (by decide) (by exact⟨rfl,rfl,rfl,rfl,rfl,rfl,rfl,rfl,rfl,rfl,rfl,rfl,rfl,rfl,trivial⟩) hh⟩)
   have hF:=aX h84 hF
   refine dI ?_
   obtain⟨rfl,rfl⟩:=sm2 hF
   exact bU Jj74 ⟨x58,x64,hRl73,q62,rfl,rfl⟩ [0,1,2,3] rfl ⟨rfl,rfl,rfl,rfl,rfl,rfl,rfl,rfl,rfl,rfl,trivial⟩
  have hF:=aX h47 hF
  refine dI ?_
  obtain rfl:=bV hF
  exact bU Jj44 ⟨x30,hRl43,q34,rfl,rfl⟩ [0,1,2,3] rfl ⟨rfl,rfl,rfl,rfl,trivial⟩
 have hF:=aX h6 hF
 refine aM ?_
 refine aM ?_
 refine aM ?_
 refine aB (bN rfl) ⟨rfl,cW _,trivial⟩ ?_
 refine aC (aA (sT rfl ?_))
 refine bA (aA (aE (aF (aI ?_))))
 refine aB (bX rfl tyS22) zU1 ?_
 refine aI ?_
 refine aB (bX rfl tyS22) zU1 ?_
 obtain⟨v112,h113,hF⟩:=aP hF
 refine aB (bO rfl h113) zU2 ?_
 obtain⟨x114,h115,hF⟩:=aP hF
 refine r6 (C:=cI) rfl tyS22 rfl tyZ3 rfl h115 (fun b116=>?_)
 refine bH ?_
 refine aC (aA (aE (aE (aF (aI ?_)))))
 refine aB (bX rfl tyS22) zU1 ?_
 refine aB (aN (.inl rfl)) ⟨bI _ _,trivial⟩ ?_
 refine aC (aA (bR (cJ (fun H E=>∃(x133:List Int),tT K a0 a1 x133=some r∧x133.length=x114.length∧H=[hO cI b116 x114.length 3 x114.length x133,⟨some b3,1,42,2,1,([pB false]++[pS cI ([]:List Int)])⟩,⟨some b2,1,42,2,1,(aZ.e a1)⟩,⟨some b1,1,42,2,1,(aZ.e a0)⟩]∧E=[(2,.vc (pP (some b1) 0)),(3,.vc (pP (some b2) 0)),(4,.vc (pP (some b3) 0)),(7,.vc (pO b116 x114.length x114.length))]) ?_ (fun Jj140=>?_))))
 ·rintro _ _ ⟨x133,hF,q137,rfl,rfl⟩
  unfold tT at hF
  refine aA (aE (aF (aB (bE (off:=0) (k:=0) rfl tyF42_0) zU1 ?_)))
  refine aB (bK 3 1 rfl rfl rfl rfl (.one tyO4)) zU1 ?_
  refine aB (bE (off:=0) (k:=0) rfl tyF42_0) zU1 ?_
  refine aB (bK 2 1 rfl rfl rfl rfl (.one tyO4)) zU1 ?_
  refine aB (y6 rfl Tryz.underlying4) zU2 ?_
  refine aI ?_
  refine wI 0 [7,98] rfl q137 zU2 rfl ?_
  obtain⟨v141,h142,hF⟩:=aP hF
  refine aB (aJ rfl (iL h142) rfl) zU2 ?_
  refine bG (dO 0 rfl rfl rfl tyA42.s) zU2 ?_
  refine aC (aA (a9 (a8 ?_)))
  obtain rfl:=bV hF
  exact aL (.inl rfl) Tryz.results95 (bQ 0 2 rfl rfl rfl rfl (.agg tyA42) .nil) rfl rfl
 obtain⟨x133',hL,hRl139⟩:=aP hF
 refine gB (fun k a w=>∃(x126:List Int),∃(x132:Int),kR K a0 a1 k x126 x132=some x133'∧x126.length=x114.length∧hs _ [hO cI b116 x114.length 3 x114.length x126,⟨some b3,1,42,2,1,([pB false]++[pS cI ([]:List Int)])⟩,⟨some b2,1,42,2,1,(aZ.e a1)⟩,⟨some b1,1,42,2,1,(aZ.e a0)⟩] [(2,.vc (pP (some b1) 0)),(3,.vc (pP (some b2) 0)),(4,.vc (pP (some b3) 0)),(6,.vc (pS cI a1.d)),(7,.vc (pO b116 x114.length x114.length)),(47,.vc (pS cI a0.d)),(48,.vc (pI .i64 (a0.d.length:Int))),(49,.vc (pI .i64 x132))] a w) K (fun a w ⟨_,_,hF,_,_⟩=>by cases hF) (fun k a w ⟨x126,x132,hF,q130,hh⟩=>gE ?_ hh) (fun a w hh=>⟨x114,0,hL,rfl,bF [0,1,2,3] rfl (by decide) (by exact⟨rfl,rfl,rfl,rfl,rfl,rfl,rfl,rfl,trivial⟩) hh⟩)
 rw [kR.eq_2] at hF
 refine aE (aF (aB (dQ rfl) zU2 ?_))
 refine aC (aA (aE (bS rfl (fun h143=>?_) (fun h143=>?_))))
 ·have hF:=aV h143 hF
  refine bA (aA (aE (bR (aE (aF (aI ?_))))))
  obtain⟨v144,h145,hF⟩:=aP hF
  refine aB (cO rfl tyS22 h145) zU2 ?_
  refine aB (cK 1 rfl rfl (.one tyO3)) zU1 ?_
  refine bH ?_
  refine bH ?_
  refine aC (aA (aE (aF (aB (aN (.inr rfl)) ⟨bI _ _,trivial⟩ ?_))))
  refine aC (aA (aE (aE (aF (aI ?_)))))
  refine aB (bX rfl tyS22) zU1 ?_
  refine aB (aN (.inl rfl)) ⟨bI _ _,trivial⟩ ?_
  refine aC (aA (bR (cJ (fun H E=>∃(x162:List Int),∃(x168:Int),rJ K a1 x132 (kR K a0 a1 k) x162 x168=some x133'∧x162.length=x114.length∧H=[hO cI b116 x114.length 3 x114.length x162,⟨some b3,1,42,2,1,([pB false]++[pS cI ([]:List Int)])⟩,⟨some b2,1,42,2,1,(aZ.e a1)⟩,⟨some b1,1,42,2,1,(aZ.e a0)⟩]∧E=[(2,.vc (pP (some b1) 0)),(3,.vc (pP (some b2) 0)),(4,.vc (pP (some b3) 0)),(6,.vc (pS cI a1.d)),(7,.vc (pO b116 x114.length x114.length)),(8,.vc (pI .i64 x132)),(10,.vc (pI .i64 x168)),(47,.vc (pS cI a0.d)),(48,.vc (pI .i64 (a0.d.length:Int))),(49,.vc (pI .i64 x132))]) ?_ (fun Jj170=>?_))))
  ·rintro _ _ ⟨x162,x168,hF,q166,rfl,rfl⟩
   unfold rJ at hF
   refine aA (aF (aI ?_))
   refine aI ?_
   refine aI ?_
   refine aB (bX rfl tyS22) zU1 ?_
   obtain⟨v171,h172,hF⟩:=aP hF
   refine aB (bO rfl h172) zU2 ?_
   refine aI ?_
   obtain⟨v173,h174,hF⟩:=aP hF
   refine aB (cS (C:=cI) 0 rfl tyS22 rfl q166 (aS h174).1 (aS h174).2.1) zU2 ?_
   obtain⟨x175,h176,hF⟩:=aP hF
   refine bG (fW 0 rfl rfl h174 h176 tyO3.s) zU2 ?_
   refine aC (bJ (aA (aF ?_)))
   obtain⟨v178,h179,hF⟩:=aP hF
   refine aB (bO rfl h179) ⟨rfl,bI _ _,trivial⟩ ?_
   refine aI ?_
   refine aC ?_
   exact bL (fun a w hh=>⟨x175,v178,hF,(cE h176 q166),bF [0,1,2,3] rfl (by decide) (by exact⟨rfl,rfl,rfl,rfl,rfl,rfl,rfl,rfl,trivial⟩) hh⟩)
  obtain⟨⟨x162',x168'⟩,hL,hRl169⟩:=aP hF
  refine gB (fun k a w=>∃(x154:List Int),∃(x160:Int),∃(x161:Int),mT K a1 x132 v144 k x154 x160 x161=some (x162',x168')∧x154.length=x114.length∧hs _ [hO cI b116 x114.length 3 x114.length x154,⟨some b3,1,42,2,1,([pB false]++[pS cI ([]:List Int)])⟩,⟨some b2,1,42,2,1,(aZ.e a1)⟩,⟨some b1,1,42,2,1,(aZ.e a0)⟩] [(2,.vc (pP (some b1) 0)),(3,.vc (pP (some b2) 0)),(4,.vc (pP (some b3) 0)),(6,.vc (pS cI a1.d)),(7,.vc (pO b116 x114.length x114.length)),(8,.vc (pI .i64 x132)),(9,.vc (pI .i64 v144)),(10,.vc (pI .i64 x160)),(47,.vc (pS cI a0.d)),(48,.vc (pI .i64 (a0.d.length:Int))),(49,.vc (pI .i64 x132)),(54,.vc (pS cI a1.d)),(55,.vc (pI .i64 (a1.d.length:Int))),(56,.vc (pI .i64 x161))] a w) K (fun a w ⟨_,_,_,hF,_,_⟩=>by cases hF) (fun k a w ⟨x154,x160,x161,hF,q158,hh⟩=>gE ?_ hh) (fun a w hh=>⟨x126,0,0,hL,q130,bF [0,1,2,3] rfl (by decide) (by exact⟨rfl,rfl,rfl,rfl,rfl,rfl,rfl,rfl,rfl,rfl,rfl,rfl,rfl,rfl,trivial⟩) hh⟩)
  rw [mT.eq_2] at hF
  refine aE (aF (aB (dQ rfl) zU2 ?_))
  refine aC (aA (aE (bS rfl (fun h180=>?_) (fun h180=>?_))))
  ·have hF:=aV h180 hF
   refine bA (aA (aE (bR (aE (aF (aI ?_))))))
   obtain⟨v181,h182,hF⟩:=aP hF
   refine aB (cO rfl tyS22 h182) zU2 ?_
   refine aB (cK 1 rfl rfl (.one tyO3)) zU1 ?_
   refine bH ?_
   refine bH ?_
   refine aC (aA (aE (aF (aI ?_))))
   refine aI ?_
   refine aI ?_
   obtain⟨v183,h184,hF⟩:=aP hF
   refine aB (bO rfl h184) zU2 ?_
   obtain⟨v185,h186,hF⟩:=aP hF
   refine aB (cS (C:=cI) 0 rfl tyS22 rfl q158 (aS h186).1 (aS h186).2.1) zU2 ?_
   refine aB (g9 (k:=1) 0 rfl rfl h186 rfl (.one tyO3) rfl) zU1 ?_
   refine aI ?_
   refine aI ?_
   obtain⟨v187,h188,hF⟩:=aP hF
   refine aB (pL rfl h188) zU2 ?_
   obtain⟨v189,h190,hF⟩:=aP hF
   refine aB (bO rfl h190) zU2 ?_
   refine aI ?_
   obtain⟨v191,h192,hF⟩:=aP hF
   refine aB (bO rfl h192) zU2 ?_
   refine bH ?_
   refine aC (aA (aE (aF (aI ?_))))
   obtain⟨v193,h194,hF⟩:=aP hF
   refine aB (sF rfl h194) ⟨rfl,bI _ _,trivial⟩ ?_
   refine bH ?_
   refine aC (aA (aF (aI ?_)))
   refine aI ?_
   refine aI ?_
   obtain⟨v195,h196,hF⟩:=aP hF
   refine aB (bO rfl h196) zU2 ?_
   refine aI ?_
   refine aI ?_
   obtain⟨v197,h198,hF⟩:=aP hF
   refine aB (pL rfl h198) ⟨rfl,bI _ _,trivial⟩ ?_
   obtain⟨v199,h200,hF⟩:=aP hF
   refine aB (eM rfl h200) zU2 ?_
   obtain⟨v201,h202,hF⟩:=aP hF
   refine aB (cS (C:=cI) 0 rfl tyS22 rfl q158 (aS h202).1 (aS h202).2.1) zU2 ?_
   obtain⟨x203,h204,hF⟩:=aP hF
   refine bG (fW 0 rfl rfl h202 h204 tyO3.s) zU2 ?_
   refine aC (bJ (aA (aF ?_)))
   obtain⟨v206,h207,hF⟩:=aP hF
   refine aB (bO rfl h207) ⟨rfl,bI _ _,trivial⟩ ?_
   refine aI ?_
   refine aC ?_
   exact bL (fun a w hh=>⟨x203,v193,v206,hF,(cE h204 q158),bF [0,1,2,3] rfl (by decide) (by exact⟨rfl,rfl,rfl,rfl,rfl,rfl,rfl,rfl,rfl,rfl,rfl,rfl,rfl,rfl,trivial⟩) hh⟩)
  have hF:=aX h180 hF
  refine dI ?_
  obtain⟨rfl,rfl⟩:=sm2 hF
  exact bU Jj170 ⟨x154,x160,hRl169,q158,rfl,rfl⟩ [0,1,2,3] rfl ⟨rfl,rfl,rfl,rfl,rfl,rfl,rfl,rfl,rfl,rfl,trivial⟩
 have hF:=aX h143 hF
 refine dI ?_
 obtain rfl:=bV hF
 exact bU Jj140 ⟨x126,hRl139,q130,rfl,rfl⟩ [0,1,2,3] rfl ⟨rfl,rfl,rfl,rfl,trivial⟩
def rG (K:Nat) (x2:List Int) (x28:List Int) (x34:Int):Option (List Int):=
 (dC x28 (x2.length:Int)).bind fun v37=>(qC x28 (x2.length:Int) x34).bind fun x39=>some x39
def eG (K:Nat) (x2:List Int) (x3:List Int):Nat→(List Int)→Int→Int→Option ((List Int)×Int)
 |0,_,_,_=>none
 |k+1,x20,x26,x27=>bif(decide (x27<(x2.length:Int))) then((dC x2 x27).bind fun v43=>(bW (v43+x26)).bind fun v45=>bif(decide (x27<(x3.length:Int))) then((dC x3 x27).bind fun v48=>(bW (v45+v48)).bind fun v50=>bif(decide (1000000000≤v50)) then((bW (v50-1000000000)).bind fun v53=>(dC x20 x27).bind fun v55=>(qC x20 x27 v53).bind fun x57=>(bW (x27+1)).bind fun v60=>eG K x2 x3 k x57 1 v60) else((dC x20 x27).bind fun v62=>(qC x20 x27 v50).bind fun x64=>(bW (x27+1)).bind fun v67=>eG K x2 x3 k x64 0 v67)) else(bif(decide (1000000000≤v45)) then((bW (v45-1000000000)).bind fun v70=>(dC x20 x27).bind fun v72=>(qC x20 x27 v70).bind fun x74=>(bW (x27+1)).bind fun v77=>eG K x2 x3 k x74 1 v77) else((dC x20 x27).bind fun v79=>(qC x20 x27 v45).bind fun x81=>(bW (x27+1)).bind fun v84=>eG K x2 x3 k x81 0 v84))) else(some (x20,x26))
def nO (K:Nat) (x2:List Int) (x3:List Int):Option (List Int):=
 (bW ((x2.length:Int)+1)).bind fun v5=>(vK v5 0).bind fun x7=>(eG K x2 x3 K x7 0 0).bind fun(x28,x34)=>rG K x2 x28 x34
def oS (K:Nat) (a0:List Int) (a1:List Int):Option (List Int):=
 bif(decide ((a0.length:Int)<(a1.length:Int))) then(nO K a1 a0) else(nO K a0 a1)
theorem y7 {K:Nat} {a0:List Int} {a1:List Int} {r:List Int} (hF:oS K a0 a1=some r):Ct Tryz.prog 187 [.vc (pS cI a0),.vc (pS cI a1)] (.vc (pS cI r)):=by
 unfold oS at hF
 refine bD Tryz.func187 rfl (by kernel_rfl) Tryz.ntmps187 rfl (fun w0 M0=>?_)
 refine aE (aF (aB (aN (.inr rfl)) ⟨dX cI,trivial⟩ ?_))
 refine aC (aA (aE (uH (fun H E=>∃(x2:List Int),∃(x3:List Int),nO K x2 x3=some r∧H=[]∧E=[(0,.vc (pS cI x2)),(1,.vc (pS cI x3))]) ?_ (fun Jj4=>?_))))
 ·rintro _ _ ⟨x2,x3,hF,rfl,rfl⟩
  unfold nO at hF
  refine aE (aF (aI ?_))
  refine aB (bX rfl tyS22) zU1 ?_
  obtain⟨v5,h6,hF⟩:=aP hF
  refine aB (bO rfl h6) ⟨rfl,bI _ _,trivial⟩ ?_
  obtain⟨x7,h8,hF⟩:=aP hF
  refine r6 (C:=cI) rfl tyS22 rfl tyZ3 rfl h8 (fun b9=>?_)
  refine bH ?_
  refine aC (aA (aE (aF (aB (aN (.inr rfl)) ⟨bI _ _,trivial⟩ ?_))))
  refine aC (aA (aE (aE (aF (aI ?_)))))
  refine aB (bX rfl tyS22) zU1 ?_
  refine aB (aN (.inl rfl)) ⟨bI _ _,trivial⟩ ?_
  refine aC (aA (bR (cJ (fun H E=>∃(x28:List Int),∃(x34:Int),rG K x2 x28 x34=some r∧x28.length=x7.length∧H=[hO cI b9 x7.length 3 x7.length x28]∧E=[(0,.vc (pS cI x2)),(5,.vc (pO b9 x7.length x7.length)),(6,.vc (pI .i64 x34))]) ?_ (fun Jj36=>?_))))
  ·rintro _ _ ⟨x28,x34,hF,q32,rfl,rfl⟩
   unfold rG at hF
   refine aA (aE (aF (aI ?_)))
   refine aI ?_
   refine aB (bX rfl tyS22) zU1 ?_
   refine aI ?_
   obtain⟨v37,h38,hF⟩:=aP hF
   refine aB (cS (C:=cI) 0 rfl tyS22 rfl q32 (aS h38).1 (aS h38).2.1) zU2 ?_
   obtain⟨x39,h40,hF⟩:=aP hF
   refine bG (fW 0 rfl rfl h38 h40 tyO3.s) zU2 ?_
   refine aC (aA (aE (aF (aI ?_))))
   refine bH ?_
   refine aC (aA (a9 (a8 (uB 0 [4,5,50,55] rfl (cE h40 q32) ⟨rfl,rfl,rfl,rfl,trivial⟩ rfl ?_))))
   obtain rfl:=bV hF
   exact aL (.inl rfl) Tryz.results187 (.tmp rfl .nil) rfl rfl
  obtain⟨⟨x28',x34'⟩,hL,hRl35⟩:=aP hF
  refine gB (fun k a w=>∃(x20:List Int),∃(x26:Int),∃(x27:Int),eG K x2 x3 k x20 x26 x27=some (x28',x34')∧x20.length=x7.length∧hs _ [hO cI b9 x7.length 3 x7.length x20] [(0,.vc (pS cI x2)),(1,.vc (pS cI x3)),(5,.vc (pO b9 x7.length x7.length)),(6,.vc (pI .i64 x26)),(21,.vc (pS cI x2)),(22,.vc (pI .i64 (x2.length:Int))),(23,.vc (pI .i64 x27))] a w) K (fun a w ⟨_,_,_,hF,_,_⟩=>by cases hF) (fun k a w ⟨x20,x26,x27,hF,q24,hh⟩=>gE ?_ hh) (fun a w hh=>⟨x7,0,0,hL,rfl,bF [0] rfl (by decide) (by exact⟨rfl,rfl,rfl,rfl,rfl,rfl,rfl,trivial⟩) hh⟩)
  rw [eG.eq_2] at hF
  refine aE (aF (aB (dQ rfl) zU2 ?_))
  refine aC (aA (aE (bS rfl (fun h42=>?_) (fun h42=>?_))))
  ·have hF:=aV h42 hF
   refine bA (aA (aE (bR (aE (aF (aI ?_))))))
   obtain⟨v43,h44,hF⟩:=aP hF
   refine aB (cO rfl tyS22 h44) zU2 ?_
   refine aB (cK 1 rfl rfl (.one tyO3)) zU1 ?_
   refine bH ?_
   refine bH ?_
   refine aC (aA (aE (aF (aI ?_))))
   refine aI ?_
   obtain⟨v45,h46,hF⟩:=aP hF
   refine aB (bO rfl h46) zU2 ?_
   refine bH ?_
   refine aC (aA (aE (aE (aF (aI ?_)))))
   refine aI ?_
   refine aB (bX rfl tyS22) zU1 ?_
   refine aB (dQ rfl) zU2 ?_
   refine aC (aA (bS rfl (fun h47=>?_) (fun h47=>?_)))
   ·have hF:=aV h47 hF
    refine aF (aI ?_)
    refine aI ?_
    refine aI ?_
    obtain⟨v48,h49,hF⟩:=aP hF
    refine aB (cO rfl tyS22 h49) zU2 ?_
    refine aB (cK 1 rfl rfl (.one tyO3)) zU1 ?_
    obtain⟨v50,h51,hF⟩:=aP hF
    refine aB (bO rfl h51) zU2 ?_
    refine bH ?_
    refine aC (aA (aE (aF (aB (aN (.inr rfl)) ⟨bI _ _,trivial⟩ ?_))))
    refine aC (aA (aE (aE (aF (aI ?_)))))
    refine aB (uP rfl) ⟨rfl,bI _ _,trivial⟩ ?_
    refine aC (aA (bS rfl (fun h52=>?_) (fun h52=>?_)))
    ·have hF:=aV h52 hF
     refine aF (aI ?_)
     obtain⟨v53,h54,hF⟩:=aP hF
     refine aB (eM rfl h54) ⟨rfl,bI _ _,trivial⟩ ?_
     refine bH ?_
     refine aB (aN (.inr rfl)) ⟨bI _ _,trivial⟩ ?_
     refine aC (aA (aF (aI ?_)))
     refine aI ?_
     refine aI ?_
     obtain⟨v55,h56,hF⟩:=aP hF
     refine aB (cS (C:=cI) 0 rfl tyS22 rfl q24 (aS h56).1 (aS h56).2.1) zU2 ?_
     obtain⟨x57,h58,hF⟩:=aP hF
     refine bG (fW 0 rfl rfl h56 h58 tyO3.s) zU2 ?_
     refine aC (bJ (aA (aF ?_)))
     obtain⟨v60,h61,hF⟩:=aP hF
     refine aB (bO rfl h61) ⟨rfl,bI _ _,trivial⟩ ?_
     refine aI ?_
     refine aC ?_
     exact bL (fun a w hh=>⟨x57,1,v60,hF,(cE h58 q24),bF [0] rfl (by decide) (by exact⟨rfl,rfl,rfl,rfl,rfl,rfl,rfl,trivial⟩) hh⟩)
    have hF:=aX h52 hF
    refine bA (aA (aF (aI ?_)))
    refine aI ?_
    refine aI ?_
    obtain⟨v62,h63,hF⟩:=aP hF
    refine aB (cS (C:=cI) 0 rfl tyS22 rfl q24 (aS h63).1 (aS h63).2.1) zU2 ?_
    obtain⟨x64,h65,hF⟩:=aP hF
    refine bG (fW 0 rfl rfl h63 h65 tyO3.s) zU2 ?_
    refine aC (bJ (aA (aF ?_)))
    obtain⟨v67,h68,hF⟩:=aP hF
    refine aB (bO rfl h68) ⟨rfl,bI _ _,trivial⟩ ?_
    refine aI ?_
    refine aC ?_
    exact bL (fun a w hh=>⟨x64,0,v67,hF,(cE h65 q24),bF [0] rfl (by decide) (by exact⟨rfl,rfl,rfl,rfl,rfl,rfl,rfl,trivial⟩) hh⟩)
   have hF:=aX h47 hF
   refine bA (aA (aE (aF (aB (aN (.inr rfl)) ⟨bI _ _,trivial⟩ ?_))))
   refine aC (aA (aE (aE (aF (aI ?_)))))
   refine aB (uP rfl) ⟨rfl,bI _ _,trivial⟩ ?_
   refine aC (aA (bS rfl (fun h69=>?_) (fun h69=>?_)))
   ·have hF:=aV h69 hF
    refine aF (aI ?_)
    obtain⟨v70,h71,hF⟩:=aP hF
    refine aB (eM rfl h71) ⟨rfl,bI _ _,trivial⟩ ?_
    refine bH ?_
    refine aB (aN (.inr rfl)) ⟨bI _ _,trivial⟩ ?_
    refine aC (aA (aF (aI ?_)))
    refine aI ?_
    refine aI ?_
    obtain⟨v72,h73,hF⟩:=aP hF
    refine aB (cS (C:=cI) 0 rfl tyS22 rfl q24 (aS h73).1 (aS h73).2.1) zU2 ?_
    obtain⟨x74,h75,hF⟩:=aP hF
    refine bG (fW 0 rfl rfl h73 h75 tyO3.s) zU2 ?_
    refine aC (bJ (aA (aF ?_)))
    obtain⟨v77,h78,hF⟩:=aP hF
    refine aB (bO rfl h78) ⟨rfl,bI _ _,trivial⟩ ?_
    refine aI ?_
    refine aC ?_
    exact bL (fun a w hh=>⟨x74,1,v77,hF,(cE h75 q24),bF [0] rfl (by decide) (by exact⟨rfl,rfl,rfl,rfl,rfl,rfl,rfl,trivial⟩) hh⟩)
   have hF:=aX h69 hF
   refine bA (aA (aF (aI ?_)))
   refine aI ?_
   refine aI ?_
   obtain⟨v79,h80,hF⟩:=aP hF
   refine aB (cS (C:=cI) 0 rfl tyS22 rfl q24 (aS h80).1 (aS h80).2.1) zU2 ?_
   obtain⟨x81,h82,hF⟩:=aP hF
   refine bG (fW 0 rfl rfl h80 h82 tyO3.s) zU2 ?_
   refine aC (bJ (aA (aF ?_)))
   obtain⟨v84,h85,hF⟩:=aP hF
   refine aB (bO rfl h85) ⟨rfl,bI _ _,trivial⟩ ?_
   refine aI ?_
   refine aC ?_
   exact bL (fun a w hh=>⟨x81,0,v84,hF,(cE h82 q24),bF [0] rfl (by decide) (by exact⟨rfl,rfl,rfl,rfl,rfl,rfl,rfl,trivial⟩) hh⟩)
  have hF:=aX h42 hF
  refine dI ?_
  obtain⟨rfl,rfl⟩:=sm2 hF
  exact bU Jj36 ⟨x20,x26,hRl35,q24,rfl,rfl⟩ [0] rfl ⟨rfl,rfl,rfl,trivial⟩
 refine aE (aF (aI ?_))
 refine aB (bX rfl tyS22) zU1 ?_
 refine aI ?_
 refine aB (bX rfl tyS22) zU1 ?_
 refine aB (dQ rfl) zU2 ?_
 refine aC (aA (bS rfl (fun h86=>?_) (fun h86=>?_)))
 ·have hF:=aV h86 hF
  refine aF (aI ?_)
  refine aI ?_
  refine bH ?_
  refine bH ?_
  refine aC ?_
  exact bU Jj4 ⟨a1,a0,hF,rfl,rfl⟩ [] rfl zU2
 have hF:=aX h86 hF
 refine bA ?_
 exact bU Jj4 ⟨a0,a1,hF,rfl,rfl⟩ [] rfl zU2
def mJ (a0:Int):Option Bool:=
 some (a0 != a0)
theorem uQ {a0:Int} {r:Bool} (hF:mJ a0=some r):Ct Tryz.prog 261 [.vc (pI .i64 a0)] (.vc (pB r)):=by
 unfold mJ at hF
 refine bD Tryz.func261 rfl (by kernel_rfl) Tryz.ntmps261 rfl (fun w0 M0=>?_)
 refine aE (aF (aB (aN (.inr rfl)) ⟨cW _,trivial⟩ ?_))
 refine aC (aA (aE (aF (aI ?_))))
 refine aI ?_
 refine aB (s7 rfl) zU2 ?_
 refine bH ?_
 refine aC (aA (a9 (a8 ?_)))
 obtain rfl:=bV hF
 exact aL (.inl rfl) Tryz.results261 (.tmp rfl .nil) rfl rfl
def hZ (a0:Int) (a1:Int):Option Int:=
 (mJ a0).bind fun v1=>(mJ a1).bind fun v3=>bif v1 then(bif v3 then(some 0) else(some (-1))) else(bif v3 then(some 1) else(bif(decide (a0<a1)) then(some (-1)) else(bif(decide (a1<a0)) then(some 1) else(some 0))))
theorem sO {a0:Int} {a1:Int} {r:Int} (hF:hZ a0 a1=some r):Ct Tryz.prog 233 [.vc (pI .i64 a0),.vc (pI .i64 a1)] (.vc (pI .i64 r)):=by
 unfold hZ at hF
 refine bD Tryz.func233 rfl (by kernel_rfl) Tryz.ntmps233 rfl (fun w0 M0=>?_)
 refine aE (aF (aB (aN (.inr rfl)) ⟨bI _ _,trivial⟩ ?_))
 refine aC (aA (aE (aF (aI ?_))))
 obtain⟨v1,h2,hF⟩:=aP hF
 refine aB (aJ rfl (uQ h2) rfl) zU1 ?_
 refine bH ?_
 refine aC (aA (aE (aF (aI ?_))))
 obtain⟨v3,h4,hF⟩:=aP hF
 refine aB (aJ rfl (uQ h4) rfl) zU1 ?_
 refine bH ?_
 refine aC (aA (aE (aE (aF (aI ?_)))))
 refine aC (aA (bS rfl (fun h5=>?_) (fun h5=>?_)))
 ·have hF:=aV h5 hF
  refine aE (aE (aF (aI ?_)))
  refine aC (aA (bS rfl (fun h6=>?_) (fun h6=>?_)))
  ·have hF:=aV h6 hF
   refine aE (aF (aB (aN (.inr rfl)) ⟨bI _ _,trivial⟩ ?_))
   refine aC (aA (a9 (a8 ?_)))
   obtain rfl:=bV hF
   exact aL (.inl rfl) Tryz.results233 (.tmp rfl .nil) rfl rfl
  have hF:=aX h6 hF
  refine bA (aA (aE (aF (aB (aN (.inr rfl)) ⟨bI _ _,trivial⟩ ?_))))
  refine aC (aA (a9 (a8 ?_)))
  obtain rfl:=bV hF
  exact aL (.inl rfl) Tryz.results233 (.tmp rfl .nil) rfl rfl
 have hF:=aX h5 hF
 refine bA (aA (aE (aE (aF (aI ?_)))))
 refine aC (aA (bS rfl (fun h7=>?_) (fun h7=>?_)))
 ·have hF:=aV h7 hF
  refine aE (aF (aB (aN (.inr rfl)) ⟨bI _ _,trivial⟩ ?_))
  refine aC (aA (a9 (a8 ?_)))
  obtain rfl:=bV hF
  exact aL (.inl rfl) Tryz.results233 (.tmp rfl .nil) rfl rfl
 have hF:=aX h7 hF
 refine bA (aA (aE (aE (aF (aI ?_)))))
 refine aI ?_
 refine aB (dQ rfl) zU2 ?_
 refine aC (aA (bS rfl (fun h8=>?_) (fun h8=>?_)))
 ·have hF:=aV h8 hF
  refine aE (aF (aB (aN (.inr rfl)) ⟨bI _ _,trivial⟩ ?_))
  refine aC (aA (a9 (a8 ?_)))
  obtain rfl:=bV hF
  exact aL (.inl rfl) Tryz.results233 (.tmp rfl .nil) rfl rfl
 have hF:=aX h8 hF
 refine bA (aA (aE (aE (aF (aI ?_)))))
 refine aI ?_
 refine aB (rV rfl) zU2 ?_
 refine aC (aA (bS rfl (fun h9=>?_) (fun h9=>?_)))
 ·have hF:=aV h9 hF
  refine aE (aF (aB (aN (.inr rfl)) ⟨bI _ _,trivial⟩ ?_))
  refine aC (aA (a9 (a8 ?_)))
  obtain rfl:=bV hF
  exact aL (.inl rfl) Tryz.results233 (.tmp rfl .nil) rfl rfl
 have hF:=aX h9 hF
 refine bA (aA (aE (aF (aB (aN (.inr rfl)) ⟨bI _ _,trivial⟩ ?_))))
 refine aC (aA (a9 (a8 ?_)))
 obtain rfl:=bV hF
 exact aL (.inl rfl) Tryz.results233 (.tmp rfl .nil) rfl rfl
def sP (K:Nat):Option Int:=
 some 0
def fZ (K:Nat) (a0:List Int) (a1:List Int):Nat→Int→Option (LR Int Unit)
 |0,_=>none
 |k+1,x7=>bif(decide (0≤x7)) then((dC a0 x7).bind fun v13=>(dC a1 x7).bind fun v15=>bif(v13 != v15) then((dC a0 x7).bind fun v20=>(dC a1 x7).bind fun v22=>(hZ v20 v22).bind fun v24=>some (.ret v24)) else((bW (x7-1)).bind fun v26=>fZ K a0 a1 k v26)) else(some (.go ()))
def f7 (K:Nat) (a0:List Int) (a1:List Int):Option Int:=
 bif((a0.length:Int) != (a1.length:Int)) then((hZ (a0.length:Int) (a1.length:Int)).bind fun v2=>some v2) else((bW ((a0.length:Int)-1)).bind fun v4=>(fZ K a0 a1 K v4).bind fun o=>match o with| .ret r=>some r| .go _=>sP K)
theorem mS {K:Nat} {a0:List Int} {a1:List Int} {r:Int} (hF:f7 K a0 a1=some r):Ct Tryz.prog 188 [.vc (pS cI a0),.vc (pS cI a1)] (.vc (pI .i64 r)):=by
 unfold f7 at hF
 refine bD Tryz.func188 rfl (by kernel_rfl) Tryz.ntmps188 rfl (fun w0 M0=>?_)
 refine aE (aF (aB (aN (.inr rfl)) ⟨bI _ _,trivial⟩ ?_))
 refine aC (aA (aE (aE (aF (aI ?_)))))
 refine aB (bX rfl tyS22) zU1 ?_
 refine aI ?_
 refine aB (bX rfl tyS22) zU1 ?_
 refine aB (s7 rfl) zU2 ?_
 refine aC (aA (bS rfl (fun h1=>?_) (fun h1=>?_)))
 ·have hF:=aV h1 hF
  refine aE (aF (aI ?_))
  refine aB (bX rfl tyS22) zU1 ?_
  refine aI ?_
  refine aB (bX rfl tyS22) zU1 ?_
  obtain⟨v2,h3,hF⟩:=aP hF
  refine aB (aJ rfl (sO h3) rfl) zU2 ?_
  refine bH ?_
  refine aC (aA (a9 (a8 ?_)))
  obtain rfl:=bV hF
  exact aL (.inl rfl) Tryz.results188 (.tmp rfl .nil) rfl rfl
 have hF:=aX h1 hF
 refine bA (aA (aE (aE (aF (aI ?_)))))
 refine aB (bX rfl tyS22) zU1 ?_
 obtain⟨v4,h5,hF⟩:=aP hF
 refine aB (eM rfl h5) ⟨rfl,bI _ _,trivial⟩ ?_
 refine bH ?_
 refine aC (aA (bR (cJ (fun H E=>sP K=some r∧H=[]∧E=[]) ?_ (fun Jj9=>?_))))
 ·rintro _ _ ⟨hF,rfl,rfl⟩
  unfold sP at hF
  refine aA (aE (aF (aB (aN (.inr rfl)) ⟨bI _ _,trivial⟩ ?_)))
  refine aC (aA (a9 (a8 ?_)))
  obtain rfl:=bV hF
  exact aL (.inl rfl) Tryz.results188 (.tmp rfl .nil) rfl rfl
 obtain⟨ol8,hL,hRl8⟩:=aP hF
 refine gB (fun k a w=>∃(x7:Int),fZ K a0 a1 k x7=some ol8∧hs _ [] [(0,.vc (pS cI a0)),(1,.vc (pS cI a1)),(5,.vc (pI .i64 x7))] a w) K (fun a w ⟨_,hF,_⟩=>by cases hF) (fun k a w ⟨x7,hF,hh⟩=>gE ?_ hh) (fun a w hh=>⟨v4,hL,bF [] rfl (by decide) (by exact⟨rfl,rfl,rfl,trivial⟩) hh⟩)
 rw [fZ.eq_2] at hF
 refine aE (aE (aF (aI ?_)))
 refine aB (uP rfl) ⟨rfl,bI _ _,trivial⟩ ?_
 refine aC (aA (bS rfl (fun h10=>?_) (fun h10=>?_)))
 ·have hF:=aV h10 hF
  refine bA (aA (aE (bR (aE ?_))))
  obtain⟨v13,h14,hF⟩:=aP hF
  obtain⟨v15,h16,hF⟩:=aP hF
  refine bT [0,0,3,7,0,0,48,112,255] 9 0 [.v (.vc (pS cI a0)),.v (.vc (pI .i64 x7)),.v (.vc (pM (cI.e v13))),.v (.vc (pI .i64 v13)),.v (.vc (pS cI a1)),.v (.vc (pI .i64 x7)),.v (.vc (pM (cI.e v15))),.v (.vc (pI .i64 v15)),.v (.vc (pB (v13 != v15)))] aU ⟨d0 (aN (.inl rfl)) zU1,d0 (aN (.inl rfl)) zU1,d0 (cO rfl tyS22 h14) zU2,d0 (cK 1 rfl rfl (.one tyO3)) zU1,d0 (aN (.inl rfl)) zU1,d0 (aN (.inl rfl)) zU1,d0 (cO rfl tyS22 h16) zU2,d0 (cK 1 rfl rfl (.one tyO3)) zU1,d0 (s7 rfl) zU2,trivial⟩ (fun bs12 G11=>?_)
  refine aC (aA (bS rfl (fun h17=>?_) (fun h17=>?_)))
  ·have hF:=aV h17 hF
   refine aE ?_
   obtain⟨v20,h21,hF⟩:=aP hF
   obtain⟨v22,h23,hF⟩:=aP hF
   obtain⟨v24,h25,hF⟩:=aP hF
   refine bT [0,0,3,7,0,0,48,112,255,511] 10 0 [.v (.vc (pS cI a0)),.v (.vc (pI .i64 x7)),.v (.vc (pM (cI.e v20))),.v (.vc (pI .i64 v20)),.v (.vc (pS cI a1)),.v (.vc (pI .i64 x7)),.v (.vc (pM (cI.e v22))),.v (.vc (pI .i64 v22)),.v (.vc (pI .i64 v24)),.v (.vc (pI .i64 v24))] aU ⟨d0 (aN (.inl rfl)) zU1,d0 (aN (.inl rfl)) zU1,d0 (cO rfl tyS22 h21) zU2,d0 (cK 1 rfl rfl (.one tyO3)) zU1,d0 (aN (.inl rfl)) zU1,d0 (aN (.inl rfl)) zU1,d0 (cO rfl tyS22 h23) zU2,d0 (cK 1 rfl rfl (.one tyO3)) zU1,d0 (aJ rfl (sO h25) rfl) zU2,d0 (aN (.inr rfl)) zU1,trivial⟩ (fun bs19 G18=>?_)
   refine aC (aA (a9 (a8 ?_)))
   obtain rfl:=bV hF
   obtain rfl:=bV hRl8
   exact aL (.inl rfl) Tryz.results188 (.tmp rfl .nil) rfl rfl
  have hF:=aX h17 hF
  refine bA (bJ (aA (aF (aI ?_))))
  obtain⟨v26,h27,hF⟩:=aP hF
  refine aB (eM rfl h27) ⟨rfl,bI _ _,trivial⟩ ?_
  refine bH ?_
  refine aC ?_
  exact bL (fun a w hh=>⟨v26,hF,bF [] rfl (by decide) (by exact⟨rfl,rfl,rfl,trivial⟩) hh⟩)
 have hF:=aX h10 hF
 refine dI ?_
 obtain rfl:=bV hF
 exact bU Jj9 ⟨hRl8,rfl,rfl⟩ [] rfl trivial
def qS (K:Nat) (x21:List Int):Option (List Int):=
 some x21
def kE (K:Nat) (x20:Int) (recl27:(List Int)→Int→Option (List Int)) (x31:List Int):Option (List Int):=
 (dC x31 x20).bind fun v38=>bif(decide (v38<0)) then((dC x31 x20).bind fun v41=>(bW (v41+1000000000)).bind fun v43=>(dC x31 x20).bind fun v45=>(qC x31 x20 v43).bind fun x47=>(bW (x20+1)).bind fun v50=>(dC x47 v50).bind fun v52=>(bW (v52-1)).bind fun v54=>(dC x47 v50).bind fun v56=>(qC x47 v50 v54).bind fun x58=>(bW (x20+1)).bind fun v61=>recl27 x58 v61) else((bW (x20+1)).bind fun v63=>recl27 x31 v63)
def eW (K:Nat) (a0:List Int) (a1:List Int) (x1:List Int):Nat→(List Int)→Int→Option (List Int)
 |0,_,_=>none
 |k+1,x14,x20=>bif(decide (x20<((cpL x1 a0).length:Int))) then(bif(decide (x20<(a1.length:Int))) then((dC x14 x20).bind fun v68=>(dC a1 x20).bind fun v70=>(bW (v68-v70)).bind fun v72=>(dC x14 x20).bind fun v74=>(qC x14 x20 v72).bind fun x76=>kE K x20 (eW K a0 a1 x1 k) x76) else(kE K x20 (eW K a0 a1 x1 k) x14)) else(some x14)
def l7 (K:Nat) (a0:List Int) (a1:List Int):Option (List Int):=
 (vK (a0.length:Int) 0).bind fun x1=>(eW K a0 a1 x1 K (cpL x1 a0) 0).bind fun x21=>qS K x21
theorem u5 {K:Nat} {a0:List Int} {a1:List Int} {r:List Int} (hF:l7 K a0 a1=some r):Ct Tryz.prog 189 [.vc (pS cI a0),.vc (pS cI a1)] (.vc (pS cI r)):=by
 unfold l7 at hF
 refine bD Tryz.func189 rfl (by kernel_rfl) Tryz.ntmps189 rfl (fun w0 M0=>?_)
 refine aE (aF (aB (aN (.inr rfl)) ⟨dX cI,trivial⟩ ?_))
 refine aC (aA (aE (aF (aI ?_))))
 refine aB (bX rfl tyS22) zU1 ?_
 obtain⟨x1,h2,hF⟩:=aP hF
 refine r6 (C:=cI) rfl tyS22 rfl tyZ3 rfl h2 (fun b3=>?_)
 refine bH ?_
 refine aC (aA (aE (aF (aI ?_))))
 refine aI ?_
 refine aB (t_cp 0 rfl tyS22 rfl rfl rfl) zU2 ?_
 refine aC (aA (aE (aE (aF (aI ?_)))))
 refine aB (aB1 (C:=cI) (xs:=(cpL x1 a0)) (T:=3) rfl tyS22 (aBn rfl)) zU1 ?_
 refine aB (aN (.inl rfl)) ⟨bI _ _,trivial⟩ ?_
 refine aC (aA (bR (cJ (fun H E=>∃(x21:List Int),qS K x21=some r∧x21.length=x1.length∧H=[hO cI b3 x1.length 3 x1.length x21]∧E=[(5,.vc (pO b3 x1.length x1.length))]) ?_ (fun Jj28=>?_))))
 ·rintro _ _ ⟨x21,hF,q25,rfl,rfl⟩
  unfold qS at hF
  refine aA (aE (aF (aI ?_)))
  refine bH ?_
  refine aC (aA (a9 (a8 (uB 0 [4,5,51] rfl q25 ⟨rfl,rfl,rfl,trivial⟩ rfl ?_))))
  obtain rfl:=bV hF
  exact aL (.inl rfl) Tryz.results189 (.tmp rfl .nil) rfl rfl
 obtain⟨x21',hL,hRl27⟩:=aP hF
 refine gB (fun k a w=>∃(x14:List Int),∃(x20:Int),eW K a0 a1 x1 k x14 x20=some x21'∧x14.length=x1.length∧hs _ [hO cI b3 x1.length 3 x1.length x14] [(1,.vc (pS cI a1)),(5,.vc (pO b3 x1.length x1.length)),(14,.vc (pI .i64 ((cpL x1 a0).length:Int))),(15,.vc (pI .i64 x20))] a w) K (fun a w ⟨_,_,hF,_,_⟩=>by cases hF) (fun k a w ⟨x14,x20,hF,q18,hh⟩=>gE ?_ hh) (fun a w hh=>⟨(cpL x1 a0),0,hL,(aBn rfl),bF [0] rfl (by decide) (by exact⟨rfl,rfl,rfl,rfl,trivial⟩) hh⟩)
 rw [eW.eq_2] at hF
 refine aE (aF (aB (dQ rfl) zU2 ?_))
 refine aC (aA (aE (bS rfl (fun h29=>?_) (fun h29=>?_))))
 ·have hF:=aV h29 hF
  refine bA (aA (aE (bR (aE (aF (aI ?_))))))
  refine bH ?_
  refine aC (aA (aE (uH (fun H E=>∃(x31:List Int),kE K x20 (eW K a0 a1 x1 k) x31=some x21'∧x31.length=x1.length∧H=[hO cI b3 x1.length 3 x1.length x31]∧E=[(1,.vc (pS cI a1)),(5,.vc (pO b3 x1.length x1.length)),(6,.vc (pI .i64 x20)),(14,.vc (pI .i64 ((cpL x1 a0).length:Int))),(15,.vc (pI .i64 x20))]) ?_ (fun Jj37=>?_))))
  ·rintro _ _ ⟨x31,hF,q35,rfl,rfl⟩
   unfold kE at hF
   refine aE (aF (aI ?_))
   refine aI ?_
   obtain⟨v38,h39,hF⟩:=aP hF
   refine aB (cS (C:=cI) 0 rfl tyS22 rfl q35 (aS h39).1 (aS h39).2.1) zU2 ?_
   refine aB (g9 (k:=1) 0 rfl rfl h39 rfl (.one tyO3) rfl) zU1 ?_
   refine aB (dQ rfl) ⟨rfl,bI _ _,trivial⟩ ?_
   refine aC (aA (bS rfl (fun h40=>?_) (fun h40=>?_)))
   ·have hF:=aV h40 hF
    refine aE (aF (aI ?_))
    refine aI ?_
    obtain⟨v41,h42,hF⟩:=aP hF
    refine aB (cS (C:=cI) 0 rfl tyS22 rfl q35 (aS h42).1 (aS h42).2.1) zU2 ?_
    refine aB (g9 (k:=1) 0 rfl rfl h42 rfl (.one tyO3) rfl) zU1 ?_
    obtain⟨v43,h44,hF⟩:=aP hF
    refine aB (bO rfl h44) ⟨rfl,bI _ _,trivial⟩ ?_
    obtain⟨v45,h46,hF⟩:=aP hF
    refine aB (cS (C:=cI) 0 rfl tyS22 rfl q35 (aS h46).1 (aS h46).2.1) zU2 ?_
    obtain⟨x47,h48,hF⟩:=aP hF
    refine bG (fW 0 rfl rfl h46 h48 tyO3.s) zU2 ?_
    refine aC (aA (aF (aI ?_)))
    refine aI ?_
    obtain⟨v50,h51,hF⟩:=aP hF
    refine aB (bO rfl h51) ⟨rfl,bI _ _,trivial⟩ ?_
    obtain⟨v52,h53,hF⟩:=aP hF
    refine aB (cS (C:=cI) 0 rfl tyS22 rfl (cE h48 q35) (aS h53).1 (aS h53).2.1) zU2 ?_
    refine aB (g9 (k:=1) 0 rfl rfl h53 rfl (.one tyO3) rfl) zU1 ?_
    obtain⟨v54,h55,hF⟩:=aP hF
    refine aB (eM rfl h55) ⟨rfl,bI _ _,trivial⟩ ?_
    obtain⟨v56,h57,hF⟩:=aP hF
    refine aB (cS (C:=cI) 0 rfl tyS22 rfl (cE h48 q35) (aS h57).1 (aS h57).2.1) zU2 ?_
    obtain⟨x58,h59,hF⟩:=aP hF
    refine bG (fW 0 rfl rfl h57 h59 tyO3.s) zU2 ?_
    refine aC (bJ (aA (aF ?_)))
    obtain⟨v61,h62,hF⟩:=aP hF
    refine aB (bO rfl h62) ⟨rfl,bI _ _,trivial⟩ ?_
    refine aI ?_
    refine aC ?_
    exact bL (fun a w hh=>⟨x58,v61,hF,(cE h59 (cE h48 q35)),bF [0] rfl (by decide) (by exact⟨rfl,rfl,rfl,rfl,trivial⟩) hh⟩)
   have hF:=aX h40 hF
   refine bA (bJ (aA (aF ?_)))
   obtain⟨v63,h64,hF⟩:=aP hF
   refine aB (bO rfl h64) ⟨rfl,bI _ _,trivial⟩ ?_
   refine aI ?_
   refine aC ?_
   exact bL (fun a w hh=>⟨x31,v63,hF,q35,bF [0] rfl (by decide) (by exact⟨rfl,rfl,rfl,rfl,trivial⟩) hh⟩)
  refine aE (aF (aI ?_))
  refine aI ?_
  refine aB (bX rfl tyS22) zU1 ?_
  refine aB (dQ rfl) zU2 ?_
  refine aC (aA (bS rfl (fun h65=>?_) (fun h65=>?_)))
  ·have hF:=aV h65 hF
   obtain⟨v68,h69,hF⟩:=aP hF
   obtain⟨v70,h71,hF⟩:=aP hF
   obtain⟨v72,h73,hF⟩:=aP hF
   obtain⟨v74,h75,hF⟩:=aP hF
   refine bT [0,0,3,7,0,0,48,112,255,511,1023] 10 1 [.v (.vc (pO b3 x1.length x1.length)),.v (.vc (pI .i64 x20)),.v (.vc (pE b3 x20 cI.n 0)),.v (.vc (pI .i64 v68)),.v (.vc (pS cI a1)),.v (.vc (pI .i64 x20)),.v (.vc (pM (cI.e v70))),.v (.vc (pI .i64 v70)),.v (.vc (pI .i64 v72)),.v (.vc (pE b3 x20 cI.n 0))] aU ⟨d0 (aN (.inl rfl)) zU1,d0 (aN (.inl rfl)) zU1,d0 (cS (C:=cI) 0 rfl tyS22 rfl q18 (aS h69).1 (aS h69).2.1) zU2,d0 (g9 (k:=1) 0 rfl rfl h69 rfl (.one tyO3) rfl) zU1,d0 (aN (.inl rfl)) zU1,d0 (aN (.inl rfl)) zU1,d0 (cO rfl tyS22 h71) zU2,d0 (cK 1 rfl rfl (.one tyO3)) zU1,d0 (eM rfl h73) zU2,d0 (cS (C:=cI) 0 rfl tyS22 rfl q18 (aS h75).1 (aS h75).2.1) zU2,trivial⟩ (fun bs67 G66=>?_)
   obtain⟨x76,h77,hF⟩:=aP hF
   refine bG (fW 0 rfl rfl h75 h77 tyO3.s) zU2 ?_
   refine aC ?_
   exact bU Jj37 ⟨x76,hF,(cE h77 q18),rfl,rfl⟩ [0] rfl ⟨rfl,rfl,rfl,rfl,rfl,trivial⟩
  have hF:=aX h65 hF
  refine bA ?_
  exact bU Jj37 ⟨x14,hF,q18,rfl,rfl⟩ [0] rfl ⟨rfl,rfl,rfl,rfl,rfl,trivial⟩
 have hF:=aX h29 hF
 refine dI ?_
 obtain rfl:=bV hF
 exact bU Jj28 ⟨x14,hRl27,q18,rfl,rfl⟩ [0] rfl zU1
def mW (K:Nat) (a0:aZ) (a1:aZ):Option aZ:=
 bif(a0.neg==a1.neg) then((oS K a0.d a1.d).bind fun v7=>(eX K a0.neg v7).bind fun v9=>some v9) else((f7 K a0.d a1.d).bind fun v11=>bif(decide (v11<0)) then((l7 K a1.d a0.d).bind fun v16=>(eX K a1.neg v16).bind fun v18=>some v18) else((l7 K a0.d a1.d).bind fun v22=>(eX K a0.neg v22).bind fun v24=>some v24))
theorem wR {K:Nat} {a0:aZ} {a1:aZ} {r:aZ} (hF:mW K a0 a1=some r):Ct Tryz.prog 101 [.va (aZ.e a0),.va (aZ.e a1)] (.va (aZ.e r)):=by
 unfold mW at hF
 refine bD Tryz.func101 rfl (by kernel_rfl) Tryz.ntmps101 rfl (fun w0 M0=>?_)
 refine aE (aF (cY rfl rfl trivial (fun b1=>?_)))
 refine cY rfl rfl trivial (fun b2=>?_)
 refine bP rfl tyZ42 (fun b3=>?_)
 refine aC (aA (aE (bR (aE (aF (aB (bE (off:=0) (k:=0) rfl tyF42_0) zU1 ?_))))))
 refine aB (bK 2 1 rfl rfl rfl rfl (.one tyO4)) zU1 ?_
 refine aB (bE (off:=0) (k:=0) rfl tyF42_0) zU1 ?_
 refine aB (bK 1 1 rfl rfl rfl rfl (.one tyO4)) zU1 ?_
 refine aB (aIs rfl Tryz.underlying4) zU2 ?_
 refine bH ?_
 refine aC (aA (bS rfl (fun h4=>?_) (fun h4=>?_)))
 ·have hF:=aV h4 hF
  refine aE ?_
  obtain⟨v7,h8,hF⟩:=aP hF
  obtain⟨v9,h10,hF⟩:=aP hF
  refine bT [0,1,0,4,0,16,60,127,255] 8 1 [.v (.vc (pP (some b1) 0)),.v (.vc (pB a0.neg)),.v (.vc (pP (some b1) 1)),.v (.vc (pS cI a0.d)),.v (.vc (pP (some b2) 1)),.v (.vc (pS cI a1.d)),.v (.vc (pS cI v7)),.v (.va (aZ.e v9))] aU ⟨d0 (bE (off:=0) (k:=0) rfl tyF42_0) zU1,d0 (bK 2 1 rfl rfl rfl rfl (.one tyO4)) zU1,d0 (bE (off:=0) (k:=1) rfl tyF42_1) zU1,d0 (bK 2 1 rfl rfl rfl rfl (.one tyO22)) zU1,d0 (bE (off:=0) (k:=1) rfl tyF42_1) zU1,d0 (bK 1 1 rfl rfl rfl rfl (.one tyO22)) zU1,d0 (aJ rfl (y7 h8) rfl) zU2,d0 (aJ rfl (iL h10) rfl) zU2,trivial⟩ (fun bs6 G5=>?_)
  refine bG (dO 0 rfl rfl rfl tyA42.s) zU2 ?_
  refine aC (aA (a9 (a8 ?_)))
  obtain rfl:=bV hF
  exact aL (.inl rfl) Tryz.results101 (bQ 0 2 rfl rfl rfl rfl (.agg tyA42) .nil) rfl rfl
 have hF:=aX h4 hF
 refine aE (aF (aB (bE (off:=0) (k:=1) rfl tyF42_1) zU1 ?_))
 refine aB (bK 2 1 rfl rfl rfl rfl (.one tyO22)) zU1 ?_
 refine aB (bE (off:=0) (k:=1) rfl tyF42_1) zU1 ?_
 refine aB (bK 1 1 rfl rfl rfl rfl (.one tyO22)) zU1 ?_
 obtain⟨v11,h12,hF⟩:=aP hF
 refine aB (aJ rfl (mS h12) rfl) zU2 ?_
 refine aB (dQ rfl) ⟨rfl,bI _ _,trivial⟩ ?_
 refine bH ?_
 refine aC (aA (bS rfl (fun h13=>?_) (fun h13=>?_)))
 ·have hF:=aV h13 hF
  refine aE ?_
  obtain⟨v16,h17,hF⟩:=aP hF
  obtain⟨v18,h19,hF⟩:=aP hF
  refine bT [0,1,0,4,0,16,60,127,255] 8 1 [.v (.vc (pP (some b2) 0)),.v (.vc (pB a1.neg)),.v (.vc (pP (some b2) 1)),.v (.vc (pS cI a1.d)),.v (.vc (pP (some b1) 1)),.v (.vc (pS cI a0.d)),.v (.vc (pS cI v16)),.v (.va (aZ.e v18))] aU ⟨d0 (bE (off:=0) (k:=0) rfl tyF42_0) zU1,d0 (bK 1 1 rfl rfl rfl rfl (.one tyO4)) zU1,d0 (bE (off:=0) (k:=1) rfl tyF42_1) zU1,d0 (bK 1 1 rfl rfl rfl rfl (.one tyO22)) zU1,d0 (bE (off:=0) (k:=1) rfl tyF42_1) zU1,d0 (bK 2 1 rfl rfl rfl rfl (.one tyO22)) zU1,d0 (aJ rfl (u5 h17) rfl) zU2,d0 (aJ rfl (iL h19) rfl) zU2,trivial⟩ (fun bs15 G14=>?_)
  refine bG (dO 0 rfl rfl rfl tyA42.s) zU2 ?_
  refine aC (aA (a9 (a8 ?_)))
  obtain rfl:=bV hF
  exact aL (.inl rfl) Tryz.results101 (bQ 0 2 rfl rfl rfl rfl (.agg tyA42) .nil) rfl rfl
 have hF:=aX h13 hF
 refine bA (bJ (aA (aE ?_)))
 obtain⟨v22,h23,hF⟩:=aP hF
 obtain⟨v24,h25,hF⟩:=aP hF
 refine bT [0,1,0,4,0,16,60,127,255] 8 1 [.v (.vc (pP (some b1) 0)),.v (.vc (pB a0.neg)),.v (.vc (pP (some b1) 1)),.v (.vc (pS cI a0.d)),.v (.vc (pP (some b2) 1)),.v (.vc (pS cI a1.d)),.v (.vc (pS cI v22)),.v (.va (aZ.e v24))] aU ⟨d0 (bE (off:=0) (k:=0) rfl tyF42_0) zU1,d0 (bK 2 1 rfl rfl rfl rfl (.one tyO4)) zU1,d0 (bE (off:=0) (k:=1) rfl tyF42_1) zU1,d0 (bK 2 1 rfl rfl rfl rfl (.one tyO22)) zU1,d0 (bE (off:=0) (k:=1) rfl tyF42_1) zU1,d0 (bK 1 1 rfl rfl rfl rfl (.one tyO22)) zU1,d0 (aJ rfl (u5 h23) rfl) zU2,d0 (aJ rfl (iL h25) rfl) zU2,trivial⟩ (fun bs21 G20=>?_)
 refine bG (dO 0 rfl rfl rfl tyA42.s) zU2 ?_
 refine aC (aA (a9 (a8 ?_)))
 obtain rfl:=bV hF
 exact aL (.inl rfl) Tryz.results101 (bQ 0 2 rfl rfl rfl rfl (.agg tyA42) .nil) rfl rfl
def sV (a0:aZ):Option Int:=
 bif a0.neg then(some (-1)) else(bif((a0.d.length:Int)==0) then(some 0) else(some 1))
theorem aB2 {a0:aZ} {r:Int} (hF:sV a0=some r):Ct Tryz.prog 102 [.va (aZ.e a0)] (.vc (pI .i64 r)):=by
 unfold sV at hF
 refine bD Tryz.func102 rfl (by kernel_rfl) Tryz.ntmps102 rfl (fun w0 M0=>?_)
 refine aE (aF (cY rfl rfl trivial (fun b1=>?_)))
 refine aB (aN (.inr rfl)) ⟨bI _ _,trivial⟩ ?_
 refine aC (aA (aE (bR (aE (aF (aB (bE (off:=0) (k:=0) rfl tyF42_0) zU1 ?_))))))
 refine aB (bK 0 1 rfl rfl rfl rfl (.one tyO4)) zU1 ?_
 refine bH ?_
 refine aC (aA (bS rfl (fun h2=>?_) (fun h2=>?_)))
 ·have hF:=aV h2 hF
  refine aE (aF (aB (aN (.inr rfl)) ⟨bI _ _,trivial⟩ ?_))
  refine aC (aA (a9 (a8 ?_)))
  obtain rfl:=bV hF
  exact aL (.inl rfl) Tryz.results102 (.tmp rfl .nil) rfl rfl
 have hF:=aX h2 hF
 refine aE (aF (aB (bE (off:=0) (k:=1) rfl tyF42_1) zU1 ?_))
 refine aB (bK 0 1 rfl rfl rfl rfl (.one tyO22)) zU1 ?_
 refine aB (bX rfl tyS22) zU1 ?_
 refine aB (gR rfl) ⟨rfl,bI _ _,trivial⟩ ?_
 refine bH ?_
 refine aC (aA (bS rfl (fun h3=>?_) (fun h3=>?_)))
 ·have hF:=aV h3 hF
  refine aE (aF (aB (aN (.inr rfl)) ⟨bI _ _,trivial⟩ ?_))
  refine aC (aA (a9 (a8 ?_)))
  obtain rfl:=bV hF
  exact aL (.inl rfl) Tryz.results102 (.tmp rfl .nil) rfl rfl
 have hF:=aX h3 hF
 refine bA (bJ (aA (aE (aF (aB (aN (.inr rfl)) ⟨bI _ _,trivial⟩ ?_)))))
 refine aC (aA (a9 (a8 ?_)))
 obtain rfl:=bV hF
 exact aL (.inl rfl) Tryz.results102 (.tmp rfl .nil) rfl rfl
def r3 (K:Nat):Option Bool:=
 some true
def gI (K:Nat) (a0:aZ) (a1:aZ):Nat→Int→Option (LR Bool Unit)
 |0,_=>none
 |k+1,x6=>bif(decide (x6<(a0.d.length:Int))) then((dC a0.d x6).bind fun v12=>(dC a1.d x6).bind fun v14=>bif(v12 != v14) then(some (.ret false)) else((bW (x6+1)).bind fun v17=>gI K a0 a1 k v17)) else(some (.go ()))
def mO (K:Nat) (a0:aZ) (a1:aZ):Option Bool:=
 bif(a0.neg != a1.neg) then(some false) else(bif((a0.d.length:Int) != (a1.d.length:Int)) then(some false) else((gI K a0 a1 K 0).bind fun o=>match o with| .ret r=>some r| .go _=>r3 K))
theorem vO {K:Nat} {a0:aZ} {a1:aZ} {r:Bool} (hF:mO K a0 a1=some r):Ct Tryz.prog 142 [.va (aZ.e a0),.va (aZ.e a1)] (.vc (pB r)):=by
 unfold mO at hF
 refine bD Tryz.func142 rfl (by kernel_rfl) Tryz.ntmps142 rfl (fun w0 M0=>?_)
 refine aE (aF (cY rfl rfl trivial (fun b1=>?_)))
 refine cY rfl rfl trivial (fun b2=>?_)
 refine aB (aN (.inr rfl)) ⟨cW _,trivial⟩ ?_
 refine aC (aA (aE (aE (aF (aB (bE (off:=0) (k:=0) rfl tyF42_0) zU1 ?_)))))
 refine aB (bK 1 1 rfl rfl rfl rfl (.one tyO4)) zU1 ?_
 refine aB (bE (off:=0) (k:=0) rfl tyF42_0) zU1 ?_
 refine aB (bK 0 1 rfl rfl rfl rfl (.one tyO4)) zU1 ?_
 refine aB (y6 rfl Tryz.underlying4) zU2 ?_
 refine aI ?_
 refine cP (fun h3=>?_) (fun h3=>?_)
 ·have hF:=aV h3 hF
  refine aM ?_
  refine aM ?_
  refine aM ?_
  refine aM ?_
  refine aM ?_
  refine aM ?_
  refine aM ?_
  refine aB (bM rfl) ⟨rfl,cW _,trivial⟩ ?_
  refine aC (aA (iO rfl ?_))
  refine aE (aF (aB (aN (.inr rfl)) ⟨cW _,trivial⟩ ?_))
  refine aC (aA (a9 (a8 ?_)))
  obtain rfl:=bV hF
  exact aL (.inl rfl) Tryz.results142 (.tmp rfl .nil) rfl rfl
 have hF:=aX h3 hF
 refine aY (bE (off:=0) (k:=1) rfl tyF42_1) zU1 ?_
 refine aY (bK 1 1 rfl rfl rfl rfl (.one tyO22)) zU1 ?_
 refine aY (bX rfl tyS22) zU1 ?_
 refine aY (bE (off:=0) (k:=1) rfl tyF42_1) zU1 ?_
 refine aY (bK 0 1 rfl rfl rfl rfl (.one tyO22)) zU1 ?_
 refine aY (bX rfl tyS22) zU1 ?_
 refine aY (s7 rfl) zU2 ?_
 refine aB (bN rfl) zU2 ?_
 refine aC (aA (bS rfl (fun h4=>?_) (fun h4=>?_)))
 ·have hF:=aV h4 hF
  refine aE (aF (aB (aN (.inr rfl)) ⟨cW _,trivial⟩ ?_))
  refine aC (aA (a9 (a8 ?_)))
  obtain rfl:=bV hF
  exact aL (.inl rfl) Tryz.results142 (.tmp rfl .nil) rfl rfl
 have hF:=aX h4 hF
 refine bA (aA (aE (aE (aF (aB (aN (.inr rfl)) ⟨bI _ _,trivial⟩ ?_)))))
 refine aC (aA (bR (cJ (fun H E=>r3 K=some r∧H=[]∧E=[]) ?_ (fun Jj8=>?_))))
 ·rintro _ _ ⟨hF,rfl,rfl⟩
  unfold r3 at hF
  refine aA (aE (aF (aB (aN (.inr rfl)) ⟨cW _,trivial⟩ ?_)))
  refine aC (aA (a9 (a8 ?_)))
  obtain rfl:=bV hF
  exact aL (.inl rfl) Tryz.results142 (.tmp rfl .nil) rfl rfl
 obtain⟨ol7,hL,hRl7⟩:=aP hF
 refine gB (fun k a w=>∃(x6:Int),gI K a0 a1 k x6=some ol7∧hs _ [⟨some b2,1,42,2,1,(aZ.e a1)⟩,⟨some b1,1,42,2,1,(aZ.e a0)⟩] [(2,.vc (pP (some b1) 0)),(3,.vc (pP (some b2) 0)),(5,.vc (pI .i64 x6))] a w) K (fun a w ⟨_,hF,_⟩=>by cases hF) (fun k a w ⟨x6,hF,hh⟩=>gE ?_ hh) (fun a w hh=>⟨0,hL,bF [0,1] rfl (by decide) (by exact⟨rfl,rfl,rfl,trivial⟩) hh⟩)
 rw [gI.eq_2] at hF
 refine aE (aE (aF (aI ?_)))
 refine aB (bE (off:=0) (k:=1) rfl tyF42_1) zU1 ?_
 refine aB (bK 1 1 rfl rfl rfl rfl (.one tyO22)) zU1 ?_
 refine aB (bX rfl tyS22) zU1 ?_
 refine aB (dQ rfl) zU2 ?_
 refine aC (aA (bS rfl (fun h9=>?_) (fun h9=>?_)))
 ·have hF:=aV h9 hF
  refine bA (aA (aE (bR (aE ?_))))
  obtain⟨v12,h13,hF⟩:=aP hF
  obtain⟨v14,h15,hF⟩:=aP hF
  refine bT [0,1,0,7,15,0,32,0,224,480,1023] 11 0 [.v (.vc (pP (some b1) 1)),.v (.vc (pS cI a0.d)),.v (.vc (pI .i64 x6)),.v (.vc (pM (cI.e v12))),.v (.vc (pI .i64 v12)),.v (.vc (pP (some b2) 1)),.v (.vc (pS cI a1.d)),.v (.vc (pI .i64 x6)),.v (.vc (pM (cI.e v14))),.v (.vc (pI .i64 v14)),.v (.vc (pB (v12 != v14)))] aU ⟨d0 (bE (off:=0) (k:=1) rfl tyF42_1) zU1,d0 (bK 1 1 rfl rfl rfl rfl (.one tyO22)) zU1,d0 (aN (.inl rfl)) zU1,d0 (cO rfl tyS22 h13) zU2,d0 (cK 1 rfl rfl (.one tyO3)) zU1,d0 (bE (off:=0) (k:=1) rfl tyF42_1) zU1,d0 (bK 0 1 rfl rfl rfl rfl (.one tyO22)) zU1,d0 (aN (.inl rfl)) zU1,d0 (cO rfl tyS22 h15) zU2,d0 (cK 1 rfl rfl (.one tyO3)) zU1,d0 (s7 rfl) zU2,trivial⟩ (fun bs11 G10=>?_)
  refine aC (aA (bS rfl (fun h16=>?_) (fun h16=>?_)))
  ·have hF:=aV h16 hF
   refine aE (aF (aB (aN (.inr rfl)) ⟨cW _,trivial⟩ ?_))
   refine aC (aA (a9 (a8 ?_)))
   obtain rfl:=bV hF
   obtain rfl:=bV hRl7
   exact aL (.inl rfl) Tryz.results142 (.tmp rfl .nil) rfl rfl
  have hF:=aX h16 hF
  refine bA (bJ (aA (aF (aI ?_))))
  obtain⟨v17,h18,hF⟩:=aP hF
  refine aB (bO rfl h18) ⟨rfl,bI _ _,trivial⟩ ?_
  refine bH ?_
  refine aC ?_
  exact bL (fun a w hh=>⟨v17,hF,bF [0,1] rfl (by decide) (by exact⟨rfl,rfl,rfl,trivial⟩) hh⟩)
 have hF:=aX h9 hF
 refine dI ?_
 obtain rfl:=bV hF
 exact bU Jj8 ⟨hRl7,rfl,rfl⟩ [] rfl trivial
def pU (K:Nat):Option Int:=
 some 0
def eE (K:Nat) (a0:List Int) (a1:List Int):Nat→Int→Option (LR Int Unit)
 |0,_=>none
 |k+1,x6=>bif(decide (0≤x6)) then((dC a0 x6).bind fun v12=>(dC a1 x6).bind fun v14=>bif(decide (v12<v14)) then(some (.ret (-1))) else((dC a0 x6).bind fun v19=>(dC a1 x6).bind fun v21=>bif(decide (v21<v19)) then(some (.ret 1)) else((bW (x6-1)).bind fun v24=>eE K a0 a1 k v24))) else(some (.go ()))
def dJ (K:Nat) (a0:List Int) (a1:List Int):Option Int:=
 bif(decide ((a0.length:Int)<(a1.length:Int))) then(some (-1)) else(bif(decide ((a1.length:Int)<(a0.length:Int))) then(some 1) else((bW ((a0.length:Int)-1)).bind fun v3=>(eE K a0 a1 K v3).bind fun o=>match o with| .ret r=>some r| .go _=>pU K))
theorem gN {K:Nat} {a0:List Int} {a1:List Int} {r:Int} (hF:dJ K a0 a1=some r):Ct Tryz.prog 230 [.vc (pS cI a0),.vc (pS cI a1)] (.vc (pI .i64 r)):=by
 unfold dJ at hF
 refine bD Tryz.func230 rfl (by kernel_rfl) Tryz.ntmps230 rfl (fun w0 M0=>?_)
 refine aE (aF (aB (aN (.inr rfl)) ⟨bI _ _,trivial⟩ ?_))
 refine aC (aA (aE (aE (aF (aI ?_)))))
 refine aB (bX rfl tyS22) zU1 ?_
 refine aI ?_
 refine aB (bX rfl tyS22) zU1 ?_
 refine aB (dQ rfl) zU2 ?_
 refine aC (aA (bS rfl (fun h1=>?_) (fun h1=>?_)))
 ·have hF:=aV h1 hF
  refine aE (aF (aB (aN (.inr rfl)) ⟨bI _ _,trivial⟩ ?_))
  refine aC (aA (a9 (a8 ?_)))
  obtain rfl:=bV hF
  exact aL (.inl rfl) Tryz.results230 (.tmp rfl .nil) rfl rfl
 have hF:=aX h1 hF
 refine bA (aA (aE (aE (aF (aI ?_)))))
 refine aB (bX rfl tyS22) zU1 ?_
 refine aI ?_
 refine aB (bX rfl tyS22) zU1 ?_
 refine aB (rV rfl) zU2 ?_
 refine aC (aA (bS rfl (fun h2=>?_) (fun h2=>?_)))
 ·have hF:=aV h2 hF
  refine aE (aF (aB (aN (.inr rfl)) ⟨bI _ _,trivial⟩ ?_))
  refine aC (aA (a9 (a8 ?_)))
  obtain rfl:=bV hF
  exact aL (.inl rfl) Tryz.results230 (.tmp rfl .nil) rfl rfl
 have hF:=aX h2 hF
 refine bA (aA (aE (aE (aF (aI ?_)))))
 refine aB (bX rfl tyS22) zU1 ?_
 obtain⟨v3,h4,hF⟩:=aP hF
 refine aB (eM rfl h4) ⟨rfl,bI _ _,trivial⟩ ?_
 refine bH ?_
 refine aC (aA (bR (cJ (fun H E=>pU K=some r∧H=[]∧E=[]) ?_ (fun Jj8=>?_))))
 ·rintro _ _ ⟨hF,rfl,rfl⟩
  unfold pU at hF
  refine aA (aE (aF (aB (aN (.inr rfl)) ⟨bI _ _,trivial⟩ ?_)))
  refine aC (aA (a9 (a8 ?_)))
  obtain rfl:=bV hF
  exact aL (.inl rfl) Tryz.results230 (.tmp rfl .nil) rfl rfl
 obtain⟨ol7,hL,hRl7⟩:=aP hF
 refine gB (fun k a w=>∃(x6:Int),eE K a0 a1 k x6=some ol7∧hs _ [] [(0,.vc (pS cI a0)),(1,.vc (pS cI a1)),(5,.vc (pI .i64 x6))] a w) K (fun a w ⟨_,hF,_⟩=>by cases hF) (fun k a w ⟨x6,hF,hh⟩=>gE ?_ hh) (fun a w hh=>⟨v3,hL,bF [] rfl (by decide) (by exact⟨rfl,rfl,rfl,trivial⟩) hh⟩)
 rw [eE.eq_2] at hF
 refine aE (aE (aF (aI ?_)))
 refine aB (uP rfl) ⟨rfl,bI _ _,trivial⟩ ?_
 refine aC (aA (bS rfl (fun h9=>?_) (fun h9=>?_)))
 ·have hF:=aV h9 hF
  refine bA (aA (aE (bR (aE (aE ?_)))))
  obtain⟨v12,h13,hF⟩:=aP hF
  obtain⟨v14,h15,hF⟩:=aP hF
  refine bT [0,0,3,7,0,0,48,112,255] 9 0 [.v (.vc (pS cI a0)),.v (.vc (pI .i64 x6)),.v (.vc (pM (cI.e v12))),.v (.vc (pI .i64 v12)),.v (.vc (pS cI a1)),.v (.vc (pI .i64 x6)),.v (.vc (pM (cI.e v14))),.v (.vc (pI .i64 v14)),.v (.vc (pB (decide (v12<v14))))] aU ⟨d0 (aN (.inl rfl)) zU1,d0 (aN (.inl rfl)) zU1,d0 (cO rfl tyS22 h13) zU2,d0 (cK 1 rfl rfl (.one tyO3)) zU1,d0 (aN (.inl rfl)) zU1,d0 (aN (.inl rfl)) zU1,d0 (cO rfl tyS22 h15) zU2,d0 (cK 1 rfl rfl (.one tyO3)) zU1,d0 (dQ rfl) zU2,trivial⟩ (fun bs11 G10=>?_)
  refine aC (aA (bS rfl (fun h16=>?_) (fun h16=>?_)))
  ·have hF:=aV h16 hF
   refine aE (aF (aB (aN (.inr rfl)) ⟨bI _ _,trivial⟩ ?_))
   refine aC (aA (a9 (a8 ?_)))
   obtain rfl:=bV hF
   obtain rfl:=bV hRl7
   exact aL (.inl rfl) Tryz.results230 (.tmp rfl .nil) rfl rfl
  have hF:=aX h16 hF
  refine bA (aA (aE ?_))
  obtain⟨v19,h20,hF⟩:=aP hF
  obtain⟨v21,h22,hF⟩:=aP hF
  refine bT [0,0,3,7,0,0,48,112,255] 9 0 [.v (.vc (pS cI a0)),.v (.vc (pI .i64 x6)),.v (.vc (pM (cI.e v19))),.v (.vc (pI .i64 v19)),.v (.vc (pS cI a1)),.v (.vc (pI .i64 x6)),.v (.vc (pM (cI.e v21))),.v (.vc (pI .i64 v21)),.v (.vc (pB (decide (v21<v19))))] aU ⟨d0 (aN (.inl rfl)) zU1,d0 (aN (.inl rfl)) zU1,d0 (cO rfl tyS22 h20) zU2,d0 (cK 1 rfl rfl (.one tyO3)) zU1,d0 (aN (.inl rfl)) zU1,d0 (aN (.inl rfl)) zU1,d0 (cO rfl tyS22 h22) zU2,d0 (cK 1 rfl rfl (.one tyO3)) zU1,d0 (rV rfl) zU2,trivial⟩ (fun bs18 G17=>?_)
  refine aC (aA (bS rfl (fun h23=>?_) (fun h23=>?_)))
  ·have hF:=aV h23 hF
   refine aE (aF (aB (aN (.inr rfl)) ⟨bI _ _,trivial⟩ ?_))
   refine aC (aA (a9 (a8 ?_)))
   obtain rfl:=bV hF
   obtain rfl:=bV hRl7
   exact aL (.inl rfl) Tryz.results230 (.tmp rfl .nil) rfl rfl
  have hF:=aX h23 hF
  refine bA (bJ (aA (aF (aI ?_))))
  obtain⟨v24,h25,hF⟩:=aP hF
  refine aB (eM rfl h25) ⟨rfl,bI _ _,trivial⟩ ?_
  refine bH ?_
  refine aC ?_
  exact bL (fun a w hh=>⟨v24,hF,bF [] rfl (by decide) (by exact⟨rfl,rfl,rfl,trivial⟩) hh⟩)
 have hF:=aX h9 hF
 refine dI ?_
 obtain rfl:=bV hF
 exact bU Jj8 ⟨hRl7,rfl,rfl⟩ [] rfl trivial
def mI (K:Nat) (a0:aZ) (a1:aZ):Option Int:=
 bif(a0.neg != a1.neg) then(bif a0.neg then(some (-1)) else(some 1)) else(bif a0.neg then((dJ K a1.d a0.d).bind fun v6=>some v6) else((dJ K a0.d a1.d).bind fun v8=>some v8))
theorem yI {K:Nat} {a0:aZ} {a1:aZ} {r:Int} (hF:mI K a0 a1=some r):Ct Tryz.prog 221 [.va (aZ.e a0),.va (aZ.e a1)] (.vc (pI .i64 r)):=by
 unfold mI at hF
 refine bD Tryz.func221 rfl (by kernel_rfl) Tryz.ntmps221 rfl (fun w0 M0=>?_)
 refine aE (aF (cY rfl rfl trivial (fun b1=>?_)))
 refine cY rfl rfl trivial (fun b2=>?_)
 refine aB (aN (.inr rfl)) ⟨bI _ _,trivial⟩ ?_
 refine aC (aA (aE (aE (aF (aB (bE (off:=0) (k:=0) rfl tyF42_0) zU1 ?_)))))
 refine aB (bK 1 1 rfl rfl rfl rfl (.one tyO4)) zU1 ?_
 refine aB (bE (off:=0) (k:=0) rfl tyF42_0) zU1 ?_
 refine aB (bK 0 1 rfl rfl rfl rfl (.one tyO4)) zU1 ?_
 refine aB (y6 rfl Tryz.underlying4) zU2 ?_
 refine aC (aA (bS rfl (fun h3=>?_) (fun h3=>?_)))
 ·have hF:=aV h3 hF
  refine aE (aE (aF (aB (bE (off:=0) (k:=0) rfl tyF42_0) zU1 ?_)))
  refine aB (bK 1 1 rfl rfl rfl rfl (.one tyO4)) zU1 ?_
  refine aC (aA (bS rfl (fun h4=>?_) (fun h4=>?_)))
  ·have hF:=aV h4 hF
   refine aE (aF (aB (aN (.inr rfl)) ⟨bI _ _,trivial⟩ ?_))
   refine aC (aA (a9 (a8 ?_)))
   obtain rfl:=bV hF
   exact aL (.inl rfl) Tryz.results221 (.tmp rfl .nil) rfl rfl
  have hF:=aX h4 hF
  refine bA (aA (aE (aF (aB (aN (.inr rfl)) ⟨bI _ _,trivial⟩ ?_))))
  refine aC (aA (a9 (a8 ?_)))
  obtain rfl:=bV hF
  exact aL (.inl rfl) Tryz.results221 (.tmp rfl .nil) rfl rfl
 have hF:=aX h3 hF
 refine bA (aA (aE (aE (aF (aB (bE (off:=0) (k:=0) rfl tyF42_0) zU1 ?_)))))
 refine aB (bK 1 1 rfl rfl rfl rfl (.one tyO4)) zU1 ?_
 refine aC (aA (bS rfl (fun h5=>?_) (fun h5=>?_)))
 ·have hF:=aV h5 hF
  refine aE (aF (aB (bE (off:=0) (k:=1) rfl tyF42_1) zU1 ?_))
  refine aB (bK 0 1 rfl rfl rfl rfl (.one tyO22)) zU1 ?_
  refine aB (bE (off:=0) (k:=1) rfl tyF42_1) zU1 ?_
  refine aB (bK 1 1 rfl rfl rfl rfl (.one tyO22)) zU1 ?_
  obtain⟨v6,h7,hF⟩:=aP hF
  refine aB (aJ rfl (gN h7) rfl) zU2 ?_
  refine bH ?_
  refine aC (aA (a9 (a8 ?_)))
  obtain rfl:=bV hF
  exact aL (.inl rfl) Tryz.results221 (.tmp rfl .nil) rfl rfl
 have hF:=aX h5 hF
 refine bA (aA (aE (aF (aB (bE (off:=0) (k:=1) rfl tyF42_1) zU1 ?_))))
 refine aB (bK 1 1 rfl rfl rfl rfl (.one tyO22)) zU1 ?_
 refine aB (bE (off:=0) (k:=1) rfl tyF42_1) zU1 ?_
 refine aB (bK 0 1 rfl rfl rfl rfl (.one tyO22)) zU1 ?_
 obtain⟨v8,h9,hF⟩:=aP hF
 refine aB (aJ rfl (gN h9) rfl) zU2 ?_
 refine bH ?_
 refine aC (aA (a9 (a8 ?_)))
 obtain rfl:=bV hF
 exact aL (.inl rfl) Tryz.results221 (.tmp rfl .nil) rfl rfl
def oY (K:Nat) (a0:aZ):Option Int:=
 (mI K a0 (⟨false,([]:List Int)⟩:aZ)).bind fun v2=>some v2
theorem aAy {K:Nat} {a0:aZ} {r:Int} (hF:oY K a0=some r):Ct Tryz.prog 152 [.va (aZ.e a0)] (.vc (pI .i64 r)):=by
 unfold oY at hF
 refine bD Tryz.func152 rfl (by kernel_rfl) Tryz.ntmps152 rfl (fun w0 M0=>?_)
 refine aE (aF (cY rfl rfl trivial (fun b1=>?_)))
 refine aB (aN (.inr rfl)) ⟨bI _ _,trivial⟩ ?_
 refine aC (aA (aE (aF (aB (bK 0 2 rfl rfl rfl rfl (.agg tyA42)) zU1 ?_))))
 refine aB (cZ (is:=[]) (xs:=[]) (ps:=[]) rfl tyB42 rfl rfl trivial rfl) trivial ?_
 obtain⟨v2,h3,hF⟩:=aP hF
 refine aB (aJ rfl (yI h3) rfl) zU2 ?_
 refine bH ?_
 refine aC (aA (a9 (a8 ?_)))
 obtain rfl:=bV hF
 exact aL (.inl rfl) Tryz.results152 (.tmp rfl .nil) rfl rfl
def pT (K:Nat):Option Int:=
 some (-1)
def fO (K:Nat) (a0:List Int) (a1:(Int→Option Bool)):Nat→Int→Option (LR Int Unit)
 |0,_=>none
 |k+1,x2=>bif(decide (x2<(a0.length:Int))) then((dC a0 x2).bind fun v6=>(a1 v6).bind fun v8=>bif v8 then(some (.ret x2)) else((bW (x2+1)).bind fun v11=>fO K a0 a1 k v11)) else(some (.go ()))
def oE (K:Nat) (a0:List Int) (a1:(Int→Option Bool)):Option Int:=
 (fO K a0 a1 K 0).bind fun o=>match o with| .ret r=>some r| .go _=>pT K
theorem xY {K:Nat} {a0:List Int} {a1:(Int→Option Bool)} {r:Int} (hF:oE K a0 a1=some r):Ct Tryz.prog 256 [.vc (pS cI a0),.vc (pFn Tryz.prog (fun x:Int=>[.vc (pI .i64 x)]) (fun r:Bool=>.vc (pB r)) a1)] (.vc (pI .i64 r)):=by
 unfold oE at hF
 refine bD Tryz.func256 rfl (by kernel_rfl) Tryz.ntmps256 rfl (fun w0 M0=>?_)
 refine aE (aF (aB (aN (.inr rfl)) ⟨bI _ _,trivial⟩ ?_))
 refine aC (aA (aE (aE (aF (aI ?_)))))
 refine aB (bX rfl tyS22) zU1 ?_
 refine aB (aN (.inl rfl)) ⟨bI _ _,trivial⟩ ?_
 refine aC (aA (bR (cJ (fun H E=>pT K=some r∧H=[]∧E=[]) ?_ (fun Jj4=>?_))))
 ·rintro _ _ ⟨hF,rfl,rfl⟩
  unfold pT at hF
  refine aA (aE (aF (aB (aN (.inr rfl)) ⟨bI _ _,trivial⟩ ?_)))
  refine aC (aA (a9 (a8 ?_)))
  obtain rfl:=bV hF
  exact aL (.inl rfl) Tryz.results256 (.tmp rfl .nil) rfl rfl
 obtain⟨ol3,hL,hRl3⟩:=aP hF
 refine gB (fun k a w=>∃(x2:Int),fO K a0 a1 k x2=some ol3∧hs _ [] [(0,.vc (pS cI a0)),(1,.vc (pFn Tryz.prog (fun x:Int=>[.vc (pI .i64 x)]) (fun r:Bool=>.vc (pB r)) a1)),(7,.vc (pI .i64 (a0.length:Int))),(8,.vc (pI .i64 x2))] a w) K (fun a w ⟨_,hF,_⟩=>by cases hF) (fun k a w ⟨x2,hF,hh⟩=>gE ?_ hh) (fun a w hh=>⟨0,hL,bF [] rfl (by decide) (by exact⟨rfl,rfl,rfl,rfl,trivial⟩) hh⟩)
 rw [fO.eq_2] at hF
 refine aE (aF (aB (dQ rfl) zU2 ?_))
 refine aC (aA (aE (bS rfl (fun h5=>?_) (fun h5=>?_))))
 ·have hF:=aV h5 hF
  refine bA (aA (aE (bR (aE (aF (aI ?_))))))
  refine bH ?_
  refine aC (aA (aE (aF (aI ?_))))
  refine aI ?_
  refine aI ?_
  obtain⟨v6,h7,hF⟩:=aP hF
  refine aB (cO rfl tyS22 h7) zU2 ?_
  refine aB (cK 1 rfl rfl (.one tyO3)) zU1 ?_
  obtain⟨v8,h9,hF⟩:=aP hF
  refine aB (aBd (pre:=fun x:Int=>[.vc (pI .i64 x)]) (post:=fun r:Bool=>.vc (pB r)) (x:=v6) (r:=v8) rfl h9 rfl) zU2 ?_
  refine aC (aA (bS rfl (fun h10=>?_) (fun h10=>?_)))
  ·have hF:=aV h10 hF
   refine aE (aF (aI ?_))
   refine bH ?_
   refine aC (aA (a9 (a8 ?_)))
   obtain rfl:=bV hF
   obtain rfl:=bV hRl3
   exact aL (.inl rfl) Tryz.results256 (.tmp rfl .nil) rfl rfl
  have hF:=aX h10 hF
  refine bA (bJ (aA (aF ?_)))
  obtain⟨v11,h12,hF⟩:=aP hF
  refine aB (bO rfl h12) ⟨rfl,bI _ _,trivial⟩ ?_
  refine aI ?_
  refine aC ?_
  exact bL (fun a w hh=>⟨v11,hF,bF [] rfl (by decide) (by exact⟨rfl,rfl,rfl,rfl,trivial⟩) hh⟩)
 have hF:=aX h5 hF
 refine dI ?_
 obtain rfl:=bV hF
 exact bU Jj4 ⟨hRl3,rfl,rfl⟩ [] rfl trivial
def jY (K:Nat) (a0:List Int) (a1:(Int→Option Bool)):Option Bool:=
 (oE K a0 a1).bind fun v1=>some (decide (0≤v1))
theorem wJ {K:Nat} {a0:List Int} {a1:(Int→Option Bool)} {r:Bool} (hF:jY K a0 a1=some r):Ct Tryz.prog 223 [.vc (pS cI a0),.vc (pFn Tryz.prog (fun x:Int=>[.vc (pI .i64 x)]) (fun r:Bool=>.vc (pB r)) a1)] (.vc (pB r)):=by
 unfold jY at hF
 refine bD Tryz.func223 rfl (by kernel_rfl) Tryz.ntmps223 rfl (fun w0 M0=>?_)
 refine aE (aF (aB (aN (.inr rfl)) ⟨cW _,trivial⟩ ?_))
 refine aC (aA (aE (aF (aI ?_))))
 refine aI ?_
 obtain⟨v1,h2,hF⟩:=aP hF
 refine aB (aJ rfl (xY h2) rfl) zU2 ?_
 refine aB (uP rfl) ⟨rfl,bI _ _,trivial⟩ ?_
 refine bH ?_
 refine aC (aA (a9 (a8 ?_)))
 obtain rfl:=bV hF
 exact aL (.inl rfl) Tryz.results223 (.tmp rfl .nil) rfl rfl
def kJ (a0:Int):Option Bool:=
 bif(decide (a0<0)) then(some true) else(some (decide (1000000000≤a0)))
theorem aAT {a0:Int} {r:Bool} (hF:kJ a0=some r):Ct Tryz.prog 224 [.vc (pI .i64 a0)] (.vc (pB r)):=by
 unfold kJ at hF
 refine bD Tryz.func224 rfl (by kernel_rfl) Tryz.ntmps224 rfl (fun w0 M0=>?_)
 refine aE (aF (aB (aN (.inr rfl)) ⟨cW _,trivial⟩ ?_))
 refine aC (aA (aE (aF (aI ?_))))
 refine aB (dQ rfl) ⟨rfl,bI _ _,trivial⟩ ?_
 refine aI ?_
 refine cP (fun h1=>?_) (fun h1=>?_)
 ·have hF:=aV h1 hF
  refine aM ?_
  refine aM ?_
  refine aB (bM rfl) ⟨rfl,cW _,trivial⟩ ?_
  refine bH ?_
  refine aC (aA (a9 (a8 ?_)))
  obtain rfl:=bV hF
  exact aL (.inl rfl) Tryz.results224 (.tmp rfl .nil) rfl rfl
 have hF:=aX h1 hF
 refine aY (aN (.inl rfl)) zU1 ?_
 refine aY (uP rfl) ⟨rfl,bI _ _,trivial⟩ ?_
 refine aB (bN rfl) zU2 ?_
 refine bH ?_
 refine aC (aA (a9 (a8 ?_)))
 obtain rfl:=bV hF
 exact aL (.inl rfl) Tryz.results224 (.tmp rfl .nil) rfl rfl
def nS (K:Nat) (a0:aZ):Option Bool:=
 (jY K a0.d (kJ)).bind fun v2=>bif v2 then(some false) else(bif((a0.d.length:Int)==0) then(bif(!a0.neg) then(some true) else(bif(decide (0<(a0.d.length:Int))) then((bW ((a0.d.length:Int)-1)).bind fun v8=>(dC a0.d v8).bind fun v10=>some (v10 != 0)) else(some false))) else(bif(decide (0<(a0.d.length:Int))) then((bW ((a0.d.length:Int)-1)).bind fun v13=>(dC a0.d v13).bind fun v15=>some (v15 != 0)) else(some false)))
theorem xQ {K:Nat} {a0:aZ} {r:Bool} (hF:nS K a0=some r):Ct Tryz.prog 164 [.va (aZ.e a0)] (.vc (pB r)):=by
 unfold nS at hF
 refine bD Tryz.func164 rfl (by kernel_rfl) Tryz.ntmps164 rfl (fun w0 M0=>?_)
 refine aE (aF (cY rfl rfl trivial (fun b1=>?_)))
 refine aB (aN (.inr rfl)) ⟨cW _,trivial⟩ ?_
 refine aC (aA (aE (aE (aF (aB (bE (off:=0) (k:=1) rfl tyF42_1) zU1 ?_)))))
 refine aB (bK 0 1 rfl rfl rfl rfl (.one tyO22)) zU1 ?_
 obtain⟨v2,h3,hF⟩:=aP hF
 refine aB (aJ rfl (wJ h3) rfl) ⟨rfl,(aJE (P:=Tryz.prog) (φ:=(kJ)) (pre:=fun x:Int=>[.vc (pI .i64 x)]) (post:=fun r:Bool=>.vc (pB r)) (fun x r h=>aAT h)),trivial⟩ ?_
 refine aC (aA (bS rfl (fun h4=>?_) (fun h4=>?_)))
 ·have hF:=aV h4 hF
  refine aE (aF (aB (aN (.inr rfl)) ⟨cW _,trivial⟩ ?_))
  refine aC (aA (a9 (a8 ?_)))
  obtain rfl:=bV hF
  exact aL (.inl rfl) Tryz.results164 (.tmp rfl .nil) rfl rfl
 have hF:=aX h4 hF
 refine bA (aA (aE (aF (aB (bE (off:=0) (k:=1) rfl tyF42_1) zU1 ?_))))
 refine aB (bK 0 1 rfl rfl rfl rfl (.one tyO22)) zU1 ?_
 refine aB (bX rfl tyS22) zU1 ?_
 refine aB (gR rfl) ⟨rfl,bI _ _,trivial⟩ ?_
 refine aI ?_
 refine cP (fun h5=>?_) (fun h5=>?_)
 ·have hF:=aV h5 hF
  refine aY (bE (off:=0) (k:=0) rfl tyF42_0) zU1 ?_
  refine aY (bK 0 1 rfl rfl rfl rfl (.one tyO4)) zU1 ?_
  refine aY (hU rfl) zU1 ?_
  refine aB (bM rfl) zU2 ?_
  refine aI ?_
  refine cP (fun h6=>?_) (fun h6=>?_)
  ·have hF:=aV h6 hF
   refine aM ?_
   refine aM ?_
   refine aM ?_
   refine aM ?_
   refine aM ?_
   refine uS ?_
   refine uS ?_
   refine uS ?_
   refine uS ?_
   refine uS ?_
   refine uS ?_
   refine uS ?_
   refine uS ?_
   refine uS ?_
   refine aM ?_
   refine aB (bM rfl) ⟨rfl,cW _,trivial⟩ ?_
   refine bH ?_
   refine aC (aA (a9 (a8 ?_)))
   obtain rfl:=bV hF
   exact aL (.inl rfl) Tryz.results164 (.tmp rfl .nil) rfl rfl
  have hF:=aX h6 hF
  refine aY (bE (off:=0) (k:=1) rfl tyF42_1) zU1 ?_
  refine aY (bK 0 1 rfl rfl rfl rfl (.one tyO22)) zU1 ?_
  refine aY (bX rfl tyS22) zU1 ?_
  refine aY (rV rfl) ⟨rfl,bI _ _,trivial⟩ ?_
  refine aY (aN (.inl rfl)) zU1 ?_
  refine cP (fun h7=>?_) (fun h7=>?_)
  ·have hF:=aV h7 hF
   refine aY (bE (off:=0) (k:=1) rfl tyF42_1) zU1 ?_
   refine aY (bK 0 1 rfl rfl rfl rfl (.one tyO22)) zU1 ?_
   refine aY (bE (off:=0) (k:=1) rfl tyF42_1) zU1 ?_
   refine aY (bK 0 1 rfl rfl rfl rfl (.one tyO22)) zU1 ?_
   refine aY (bX rfl tyS22) zU1 ?_
   obtain⟨v8,h9,hF⟩:=aP hF
   refine aY (eM rfl h9) ⟨rfl,bI _ _,trivial⟩ ?_
   obtain⟨v10,h11,hF⟩:=aP hF
   refine aY (cO rfl tyS22 h11) zU2 ?_
   refine aY (cK 1 rfl rfl (.one tyO3)) zU1 ?_
   refine aY (s7 rfl) ⟨rfl,bI _ _,trivial⟩ ?_
   refine aY (bM rfl) zU2 ?_
   refine aB (bN rfl) zU2 ?_
   refine bH ?_
   refine aC (aA (a9 (a8 ?_)))
   obtain rfl:=bV hF
   exact aL (.inl rfl) Tryz.results164 (.tmp rfl .nil) rfl rfl
  have hF:=aX h7 hF
  refine aM ?_
  refine aM ?_
  refine aM ?_
  refine aM ?_
  refine aM ?_
  refine aM ?_
  refine aM ?_
  refine aM ?_
  refine aM ?_
  refine aY (bN rfl) ⟨rfl,cW _,trivial⟩ ?_
  refine aB (bN rfl) zU2 ?_
  refine bH ?_
  refine aC (aA (a9 (a8 ?_)))
  obtain rfl:=bV hF
  exact aL (.inl rfl) Tryz.results164 (.tmp rfl .nil) rfl rfl
 have hF:=aX h5 hF
 refine aM ?_
 refine aM ?_
 refine aM ?_
 refine aB (bN rfl) ⟨rfl,cW _,trivial⟩ ?_
 refine aI ?_
 refine aY (bE (off:=0) (k:=1) rfl tyF42_1) zU1 ?_
 refine aY (bK 0 1 rfl rfl rfl rfl (.one tyO22)) zU1 ?_
 refine aY (bX rfl tyS22) zU1 ?_
 refine aY (rV rfl) ⟨rfl,bI _ _,trivial⟩ ?_
 refine aY (aN (.inl rfl)) zU1 ?_
 refine cP (fun h12=>?_) (fun h12=>?_)
 ·have hF:=aV h12 hF
  refine aY (bE (off:=0) (k:=1) rfl tyF42_1) zU1 ?_
  refine aY (bK 0 1 rfl rfl rfl rfl (.one tyO22)) zU1 ?_
  refine aY (bE (off:=0) (k:=1) rfl tyF42_1) zU1 ?_
  refine aY (bK 0 1 rfl rfl rfl rfl (.one tyO22)) zU1 ?_
  refine aY (bX rfl tyS22) zU1 ?_
  obtain⟨v13,h14,hF⟩:=aP hF
  refine aY (eM rfl h14) ⟨rfl,bI _ _,trivial⟩ ?_
  obtain⟨v15,h16,hF⟩:=aP hF
  refine aY (cO rfl tyS22 h16) zU2 ?_
  refine aY (cK 1 rfl rfl (.one tyO3)) zU1 ?_
  refine aY (s7 rfl) ⟨rfl,bI _ _,trivial⟩ ?_
  refine aY (bM rfl) zU2 ?_
  refine aB (bN rfl) zU2 ?_
  refine bH ?_
  refine aC (aA (a9 (a8 ?_)))
  obtain rfl:=bV hF
  exact aL (.inl rfl) Tryz.results164 (.tmp rfl .nil) rfl rfl
 have hF:=aX h12 hF
 refine aM ?_
 refine aM ?_
 refine aM ?_
 refine aM ?_
 refine aM ?_
 refine aM ?_
 refine aM ?_
 refine aM ?_
 refine aM ?_
 refine aY (bN rfl) ⟨rfl,cW _,trivial⟩ ?_
 refine aB (bN rfl) zU2 ?_
 refine bH ?_
 refine aC (aA (a9 (a8 ?_)))
 obtain rfl:=bV hF
 exact aL (.inl rfl) Tryz.results164 (.tmp rfl .nil) rfl rfl
def oL (a0:List Int):Option (Int×Bool):=
 bif((a0.length:Int)==0) then(some (0,true)) else(bif((a0.length:Int)==1) then((dC a0 0).bind fun v3=>some (v3,true)) else(bif((a0.length:Int)==2) then((dC a0 1).bind fun v8=>(bW (v8*1000000000)).bind fun v10=>(dC a0 0).bind fun v12=>(bW (v10+v12)).bind fun v14=>some (v14,true)) else(some (0,false))))
theorem t7 {a0:List Int} {r:Int×Bool} (hF:oL a0=some r):Ct Tryz.prog 225 [.vc (pS cI a0)] (.t2 (.vc (pI .i64 r.1)) (.vc (pB r.2))):=by
 unfold oL at hF
 refine bD Tryz.func225 rfl (by kernel_rfl) Tryz.ntmps225 rfl (fun w0 M0=>?_)
 refine aE (aF (aB (aN (.inr rfl)) ⟨bI _ _,trivial⟩ ?_))
 refine aB (aN (.inr rfl)) ⟨cW _,trivial⟩ ?_
 refine aC (aA (aE (aE (aF (aI ?_)))))
 refine aB (bX rfl tyS22) zU1 ?_
 refine aC (aA (bR (aE (aF (aB (gR rfl) ⟨rfl,bI _ _,trivial⟩ ?_)))))
 refine bH ?_
 refine aC (aA (bS rfl (fun h1=>?_) (fun h1=>?_)))
 ·have hF:=aV h1 hF
  refine aE (aF (aB (aN (.inr rfl)) ⟨bI _ _,trivial⟩ ?_))
  refine aB (aN (.inr rfl)) ⟨cW _,trivial⟩ ?_
  refine aC (aA (a9 (a8 ?_)))
  obtain rfl:=bV hF
  exact aL (.inl rfl) Tryz.results225 (.tmp rfl (.tmp rfl .nil)) rfl rfl
 have hF:=aX h1 hF
 refine aE (aF (aB (gR rfl) ⟨rfl,bI _ _,trivial⟩ ?_))
 refine bH ?_
 refine aC (aA (bS rfl (fun h2=>?_) (fun h2=>?_)))
 ·have hF:=aV h2 hF
  refine aE (aF (aI ?_))
  obtain⟨v3,h4,hF⟩:=aP hF
  refine aB (cO rfl tyS22 h4) ⟨rfl,bI _ _,trivial⟩ ?_
  refine aB (cK 1 rfl rfl (.one tyO3)) zU1 ?_
  refine bH ?_
  refine aB (aN (.inr rfl)) ⟨cW _,trivial⟩ ?_
  refine aC (aA (a9 (a8 ?_)))
  obtain rfl:=bV hF
  exact aL (.inl rfl) Tryz.results225 (.tmp rfl (.tmp rfl .nil)) rfl rfl
 have hF:=aX h2 hF
 refine aE (aF (aB (gR rfl) ⟨rfl,bI _ _,trivial⟩ ?_))
 refine bH ?_
 refine aC (aA (bS rfl (fun h5=>?_) (fun h5=>?_)))
 ·have hF:=aV h5 hF
  refine aE ?_
  obtain⟨v8,h9,hF⟩:=aP hF
  obtain⟨v10,h11,hF⟩:=aP hF
  obtain⟨v12,h13,hF⟩:=aP hF
  obtain⟨v14,h15,hF⟩:=aP hF
  refine bT [0,1,3,7,0,16,48,127,255,511] 10 0 [.v (.vc (pS cI a0)),.v (.vc (pM (cI.e v8))),.v (.vc (pI .i64 v8)),.v (.vc (pI .i64 v10)),.v (.vc (pS cI a0)),.v (.vc (pM (cI.e v12))),.v (.vc (pI .i64 v12)),.v (.vc (pI .i64 v14)),.v (.vc (pI .i64 v14)),.v (.vc (pB true))] aU ⟨d0 (aN (.inl rfl)) zU1,d0 (cO rfl tyS22 h9) ⟨rfl,bI _ _,trivial⟩,d0 (cK 1 rfl rfl (.one tyO3)) zU1,d0 (pL rfl h11) ⟨rfl,bI _ _,trivial⟩,d0 (aN (.inl rfl)) zU1,d0 (cO rfl tyS22 h13) ⟨rfl,bI _ _,trivial⟩,d0 (cK 1 rfl rfl (.one tyO3)) zU1,d0 (bO rfl h15) zU2,d0 (aN (.inr rfl)) zU1,d0 (aN (.inr rfl)) ⟨cW _,trivial⟩,trivial⟩ (fun bs7 G6=>?_)
  refine aC (aA (a9 (a8 ?_)))
  obtain rfl:=bV hF
  exact aL (.inl rfl) Tryz.results225 (.tmp rfl (.tmp rfl .nil)) rfl rfl
 have hF:=aX h5 hF
 refine bA (bJ (aA (aE (aF (aB (aN (.inr rfl)) ⟨bI _ _,trivial⟩ ?_)))))
 refine aB (aN (.inr rfl)) ⟨cW _,trivial⟩ ?_
 refine aC (aA (a9 (a8 ?_)))
 obtain rfl:=bV hF
 exact aL (.inl rfl) Tryz.results225 (.tmp rfl (.tmp rfl .nil)) rfl rfl
def qV (K:Nat) (x24:List Int) (x30:Int):Option ((List Int)×Int):=
 some (x24,x30)
def kF (K:Nat) (a0:List Int) (a1:Int):Nat→(List Int)→Int→Int→Option ((List Int)×Int)
 |0,_,_,_=>none
 |k+1,x16,x22,x23=>bif(decide (0≤x23)) then((bW (x22*1000000000)).bind fun v34=>(dC a0 x23).bind fun v36=>(bW (v34+v36)).bind fun v38=>(vW v38 a1).bind fun v42=>(vM v38 a1).bind fun v44=>(dC x16 x23).bind fun v46=>(qC x16 x23 v42).bind fun x48=>(bW (x23-1)).bind fun v52=>kF K a0 a1 k x48 v44 v52) else(some (x16,x22))
def pW (K:Nat) (a0:List Int) (a1:Int):Option ((List Int)×Int):=
 (vK (a0.length:Int) 0).bind fun x1=>(bW ((a0.length:Int)-1)).bind fun v6=>(kF K a0 a1 K x1 0 v6).bind fun(x24,x30)=>qV K x24 x30
theorem xP {K:Nat} {a0:List Int} {a1:Int} {r:(List Int)×Int} (hF:pW K a0 a1=some r):Ct Tryz.prog 257 [.vc (pS cI a0),.vc (pI .i64 a1)] (.t2 (.vc (pS cI r.1)) (.vc (pI .i64 r.2))):=by
 unfold pW at hF
 refine bD Tryz.func257 rfl (by kernel_rfl) Tryz.ntmps257 rfl (fun w0 M0=>?_)
 refine aE (aF (aB (aN (.inr rfl)) ⟨dX cI,trivial⟩ ?_))
 refine aB (aN (.inr rfl)) ⟨bI _ _,trivial⟩ ?_
 refine aC (aA (aE (aF (aI ?_))))
 refine aB (bX rfl tyS22) zU1 ?_
 obtain⟨x1,h2,hF⟩:=aP hF
 refine r6 (C:=cI) rfl tyS22 rfl tyZ3 rfl h2 (fun b3=>?_)
 refine bH ?_
 refine aC (aA (aE (aF (aB (aN (.inr rfl)) ⟨bI _ _,trivial⟩ ?_))))
 refine aC (aA (aE (aE (aF (aI ?_)))))
 refine aB (bX rfl tyS22) zU1 ?_
 obtain⟨v6,h7,hF⟩:=aP hF
 refine aB (eM rfl h7) ⟨rfl,bI _ _,trivial⟩ ?_
 refine bH ?_
 refine aC (aA (bR (cJ (fun H E=>∃(x24:List Int),∃(x30:Int),qV K x24 x30=some r∧x24.length=x1.length∧H=[hO cI b3 x1.length 3 x1.length x24]∧E=[(6,.vc (pO b3 x1.length x1.length)),(7,.vc (pI .i64 x30))]) ?_ (fun Jj32=>?_))))
 ·rintro _ _ ⟨x24,x30,hF,q28,rfl,rfl⟩
  unfold qV at hF
  refine aA (aE (aF (aI ?_)))
  refine aI ?_
  refine bH ?_
  refine bH ?_
  refine aC (aA (a9 (a8 (uB 0 [4,6,36] rfl q28 ⟨rfl,rfl,rfl,trivial⟩ rfl ?_))))
  obtain rfl:=bV hF
  exact aL (.inl rfl) Tryz.results257 (.tmp rfl (.tmp rfl .nil)) rfl rfl
 obtain⟨⟨x24',x30'⟩,hL,hRl31⟩:=aP hF
 refine gB (fun k a w=>∃(x16:List Int),∃(x22:Int),∃(x23:Int),kF K a0 a1 k x16 x22 x23=some (x24',x30')∧x16.length=x1.length∧hs _ [hO cI b3 x1.length 3 x1.length x16] [(0,.vc (pS cI a0)),(1,.vc (pI .i64 a1)),(6,.vc (pO b3 x1.length x1.length)),(7,.vc (pI .i64 x22)),(8,.vc (pI .i64 x23))] a w) K (fun a w ⟨_,_,_,hF,_,_⟩=>by cases hF) (fun k a w ⟨x16,x22,x23,hF,q20,hh⟩=>gE ?_ hh) (fun a w hh=>⟨x1,0,v6,hL,rfl,bF [0] rfl (by decide) (by exact⟨rfl,rfl,rfl,rfl,rfl,trivial⟩) hh⟩)
 rw [kF.eq_2] at hF
 refine aE (aE (aF (aI ?_)))
 refine aB (uP rfl) ⟨rfl,bI _ _,trivial⟩ ?_
 refine aC (aA (bS rfl (fun h33=>?_) (fun h33=>?_)))
 ·have hF:=aV h33 hF
  refine bA (aA (aE (bR (aE (aF (aI ?_))))))
  obtain⟨v34,h35,hF⟩:=aP hF
  refine aB (pL rfl h35) ⟨rfl,bI _ _,trivial⟩ ?_
  refine aI ?_
  refine aI ?_
  obtain⟨v36,h37,hF⟩:=aP hF
  refine aB (cO rfl tyS22 h37) zU2 ?_
  refine aB (cK 1 rfl rfl (.one tyO3)) zU1 ?_
  obtain⟨v38,h39,hF⟩:=aP hF
  refine aB (bO rfl h39) zU2 ?_
  refine bH ?_
  refine aC (aA ?_)
  obtain⟨v42,h43,hF⟩:=aP hF
  obtain⟨v44,h45,hF⟩:=aP hF
  obtain⟨v46,h47,hF⟩:=aP hF
  obtain⟨x48,h49,hF⟩:=aP hF
  refine nJ (HsM [(0,fun G40=>[hO cI b3 x1.length 3 x1.length x16]),(1,fun G40=>[hO cI b3 x1.length 3 x1.length x48])]) [9] [0,0,0,0,12,0,0,96,31,287,1023] 11 0 [.v (.vc (pO b3 x1.length x1.length)),.v (.vc (pI .i64 x23)),.v (.vc (pI .i64 v38)),.v (.vc (pI .i64 a1)),.v (.vc (pI .i64 v42)),.v (.vc (pI .i64 v38)),.v (.vc (pI .i64 a1)),.v (.vc (pI .i64 v44)),.v (.vc (pE b3 x23 cI.n 0)),.g (fun _ _=>.any),.v (.vc (pI .i64 v44))] aU ⟨d1 0 (aN (.inl rfl)) zU1,d1 0 (aN (.inl rfl)) zU1,d1 0 (aN (.inl rfl)) zU1,d1 0 (aN (.inl rfl)) zU1,d1 0 (sF rfl h43) zU2,⟨rfl,.run (L:=[0,1]) ⟨fun G40 A=>aN (.inl rfl),fun G40 A=>aN (.inl rfl),trivial⟩ (fun G40=>zU1)⟩,⟨rfl,.run (L:=[0,1]) ⟨fun G40 A=>aN (.inl rfl),fun G40 A=>aN (.inl rfl),trivial⟩ (fun G40=>zU1)⟩,⟨rfl,.run (L:=[0,1]) ⟨fun G40 A=>rA rfl h45,fun G40 A=>rA rfl h45,trivial⟩ (fun G40=>zU2)⟩,d1 0 (cS (C:=cI) 0 rfl tyS22 rfl q20 (aS h47).1 (aS h47).2.1) zU2,⟨rfl,.hvy [0] ⟨fun G40 A=>aBl (fW 0 rfl rfl h47 h49 tyO3.s),trivial⟩ (fun G40=>zU2)⟩,d1 1 (aN (.inr rfl)) zU1,trivial⟩ (fun bs41 G40=>?_)
  refine aC (bJ (aA (aF (aI ?_))))
  obtain⟨v52,h53,hF⟩:=aP hF
  refine aB (eM rfl h53) ⟨rfl,bI _ _,trivial⟩ ?_
  refine bH ?_
  refine aC ?_
  exact bL (fun a w hh=>⟨x48,v44,v52,hF,(cE h49 q20),bF [0] rfl (by decide) (by exact⟨rfl,rfl,rfl,rfl,rfl,trivial⟩) hh⟩)
 have hF:=aX h33 hF
 refine dI ?_
 obtain⟨rfl,rfl⟩:=sm2 hF
 exact bU Jj32 ⟨x16,x22,hRl31,q20,rfl,rfl⟩ [0] rfl zU2
def qA (K:Nat) (a0:List Int) (x26:List Int) (x32:Int):Option (List Int):=
 (dC x26 (a0.length:Int)).bind fun v35=>(qC x26 (a0.length:Int) x32).bind fun x37=>some x37
def jO (K:Nat) (a0:List Int) (a1:Int):Nat→(List Int)→Int→Int→Option ((List Int)×Int)
 |0,_,_,_=>none
 |k+1,x18,x24,x25=>bif(decide (x25<(a0.length:Int))) then((dC a0 x25).bind fun v41=>(bW (v41*a1)).bind fun v43=>(bW (v43+x24)).bind fun v45=>(vM v45 1000000000).bind fun v47=>(vW v45 1000000000).bind fun v49=>(dC x18 x25).bind fun v51=>(qC x18 x25 v47).bind fun x53=>(bW (x25+1)).bind fun v56=>jO K a0 a1 k x53 v49 v56) else(some (x18,x24))
def mN (K:Nat) (a0:List Int) (a1:Int):Option (List Int):=
 (bW ((a0.length:Int)+1)).bind fun v3=>(vK v3 0).bind fun x5=>(jO K a0 a1 K x5 0 0).bind fun(x26,x32)=>qA K a0 x26 x32
theorem vX {K:Nat} {a0:List Int} {a1:Int} {r:List Int} (hF:mN K a0 a1=some r):CtO Tryz.prog 268 [] [.vc (pS cI a0),.vc (pI .i64 a1)] (fun Ho q=>∃b60 c61 n59,r.length=n59∧Ho=[hO cI b60 c61 3 n59 r]∧q=.vc (pO b60 n59 c61)):=by
 unfold mN at hF
 refine bD Tryz.func268 rfl (by kernel_rfl) Tryz.ntmps268 rfl (fun w0 M0=>?_)
 refine aE (aF (sB cI 3 rfl ?_))
 refine aC (aA (aE (aF (aI ?_))))
 refine aB (bX rfl tyS22) zU1 ?_
 obtain⟨v3,h4,hF⟩:=aP hF
 refine aB (bO rfl h4) ⟨rfl,bI _ _,trivial⟩ ?_
 obtain⟨x5,h6,hF⟩:=aP hF
 refine r6 (C:=cI) rfl tyS22 rfl tyZ3 rfl h6 (fun b7=>?_)
 refine bH ?_
 refine aC (aA (aE (aF (aB (aN (.inr rfl)) ⟨bI _ _,trivial⟩ ?_))))
 refine aC (aA (aE (aE (aF (aI ?_)))))
 refine aB (bX rfl tyS22) zU1 ?_
 refine aB (aN (.inl rfl)) ⟨bI _ _,trivial⟩ ?_
 refine aC (aA (bR (cJ (fun H E=>∃(x26:List Int),∃(x32:Int),qA K a0 x26 x32=some r∧x26.length=x5.length∧H=[hO cI b7 x5.length 3 x5.length x26]∧E=[(0,.vc (pS cI a0)),(5,.vc (pO b7 x5.length x5.length)),(6,.vc (pI .i64 x32))]) ?_ (fun Jj34=>?_))))
 ·rintro _ _ ⟨x26,x32,hF,q30,rfl,rfl⟩
  unfold qA at hF
  refine aA (aE (aF (aI ?_)))
  refine aI ?_
  refine aB (bX rfl tyS22) zU1 ?_
  refine aI ?_
  obtain⟨v35,h36,hF⟩:=aP hF
  refine aB (cS (C:=cI) 0 rfl tyS22 rfl q30 (aS h36).1 (aS h36).2.1) zU2 ?_
  obtain⟨x37,h38,hF⟩:=aP hF
  refine bG (fW 0 rfl rfl h36 h38 tyO3.s) zU2 ?_
  refine aC (aA (aE (aF (aI ?_))))
  refine bH ?_
  refine aC (aA (a9 (a8 ?_)))
  obtain rfl:=bV hF
  exact zI (.inl rfl) Tryz.results268 (.tmp rfl .nil) rfl [0] rfl (by decide) ⟨b7,x5.length,x5.length,(cE h38 q30),rfl,rfl⟩
 obtain⟨⟨x26',x32'⟩,hL,hRl33⟩:=aP hF
 refine gB (fun k a w=>∃(x18:List Int),∃(x24:Int),∃(x25:Int),jO K a0 a1 k x18 x24 x25=some (x26',x32')∧x18.length=x5.length∧hs _ [hO cI b7 x5.length 3 x5.length x18] [(0,.vc (pS cI a0)),(1,.vc (pI .i64 a1)),(5,.vc (pO b7 x5.length x5.length)),(6,.vc (pI .i64 x24)),(14,.vc (pS cI a0)),(15,.vc (pI .i64 (a0.length:Int))),(16,.vc (pI .i64 x25))] a w) K (fun a w ⟨_,_,_,hF,_,_⟩=>by cases hF) (fun k a w ⟨x18,x24,x25,hF,q22,hh⟩=>gE ?_ hh) (fun a w hh=>⟨x5,0,0,hL,rfl,bF [0] rfl (by decide) (by exact⟨rfl,rfl,rfl,rfl,rfl,rfl,rfl,trivial⟩) hh⟩)
 rw [jO.eq_2] at hF
 refine aE (aF (aB (dQ rfl) zU2 ?_))
 refine aC (aA (aE (bS rfl (fun h40=>?_) (fun h40=>?_))))
 ·have hF:=aV h40 hF
  refine bA (aA (aE (bR (aE (aF (aI ?_))))))
  obtain⟨v41,h42,hF⟩:=aP hF
  refine aB (cO rfl tyS22 h42) zU2 ?_
  refine aB (cK 1 rfl rfl (.one tyO3)) zU1 ?_
  refine bH ?_
  refine bH ?_
  refine aC (aA (aE (aF (aI ?_))))
  refine aI ?_
  obtain⟨v43,h44,hF⟩:=aP hF
  refine aB (pL rfl h44) zU2 ?_
  refine aI ?_
  obtain⟨v45,h46,hF⟩:=aP hF
  refine aB (bO rfl h46) zU2 ?_
  refine bH ?_
  refine aC (aA (aF (aI ?_)))
  refine aI ?_
  refine aI ?_
  obtain⟨v47,h48,hF⟩:=aP hF
  refine aB (rA rfl h48) ⟨rfl,bI _ _,trivial⟩ ?_
  refine aI ?_
  obtain⟨v49,h50,hF⟩:=aP hF
  refine aB (sF rfl h50) ⟨rfl,bI _ _,trivial⟩ ?_
  obtain⟨v51,h52,hF⟩:=aP hF
  refine aB (cS (C:=cI) 0 rfl tyS22 rfl q22 (aS h52).1 (aS h52).2.1) zU2 ?_
  obtain⟨x53,h54,hF⟩:=aP hF
  refine bG (fW 0 rfl rfl h52 h54 tyO3.s) zU2 ?_
  refine bH ?_
  refine aC (bJ (aA (aF ?_)))
  obtain⟨v56,h57,hF⟩:=aP hF
  refine aB (bO rfl h57) ⟨rfl,bI _ _,trivial⟩ ?_
  refine aI ?_
  refine aC ?_
  exact bL (fun a w hh=>⟨x53,v49,v56,hF,(cE h54 q22),bF [0] rfl (by decide) (by exact⟨rfl,rfl,rfl,rfl,rfl,rfl,rfl,trivial⟩) hh⟩)
 have hF:=aX h40 hF
 refine dI ?_
 obtain⟨rfl,rfl⟩:=sm2 hF
 exact bU Jj34 ⟨x18,x24,hRl33,q22,rfl,rfl⟩ [0] rfl ⟨rfl,rfl,rfl,trivial⟩
theorem aBe {K:Nat} {a0:List Int} {a1:Int} {r:List Int} (hF:mN K a0 a1=some r):Ct Tryz.prog 268 [.vc (pS cI a0),.vc (pI .i64 a1)] (.vc (pS cI r)):=aK6 (vX hF)
def rS (K:Nat) (a1:List Int) (v7:Int) (x60:List Int) (x66:List Int):Option ((List Int)×(List Int)):=
 (slL x66 0 (a1.length:Int)).bind fun x74=>(pW K x74 v7).bind fun v76=>some (x60,v76.1)
def qP (K:Nat) (a1:List Int) (x47:List Int) (x59:Int) (v157:Int) (recl72:(List Int)→(List Int)→Int→Option ((List Int)×(List Int))) (x175:List Int) (x181:Int):Option ((List Int)×(List Int)):=
 (bW (x59+(a1.length:Int))).bind fun v184=>(dC x175 v184).bind fun v186=>(bW (v186+x181)).bind fun v188=>(dC x175 v184).bind fun v190=>(qC x175 v184 v188).bind fun x192=>(dC x47 x59).bind fun v195=>(qC x47 x59 v157).bind fun x197=>(bW (x59-1)).bind fun v200=>recl72 x197 x192 v200
def iP (K:Nat) (a1:List Int) (x17:List Int) (x59:Int):Nat→(List Int)→Int→Int→Option ((List Int)×Int)
 |0,_,_,_=>none
 |k+1,x167,x173,x174=>bif(decide (x174<(a1.length:Int))) then((bW (x174+x59)).bind fun v205=>(dC x167 v205).bind fun v207=>(dC x17 x174).bind fun v209=>(bW (v207+v209)).bind fun v211=>(bW (v211+x173)).bind fun v213=>(bW (x174+x59)).bind fun v215=>(vM v213 1000000000).bind fun v217=>(vW v213 1000000000).bind fun v219=>(dC x167 v215).bind fun v221=>(qC x167 v215 v217).bind fun x223=>(bW (x174+1)).bind fun v226=>iP K a1 x17 x59 k x223 v219 v226) else(some (x167,x173))
def n0 (K:Nat) (a1:List Int) (x17:List Int) (x47:List Int) (x59:Int) (x113:Int) (recl72:(List Int)→(List Int)→Int→Option ((List Int)×(List Int))) (x132:List Int) (x138:Int):Option ((List Int)×(List Int)):=
 (bW (x59+(a1.length:Int))).bind fun v141=>(dC x132 v141).bind fun v143=>(bW (v143-x138)).bind fun v145=>(dC x132 v141).bind fun v147=>(qC x132 v141 v145).bind fun x149=>(bW (x59+(a1.length:Int))).bind fun v152=>(dC x149 v152).bind fun v154=>bif(decide (v154<0)) then((bW (x113-1)).bind fun v157=>(iP K a1 x17 x59 K x149 0 0).bind fun(x175,x181)=>qP K a1 x47 x59 v157 recl72 x175 x181) else((dC x47 x59).bind fun v228=>(qC x47 x59 x113).bind fun x230=>(bW (x59-1)).bind fun v233=>recl72 x230 x149 v233)
def fN (K:Nat) (a1:List Int) (x17:List Int) (x59:Int) (x113:Int):Nat→(List Int)→Int→Int→Option ((List Int)×Int)
 |0,_,_,_=>none
 |k+1,x124,x130,x131=>bif(decide (x131<(a1.length:Int))) then((bW (x131+x59)).bind fun v238=>(dC x124 v238).bind fun v240=>(dC x17 x131).bind fun v242=>(bW (x113*v242)).bind fun v244=>(bW (v240-v244)).bind fun v246=>(bW (v246-x130)).bind fun v248=>bif(decide (v248<0)) then((bW (-v248)).bind fun v251=>(bW (v251+1000000000)).bind fun v253=>(bW (v253-1)).bind fun v255=>(vW v255 1000000000).bind fun v257=>(bW (v257*1000000000)).bind fun v259=>(bW (v248+v259)).bind fun v261=>(bW (x131+x59)).bind fun v263=>(dC x124 v263).bind fun v265=>(qC x124 v263 v261).bind fun x267=>(bW (x131+1)).bind fun v270=>fN K a1 x17 x59 x113 k x267 v257 v270) else((bW (x131+x59)).bind fun v272=>(dC x124 v272).bind fun v274=>(qC x124 v272 v248).bind fun x276=>(bW (x131+1)).bind fun v279=>fN K a1 x17 x59 x113 k x276 0 v279)) else(some (x124,x130))
def nY (K:Nat) (a1:List Int) (x17:List Int) (x47:List Int) (x53:List Int) (x59:Int) (recl72:(List Int)→(List Int)→Int→Option ((List Int)×(List Int))) (x113:Int):Option ((List Int)×(List Int)):=
 (fN K a1 x17 x59 x113 K x53 0 0).bind fun(x132,x138)=>n0 K a1 x17 x47 x59 x113 recl72 x132 x138
def eV (K:Nat) (a1:List Int) (x17:List Int) (x53:List Int) (x59:Int):Nat→Int→Int→Option Int
 |0,_,_=>none
 |k+1,x111,x112=>bif(decide (1000000000≤x111)) then((bW (x111-1)).bind fun v284=>(bW ((a1.length:Int)-1)).bind fun v286=>(dC x17 v286).bind fun v288=>(bW (x112+v288)).bind fun v290=>bif(decide (1000000000≤v290)) then(some v284) else(eV K a1 x17 x53 x59 k v284 v290)) else((bW ((a1.length:Int)-2)).bind fun v293=>(dC x17 v293).bind fun v295=>(bW (x111*v295)).bind fun v297=>(bW (x112*1000000000)).bind fun v299=>(bW (x59+(a1.length:Int))).bind fun v301=>(bW (v301-2)).bind fun v303=>(dC x53 v303).bind fun v305=>(bW (v299+v305)).bind fun v307=>bif(decide (v307<v297)) then((bW (x111-1)).bind fun v310=>(bW ((a1.length:Int)-1)).bind fun v312=>(dC x17 v312).bind fun v314=>(bW (x112+v314)).bind fun v316=>bif(decide (1000000000≤v316)) then(some v310) else(eV K a1 x17 x53 x59 k v310 v316)) else(some x111))
def fG (K:Nat) (a1:List Int) (x17:List Int):Nat→(List Int)→(List Int)→Int→Option ((List Int)×(List Int))
 |0,_,_,_=>none
 |k+1,x47,x53,x59=>bif(decide (0≤x59)) then((bW (x59+(a1.length:Int))).bind fun v81=>(dC x53 v81).bind fun v83=>(bW (v83*1000000000)).bind fun v85=>(bW (x59+(a1.length:Int))).bind fun v87=>(bW (v87-1)).bind fun v89=>(dC x53 v89).bind fun v91=>(bW (v85+v91)).bind fun v93=>(bW ((a1.length:Int)-1)).bind fun v97=>(dC x17 v97).bind fun v99=>(vW v93 v99).bind fun v101=>(bW ((a1.length:Int)-1)).bind fun v103=>(dC x17 v103).bind fun v105=>(vM v93 v105).bind fun v107=>(eV K a1 x17 x53 x59 K v101 v107).bind fun x113=>nY K a1 x17 x47 x53 x59 (fG K a1 x17 k) x113) else(some (x47,x53))
def sW (K:Nat) (a0:List Int) (a1:List Int):Option ((List Int)×(List Int)):=
 (bW ((a1.length:Int)-1)).bind fun v1=>(dC a1 v1).bind fun v3=>(bW (v3+1)).bind fun v5=>(vW 1000000000 v5).bind fun v7=>(mN K a0 v7).bind fun v11=>(mN K a1 v7).bind fun v15=>(slL v15 0 (a1.length:Int)).bind fun x17=>(bW ((a0.length:Int)-(a1.length:Int))).bind fun v23=>(bW (v23+1)).bind fun v25=>(vK v25 0).bind fun x27=>(bW ((a0.length:Int)-(a1.length:Int))).bind fun v32=>(fG K a1 x17 K x27 v11 v32).bind fun(x60,x66)=>rS K a1 v7 x60 x66
theorem aB6 {K:Nat} {a0:List Int} {a1:List Int} {r:(List Int)×(List Int)} (hF:sW K a0 a1=some r):Ct Tryz.prog 258 [.vc (pS cI a0),.vc (pS cI a1)] (.t2 (.vc (pS cI r.1)) (.vc (pS cI r.2))):=by
 unfold sW at hF
 refine bD Tryz.func258 rfl (by kernel_rfl) Tryz.ntmps258 rfl (fun w0 M0=>?_)
 refine aE (aF (aB (aN (.inr rfl)) ⟨dX cI,trivial⟩ ?_))
 refine aB (aN (.inr rfl)) ⟨dX cI,trivial⟩ ?_
 refine aC (aA (aE (aF (aI ?_))))
 refine aI ?_
 refine aB (bX rfl tyS22) zU1 ?_
 obtain⟨v1,h2,hF⟩:=aP hF
 refine aB (eM rfl h2) ⟨rfl,bI _ _,trivial⟩ ?_
 obtain⟨v3,h4,hF⟩:=aP hF
 refine aB (cO rfl tyS22 h4) zU2 ?_
 refine aB (cK 1 rfl rfl (.one tyO3)) zU1 ?_
 obtain⟨v5,h6,hF⟩:=aP hF
 refine aB (bO rfl h6) ⟨rfl,bI _ _,trivial⟩ ?_
 obtain⟨v7,h8,hF⟩:=aP hF
 refine aB (sF rfl h8) ⟨bI _ _,rfl,trivial⟩ ?_
 refine bH ?_
 refine aC (aA (aE ?_))
 obtain⟨v11,h12,hF⟩:=aP hF
 obtain⟨v15,h16,hF⟩:=aP hF
 obtain⟨x17,h18,hF⟩:=aP hF
 refine nJ (HsM [(0,fun G9=>[]),(1,fun G9=>[hO cI ((G9 2).1) ((G9 2).2) 3 v11.length v11]),(3,fun G9=>[hO cI ((G9 9).1) ((G9 9).2) 3 v11.length v11])]) [2,9] [0,0,3,0,0,31,0,64,255,63,1023] 11 0 [.v (.vc (pS cI a0)),.v (.vc (pI .i64 v7)),.g (fun b c=>.vc (pO b v11.length c)),.v (.vc (pS cI a1)),.v (.vc (pI .i64 v7)),.v (.vc (pS cI v15)),.v (.vc (pS cI a1)),.v (.vc (pI .i64 (a1.length:Int))),.v (.vc (pS cI x17)),.g (fun b c=>.vc (pO b v11.length c)),.v (.vc (pS cI x17))] aU ⟨d1 0 (aN (.inl rfl)) zU1,d1 0 (aN (.inl rfl)) zU1,⟨rfl,.hvy [0] ⟨fun G9 A=>aJv rfl (vX h12) rfl,trivial⟩ (fun G9=>zU2)⟩,⟨rfl,.run (L:=[0,1]) ⟨fun G9 A=>aN (.inl rfl),fun G9 A=>aN (.inl rfl),trivial⟩ (fun G9=>zU1)⟩,⟨rfl,.run (L:=[0,1]) ⟨fun G9 A=>aN (.inl rfl),fun G9 A=>aN (.inl rfl),trivial⟩ (fun G9=>zU1)⟩,d1 1 (aJ rfl (aBe h16) rfl) zU2,⟨rfl,.run (L:=[0,1,3]) ⟨fun G9 A=>aN (.inl rfl),fun G9 A=>aN (.inl rfl),fun G9 A=>aN (.inl rfl),trivial⟩ (fun G9=>zU1)⟩,⟨rfl,.run (L:=[0,1,3]) ⟨fun G9 A=>bX rfl tyS22,fun G9 A=>bX rfl tyS22,fun G9 A=>bX rfl tyS22,trivial⟩ (fun G9=>zU1)⟩,⟨rfl,.run (L:=[1,3]) ⟨fun G9 A=>z6 rfl tyS22 h18,fun G9 A=>z6 rfl tyS22 h18,trivial⟩ (fun G9=>zU2)⟩,⟨rfl,.hvy [1] ⟨fun G9 A=>aLK ((G9 2).1) ((G9 2).2) (aN (.inr rfl)),trivial⟩ (fun G9=>zU1)⟩,d1 3 (aN (.inr rfl)) zU1,trivial⟩ (fun bs10 G9=>?_)
 refine aC (aA (aE (aF (aI ?_))))
 refine aB (bX rfl tyS22) zU1 ?_
 refine bH ?_
 refine aC (aA (aE (aF (aI ?_))))
 refine aB (bX rfl tyS22) zU1 ?_
 refine aI ?_
 obtain⟨v23,h24,hF⟩:=aP hF
 refine aB (eM rfl h24) zU2 ?_
 obtain⟨v25,h26,hF⟩:=aP hF
 refine aB (bO rfl h26) ⟨rfl,bI _ _,trivial⟩ ?_
 obtain⟨x27,h28,hF⟩:=aP hF
 refine r6 (C:=cI) rfl tyS22 rfl tyZ3 rfl h28 (fun b29=>?_)
 refine bH ?_
 refine aC (aA (aE (aE (aF (aI ?_)))))
 refine aB (bX rfl tyS22) zU1 ?_
 refine aI ?_
 obtain⟨v32,h33,hF⟩:=aP hF
 refine aB (eM rfl h33) zU2 ?_
 refine bH ?_
 refine aC (aA (bR (cJ (fun H E=>∃(x60:List Int),∃(x66:List Int),rS K a1 v7 x60 x66=some r∧x60.length=x27.length∧x66.length=v11.length∧H=[hO cI b29 x27.length 3 x27.length x60,hO cI ((G9 9).1) ((G9 9).2) 3 v11.length x66]∧E=[(6,.vc (pI .i64 v7)),(7,.vc (pO ((G9 9).1) v11.length ((G9 9).2))),(9,.vc (pI .i64 (a1.length:Int))),(10,.vc (pO b29 x27.length x27.length))]) ?_ (fun Jj73=>?_))))
 ·rintro _ _ ⟨x60,x66,hF,q64,q70,rfl,rfl⟩
  unfold rS at hF
  refine aA (aE (aF (aI ?_)))
  refine aI ?_
  refine wI 1 [7,213] rfl q70 zU2 rfl ?_
  obtain⟨x74,h75,hF⟩:=aP hF
  refine aB (z6 rfl tyS22 h75) zU2 ?_
  refine aI ?_
  obtain⟨v76,h77,hF⟩:=aP hF
  refine aB (aJ rfl (xP h77) rfl) zU2 ?_
  refine aI ?_
  refine aB (lT rfl) zU1 ?_
  refine aB (lO rfl) zU1 ?_
  refine bH ?_
  refine bH ?_
  refine aC (aA (aE (aF (aI ?_))))
  refine aI ?_
  refine bH ?_
  refine bH ?_
  refine aC (aA (a9 (a8 (uB 0 [4,10,220] rfl q64 ⟨rfl,rfl,rfl,trivial⟩ rfl ?_))))
  obtain rfl:=bV hF
  exact aL (.inl rfl) Tryz.results258 (.tmp rfl (.tmp rfl .nil)) rfl rfl
 obtain⟨⟨x60',x66'⟩,hL,hRl72⟩:=aP hF
 refine gB (fun k a w=>∃(x47:List Int),∃(x53:List Int),∃(x59:Int),fG K a1 x17 k x47 x53 x59=some (x60',x66')∧x47.length=x27.length∧x53.length=v11.length∧hs _ [hO cI b29 x27.length 3 x27.length x47,hO cI ((G9 9).1) ((G9 9).2) 3 v11.length x53] [(6,.vc (pI .i64 v7)),(7,.vc (pO ((G9 9).1) v11.length ((G9 9).2))),(8,.vc (pS cI x17)),(9,.vc (pI .i64 (a1.length:Int))),(10,.vc (pO b29 x27.length x27.length)),(11,.vc (pI .i64 x59))] a w) K (fun a w ⟨_,_,_,hF,_,_,_⟩=>by cases hF) (fun k a w ⟨x47,x53,x59,hF,q51,q57,hh⟩=>gE ?_ hh) (fun a w hh=>⟨x27,v11,v32,hL,rfl,rfl,bF [0,1] rfl (by decide) (by exact⟨rfl,rfl,rfl,rfl,rfl,rfl,trivial⟩) hh⟩)
 rw [fG.eq_2] at hF
 refine aE (aE (aF (aI ?_)))
 refine aB (uP rfl) ⟨rfl,bI _ _,trivial⟩ ?_
 refine aC (aA (bS rfl (fun h78=>?_) (fun h78=>?_)))
 ·have hF:=aV h78 hF
  refine bA (aA (aE (bR (aGF (aE ?_)))))
  obtain⟨v81,h82,hF⟩:=aP hF
  obtain⟨v83,h84,hF⟩:=aP hF
  obtain⟨v85,h86,hF⟩:=aP hF
  obtain⟨v87,h88,hF⟩:=aP hF
  obtain⟨v89,h90,hF⟩:=aP hF
  obtain⟨v91,h92,hF⟩:=aP hF
  obtain⟨v93,h94,hF⟩:=aP hF
  refine bT [0,0,0,6,15,31,63,0,0,0,768,1792,3968,8064,16383,32767] 16 0 [.v (.vc (pO ((G9 9).1) v11.length ((G9 9).2))),.v (.vc (pI .i64 x59)),.v (.vc (pI .i64 (a1.length:Int))),.v (.vc (pI .i64 v81)),.v (.vc (pE ((G9 9).1) v81 cI.n 0)),.v (.vc (pI .i64 v83)),.v (.vc (pI .i64 v85)),.v (.vc (pO ((G9 9).1) v11.length ((G9 9).2))),.v (.vc (pI .i64 x59)),.v (.vc (pI .i64 (a1.length:Int))),.v (.vc (pI .i64 v87)),.v (.vc (pI .i64 v89)),.v (.vc (pE ((G9 9).1) v89 cI.n 0)),.v (.vc (pI .i64 v91)),.v (.vc (pI .i64 v93)),.v (.vc (pI .i64 v93))] aU ⟨d0 (aN (.inl rfl)) zU1,d0 (aN (.inl rfl)) zU1,d0 (aN (.inl rfl)) zU1,d0 (bO rfl h82) zU2,d0 (cS (C:=cI) 1 rfl tyS22 rfl q57 (aS h84).1 (aS h84).2.1) zU2,d0 (g9 (k:=1) 1 rfl rfl h84 rfl (.one tyO3) rfl) zU1,d0 (pL rfl h86) ⟨rfl,bI _ _,trivial⟩,d0 (aN (.inl rfl)) zU1,d0 (aN (.inl rfl)) zU1,d0 (aN (.inl rfl)) zU1,d0 (bO rfl h88) zU2,d0 (eM rfl h90) ⟨rfl,bI _ _,trivial⟩,d0 (cS (C:=cI) 1 rfl tyS22 rfl q57 (aS h92).1 (aS h92).2.1) zU2,d0 (g9 (k:=1) 1 rfl rfl h92 rfl (.one tyO3) rfl) zU1,d0 (bO rfl h94) zU2,d0 (aN (.inr rfl)) zU1,trivial⟩ (fun bs80 G79=>?_)
  refine aC (aA (aE ?_))
  obtain⟨v97,h98,hF⟩:=aP hF
  obtain⟨v99,h100,hF⟩:=aP hF
  obtain⟨v101,h102,hF⟩:=aP hF
  obtain⟨v103,h104,hF⟩:=aP hF
  obtain⟨v105,h106,hF⟩:=aP hF
  obtain⟨v107,h108,hF⟩:=aP hF
  refine bT [0,0,0,4,14,30,63,0,0,0,512,1792,3840,8064,127,32767] 16 0 [.v (.vc (pI .i64 v93)),.v (.vc (pS cI x17)),.v (.vc (pI .i64 (a1.length:Int))),.v (.vc (pI .i64 v97)),.v (.vc (pM (cI.e v99))),.v (.vc (pI .i64 v99)),.v (.vc (pI .i64 v101)),.v (.vc (pI .i64 v93)),.v (.vc (pS cI x17)),.v (.vc (pI .i64 (a1.length:Int))),.v (.vc (pI .i64 v103)),.v (.vc (pM (cI.e v105))),.v (.vc (pI .i64 v105)),.v (.vc (pI .i64 v107)),.v (.vc (pI .i64 v101)),.v (.vc (pI .i64 v107))] aU ⟨d0 (aN (.inl rfl)) zU1,d0 (aN (.inl rfl)) zU1,d0 (aN (.inl rfl)) zU1,d0 (eM rfl h98) ⟨rfl,bI _ _,trivial⟩,d0 (cO rfl tyS22 h100) zU2,d0 (cK 1 rfl rfl (.one tyO3)) zU1,d0 (sF rfl h102) zU2,d0 (aN (.inl rfl)) zU1,d0 (aN (.inl rfl)) zU1,d0 (aN (.inl rfl)) zU1,d0 (eM rfl h104) ⟨rfl,bI _ _,trivial⟩,d0 (cO rfl tyS22 h106) zU2,d0 (cK 1 rfl rfl (.one tyO3)) zU1,d0 (rA rfl h108) zU2,d0 (aN (.inr rfl)) zU1,d0 (aN (.inr rfl)) zU1,trivial⟩ (fun bs96 G95=>?_)
  refine aC (aA (aE (aGS (aA (aE (bR (cJ (fun H E=>∃(x113:Int),nY K a1 x17 x47 x53 x59 (fG K a1 x17 k) x113=some (x60',x66')∧H=[hO cI b29 x27.length 3 x27.length x47,hO cI ((G9 9).1) ((G9 9).2) 3 v11.length x53]∧E=[(6,.vc (pI .i64 v7)),(7,.vc (pO ((G9 9).1) v11.length ((G9 9).2))),(8,.vc (pS cI x17)),(9,.vc (pI .i64 (a1.length:Int))),(10,.vc (pO b29 x27.length x27.length)),(11,.vc (pI .i64 x59)),(13,.vc (pI .i64 x113))]) ?_ (fun Jj115=>?_))))))))
  ·rintro _ _ ⟨x113,hF,rfl,rfl⟩
   unfold nY at hF
   refine aA (aE (aF (aB (aN (.inr rfl)) ⟨bI _ _,trivial⟩ ?_)))
   refine aC (aA (aE (aE (aF (aI ?_)))))
   refine aB (aN (.inl rfl)) ⟨bI _ _,trivial⟩ ?_
   refine aC (aA (bR (cJ (fun H E=>∃(x132:List Int),∃(x138:Int),n0 K a1 x17 x47 x59 x113 (fG K a1 x17 k) x132 x138=some (x60',x66')∧x132.length=v11.length∧H=[hO cI b29 x27.length 3 x27.length x47,hO cI ((G9 9).1) ((G9 9).2) 3 v11.length x132]∧E=[(6,.vc (pI .i64 v7)),(7,.vc (pO ((G9 9).1) v11.length ((G9 9).2))),(8,.vc (pS cI x17)),(9,.vc (pI .i64 (a1.length:Int))),(10,.vc (pO b29 x27.length x27.length)),(11,.vc (pI .i64 x59)),(13,.vc (pI .i64 x113)),(15,.vc (pI .i64 x138))]) ?_ (fun Jj140=>?_))))
   ·rintro _ _ ⟨x132,x138,hF,q136,rfl,rfl⟩
    unfold n0 at hF
    refine aA (aE (aE (aF (aI ?_))))
    refine aI ?_
    refine aI ?_
    obtain⟨v141,h142,hF⟩:=aP hF
    refine aB (bO rfl h142) zU2 ?_
    obtain⟨v143,h144,hF⟩:=aP hF
    refine aB (cS (C:=cI) 1 rfl tyS22 rfl q136 (aS h144).1 (aS h144).2.1) zU2 ?_
    refine aB (g9 (k:=1) 1 rfl rfl h144 rfl (.one tyO3) rfl) zU1 ?_
    refine aI ?_
    obtain⟨v145,h146,hF⟩:=aP hF
    refine aB (eM rfl h146) zU2 ?_
    obtain⟨v147,h148,hF⟩:=aP hF
    refine aB (cS (C:=cI) 1 rfl tyS22 rfl q136 (aS h148).1 (aS h148).2.1) zU2 ?_
    obtain⟨x149,h150,hF⟩:=aP hF
    refine bG (fW 1 rfl rfl h148 h150 tyO3.s) zU2 ?_
    refine aC (aA (aE (aF (aI ?_))))
    refine aI ?_
    refine aI ?_
    obtain⟨v152,h153,hF⟩:=aP hF
    refine aB (bO rfl h153) zU2 ?_
    obtain⟨v154,h155,hF⟩:=aP hF
    refine aB (cS (C:=cI) 1 rfl tyS22 rfl (cE h150 q136) (aS h155).1 (aS h155).2.1) zU2 ?_
    refine aB (g9 (k:=1) 1 rfl rfl h155 rfl (.one tyO3) rfl) zU1 ?_
    refine aB (dQ rfl) ⟨rfl,bI _ _,trivial⟩ ?_
    refine aC (aA (bS rfl (fun h156=>?_) (fun h156=>?_)))
    ·have hF:=aV h156 hF
     refine aE (aF (aI ?_))
     obtain⟨v157,h158,hF⟩:=aP hF
     refine aB (eM rfl h158) ⟨rfl,bI _ _,trivial⟩ ?_
     refine bH ?_
     refine aC (aA (aE (aF (aB (aN (.inr rfl)) ⟨bI _ _,trivial⟩ ?_))))
     refine aC (aA (aE (aE (aF (aI ?_)))))
     refine aB (aN (.inl rfl)) ⟨bI _ _,trivial⟩ ?_
     refine aC (aA (bR (cJ (fun H E=>∃(x175:List Int),∃(x181:Int),qP K a1 x47 x59 v157 (fG K a1 x17 k) x175 x181=some (x60',x66')∧x175.length=v11.length∧H=[hO cI b29 x27.length 3 x27.length x47,hO cI ((G9 9).1) ((G9 9).2) 3 v11.length x175]∧E=[(6,.vc (pI .i64 v7)),(7,.vc (pO ((G9 9).1) v11.length ((G9 9).2))),(8,.vc (pS cI x17)),(9,.vc (pI .i64 (a1.length:Int))),(10,.vc (pO b29 x27.length x27.length)),(11,.vc (pI .i64 x59)),(13,.vc (pI .i64 v157)),(15,.vc (pI .i64 x181))]) ?_ (fun Jj183=>?_))))
     ·rintro _ _ ⟨x175,x181,hF,q179,rfl,rfl⟩
      unfold qP at hF
      refine aA (aF (aI ?_))
      refine aI ?_
      refine aI ?_
      obtain⟨v184,h185,hF⟩:=aP hF
      refine aB (bO rfl h185) zU2 ?_
      obtain⟨v186,h187,hF⟩:=aP hF
      refine aB (cS (C:=cI) 1 rfl tyS22 rfl q179 (aS h187).1 (aS h187).2.1) zU2 ?_
      refine aB (g9 (k:=1) 1 rfl rfl h187 rfl (.one tyO3) rfl) zU1 ?_
      refine aI ?_
      obtain⟨v188,h189,hF⟩:=aP hF
      refine aB (bO rfl h189) zU2 ?_
      obtain⟨v190,h191,hF⟩:=aP hF
      refine aB (cS (C:=cI) 1 rfl tyS22 rfl q179 (aS h191).1 (aS h191).2.1) zU2 ?_
      obtain⟨x192,h193,hF⟩:=aP hF
      refine bG (fW 1 rfl rfl h191 h193 tyO3.s) zU2 ?_
      refine aC (aA (aF (aI ?_)))
      refine aI ?_
      refine aI ?_
      obtain⟨v195,h196,hF⟩:=aP hF
      refine aB (cS (C:=cI) 0 rfl tyS22 rfl q51 (aS h196).1 (aS h196).2.1) zU2 ?_
      obtain⟨x197,h198,hF⟩:=aP hF
      refine bG (fW 0 rfl rfl h196 h198 tyO3.s) zU2 ?_
      refine aC (aKx (bJ (aA (aF (aI ?_)))))
      obtain⟨v200,h201,hF⟩:=aP hF
      refine aB (eM rfl h201) ⟨rfl,bI _ _,trivial⟩ ?_
      refine bH ?_
      refine aC ?_
      exact bL (fun a w hh=>⟨x197,x192,v200,hF,(cE h198 q51),(cE h193 q179),bF [0,1] rfl (by decide) (by exact⟨rfl,rfl,rfl,rfl,rfl,rfl,trivial⟩) hh⟩)
     obtain⟨⟨x175',x181'⟩,hL,hRl182⟩:=aP hF
     refine gB (fun k a w=>∃(x167:List Int),∃(x173:Int),∃(x174:Int),iP K a1 x17 x59 k x167 x173 x174=some (x175',x181')∧x167.length=v11.length∧hs _ [hO cI b29 x27.length 3 x27.length x47,hO cI ((G9 9).1) ((G9 9).2) 3 v11.length x167] [(6,.vc (pI .i64 v7)),(7,.vc (pO ((G9 9).1) v11.length ((G9 9).2))),(8,.vc (pS cI x17)),(9,.vc (pI .i64 (a1.length:Int))),(10,.vc (pO b29 x27.length x27.length)),(11,.vc (pI .i64 x59)),(13,.vc (pI .i64 v157)),(15,.vc (pI .i64 x173)),(172,.vc (pI .i64 (a1.length:Int))),(173,.vc (pI .i64 x174))] a w) K (fun a w ⟨_,_,_,hF,_,_⟩=>by cases hF) (fun k a w ⟨x167,x173,x174,hF,q171,hh⟩=>gE ?_ hh) (fun a w hh=>⟨x149,0,0,hL,(cE h150 q136),bF [0,1] rfl (by decide) (by exact⟨rfl,rfl,rfl,rfl,rfl,rfl,rfl,rfl,rfl,rfl,trivial⟩) hh⟩)
     rw [iP.eq_2] at hF
     refine aE (aF (aB (dQ rfl) zU2 ?_))
     refine aC (aA (aE (bS rfl (fun h202=>?_) (fun h202=>?_))))
     ·have hF:=aV h202 hF
      refine bA (aA (aE (bR (aE (aF (aI ?_))))))
      refine bH ?_
      refine aC (aA (aE ?_))
      obtain⟨v205,h206,hF⟩:=aP hF
      obtain⟨v207,h208,hF⟩:=aP hF
      obtain⟨v209,h210,hF⟩:=aP hF
      obtain⟨v211,h212,hF⟩:=aP hF
      obtain⟨v213,h214,hF⟩:=aP hF
      refine bT [0,0,0,6,15,31,0,0,192,448,1023,0,4095,8191] 14 0 [.v (.vc (pO ((G9 9).1) v11.length ((G9 9).2))),.v (.vc (pI .i64 x174)),.v (.vc (pI .i64 x59)),.v (.vc (pI .i64 v205)),.v (.vc (pE ((G9 9).1) v205 cI.n 0)),.v (.vc (pI .i64 v207)),.v (.vc (pS cI x17)),.v (.vc (pI .i64 x174)),.v (.vc (pM (cI.e v209))),.v (.vc (pI .i64 v209)),.v (.vc (pI .i64 v211)),.v (.vc (pI .i64 x173)),.v (.vc (pI .i64 v213)),.v (.vc (pI .i64 v213))] aU ⟨d0 (aN (.inl rfl)) zU1,d0 (aN (.inl rfl)) zU1,d0 (aN (.inl rfl)) zU1,d0 (bO rfl h206) zU2,d0 (cS (C:=cI) 1 rfl tyS22 rfl q171 (aS h208).1 (aS h208).2.1) zU2,d0 (g9 (k:=1) 1 rfl rfl h208 rfl (.one tyO3) rfl) zU1,d0 (aN (.inl rfl)) zU1,d0 (aN (.inl rfl)) zU1,d0 (cO rfl tyS22 h210) zU2,d0 (cK 1 rfl rfl (.one tyO3)) zU1,d0 (bO rfl h212) zU2,d0 (aN (.inl rfl)) zU1,d0 (bO rfl h214) zU2,d0 (aN (.inr rfl)) zU1,trivial⟩ (fun bs204 G203=>?_)
      refine aC (aA (aF (aI ?_)))
      refine aI ?_
      refine aI ?_
      obtain⟨v215,h216,hF⟩:=aP hF
      refine aB (bO rfl h216) zU2 ?_
      refine aI ?_
      obtain⟨v217,h218,hF⟩:=aP hF
      refine aB (rA rfl h218) ⟨rfl,bI _ _,trivial⟩ ?_
      refine aI ?_
      obtain⟨v219,h220,hF⟩:=aP hF
      refine aB (sF rfl h220) ⟨rfl,bI _ _,trivial⟩ ?_
      obtain⟨v221,h222,hF⟩:=aP hF
      refine aB (cS (C:=cI) 1 rfl tyS22 rfl q171 (aS h222).1 (aS h222).2.1) zU2 ?_
      obtain⟨x223,h224,hF⟩:=aP hF
      refine bG (fW 1 rfl rfl h222 h224 tyO3.s) zU2 ?_
      refine bH ?_
      refine aC (bJ (aA (aF ?_)))
      obtain⟨v226,h227,hF⟩:=aP hF
      refine aB (bO rfl h227) ⟨rfl,bI _ _,trivial⟩ ?_
      refine aI ?_
      refine aC ?_
      exact bL (fun a w hh=>⟨x223,v219,v226,hF,(cE h224 q171),bF [0,1] rfl (by decide) (by exact⟨rfl,rfl,rfl,rfl,rfl,rfl,rfl,rfl,rfl,rfl,trivial⟩) hh⟩)
     have hF:=aX h202 hF
     refine dI ?_
     obtain⟨rfl,rfl⟩:=sm2 hF
     exact bU Jj183 ⟨x167,x173,hRl182,q171,rfl,rfl⟩ [0,1] rfl ⟨rfl,rfl,rfl,rfl,rfl,rfl,rfl,rfl,trivial⟩
    have hF:=aX h156 hF
    refine bA (aA (aF (aI ?_)))
    refine aI ?_
    refine aI ?_
    obtain⟨v228,h229,hF⟩:=aP hF
    refine aB (cS (C:=cI) 0 rfl tyS22 rfl q51 (aS h229).1 (aS h229).2.1) zU2 ?_
    obtain⟨x230,h231,hF⟩:=aP hF
    refine bG (fW 0 rfl rfl h229 h231 tyO3.s) zU2 ?_
    refine aC (aKx (bJ (aA (aF (aI ?_)))))
    obtain⟨v233,h234,hF⟩:=aP hF
    refine aB (eM rfl h234) ⟨rfl,bI _ _,trivial⟩ ?_
    refine bH ?_
    refine aC ?_
    exact bL (fun a w hh=>⟨x230,x149,v233,hF,(cE h231 q51),(cE h150 q136),bF [0,1] rfl (by decide) (by exact⟨rfl,rfl,rfl,rfl,rfl,rfl,trivial⟩) hh⟩)
   obtain⟨⟨x132',x138'⟩,hL,hRl139⟩:=aP hF
   refine gB (fun k a w=>∃(x124:List Int),∃(x130:Int),∃(x131:Int),fN K a1 x17 x59 x113 k x124 x130 x131=some (x132',x138')∧x124.length=v11.length∧hs _ [hO cI b29 x27.length 3 x27.length x47,hO cI ((G9 9).1) ((G9 9).2) 3 v11.length x124] [(6,.vc (pI .i64 v7)),(7,.vc (pO ((G9 9).1) v11.length ((G9 9).2))),(8,.vc (pS cI x17)),(9,.vc (pI .i64 (a1.length:Int))),(10,.vc (pO b29 x27.length x27.length)),(11,.vc (pI .i64 x59)),(13,.vc (pI .i64 x113)),(15,.vc (pI .i64 x130)),(117,.vc (pI .i64 (a1.length:Int))),(118,.vc (pI .i64 x131))] a w) K (fun a w ⟨_,_,_,hF,_,_⟩=>by cases hF) (fun k a w ⟨x124,x130,x131,hF,q128,hh⟩=>gE ?_ hh) (fun a w hh=>⟨x53,0,0,hL,q57,bF [0,1] rfl (by decide) (by exact⟨rfl,rfl,rfl,rfl,rfl,rfl,rfl,rfl,rfl,rfl,trivial⟩) hh⟩)
   rw [fN.eq_2] at hF
   refine aE (aF (aB (dQ rfl) zU2 ?_))
   refine aC (aA (aE (bS rfl (fun h235=>?_) (fun h235=>?_))))
   ·have hF:=aV h235 hF
    refine bA (aA (aE (bR (aE (aF (aI ?_))))))
    refine bH ?_
    refine aC (aA (aE ?_))
    obtain⟨v238,h239,hF⟩:=aP hF
    obtain⟨v240,h241,hF⟩:=aP hF
    obtain⟨v242,h243,hF⟩:=aP hF
    obtain⟨v244,h245,hF⟩:=aP hF
    obtain⟨v246,h247,hF⟩:=aP hF
    obtain⟨v248,h249,hF⟩:=aP hF
    refine bT [0,0,0,6,15,31,0,0,0,384,896,1984,4095,0,16383,32767] 16 0 [.v (.vc (pO ((G9 9).1) v11.length ((G9 9).2))),.v (.vc (pI .i64 x131)),.v (.vc (pI .i64 x59)),.v (.vc (pI .i64 v238)),.v (.vc (pE ((G9 9).1) v238 cI.n 0)),.v (.vc (pI .i64 v240)),.v (.vc (pI .i64 x113)),.v (.vc (pS cI x17)),.v (.vc (pI .i64 x131)),.v (.vc (pM (cI.e v242))),.v (.vc (pI .i64 v242)),.v (.vc (pI .i64 v244)),.v (.vc (pI .i64 v246)),.v (.vc (pI .i64 x130)),.v (.vc (pI .i64 v248)),.v (.vc (pI .i64 v248))] aU ⟨d0 (aN (.inl rfl)) zU1,d0 (aN (.inl rfl)) zU1,d0 (aN (.inl rfl)) zU1,d0 (bO rfl h239) zU2,d0 (cS (C:=cI) 1 rfl tyS22 rfl q128 (aS h241).1 (aS h241).2.1) zU2,d0 (g9 (k:=1) 1 rfl rfl h241 rfl (.one tyO3) rfl) zU1,d0 (aN (.inl rfl)) zU1,d0 (aN (.inl rfl)) zU1,d0 (aN (.inl rfl)) zU1,d0 (cO rfl tyS22 h243) zU2,d0 (cK 1 rfl rfl (.one tyO3)) zU1,d0 (pL rfl h245) zU2,d0 (eM rfl h247) zU2,d0 (aN (.inl rfl)) zU1,d0 (eM rfl h249) zU2,d0 (aN (.inr rfl)) zU1,trivial⟩ (fun bs237 G236=>?_)
    refine aC (aA (aE (aF (aB (aN (.inr rfl)) ⟨bI _ _,trivial⟩ ?_))))
    refine aC (aA (aE (aE (aF (aI ?_)))))
    refine aB (dQ rfl) ⟨rfl,bI _ _,trivial⟩ ?_
    refine aC (aA (bS rfl (fun h250=>?_) (fun h250=>?_)))
    ·have hF:=aV h250 hF
     refine aE (aF (aI ?_))
     obtain⟨v251,h252,hF⟩:=aP hF
     refine aB (aFd rfl h252) zU1 ?_
     obtain⟨v253,h254,hF⟩:=aP hF
     refine aB (bO rfl h254) ⟨rfl,bI _ _,trivial⟩ ?_
     obtain⟨v255,h256,hF⟩:=aP hF
     refine aB (eM rfl h256) ⟨rfl,bI _ _,trivial⟩ ?_
     obtain⟨v257,h258,hF⟩:=aP hF
     refine aB (sF rfl h258) ⟨rfl,bI _ _,trivial⟩ ?_
     refine bH ?_
     refine aC (aA (aF (aI ?_)))
     refine aI ?_
     obtain⟨v259,h260,hF⟩:=aP hF
     refine aB (pL rfl h260) ⟨rfl,bI _ _,trivial⟩ ?_
     obtain⟨v261,h262,hF⟩:=aP hF
     refine aB (bO rfl h262) zU2 ?_
     refine bH ?_
     refine aC (aA (aF (aI ?_)))
     refine aI ?_
     refine aI ?_
     obtain⟨v263,h264,hF⟩:=aP hF
     refine aB (bO rfl h264) zU2 ?_
     refine aI ?_
     obtain⟨v265,h266,hF⟩:=aP hF
     refine aB (cS (C:=cI) 1 rfl tyS22 rfl q128 (aS h266).1 (aS h266).2.1) zU2 ?_
     obtain⟨x267,h268,hF⟩:=aP hF
     refine bG (fW 1 rfl rfl h266 h268 tyO3.s) zU2 ?_
     refine aC (bJ (aA (aF ?_)))
     obtain⟨v270,h271,hF⟩:=aP hF
     refine aB (bO rfl h271) ⟨rfl,bI _ _,trivial⟩ ?_
     refine aI ?_
     refine aC ?_
     exact bL (fun a w hh=>⟨x267,v257,v270,hF,(cE h268 q128),bF [0,1] rfl (by decide) (by exact⟨rfl,rfl,rfl,rfl,rfl,rfl,rfl,rfl,rfl,rfl,trivial⟩) hh⟩)
    have hF:=aX h250 hF
    refine bA (aA (aF (aI ?_)))
    refine aI ?_
    refine aI ?_
    obtain⟨v272,h273,hF⟩:=aP hF
    refine aB (bO rfl h273) zU2 ?_
    refine aI ?_
    obtain⟨v274,h275,hF⟩:=aP hF
    refine aB (cS (C:=cI) 1 rfl tyS22 rfl q128 (aS h275).1 (aS h275).2.1) zU2 ?_
    obtain⟨x276,h277,hF⟩:=aP hF
    refine bG (fW 1 rfl rfl h275 h277 tyO3.s) zU2 ?_
    refine aC (bJ (aA (aF ?_)))
    obtain⟨v279,h280,hF⟩:=aP hF
    refine aB (bO rfl h280) ⟨rfl,bI _ _,trivial⟩ ?_
    refine aI ?_
    refine aC ?_
    exact bL (fun a w hh=>⟨x276,0,v279,hF,(cE h277 q128),bF [0,1] rfl (by decide) (by exact⟨rfl,rfl,rfl,rfl,rfl,rfl,rfl,rfl,rfl,rfl,trivial⟩) hh⟩)
   have hF:=aX h235 hF
   refine dI ?_
   obtain⟨rfl,rfl⟩:=sm2 hF
   exact bU Jj140 ⟨x124,x130,hRl139,q128,rfl,rfl⟩ [0,1] rfl ⟨rfl,rfl,rfl,rfl,rfl,rfl,rfl,rfl,trivial⟩
  obtain⟨x113',hL,hRl114⟩:=aP hF
  refine gB (fun k a w=>∃(x111:Int),∃(x112:Int),eV K a1 x17 x53 x59 k x111 x112=some x113'∧hs _ [hO cI b29 x27.length 3 x27.length x47,hO cI ((G9 9).1) ((G9 9).2) 3 v11.length x53] [(6,.vc (pI .i64 v7)),(7,.vc (pO ((G9 9).1) v11.length ((G9 9).2))),(8,.vc (pS cI x17)),(9,.vc (pI .i64 (a1.length:Int))),(10,.vc (pO b29 x27.length x27.length)),(11,.vc (pI .i64 x59)),(13,.vc (pI .i64 x111)),(14,.vc (pI .i64 x112))] a w) K (fun a w ⟨_,_,hF,_⟩=>by cases hF) (fun k a w ⟨x111,x112,hF,hh⟩=>gE ?_ hh) (fun a w hh=>⟨v101,v107,hL,bF [0,1] rfl (by decide) (by exact⟨rfl,rfl,rfl,rfl,rfl,rfl,rfl,rfl,trivial⟩) hh⟩)
  rw [eV.eq_2] at hF
  refine aE (aE ?_)
  rcases Bool.eq_false_or_eq_true (decide (1000000000≤x111)) with h283|h283
  ·have hF:=aV h283 hF
   refine bT [0,1,3,7,7,7,39,119,247,511,7,1031,7,7,7,24583,57351,126983,258055,523271,1048575,2097151] 22 0 [.v (.vc (pI .i64 x111)),.v (.vc (pB (decide (1000000000≤x111)))),.v (.vc (pB true)),.v .un,.v .un,.v .un,.v .un,.v .un,.v .un,.v .un,.v .un,.v .un,.v .un,.v .un,.v .un,.v .un,.v .un,.v .un,.v .un,.v .un,.v .un,.v (.vc (pB true))] aU ⟨d0 (aN (.inl rfl)) zU1,d0 (uP rfl) ⟨rfl,bI _ _,trivial⟩,d0 (cX (aN (.inl rfl)) h283) zU1,⟨rfl,.skipN⟩,⟨rfl,.skipN⟩,⟨rfl,.skipN⟩,⟨rfl,.skipN⟩,⟨rfl,.skipN⟩,⟨rfl,.skipN⟩,⟨rfl,.skipN⟩,⟨rfl,.skipN⟩,⟨rfl,.skipN⟩,⟨rfl,.skipN⟩,⟨rfl,.skipN⟩,⟨rfl,.skipN⟩,⟨rfl,.skipN⟩,⟨rfl,.skipN⟩,⟨rfl,.skipN⟩,⟨rfl,.skipN⟩,⟨rfl,.skipN⟩,⟨rfl,.skipN⟩,d0 (bM rfl) ⟨rfl,cW _,trivial⟩,trivial⟩ (fun bs282 G281=>?_)
   refine aC (aA (iO rfl ?_))
   refine bA (aA (bR (aE (aF (aI ?_)))))
   obtain⟨v284,h285,hF⟩:=aP hF
   refine aB (eM rfl h285) ⟨rfl,bI _ _,trivial⟩ ?_
   refine bH ?_
   refine aC (aA (aE (aF (aI ?_))))
   refine aI ?_
   refine aI ?_
   obtain⟨v286,h287,hF⟩:=aP hF
   refine aB (eM rfl h287) ⟨rfl,bI _ _,trivial⟩ ?_
   obtain⟨v288,h289,hF⟩:=aP hF
   refine aB (cO rfl tyS22 h289) zU2 ?_
   refine aB (cK 1 rfl rfl (.one tyO3)) zU1 ?_
   obtain⟨v290,h291,hF⟩:=aP hF
   refine aB (bO rfl h291) zU2 ?_
   refine bH ?_
   refine aC (aA (aE (aF (aI ?_))))
   refine aB (uP rfl) ⟨rfl,bI _ _,trivial⟩ ?_
   refine aC (aA (bS rfl (fun h292=>?_) (fun h292=>?_)))
   ·have hF:=aV h292 hF
    refine dI ?_
    obtain rfl:=bV hF
    exact bU Jj115 ⟨v284,hRl114,rfl,rfl⟩ [0,1] rfl ⟨rfl,rfl,rfl,rfl,rfl,rfl,rfl,trivial⟩
   have hF:=aX h292 hF
   refine bA (bJ ?_)
   exact bL (fun a w hh=>⟨v284,v290,hF,bF [0,1] rfl (by decide) (by exact⟨rfl,rfl,rfl,rfl,rfl,rfl,rfl,rfl,trivial⟩) hh⟩)
  have hF:=aX h283 hF
  obtain⟨v293,h294,hF⟩:=aP hF
  obtain⟨v295,h296,hF⟩:=aP hF
  obtain⟨v297,h298,hF⟩:=aP hF
  obtain⟨v299,h300,hF⟩:=aP hF
  obtain⟨v301,h302,hF⟩:=aP hF
  obtain⟨v303,h304,hF⟩:=aP hF
  obtain⟨v305,h306,hF⟩:=aP hF
  obtain⟨v307,h308,hF⟩:=aP hF
  refine bT [0,1,3,7,7,7,39,119,247,511,7,1031,7,7,7,24583,57351,126983,258055,523271,1048575,2097151] 22 0 [.v (.vc (pI .i64 x111)),.v (.vc (pB (decide (1000000000≤x111)))),.v (.vc (pB false)),.v (.vc (pI .i64 x111)),.v (.vc (pS cI x17)),.v (.vc (pI .i64 (a1.length:Int))),.v (.vc (pI .i64 v293)),.v (.vc (pM (cI.e v295))),.v (.vc (pI .i64 v295)),.v (.vc (pI .i64 v297)),.v (.vc (pI .i64 x112)),.v (.vc (pI .i64 v299)),.v (.vc (pO ((G9 9).1) v11.length ((G9 9).2))),.v (.vc (pI .i64 x59)),.v (.vc (pI .i64 (a1.length:Int))),.v (.vc (pI .i64 v301)),.v (.vc (pI .i64 v303)),.v (.vc (pE ((G9 9).1) v303 cI.n 0)),.v (.vc (pI .i64 v305)),.v (.vc (pI .i64 v307)),.v (.vc (pB (decide (v307<v297)))),.v (.vc (pB (decide (v307<v297))))] aU ⟨d0 (aN (.inl rfl)) zU1,d0 (uP rfl) ⟨rfl,bI _ _,trivial⟩,d0 (cX (aN (.inl rfl)) h283) zU1,g0 (aN (.inl rfl)) zU1,g0 (aN (.inl rfl)) zU1,g0 (aN (.inl rfl)) zU1,g0 (eM rfl h294) ⟨rfl,bI _ _,trivial⟩,g0 (cO rfl tyS22 h296) zU2,g0 (cK 1 rfl rfl (.one tyO3)) zU1,g0 (pL rfl h298) zU2,g0 (aN (.inl rfl)) zU1,g0 (pL rfl h300) ⟨rfl,bI _ _,trivial⟩,g0 (aN (.inl rfl)) zU1,g0 (aN (.inl rfl)) zU1,g0 (aN (.inl rfl)) zU1,g0 (bO rfl h302) zU2,g0 (eM rfl h304) ⟨rfl,bI _ _,trivial⟩,g0 (cS (C:=cI) 1 rfl tyS22 rfl q57 (aS h306).1 (aS h306).2.1) zU2,g0 (g9 (k:=1) 1 rfl rfl h306 rfl (.one tyO3) rfl) zU1,g0 (bO rfl h308) zU2,g0 (rV rfl) zU2,d0 (bN rfl) zU2,trivial⟩ (fun bs282 G281=>?_)
  refine aC (aA (bS rfl (fun h309=>?_) (fun h309=>?_)))
  ·have hF:=aV h309 hF
   refine bA (aA (bR (aE (aF (aI ?_)))))
   obtain⟨v310,h311,hF⟩:=aP hF
   refine aB (eM rfl h311) ⟨rfl,bI _ _,trivial⟩ ?_
   refine bH ?_
   refine aC (aA (aE (aF (aI ?_))))
   refine aI ?_
   refine aI ?_
   obtain⟨v312,h313,hF⟩:=aP hF
   refine aB (eM rfl h313) ⟨rfl,bI _ _,trivial⟩ ?_
   obtain⟨v314,h315,hF⟩:=aP hF
   refine aB (cO rfl tyS22 h315) zU2 ?_
   refine aB (cK 1 rfl rfl (.one tyO3)) zU1 ?_
   obtain⟨v316,h317,hF⟩:=aP hF
   refine aB (bO rfl h317) zU2 ?_
   refine bH ?_
   refine aC (aA (aE (aF (aI ?_))))
   refine aB (uP rfl) ⟨rfl,bI _ _,trivial⟩ ?_
   refine aC (aA (bS rfl (fun h318=>?_) (fun h318=>?_)))
   ·have hF:=aV h318 hF
    refine dI ?_
    obtain rfl:=bV hF
    exact bU Jj115 ⟨v310,hRl114,rfl,rfl⟩ [0,1] rfl ⟨rfl,rfl,rfl,rfl,rfl,rfl,rfl,trivial⟩
   have hF:=aX h318 hF
   refine bA (bJ ?_)
   exact bL (fun a w hh=>⟨v310,v316,hF,bF [0,1] rfl (by decide) (by exact⟨rfl,rfl,rfl,rfl,rfl,rfl,rfl,rfl,trivial⟩) hh⟩)
  have hF:=aX h309 hF
  refine dI ?_
  obtain rfl:=bV hF
  exact bU Jj115 ⟨x111,hRl114,rfl,rfl⟩ [0,1] rfl ⟨rfl,rfl,rfl,rfl,rfl,rfl,rfl,trivial⟩
 have hF:=aX h78 hF
 refine dI ?_
 obtain⟨rfl,rfl⟩:=sm2 hF
 exact bU Jj73 ⟨x47,x53,hRl72,q51,q57,rfl,rfl⟩ [0,1] rfl ⟨rfl,rfl,rfl,rfl,trivial⟩
def l5 (K:Nat) (a0:List Int) (a1:List Int):Option (aZ×aZ):=
 (f7 K a0 a1).bind fun v5=>bif(decide (v5<0)) then((eX K false a0).bind fun v8=>some ((⟨false,([]:List Int)⟩:aZ),v8)) else(bif((a1.length:Int)==1) then((dC a1 0).bind fun v11=>(pW K a0 v11).bind fun v13=>(eX K false v13.1).bind fun v15=>(fF false (IntKind.u64.wrap v13.2)).bind fun v17=>some (v15,v17)) else((sW K a0 a1).bind fun v19=>(eX K false v19.1).bind fun v21=>(eX K false v19.2).bind fun v23=>some (v21,v23)))
def mR (K:Nat) (a0:List Int) (a1:List Int):Option (aZ×aZ):=
 (oL a0).bind fun v25=>bif v25.2 then((oL a1).bind fun v28=>bif v28.2 then((vW v25.1 v28.1).bind fun v33=>(fF false (IntKind.u64.wrap v33)).bind fun v35=>(vM v25.1 v28.1).bind fun v37=>(fF false (IntKind.u64.wrap v37)).bind fun v39=>some (v35,v39)) else(l5 K a0 a1)) else(l5 K a0 a1)
theorem uJ {K:Nat} {a0:List Int} {a1:List Int} {r:aZ×aZ} (hF:mR K a0 a1=some r):Ct Tryz.prog 226 [.vc (pS cI a0),.vc (pS cI a1)] (.t2 (.va (aZ.e r.1)) (.va (aZ.e r.2))):=by
 unfold mR at hF
 refine bD Tryz.func226 rfl (by kernel_rfl) Tryz.ntmps226 rfl (fun w0 M0=>?_)
 refine aE (aF (bP rfl tyZ42 (fun b1=>?_)))
 refine bP rfl tyZ42 (fun b2=>?_)
 refine aC (aA (aE (uH (fun H E=>l5 K a0 a1=some r∧H=[⟨some b2,1,42,2,1,([pB false]++[pS cI ([]:List Int)])⟩,⟨some b1,1,42,2,1,([pB false]++[pS cI ([]:List Int)])⟩]∧E=[(0,.vc (pS cI a0)),(1,.vc (pS cI a1)),(4,.vc (pP (some b1) 0)),(5,.vc (pP (some b2) 0))]) ?_ (fun Jj4=>?_))))
 ·rintro _ _ ⟨hF,rfl,rfl⟩
  unfold l5 at hF
  refine aE (aE (aF (aI ?_)))
  refine aI ?_
  obtain⟨v5,h6,hF⟩:=aP hF
  refine aB (aJ rfl (mS h6) rfl) zU2 ?_
  refine aB (dQ rfl) ⟨rfl,bI _ _,trivial⟩ ?_
  refine aC (aA (bS rfl (fun h7=>?_) (fun h7=>?_)))
  ·have hF:=aV h7 hF
   refine aE (aF (aB (cZ (is:=[]) (xs:=[]) (ps:=[]) rfl tyB42 rfl rfl trivial rfl) trivial ?_))
   refine aI ?_
   obtain⟨v8,h9,hF⟩:=aP hF
   refine aB (aJ rfl (iL h9) rfl) ⟨cW _,rfl,trivial⟩ ?_
   refine bG (dO 1 rfl rfl rfl tyA42.s) zU2 ?_
   refine bG (dO 0 rfl rfl rfl tyA42.s) zU2 ?_
   refine aC (aA (a9 (a8 ?_)))
   obtain rfl:=bV hF
   exact aL (.inl rfl) Tryz.results226 (bQ 1 2 rfl rfl rfl rfl (.agg tyA42) (bQ 0 2 rfl rfl rfl rfl (.agg tyA42) .nil)) rfl rfl
  have hF:=aX h7 hF
  refine bA (aA (aE (aE (aF (aI ?_)))))
  refine aB (bX rfl tyS22) zU1 ?_
  refine aB (gR rfl) ⟨rfl,bI _ _,trivial⟩ ?_
  refine aC (aA (bS rfl (fun h10=>?_) (fun h10=>?_)))
  ·have hF:=aV h10 hF
   refine aE (aF (aI ?_))
   refine aI ?_
   obtain⟨v11,h12,hF⟩:=aP hF
   refine aB (cO rfl tyS22 h12) ⟨rfl,bI _ _,trivial⟩ ?_
   refine aB (cK 1 rfl rfl (.one tyO3)) zU1 ?_
   obtain⟨v13,h14,hF⟩:=aP hF
   refine aB (aJ rfl (xP h14) rfl) zU2 ?_
   refine aI ?_
   refine aB (lT rfl) zU1 ?_
   refine aB (lO rfl) zU1 ?_
   refine bH ?_
   refine bH ?_
   refine aC (aA (aE (aF (aI ?_))))
   obtain⟨v15,h16,hF⟩:=aP hF
   refine aB (aJ rfl (iL h16) rfl) ⟨cW _,rfl,trivial⟩ ?_
   refine aI ?_
   refine aB (aBU rfl ⟨_,Tryz.underlying3⟩ Tryz.underlying213) zU1 ?_
   obtain⟨v17,h18,hF⟩:=aP hF
   refine aB (aJ rfl (kD h18) rfl) ⟨cW _,rfl,trivial⟩ ?_
   refine bG (dO 1 rfl rfl rfl tyA42.s) zU2 ?_
   refine bG (dO 0 rfl rfl rfl tyA42.s) zU2 ?_
   refine aC (aA (a9 (a8 ?_)))
   obtain rfl:=bV hF
   exact aL (.inl rfl) Tryz.results226 (bQ 1 2 rfl rfl rfl rfl (.agg tyA42) (bQ 0 2 rfl rfl rfl rfl (.agg tyA42) .nil)) rfl rfl
  have hF:=aX h10 hF
  refine bA (aA (aE (aF (aI ?_))))
  refine aI ?_
  obtain⟨v19,h20,hF⟩:=aP hF
  refine aB (aJ rfl (aB6 h20) rfl) zU2 ?_
  refine aI ?_
  refine aB (lT rfl) zU1 ?_
  refine aB (lO rfl) zU1 ?_
  refine bH ?_
  refine bH ?_
  refine aC (aA (aE (aF (aI ?_))))
  obtain⟨v21,h22,hF⟩:=aP hF
  refine aB (aJ rfl (iL h22) rfl) ⟨cW _,rfl,trivial⟩ ?_
  refine aI ?_
  obtain⟨v23,h24,hF⟩:=aP hF
  refine aB (aJ rfl (iL h24) rfl) ⟨cW _,rfl,trivial⟩ ?_
  refine bG (dO 1 rfl rfl rfl tyA42.s) zU2 ?_
  refine bG (dO 0 rfl rfl rfl tyA42.s) zU2 ?_
  refine aC (aA (a9 (a8 ?_)))
  obtain rfl:=bV hF
  exact aL (.inl rfl) Tryz.results226 (bQ 1 2 rfl rfl rfl rfl (.agg tyA42) (bQ 0 2 rfl rfl rfl rfl (.agg tyA42) .nil)) rfl rfl
 refine aE (aF (aI ?_))
 obtain⟨v25,h26,hF⟩:=aP hF
 refine aB (aJ rfl (t7 h26) rfl) zU1 ?_
 refine aI ?_
 refine aB (lT rfl) zU1 ?_
 refine aB (lO rfl) zU1 ?_
 refine bH ?_
 refine bH ?_
 refine aC (aA (aE (aF (aI ?_))))
 refine aC (aA (bS rfl (fun h27=>?_) (fun h27=>?_)))
 ·have hF:=aV h27 hF
  refine aE (aF (aI ?_))
  obtain⟨v28,h29,hF⟩:=aP hF
  refine aB (aJ rfl (t7 h29) rfl) zU1 ?_
  refine aI ?_
  refine aB (lT rfl) zU1 ?_
  refine aB (lO rfl) zU1 ?_
  refine bH ?_
  refine bH ?_
  refine aC (aA (aE (aF (aI ?_))))
  refine aC (aA (bS rfl (fun h30=>?_) (fun h30=>?_)))
  ·have hF:=aV h30 hF
   refine aE ?_
   obtain⟨v33,h34,hF⟩:=aP hF
   obtain⟨v35,h36,hF⟩:=aP hF
   obtain⟨v37,h38,hF⟩:=aP hF
   obtain⟨v39,h40,hF⟩:=aP hF
   refine bT [0,0,3,7,15,0,0,96,224,511,1023,2047] 10 2 [.v (.vc (pI .i64 v25.1)),.v (.vc (pI .i64 v28.1)),.v (.vc (pI .i64 v33)),.v (.vc (pI .u64 (IntKind.u64.wrap v33))),.v (.va (aZ.e v35)),.v (.vc (pI .i64 v25.1)),.v (.vc (pI .i64 v28.1)),.v (.vc (pI .i64 v37)),.v (.vc (pI .u64 (IntKind.u64.wrap v37))),.v (.va (aZ.e v39))] aU ⟨d0 (aN (.inl rfl)) zU1,d0 (aN (.inl rfl)) zU1,d0 (sF rfl h34) zU2,⟨rfl,.run (L:=[0]) ⟨fun G31 A=>aBU rfl ⟨_,Tryz.underlying3⟩ Tryz.underlying213,trivial⟩ (fun G31=>zU1)⟩,d0 (aJ rfl (kD h36) rfl) ⟨cW _,rfl,trivial⟩,d0 (aN (.inl rfl)) zU1,d0 (aN (.inl rfl)) zU1,d0 (rA rfl h38) zU2,⟨rfl,.run (L:=[0]) ⟨fun G31 A=>aBU rfl ⟨_,Tryz.underlying3⟩ Tryz.underlying213,trivial⟩ (fun G31=>zU1)⟩,d0 (aJ rfl (kD h40) rfl) ⟨cW _,rfl,trivial⟩,trivial⟩ (fun bs32 G31=>?_)
   refine bG (dO 1 rfl rfl rfl tyA42.s) zU2 ?_
   refine bG (dO 0 rfl rfl rfl tyA42.s) zU2 ?_
   refine aC (aA (a9 (a8 ?_)))
   obtain rfl:=bV hF
   exact aL (.inl rfl) Tryz.results226 (bQ 1 2 rfl rfl rfl rfl (.agg tyA42) (bQ 0 2 rfl rfl rfl rfl (.agg tyA42) .nil)) rfl rfl
  have hF:=aX h30 hF
  refine bA ?_
  exact bU Jj4 ⟨hF,rfl,rfl⟩ [0,1] rfl ⟨rfl,rfl,rfl,rfl,trivial⟩
 have hF:=aX h27 hF
 refine bA ?_
 exact bU Jj4 ⟨hF,rfl,rfl⟩ [0,1] rfl ⟨rfl,rfl,rfl,rfl,trivial⟩
def uA (K:Nat) (x14:aZ):Option aZ:=
 some x14
def sL (K:Nat) (x28:Int):Option (LR aZ aZ):=
 (fF false (IntKind.u64.wrap x28)).bind fun v31=>some (.ret v31)
def kI (K:Nat):Nat→Int→Int→Option Int
 |0,_,_=>none
 |k+1,x26,x27=>bif(decide (0<x27)) then((vM x26 x27).bind fun v36=>kI K k x27 v36) else(some x26)
def iY (K:Nat):Nat→aZ→aZ→Option (LR aZ aZ)
 |0,_,_=>none
 |k+1,x12,x13=>bif(decide (0<(x13.d.length:Int))) then((oL x12.d).bind fun v18=>(oL x13.d).bind fun v20=>bif v18.2 then(bif v20.2 then((kI K K v18.1 v20.1).bind fun x28=>sL K x28) else((mR K x12.d x13.d).bind fun v38=>iY K k x13 v38.2)) else((mR K x12.d x13.d).bind fun v44=>iY K k x13 v44.2)) else(some (.go x12))
def rX (K:Nat) (a0:aZ) (a1:aZ):Option aZ:=
 (eX K false a0.d).bind fun v6=>(eX K false a1.d).bind fun v8=>(iY K K v6 v8).bind fun o=>match o with| .ret r=>some r| .go x14=>uA K x14
theorem zS {K:Nat} {a0:aZ} {a1:aZ} {r:aZ} (hF:rX K a0 a1=some r):Ct Tryz.prog 166 [.va (aZ.e a0),.va (aZ.e a1)] (.va (aZ.e r)):=by
 unfold rX at hF
 refine bD Tryz.func166 rfl (by kernel_rfl) Tryz.ntmps166 rfl (fun w0 M0=>?_)
 refine aE (aF (cY rfl rfl trivial (fun b1=>?_)))
 refine cY rfl rfl trivial (fun b2=>?_)
 refine bP rfl tyZ42 (fun b3=>?_)
 refine aC (aA (aE ?_))
 obtain⟨v6,h7,hF⟩:=aP hF
 obtain⟨v8,h9,hF⟩:=aP hF
 refine bT [0,1,3,0,8,31,0,0,255,511] 8 2 [.v (.vc (pP (some b1) 1)),.v (.vc (pS cI a0.d)),.v (.va (aZ.e v6)),.v (.vc (pP (some b2) 1)),.v (.vc (pS cI a1.d)),.v (.va (aZ.e v8)),.a 42 ([pB false]++[pS cI ([]:List Int)]),.a 42 ([pB false]++[pS cI ([]:List Int)])] aU ⟨d0 (bE (off:=0) (k:=1) rfl tyF42_1) zU1,d0 (bK 2 1 rfl rfl rfl rfl (.one tyO22)) zU1,d0 (aJ rfl (iL h7) rfl) ⟨cW _,rfl,trivial⟩,d0 (bE (off:=0) (k:=1) rfl tyF42_1) zU1,d0 (bK 1 1 rfl rfl rfl rfl (.one tyO22)) zU1,d0 (aJ rfl (iL h9) rfl) ⟨cW _,rfl,trivial⟩,⟨rfl,.alc tyZ42⟩,⟨rfl,.alc tyZ42⟩,trivial⟩ (fun bs5 G4=>?_)
 refine bG (dO 0 rfl rfl rfl tyA42.s) zU2 ?_
 refine bG (dO 1 rfl rfl rfl tyA42.s) zU2 ?_
 refine aC (aA (aE (bR (cJ (fun H E=>∃(x14:aZ),uA K x14=some r∧H=[⟨some (bs5 6),1,42,2,1,(aZ.e x14)⟩,⟨some b3,1,42,2,1,([pB false]++[pS cI ([]:List Int)])⟩]∧E=[(4,.vc (pP (some b3) 0)),(5,.vc (pP (some (bs5 6)) 0))]) ?_ (fun Jj16=>?_)))))
 ·rintro _ _ ⟨x14,hF,rfl,rfl⟩
  unfold uA at hF
  refine aA (aE (aF (aB (bK 0 2 rfl rfl rfl rfl (.agg tyA42)) zU1 ?_)))
  refine bG (dO 1 rfl rfl rfl tyA42.s) zU2 ?_
  refine aC (aA (a9 (a8 ?_)))
  obtain rfl:=bV hF
  exact aL (.inl rfl) Tryz.results166 (bQ 1 2 rfl rfl rfl rfl (.agg tyA42) .nil) rfl rfl
 obtain⟨ol15,hL,hRl15⟩:=aP hF
 refine gB (fun k a w=>∃(x12:aZ),∃(x13:aZ),iY K k x12 x13=some ol15∧hs _ [⟨some (bs5 6),1,42,2,1,(aZ.e x12)⟩,⟨some (bs5 7),1,42,2,1,(aZ.e x13)⟩,⟨some b3,1,42,2,1,([pB false]++[pS cI ([]:List Int)])⟩] [(4,.vc (pP (some b3) 0)),(5,.vc (pP (some (bs5 6)) 0)),(6,.vc (pP (some (bs5 7)) 0))] a w) K (fun a w ⟨_,_,hF,_⟩=>by cases hF) (fun k a w ⟨x12,x13,hF,hh⟩=>gE ?_ hh) (fun a w hh=>⟨v6,v8,hL,bF [0,1,2] rfl (by decide) (by exact⟨rfl,rfl,rfl,trivial⟩) hh⟩)
 rw [iY.eq_2] at hF
 refine aE (aE (aF (aB (bE (off:=0) (k:=1) rfl tyF42_1) zU1 ?_)))
 refine aB (bK 1 1 rfl rfl rfl rfl (.one tyO22)) zU1 ?_
 refine aB (bX rfl tyS22) zU1 ?_
 refine aB (rV rfl) ⟨rfl,bI _ _,trivial⟩ ?_
 refine aC (aA (bS rfl (fun h17=>?_) (fun h17=>?_)))
 ·have hF:=aV h17 hF
  refine bA (aA (bR (aE (aF (aB (bE (off:=0) (k:=1) rfl tyF42_1) zU1 ?_)))))
  refine aB (bK 0 1 rfl rfl rfl rfl (.one tyO22)) zU1 ?_
  obtain⟨v18,h19,hF⟩:=aP hF
  refine aB (aJ rfl (t7 h19) rfl) zU1 ?_
  refine aI ?_
  refine aB (lT rfl) zU1 ?_
  refine aB (lO rfl) zU1 ?_
  refine bH ?_
  refine bH ?_
  refine aC (aA (aE (aF (aB (bE (off:=0) (k:=1) rfl tyF42_1) zU1 ?_))))
  refine aB (bK 1 1 rfl rfl rfl rfl (.one tyO22)) zU1 ?_
  obtain⟨v20,h21,hF⟩:=aP hF
  refine aB (aJ rfl (t7 h21) rfl) zU1 ?_
  refine aI ?_
  refine aB (lT rfl) zU1 ?_
  refine aB (lO rfl) zU1 ?_
  refine bH ?_
  refine bH ?_
  refine aC (aA (aE (aE (aF (aI ?_)))))
  refine aI ?_
  refine cP (fun h22=>?_) (fun h22=>?_)
  ·have hF:=aV h22 hF
   refine aY (aN (.inl rfl)) zU1 ?_
   refine aB (bM rfl) zU2 ?_
   refine aC (aA (bS rfl (fun h23=>?_) (fun h23=>?_)))
   ·have hF:=aV h23 hF
    refine aE (bR (cJ (fun H E=>∃(x28:Int),sL K x28=some ol15∧H=[⟨some b3,1,42,2,1,([pB false]++[pS cI ([]:List Int)])⟩]∧E=[(4,.vc (pP (some b3) 0)),(7,.vc (pI .i64 x28))]) ?_ (fun Jj30=>?_)))
    ·rintro _ _ ⟨x28,hF,rfl,rfl⟩
     unfold sL at hF
     refine aA (aE (aF (aI ?_)))
     refine aB (aBU rfl ⟨_,Tryz.underlying3⟩ Tryz.underlying213) zU1 ?_
     obtain⟨v31,h32,hF⟩:=aP hF
     refine aB (aJ rfl (kD h32) rfl) ⟨cW _,rfl,trivial⟩ ?_
     refine bG (dO 0 rfl rfl rfl tyA42.s) zU2 ?_
     refine aC (aA (a9 (a8 ?_)))
     obtain rfl:=bV hF
     obtain rfl:=bV hRl15
     exact aL (.inl rfl) Tryz.results166 (bQ 0 2 rfl rfl rfl rfl (.agg tyA42) .nil) rfl rfl
    obtain⟨x28',hL,hRl29⟩:=aP hF
    refine gB (fun k a w=>∃(x26:Int),∃(x27:Int),kI K k x26 x27=some x28'∧hs _ [⟨some b3,1,42,2,1,([pB false]++[pS cI ([]:List Int)])⟩] [(4,.vc (pP (some b3) 0)),(7,.vc (pI .i64 x26)),(9,.vc (pI .i64 x27))] a w) K (fun a w ⟨_,_,hF,_⟩=>by cases hF) (fun k a w ⟨x26,x27,hF,hh⟩=>gE ?_ hh) (fun a w hh=>⟨v18.1,v20.1,hL,bF [2] rfl (by decide) (by exact⟨rfl,rfl,rfl,trivial⟩) hh⟩)
    rw [kI.eq_2] at hF
    refine aE (aE (aF (aI ?_)))
    refine aB (rV rfl) ⟨rfl,bI _ _,trivial⟩ ?_
    refine aC (aA (bS rfl (fun h33=>?_) (fun h33=>?_)))
    ·have hF:=aV h33 hF
     refine bA (aA (bR ?_))
     obtain⟨v36,h37,hF⟩:=aP hF
     refine bT [0,0,0,6,3,31] 6 0 [.v (.vc (pI .i64 x27)),.v (.vc (pI .i64 x26)),.v (.vc (pI .i64 x27)),.v (.vc (pI .i64 v36)),.v (.vc (pI .i64 x27)),.v (.vc (pI .i64 v36))] aU ⟨d0 (aN (.inl rfl)) zU1,d0 (aN (.inl rfl)) zU1,d0 (aN (.inl rfl)) zU1,d0 (rA rfl h37) zU2,d0 (aN (.inr rfl)) zU1,d0 (aN (.inr rfl)) zU1,trivial⟩ (fun bs35 G34=>?_)
     refine aC (bJ ?_)
     exact bL (fun a w hh=>⟨x27,v36,hF,bF [0] rfl (by decide) (by exact⟨rfl,rfl,rfl,trivial⟩) hh⟩)
    have hF:=aX h33 hF
    refine dI ?_
    obtain rfl:=bV hF
    exact bU Jj30 ⟨x26,hRl29,rfl,rfl⟩ [0] rfl zU2
   have hF:=aX h23 hF
   refine bA (aA (aE (aF (aB (bE (off:=0) (k:=1) rfl tyF42_1) zU1 ?_))))
   refine aB (bK 0 1 rfl rfl rfl rfl (.one tyO22)) zU1 ?_
   refine aB (bE (off:=0) (k:=1) rfl tyF42_1) zU1 ?_
   refine aB (bK 1 1 rfl rfl rfl rfl (.one tyO22)) zU1 ?_
   obtain⟨v38,h39,hF⟩:=aP hF
   refine aB (aJ rfl (uJ h39) rfl) zU2 ?_
   refine aI ?_
   refine aB (lT rfl) zU1 ?_
   refine aB (lO rfl) zU1 ?_
   refine bP rfl tyZ42 (fun b40=>?_)
   refine bP rfl tyZ42 (fun b41=>?_)
   refine bG (dO 1 rfl rfl rfl tyA42.s) zU2 ?_
   refine bG (dO 0 rfl rfl rfl tyA42.s) zU2 ?_
   refine aC (aA (nJ (HsM [(0,fun G42=>[⟨some b41,1,42,2,1,(aZ.e v38.2)⟩,⟨some b40,1,42,2,1,(aZ.e v38.1)⟩,⟨some (bs5 6),1,42,2,1,(aZ.e x12)⟩,⟨some (bs5 7),1,42,2,1,(aZ.e x13)⟩,⟨some b3,1,42,2,1,([pB false]++[pS cI ([]:List Int)])⟩]),(1,fun G42=>[⟨some b41,1,42,2,1,(aZ.e v38.2)⟩,⟨some b40,1,42,2,1,(aZ.e v38.1)⟩,⟨some (bs5 6),1,42,2,1,(aZ.e x13)⟩,⟨some (bs5 7),1,42,2,1,(aZ.e x13)⟩,⟨some b3,1,42,2,1,([pB false]++[pS cI ([]:List Int)])⟩])]) [2] [0,0,1,7] 3 1 [.v (.va (aZ.e x13)),.v (.va (aZ.e v38.2)),.g (fun _ _=>.any)] aU ⟨d1 0 (bK 3 2 rfl rfl rfl rfl (.agg tyA42)) zU1,⟨rfl,.run (L:=[0,1]) ⟨fun G42 A=>bK 0 2 rfl rfl rfl rfl (.agg tyA42),fun G42 A=>bK 0 2 rfl rfl rfl rfl (.agg tyA42),trivial⟩ (fun G42=>zU1)⟩,⟨rfl,.hvy [0] ⟨fun G42 A=>aBl (dO 2 rfl rfl rfl tyA42.s),trivial⟩ (fun G42=>zU2)⟩,trivial⟩ (fun bs43 G42=>?_)))
   refine bG (dO 3 rfl rfl rfl tyA42.s) zU2 ?_
   refine aC (bJ ?_)
   exact bL (fun a w hh=>⟨x13,v38.2,hF,bF [2,3,4] rfl (by decide) (by exact⟨rfl,rfl,rfl,trivial⟩) hh⟩)
  have hF:=aX h22 hF
  refine aM ?_
  refine aB (bN rfl) ⟨rfl,cW _,trivial⟩ ?_
  refine aC (aA (sT rfl ?_))
  refine bA (aA (aE (aF (aB (bE (off:=0) (k:=1) rfl tyF42_1) zU1 ?_))))
  refine aB (bK 0 1 rfl rfl rfl rfl (.one tyO22)) zU1 ?_
  refine aB (bE (off:=0) (k:=1) rfl tyF42_1) zU1 ?_
  refine aB (bK 1 1 rfl rfl rfl rfl (.one tyO22)) zU1 ?_
  obtain⟨v44,h45,hF⟩:=aP hF
  refine aB (aJ rfl (uJ h45) rfl) zU2 ?_
  refine aI ?_
  refine aB (lT rfl) zU1 ?_
  refine aB (lO rfl) zU1 ?_
  refine bP rfl tyZ42 (fun b46=>?_)
  refine bP rfl tyZ42 (fun b47=>?_)
  refine bG (dO 1 rfl rfl rfl tyA42.s) zU2 ?_
  refine bG (dO 0 rfl rfl rfl tyA42.s) zU2 ?_
  refine aC (aA (nJ (HsM [(0,fun G48=>[⟨some b47,1,42,2,1,(aZ.e v44.2)⟩,⟨some b46,1,42,2,1,(aZ.e v44.1)⟩,⟨some (bs5 6),1,42,2,1,(aZ.e x12)⟩,⟨some (bs5 7),1,42,2,1,(aZ.e x13)⟩,⟨some b3,1,42,2,1,([pB false]++[pS cI ([]:List Int)])⟩]),(1,fun G48=>[⟨some b47,1,42,2,1,(aZ.e v44.2)⟩,⟨some b46,1,42,2,1,(aZ.e v44.1)⟩,⟨some (bs5 6),1,42,2,1,(aZ.e x13)⟩,⟨some (bs5 7),1,42,2,1,(aZ.e x13)⟩,⟨some b3,1,42,2,1,([pB false]++[pS cI ([]:List Int)])⟩])]) [2] [0,0,1,7] 3 1 [.v (.va (aZ.e x13)),.v (.va (aZ.e v44.2)),.g (fun _ _=>.any)] aU ⟨d1 0 (bK 3 2 rfl rfl rfl rfl (.agg tyA42)) zU1,⟨rfl,.run (L:=[0,1]) ⟨fun G48 A=>bK 0 2 rfl rfl rfl rfl (.agg tyA42),fun G48 A=>bK 0 2 rfl rfl rfl rfl (.agg tyA42),trivial⟩ (fun G48=>zU1)⟩,⟨rfl,.hvy [0] ⟨fun G48 A=>aBl (dO 2 rfl rfl rfl tyA42.s),trivial⟩ (fun G48=>zU2)⟩,trivial⟩ (fun bs49 G48=>?_)))
  refine bG (dO 3 rfl rfl rfl tyA42.s) zU2 ?_
  refine aC (bJ ?_)
  exact bL (fun a w hh=>⟨x13,v44.2,hF,bF [2,3,4] rfl (by decide) (by exact⟨rfl,rfl,rfl,trivial⟩) hh⟩)
 have hF:=aX h17 hF
 refine dI ?_
 obtain rfl:=bV hF
 exact bU Jj16 ⟨x12,hRl15,rfl,rfl⟩ [0,2] rfl zU2
def lE (K:Nat) (a0:aZ):Option Bool:=
 bif((a0.d.length:Int)==0) then(some (!a0.neg)) else((bW ((a0.d.length:Int)-1)).bind fun v7=>(dC a0.d v7).bind fun v9=>some (v9 != 0))
def iI (K:Nat) (a0:aZ):Nat→Int→Option (LR Bool Unit)
 |0,_=>none
 |k+1,x3=>bif(decide (x3<(a0.d.length:Int))) then((dC a0.d x3).bind fun v12=>bif(decide (v12<0)) then(some (.ret false)) else((dC a0.d x3).bind fun v15=>bif(decide (1000000000≤v15)) then(some (.ret false)) else((bW (x3+1)).bind fun v18=>iI K a0 k v18))) else(some (.go ()))
def kB (K:Nat) (a0:aZ):Option Bool:=
 (iI K a0 K 0).bind fun o=>match o with| .ret r=>some r| .go _=>lE K a0
theorem vG {K:Nat} {a0:aZ} {r:Bool} (hF:kB K a0=some r):Ct Tryz.prog 168 [.va (aZ.e a0)] (.vc (pB r)):=by
 unfold kB at hF
 refine bD Tryz.func168 rfl (by kernel_rfl) Tryz.ntmps168 rfl (fun w0 M0=>?_)
 refine aE (aF (cY rfl rfl trivial (fun b1=>?_)))
 refine aB (aN (.inr rfl)) ⟨cW _,trivial⟩ ?_
 refine aC (aA (aE (aE (aF (aB (aN (.inr rfl)) ⟨bI _ _,trivial⟩ ?_)))))
 refine aC (aA (bR (cJ (fun H E=>lE K a0=some r∧H=[⟨some b1,1,42,2,1,(aZ.e a0)⟩]∧E=[(1,.vc (pP (some b1) 0))]) ?_ (fun Jj5=>?_))))
 ·rintro _ _ ⟨hF,rfl,rfl⟩
  unfold lE at hF
  refine aA (aE (aE (aF (aB (bE (off:=0) (k:=1) rfl tyF42_1) zU1 ?_))))
  refine aB (bK 0 1 rfl rfl rfl rfl (.one tyO22)) zU1 ?_
  refine aB (bX rfl tyS22) zU1 ?_
  refine aB (gR rfl) ⟨rfl,bI _ _,trivial⟩ ?_
  refine aC (aA (bS rfl (fun h6=>?_) (fun h6=>?_)))
  ·have hF:=aV h6 hF
   refine aE (aF (aB (bE (off:=0) (k:=0) rfl tyF42_0) zU1 ?_))
   refine aB (bK 0 1 rfl rfl rfl rfl (.one tyO4)) zU1 ?_
   refine aB (hU rfl) zU1 ?_
   refine bH ?_
   refine aC (aA (a9 (a8 ?_)))
   obtain rfl:=bV hF
   exact aL (.inl rfl) Tryz.results168 (.tmp rfl .nil) rfl rfl
  have hF:=aX h6 hF
  refine bA (aA (aE (aF (aB (bE (off:=0) (k:=1) rfl tyF42_1) zU1 ?_))))
  refine aB (bK 0 1 rfl rfl rfl rfl (.one tyO22)) zU1 ?_
  refine aB (bE (off:=0) (k:=1) rfl tyF42_1) zU1 ?_
  refine aB (bK 0 1 rfl rfl rfl rfl (.one tyO22)) zU1 ?_
  refine aB (bX rfl tyS22) zU1 ?_
  obtain⟨v7,h8,hF⟩:=aP hF
  refine aB (eM rfl h8) ⟨rfl,bI _ _,trivial⟩ ?_
  obtain⟨v9,h10,hF⟩:=aP hF
  refine aB (cO rfl tyS22 h10) zU2 ?_
  refine aB (cK 1 rfl rfl (.one tyO3)) zU1 ?_
  refine aB (s7 rfl) ⟨rfl,bI _ _,trivial⟩ ?_
  refine bH ?_
  refine aC (aA (a9 (a8 ?_)))
  obtain rfl:=bV hF
  exact aL (.inl rfl) Tryz.results168 (.tmp rfl .nil) rfl rfl
 obtain⟨ol4,hL,hRl4⟩:=aP hF
 refine gB (fun k a w=>∃(x3:Int),iI K a0 k x3=some ol4∧hs _ [⟨some b1,1,42,2,1,(aZ.e a0)⟩] [(1,.vc (pP (some b1) 0)),(3,.vc (pI .i64 x3))] a w) K (fun a w ⟨_,hF,_⟩=>by cases hF) (fun k a w ⟨x3,hF,hh⟩=>gE ?_ hh) (fun a w hh=>⟨0,hL,bF [0] rfl (by decide) (by exact zU2) hh⟩)
 rw [iI.eq_2] at hF
 refine aE (aE (aF (aI ?_)))
 refine aB (bE (off:=0) (k:=1) rfl tyF42_1) zU1 ?_
 refine aB (bK 0 1 rfl rfl rfl rfl (.one tyO22)) zU1 ?_
 refine aB (bX rfl tyS22) zU1 ?_
 refine aB (dQ rfl) zU2 ?_
 refine aC (aA (bS rfl (fun h11=>?_) (fun h11=>?_)))
 ·have hF:=aV h11 hF
  refine bA (aA (aE (bR (aE (aF (aB (bE (off:=0) (k:=1) rfl tyF42_1) zU1 ?_))))))
  refine aB (bK 0 1 rfl rfl rfl rfl (.one tyO22)) zU1 ?_
  refine aI ?_
  obtain⟨v12,h13,hF⟩:=aP hF
  refine aB (cO rfl tyS22 h13) zU2 ?_
  refine aB (cK 1 rfl rfl (.one tyO3)) zU1 ?_
  refine aB (dQ rfl) ⟨rfl,bI _ _,trivial⟩ ?_
  refine aI ?_
  refine cP (fun h14=>?_) (fun h14=>?_)
  ·have hF:=aV h14 hF
   refine aM ?_
   refine aM ?_
   refine aM ?_
   refine aM ?_
   refine aM ?_
   refine aM ?_
   refine aB (bM rfl) ⟨rfl,cW _,trivial⟩ ?_
   refine aC (aA (iO rfl ?_))
   refine aE (aF (aB (aN (.inr rfl)) ⟨cW _,trivial⟩ ?_))
   refine aC (aA (a9 (a8 ?_)))
   obtain rfl:=bV hF
   obtain rfl:=bV hRl4
   exact aL (.inl rfl) Tryz.results168 (.tmp rfl .nil) rfl rfl
  have hF:=aX h14 hF
  refine aY (bE (off:=0) (k:=1) rfl tyF42_1) zU1 ?_
  refine aY (bK 0 1 rfl rfl rfl rfl (.one tyO22)) zU1 ?_
  refine aY (aN (.inl rfl)) zU1 ?_
  obtain⟨v15,h16,hF⟩:=aP hF
  refine aY (cO rfl tyS22 h16) zU2 ?_
  refine aY (cK 1 rfl rfl (.one tyO3)) zU1 ?_
  refine aY (uP rfl) ⟨rfl,bI _ _,trivial⟩ ?_
  refine aB (bN rfl) zU2 ?_
  refine aC (aA (bS rfl (fun h17=>?_) (fun h17=>?_)))
  ·have hF:=aV h17 hF
   refine aE (aF (aB (aN (.inr rfl)) ⟨cW _,trivial⟩ ?_))
   refine aC (aA (a9 (a8 ?_)))
   obtain rfl:=bV hF
   obtain rfl:=bV hRl4
   exact aL (.inl rfl) Tryz.results168 (.tmp rfl .nil) rfl rfl
  have hF:=aX h17 hF
  refine bA (bJ (aA (aF (aI ?_))))
  obtain⟨v18,h19,hF⟩:=aP hF
  refine aB (bO rfl h19) ⟨rfl,bI _ _,trivial⟩ ?_
  refine bH ?_
  refine aC ?_
  exact bL (fun a w hh=>⟨v18,hF,bF [0] rfl (by decide) (by exact zU2) hh⟩)
 have hF:=aX h11 hF
 refine dI ?_
 obtain rfl:=bV hF
 exact bU Jj5 ⟨hRl4,rfl,rfl⟩ [0] rfl zU1
def d9 (a0:List Int) (a1:Int):Option Int:=
 bif(decide (a1<(a0.length:Int))) then((dC a0 a1).bind fun v2=>some v2) else(some 0)
theorem fV {a0:List Int} {a1:Int} {r:Int} (hF:d9 a0 a1=some r):Ct Tryz.prog 259 [.vc (pS cI a0),.vc (pI .i64 a1)] (.vc (pI .i64 r)):=by
 unfold d9 at hF
 refine bD Tryz.func259 rfl (by kernel_rfl) Tryz.ntmps259 rfl (fun w0 M0=>?_)
 refine aE (aF (aB (aN (.inr rfl)) ⟨bI _ _,trivial⟩ ?_))
 refine aC (aA (aE (aE (aF (aI ?_)))))
 refine aI ?_
 refine aB (bX rfl tyS22) zU1 ?_
 refine aB (dQ rfl) zU2 ?_
 refine aC (aA (bS rfl (fun h1=>?_) (fun h1=>?_)))
 ·have hF:=aV h1 hF
  refine aE (aF (aI ?_))
  refine aI ?_
  obtain⟨v2,h3,hF⟩:=aP hF
  refine aB (cO rfl tyS22 h3) zU2 ?_
  refine aB (cK 1 rfl rfl (.one tyO3)) zU1 ?_
  refine bH ?_
  refine aC (aA (a9 (a8 ?_)))
  obtain rfl:=bV hF
  exact aL (.inl rfl) Tryz.results259 (.tmp rfl .nil) rfl rfl
 have hF:=aX h1 hF
 refine bA (aA (aE (aF (aB (aN (.inr rfl)) ⟨bI _ _,trivial⟩ ?_))))
 refine aC (aA (a9 (a8 ?_)))
 obtain rfl:=bV hF
 exact aL (.inl rfl) Tryz.results259 (.tmp rfl .nil) rfl rfl
def oD (K:Nat) (x19:List Int):Option (List Int):=
 some x19
def dK (K:Nat) (a0:List Int) (a1:List Int):Nat→(List Int)→Int→Int→Option (List Int)
 |0,_,_,_=>none
 |k+1,x11,x17,x18=>bif(decide (x18<(a0.length:Int))) then((d9 a0 x18).bind fun v28=>(d9 a1 x18).bind fun v30=>(bW (v28+v30)).bind fun v32=>(bW (v32+x17)).bind fun v34=>(vM v34 1000000000).bind fun v36=>(qO x11 [v36]).bind fun x38=>(vW v34 1000000000).bind fun v45=>(bW (x18+1)).bind fun v47=>dK K a0 a1 k x38 v45 v47) else(bif(decide (x18<(a1.length:Int))) then((d9 a0 x18).bind fun v50=>(d9 a1 x18).bind fun v52=>(bW (v50+v52)).bind fun v54=>(bW (v54+x17)).bind fun v56=>(vM v56 1000000000).bind fun v58=>(qO x11 [v58]).bind fun x60=>(vW v56 1000000000).bind fun v67=>(bW (x18+1)).bind fun v69=>dK K a0 a1 k x60 v67 v69) else(bif(decide (0<x17)) then((d9 a0 x18).bind fun v72=>(d9 a1 x18).bind fun v74=>(bW (v72+v74)).bind fun v76=>(bW (v76+x17)).bind fun v78=>(vM v78 1000000000).bind fun v80=>(qO x11 [v80]).bind fun x82=>(vW v78 1000000000).bind fun v89=>(bW (x18+1)).bind fun v91=>dK K a0 a1 k x82 v89 v91) else(some x11)))
def oW (K:Nat) (a0:List Int) (a1:List Int):Option (List Int):=
 (dK K a0 a1 K ([]:List Int) 0 0).bind fun x19=>oD K x19
theorem aAl {K:Nat} {a0:List Int} {a1:List Int} {r:List Int} (hF:oW K a0 a1=some r):Ct Tryz.prog 229 [.vc (pS cI a0),.vc (pS cI a1)] (.vc (pS cI r)):=by
 unfold oW at hF
 refine bD Tryz.func229 rfl (by kernel_rfl) Tryz.ntmps229 rfl (fun w0 M0=>?_)
 refine aE (aF (aB (aN (.inr rfl)) ⟨dX cI,trivial⟩ ?_))
 refine aC (aA (aE (aF (sB cI 3 rfl ?_))))
 refine aC (aA (aE (aF (aB (aN (.inr rfl)) ⟨bI _ _,trivial⟩ ?_))))
 refine aC (aA (aE (aE (aF (aB (aN (.inr rfl)) ⟨bI _ _,trivial⟩ ?_)))))
 refine aC (aA (bR (cJ (fun H E=>∃(x19:List Int),∃(b20:Option Nat),∃(c21:Nat),∃(n22:Nat),oD K x19=some r∧x19.length=n22∧H=[hO cI b20 c21 3 n22 x19]∧E=[(5,.vc (pO b20 n22 c21))]) ?_ (fun Jj26=>?_))))
 ·rintro _ _ ⟨x19,b20,c21,n22,hF,q23,rfl,rfl⟩
  unfold oD at hF
  refine aA (aE (aF (aI ?_)))
  refine bH ?_
  refine aC (aA (a9 (a8 (uB 0 [4,5,41] rfl q23 ⟨rfl,rfl,rfl,trivial⟩ rfl ?_))))
  obtain rfl:=bV hF
  exact aL (.inl rfl) Tryz.results229 (.tmp rfl .nil) rfl rfl
 obtain⟨x19',hL,hRl25⟩:=aP hF
 refine gB (fun k a w=>∃(x11:List Int),∃(x17:Int),∃(x18:Int),∃(b12:Option Nat),∃(c13:Nat),∃(n14:Nat),dK K a0 a1 k x11 x17 x18=some x19'∧x11.length=n14∧hs _ [hO cI b12 c13 3 n14 x11] [(0,.vc (pS cI a0)),(1,.vc (pS cI a1)),(5,.vc (pO b12 n14 c13)),(6,.vc (pI .i64 x17)),(7,.vc (pI .i64 x18))] a w) K (fun a w ⟨_,_,_,_,_,_,hF,_,_⟩=>by cases hF) (fun k a w ⟨x11,x17,x18,b12,c13,n14,hF,q15,hh⟩=>gE ?_ hh) (fun a w hh=>⟨([]:List Int),0,0,none,0,0,hL,rfl,bF [0] rfl (by decide) (by exact⟨rfl,rfl,rfl,rfl,rfl,trivial⟩) hh⟩)
 rw [dK.eq_2] at hF
 refine aE (aE (aF (aI ?_)))
 refine aI ?_
 refine aB (bX rfl tyS22) zU1 ?_
 refine aB (dQ rfl) zU2 ?_
 refine aI ?_
 refine cP (fun h27=>?_) (fun h27=>?_)
 ·have hF:=aV h27 hF
  refine aM ?_
  refine aM ?_
  refine aM ?_
  refine aM ?_
  refine aB (bM rfl) ⟨rfl,cW _,trivial⟩ ?_
  refine aI ?_
  refine aM ?_
  refine aM ?_
  refine aB (bM rfl) ⟨rfl,cW _,trivial⟩ ?_
  refine aC (aA (iO rfl ?_))
  refine bA (aA (aE (bR (aE (aF (aI ?_))))))
  refine aI ?_
  obtain⟨v28,h29,hF⟩:=aP hF
  refine aB (aJ rfl (fV h29) rfl) zU2 ?_
  refine aI ?_
  refine aI ?_
  obtain⟨v30,h31,hF⟩:=aP hF
  refine aB (aJ rfl (fV h31) rfl) zU2 ?_
  obtain⟨v32,h33,hF⟩:=aP hF
  refine aB (bO rfl h33) zU2 ?_
  refine aI ?_
  obtain⟨v34,h35,hF⟩:=aP hF
  refine aB (bO rfl h35) zU2 ?_
  refine bH ?_
  refine aC (aA (aE (aF (aI ?_))))
  refine aI ?_
  obtain⟨v36,h37,hF⟩:=aP hF
  refine aB (rA rfl h37) ⟨rfl,bI _ _,trivial⟩ ?_
  refine aB (iJ (C:=cI) (xs:=[.tmp 36]) (ps:=[.vc (pI .i64 v36)]) (zs:=[v36]) rfl tyS22 rfl ⟨⟨trivial,rfl⟩,trivial⟩ rfl) zU1 ?_
  obtain⟨x38,h39,hF⟩:=aP hF
  refine jD 0 rfl tyS22 rfl rfl q15 rfl rfl h39 (fun b40 c41 H42 e43=>?_)
  cases e43
  refine bH ?_
  refine aC (aA (aF (aI ?_)))
  obtain⟨v45,h46,hF⟩:=aP hF
  refine aB (sF rfl h46) ⟨rfl,bI _ _,trivial⟩ ?_
  refine bH ?_
  refine aC (bJ (aA (aF (aI ?_))))
  obtain⟨v47,h48,hF⟩:=aP hF
  refine aB (bO rfl h48) ⟨rfl,bI _ _,trivial⟩ ?_
  refine bH ?_
  refine aC ?_
  exact bL (fun a w hh=>⟨x38,v45,v47,b40,c41,(n14+[v36].length),hF,(cL h39 q15),bF [0] rfl (by decide) (by exact⟨rfl,rfl,rfl,rfl,rfl,trivial⟩) hh⟩)
 have hF:=aX h27 hF
 refine aY (aN (.inl rfl)) zU1 ?_
 refine aY (aN (.inl rfl)) zU1 ?_
 refine aY (bX rfl tyS22) zU1 ?_
 refine aY (dQ rfl) zU2 ?_
 refine aB (bN rfl) zU2 ?_
 refine aI ?_
 refine cP (fun h49=>?_) (fun h49=>?_)
 ·have hF:=aV h49 hF
  refine aM ?_
  refine aM ?_
  refine aB (bM rfl) ⟨rfl,cW _,trivial⟩ ?_
  refine aC (aA (iO rfl ?_))
  refine bA (aA (aE (bR (aE (aF (aI ?_))))))
  refine aI ?_
  obtain⟨v50,h51,hF⟩:=aP hF
  refine aB (aJ rfl (fV h51) rfl) zU2 ?_
  refine aI ?_
  refine aI ?_
  obtain⟨v52,h53,hF⟩:=aP hF
  refine aB (aJ rfl (fV h53) rfl) zU2 ?_
  obtain⟨v54,h55,hF⟩:=aP hF
  refine aB (bO rfl h55) zU2 ?_
  refine aI ?_
  obtain⟨v56,h57,hF⟩:=aP hF
  refine aB (bO rfl h57) zU2 ?_
  refine bH ?_
  refine aC (aA (aE (aF (aI ?_))))
  refine aI ?_
  obtain⟨v58,h59,hF⟩:=aP hF
  refine aB (rA rfl h59) ⟨rfl,bI _ _,trivial⟩ ?_
  refine aB (iJ (C:=cI) (xs:=[.tmp 36]) (ps:=[.vc (pI .i64 v58)]) (zs:=[v58]) rfl tyS22 rfl ⟨⟨trivial,rfl⟩,trivial⟩ rfl) zU1 ?_
  obtain⟨x60,h61,hF⟩:=aP hF
  refine jD 0 rfl tyS22 rfl rfl q15 rfl rfl h61 (fun b62 c63 H64 e65=>?_)
  cases e65
  refine bH ?_
  refine aC (aA (aF (aI ?_)))
  obtain⟨v67,h68,hF⟩:=aP hF
  refine aB (sF rfl h68) ⟨rfl,bI _ _,trivial⟩ ?_
  refine bH ?_
  refine aC (bJ (aA (aF (aI ?_))))
  obtain⟨v69,h70,hF⟩:=aP hF
  refine aB (bO rfl h70) ⟨rfl,bI _ _,trivial⟩ ?_
  refine bH ?_
  refine aC ?_
  exact bL (fun a w hh=>⟨x60,v67,v69,b62,c63,(n14+[v58].length),hF,(cL h61 q15),bF [0] rfl (by decide) (by exact⟨rfl,rfl,rfl,rfl,rfl,trivial⟩) hh⟩)
 have hF:=aX h49 hF
 refine aY (aN (.inl rfl)) zU1 ?_
 refine aY (rV rfl) ⟨rfl,bI _ _,trivial⟩ ?_
 refine aB (bN rfl) zU2 ?_
 refine aC (aA (bS rfl (fun h71=>?_) (fun h71=>?_)))
 ·have hF:=aV h71 hF
  refine bA (aA (aE (bR (aE (aF (aI ?_))))))
  refine aI ?_
  obtain⟨v72,h73,hF⟩:=aP hF
  refine aB (aJ rfl (fV h73) rfl) zU2 ?_
  refine aI ?_
  refine aI ?_
  obtain⟨v74,h75,hF⟩:=aP hF
  refine aB (aJ rfl (fV h75) rfl) zU2 ?_
  obtain⟨v76,h77,hF⟩:=aP hF
  refine aB (bO rfl h77) zU2 ?_
  refine aI ?_
  obtain⟨v78,h79,hF⟩:=aP hF
  refine aB (bO rfl h79) zU2 ?_
  refine bH ?_
  refine aC (aA (aE (aF (aI ?_))))
  refine aI ?_
  obtain⟨v80,h81,hF⟩:=aP hF
  refine aB (rA rfl h81) ⟨rfl,bI _ _,trivial⟩ ?_
  refine aB (iJ (C:=cI) (xs:=[.tmp 36]) (ps:=[.vc (pI .i64 v80)]) (zs:=[v80]) rfl tyS22 rfl ⟨⟨trivial,rfl⟩,trivial⟩ rfl) zU1 ?_
  obtain⟨x82,h83,hF⟩:=aP hF
  refine jD 0 rfl tyS22 rfl rfl q15 rfl rfl h83 (fun b84 c85 H86 e87=>?_)
  cases e87
  refine bH ?_
  refine aC (aA (aF (aI ?_)))
  obtain⟨v89,h90,hF⟩:=aP hF
  refine aB (sF rfl h90) ⟨rfl,bI _ _,trivial⟩ ?_
  refine bH ?_
  refine aC (bJ (aA (aF (aI ?_))))
  obtain⟨v91,h92,hF⟩:=aP hF
  refine aB (bO rfl h92) ⟨rfl,bI _ _,trivial⟩ ?_
  refine bH ?_
  refine aC ?_
  exact bL (fun a w hh=>⟨x82,v89,v91,b84,c85,(n14+[v80].length),hF,(cL h83 q15),bF [0] rfl (by decide) (by exact⟨rfl,rfl,rfl,rfl,rfl,trivial⟩) hh⟩)
 have hF:=aX h71 hF
 refine dI ?_
 obtain rfl:=bV hF
 exact bU Jj26 ⟨x11,b12,c13,n14,hRl25,q15,rfl,rfl⟩ [0] rfl zU1
def nL (K:Nat) (x19:List Int):Option (List Int):=
 some x19
def eL (K:Nat) (a0:List Int) (a1:List Int):Nat→(List Int)→Int→Int→Option (List Int)
 |0,_,_,_=>none
 |k+1,x11,x17,x18=>bif(decide (x18<(a0.length:Int))) then((dC a0 x18).bind fun v30=>(d9 a1 x18).bind fun v32=>(bW (v30-v32)).bind fun v34=>(bW (v34-x17)).bind fun v36=>bif(decide (v36<0)) then((bW (v36+1000000000)).bind fun v39=>(qO x11 [v39]).bind fun x41=>(bW (x18+1)).bind fun v48=>eL K a0 a1 k x41 1 v48) else((qO x11 [v36]).bind fun x50=>(bW (x18+1)).bind fun v57=>eL K a0 a1 k x50 0 v57)) else(some x11)
def fM (K:Nat) (a0:List Int) (a1:List Int):Option (List Int):=
 (eL K a0 a1 K ([]:List Int) 0 0).bind fun x19=>nL K x19
theorem nC {K:Nat} {a0:List Int} {a1:List Int} {r:List Int} (hF:fM K a0 a1=some r):Ct Tryz.prog 231 [.vc (pS cI a0),.vc (pS cI a1)] (.vc (pS cI r)):=by
 unfold fM at hF
 refine bD Tryz.func231 rfl (by kernel_rfl) Tryz.ntmps231 rfl (fun w0 M0=>?_)
 refine aE (aF (aB (aN (.inr rfl)) ⟨dX cI,trivial⟩ ?_))
 refine aC (aA (aE (aF (sB cI 3 rfl ?_))))
 refine aC (aA (aE (aF (aB (aN (.inr rfl)) ⟨bI _ _,trivial⟩ ?_))))
 refine aC (aA (aE (aE (aF (aB (aN (.inr rfl)) ⟨bI _ _,trivial⟩ ?_)))))
 refine aC (aA (bR (cJ (fun H E=>∃(x19:List Int),∃(b20:Option Nat),∃(c21:Nat),∃(n22:Nat),nL K x19=some r∧x19.length=n22∧H=[hO cI b20 c21 3 n22 x19]∧E=[(5,.vc (pO b20 n22 c21))]) ?_ (fun Jj26=>?_))))
 ·rintro _ _ ⟨x19,b20,c21,n22,hF,q23,rfl,rfl⟩
  unfold nL at hF
  refine aA (aE (aF (aI ?_)))
  refine bH ?_
  refine aC (aA (a9 (a8 (uB 0 [4,5,33] rfl q23 ⟨rfl,rfl,rfl,trivial⟩ rfl ?_))))
  obtain rfl:=bV hF
  exact aL (.inl rfl) Tryz.results231 (.tmp rfl .nil) rfl rfl
 obtain⟨x19',hL,hRl25⟩:=aP hF
 refine gB (fun k a w=>∃(x11:List Int),∃(x17:Int),∃(x18:Int),∃(b12:Option Nat),∃(c13:Nat),∃(n14:Nat),eL K a0 a1 k x11 x17 x18=some x19'∧x11.length=n14∧hs _ [hO cI b12 c13 3 n14 x11] [(0,.vc (pS cI a0)),(1,.vc (pS cI a1)),(5,.vc (pO b12 n14 c13)),(6,.vc (pI .i64 x17)),(7,.vc (pI .i64 x18))] a w) K (fun a w ⟨_,_,_,_,_,_,hF,_,_⟩=>by cases hF) (fun k a w ⟨x11,x17,x18,b12,c13,n14,hF,q15,hh⟩=>gE ?_ hh) (fun a w hh=>⟨([]:List Int),0,0,none,0,0,hL,rfl,bF [0] rfl (by decide) (by exact⟨rfl,rfl,rfl,rfl,rfl,trivial⟩) hh⟩)
 rw [eL.eq_2] at hF
 refine aE (aE (aF (aI ?_)))
 refine aI ?_
 refine aB (bX rfl tyS22) zU1 ?_
 refine aB (dQ rfl) zU2 ?_
 refine aC (aA (bS rfl (fun h27=>?_) (fun h27=>?_)))
 ·have hF:=aV h27 hF
  refine bA (aA (aE (bR (aE ?_))))
  obtain⟨v30,h31,hF⟩:=aP hF
  obtain⟨v32,h33,hF⟩:=aP hF
  obtain⟨v34,h35,hF⟩:=aP hF
  obtain⟨v36,h37,hF⟩:=aP hF
  refine bT [0,0,3,7,0,0,48,127,0,511,1023] 11 0 [.v (.vc (pS cI a0)),.v (.vc (pI .i64 x18)),.v (.vc (pM (cI.e v30))),.v (.vc (pI .i64 v30)),.v (.vc (pS cI a1)),.v (.vc (pI .i64 x18)),.v (.vc (pI .i64 v32)),.v (.vc (pI .i64 v34)),.v (.vc (pI .i64 x17)),.v (.vc (pI .i64 v36)),.v (.vc (pI .i64 v36))] aU ⟨d0 (aN (.inl rfl)) zU1,d0 (aN (.inl rfl)) zU1,d0 (cO rfl tyS22 h31) zU2,d0 (cK 1 rfl rfl (.one tyO3)) zU1,d0 (aN (.inl rfl)) zU1,d0 (aN (.inl rfl)) zU1,d0 (aJ rfl (fV h33) rfl) zU2,d0 (eM rfl h35) zU2,d0 (aN (.inl rfl)) zU1,d0 (eM rfl h37) zU2,d0 (aN (.inr rfl)) zU1,trivial⟩ (fun bs29 G28=>?_)
  refine aC (aA (aE (aF (aB (aN (.inr rfl)) ⟨bI _ _,trivial⟩ ?_))))
  refine aC (aA (aE (aE (aF (aI ?_)))))
  refine aB (dQ rfl) ⟨rfl,bI _ _,trivial⟩ ?_
  refine aC (aA (bS rfl (fun h38=>?_) (fun h38=>?_)))
  ·have hF:=aV h38 hF
   refine aE (aF (aI ?_))
   obtain⟨v39,h40,hF⟩:=aP hF
   refine aB (bO rfl h40) ⟨rfl,bI _ _,trivial⟩ ?_
   refine bH ?_
   refine aC (aA (aF (aB (aN (.inr rfl)) ⟨bI _ _,trivial⟩ ?_)))
   refine aC (aA (aF (aI ?_)))
   refine aI ?_
   refine aB (iJ (C:=cI) (xs:=[.tmp 30]) (ps:=[.vc (pI .i64 v39)]) (zs:=[v39]) rfl tyS22 rfl ⟨⟨trivial,rfl⟩,trivial⟩ rfl) zU1 ?_
   obtain⟨x41,h42,hF⟩:=aP hF
   refine jD 0 rfl tyS22 rfl rfl q15 rfl rfl h42 (fun b43 c44 H45 e46=>?_)
   cases e46
   refine bH ?_
   refine aC (bJ (aA (aF (aI ?_))))
   obtain⟨v48,h49,hF⟩:=aP hF
   refine aB (bO rfl h49) ⟨rfl,bI _ _,trivial⟩ ?_
   refine bH ?_
   refine aC ?_
   exact bL (fun a w hh=>⟨x41,1,v48,b43,c44,(n14+[v39].length),hF,(cL h42 q15),bF [0] rfl (by decide) (by exact⟨rfl,rfl,rfl,rfl,rfl,trivial⟩) hh⟩)
  have hF:=aX h38 hF
  refine bA (aA (aF (aI ?_)))
  refine aI ?_
  refine aB (iJ (C:=cI) (xs:=[.tmp 30]) (ps:=[.vc (pI .i64 v36)]) (zs:=[v36]) rfl tyS22 rfl ⟨⟨trivial,rfl⟩,trivial⟩ rfl) zU1 ?_
  obtain⟨x50,h51,hF⟩:=aP hF
  refine jD 0 rfl tyS22 rfl rfl q15 rfl rfl h51 (fun b52 c53 H54 e55=>?_)
  cases e55
  refine bH ?_
  refine aC (bJ (aA (aF (aI ?_))))
  obtain⟨v57,h58,hF⟩:=aP hF
  refine aB (bO rfl h58) ⟨rfl,bI _ _,trivial⟩ ?_
  refine bH ?_
  refine aC ?_
  exact bL (fun a w hh=>⟨x50,0,v57,b52,c53,(n14+[v36].length),hF,(cL h51 q15),bF [0] rfl (by decide) (by exact⟨rfl,rfl,rfl,rfl,rfl,trivial⟩) hh⟩)
 have hF:=aX h27 hF
 refine dI ?_
 obtain rfl:=bV hF
 exact bU Jj26 ⟨x11,b12,c13,n14,hRl25,q15,rfl,rfl⟩ [0] rfl zU1
def nN (K:Nat) (a0:aZ) (a1:aZ):Option aZ:=
 bif(a0.neg==a1.neg) then((oW K a0.d a1.d).bind fun v7=>(cA K a0.neg v7).bind fun v9=>some v9) else((dJ K a0.d a1.d).bind fun v11=>bif(decide (v11<0)) then((fM K a1.d a0.d).bind fun v16=>(cA K a1.neg v16).bind fun v18=>some v18) else((fM K a0.d a1.d).bind fun v22=>(cA K a0.neg v22).bind fun v24=>some v24))
theorem wA {K:Nat} {a0:aZ} {a1:aZ} {r:aZ} (hF:nN K a0 a1=some r):Ct Tryz.prog 177 [.va (aZ.e a0),.va (aZ.e a1)] (.va (aZ.e r)):=by
 unfold nN at hF
 refine bD Tryz.func177 rfl (by kernel_rfl) Tryz.ntmps177 rfl (fun w0 M0=>?_)
 refine aE (aF (cY rfl rfl trivial (fun b1=>?_)))
 refine cY rfl rfl trivial (fun b2=>?_)
 refine bP rfl tyZ42 (fun b3=>?_)
 refine aC (aA (aE (aE (aF (aB (bE (off:=0) (k:=0) rfl tyF42_0) zU1 ?_)))))
 refine aB (bK 2 1 rfl rfl rfl rfl (.one tyO4)) zU1 ?_
 refine aB (bE (off:=0) (k:=0) rfl tyF42_0) zU1 ?_
 refine aB (bK 1 1 rfl rfl rfl rfl (.one tyO4)) zU1 ?_
 refine aB (aIs rfl Tryz.underlying4) zU2 ?_
 refine aC (aA (bS rfl (fun h4=>?_) (fun h4=>?_)))
 ·have hF:=aV h4 hF
  refine aE ?_
  obtain⟨v7,h8,hF⟩:=aP hF
  obtain⟨v9,h10,hF⟩:=aP hF
  refine bT [0,1,0,4,0,16,60,127,255] 8 1 [.v (.vc (pP (some b1) 0)),.v (.vc (pB a0.neg)),.v (.vc (pP (some b1) 1)),.v (.vc (pS cI a0.d)),.v (.vc (pP (some b2) 1)),.v (.vc (pS cI a1.d)),.v (.vc (pS cI v7)),.v (.va (aZ.e v9))] aU ⟨d0 (bE (off:=0) (k:=0) rfl tyF42_0) zU1,d0 (bK 2 1 rfl rfl rfl rfl (.one tyO4)) zU1,d0 (bE (off:=0) (k:=1) rfl tyF42_1) zU1,d0 (bK 2 1 rfl rfl rfl rfl (.one tyO22)) zU1,d0 (bE (off:=0) (k:=1) rfl tyF42_1) zU1,d0 (bK 1 1 rfl rfl rfl rfl (.one tyO22)) zU1,d0 (aJ rfl (aAl h8) rfl) zU2,d0 (aJ rfl (cM h10) rfl) zU2,trivial⟩ (fun bs6 G5=>?_)
  refine bG (dO 0 rfl rfl rfl tyA42.s) zU2 ?_
  refine aC (aA (a9 (a8 ?_)))
  obtain rfl:=bV hF
  exact aL (.inl rfl) Tryz.results177 (bQ 0 2 rfl rfl rfl rfl (.agg tyA42) .nil) rfl rfl
 have hF:=aX h4 hF
 refine bA (aA (aE (aE (aF (aB (bE (off:=0) (k:=1) rfl tyF42_1) zU1 ?_)))))
 refine aB (bK 2 1 rfl rfl rfl rfl (.one tyO22)) zU1 ?_
 refine aB (bE (off:=0) (k:=1) rfl tyF42_1) zU1 ?_
 refine aB (bK 1 1 rfl rfl rfl rfl (.one tyO22)) zU1 ?_
 obtain⟨v11,h12,hF⟩:=aP hF
 refine aB (aJ rfl (gN h12) rfl) zU2 ?_
 refine aB (dQ rfl) ⟨rfl,bI _ _,trivial⟩ ?_
 refine aC (aA (bS rfl (fun h13=>?_) (fun h13=>?_)))
 ·have hF:=aV h13 hF
  refine aE ?_
  obtain⟨v16,h17,hF⟩:=aP hF
  obtain⟨v18,h19,hF⟩:=aP hF
  refine bT [0,1,0,4,0,16,60,127,255] 8 1 [.v (.vc (pP (some b2) 0)),.v (.vc (pB a1.neg)),.v (.vc (pP (some b2) 1)),.v (.vc (pS cI a1.d)),.v (.vc (pP (some b1) 1)),.v (.vc (pS cI a0.d)),.v (.vc (pS cI v16)),.v (.va (aZ.e v18))] aU ⟨d0 (bE (off:=0) (k:=0) rfl tyF42_0) zU1,d0 (bK 1 1 rfl rfl rfl rfl (.one tyO4)) zU1,d0 (bE (off:=0) (k:=1) rfl tyF42_1) zU1,d0 (bK 1 1 rfl rfl rfl rfl (.one tyO22)) zU1,d0 (bE (off:=0) (k:=1) rfl tyF42_1) zU1,d0 (bK 2 1 rfl rfl rfl rfl (.one tyO22)) zU1,d0 (aJ rfl (nC h17) rfl) zU2,d0 (aJ rfl (cM h19) rfl) zU2,trivial⟩ (fun bs15 G14=>?_)
  refine bG (dO 0 rfl rfl rfl tyA42.s) zU2 ?_
  refine aC (aA (a9 (a8 ?_)))
  obtain rfl:=bV hF
  exact aL (.inl rfl) Tryz.results177 (bQ 0 2 rfl rfl rfl rfl (.agg tyA42) .nil) rfl rfl
 have hF:=aX h13 hF
 refine bA (aA (aE ?_))
 obtain⟨v22,h23,hF⟩:=aP hF
 obtain⟨v24,h25,hF⟩:=aP hF
 refine bT [0,1,0,4,0,16,60,127,255] 8 1 [.v (.vc (pP (some b1) 0)),.v (.vc (pB a0.neg)),.v (.vc (pP (some b1) 1)),.v (.vc (pS cI a0.d)),.v (.vc (pP (some b2) 1)),.v (.vc (pS cI a1.d)),.v (.vc (pS cI v22)),.v (.va (aZ.e v24))] aU ⟨d0 (bE (off:=0) (k:=0) rfl tyF42_0) zU1,d0 (bK 2 1 rfl rfl rfl rfl (.one tyO4)) zU1,d0 (bE (off:=0) (k:=1) rfl tyF42_1) zU1,d0 (bK 2 1 rfl rfl rfl rfl (.one tyO22)) zU1,d0 (bE (off:=0) (k:=1) rfl tyF42_1) zU1,d0 (bK 1 1 rfl rfl rfl rfl (.one tyO22)) zU1,d0 (aJ rfl (nC h23) rfl) zU2,d0 (aJ rfl (cM h25) rfl) zU2,trivial⟩ (fun bs21 G20=>?_)
 refine bG (dO 0 rfl rfl rfl tyA42.s) zU2 ?_
 refine aC (aA (a9 (a8 ?_)))
 obtain rfl:=bV hF
 exact aL (.inl rfl) Tryz.results177 (bQ 0 2 rfl rfl rfl rfl (.agg tyA42) .nil) rfl rfl
def gG (a0:List Int):Option Int:=
 (d9 a0 1).bind fun v1=>(bW (v1*1000000000)).bind fun v3=>(d9 a0 0).bind fun v5=>(bW (v3+v5)).bind fun v7=>some v7
theorem lZ {a0:List Int} {r:Int} (hF:gG a0=some r):Ct Tryz.prog 228 [.vc (pS cI a0)] (.vc (pI .i64 r)):=by
 unfold gG at hF
 refine bD Tryz.func228 rfl (by kernel_rfl) Tryz.ntmps228 rfl (fun w0 M0=>?_)
 refine aE (aF (aB (aN (.inr rfl)) ⟨bI _ _,trivial⟩ ?_))
 refine aC (aA (aE (aF (aI ?_))))
 obtain⟨v1,h2,hF⟩:=aP hF
 refine aB (aJ rfl (fV h2) rfl) ⟨rfl,bI _ _,trivial⟩ ?_
 obtain⟨v3,h4,hF⟩:=aP hF
 refine aB (pL rfl h4) ⟨rfl,bI _ _,trivial⟩ ?_
 refine aI ?_
 obtain⟨v5,h6,hF⟩:=aP hF
 refine aB (aJ rfl (fV h6) rfl) ⟨rfl,bI _ _,trivial⟩ ?_
 obtain⟨v7,h8,hF⟩:=aP hF
 refine aB (bO rfl h8) zU2 ?_
 refine bH ?_
 refine aC (aA (a9 (a8 ?_)))
 obtain rfl:=bV hF
 exact aL (.inl rfl) Tryz.results228 (.tmp rfl .nil) rfl rfl
def pG (K:Nat) (a0:aZ) (a1:aZ) (x25:List Int):Option aZ:=
 (cA K (a0.neg != a1.neg) x25).bind fun v33=>some v33
def o6 (K:Nat) (a1:aZ) (x24:Int) (recl31:(List Int)→Int→Option (List Int)) (x52:List Int) (x58:Int):Option (List Int):=
 (bW (x24+(a1.d.length:Int))).bind fun v61=>(dC x52 v61).bind fun v63=>(qC x52 v61 x58).bind fun x65=>(bW (x24+1)).bind fun v68=>recl31 x65 v68
def gK (K:Nat) (a0:aZ) (a1:aZ) (x24:Int):Nat→(List Int)→Int→Int→Option ((List Int)×Int)
 |0,_,_,_=>none
 |k+1,x44,x50,x51=>bif(decide (x51<(a1.d.length:Int))) then((bW (x24+x51)).bind fun v73=>(dC x44 v73).bind fun v75=>(dC a0.d x24).bind fun v77=>(dC a1.d x51).bind fun v79=>(bW (v77*v79)).bind fun v81=>(bW (v75+v81)).bind fun v83=>(bW (v83+x50)).bind fun v85=>(bW (x24+x51)).bind fun v87=>(vM v85 1000000000).bind fun v89=>(dC x44 v87).bind fun v91=>(qC x44 v87 v89).bind fun x93=>(vW v85 1000000000).bind fun v96=>(bW (x51+1)).bind fun v98=>gK K a0 a1 x24 k x93 v96 v98) else(some (x44,x50))
def gL (K:Nat) (a0:aZ) (a1:aZ):Nat→(List Int)→Int→Option (List Int)
 |0,_,_=>none
 |k+1,x18,x24=>bif(decide (x24<(a0.d.length:Int))) then((gK K a0 a1 x24 K x18 0 0).bind fun(x52,x58)=>o6 K a1 x24 (gL K a0 a1 k) x52 x58) else(some x18)
def gW (K:Nat) (a0:aZ) (a1:aZ):Option aZ:=
 (bW ((a0.d.length:Int)+(a1.d.length:Int))).bind fun v4=>(vK v4 0).bind fun x6=>(gL K a0 a1 K x6 0).bind fun x25=>pG K a0 a1 x25
theorem mK {K:Nat} {a0:aZ} {a1:aZ} {r:aZ} (hF:gW K a0 a1=some r):Ct Tryz.prog 175 [.va (aZ.e a0),.va (aZ.e a1)] (.va (aZ.e r)):=by
 unfold gW at hF
 refine bD Tryz.func175 rfl (by kernel_rfl) Tryz.ntmps175 rfl (fun w0 M0=>?_)
 refine aE (aF (cY rfl rfl trivial (fun b1=>?_)))
 refine cY rfl rfl trivial (fun b2=>?_)
 refine bP rfl tyZ42 (fun b3=>?_)
 refine aC (aA (aE (aF (aB (bE (off:=0) (k:=1) rfl tyF42_1) zU1 ?_))))
 refine aB (bK 2 1 rfl rfl rfl rfl (.one tyO22)) zU1 ?_
 refine aB (bX rfl tyS22) zU1 ?_
 refine aB (bE (off:=0) (k:=1) rfl tyF42_1) zU1 ?_
 refine aB (bK 1 1 rfl rfl rfl rfl (.one tyO22)) zU1 ?_
 refine aB (bX rfl tyS22) zU1 ?_
 obtain⟨v4,h5,hF⟩:=aP hF
 refine aB (bO rfl h5) zU2 ?_
 obtain⟨x6,h7,hF⟩:=aP hF
 refine r6 (C:=cI) rfl tyS22 rfl tyZ3 rfl h7 (fun b8=>?_)
 refine bH ?_
 refine aC (aA (aE (aE (aF (aB (aN (.inr rfl)) ⟨bI _ _,trivial⟩ ?_)))))
 refine aC (aA (bR (cJ (fun H E=>∃(x25:List Int),pG K a0 a1 x25=some r∧x25.length=x6.length∧H=[hO cI b8 x6.length 3 x6.length x25,⟨some b3,1,42,2,1,([pB false]++[pS cI ([]:List Int)])⟩,⟨some b2,1,42,2,1,(aZ.e a1)⟩,⟨some b1,1,42,2,1,(aZ.e a0)⟩]∧E=[(2,.vc (pP (some b1) 0)),(3,.vc (pP (some b2) 0)),(4,.vc (pP (some b3) 0)),(5,.vc (pO b8 x6.length x6.length))]) ?_ (fun Jj32=>?_))))
 ·rintro _ _ ⟨x25,hF,q29,rfl,rfl⟩
  unfold pG at hF
  refine aA (aE (aF (aB (bE (off:=0) (k:=0) rfl tyF42_0) zU1 ?_)))
  refine aB (bK 3 1 rfl rfl rfl rfl (.one tyO4)) zU1 ?_
  refine aB (bE (off:=0) (k:=0) rfl tyF42_0) zU1 ?_
  refine aB (bK 2 1 rfl rfl rfl rfl (.one tyO4)) zU1 ?_
  refine aB (y6 rfl Tryz.underlying4) zU2 ?_
  refine aI ?_
  refine wI 0 [5,74] rfl q29 zU2 rfl ?_
  obtain⟨v33,h34,hF⟩:=aP hF
  refine aB (aJ rfl (cM h34) rfl) zU2 ?_
  refine bG (dO 0 rfl rfl rfl tyA42.s) zU2 ?_
  refine aC (aA (a9 (a8 ?_)))
  obtain rfl:=bV hF
  exact aL (.inl rfl) Tryz.results175 (bQ 0 2 rfl rfl rfl rfl (.agg tyA42) .nil) rfl rfl
 obtain⟨x25',hL,hRl31⟩:=aP hF
 refine gB (fun k a w=>∃(x18:List Int),∃(x24:Int),gL K a0 a1 k x18 x24=some x25'∧x18.length=x6.length∧hs _ [hO cI b8 x6.length 3 x6.length x18,⟨some b3,1,42,2,1,([pB false]++[pS cI ([]:List Int)])⟩,⟨some b2,1,42,2,1,(aZ.e a1)⟩,⟨some b1,1,42,2,1,(aZ.e a0)⟩] [(2,.vc (pP (some b1) 0)),(3,.vc (pP (some b2) 0)),(4,.vc (pP (some b3) 0)),(5,.vc (pO b8 x6.length x6.length)),(6,.vc (pI .i64 x24))] a w) K (fun a w ⟨_,_,hF,_,_⟩=>by cases hF) (fun k a w ⟨x18,x24,hF,q22,hh⟩=>gE ?_ hh) (fun a w hh=>⟨x6,0,hL,rfl,bF [0,1,2,3] rfl (by decide) (by exact⟨rfl,rfl,rfl,rfl,rfl,trivial⟩) hh⟩)
 rw [gL.eq_2] at hF
 refine aE (aE (aF (aI ?_)))
 refine aB (bE (off:=0) (k:=1) rfl tyF42_1) zU1 ?_
 refine aB (bK 3 1 rfl rfl rfl rfl (.one tyO22)) zU1 ?_
 refine aB (bX rfl tyS22) zU1 ?_
 refine aB (dQ rfl) zU2 ?_
 refine aC (aA (bS rfl (fun h35=>?_) (fun h35=>?_)))
 ·have hF:=aV h35 hF
  refine bA (aA (aE (bR (aE (aF (aB (aN (.inr rfl)) ⟨bI _ _,trivial⟩ ?_))))))
  refine aC (aA (aE (aE (aF (aB (aN (.inr rfl)) ⟨bI _ _,trivial⟩ ?_)))))
  refine aC (aA (bR (cJ (fun H E=>∃(x52:List Int),∃(x58:Int),o6 K a1 x24 (gL K a0 a1 k) x52 x58=some x25'∧x52.length=x6.length∧H=[hO cI b8 x6.length 3 x6.length x52,⟨some b3,1,42,2,1,([pB false]++[pS cI ([]:List Int)])⟩,⟨some b2,1,42,2,1,(aZ.e a1)⟩,⟨some b1,1,42,2,1,(aZ.e a0)⟩]∧E=[(2,.vc (pP (some b1) 0)),(3,.vc (pP (some b2) 0)),(4,.vc (pP (some b3) 0)),(5,.vc (pO b8 x6.length x6.length)),(6,.vc (pI .i64 x24)),(7,.vc (pI .i64 x58))]) ?_ (fun Jj60=>?_))))
  ·rintro _ _ ⟨x52,x58,hF,q56,rfl,rfl⟩
   unfold o6 at hF
   refine aA (aF (aI ?_))
   refine aI ?_
   refine aB (bE (off:=0) (k:=1) rfl tyF42_1) zU1 ?_
   refine aB (bK 2 1 rfl rfl rfl rfl (.one tyO22)) zU1 ?_
   refine aB (bX rfl tyS22) zU1 ?_
   obtain⟨v61,h62,hF⟩:=aP hF
   refine aB (bO rfl h62) zU2 ?_
   refine aI ?_
   obtain⟨v63,h64,hF⟩:=aP hF
   refine aB (cS (C:=cI) 0 rfl tyS22 rfl q56 (aS h64).1 (aS h64).2.1) zU2 ?_
   obtain⟨x65,h66,hF⟩:=aP hF
   refine bG (fW 0 rfl rfl h64 h66 tyO3.s) zU2 ?_
   refine aC (bJ (aA (aF (aI ?_))))
   obtain⟨v68,h69,hF⟩:=aP hF
   refine aB (bO rfl h69) ⟨rfl,bI _ _,trivial⟩ ?_
   refine bH ?_
   refine aC ?_
   exact bL (fun a w hh=>⟨x65,v68,hF,(cE h66 q56),bF [0,1,2,3] rfl (by decide) (by exact⟨rfl,rfl,rfl,rfl,rfl,trivial⟩) hh⟩)
  obtain⟨⟨x52',x58'⟩,hL,hRl59⟩:=aP hF
  refine gB (fun k a w=>∃(x44:List Int),∃(x50:Int),∃(x51:Int),gK K a0 a1 x24 k x44 x50 x51=some (x52',x58')∧x44.length=x6.length∧hs _ [hO cI b8 x6.length 3 x6.length x44,⟨some b3,1,42,2,1,([pB false]++[pS cI ([]:List Int)])⟩,⟨some b2,1,42,2,1,(aZ.e a1)⟩,⟨some b1,1,42,2,1,(aZ.e a0)⟩] [(2,.vc (pP (some b1) 0)),(3,.vc (pP (some b2) 0)),(4,.vc (pP (some b3) 0)),(5,.vc (pO b8 x6.length x6.length)),(6,.vc (pI .i64 x24)),(7,.vc (pI .i64 x50)),(8,.vc (pI .i64 x51))] a w) K (fun a w ⟨_,_,_,hF,_,_⟩=>by cases hF) (fun k a w ⟨x44,x50,x51,hF,q48,hh⟩=>gE ?_ hh) (fun a w hh=>⟨x18,0,0,hL,q22,bF [0,1,2,3] rfl (by decide) (by exact⟨rfl,rfl,rfl,rfl,rfl,rfl,rfl,trivial⟩) hh⟩)
  rw [gK.eq_2] at hF
  refine aE (aE (aF (aI ?_)))
  refine aB (bE (off:=0) (k:=1) rfl tyF42_1) zU1 ?_
  refine aB (bK 2 1 rfl rfl rfl rfl (.one tyO22)) zU1 ?_
  refine aB (bX rfl tyS22) zU1 ?_
  refine aB (dQ rfl) zU2 ?_
  refine aC (aA (bS rfl (fun h70=>?_) (fun h70=>?_)))
  ·have hF:=aV h70 hF
   refine bA (aA (aE (bR (aE ?_))))
   obtain⟨v73,h74,hF⟩:=aP hF
   obtain⟨v75,h76,hF⟩:=aP hF
   obtain⟨v77,h78,hF⟩:=aP hF
   obtain⟨v79,h80,hF⟩:=aP hF
   obtain⟨v81,h82,hF⟩:=aP hF
   obtain⟨v83,h84,hF⟩:=aP hF
   obtain⟨v85,h86,hF⟩:=aP hF
   refine bT [0,0,0,6,15,31,0,64,0,448,960,0,2048,0,14336,30720,65472,131071,0,524287,1048575] 21 0 [.v (.vc (pO b8 x6.length x6.length)),.v (.vc (pI .i64 x24)),.v (.vc (pI .i64 x51)),.v (.vc (pI .i64 v73)),.v (.vc (pE b8 v73 cI.n 0)),.v (.vc (pI .i64 v75)),.v (.vc (pP (some b1) 1)),.v (.vc (pS cI a0.d)),.v (.vc (pI .i64 x24)),.v (.vc (pM (cI.e v77))),.v (.vc (pI .i64 v77)),.v (.vc (pP (some b2) 1)),.v (.vc (pS cI a1.d)),.v (.vc (pI .i64 x51)),.v (.vc (pM (cI.e v79))),.v (.vc (pI .i64 v79)),.v (.vc (pI .i64 v81)),.v (.vc (pI .i64 v83)),.v (.vc (pI .i64 x50)),.v (.vc (pI .i64 v85)),.v (.vc (pI .i64 v85))] aU ⟨d0 (aN (.inl rfl)) zU1,d0 (aN (.inl rfl)) zU1,d0 (aN (.inl rfl)) zU1,d0 (bO rfl h74) zU2,d0 (cS (C:=cI) 0 rfl tyS22 rfl q48 (aS h76).1 (aS h76).2.1) zU2,d0 (g9 (k:=1) 0 rfl rfl h76 rfl (.one tyO3) rfl) zU1,d0 (bE (off:=0) (k:=1) rfl tyF42_1) zU1,d0 (bK 3 1 rfl rfl rfl rfl (.one tyO22)) zU1,d0 (aN (.inl rfl)) zU1,d0 (cO rfl tyS22 h78) zU2,d0 (cK 1 rfl rfl (.one tyO3)) zU1,d0 (bE (off:=0) (k:=1) rfl tyF42_1) zU1,d0 (bK 2 1 rfl rfl rfl rfl (.one tyO22)) zU1,d0 (aN (.inl rfl)) zU1,d0 (cO rfl tyS22 h80) zU2,d0 (cK 1 rfl rfl (.one tyO3)) zU1,d0 (pL rfl h82) zU2,d0 (bO rfl h84) zU2,d0 (aN (.inl rfl)) zU1,d0 (bO rfl h86) zU2,d0 (aN (.inr rfl)) zU1,trivial⟩ (fun bs72 G71=>?_)
   refine aC (aA (aE (aF (aI ?_))))
   refine aI ?_
   refine aI ?_
   obtain⟨v87,h88,hF⟩:=aP hF
   refine aB (bO rfl h88) zU2 ?_
   refine aI ?_
   obtain⟨v89,h90,hF⟩:=aP hF
   refine aB (rA rfl h90) ⟨rfl,bI _ _,trivial⟩ ?_
   obtain⟨v91,h92,hF⟩:=aP hF
   refine aB (cS (C:=cI) 0 rfl tyS22 rfl q48 (aS h92).1 (aS h92).2.1) zU2 ?_
   obtain⟨x93,h94,hF⟩:=aP hF
   refine bG (fW 0 rfl rfl h92 h94 tyO3.s) zU2 ?_
   refine aC (aA (aF (aI ?_)))
   obtain⟨v96,h97,hF⟩:=aP hF
   refine aB (sF rfl h97) ⟨rfl,bI _ _,trivial⟩ ?_
   refine bH ?_
   refine aC (bJ (aA (aF (aI ?_))))
   obtain⟨v98,h99,hF⟩:=aP hF
   refine aB (bO rfl h99) ⟨rfl,bI _ _,trivial⟩ ?_
   refine bH ?_
   refine aC ?_
   exact bL (fun a w hh=>⟨x93,v96,v98,hF,(cE h94 q48),bF [0,1,2,3] rfl (by decide) (by exact⟨rfl,rfl,rfl,rfl,rfl,rfl,rfl,trivial⟩) hh⟩)
  have hF:=aX h70 hF
  refine dI ?_
  obtain⟨rfl,rfl⟩:=sm2 hF
  exact bU Jj60 ⟨x44,x50,hRl59,q48,rfl,rfl⟩ [0,1,2,3] rfl ⟨rfl,rfl,rfl,rfl,rfl,rfl,trivial⟩
 have hF:=aX h35 hF
 refine dI ?_
 obtain rfl:=bV hF
 exact bU Jj32 ⟨x18,hRl31,q22,rfl,rfl⟩ [0,1,2,3] rfl ⟨rfl,rfl,rfl,rfl,trivial⟩
def iN (K:Nat) (a0:List Int) (a1:Int):Option (List Int):=
 (cA K false a0).bind fun v1=>(gU K a1).bind fun v3=>(gW K v1 v3).bind fun v5=>some v5.d
theorem qG {K:Nat} {a0:List Int} {a1:Int} {r:List Int} (hF:iN K a0 a1=some r):Ct Tryz.prog 260 [.vc (pS cI a0),.vc (pI .i64 a1)] (.vc (pS cI r)):=by
 unfold iN at hF
 refine bD Tryz.func260 rfl (by kernel_rfl) Tryz.ntmps260 rfl (fun w0 M0=>?_)
 refine aE (aF (aB (aN (.inr rfl)) ⟨dX cI,trivial⟩ ?_))
 refine aC (aA (aE (aF (aI ?_))))
 obtain⟨v1,h2,hF⟩:=aP hF
 refine aB (aJ rfl (cM h2) rfl) ⟨cW _,rfl,trivial⟩ ?_
 refine aI ?_
 obtain⟨v3,h4,hF⟩:=aP hF
 refine aB (aJ rfl (lD h4) rfl) zU1 ?_
 obtain⟨v5,h6,hF⟩:=aP hF
 refine aB (aJ rfl (mK h6) rfl) zU2 ?_
 refine bP rfl tyZ42 (fun b7=>?_)
 refine bG (dO 0 rfl rfl rfl tyA42.s) zU2 ?_
 refine aC (aA (aE (aF (aB (bE (off:=0) (k:=1) rfl tyF42_1) zU1 ?_))))
 refine aB (bK 0 1 rfl rfl rfl rfl (.one tyO22)) zU1 ?_
 refine bH ?_
 refine aC (aA (a9 (a8 ?_)))
 obtain rfl:=bV hF
 exact aL (.inl rfl) Tryz.results260 (.tmp rfl .nil) rfl rfl
end Go.Proofs.YtcjdedkdoagifaaGreat
set_option linter.unusedVariables false
set_option maxRecDepth 100000
namespace Go.Proofs.YtcjdedkdoagifaaGreat
def jZ (K:Nat) (x46:List Int) (x52:List Int):Option ((List Int)×(List Int)):=
 some (x46,x52)
def iA (K:Nat) (a1:List Int) (x38:List Int) (x45:Int) (v68:aZ) (recl53:(List Int)→(List Int)→Int→Option ((List Int)×(List Int))) (x78:Int):Option ((List Int)×(List Int)):=
 (iN K a1 x78).bind fun v81=>(fM K v68.d v81).bind fun v83=>(cA K false v83).bind fun v85=>(dC x38 x45).bind fun v88=>(qC x38 x45 x78).bind fun x90=>(bW (x45-1)).bind fun v93=>recl53 x90 v85.d v93
def cR (K:Nat) (a1:List Int) (v68:aZ):Nat→Int→Int→Option Int
 |0,_,_=>none
 |k+1,x76,x77=>bif(decide (x76<x77)) then((bW (x76+x77)).bind fun v96=>(bW (v96+1)).bind fun v98=>(vW v98 2).bind fun v100=>(iN K a1 v100).bind fun v102=>(dJ K v102 v68.d).bind fun v104=>bif(decide (v104≤0)) then(cR K a1 v68 k v100 x77) else((bW (v100-1)).bind fun v107=>cR K a1 v68 k x76 v107)) else(some x76)
def fT (K:Nat) (a1:List Int) (x38:List Int) (x45:Int) (v68:aZ) (recl53:(List Int)→(List Int)→Int→Option ((List Int)×(List Int))) (x72:Int):Option ((List Int)×(List Int)):=
 (cR K a1 v68 K 0 x72).bind fun x78=>iA K a1 x38 x45 v68 recl53 x78
def cF (K:Nat) (a0:List Int) (a1:List Int):Nat→(List Int)→(List Int)→Int→Option ((List Int)×(List Int))
 |0,_,_,_=>none
 |k+1,x38,x44,x45=>bif(decide (0≤x45)) then((dC a0 x45).bind fun v56=>(qO [v56] x44).bind fun x61=>(cA K false x61).bind fun v68=>(dJ K v68.d a1).bind fun v109=>bif(decide (v109<0)) then(fT K a1 x38 x45 v68 (cF K a0 a1 k) 0) else(fT K a1 x38 x45 v68 (cF K a0 a1 k) 999999999)) else(some (x38,x44))
def oV (K:Nat) (x135:List Int) (x141:List Int):Option ((List Int)×(List Int)):=
 some (x135,x141)
def lI (K:Nat) (a1:List Int) (x127:List Int) (x134:Int) (v157:aZ) (recl142:(List Int)→(List Int)→Int→Option ((List Int)×(List Int))) (x167:Int):Option ((List Int)×(List Int)):=
 (iN K a1 x167).bind fun v170=>(fM K v157.d v170).bind fun v172=>(cA K false v172).bind fun v174=>(dC x127 x134).bind fun v177=>(qC x127 x134 x167).bind fun x179=>(bW (x134-1)).bind fun v182=>recl142 x179 v174.d v182
def fE (K:Nat) (a1:List Int) (v157:aZ):Nat→Int→Int→Option Int
 |0,_,_=>none
 |k+1,x165,x166=>bif(decide (x165<x166)) then((bW (x165+x166)).bind fun v185=>(bW (v185+1)).bind fun v187=>(vW v187 2).bind fun v189=>(iN K a1 v189).bind fun v191=>(dJ K v191 v157.d).bind fun v193=>bif(decide (v193≤0)) then(fE K a1 v157 k v189 x166) else((bW (v189-1)).bind fun v196=>fE K a1 v157 k x165 v196)) else(some x165)
def jL (K:Nat) (a1:List Int) (x127:List Int) (x134:Int) (v157:aZ) (recl142:(List Int)→(List Int)→Int→Option ((List Int)×(List Int))) (x161:Int):Option ((List Int)×(List Int)):=
 (fE K a1 v157 K 0 x161).bind fun x167=>lI K a1 x127 x134 v157 recl142 x167
def dN (K:Nat) (a0:List Int) (a1:List Int):Nat→(List Int)→(List Int)→Int→Option ((List Int)×(List Int))
 |0,_,_,_=>none
 |k+1,x127,x133,x134=>bif(decide (0≤x134)) then((dC a0 x134).bind fun v145=>(qO [v145] x133).bind fun x150=>(cA K false x150).bind fun v157=>(dJ K v157.d a1).bind fun v198=>bif(decide (v198<0)) then(jL K a1 x127 x134 v157 (dN K a0 a1 k) 0) else(jL K a1 x127 x134 v157 (dN K a0 a1 k) 999999999)) else(some (x127,x133))
def iQ (K:Nat) (a0:List Int) (a1:List Int):Option ((List Int)×(List Int)):=
 bif(decide ((a0.length:Int)≤2)) then(bif(decide ((a1.length:Int)≤2)) then((gG a0).bind fun v3=>(gG a1).bind fun v5=>(vW v3 v5).bind fun v7=>(gU K v7).bind fun v9=>(gG a0).bind fun v12=>(gG a1).bind fun v14=>(vM v12 v14).bind fun v16=>(gU K v16).bind fun v18=>some (v9.d,v18.d)) else((vK (a0.length:Int) 0).bind fun x23=>(bW ((a0.length:Int)-1)).bind fun v28=>(cF K a0 a1 K x23 [] v28).bind fun(x46,x52)=>jZ K x46 x52)) else((vK (a0.length:Int) 0).bind fun x112=>(bW ((a0.length:Int)-1)).bind fun v117=>(dN K a0 a1 K x112 [] v117).bind fun(x135,x141)=>oV K x135 x141)
theorem yF {K:Nat} {a0:List Int} {a1:List Int} {r:(List Int)×(List Int)} (hF:iQ K a0 a1=some r):Ct Tryz.prog 232 [.vc (pS cI a0),.vc (pS cI a1)] (.t2 (.vc (pS cI r.1)) (.vc (pS cI r.2))):=by
 unfold iQ at hF
 refine bD Tryz.func232 rfl (by kernel_rfl) Tryz.ntmps232 rfl (fun w0 M0=>?_)
 refine aE (aF (aB (aN (.inr rfl)) ⟨dX cI,trivial⟩ ?_))
 refine aB (aN (.inr rfl)) ⟨dX cI,trivial⟩ ?_
 refine aC (aA (aE (aE (aF (aI ?_)))))
 refine aB (bX rfl tyS22) zU1 ?_
 refine aB (zF rfl) ⟨rfl,bI _ _,trivial⟩ ?_
 refine aI ?_
 refine cP (fun h1=>?_) (fun h1=>?_)
 ·have hF:=aV h1 hF
  refine aY (aN (.inl rfl)) zU1 ?_
  refine aY (bX rfl tyS22) zU1 ?_
  refine aY (zF rfl) ⟨rfl,bI _ _,trivial⟩ ?_
  refine aB (bM rfl) zU2 ?_
  refine aC (aA (bS rfl (fun h2=>?_) (fun h2=>?_)))
  ·have hF:=aV h2 hF
   refine aE (aF (aI ?_))
   obtain⟨v3,h4,hF⟩:=aP hF
   refine aB (aJ rfl (lZ h4) rfl) zU1 ?_
   refine aI ?_
   obtain⟨v5,h6,hF⟩:=aP hF
   refine aB (aJ rfl (lZ h6) rfl) zU1 ?_
   obtain⟨v7,h8,hF⟩:=aP hF
   refine aB (sF rfl h8) zU2 ?_
   obtain⟨v9,h10,hF⟩:=aP hF
   refine aB (aJ rfl (lD h10) rfl) zU1 ?_
   refine bP rfl tyZ42 (fun b11=>?_)
   refine bG (dO 0 rfl rfl rfl tyA42.s) zU2 ?_
   refine aC (aA (aE (aF (aI ?_))))
   obtain⟨v12,h13,hF⟩:=aP hF
   refine aB (aJ rfl (lZ h13) rfl) zU1 ?_
   refine aI ?_
   obtain⟨v14,h15,hF⟩:=aP hF
   refine aB (aJ rfl (lZ h15) rfl) zU1 ?_
   obtain⟨v16,h17,hF⟩:=aP hF
   refine aB (rA rfl h17) zU2 ?_
   obtain⟨v18,h19,hF⟩:=aP hF
   refine aB (aJ rfl (lD h19) rfl) zU1 ?_
   refine bP rfl tyZ42 (fun b20=>?_)
   refine bG (dO 0 rfl rfl rfl tyA42.s) zU2 ?_
   refine aC (aA (aE (bT [0,1,0,4,3,31] 6 0 [.v (.vc (pP (some b11) 1)),.v (.vc (pS cI v9.d)),.v (.vc (pP (some b20) 1)),.v (.vc (pS cI v18.d)),.v (.vc (pS cI v9.d)),.v (.vc (pS cI v18.d))] aU ⟨d0 (bE (off:=0) (k:=1) rfl tyF42_1) zU1,d0 (bK 1 1 rfl rfl rfl rfl (.one tyO22)) zU1,d0 (bE (off:=0) (k:=1) rfl tyF42_1) zU1,d0 (bK 0 1 rfl rfl rfl rfl (.one tyO22)) zU1,d0 (aN (.inr rfl)) zU1,d0 (aN (.inr rfl)) zU1,trivial⟩ (fun bs22 G21=>?_))))
   refine aC (aA (a9 (a8 ?_)))
   obtain rfl:=bV hF
   exact aL (.inl rfl) Tryz.results232 (.tmp rfl (.tmp rfl .nil)) rfl rfl
  have hF:=aX h2 hF
  refine bA (aA (aE (aF (aI ?_))))
  refine aB (bX rfl tyS22) zU1 ?_
  obtain⟨x23,h24,hF⟩:=aP hF
  refine r6 (C:=cI) rfl tyS22 rfl tyZ3 rfl h24 (fun b25=>?_)
  refine bH ?_
  refine aC (aA (aE (aF (aB (aN (.inr rfl)) ⟨dX cI,trivial⟩ ?_))))
  refine aC (aA (aE (aE (aF (aI ?_)))))
  refine aB (bX rfl tyS22) zU1 ?_
  obtain⟨v28,h29,hF⟩:=aP hF
  refine aB (eM rfl h29) ⟨rfl,bI _ _,trivial⟩ ?_
  refine bH ?_
  refine aC (aA (bR (cJ (fun H E=>∃(x46:List Int),∃(x52:List Int),jZ K x46 x52=some r∧x46.length=x23.length∧H=[hO cI b25 x23.length 3 x23.length x46]∧E=[(8,.vc (pO b25 x23.length x23.length)),(9,.vc (pS cI x52))]) ?_ (fun Jj54=>?_))))
  ·rintro _ _ ⟨x46,x52,hF,q50,rfl,rfl⟩
   unfold jZ at hF
   refine aA (aE (aF (aI ?_)))
   refine aI ?_
   refine bH ?_
   refine bH ?_
   refine aC (aA (a9 (a8 (uB 0 [4,8,93] rfl q50 ⟨rfl,rfl,rfl,trivial⟩ rfl ?_))))
   obtain rfl:=bV hF
   exact aL (.inl rfl) Tryz.results232 (.tmp rfl (.tmp rfl .nil)) rfl rfl
  obtain⟨⟨x46',x52'⟩,hL,hRl53⟩:=aP hF
  refine gB (fun k a w=>∃(x38:List Int),∃(x44:List Int),∃(x45:Int),cF K a0 a1 k x38 x44 x45=some (x46',x52')∧x38.length=x23.length∧hs _ [hO cI b25 x23.length 3 x23.length x38] [(0,.vc (pS cI a0)),(1,.vc (pS cI a1)),(8,.vc (pO b25 x23.length x23.length)),(9,.vc (pS cI x44)),(10,.vc (pI .i64 x45))] a w) K (fun a w ⟨_,_,_,hF,_,_⟩=>by cases hF) (fun k a w ⟨x38,x44,x45,hF,q42,hh⟩=>gE ?_ hh) (fun a w hh=>⟨x23,[],v28,hL,rfl,bF [0] rfl (by decide) (by exact⟨rfl,rfl,rfl,rfl,rfl,trivial⟩) hh⟩)
  rw [cF.eq_2] at hF
  refine aE (aE (aF (aI ?_)))
  refine aB (uP rfl) ⟨rfl,bI _ _,trivial⟩ ?_
  refine aC (aA (bS rfl (fun h55=>?_) (fun h55=>?_)))
  ·have hF:=aV h55 hF
   refine bA (aA (aE (bR (aE (aF (aI ?_))))))
   refine aI ?_
   obtain⟨v56,h57,hF⟩:=aP hF
   refine aB (cO rfl tyS22 h57) zU2 ?_
   refine aB (cK 1 rfl rfl (.one tyO3)) zU1 ?_
   refine aEI (xR (C:=cI) (xs:=[.tmp 53]) (ps:=[.vc (pI .i64 v56)]) (zs:=[v56]) rfl tyS22 rfl ⟨⟨trivial,rfl⟩,trivial⟩ rfl) zU1 (fun b58 _=>?_)
   refine aI ?_
   obtain⟨x61,h62,hF⟩:=aP hF
   refine jD 0 rfl tyS22 rfl rfl rfl rfl rfl h62 (fun b63 c64 H65 e66=>?_)
   cases e66
   refine wI 0 [56] rfl (cL h62 rfl) zU1 rfl ?_
   obtain⟨v68,h69,hF⟩:=aP hF
   refine aB (aJ rfl (cM h69) rfl) ⟨cW _,rfl,trivial⟩ ?_
   refine bP rfl tyZ42 (fun b70=>?_)
   refine bG (dO 0 rfl rfl rfl tyA42.s) zU2 ?_
   refine aC (aA (aE (aF (aB (bE (off:=0) (k:=1) rfl tyF42_1) zU1 ?_))))
   refine aB (bK 0 1 rfl rfl rfl rfl (.one tyO22)) zU1 ?_
   refine bH ?_
   refine aC (aA (aE (aF (aB (aN (.inr rfl)) ⟨bI _ _,trivial⟩ ?_))))
   refine aC (aA (aE (aF (aB (aN (.inr rfl)) ⟨bI _ _,trivial⟩ ?_))))
   refine aC (aA (aE (uH (fun H E=>∃(x72:Int),fT K a1 x38 x45 v68 (cF K a0 a1 k) x72=some (x46',x52')∧H=[hO cI b25 x23.length 3 x23.length x38]∧E=[(0,.vc (pS cI a0)),(1,.vc (pS cI a1)),(8,.vc (pO b25 x23.length x23.length)),(9,.vc (pS cI v68.d)),(10,.vc (pI .i64 x45)),(12,.vc (pI .i64 0)),(13,.vc (pI .i64 x72))]) ?_ (fun Jj73=>?_))))
   ·rintro _ _ ⟨x72,hF,rfl,rfl⟩
    unfold fT at hF
    refine aE (bR (cJ (fun H E=>∃(x78:Int),iA K a1 x38 x45 v68 (cF K a0 a1 k) x78=some (x46',x52')∧H=[hO cI b25 x23.length 3 x23.length x38]∧E=[(0,.vc (pS cI a0)),(1,.vc (pS cI a1)),(8,.vc (pO b25 x23.length x23.length)),(9,.vc (pS cI v68.d)),(10,.vc (pI .i64 x45)),(12,.vc (pI .i64 x78))]) ?_ (fun Jj80=>?_)))
    ·rintro _ _ ⟨x78,hF,rfl,rfl⟩
     unfold iA at hF
     refine aA (aE (aF (aI ?_)))
     refine aI ?_
     refine aI ?_
     obtain⟨v81,h82,hF⟩:=aP hF
     refine aB (aJ rfl (qG h82) rfl) zU2 ?_
     obtain⟨v83,h84,hF⟩:=aP hF
     refine aB (aJ rfl (nC h84) rfl) zU2 ?_
     obtain⟨v85,h86,hF⟩:=aP hF
     refine aB (aJ rfl (cM h86) rfl) ⟨cW _,rfl,trivial⟩ ?_
     refine bP rfl tyZ42 (fun b87=>?_)
     refine bG (dO 0 rfl rfl rfl tyA42.s) zU2 ?_
     refine aC (aA (aE (aF (aI ?_))))
     refine aI ?_
     refine aI ?_
     obtain⟨v88,h89,hF⟩:=aP hF
     refine aB (cS (C:=cI) 1 rfl tyS22 rfl q42 (aS h89).1 (aS h89).2.1) zU2 ?_
     obtain⟨x90,h91,hF⟩:=aP hF
     refine bG (fW 1 rfl rfl h89 h91 tyO3.s) zU2 ?_
     refine aC (aA (aF (aB (bE (off:=0) (k:=1) rfl tyF42_1) zU1 ?_)))
     refine aB (bK 0 1 rfl rfl rfl rfl (.one tyO22)) zU1 ?_
     refine bH ?_
     refine aC (bJ (aA (aF (aI ?_))))
     obtain⟨v93,h94,hF⟩:=aP hF
     refine aB (eM rfl h94) ⟨rfl,bI _ _,trivial⟩ ?_
     refine bH ?_
     refine aC ?_
     exact bL (fun a w hh=>⟨x90,v85.d,v93,hF,(cE h91 q42),bF [1] rfl (by decide) (by exact⟨rfl,rfl,rfl,rfl,rfl,trivial⟩) hh⟩)
    obtain⟨x78',hL,hRl79⟩:=aP hF
    refine gB (fun k a w=>∃(x76:Int),∃(x77:Int),cR K a1 v68 k x76 x77=some x78'∧hs _ [hO cI b25 x23.length 3 x23.length x38] [(0,.vc (pS cI a0)),(1,.vc (pS cI a1)),(8,.vc (pO b25 x23.length x23.length)),(9,.vc (pS cI v68.d)),(10,.vc (pI .i64 x45)),(12,.vc (pI .i64 x76)),(13,.vc (pI .i64 x77))] a w) K (fun a w ⟨_,_,hF,_⟩=>by cases hF) (fun k a w ⟨x76,x77,hF,hh⟩=>gE ?_ hh) (fun a w hh=>⟨0,x72,hL,bF [0] rfl (by decide) (by exact⟨rfl,rfl,rfl,rfl,rfl,rfl,rfl,trivial⟩) hh⟩)
    rw [cR.eq_2] at hF
    refine aE (aE (aF (aI ?_)))
    refine aI ?_
    refine aB (dQ rfl) zU2 ?_
    refine aC (aA (bS rfl (fun h95=>?_) (fun h95=>?_)))
    ·have hF:=aV h95 hF
     refine bA (aA (bR (aE (aF (aI ?_)))))
     refine aI ?_
     obtain⟨v96,h97,hF⟩:=aP hF
     refine aB (bO rfl h97) zU2 ?_
     obtain⟨v98,h99,hF⟩:=aP hF
     refine aB (bO rfl h99) ⟨rfl,bI _ _,trivial⟩ ?_
     obtain⟨v100,h101,hF⟩:=aP hF
     refine aB (sF rfl h101) ⟨rfl,bI _ _,trivial⟩ ?_
     refine bH ?_
     refine aC (aA (aE (aF (aI ?_))))
     refine aI ?_
     obtain⟨v102,h103,hF⟩:=aP hF
     refine aB (aJ rfl (qG h103) rfl) zU2 ?_
     refine aI ?_
     obtain⟨v104,h105,hF⟩:=aP hF
     refine aB (aJ rfl (gN h105) rfl) zU2 ?_
     refine aB (zF rfl) ⟨rfl,bI _ _,trivial⟩ ?_
     refine aC (aA (bS rfl (fun h106=>?_) (fun h106=>?_)))
     ·have hF:=aV h106 hF
      refine aF (aI ?_)
      refine bH ?_
      refine aC (bJ ?_)
      exact bL (fun a w hh=>⟨v100,x77,hF,bF [0] rfl (by decide) (by exact⟨rfl,rfl,rfl,rfl,rfl,rfl,rfl,trivial⟩) hh⟩)
     have hF:=aX h106 hF
     refine aF (aI ?_)
     obtain⟨v107,h108,hF⟩:=aP hF
     refine aB (eM rfl h108) ⟨rfl,bI _ _,trivial⟩ ?_
     refine bH ?_
     refine aC (bJ ?_)
     exact bL (fun a w hh=>⟨x76,v107,hF,bF [0] rfl (by decide) (by exact⟨rfl,rfl,rfl,rfl,rfl,rfl,rfl,trivial⟩) hh⟩)
    have hF:=aX h95 hF
    refine dI ?_
    obtain rfl:=bV hF
    exact bU Jj80 ⟨x76,hRl79,rfl,rfl⟩ [0] rfl ⟨rfl,rfl,rfl,rfl,rfl,rfl,trivial⟩
   refine aE (aF (aI ?_))
   refine aI ?_
   obtain⟨v109,h110,hF⟩:=aP hF
   refine aB (aJ rfl (gN h110) rfl) zU2 ?_
   refine aB (dQ rfl) ⟨rfl,bI _ _,trivial⟩ ?_
   refine aC (aA (bS rfl (fun h111=>?_) (fun h111=>?_)))
   ·have hF:=aV h111 hF
    refine aF (aB (aN (.inr rfl)) ⟨bI _ _,trivial⟩ ?_)
    refine aC ?_
    exact bU Jj73 ⟨0,hF,rfl,rfl⟩ [1] rfl ⟨rfl,rfl,rfl,rfl,rfl,rfl,rfl,trivial⟩
   have hF:=aX h111 hF
   refine bA ?_
   exact bU Jj73 ⟨999999999,hF,rfl,rfl⟩ [1] rfl ⟨rfl,rfl,rfl,rfl,rfl,rfl,rfl,trivial⟩
  have hF:=aX h55 hF
  refine dI ?_
  obtain⟨rfl,rfl⟩:=sm2 hF
  exact bU Jj54 ⟨x38,x44,hRl53,q42,rfl,rfl⟩ [0] rfl zU2
 have hF:=aX h1 hF
 refine aM ?_
 refine aM ?_
 refine aM ?_
 refine aB (bN rfl) ⟨rfl,cW _,trivial⟩ ?_
 refine aC (aA (sT rfl ?_))
 refine bA (aA (aE (aF (aI ?_))))
 refine aB (bX rfl tyS22) zU1 ?_
 obtain⟨x112,h113,hF⟩:=aP hF
 refine r6 (C:=cI) rfl tyS22 rfl tyZ3 rfl h113 (fun b114=>?_)
 refine bH ?_
 refine aC (aA (aE (aF (aB (aN (.inr rfl)) ⟨dX cI,trivial⟩ ?_))))
 refine aC (aA (aE (aE (aF (aI ?_)))))
 refine aB (bX rfl tyS22) zU1 ?_
 obtain⟨v117,h118,hF⟩:=aP hF
 refine aB (eM rfl h118) ⟨rfl,bI _ _,trivial⟩ ?_
 refine bH ?_
 refine aC (aA (bR (cJ (fun H E=>∃(x135:List Int),∃(x141:List Int),oV K x135 x141=some r∧x135.length=x112.length∧H=[hO cI b114 x112.length 3 x112.length x135]∧E=[(8,.vc (pO b114 x112.length x112.length)),(9,.vc (pS cI x141))]) ?_ (fun Jj143=>?_))))
 ·rintro _ _ ⟨x135,x141,hF,q139,rfl,rfl⟩
  unfold oV at hF
  refine aA (aE (aF (aI ?_)))
  refine aI ?_
  refine bH ?_
  refine bH ?_
  refine aC (aA (a9 (a8 (uB 0 [4,8,93] rfl q139 ⟨rfl,rfl,rfl,trivial⟩ rfl ?_))))
  obtain rfl:=bV hF
  exact aL (.inl rfl) Tryz.results232 (.tmp rfl (.tmp rfl .nil)) rfl rfl
 obtain⟨⟨x135',x141'⟩,hL,hRl142⟩:=aP hF
 refine gB (fun k a w=>∃(x127:List Int),∃(x133:List Int),∃(x134:Int),dN K a0 a1 k x127 x133 x134=some (x135',x141')∧x127.length=x112.length∧hs _ [hO cI b114 x112.length 3 x112.length x127] [(0,.vc (pS cI a0)),(1,.vc (pS cI a1)),(8,.vc (pO b114 x112.length x112.length)),(9,.vc (pS cI x133)),(10,.vc (pI .i64 x134))] a w) K (fun a w ⟨_,_,_,hF,_,_⟩=>by cases hF) (fun k a w ⟨x127,x133,x134,hF,q131,hh⟩=>gE ?_ hh) (fun a w hh=>⟨x112,[],v117,hL,rfl,bF [0] rfl (by decide) (by exact⟨rfl,rfl,rfl,rfl,rfl,trivial⟩) hh⟩)
 rw [dN.eq_2] at hF
 refine aE (aE (aF (aI ?_)))
 refine aB (uP rfl) ⟨rfl,bI _ _,trivial⟩ ?_
 refine aC (aA (bS rfl (fun h144=>?_) (fun h144=>?_)))
 ·have hF:=aV h144 hF
  refine bA (aA (aE (bR (aE (aF (aI ?_))))))
  refine aI ?_
  obtain⟨v145,h146,hF⟩:=aP hF
  refine aB (cO rfl tyS22 h146) zU2 ?_
  refine aB (cK 1 rfl rfl (.one tyO3)) zU1 ?_
  refine aEI (xR (C:=cI) (xs:=[.tmp 53]) (ps:=[.vc (pI .i64 v145)]) (zs:=[v145]) rfl tyS22 rfl ⟨⟨trivial,rfl⟩,trivial⟩ rfl) zU1 (fun b147 _=>?_)
  refine aI ?_
  obtain⟨x150,h151,hF⟩:=aP hF
  refine jD 0 rfl tyS22 rfl rfl rfl rfl rfl h151 (fun b152 c153 H154 e155=>?_)
  cases e155
  refine wI 0 [56] rfl (cL h151 rfl) zU1 rfl ?_
  obtain⟨v157,h158,hF⟩:=aP hF
  refine aB (aJ rfl (cM h158) rfl) ⟨cW _,rfl,trivial⟩ ?_
  refine bP rfl tyZ42 (fun b159=>?_)
  refine bG (dO 0 rfl rfl rfl tyA42.s) zU2 ?_
  refine aC (aA (aE (aF (aB (bE (off:=0) (k:=1) rfl tyF42_1) zU1 ?_))))
  refine aB (bK 0 1 rfl rfl rfl rfl (.one tyO22)) zU1 ?_
  refine bH ?_
  refine aC (aA (aE (aF (aB (aN (.inr rfl)) ⟨bI _ _,trivial⟩ ?_))))
  refine aC (aA (aE (aF (aB (aN (.inr rfl)) ⟨bI _ _,trivial⟩ ?_))))
  refine aC (aA (aE (uH (fun H E=>∃(x161:Int),jL K a1 x127 x134 v157 (dN K a0 a1 k) x161=some (x135',x141')∧H=[hO cI b114 x112.length 3 x112.length x127]∧E=[(0,.vc (pS cI a0)),(1,.vc (pS cI a1)),(8,.vc (pO b114 x112.length x112.length)),(9,.vc (pS cI v157.d)),(10,.vc (pI .i64 x134)),(12,.vc (pI .i64 0)),(13,.vc (pI .i64 x161))]) ?_ (fun Jj162=>?_))))
  ·rintro _ _ ⟨x161,hF,rfl,rfl⟩
   unfold jL at hF
   refine aE (bR (cJ (fun H E=>∃(x167:Int),lI K a1 x127 x134 v157 (dN K a0 a1 k) x167=some (x135',x141')∧H=[hO cI b114 x112.length 3 x112.length x127]∧E=[(0,.vc (pS cI a0)),(1,.vc (pS cI a1)),(8,.vc (pO b114 x112.length x112.length)),(9,.vc (pS cI v157.d)),(10,.vc (pI .i64 x134)),(12,.vc (pI .i64 x167))]) ?_ (fun Jj169=>?_)))
   ·rintro _ _ ⟨x167,hF,rfl,rfl⟩
    unfold lI at hF
    refine aA (aE (aF (aI ?_)))
    refine aI ?_
    refine aI ?_
    obtain⟨v170,h171,hF⟩:=aP hF
    refine aB (aJ rfl (qG h171) rfl) zU2 ?_
    obtain⟨v172,h173,hF⟩:=aP hF
    refine aB (aJ rfl (nC h173) rfl) zU2 ?_
    obtain⟨v174,h175,hF⟩:=aP hF
    refine aB (aJ rfl (cM h175) rfl) ⟨cW _,rfl,trivial⟩ ?_
    refine bP rfl tyZ42 (fun b176=>?_)
    refine bG (dO 0 rfl rfl rfl tyA42.s) zU2 ?_
    refine aC (aA (aE (aF (aI ?_))))
    refine aI ?_
    refine aI ?_
    obtain⟨v177,h178,hF⟩:=aP hF
    refine aB (cS (C:=cI) 1 rfl tyS22 rfl q131 (aS h178).1 (aS h178).2.1) zU2 ?_
    obtain⟨x179,h180,hF⟩:=aP hF
    refine bG (fW 1 rfl rfl h178 h180 tyO3.s) zU2 ?_
    refine aC (aA (aF (aB (bE (off:=0) (k:=1) rfl tyF42_1) zU1 ?_)))
    refine aB (bK 0 1 rfl rfl rfl rfl (.one tyO22)) zU1 ?_
    refine bH ?_
    refine aC (bJ (aA (aF (aI ?_))))
    obtain⟨v182,h183,hF⟩:=aP hF
    refine aB (eM rfl h183) ⟨rfl,bI _ _,trivial⟩ ?_
    refine bH ?_
    refine aC ?_
    exact bL (fun a w hh=>⟨x179,v174.d,v182,hF,(cE h180 q131),bF [1] rfl (by decide) (by exact⟨rfl,rfl,rfl,rfl,rfl,trivial⟩) hh⟩)
   obtain⟨x167',hL,hRl168⟩:=aP hF
   refine gB (fun k a w=>∃(x165:Int),∃(x166:Int),fE K a1 v157 k x165 x166=some x167'∧hs _ [hO cI b114 x112.length 3 x112.length x127] [(0,.vc (pS cI a0)),(1,.vc (pS cI a1)),(8,.vc (pO b114 x112.length x112.length)),(9,.vc (pS cI v157.d)),(10,.vc (pI .i64 x134)),(12,.vc (pI .i64 x165)),(13,.vc (pI .i64 x166))] a w) K (fun a w ⟨_,_,hF,_⟩=>by cases hF) (fun k a w ⟨x165,x166,hF,hh⟩=>gE ?_ hh) (fun a w hh=>⟨0,x161,hL,bF [0] rfl (by decide) (by exact⟨rfl,rfl,rfl,rfl,rfl,rfl,rfl,trivial⟩) hh⟩)
   rw [fE.eq_2] at hF
   refine aE (aE (aF (aI ?_)))
   refine aI ?_
   refine aB (dQ rfl) zU2 ?_
   refine aC (aA (bS rfl (fun h184=>?_) (fun h184=>?_)))
   ·have hF:=aV h184 hF
    refine bA (aA (bR (aE (aF (aI ?_)))))
    refine aI ?_
    obtain⟨v185,h186,hF⟩:=aP hF
    refine aB (bO rfl h186) zU2 ?_
    obtain⟨v187,h188,hF⟩:=aP hF
    refine aB (bO rfl h188) ⟨rfl,bI _ _,trivial⟩ ?_
    obtain⟨v189,h190,hF⟩:=aP hF
    refine aB (sF rfl h190) ⟨rfl,bI _ _,trivial⟩ ?_
    refine bH ?_
    refine aC (aA (aE (aF (aI ?_))))
    refine aI ?_
    obtain⟨v191,h192,hF⟩:=aP hF
    refine aB (aJ rfl (qG h192) rfl) zU2 ?_
    refine aI ?_
    obtain⟨v193,h194,hF⟩:=aP hF
    refine aB (aJ rfl (gN h194) rfl) zU2 ?_
    refine aB (zF rfl) ⟨rfl,bI _ _,trivial⟩ ?_
    refine aC (aA (bS rfl (fun h195=>?_) (fun h195=>?_)))
    ·have hF:=aV h195 hF
     refine aF (aI ?_)
     refine bH ?_
     refine aC (bJ ?_)
     exact bL (fun a w hh=>⟨v189,x166,hF,bF [0] rfl (by decide) (by exact⟨rfl,rfl,rfl,rfl,rfl,rfl,rfl,trivial⟩) hh⟩)
    have hF:=aX h195 hF
    refine aF (aI ?_)
    obtain⟨v196,h197,hF⟩:=aP hF
    refine aB (eM rfl h197) ⟨rfl,bI _ _,trivial⟩ ?_
    refine bH ?_
    refine aC (bJ ?_)
    exact bL (fun a w hh=>⟨x165,v196,hF,bF [0] rfl (by decide) (by exact⟨rfl,rfl,rfl,rfl,rfl,rfl,rfl,trivial⟩) hh⟩)
   have hF:=aX h184 hF
   refine dI ?_
   obtain rfl:=bV hF
   exact bU Jj169 ⟨x165,hRl168,rfl,rfl⟩ [0] rfl ⟨rfl,rfl,rfl,rfl,rfl,rfl,trivial⟩
  refine aE (aF (aI ?_))
  refine aI ?_
  obtain⟨v198,h199,hF⟩:=aP hF
  refine aB (aJ rfl (gN h199) rfl) zU2 ?_
  refine aB (dQ rfl) ⟨rfl,bI _ _,trivial⟩ ?_
  refine aC (aA (bS rfl (fun h200=>?_) (fun h200=>?_)))
  ·have hF:=aV h200 hF
   refine aF (aB (aN (.inr rfl)) ⟨bI _ _,trivial⟩ ?_)
   refine aC ?_
   exact bU Jj162 ⟨0,hF,rfl,rfl⟩ [1] rfl ⟨rfl,rfl,rfl,rfl,rfl,rfl,rfl,trivial⟩
  have hF:=aX h200 hF
  refine bA ?_
  exact bU Jj162 ⟨999999999,hF,rfl,rfl⟩ [1] rfl ⟨rfl,rfl,rfl,rfl,rfl,rfl,rfl,trivial⟩
 have hF:=aX h144 hF
 refine dI ?_
 obtain⟨rfl,rfl⟩:=sm2 hF
 exact bU Jj143 ⟨x127,x133,hRl142,q131,rfl,rfl⟩ [0] rfl zU2
def kH (K:Nat) (a0:aZ) (a1:aZ):Option (aZ×aZ):=
 bif((a1.d.length:Int)==0) then(some ((⟨false,([]:List Int)⟩:aZ),(⟨false,([]:List Int)⟩:aZ))) else((iQ K a0.d a1.d).bind fun v6=>(cA K (a0.neg != a1.neg) v6.1).bind fun v8=>(cA K false v6.2).bind fun v11=>bif a0.neg then(bif(decide (0<(v11.d.length:Int))) then((cA K (a0.neg != a1.neg) [1]).bind fun v18=>(nN K v8 v18).bind fun v20=>(fM K a1.d v11.d).bind fun v22=>(cA K false v22).bind fun v24=>some (v20,v24)) else(some (v8,v11))) else(some (v8,v11)))
theorem rT {K:Nat} {a0:aZ} {a1:aZ} {r:aZ×aZ} (hF:kH K a0 a1=some r):Ct Tryz.prog 179 [.va (aZ.e a0),.va (aZ.e a1)] (.t2 (.va (aZ.e r.1)) (.va (aZ.e r.2))):=by
 unfold kH at hF
 refine bD Tryz.func179 rfl (by kernel_rfl) Tryz.ntmps179 rfl (fun w0 M0=>?_)
 refine aE (aF (cY rfl rfl trivial (fun b1=>?_)))
 refine cY rfl rfl trivial (fun b2=>?_)
 refine bP rfl tyZ42 (fun b3=>?_)
 refine bP rfl tyZ42 (fun b4=>?_)
 refine aC (aA (aE (aE (aF (aB (bE (off:=0) (k:=1) rfl tyF42_1) zU1 ?_)))))
 refine aB (bK 2 1 rfl rfl rfl rfl (.one tyO22)) zU1 ?_
 refine aB (bX rfl tyS22) zU1 ?_
 refine aB (gR rfl) ⟨rfl,bI _ _,trivial⟩ ?_
 refine aC (aA (bS rfl (fun h5=>?_) (fun h5=>?_)))
 ·have hF:=aV h5 hF
  refine aE (aF (aB (cZ (is:=[]) (xs:=[]) (ps:=[]) rfl tyB42 rfl rfl trivial rfl) trivial ?_))
  refine aB (cZ (is:=[]) (xs:=[]) (ps:=[]) rfl tyB42 rfl rfl trivial rfl) trivial ?_
  refine bG (dO 1 rfl rfl rfl tyA42.s) zU2 ?_
  refine bG (dO 0 rfl rfl rfl tyA42.s) zU2 ?_
  refine aC (aA (a9 (a8 ?_)))
  obtain rfl:=bV hF
  exact aL (.inl rfl) Tryz.results179 (bQ 1 2 rfl rfl rfl rfl (.agg tyA42) (bQ 0 2 rfl rfl rfl rfl (.agg tyA42) .nil)) rfl rfl
 have hF:=aX h5 hF
 refine bA (aA (aE (aF (aB (bE (off:=0) (k:=1) rfl tyF42_1) zU1 ?_))))
 refine aB (bK 3 1 rfl rfl rfl rfl (.one tyO22)) zU1 ?_
 refine aB (bE (off:=0) (k:=1) rfl tyF42_1) zU1 ?_
 refine aB (bK 2 1 rfl rfl rfl rfl (.one tyO22)) zU1 ?_
 obtain⟨v6,h7,hF⟩:=aP hF
 refine aB (aJ rfl (yF h7) rfl) zU2 ?_
 refine aI ?_
 refine aB (lT rfl) zU1 ?_
 refine aB (lO rfl) zU1 ?_
 refine bH ?_
 refine bH ?_
 refine aC (aA (aE (aF (aB (bE (off:=0) (k:=0) rfl tyF42_0) zU1 ?_))))
 refine aB (bK 3 1 rfl rfl rfl rfl (.one tyO4)) zU1 ?_
 refine aB (bE (off:=0) (k:=0) rfl tyF42_0) zU1 ?_
 refine aB (bK 2 1 rfl rfl rfl rfl (.one tyO4)) zU1 ?_
 refine aB (y6 rfl Tryz.underlying4) zU2 ?_
 refine aI ?_
 obtain⟨v8,h9,hF⟩:=aP hF
 refine aB (aJ rfl (cM h9) rfl) zU2 ?_
 refine bP rfl tyZ42 (fun b10=>?_)
 refine bG (dO 0 rfl rfl rfl tyA42.s) zU2 ?_
 refine aC (aA (aE (aF (aI ?_))))
 obtain⟨v11,h12,hF⟩:=aP hF
 refine aB (aJ rfl (cM h12) rfl) ⟨cW _,rfl,trivial⟩ ?_
 refine bP rfl tyZ42 (fun b13=>?_)
 refine bG (dO 0 rfl rfl rfl tyA42.s) zU2 ?_
 refine aC (aA (aE (aE (aF (aB (bE (off:=0) (k:=0) rfl tyF42_0) zU1 ?_)))))
 refine aB (bK 5 1 rfl rfl rfl rfl (.one tyO4)) zU1 ?_
 refine aI ?_
 refine cP (fun h14=>?_) (fun h14=>?_)
 ·have hF:=aV h14 hF
  refine aY (bE (off:=0) (k:=1) rfl tyF42_1) zU1 ?_
  refine aY (bK 0 1 rfl rfl rfl rfl (.one tyO22)) zU1 ?_
  refine aY (bX rfl tyS22) zU1 ?_
  refine aY (rV rfl) ⟨rfl,bI _ _,trivial⟩ ?_
  refine aB (bM rfl) zU2 ?_
  refine aC (aA (bS rfl (fun h15=>?_) (fun h15=>?_)))
  ·have hF:=aV h15 hF
   refine aE ?_
   obtain⟨v18,h19,hF⟩:=aP hF
   obtain⟨v20,h21,hF⟩:=aP hF
   refine bT [0,0,2,0,8,30,0,126,255,511] 9 1 [.v (.va (aZ.e v8)),.v (.vc (pP (some b1) 0)),.v (.vc (pB a0.neg)),.v (.vc (pP (some b2) 0)),.v (.vc (pB a1.neg)),.v (.vc (pB (a0.neg != a1.neg))),.v (.vc (pS cI [1])),.v (.va (aZ.e v18)),.v (.va (aZ.e v20))] aU ⟨d0 (bK 1 2 rfl rfl rfl rfl (.agg tyA42)) zU1,d0 (bE (off:=0) (k:=0) rfl tyF42_0) zU1,d0 (bK 5 1 rfl rfl rfl rfl (.one tyO4)) zU1,d0 (bE (off:=0) (k:=0) rfl tyF42_0) zU1,d0 (bK 4 1 rfl rfl rfl rfl (.one tyO4)) zU1,⟨rfl,.run (L:=[0]) ⟨fun G16 A=>y6 rfl Tryz.underlying4,trivial⟩ (fun G16=>zU2)⟩,d0 (iJ (C:=cI) (xs:=[.const (.int .i64 (1))]) (ps:=[.vc (pI .i64 1)]) (zs:=[1]) rfl tyS22 rfl ⟨⟨trivial,rfl⟩,trivial⟩ rfl) ⟨bI _ _,trivial⟩,d0 (aJ rfl (cM h19) rfl) zU2,d0 (aJ rfl (wA h21) rfl) zU2,trivial⟩ (fun bs17 G16=>?_)
   refine bG (dO 1 rfl rfl rfl tyA42.s) zU2 ?_
   refine aC (aA (aF (aB (bE (off:=0) (k:=1) rfl tyF42_1) zU1 ?_)))
   refine aB (bK 4 1 rfl rfl rfl rfl (.one tyO22)) zU1 ?_
   refine aB (bE (off:=0) (k:=1) rfl tyF42_1) zU1 ?_
   refine aB (bK 0 1 rfl rfl rfl rfl (.one tyO22)) zU1 ?_
   obtain⟨v22,h23,hF⟩:=aP hF
   refine aB (aJ rfl (nC h23) rfl) zU2 ?_
   obtain⟨v24,h25,hF⟩:=aP hF
   refine aB (aJ rfl (cM h25) rfl) ⟨cW _,rfl,trivial⟩ ?_
   refine bG (dO 0 rfl rfl rfl tyA42.s) zU2 ?_
   refine aC (aA (aE (nJ (HsM [(0,fun G26=>[⟨some b13,1,42,2,1,(aZ.e v24)⟩,⟨some b10,1,42,2,1,(aZ.e v20)⟩,⟨some b4,1,42,2,1,([pB false]++[pS cI ([]:List Int)])⟩,⟨some b3,1,42,2,1,([pB false]++[pS cI ([]:List Int)])⟩,⟨some b2,1,42,2,1,(aZ.e a1)⟩,⟨some b1,1,42,2,1,(aZ.e a0)⟩]),(1,fun G26=>[⟨some b13,1,42,2,1,(aZ.e v24)⟩,⟨some b10,1,42,2,1,(aZ.e v20)⟩,⟨some b4,1,42,2,1,([pB false]++[pS cI ([]:List Int)])⟩,⟨some b3,1,42,2,1,(aZ.e v20)⟩,⟨some b2,1,42,2,1,(aZ.e a1)⟩,⟨some b1,1,42,2,1,(aZ.e a0)⟩])]) [2] [0,0,1,7] 3 1 [.v (.va (aZ.e v20)),.v (.va (aZ.e v24)),.g (fun _ _=>.any)] aU ⟨d1 0 (bK 1 2 rfl rfl rfl rfl (.agg tyA42)) zU1,⟨rfl,.run (L:=[0,1]) ⟨fun G26 A=>bK 0 2 rfl rfl rfl rfl (.agg tyA42),fun G26 A=>bK 0 2 rfl rfl rfl rfl (.agg tyA42),trivial⟩ (fun G26=>zU1)⟩,⟨rfl,.hvy [0] ⟨fun G26 A=>aBl (dO 3 rfl rfl rfl tyA42.s),trivial⟩ (fun G26=>zU2)⟩,trivial⟩ (fun bs27 G26=>?_))))
   refine bG (dO 2 rfl rfl rfl tyA42.s) zU2 ?_
   refine aC (aA (a9 (a8 ?_)))
   obtain rfl:=bV hF
   exact aL (.inl rfl) Tryz.results179 (bQ 3 2 rfl rfl rfl rfl (.agg tyA42) (bQ 2 2 rfl rfl rfl rfl (.agg tyA42) .nil)) rfl rfl
  have hF:=aX h15 hF
  refine bA (aA (aE (nJ (HsM [(0,fun G28=>[⟨some b13,1,42,2,1,(aZ.e v11)⟩,⟨some b10,1,42,2,1,(aZ.e v8)⟩,⟨some b4,1,42,2,1,([pB false]++[pS cI ([]:List Int)])⟩,⟨some b3,1,42,2,1,([pB false]++[pS cI ([]:List Int)])⟩,⟨some b2,1,42,2,1,(aZ.e a1)⟩,⟨some b1,1,42,2,1,(aZ.e a0)⟩]),(1,fun G28=>[⟨some b13,1,42,2,1,(aZ.e v11)⟩,⟨some b10,1,42,2,1,(aZ.e v8)⟩,⟨some b4,1,42,2,1,([pB false]++[pS cI ([]:List Int)])⟩,⟨some b3,1,42,2,1,(aZ.e v8)⟩,⟨some b2,1,42,2,1,(aZ.e a1)⟩,⟨some b1,1,42,2,1,(aZ.e a0)⟩])]) [2] [0,0,1,7] 3 1 [.v (.va (aZ.e v8)),.v (.va (aZ.e v11)),.g (fun _ _=>.any)] aU ⟨d1 0 (bK 1 2 rfl rfl rfl rfl (.agg tyA42)) zU1,⟨rfl,.run (L:=[0,1]) ⟨fun G28 A=>bK 0 2 rfl rfl rfl rfl (.agg tyA42),fun G28 A=>bK 0 2 rfl rfl rfl rfl (.agg tyA42),trivial⟩ (fun G28=>zU1)⟩,⟨rfl,.hvy [0] ⟨fun G28 A=>aBl (dO 3 rfl rfl rfl tyA42.s),trivial⟩ (fun G28=>zU2)⟩,trivial⟩ (fun bs29 G28=>?_))))
  refine bG (dO 2 rfl rfl rfl tyA42.s) zU2 ?_
  refine aC (aA (a9 (a8 ?_)))
  obtain rfl:=bV hF
  exact aL (.inl rfl) Tryz.results179 (bQ 3 2 rfl rfl rfl rfl (.agg tyA42) (bQ 2 2 rfl rfl rfl rfl (.agg tyA42) .nil)) rfl rfl
 have hF:=aX h14 hF
 refine aM ?_
 refine aM ?_
 refine aM ?_
 refine aM ?_
 refine aB (bN rfl) ⟨rfl,cW _,trivial⟩ ?_
 refine aC (aA (sT rfl ?_))
 refine bA (aA (aE (nJ (HsM [(0,fun G30=>[⟨some b13,1,42,2,1,(aZ.e v11)⟩,⟨some b10,1,42,2,1,(aZ.e v8)⟩,⟨some b4,1,42,2,1,([pB false]++[pS cI ([]:List Int)])⟩,⟨some b3,1,42,2,1,([pB false]++[pS cI ([]:List Int)])⟩,⟨some b2,1,42,2,1,(aZ.e a1)⟩,⟨some b1,1,42,2,1,(aZ.e a0)⟩]),(1,fun G30=>[⟨some b13,1,42,2,1,(aZ.e v11)⟩,⟨some b10,1,42,2,1,(aZ.e v8)⟩,⟨some b4,1,42,2,1,([pB false]++[pS cI ([]:List Int)])⟩,⟨some b3,1,42,2,1,(aZ.e v8)⟩,⟨some b2,1,42,2,1,(aZ.e a1)⟩,⟨some b1,1,42,2,1,(aZ.e a0)⟩])]) [2] [0,0,1,7] 3 1 [.v (.va (aZ.e v8)),.v (.va (aZ.e v11)),.g (fun _ _=>.any)] aU ⟨d1 0 (bK 1 2 rfl rfl rfl rfl (.agg tyA42)) zU1,⟨rfl,.run (L:=[0,1]) ⟨fun G30 A=>bK 0 2 rfl rfl rfl rfl (.agg tyA42),fun G30 A=>bK 0 2 rfl rfl rfl rfl (.agg tyA42),trivial⟩ (fun G30=>zU1)⟩,⟨rfl,.hvy [0] ⟨fun G30 A=>aBl (dO 3 rfl rfl rfl tyA42.s),trivial⟩ (fun G30=>zU2)⟩,trivial⟩ (fun bs31 G30=>?_))))
 refine bG (dO 2 rfl rfl rfl tyA42.s) zU2 ?_
 refine aC (aA (a9 (a8 ?_)))
 obtain rfl:=bV hF
 exact aL (.inl rfl) Tryz.results179 (bQ 3 2 rfl rfl rfl rfl (.agg tyA42) (bQ 2 2 rfl rfl rfl rfl (.agg tyA42) .nil)) rfl rfl
def r7 (K:Nat) (x14:aZ):Option aZ:=
 some x14
def o8 (K:Nat) (x28:Int):Option (LR aZ aZ):=
 (gU K x28).bind fun v31=>some (.ret v31)
def gM (K:Nat):Nat→Int→Int→Option Int
 |0,_,_=>none
 |k+1,x26,x27=>bif(decide (0<x27)) then((vM x26 x27).bind fun v34=>gM K k x27 v34) else(some x26)
def fH (K:Nat):Nat→aZ→aZ→Option (LR aZ aZ)
 |0,_,_=>none
 |k+1,x12,x13=>bif(decide (0<(x12.d.length:Int))) then(bif(decide ((x13.d.length:Int)≤2)) then(bif(decide ((x12.d.length:Int)≤2)) then((gG x13.d).bind fun v20=>(gG x12.d).bind fun v22=>(gM K K v20 v22).bind fun x28=>o8 K x28) else((kH K x13 x12).bind fun v36=>fH K k v36.2 x12)) else((kH K x13 x12).bind fun v40=>fH K k v40.2 x12)) else(some (.go x13))
def nM (K:Nat) (a0:aZ) (a1:aZ):Option aZ:=
 (cA K false a0.d).bind fun v4=>(cA K false a1.d).bind fun v7=>(fH K K v7 v4).bind fun o=>match o with| .ret r=>some r| .go x14=>r7 K x14
theorem wF {K:Nat} {a0:aZ} {a1:aZ} {r:aZ} (hF:nM K a0 a1=some r):Ct Tryz.prog 170 [.va (aZ.e a0),.va (aZ.e a1)] (.va (aZ.e r)):=by
 unfold nM at hF
 refine bD Tryz.func170 rfl (by kernel_rfl) Tryz.ntmps170 rfl (fun w0 M0=>?_)
 refine aE (aF (cY rfl rfl trivial (fun b1=>?_)))
 refine cY rfl rfl trivial (fun b2=>?_)
 refine bP rfl tyZ42 (fun b3=>?_)
 refine aC (aA (aE (aF (aB (bE (off:=0) (k:=1) rfl tyF42_1) zU1 ?_))))
 refine aB (bK 2 1 rfl rfl rfl rfl (.one tyO22)) zU1 ?_
 obtain⟨v4,h5,hF⟩:=aP hF
 refine aB (aJ rfl (cM h5) rfl) ⟨cW _,rfl,trivial⟩ ?_
 refine bP rfl tyZ42 (fun b6=>?_)
 refine bG (dO 0 rfl rfl rfl tyA42.s) zU2 ?_
 refine aC (aA (aE (aF (aB (bE (off:=0) (k:=1) rfl tyF42_1) zU1 ?_))))
 refine aB (bK 2 1 rfl rfl rfl rfl (.one tyO22)) zU1 ?_
 obtain⟨v7,h8,hF⟩:=aP hF
 refine aB (aJ rfl (cM h8) rfl) ⟨cW _,rfl,trivial⟩ ?_
 refine bP rfl tyZ42 (fun b9=>?_)
 refine bG (dO 0 rfl rfl rfl tyA42.s) zU2 ?_
 refine aC (aA (aE (bR (cJ (fun H E=>∃(x14:aZ),r7 K x14=some r∧H=[⟨some b6,1,42,2,1,(aZ.e x14)⟩,⟨some b3,1,42,2,1,([pB false]++[pS cI ([]:List Int)])⟩]∧E=[(4,.vc (pP (some b3) 0)),(5,.vc (pP (some b6) 0))]) ?_ (fun Jj16=>?_)))))
 ·rintro _ _ ⟨x14,hF,rfl,rfl⟩
  unfold r7 at hF
  refine aA (aE (aF (aB (bK 0 2 rfl rfl rfl rfl (.agg tyA42)) zU1 ?_)))
  refine bG (dO 1 rfl rfl rfl tyA42.s) zU2 ?_
  refine aC (aA (a9 (a8 ?_)))
  obtain rfl:=bV hF
  exact aL (.inl rfl) Tryz.results170 (bQ 1 2 rfl rfl rfl rfl (.agg tyA42) .nil) rfl rfl
 obtain⟨ol15,hL,hRl15⟩:=aP hF
 refine gB (fun k a w=>∃(x12:aZ),∃(x13:aZ),fH K k x12 x13=some ol15∧hs _ [⟨some b9,1,42,2,1,(aZ.e x12)⟩,⟨some b6,1,42,2,1,(aZ.e x13)⟩,⟨some b3,1,42,2,1,([pB false]++[pS cI ([]:List Int)])⟩] [(4,.vc (pP (some b3) 0)),(5,.vc (pP (some b6) 0)),(6,.vc (pP (some b9) 0))] a w) K (fun a w ⟨_,_,hF,_⟩=>by cases hF) (fun k a w ⟨x12,x13,hF,hh⟩=>gE ?_ hh) (fun a w hh=>⟨v7,v4,hL,bF [0,1,2] rfl (by decide) (by exact⟨rfl,rfl,rfl,trivial⟩) hh⟩)
 rw [fH.eq_2] at hF
 refine aE (aE (aF (aB (bE (off:=0) (k:=1) rfl tyF42_1) zU1 ?_)))
 refine aB (bK 0 1 rfl rfl rfl rfl (.one tyO22)) zU1 ?_
 refine aB (bX rfl tyS22) zU1 ?_
 refine aB (rV rfl) ⟨rfl,bI _ _,trivial⟩ ?_
 refine aC (aA (bS rfl (fun h17=>?_) (fun h17=>?_)))
 ·have hF:=aV h17 hF
  refine bA (aA (bR (aE (aE (aF (aB (bE (off:=0) (k:=1) rfl tyF42_1) zU1 ?_))))))
  refine aB (bK 1 1 rfl rfl rfl rfl (.one tyO22)) zU1 ?_
  refine aB (bX rfl tyS22) zU1 ?_
  refine aB (zF rfl) ⟨rfl,bI _ _,trivial⟩ ?_
  refine aI ?_
  refine cP (fun h18=>?_) (fun h18=>?_)
  ·have hF:=aV h18 hF
   refine aY (bE (off:=0) (k:=1) rfl tyF42_1) zU1 ?_
   refine aY (bK 0 1 rfl rfl rfl rfl (.one tyO22)) zU1 ?_
   refine aY (bX rfl tyS22) zU1 ?_
   refine aY (zF rfl) ⟨rfl,bI _ _,trivial⟩ ?_
   refine aB (bM rfl) zU2 ?_
   refine aC (aA (bS rfl (fun h19=>?_) (fun h19=>?_)))
   ·have hF:=aV h19 hF
    refine aE (aF (aB (bE (off:=0) (k:=1) rfl tyF42_1) zU1 ?_))
    refine aB (bK 1 1 rfl rfl rfl rfl (.one tyO22)) zU1 ?_
    obtain⟨v20,h21,hF⟩:=aP hF
    refine aB (aJ rfl (lZ h21) rfl) zU1 ?_
    refine bH ?_
    refine aC (aA (aE (aF (aB (bE (off:=0) (k:=1) rfl tyF42_1) zU1 ?_))))
    refine aB (bK 0 1 rfl rfl rfl rfl (.one tyO22)) zU1 ?_
    obtain⟨v22,h23,hF⟩:=aP hF
    refine aB (aJ rfl (lZ h23) rfl) zU1 ?_
    refine bH ?_
    refine aC (aA (aE (bR (cJ (fun H E=>∃(x28:Int),o8 K x28=some ol15∧H=[⟨some b3,1,42,2,1,([pB false]++[pS cI ([]:List Int)])⟩]∧E=[(4,.vc (pP (some b3) 0)),(7,.vc (pI .i64 x28))]) ?_ (fun Jj30=>?_)))))
    ·rintro _ _ ⟨x28,hF,rfl,rfl⟩
     unfold o8 at hF
     refine aA (aE (aF (aI ?_)))
     obtain⟨v31,h32,hF⟩:=aP hF
     refine aB (aJ rfl (lD h32) rfl) zU1 ?_
     refine bG (dO 0 rfl rfl rfl tyA42.s) zU2 ?_
     refine aC (aA (a9 (a8 ?_)))
     obtain rfl:=bV hF
     obtain rfl:=bV hRl15
     exact aL (.inl rfl) Tryz.results170 (bQ 0 2 rfl rfl rfl rfl (.agg tyA42) .nil) rfl rfl
    obtain⟨x28',hL,hRl29⟩:=aP hF
    refine gB (fun k a w=>∃(x26:Int),∃(x27:Int),gM K k x26 x27=some x28'∧hs _ [⟨some b3,1,42,2,1,([pB false]++[pS cI ([]:List Int)])⟩] [(4,.vc (pP (some b3) 0)),(7,.vc (pI .i64 x26)),(8,.vc (pI .i64 x27))] a w) K (fun a w ⟨_,_,hF,_⟩=>by cases hF) (fun k a w ⟨x26,x27,hF,hh⟩=>gE ?_ hh) (fun a w hh=>⟨v20,v22,hL,bF [2] rfl (by decide) (by exact⟨rfl,rfl,rfl,trivial⟩) hh⟩)
    rw [gM.eq_2] at hF
    refine aE (aE (aF (aI ?_)))
    refine aB (rV rfl) ⟨rfl,bI _ _,trivial⟩ ?_
    refine aC (aA (bS rfl (fun h33=>?_) (fun h33=>?_)))
    ·have hF:=aV h33 hF
     refine bA (aA (bR (aE (aF (aI ?_)))))
     refine aI ?_
     obtain⟨v34,h35,hF⟩:=aP hF
     refine aB (rA rfl h35) zU2 ?_
     refine bH ?_
     refine aC (aA (aE (aF (aI ?_))))
     refine bH ?_
     refine aC (aA (aF (aI ?_)))
     refine bH ?_
     refine aC (bJ ?_)
     exact bL (fun a w hh=>⟨x27,v34,hF,bF [0] rfl (by decide) (by exact⟨rfl,rfl,rfl,trivial⟩) hh⟩)
    have hF:=aX h33 hF
    refine dI ?_
    obtain rfl:=bV hF
    exact bU Jj30 ⟨x26,hRl29,rfl,rfl⟩ [0] rfl zU2
   have hF:=aX h19 hF
   refine bA (aA (aE (aF (aB (bK 1 2 rfl rfl rfl rfl (.agg tyA42)) zU1 ?_))))
   refine aB (bK 0 2 rfl rfl rfl rfl (.agg tyA42)) zU1 ?_
   obtain⟨v36,h37,hF⟩:=aP hF
   refine aB (aJ rfl (rT h37) rfl) zU2 ?_
   refine aI ?_
   refine aB (lT rfl) zU1 ?_
   refine aB (lO rfl) zU1 ?_
   refine bP rfl tyZ42 (fun b38=>?_)
   refine bP rfl tyZ42 (fun b39=>?_)
   refine bG (dO 1 rfl rfl rfl tyA42.s) zU2 ?_
   refine bG (dO 0 rfl rfl rfl tyA42.s) zU2 ?_
   refine aC (aA (aE (aF (aB (bK 2 2 rfl rfl rfl rfl (.agg tyA42)) zU1 ?_))))
   refine bG (dO 3 rfl rfl rfl tyA42.s) zU2 ?_
   refine aC (aA (aF (aB (bK 0 2 rfl rfl rfl rfl (.agg tyA42)) zU1 ?_)))
   refine bG (dO 2 rfl rfl rfl tyA42.s) zU2 ?_
   refine aC (bJ ?_)
   exact bL (fun a w hh=>⟨v36.2,x12,hF,bF [2,3,4] rfl (by decide) (by exact⟨rfl,rfl,rfl,trivial⟩) hh⟩)
  have hF:=aX h18 hF
  refine aM ?_
  refine aM ?_
  refine aM ?_
  refine aM ?_
  refine aB (bN rfl) ⟨rfl,cW _,trivial⟩ ?_
  refine aC (aA (sT rfl ?_))
  refine bA (aA (aE (aF (aB (bK 1 2 rfl rfl rfl rfl (.agg tyA42)) zU1 ?_))))
  refine aB (bK 0 2 rfl rfl rfl rfl (.agg tyA42)) zU1 ?_
  obtain⟨v40,h41,hF⟩:=aP hF
  refine aB (aJ rfl (rT h41) rfl) zU2 ?_
  refine aI ?_
  refine aB (lT rfl) zU1 ?_
  refine aB (lO rfl) zU1 ?_
  refine bP rfl tyZ42 (fun b42=>?_)
  refine bP rfl tyZ42 (fun b43=>?_)
  refine bG (dO 1 rfl rfl rfl tyA42.s) zU2 ?_
  refine bG (dO 0 rfl rfl rfl tyA42.s) zU2 ?_
  refine aC (aA (aE (aF (aB (bK 2 2 rfl rfl rfl rfl (.agg tyA42)) zU1 ?_))))
  refine bG (dO 3 rfl rfl rfl tyA42.s) zU2 ?_
  refine aC (aA (aF (aB (bK 0 2 rfl rfl rfl rfl (.agg tyA42)) zU1 ?_)))
  refine bG (dO 2 rfl rfl rfl tyA42.s) zU2 ?_
  refine aC (bJ ?_)
  exact bL (fun a w hh=>⟨v40.2,x12,hF,bF [2,3,4] rfl (by decide) (by exact⟨rfl,rfl,rfl,trivial⟩) hh⟩)
 have hF:=aX h17 hF
 refine dI ?_
 obtain rfl:=bV hF
 exact bU Jj16 ⟨x13,hRl15,rfl,rfl⟩ [1,2] rfl zU2
def lC (K:Nat) (a0:aZ):Option aZ:=
 (cA K (!a0.neg) a0.d).bind fun v3=>some v3
theorem t0 {K:Nat} {a0:aZ} {r:aZ} (hF:lC K a0=some r):Ct Tryz.prog 180 [.va (aZ.e a0)] (.va (aZ.e r)):=by
 unfold lC at hF
 refine bD Tryz.func180 rfl (by kernel_rfl) Tryz.ntmps180 rfl (fun w0 M0=>?_)
 refine aE (aF (cY rfl rfl trivial (fun b1=>?_)))
 refine bP rfl tyZ42 (fun b2=>?_)
 refine aC (aA (aE (aF (aB (bE (off:=0) (k:=0) rfl tyF42_0) zU1 ?_))))
 refine aB (bK 1 1 rfl rfl rfl rfl (.one tyO4)) zU1 ?_
 refine aB (hU rfl) zU1 ?_
 refine aB (bE (off:=0) (k:=1) rfl tyF42_1) zU1 ?_
 refine aB (bK 1 1 rfl rfl rfl rfl (.one tyO22)) zU1 ?_
 obtain⟨v3,h4,hF⟩:=aP hF
 refine aB (aJ rfl (cM h4) rfl) zU2 ?_
 refine bG (dO 0 rfl rfl rfl tyA42.s) zU2 ?_
 refine aC (aA (a9 (a8 ?_)))
 obtain rfl:=bV hF
 exact aL (.inl rfl) Tryz.results180 (bQ 0 2 rfl rfl rfl rfl (.agg tyA42) .nil) rfl rfl
def lN (K:Nat) (a0:aZ) (a1:aZ) (x11:aZ) (x12:aZ):Option (aZ×aZ):=
 bif(a0.neg != a1.neg) then(some ((⟨(decide (0<(x12.d.length:Int))),x12.d⟩:aZ),x11)) else(some ((⟨false,x12.d⟩:aZ),x11))
def rY (K:Nat) (a0:aZ) (a1:aZ):Option (aZ×aZ):=
 bif((a1.d.length:Int)==0) then(some ((⟨false,([]:List Int)⟩:aZ),(⟨false,([]:List Int)⟩:aZ))) else((mR K a0.d a1.d).bind fun v6=>bif a0.neg then(bif(decide (0<(v6.2.d.length:Int))) then((oS K v6.1.d [1]).bind fun v21=>(eX K false v21).bind fun v23=>(l7 K a1.d v6.2.d).bind fun v25=>(eX K false v25).bind fun v27=>lN K a0 a1 v27 v23) else(lN K a0 a1 v6.2 v6.1)) else(lN K a0 a1 v6.2 v6.1))
theorem z7 {K:Nat} {a0:aZ} {a1:aZ} {r:aZ×aZ} (hF:rY K a0 a1=some r):Ct Tryz.prog 184 [.va (aZ.e a0),.va (aZ.e a1)] (.t2 (.va (aZ.e r.1)) (.va (aZ.e r.2))):=by
 unfold rY at hF
 refine bD Tryz.func184 rfl (by kernel_rfl) Tryz.ntmps184 rfl (fun w0 M0=>?_)
 refine aE (aF (cY rfl rfl trivial (fun b1=>?_)))
 refine cY rfl rfl trivial (fun b2=>?_)
 refine bP rfl tyZ42 (fun b3=>?_)
 refine bP rfl tyZ42 (fun b4=>?_)
 refine aC (aA (aE (aE (aF (aB (bE (off:=0) (k:=1) rfl tyF42_1) zU1 ?_)))))
 refine aB (bK 2 1 rfl rfl rfl rfl (.one tyO22)) zU1 ?_
 refine aB (bX rfl tyS22) zU1 ?_
 refine aB (gR rfl) ⟨rfl,bI _ _,trivial⟩ ?_
 refine aC (aA (bS rfl (fun h5=>?_) (fun h5=>?_)))
 ·have hF:=aV h5 hF
  refine aE (aF (aB (cZ (is:=[]) (xs:=[]) (ps:=[]) rfl tyB42 rfl rfl trivial rfl) trivial ?_))
  refine aB (cZ (is:=[]) (xs:=[]) (ps:=[]) rfl tyB42 rfl rfl trivial rfl) trivial ?_
  refine bG (dO 1 rfl rfl rfl tyA42.s) zU2 ?_
  refine bG (dO 0 rfl rfl rfl tyA42.s) zU2 ?_
  refine aC (aA (a9 (a8 ?_)))
  obtain rfl:=bV hF
  exact aL (.inl rfl) Tryz.results184 (bQ 1 2 rfl rfl rfl rfl (.agg tyA42) (bQ 0 2 rfl rfl rfl rfl (.agg tyA42) .nil)) rfl rfl
 have hF:=aX h5 hF
 refine bA (aA (aE (aF (aB (bE (off:=0) (k:=1) rfl tyF42_1) zU1 ?_))))
 refine aB (bK 3 1 rfl rfl rfl rfl (.one tyO22)) zU1 ?_
 refine aB (bE (off:=0) (k:=1) rfl tyF42_1) zU1 ?_
 refine aB (bK 2 1 rfl rfl rfl rfl (.one tyO22)) zU1 ?_
 obtain⟨v6,h7,hF⟩:=aP hF
 refine aB (aJ rfl (uJ h7) rfl) zU2 ?_
 refine aI ?_
 refine aB (lT rfl) zU1 ?_
 refine aB (lO rfl) zU1 ?_
 refine bP rfl tyZ42 (fun b8=>?_)
 refine bP rfl tyZ42 (fun b9=>?_)
 refine bG (dO 1 rfl rfl rfl tyA42.s) zU2 ?_
 refine bG (dO 0 rfl rfl rfl tyA42.s) zU2 ?_
 refine aC (aA (aE (uH (fun H E=>∃(x11:aZ),∃(x12:aZ),lN K a0 a1 x11 x12=some r∧H=[⟨some b9,1,42,2,1,(aZ.e x11)⟩,⟨some b8,1,42,2,1,(aZ.e x12)⟩,⟨some b4,1,42,2,1,([pB false]++[pS cI ([]:List Int)])⟩,⟨some b3,1,42,2,1,([pB false]++[pS cI ([]:List Int)])⟩,⟨some b2,1,42,2,1,(aZ.e a1)⟩,⟨some b1,1,42,2,1,(aZ.e a0)⟩]∧E=[(2,.vc (pP (some b1) 0)),(3,.vc (pP (some b2) 0)),(4,.vc (pP (some b3) 0)),(5,.vc (pP (some b4) 0)),(6,.vc (pP (some b8) 0)),(7,.vc (pP (some b9) 0))]) ?_ (fun Jj13=>?_))))
 ·rintro _ _ ⟨x11,x12,hF,rfl,rfl⟩
  unfold lN at hF
  refine aE (aF (aB (bE (off:=0) (k:=0) rfl tyF42_0) zU1 ?_))
  refine aB (bK 5 1 rfl rfl rfl rfl (.one tyO4)) zU1 ?_
  refine aB (bE (off:=0) (k:=0) rfl tyF42_0) zU1 ?_
  refine aB (bK 4 1 rfl rfl rfl rfl (.one tyO4)) zU1 ?_
  refine aB (y6 rfl Tryz.underlying4) zU2 ?_
  refine aI ?_
  refine cP (fun h14=>?_) (fun h14=>?_)
  ·have hF:=aV h14 hF
   refine aY (bE (off:=0) (k:=1) rfl tyF42_1) zU1 ?_
   refine aY (bK 1 1 rfl rfl rfl rfl (.one tyO22)) zU1 ?_
   refine aY (bX rfl tyS22) zU1 ?_
   refine aY (rV rfl) ⟨rfl,bI _ _,trivial⟩ ?_
   refine aB (bM rfl) zU2 ?_
   refine aB (bE (off:=0) (k:=0) rfl tyF42_0) zU1 ?_
   refine bG (dO 1 rfl rfl rfl tyO4.s) zU2 ?_
   refine aC (aA (aE (nJ (HsM [(0,fun G15=>[⟨some b9,1,42,2,1,(aZ.e x11)⟩,⟨some b8,1,42,2,1,([pB (decide (0<(x12.d.length:Int)))]++[pS cI x12.d])⟩,⟨some b4,1,42,2,1,([pB false]++[pS cI ([]:List Int)])⟩,⟨some b3,1,42,2,1,([pB false]++[pS cI ([]:List Int)])⟩,⟨some b2,1,42,2,1,(aZ.e a1)⟩,⟨some b1,1,42,2,1,(aZ.e a0)⟩]),(1,fun G15=>[⟨some b9,1,42,2,1,(aZ.e x11)⟩,⟨some b8,1,42,2,1,([pB (decide (0<(x12.d.length:Int)))]++[pS cI x12.d])⟩,⟨some b4,1,42,2,1,([pB false]++[pS cI ([]:List Int)])⟩,⟨some b3,1,42,2,1,([pB (decide (0<(x12.d.length:Int)))]++[pS cI x12.d])⟩,⟨some b2,1,42,2,1,(aZ.e a1)⟩,⟨some b1,1,42,2,1,(aZ.e a0)⟩])]) [2] [0,0,1,7] 3 1 [.v (.va ([pB (decide (0<(x12.d.length:Int)))]++[pS cI x12.d])),.v (.va (aZ.e x11)),.g (fun _ _=>.any)] aU ⟨d1 0 (bK 1 2 rfl rfl rfl rfl (.agg tyA42)) zU1,⟨rfl,.run (L:=[0,1]) ⟨fun G15 A=>bK 0 2 rfl rfl rfl rfl (.agg tyA42),fun G15 A=>bK 0 2 rfl rfl rfl rfl (.agg tyA42),trivial⟩ (fun G15=>zU1)⟩,⟨rfl,.hvy [0] ⟨fun G15 A=>aBl (dO 3 rfl rfl rfl tyA42.s),trivial⟩ (fun G15=>zU2)⟩,trivial⟩ (fun bs16 G15=>?_))))
   refine bG (dO 2 rfl rfl rfl tyA42.s) zU2 ?_
   refine aC (aA (a9 (a8 ?_)))
   obtain rfl:=bV hF
   exact aL (.inl rfl) Tryz.results184 (bQ 3 2 rfl rfl rfl rfl (.agg tyA42) (bQ 2 2 rfl rfl rfl rfl (.agg tyA42) .nil)) rfl rfl
  have hF:=aX h14 hF
  refine aM ?_
  refine aM ?_
  refine aM ?_
  refine aM ?_
  refine aB (bN rfl) ⟨rfl,cW _,trivial⟩ ?_
  refine aB (bE (off:=0) (k:=0) rfl tyF42_0) zU1 ?_
  refine bG (dO 1 rfl rfl rfl tyO4.s) zU2 ?_
  refine aC (aA (aE (nJ (HsM [(0,fun G17=>[⟨some b9,1,42,2,1,(aZ.e x11)⟩,⟨some b8,1,42,2,1,([pB false]++[pS cI x12.d])⟩,⟨some b4,1,42,2,1,([pB false]++[pS cI ([]:List Int)])⟩,⟨some b3,1,42,2,1,([pB false]++[pS cI ([]:List Int)])⟩,⟨some b2,1,42,2,1,(aZ.e a1)⟩,⟨some b1,1,42,2,1,(aZ.e a0)⟩]),(1,fun G17=>[⟨some b9,1,42,2,1,(aZ.e x11)⟩,⟨some b8,1,42,2,1,([pB false]++[pS cI x12.d])⟩,⟨some b4,1,42,2,1,([pB false]++[pS cI ([]:List Int)])⟩,⟨some b3,1,42,2,1,([pB false]++[pS cI x12.d])⟩,⟨some b2,1,42,2,1,(aZ.e a1)⟩,⟨some b1,1,42,2,1,(aZ.e a0)⟩])]) [2] [0,0,1,7] 3 1 [.v (.va ([pB false]++[pS cI x12.d])),.v (.va (aZ.e x11)),.g (fun _ _=>.any)] aU ⟨d1 0 (bK 1 2 rfl rfl rfl rfl (.agg tyA42)) zU1,⟨rfl,.run (L:=[0,1]) ⟨fun G17 A=>bK 0 2 rfl rfl rfl rfl (.agg tyA42),fun G17 A=>bK 0 2 rfl rfl rfl rfl (.agg tyA42),trivial⟩ (fun G17=>zU1)⟩,⟨rfl,.hvy [0] ⟨fun G17 A=>aBl (dO 3 rfl rfl rfl tyA42.s),trivial⟩ (fun G17=>zU2)⟩,trivial⟩ (fun bs18 G17=>?_))))
  refine bG (dO 2 rfl rfl rfl tyA42.s) zU2 ?_
  refine aC (aA (a9 (a8 ?_)))
  obtain rfl:=bV hF
  exact aL (.inl rfl) Tryz.results184 (bQ 3 2 rfl rfl rfl rfl (.agg tyA42) (bQ 2 2 rfl rfl rfl rfl (.agg tyA42) .nil)) rfl rfl
 refine aE (aF (aB (bE (off:=0) (k:=0) rfl tyF42_0) zU1 ?_))
 refine aB (bK 5 1 rfl rfl rfl rfl (.one tyO4)) zU1 ?_
 refine aI ?_
 refine cP (fun h19=>?_) (fun h19=>?_)
 ·have hF:=aV h19 hF
  refine aY (bE (off:=0) (k:=1) rfl tyF42_1) zU1 ?_
  refine aY (bK 0 1 rfl rfl rfl rfl (.one tyO22)) zU1 ?_
  refine aY (bX rfl tyS22) zU1 ?_
  refine aY (rV rfl) ⟨rfl,bI _ _,trivial⟩ ?_
  refine aB (bM rfl) zU2 ?_
  refine aC (aA (bS rfl (fun h20=>?_) (fun h20=>?_)))
  ·have hF:=aV h20 hF
   refine aE (aF (aB (bE (off:=0) (k:=1) rfl tyF42_1) zU1 ?_))
   refine aB (bK 1 1 rfl rfl rfl rfl (.one tyO22)) zU1 ?_
   refine aB (iJ (C:=cI) (xs:=[.const (.int .i64 (1))]) (ps:=[.vc (pI .i64 1)]) (zs:=[1]) rfl tyS22 rfl ⟨⟨trivial,rfl⟩,trivial⟩ rfl) ⟨bI _ _,trivial⟩ ?_
   obtain⟨v21,h22,hF⟩:=aP hF
   refine aB (aJ rfl (y7 h22) rfl) zU2 ?_
   obtain⟨v23,h24,hF⟩:=aP hF
   refine aB (aJ rfl (iL h24) rfl) ⟨cW _,rfl,trivial⟩ ?_
   refine bG (dO 1 rfl rfl rfl tyA42.s) zU2 ?_
   refine aC (aA (aF (aB (bE (off:=0) (k:=1) rfl tyF42_1) zU1 ?_)))
   refine aB (bK 4 1 rfl rfl rfl rfl (.one tyO22)) zU1 ?_
   refine aB (bE (off:=0) (k:=1) rfl tyF42_1) zU1 ?_
   refine aB (bK 0 1 rfl rfl rfl rfl (.one tyO22)) zU1 ?_
   obtain⟨v25,h26,hF⟩:=aP hF
   refine aB (aJ rfl (u5 h26) rfl) zU2 ?_
   obtain⟨v27,h28,hF⟩:=aP hF
   refine aB (aJ rfl (iL h28) rfl) ⟨cW _,rfl,trivial⟩ ?_
   refine bG (dO 0 rfl rfl rfl tyA42.s) zU2 ?_
   refine aC ?_
   exact bU Jj13 ⟨v27,v23,hF,rfl,rfl⟩ [0,1,2,3,4,5] rfl ⟨rfl,rfl,rfl,rfl,rfl,rfl,trivial⟩
  have hF:=aX h20 hF
  refine bA ?_
  exact bU Jj13 ⟨v6.2,v6.1,hF,rfl,rfl⟩ [0,1,2,3,4,5] rfl ⟨rfl,rfl,rfl,rfl,rfl,rfl,trivial⟩
 have hF:=aX h19 hF
 refine aM ?_
 refine aM ?_
 refine aM ?_
 refine aM ?_
 refine aB (bN rfl) ⟨rfl,cW _,trivial⟩ ?_
 refine aC (aA (sT rfl ?_))
 refine bA ?_
 exact bU Jj13 ⟨v6.2,v6.1,hF,rfl,rfl⟩ [0,1,2,3,4,5] rfl ⟨rfl,rfl,rfl,rfl,rfl,rfl,trivial⟩
def qK (a0:aZ):Option aZ:=
 bif(!a0.neg) then(some (⟨(decide (0<(a0.d.length:Int))),a0.d⟩:aZ)) else(some (⟨false,a0.d⟩:aZ))
theorem wH {a0:aZ} {r:aZ} (hF:qK a0=some r):Ct Tryz.prog 186 [.va (aZ.e a0)] (.va (aZ.e r)):=by
 unfold qK at hF
 refine bD Tryz.func186 rfl (by kernel_rfl) Tryz.ntmps186 rfl (fun w0 M0=>?_)
 refine aE (aF (cY rfl rfl trivial (fun b1=>?_)))
 refine bP rfl tyZ42 (fun b2=>?_)
 refine aC (aA (aE (aF (aB (bE (off:=0) (k:=0) rfl tyF42_0) zU1 ?_))))
 refine aB (bK 1 1 rfl rfl rfl rfl (.one tyO4)) zU1 ?_
 refine aB (hU rfl) zU1 ?_
 refine aI ?_
 refine cP (fun h3=>?_) (fun h3=>?_)
 ·have hF:=aV h3 hF
  refine aY (bE (off:=0) (k:=1) rfl tyF42_1) zU1 ?_
  refine aY (bK 1 1 rfl rfl rfl rfl (.one tyO22)) zU1 ?_
  refine aY (bX rfl tyS22) zU1 ?_
  refine aY (rV rfl) ⟨rfl,bI _ _,trivial⟩ ?_
  refine aB (bM rfl) zU2 ?_
  refine aB (bE (off:=0) (k:=0) rfl tyF42_0) zU1 ?_
  refine bG (dO 1 rfl rfl rfl tyO4.s) zU2 ?_
  refine aC (aA (aE (aF (aB (bK 1 2 rfl rfl rfl rfl (.agg tyA42)) zU1 ?_))))
  refine bG (dO 0 rfl rfl rfl tyA42.s) zU2 ?_
  refine aC (aA (a9 (a8 ?_)))
  obtain rfl:=bV hF
  exact aL (.inl rfl) Tryz.results186 (bQ 0 2 rfl rfl rfl rfl (.agg tyA42) .nil) rfl rfl
 have hF:=aX h3 hF
 refine aM ?_
 refine aM ?_
 refine aM ?_
 refine aM ?_
 refine aB (bN rfl) ⟨rfl,cW _,trivial⟩ ?_
 refine aB (bE (off:=0) (k:=0) rfl tyF42_0) zU1 ?_
 refine bG (dO 1 rfl rfl rfl tyO4.s) zU2 ?_
 refine aC (aA (aE (aF (aB (bK 1 2 rfl rfl rfl rfl (.agg tyA42)) zU1 ?_))))
 refine bG (dO 0 rfl rfl rfl tyA42.s) zU2 ?_
 refine aC (aA (a9 (a8 ?_)))
 obtain rfl:=bV hF
 exact aL (.inl rfl) Tryz.results186 (bQ 0 2 rfl rfl rfl rfl (.agg tyA42) .nil) rfl rfl
def lV (a0:Int):Option aZ:=
 bif(decide (a0<0)) then((fF (decide (a0<0)) (wu (-(IntKind.u64.wrap a0)))).bind fun v3=>some v3) else((fF (decide (a0<0)) (IntKind.u64.wrap a0)).bind fun v5=>some v5)
theorem qN {a0:Int} {r:aZ} (hF:lV a0=some r):Ct Tryz.prog 196 [.vc (pI .i64 a0)] (.va (aZ.e r)):=by
 unfold lV at hF
 refine bD Tryz.func196 rfl (by kernel_rfl) Tryz.ntmps196 rfl (fun w0 M0=>?_)
 refine aE (aF (bP rfl tyZ42 (fun b1=>?_)))
 refine aC (aA (aE (aF (aI ?_))))
 refine aB (aBU rfl ⟨_,Tryz.underlying3⟩ Tryz.underlying213) zU1 ?_
 refine bH ?_
 refine aC (aA (aE (aE (aF (aI ?_)))))
 refine aB (dQ rfl) ⟨rfl,bI _ _,trivial⟩ ?_
 refine aC (aA (bS rfl (fun h2=>?_) (fun h2=>?_)))
 ·have hF:=aV h2 hF
  refine aF (aI ?_)
  refine aB (aK3 rfl) zU1 ?_
  refine bH ?_
  refine aC (aA (aE (aF (aI ?_))))
  refine aB (dQ rfl) ⟨rfl,bI _ _,trivial⟩ ?_
  refine aI ?_
  obtain⟨v3,h4,hF⟩:=aP hF
  refine aB (aJ rfl (kD h4) rfl) zU2 ?_
  refine bG (dO 0 rfl rfl rfl tyA42.s) zU2 ?_
  refine aC (aA (a9 (a8 ?_)))
  obtain rfl:=bV hF
  exact aL (.inl rfl) Tryz.results196 (bQ 0 2 rfl rfl rfl rfl (.agg tyA42) .nil) rfl rfl
 have hF:=aX h2 hF
 refine bA (aA (aE (aF (aI ?_))))
 refine aB (dQ rfl) ⟨rfl,bI _ _,trivial⟩ ?_
 refine aI ?_
 obtain⟨v5,h6,hF⟩:=aP hF
 refine aB (aJ rfl (kD h6) rfl) zU2 ?_
 refine bG (dO 0 rfl rfl rfl tyA42.s) zU2 ?_
 refine aC (aA (a9 (a8 ?_)))
 obtain rfl:=bV hF
 exact aL (.inl rfl) Tryz.results196 (bQ 0 2 rfl rfl rfl rfl (.agg tyA42) .nil) rfl rfl
def lM (K:Nat) (a0:aZ) (a1:aZ):Option Int:=
 bif(a0.neg != a1.neg) then(bif a0.neg then(some (-1)) else(bif(a0.neg != a1.neg) then(some 1) else(bif a0.neg then((f7 K a1.d a0.d).bind fun v7=>some v7) else((f7 K a0.d a1.d).bind fun v9=>some v9)))) else(bif(a0.neg != a1.neg) then(some 1) else(bif a0.neg then((f7 K a1.d a0.d).bind fun v13=>some v13) else((f7 K a0.d a1.d).bind fun v15=>some v15)))
theorem tV {K:Nat} {a0:aZ} {a1:aZ} {r:Int} (hF:lM K a0 a1=some r):Ct Tryz.prog 216 [.va (aZ.e a0),.va (aZ.e a1)] (.vc (pI .i64 r)):=by
 unfold lM at hF
 refine bD Tryz.func216 rfl (by kernel_rfl) Tryz.ntmps216 rfl (fun w0 M0=>?_)
 refine aE (aF (cY rfl rfl trivial (fun b1=>?_)))
 refine cY rfl rfl trivial (fun b2=>?_)
 refine aB (aN (.inr rfl)) ⟨bI _ _,trivial⟩ ?_
 refine aC (aA (aE (bR (aE (aF (aB (bE (off:=0) (k:=0) rfl tyF42_0) zU1 ?_))))))
 refine aB (bK 1 1 rfl rfl rfl rfl (.one tyO4)) zU1 ?_
 refine aB (bE (off:=0) (k:=0) rfl tyF42_0) zU1 ?_
 refine aB (bK 0 1 rfl rfl rfl rfl (.one tyO4)) zU1 ?_
 refine aB (y6 rfl Tryz.underlying4) zU2 ?_
 refine aI ?_
 refine cP (fun h3=>?_) (fun h3=>?_)
 ·have hF:=aV h3 hF
  refine aY (bE (off:=0) (k:=0) rfl tyF42_0) zU1 ?_
  refine aY (bK 1 1 rfl rfl rfl rfl (.one tyO4)) zU1 ?_
  refine aB (bM rfl) zU2 ?_
  refine bH ?_
  refine aC (aA (bS rfl (fun h4=>?_) (fun h4=>?_)))
  ·have hF:=aV h4 hF
   refine aE (aF (aB (aN (.inr rfl)) ⟨bI _ _,trivial⟩ ?_))
   refine aC (aA (a9 (a8 ?_)))
   obtain rfl:=bV hF
   exact aL (.inl rfl) Tryz.results216 (.tmp rfl .nil) rfl rfl
  have hF:=aX h4 hF
  refine aE (aF (aB (bE (off:=0) (k:=0) rfl tyF42_0) zU1 ?_))
  refine aB (bK 1 1 rfl rfl rfl rfl (.one tyO4)) zU1 ?_
  refine aB (bE (off:=0) (k:=0) rfl tyF42_0) zU1 ?_
  refine aB (bK 0 1 rfl rfl rfl rfl (.one tyO4)) zU1 ?_
  refine aB (y6 rfl Tryz.underlying4) zU2 ?_
  refine bH ?_
  refine aC (aA (bS rfl (fun h5=>?_) (fun h5=>?_)))
  ·have hF:=aV h5 hF
   refine aE (aF (aB (aN (.inr rfl)) ⟨bI _ _,trivial⟩ ?_))
   refine aC (aA (a9 (a8 ?_)))
   obtain rfl:=bV hF
   exact aL (.inl rfl) Tryz.results216 (.tmp rfl .nil) rfl rfl
  have hF:=aX h5 hF
  refine aE (aF (aB (bE (off:=0) (k:=0) rfl tyF42_0) zU1 ?_))
  refine aB (bK 1 1 rfl rfl rfl rfl (.one tyO4)) zU1 ?_
  refine bH ?_
  refine aC (aA (bS rfl (fun h6=>?_) (fun h6=>?_)))
  ·have hF:=aV h6 hF
   refine aE (aF (aB (bE (off:=0) (k:=1) rfl tyF42_1) zU1 ?_))
   refine aB (bK 0 1 rfl rfl rfl rfl (.one tyO22)) zU1 ?_
   refine aB (bE (off:=0) (k:=1) rfl tyF42_1) zU1 ?_
   refine aB (bK 1 1 rfl rfl rfl rfl (.one tyO22)) zU1 ?_
   obtain⟨v7,h8,hF⟩:=aP hF
   refine aB (aJ rfl (mS h8) rfl) zU2 ?_
   refine bH ?_
   refine aC (aA (a9 (a8 ?_)))
   obtain rfl:=bV hF
   exact aL (.inl rfl) Tryz.results216 (.tmp rfl .nil) rfl rfl
  have hF:=aX h6 hF
  refine bA (bJ (aA (aE (aF (aB (bE (off:=0) (k:=1) rfl tyF42_1) zU1 ?_)))))
  refine aB (bK 1 1 rfl rfl rfl rfl (.one tyO22)) zU1 ?_
  refine aB (bE (off:=0) (k:=1) rfl tyF42_1) zU1 ?_
  refine aB (bK 0 1 rfl rfl rfl rfl (.one tyO22)) zU1 ?_
  obtain⟨v9,h10,hF⟩:=aP hF
  refine aB (aJ rfl (mS h10) rfl) zU2 ?_
  refine bH ?_
  refine aC (aA (a9 (a8 ?_)))
  obtain rfl:=bV hF
  exact aL (.inl rfl) Tryz.results216 (.tmp rfl .nil) rfl rfl
 have hF:=aX h3 hF
 refine aM ?_
 refine aM ?_
 refine aB (bN rfl) ⟨rfl,cW _,trivial⟩ ?_
 refine bH ?_
 refine aC (aA (sT rfl ?_))
 refine aE (aF (aB (bE (off:=0) (k:=0) rfl tyF42_0) zU1 ?_))
 refine aB (bK 1 1 rfl rfl rfl rfl (.one tyO4)) zU1 ?_
 refine aB (bE (off:=0) (k:=0) rfl tyF42_0) zU1 ?_
 refine aB (bK 0 1 rfl rfl rfl rfl (.one tyO4)) zU1 ?_
 refine aB (y6 rfl Tryz.underlying4) zU2 ?_
 refine bH ?_
 refine aC (aA (bS rfl (fun h11=>?_) (fun h11=>?_)))
 ·have hF:=aV h11 hF
  refine aE (aF (aB (aN (.inr rfl)) ⟨bI _ _,trivial⟩ ?_))
  refine aC (aA (a9 (a8 ?_)))
  obtain rfl:=bV hF
  exact aL (.inl rfl) Tryz.results216 (.tmp rfl .nil) rfl rfl
 have hF:=aX h11 hF
 refine aE (aF (aB (bE (off:=0) (k:=0) rfl tyF42_0) zU1 ?_))
 refine aB (bK 1 1 rfl rfl rfl rfl (.one tyO4)) zU1 ?_
 refine bH ?_
 refine aC (aA (bS rfl (fun h12=>?_) (fun h12=>?_)))
 ·have hF:=aV h12 hF
  refine aE (aF (aB (bE (off:=0) (k:=1) rfl tyF42_1) zU1 ?_))
  refine aB (bK 0 1 rfl rfl rfl rfl (.one tyO22)) zU1 ?_
  refine aB (bE (off:=0) (k:=1) rfl tyF42_1) zU1 ?_
  refine aB (bK 1 1 rfl rfl rfl rfl (.one tyO22)) zU1 ?_
  obtain⟨v13,h14,hF⟩:=aP hF
  refine aB (aJ rfl (mS h14) rfl) zU2 ?_
  refine bH ?_
  refine aC (aA (a9 (a8 ?_)))
  obtain rfl:=bV hF
  exact aL (.inl rfl) Tryz.results216 (.tmp rfl .nil) rfl rfl
 have hF:=aX h12 hF
 refine bA (bJ (aA (aE (aF (aB (bE (off:=0) (k:=1) rfl tyF42_1) zU1 ?_)))))
 refine aB (bK 1 1 rfl rfl rfl rfl (.one tyO22)) zU1 ?_
 refine aB (bE (off:=0) (k:=1) rfl tyF42_1) zU1 ?_
 refine aB (bK 0 1 rfl rfl rfl rfl (.one tyO22)) zU1 ?_
 obtain⟨v15,h16,hF⟩:=aP hF
 refine aB (aJ rfl (mS h16) rfl) zU2 ?_
 refine bH ?_
 refine aC (aA (a9 (a8 ?_)))
 obtain rfl:=bV hF
 exact aL (.inl rfl) Tryz.results216 (.tmp rfl .nil) rfl rfl
end Go.Proofs.YtcjdedkdoagifaaGreat
set_option linter.unusedVariables false
set_option maxRecDepth 100000
namespace Go.Proofs.YtcjdedkdoagifaaGreat
end Go.Proofs.YtcjdedkdoagifaaGreat
set_option linter.unusedVariables false
namespace Go.Proofs.YtcjdedkdoagifaaGreat
theorem yB {n m:Nat} {x:Int} (h:x=n) (hn:n≤9000000000000000000):bW x=some (n:Int):=by
 subst h;exact oA ⟨by omega,by omega⟩
theorem cU {k n:Nat} (h:n<k):∃k',k=k'+1∧n≤k':=⟨k-1,by omega,by omega⟩
theorem zM {u:List Int} {i:Nat} {v:Int} (h:Dr u 0 i) (hl:i<u.length) (h0:0≤v) (h1:v<1000000000):Dr (u.set i v) 0 (i+1):=fun t ht=>by
 by_cases e:t=i
 ·subst e;rw [Nat.zero_add,eU hl];exact⟨h0,h1⟩
 ·rw [fJ (by omega)];exact h t (by omega)
def mkG (neg:Bool) (n:Nat):aZ:=if n=0 then⟨false,[]⟩ else⟨neg,dD n⟩
theorem m6 (n:Nat):mkG false n=Z n:=by
 unfold mkG Z
 by_cases h:n=0
 ·subst h;simp [w7]
 ·rw [if_neg h];simp
theorem aGA (n:Nat):mkG true n=Z (-n):=by
 unfold mkG Z
 by_cases h:n=0
 ·subst h;simp [w7]
 ·rw [if_neg h];simp;omega
theorem s5 (b:Bool) (n:Nat):mkG b n=Z (if b then -(n:Int) else n):=by
 cases b
 ·simpa using m6 n
 ·simpa using aGA n
theorem aKu (u:List Int):∀(n:Nat),n≤u.length→n≤9000000000000→∃m:Nat,m≤n∧(∀i,m≤i→i<n→u.getD i 0=0)∧(m=0∨u.getD (m-1) 0≠0)∧∀K k,n<k→l8 K u k n=some (m:Int)
 |0,_,_=>⟨0,Nat.le_refl _,fun i _ h=>by omega,.inl rfl,fun K k hk=>by
   obtain⟨k',rfl,_⟩:=cU hk
   simp [l8]⟩
 |n+1,h,hL=>by
  have e1:bW (((n+1:Nat):Int)-1)=some (n:Int):=yB (m:=0) (by omega) (by omega)
  have e2:decide (0<((n+1:Nat):Int))=true:=decide_eq_true (by omega)
  have e3:=dU (xs:=u) (i:=n) (by omega)
  by_cases h0:u.getD n 0=0
  ·obtain⟨m,h1,h2,h3,h4⟩:=aKu u n (by omega) (by omega)
   refine⟨m,by omega,fun i a b=>?_,h3,fun K k hk=>?_⟩
   ·by_cases e:i=n
    ·subst e;exact h0
    ·exact h2 i a (by omega)
   ·obtain⟨k',rfl,hk'⟩:=cU hk
    simp only [l8,e1,e2,e3,h0,d8,oB,beq_self_eq_true]
    exact h4 K k' (by omega)
  ·refine⟨n+1,by omega,fun i a b=>by omega,.inr (by simpa using h0),fun K k hk=>?_⟩
   obtain⟨k',rfl,hk'⟩:=cU hk
   have e4:(u.getD n 0==0)=false:=by simpa using h0
   simp only [l8,e1,e2,e3,e4,d8,dS,oB]
theorem aLm {u:List Int} (hd:lA u) {m:Nat} (h1:m≤u.length) (h2:∀i,m≤i→i<u.length→u.getD i 0=0) (h3:m=0∨u.getD (m-1) 0≠0):u.take m=dD (vD u).toNat∧(m=0↔vD u=0):=by
 have hg:∀i,i<m→(u.take m).getD i 0=u.getD i 0:=fun i hi=>by
  simp only [List.getD_eq_getElem?_getD,List.getElem?_take];rw [if_pos hi]
 have hl:(u.take m).length=m:=by simp;omega
 have hok:lA (u.take m):=fun i=>by
  rcases Nat.lt_or_ge i m with h|h
  ·rw [hg i h];exact hd i
  ·rw [tK (by omega)];omega
 have hv:vD (u.take m)=vD u:=by
  unfold vD
  rw [hl]
  obtain⟨c,hc⟩:=Nat.exists_eq_add_of_le h1
  rw [hc,uV,aCf (j:=0+m) (fun i hi=>h2 _ (by omega) (by omega))]
  rw [aBr (v:=u) (k:=0) (fun i hi=>by rw [Nat.zero_add];exact hg i hi)]
  simp
 have ht:Top (u.take m):=by
  rcases h3 with h|h
  ·subst h;exact .inl (by simp)
  ·by_cases h0:m=0
   ·subst h0;exact .inl (by simp)
   ·refine .inr ?_
    rw [hl,hg _ (by omega)];exact h
 have:=aJO hok ht
 rw [hv] at this
 refine⟨this.symm,fun h=>?_,fun h=>?_⟩
 ·subst h
  rw [←hv];simp;rfl
 ·rw [h] at this
  simp only [Int.toNat_zero,w7] at this
  have:(u.take m).length=0:=by rw [←this];rfl
  omega
theorem vI (neg:Bool) {u:List Int} (hd:lA u) (hL:u.length≤9000000000000):Ev (fun K=>eX K neg u) (mkG neg (vD u).toNat):=by
 obtain⟨m,h1,h2,h3,h4⟩:=aKu u u.length (Nat.le_refl _) hL
 obtain⟨h5,h6⟩:=aLm hd h1 h2 h3
 have hn:=hd.nonneg
 refine⟨u.length+1,fun K hK=>?_⟩
 simp only [eX,h4 K K (by omega),oB,tN]
 unfold mkG
 by_cases h0:m=0
 ·have e:((m:Int)==0)=true:=by simp [h0]
  rw [e,d8,if_pos (by have:=h6.1 h0;omega)]
 ·have e:((m:Int)==0)=false:=by simp [h0]
  rw [e,dS,aD9 h1,oB,if_neg (by intro h;exact h0 (h6.2 (by omega))),h5]
theorem aAc {out a b:List Int} {i:Nat} {c c' v:Int} (hl:i<out.length) (hI:W out 0 i+c*PB i=W a 0 i+W b 0 i) (hv:v+1000000000*c'=a.getD i 0+b.getD i 0+c):
  W (out.set i v) 0 (i+1)+c'*PB (i+1)=W a 0 (i+1)+W b 0 (i+1):=by
 rw [eK,eK,eK,Nat.zero_add,eU hl,vQ (.inr (by omega))]
 simp only [PB]
 grind
theorem zV {a b:List Int} (ha:lA a) (hb:lA b) (hab:b.length≤a.length) (hL:a.length≤9000000000000):∀(t i:Nat) (out:List Int) (c:Int),i+t=a.length→out.length=a.length+1→Dr out 0 i→0≤c→c≤1→W out 0 i+c*PB i=W a 0 i+W b 0 i→
  ∃out' c',out'.length=a.length+1∧Dr out' 0 a.length∧0≤c'∧c'≤1∧W out' 0 a.length+c'*PB a.length=W a 0 a.length+W b 0 a.length∧∀K k,t<k→eG K a b k out c (i:Int)=some (out',c')
 |0,i,out,c,hi,ho,hD,hc0,hc1,hI=>by
  have:i=a.length:=by omega
  subst this
  refine⟨out,c,ho,hD,hc0,hc1,hI,fun K k hk=>?_⟩
  obtain⟨k',rfl,_⟩:=cU hk
  simp [eG]
 |t+1,i,out,c,hi,ho,hD,hc0,hc1,hI=>by
  have ha':=ha i
  have hb':=hb i
  have e1:decide ((i:Int)<(a.length:Int))=true:=decide_eq_true (by omega)
  have e2:=dU (xs:=a) (i:=i) (by omega)
  have e3:bW ((i:Int)+1)=some ((i+1:Nat):Int):=yB (m:=0) (by omega) (by omega)
  have e4:=dU (xs:=out) (i:=i) (by omega)
  have e5:∀v,qC out (i:Int) v=some (out.set i v):=fun v=>sC (by omega)
  have e6:bW (a.getD i 0+c)=some (a.getD i 0+c):=oA (by omega)
  have e7:bW (a.getD i 0+c+b.getD i 0)=some (a.getD i 0+c+b.getD i 0):=oA (by omega)
  have e8:bW (a.getD i 0+c+b.getD i 0-1000000000)=some (a.getD i 0+c+b.getD i 0-1000000000):=oA (by omega)
  have e9:bW (a.getD i 0+c-1000000000)=some (a.getD i 0+c-1000000000):=oA (by omega)
  by_cases hbl:i<b.length
  ·have f1:decide ((i:Int)<(b.length:Int))=true:=decide_eq_true (by omega)
   have f2:=dU (xs:=b) (i:=i) hbl
   by_cases hs:1000000000≤a.getD i 0+c+b.getD i 0
   ·obtain⟨o,d,h1,h2,h3,h4,h5,h6⟩:=zV ha hb hab hL t (i+1) (out.set i (a.getD i 0+c+b.getD i 0-1000000000)) 1 (by omega) (by simpa using ho) (zM hD (by omega) (by omega) (by omega)) (by omega) (by omega) (aAc (by omega) hI (by omega))
    refine⟨o,d,h1,h2,h3,h4,h5,fun K k hk=>?_⟩
    obtain⟨k',rfl,_⟩:=cU hk
    simp only [eG,e1,e2,e3,e4,e5,e6,e7,e8,f1,f2,decide_eq_true hs,d8,oB]
    exact h6 K k' (by omega)
   ·obtain⟨o,d,h1,h2,h3,h4,h5,h6⟩:=zV ha hb hab hL t (i+1) (out.set i (a.getD i 0+c+b.getD i 0)) 0 (by omega) (by simpa using ho) (zM hD (by omega) (by omega) (by omega)) (by omega) (by omega) (aAc (by omega) hI (by omega))
    refine⟨o,d,h1,h2,h3,h4,h5,fun K k hk=>?_⟩
    obtain⟨k',rfl,_⟩:=cU hk
    simp only [eG,e1,e2,e3,e4,e5,e6,e7,f1,f2,decide_eq_false hs,d8,dS,oB]
    exact h6 K k' (by omega)
  ·have f1:decide ((i:Int)<(b.length:Int))=false:=decide_eq_false (by omega)
   have f2:b.getD i 0=0:=tK (by omega)
   by_cases hs:1000000000≤a.getD i 0+c
   ·obtain⟨o,d,h1,h2,h3,h4,h5,h6⟩:=zV ha hb hab hL t (i+1) (out.set i (a.getD i 0+c-1000000000)) 1 (by omega) (by simpa using ho) (zM hD (by omega) (by omega) (by omega)) (by omega) (by omega) (aAc (by omega) hI (by omega))
    refine⟨o,d,h1,h2,h3,h4,h5,fun K k hk=>?_⟩
    obtain⟨k',rfl,_⟩:=cU hk
    simp only [eG,e1,e2,e3,e4,e5,e6,e9,f1,decide_eq_true hs,d8,dS,oB]
    exact h6 K k' (by omega)
   ·obtain⟨o,d,h1,h2,h3,h4,h5,h6⟩:=zV ha hb hab hL t (i+1) (out.set i (a.getD i 0+c)) 0 (by omega) (by simpa using ho) (zM hD (by omega) (by omega) (by omega)) (by omega) (by omega) (aAc (by omega) hI (by omega))
    refine⟨o,d,h1,h2,h3,h4,h5,fun K k hk=>?_⟩
    obtain⟨k',rfl,_⟩:=cU hk
    simp only [eG,e1,e2,e3,e4,e5,e6,f1,decide_eq_false hs,d8,dS,oB]
    exact h6 K k' (by omega)
theorem aEk (n j m:Nat):Dr (List.replicate n 0) j m:=fun i _=>by
 simp only [List.getD_eq_getElem?_getD,List.getElem?_replicate];split<;>simp
theorem aHa {a b:List Int} (ha:lA a) (hb:lA b) (hab:b.length≤a.length) (hL:a.length≤60000000000):∃r,lA r∧r.length=a.length+1∧vD r=vD a+vD b∧Ev (fun K=>nO K a b) r:=by
 obtain⟨o,c,h1,h2,h3,h4,h5,h6⟩:=zV ha hb hab (by omega) a.length 0 (List.replicate (a.length+1) 0) 0 (by omega) (by simp) (aEk _ _ _) (by omega) (by omega) (by simp [W])
 have e1:bW ((a.length:Int)+1)=some ((a.length+1:Nat):Int):=yB (m:=0) (by omega) (by omega)
 have e2:vK ((a.length+1:Nat):Int) (0:Int)=some (List.replicate (a.length+1) 0):=yV (by omega)
 refine⟨o.set a.length c,Dr.ok ?_,by simpa using h1,?_,⟨a.length+1,fun K hK=>?_⟩⟩
 ·rw [show(o.set a.length c).length=a.length+1 by simpa using h1]
  exact zM h2 (by omega) (by omega) (by omega)
 ·unfold vD
  rw [show(o.set a.length c).length=a.length+1 by simpa using h1,eK,Nat.zero_add,eU (by omega),vQ (.inr (by omega)),h5,yY hab]
 ·have h6':=h6 K K (by omega)
  simp only [Int.natCast_zero] at h6'
  simp only [nO,e1,e2,oB,h6',rG,dU (xs:=o) (i:=a.length) (by omega),sC (xs:=o) (i:=a.length) (v:=c) (by omega)]
theorem aFL {a b:List Int} (ha:lA a) (hb:lA b) (hL:a.length≤60000000000) (hM:b.length≤60000000000):∃r,lA r∧r.length≤max a.length b.length+1∧vD r=vD a+vD b∧Ev (fun K=>oS K a b) r:=by
 by_cases h:a.length<b.length
 ·obtain⟨r,h1,h2,h3,h4⟩:=aHa hb ha (by omega) hM
  refine⟨r,h1,by omega,by omega,h4.congr fun K=>?_⟩
  simp only [oS,show decide ((a.length:Int)<(b.length:Int))=true from decide_eq_true (by omega),d8]
 ·obtain⟨r,h1,h2,h3,h4⟩:=aHa ha hb (by omega) hL
  refine⟨r,h1,by omega,by omega,h4.congr fun K=>?_⟩
  simp only [oS,show decide ((a.length:Int)<(b.length:Int))=false from decide_eq_false (by omega),dS]
end Go.Proofs.YtcjdedkdoagifaaGreat
set_option linter.unusedVariables false
namespace Go.Proofs.YtcjdedkdoagifaaGreat
theorem dT {p:Prop} [Decidable p] (h:p):decide p=true:=decide_eq_true h
theorem dF {p:Prop} [Decidable p] (h:¬p):decide p=false:=decide_eq_false h
theorem nT {x y:Int} (h:x≠y):(x != y)=true:=bne_iff_ne.2 h
theorem nF {x y:Int} (h:x=y):(x != y)=false:=by subst h;exact bne_self_eq_false x
theorem qT {x y:Int} (h:x=y):(x==y)=true:=beq_iff_eq.2 h
theorem qF {x y:Int} (h:x≠y):(x==y)=false:=beq_false_of_ne h
theorem aIn {u:List Int} {k n:Nat} {v:Int} (h:k<n) (hl:k<u.length):W (u.set k v) 0 n=W u 0 n+(v-u.getD k 0)*PB k:=by
 obtain⟨c,rfl⟩:=Nat.exists_eq_add_of_le h
 rw [uV,uV,eK,eK,Nat.zero_add,eU hl,vQ (.inr (by omega)),vQ (.inl (by omega))]
 grind
theorem aJ8 {n:Nat} {a:List Int} (h:n=a.length):cpL (List.replicate n 0) a=a:=by
 subst h;simp [cpL]
theorem aBQ {a b x1:List Int} (ha:lA a) (hb:lA b) (hbl:b.length≤a.length) (hv:vD b≤vD a) (hL:a.length≤9000000000000) (hx:(cpL x1 a).length=a.length):∀(t i:Nat) (out:List Int),i+t=a.length→out.length=a.length→Dr out 0 i→
  (∀s,i<s→out.getD s 0=a.getD s 0)→a.getD i 0-1≤out.getD i 0→out.getD i 0≤a.getD i 0→W out 0 a.length+W b 0 i=vD a→
  ∃r,r.length=a.length∧lA r∧vD r=vD a-vD b∧∀K k,t<k→eW K a b x1 k out (i:Int)=some r
 |0,i,out,hi,ho,hD,hs,h1,h2,hW=>by
  have:i=a.length:=by omega
  subst this
  refine⟨out,ho,Dr.ok (by rwa [ho]),?_,fun K k hk=>?_⟩
  ·unfold vD
   rw [ho]
   rw [yY hbl] at hW
   have e1:vD b=W b 0 b.length:=rfl
   have e2:vD a=W a 0 a.length:=rfl
   omega
  ·obtain⟨k',rfl,_⟩:=cU hk
   simp [eW,hx]
 |t+1,i,out,hi,ho,hD,hs,h1,h2,hW=>by
  have ha':=ha i
  have hb':=hb i
  have e1:decide ((i:Int)<((cpL x1 a).length:Int))=true:=dT (by omega)
  have e3:bW ((i:Int)+1)=some ((i+1:Nat):Int):=yB (m:=0) (by omega) (by omega)
  have key:∀o:List Int,o.length=a.length→Dr o 0 i→(∀s,i<s→o.getD s 0=a.getD s 0)→o.getD i 0=out.getD i 0-b.getD i 0→W o 0 a.length+W b 0 (i+1)=vD a→
    ∃r,r.length=a.length∧lA r∧vD r=vD a-vD b∧∀K k,t≤k→t<k→kE K (i:Int) (eW K a b x1 k) o=some r:=by
   intro o hlo hDo hso hoi hWo
   have e2:=dU (xs:=o) (i:=i) (by omega)
   by_cases hneg:o.getD i 0<0
   ·have e4:bW (o.getD i 0+1000000000)=some (o.getD i 0+1000000000):=oA (by omega)
    have hlt:i+1<a.length:=by
     rcases Nat.lt_or_ge (i+1) a.length with h|h
     ·exact h
     ·exfalso
      have hia:a.length=i+1:=by omega
      have w1:=(yO hDo).2
      rw [hia] at hWo
      rw [eK,Nat.zero_add] at hWo
      have w2:vD b=W b 0 (i+1):=by rw [yY (n:=i+1) (by omega)]
      have hp:=qY i
      have:o.getD i 0*PB i≤(-1)*PB i:=Int.mul_le_mul_of_nonneg_right (by omega) (by omega)
      have hbn:=hb.nonneg
      omega
    have e5:qC o (i:Int) (o.getD i 0+1000000000)=some (o.set i (o.getD i 0+1000000000)):=sC (by omega)
    have e6:dC (o.set i (o.getD i 0+1000000000)) ((i+1:Nat):Int)=some (a.getD (i+1) 0):=by
     rw [dU (by simp;omega),fJ (by omega),hso _ (by omega)]
    have ha2:=ha (i+1)
    have e7:bW (a.getD (i+1) 0-1)=some (a.getD (i+1) 0-1):=oA (by omega)
    have e8:qC (o.set i (o.getD i 0+1000000000)) ((i+1:Nat):Int) (a.getD (i+1) 0-1)=some ((o.set i (o.getD i 0+1000000000)).set (i+1) (a.getD (i+1) 0-1)):=sC (by simp;omega)
    obtain⟨r,g1,g2,g3,g4⟩:=aBQ ha hb hbl hv hL hx t (i+1) ((o.set i (o.getD i 0+1000000000)).set (i+1) (a.getD (i+1) 0-1)) (by omega) (by simpa using hlo)
     (fun s hs'=>by
      rw [fJ (by omega)]
      exact zM hDo (by omega) (by omega) (by omega) s hs')
     (fun s hs'=>by rw [fJ (by omega),fJ (by omega),hso s (by omega)])
     (by rw [eU (by simp;omega)];omega) (by rw [eU (by simp;omega)];omega)
     (by
      rw [aIn (k:=i+1) (by omega) (by simp;omega),aIn (k:=i) (by omega) (by omega),fJ (by omega),hso (i+1) (by omega)]
      simp only [PB] at *
      have:o.getD i 0+1000000000-o.getD i 0=1000000000:=by omega
      rw [this]
      have:a.getD (i+1) 0-1-a.getD (i+1) 0=-1:=by omega
      rw [this]
      omega)
    refine⟨r,g1,g2,g3,fun K k hk hk'=>?_⟩
    simp only [kE,e2,e3,e4,e5,e6,e7,e8,dT hneg,d8,oB]
    exact g4 K k hk'
   ·obtain⟨r,g1,g2,g3,g4⟩:=aBQ ha hb hbl hv hL hx t (i+1) o (by omega) hlo (fun s hs'=>by
      by_cases e:s=i
      ·subst e;rw [Nat.zero_add];omega
      ·exact hDo s (by omega)) (fun s hs'=>hso s (by omega)) (by rw [hso _ (by omega)];omega) (by rw [hso _ (by omega)];omega) hWo
    refine⟨r,g1,g2,g3,fun K k hk hk'=>?_⟩
    simp only [kE,e2,e3,dF hneg,dS,oB]
    exact g4 K k hk'
  by_cases hib:i<b.length
  ·have f1:decide ((i:Int)<(b.length:Int))=true:=dT (by omega)
   have f2:=dU (xs:=b) (i:=i) hib
   have f3:=dU (xs:=out) (i:=i) (by omega)
   have f4:bW (out.getD i 0-b.getD i 0)=some (out.getD i 0-b.getD i 0):=oA (by omega)
   have f5:qC out (i:Int) (out.getD i 0-b.getD i 0)=some (out.set i (out.getD i 0-b.getD i 0)):=sC (by omega)
   obtain⟨r,g1,g2,g3,g4⟩:=key (out.set i (out.getD i 0-b.getD i 0)) (by simpa using ho) (fun s hs'=>by rw [fJ (by omega)];exact hD s hs') (fun s hs'=>by rw [fJ (by omega)];exact hs s hs') (eU (by omega)) (by
    rw [aIn (by omega) (by omega),eK,Nat.zero_add]
    have:(out.getD i 0-b.getD i 0-out.getD i 0)=- b.getD i 0:=by omega
    rw [this,Int.neg_mul]
    omega)
   refine⟨r,g1,g2,g3,fun K k hk=>?_⟩
   obtain⟨k',rfl,_⟩:=cU hk
   simp only [eW,e1,f1,f2,f3,f4,f5,d8,oB]
   exact g4 K k' (by omega) (by omega)
  ·have f1:decide ((i:Int)<(b.length:Int))=false:=dF (by omega)
   have f2:b.getD i 0=0:=tK (by omega)
   obtain⟨r,g1,g2,g3,g4⟩:=key out ho hD hs (by omega) (by rw [eK,Nat.zero_add,f2];omega)
   refine⟨r,g1,g2,g3,fun K k hk=>?_⟩
   obtain⟨k',rfl,_⟩:=cU hk
   simp only [eW,e1,f1,d8,dS]
   exact g4 K k' (by omega) (by omega)
theorem aBG {a b:List Int} (ha:lA a) (hb:lA b) (hbl:b.length≤a.length) (hv:vD b≤vD a) (hL:a.length≤60000000000):
  ∃r,r.length=a.length∧lA r∧vD r=vD a-vD b∧Ev (fun K=>l7 K a b) r:=by
 have e1:vK (a.length:Int) (0:Int)=some (List.replicate a.length 0):=yV (by omega)
 have e2:cpL (List.replicate a.length 0) a=a:=aJ8 rfl
 obtain⟨r,g1,g2,g3,g4⟩:=aBQ (x1:=List.replicate a.length 0) ha hb hbl hv (by omega) (by rw [e2]) a.length 0 a (by omega) rfl (fun s h=>by omega) (fun s h=>rfl) (by omega) (by omega) (by simp [W])
 refine⟨r,g1,g2,g3,⟨a.length+1,fun K hK=>?_⟩⟩
 have h:=g4 K K (by omega)
 simp only [Int.natCast_zero] at h
 simp only [l7,e1,e2,oB,h,qS]
theorem aEB (x y:Int):hZ x y=some (if x<y then -1 else if y<x then 1 else 0):=by
 unfold hZ mJ
 have e1:(x != x)=false:=by simp
 have e2:(y != y)=false:=by simp
 simp only [e1,e2,oB,dS]
 by_cases h:x<y
 ·rw [dT h,d8,if_pos h]
 ·rw [dF h,dS,if_neg h]
  by_cases h2:y<x
  ·rw [dT h2,d8,if_pos h2]
  ·rw [dF h2,dS,if_neg h2]
theorem aGz {u v:List Int} {n:Nat} (hu:lA u) (hv:lA v) (h:u.getD n 0<v.getD n 0):W u 0 (n+1)<W v 0 (n+1):=by
 rw [eK,eK,Nat.zero_add]
 have h1:=(yO (hu.dr 0 n)).2
 have h2:=(yO (hv.dr 0 n)).1
 have hp:=qY n
 have:(u.getD n 0+1)*PB n≤v.getD n 0*PB n:=Int.mul_le_mul_of_nonneg_right (by omega) (by omega)
 rw [Int.add_mul] at this
 omega
def tZ (x y:Int):Int:=if x<y then -1 else if y<x then 1 else 0
theorem aC8 {u v:List Int} (hu:lA u) (hv:lA v) (hl:u.length=v.length) (hL:u.length≤9000000000000):∀(j:Nat),j≤u.length→∀K k,j<k→
  fZ K u v k ((j:Int)-1)=some (if W u 0 j<W v 0 j then .ret (-1) else if W v 0 j<W u 0 j then .ret 1 else .go ())
 |0,_,K,k,hk=>by
  obtain⟨k',rfl,_⟩:=cU hk
  simp [fZ,W]
 |j+1,hj,K,k,hk=>by
  obtain⟨k',rfl,hk'⟩:=cU hk
  have e0:((j+1:Nat):Int)-1=(j:Int):=by omega
  have e1:decide (0≤(j:Int))=true:=dT (by omega)
  have e2:=dU (xs:=u) (i:=j) (by omega)
  have e3:=dU (xs:=v) (i:=j) (by omega)
  rw [e0]
  rcases Int.lt_trichotomy (u.getD j 0) (v.getD j 0) with h|h|h
  ·have:=aGz hu hv h
   have e4:(u.getD j 0 != v.getD j 0)=true:=nT (by omega)
   simp only [fZ,e1,e2,e3,e4,d8,oB,aEB]
   rw [if_pos h,if_pos this]
  ·have e4:(u.getD j 0 != v.getD j 0)=false:=nF h
   have e5:bW ((j:Int)-1)=some ((j:Int)-1):=oA (by omega)
   have ih:=aC8 hu hv hl hL j (by omega) K k' (by omega)
   have c1:(W u 0 (j+1)<W v 0 (j+1))↔(W u 0 j<W v 0 j):=by rw [eK,eK,Nat.zero_add,h];omega
   have c2:(W v 0 (j+1)<W u 0 (j+1))↔(W v 0 j<W u 0 j):=by rw [eK,eK,Nat.zero_add,h];omega
   simp only [fZ,e1,e2,e3,e4,e5,d8,dS,oB,c1,c2]
   exact ih
  ·have:=aGz hv hu h
   have e4:(u.getD j 0 != v.getD j 0)=true:=nT (by omega)
   simp only [fZ,e1,e2,e3,e4,d8,oB,aEB]
   rw [if_neg (by omega),if_pos h,if_neg (by omega),if_pos this]
theorem aEd {u v:List Int} (hu:lA u) (hv:lA v) (tv:Top v) (h:u.length<v.length):vD u<vD v:=by
 have h1:=hu.lt
 have h2:=tv.pos hv (by intro e;subst e;simp at h)
 have h3:=aBj (a:=u.length) (b:=v.length-1) (by omega)
 omega
theorem wX {u v:List Int} (hu:lA u) (hv:lA v) (tu:Top u) (tv:Top v) (hL:u.length≤9000000000000):Ev (fun K=>f7 K u v) (tZ (vD u) (vD v)):=by
 refine⟨u.length+1,fun K hK=>?_⟩
 by_cases h:u.length=v.length
 ·have e1:((u.length:Int) != (v.length:Int))=false:=nF (by omega)
  have e2:bW ((u.length:Int)-1)=some ((u.length:Int)-1):=oA (by omega)
  have e3:=aC8 hu hv h hL u.length (Nat.le_refl _) K K (by omega)
  simp only [f7,e1,e2,e3,dS,oB]
  unfold tZ vD
  rw [←h]
  by_cases h1:W u 0 u.length<W v 0 u.length
  ·rw [if_pos h1,if_pos h1]
  ·rw [if_neg h1,if_neg h1]
   by_cases h2:W v 0 u.length<W u 0 u.length
   ·rw [if_pos h2,if_pos h2]
   ·rw [if_neg h2,if_neg h2];rfl
 ·have e1:((u.length:Int) != (v.length:Int))=true:=nT (by omega)
  simp only [f7,e1,d8,oB,aEB]
  unfold tZ
  rcases Nat.lt_or_ge u.length v.length with h1|h1
  ·have:=aEd hu hv tv h1
   rw [if_pos (by omega),if_pos this]
  ·have:=aEd hv hu tu (by omega)
   rw [if_neg (by omega),if_pos (by omega),if_neg (by omega),if_pos this]
theorem aC7 {x y:Int} (h1:0≤x) (h2:x<1000000000) (h3:0≤y) (h4:y<1000000000):0≤x*y∧x*y≤999999998000000001:=by
 refine⟨Int.mul_nonneg h1 h3,?_⟩
 have:x*y≤999999999*999999999:=Int.mul_le_mul (by omega) (by omega) h3 (by omega)
 omega
theorem W1 (u:List Int) (j:Nat):W u j 1=u.getD j 0:=by simp [W,PB]
theorem W2 (u:List Int) (j:Nat):W u j 2=u.getD j 0+u.getD (j+1) 0*1000000000:=by simp [W,PB]
theorem vD0:vD []=0:=rfl
theorem vD1 (a:Int):vD [a]=a:=by show W _ 0 1=a;rw [W1];rfl
theorem vD2 (a b:Int):vD [a,b]=a+b*1000000000:=by show W _ 0 2=_;rw [W2];rfl
theorem aAj {u:List Int} (hu:lA u):oL u=some (if u.length≤2 then(vD u,true) else(0,false)):=by
 unfold oL
 have h0:=hu 0
 have h1:=hu 1
 match u,hu with
 |[],_=>simp [vD0]
 |[a],_=>
  have e:=dU (xs:=[a]) (i:=0) (by simp)
  simp only [Int.natCast_zero] at e
  simp [e,vD1]
 |[a,b],_=>
  simp at h0 h1
  have e:=dU (xs:=[a,b]) (i:=0) (by simp)
  have e':=dU (xs:=[a,b]) (i:=1) (by simp)
  simp only [Int.natCast_zero,Int.natCast_one] at e e'
  have f1:bW (b*1000000000)=some (b*1000000000):=oA (by omega)
  have f2:bW (b*1000000000+a)=some (b*1000000000+a):=oA (by omega)
  simp [e,e',vD2,f1,f2]
  omega
 |a::b::c::t,_=>
  have e1:(((a::b::c::t).length:Int)==0)=false:=qF (by simp;omega)
  have e2:(((a::b::c::t).length:Int)==1)=false:=qF (by simp;omega)
  have e3:(((a::b::c::t).length:Int)==2)=false:=qF (by simp;omega)
  simp only [e1,e2,e3,dS]
  rw [if_neg (by simp)]
theorem aKj {x:Int} (h0:0≤x) (h1:x≤18446744073709551615):wu x=x:=IntWalk.u64_in x ⟨h0,h1⟩
theorem aKi {x y:Int} (h0:0≤x) (h1:0<y) (h2:x≤18446744073709551615):uq x y=some (x/y):=by
 unfold uq
 rw [if_neg (by omega),Int.tdiv_eq_ediv_of_nonneg h0]
 have a:=Int.ediv_nonneg h0 (Int.le_of_lt h1)
 have b:=Int.ediv_le_self y h0
 rw [aKj a (by omega)]
theorem aGr {n:Nat} (h0:n≠0) (h:n<1000000000):dD n=[(n:Int)]:=by
 rw [t9 h0,show n/1000000000=0 by omega,w7,show n%1000000000=n by omega]
theorem rL (neg:Bool) {n:Nat} (h:n≤18446744073709551615):fF neg (n:Int)=some (mkG neg n):=by
 unfold fF mkG
 have i64:∀x:Int,0≤x→x≤9223372036854775807→IntKind.i64.wrap x=x:=fun x a b=>IntWalk.i64_in x ⟨by omega,b⟩
 by_cases h0:n=0
 ·subst h0;simp
 ·have e0:((n:Int)==0)=false:=qF (by omega)
  rw [e0,dS,if_neg h0]
  by_cases h1:n<1000000000
  ·rw [dT (by omega),d8,aGr h0 h1,i64 _ (by omega) (by omega)]
  ·rw [dF (by omega),dS,t9 h0]
   have q1:uq (n:Int) 1000000000=some ((n:Int)/1000000000):=aKi (by omega) (by omega) (by omega)
   have r1:vM (n:Int) 1000000000=some ((n:Int)%1000000000):=nR (by omega) (by omega)
   by_cases h2:n<1000000000000000000
   ·rw [dT (by omega),d8]
    simp only [q1,r1,oB]
    rw [aGr (n:=n/1000000000) (by omega) (by omega),i64 _ (by omega) (by omega),i64 _ (by omega) (by omega)]
    simp
   ·rw [dF (by omega),dS]
    have q2:uq ((n:Int)/1000000000) 1000000000=some ((n:Int)/1000000000/1000000000):=aKi (by omega) (by omega) (by omega)
    have r2:vM ((n:Int)/1000000000) 1000000000=some ((n:Int)/1000000000%1000000000):=nR (by omega) (by omega)
    simp only [q1,r1,q2,r2,oB]
    rw [t9 (n:=n/1000000000) (by omega),aGr (n:=n/1000000000/1000000000) (by omega) (by omega),i64 _ (by omega) (by omega),i64 _ (by omega) (by omega),i64 _ (by omega) (by omega)]
    simp
theorem aCT {n:Int} (h:-9223372036854775808≤n∧n≤9223372036854775807):lV n=some (Z n):=by
 unfold lV
 by_cases h0:n<0
 ·rw [dT h0,d8]
  have e1:wu (-(IntKind.u64.wrap n))=((-n).toNat:Int):=by
   show IntKind.u64.wrap (-(IntKind.u64.wrap n))=_
   simp only [IntKind.wrap,IntKind.bits,IntKind.signed]
   simp
   omega
  rw [e1,rL _ (by omega),oB,aGA]
  congr 2;omega
 ·rw [dF h0,dS]
  have e1:IntKind.u64.wrap n=((n.toNat:Nat):Int):=by rw [IntWalk.u64_in n (by omega)];omega
  rw [e1,rL _ (by omega),oB,m6]
  congr 2;omega
theorem Z_d (x:Int):(Z x).d=dD x.natAbs:=rfl
theorem sR (x:Int):(Z x).neg=decide (x<0):=rfl
theorem rE (x:Int):(Z x).d.length=dl x.natAbs:=rfl
theorem aI5 (x:Int):sV (Z x)=some x.sign:=by
 unfold sV
 rw [sR,rE]
 by_cases h:x<0
 ·rw [dT h,d8,Int.sign_eq_neg_one_of_neg h]
 ·rw [dF h,dS]
  by_cases h0:x=0
  ·subst h0;rw [show Int.natAbs 0=0 from rfl,uO];rfl
  ·have:dl x.natAbs≠0:=by rw [Ne,tX];omega
   have e:((dl x.natAbs:Int)==0)=false:=qF (by omega)
   rw [e,dS,Int.sign_eq_one_of_pos (by omega)]
theorem aGu (x:Int):qK (Z x)=some (Z (-x)):=by
 unfold qK
 rw [sR,rE,Z_d]
 unfold Z
 rw [Int.natAbs_neg]
 by_cases h:x<0
 ·have:dl x.natAbs≠0:=by rw [Ne,tX];omega
  rw [dT h,dF (p:=-x<0) (by omega)];rfl
 ·rw [dF h]
  simp only [Bool.not_false,d8]
  congr 2
  by_cases h0:x=0
  ·subst h0;rw [show Int.natAbs 0=0 from rfl,uO];rfl
  ·have:dl x.natAbs≠0:=by rw [Ne,tX];omega
   rw [dT (by omega),dT (by omega)]
theorem aGL {x y:Int} (hx:dl x.natAbs≤50000000000) (hy:dl y.natAbs≤50000000000):Ev (fun K=>mW K (Z x) (Z y)) (Z (x+y)):=by
 have dx:=dA x.natAbs
 have dy:=dA y.natAbs
 have vx:=eH x.natAbs
 have vy:=eH y.natAbs
 have tx:=nE x.natAbs
 have ty:=nE y.natAbs
 have lx:(dD x.natAbs).length≤50000000000:=hx
 have ly:(dD y.natAbs).length≤50000000000:=hy
 unfold mW
 simp only [Z_d,sR]
 by_cases hs:(decide (x<0)==decide (y<0))=true
 ·simp only [hs,d8]
  obtain⟨r,h1,h2,h3,h4⟩:=aFL dx dy (by omega) (by omega)
  have h5:=vI (decide (x<0)) h1 (by omega)
  refine Ev.bind h4 (Ev.bind h5 ?_)
  rw [s5]
  have hs':(x<0)↔(y<0):=by simpa using hs
  have:(if decide (x<0)=true then -(((vD r).toNat:Nat):Int) else(((vD r).toNat:Nat):Int))=x+y:=by
   by_cases h:x<0
   ·rw [if_pos (by simpa using h)];omega
   ·rw [if_neg (by simpa using h)];omega
  rw [this]
  exact Ev.pure _
 ·simp only [Bool.not_eq_true] at hs
  simp only [hs,dS]
  have hs':¬((x<0)↔(y<0)):=by simpa using hs
  refine Ev.bind (wX dx dy tx ty (by omega)) ?_
  rw [vx,vy]
  unfold tZ
  by_cases hlt:x.natAbs<y.natAbs
  ·have hle:(dD x.natAbs).length≤(dD y.natAbs).length:=qD (by omega)
   obtain⟨r,h1,h2,h3,h4⟩:=aBG dy dx hle (by omega) (by omega)
   have h5:=vI (decide (y<0)) h2 (by omega)
   rw [if_pos (by omega)]
   refine Ev.congr (g:=fun K=>(l7 K (dD y.natAbs) (dD x.natAbs)).bind fun v16=>(eX K (decide (y<0)) v16).bind fun v18=>some v18) ?_ (fun K=>rfl)
   refine Ev.bind h4 (Ev.bind h5 ?_)
   rw [s5]
   have:(if decide (y<0)=true then -(((vD r).toNat:Nat):Int) else(((vD r).toNat:Nat):Int))=x+y:=by
    by_cases h:y<0
    ·rw [if_pos (by simpa using h)];omega
    ·rw [if_neg (by simpa using h)];omega
   rw [this]
   exact Ev.pure _
  ·have hle:(dD y.natAbs).length≤(dD x.natAbs).length:=qD (by omega)
   obtain⟨r,h1,h2,h3,h4⟩:=aBG dx dy hle (by omega) (by omega)
   have h5:=vI (decide (x<0)) h2 (by omega)
   have hc:decide ((if(x.natAbs:Int)<y.natAbs then(-1:Int) else if(y.natAbs:Int)<x.natAbs then 1 else 0)<0)=false:=by
    rw [if_neg (by omega)]
    split<;>rfl
   simp only [hc,dS]
   refine Ev.bind h4 (Ev.bind h5 ?_)
   rw [s5]
   have:(if decide (x<0)=true then -(((vD r).toNat:Nat):Int) else(((vD r).toNat:Nat):Int))=x+y:=by
    by_cases h:x<0
    ·rw [if_pos (by simpa using h)];omega
    ·rw [if_neg (by simpa using h)];omega
   rw [this]
   exact Ev.pure _
end Go.Proofs.YtcjdedkdoagifaaGreat
