import Derived.Test.YtcjdedkdoagifaaGreatQ1
set_option linter.unusedVariables false
set_option maxRecDepth 100000
namespace Go.Proofs.YtcjdedkdoagifaaGreat
def mE (K:Nat) (a0:aM) (a1:aK) (a2:Rat):Option Rat:=
 (mA K a0 a1).bind fun v7=>(bQ (-v7)).bind fun v9=>(wP v9 1).bind fun v11=>(yA a1.mu a2).bind fun v13=>(yA v11 v13).bind fun v15=>some v15
theorem rJ {K:Nat} {a0:aM} {a1:aK} {a2:Rat} {r:Rat} (hF:mE K a0 a1 a2=some r):Ct Tryz.prog 72 [.va (aM.enc a0),.va (aK.enc a1),.va (eQ a2)] (.va (eQ r)):=by
 unfold mE at hF
 refine a9 Tryz.func72 rfl (by kernel_rfl) Tryz.ntmps72 rfl (fun w0 M0=>?_)
 refine aD (aE (cV rfl rfl trivial (fun b1=>?_)))
 refine cV rfl rfl trivial (fun b2=>?_)
 refine cV rfl rfl trivial (fun b3=>?_)
 refine bJ rfl tyZ44q (fun b4=>?_)
 refine aC (aA (aD ?_))
 obtain⟨v7,h8,hF⟩:=aO hF
 obtain⟨v9,h10,hF⟩:=aO hF
 obtain⟨v11,h12,hF⟩:=aO hF
 obtain⟨v13,h14,hF⟩:=aO hF
 obtain⟨v15,h16,hF⟩:=aO hF
 refine bP [0,0,3,7,15,0,32,0,255,511,1023] 10 1 [.v (.va (aM.enc a0)),.v (.va (aK.enc a1)),.v (.vc (pI .i64 v7)),.v (.vc (pI .i64 v9)),.v (.va (eQ v11)),.v (.vc (pP (some b2) 10)),.v (.va (eQ a1.mu)),.v (.va (eQ a2)),.v (.va (eQ v13)),.v (.va (eQ v15))] aR ⟨d0 (bD 3 4 rfl rfl rfl rfl (.agg tyA113)) ⟨rfl,trivial⟩,d0 (bD 2 18 rfl rfl rfl rfl (.agg tyA51)) ⟨rfl,trivial⟩,d0 (aG rfl (qB h8) rfl) ⟨rfl,rfl,trivial⟩,d0 (aDu rfl h10) ⟨rfl,trivial⟩,d0 (aG rfl (t7 h12) rfl) ⟨rfl,bC _ _,trivial⟩,d0 (a8 (off:=0) (k:=10) rfl tyF51_7) ⟨rfl,trivial⟩,d0 (bD 2 4 rfl rfl rfl rfl (.agg tyA44)) ⟨rfl,trivial⟩,d0 (bD 1 4 rfl rfl rfl rfl (.agg tyA44)) ⟨rfl,trivial⟩,d0 (aG rfl (oT h14) rfl) ⟨rfl,rfl,trivial⟩,d0 (aG rfl (oT h16) rfl) ⟨rfl,rfl,trivial⟩,trivial⟩ (fun bs6 G5=>?_)
 refine aY (dA 0 rfl rfl rfl tyA44.s) ⟨rfl,rfl,trivial⟩ ?_
 refine aC (aA (aX (aW ?_)))
 obtain rfl:=bX hF
 exact aI (.inl rfl) Tryz.results72 (bM 0 4 rfl rfl rfl rfl (.agg tyA44) .nil) rfl rfl
def qO (a0:List Rat):Option (List Rat):=
 (tB ([]:List Rat) a0).bind fun x9=>some x9
theorem vG {a0:List Rat} {r:List Rat} (hF:qO a0=some r):CtO Tryz.prog 160 [] [.vc (pS cQ a0)] (fun Ho q=>∃b18 c19 n17,r.length=n17∧Ho=[hO cQ b18 c19 44 n17 r]∧q=.vc (pO b18 n17 c19)):=by
 unfold qO at hF
 refine a9 Tryz.func160 rfl (by kernel_rfl) Tryz.ntmps160 rfl (fun w0 M0=>?_)
 refine aD (aE (sA cQ 44 rfl ?_))
 refine aC (aA (aD (aD (aE (aF ?_)))))
 refine aDy rfl Tryz.underlying24 rfl (fun h3=>?_) ?_
 ·skip
  subst h3
  have hF:some ([]:List Rat)=some r:=by simpa [tB] using hF
  refine aC (aA (kT rfl ?_))
  refine aD (aE (sA cQ 44 rfl ?_))
  refine aC (aA (aX (aW ?_)))
  obtain rfl:=bX hF
  exact vH (.inl rfl) Tryz.results160 (.tmp rfl .nil) rfl [0] rfl (by decide) ⟨none,0,0,rfl,rfl,rfl⟩
 refine aC (aA (qG rfl ?_))
 refine aV (aA (aD (aE (aDE (aDk (C:=cQ) (xs:=[]) (ps:=[]) (zs:=([]:List Rat)) rfl tyS24 rfl trivial rfl) trivial (fun b6 _=>?_)))))
 refine aF ?_
 obtain⟨x9,h10,hF⟩:=aO hF
 refine nY 0 rfl tyS24 rfl rfl rfl rfl rfl h10 (fun b11 c12 H13 e14=>?_)
 cases e14
 refine bB ?_
 refine aC (aA (aX (aW ?_)))
 obtain rfl:=bX hF
 exact vH (.inl rfl) Tryz.results160 (.tmp rfl .nil) rfl [0] rfl (by decide) ⟨b11,c12,(0+a0.length),(gB h10 rfl),rfl,rfl⟩
def jZ (K:Nat) (x46:List Rat):Option (List Rat):=
 some x46
def gQ (K:Nat) (a0:aM):Nat→(List Rat)→Int→Option (List Rat)
 |0,_,_=>none
 |k+1,x39,x45=>bif(decide (x45<(a0.dofs.length:Int))) then((dO a0.dofs x45).bind fun v55=>(dO x39 x45).bind fun v60=>(yA v60 v55.inv).bind fun v62=>(dO x39 x45).bind fun v64=>(n8 x39 x45 v62).bind fun x66=>(bQ (x45+1)).bind fun v69=>gQ K a0 k x66 v69) else(some x39)
def kA (K:Nat) (a0:aM) (x24:List Rat):Option (List Rat):=
 (gQ K a0 K x24 0).bind fun x46=>jZ K x46
def jM (K:Nat) (x23:Int) (recl30:(List Rat)→Int→Option (List Rat)) (x111:List Rat):Option (List Rat):=
 (bQ (x23+1)).bind fun v119=>recl30 x111 v119
def gM (K:Nat) (a2:List aS) (x23:Int) (v72:aK):Nat→(List Rat)→Int→Option (List Rat)
 |0,_,_=>none
 |k+1,x104,x110=>bif(decide (x110<(v72.t.length:Int))) then((dO v72.t x110).bind fun v122=>(dO x104 v122.dof).bind fun v127=>(dO a2 x23).bind fun v129=>(yA v122.k v129.f).bind fun v131=>(zD v127 v131).bind fun v133=>(dO x104 v122.dof).bind fun v135=>(n8 x104 v122.dof v133).bind fun x137=>(bQ (x110+1)).bind fun v140=>gM K a2 x23 v72 k x137 v140) else(some x104)
def kB (K:Nat) (a2:List aS) (x23:Int) (v72:aK) (recl30:(List Rat)→Int→Option (List Rat)) (x89:List Rat):Option (List Rat):=
 (gM K a2 x23 v72 K x89 0).bind fun x111=>jM K x23 recl30 x111
def gP (K:Nat) (a2:List aS) (x23:Int) (v72:aK):Nat→(List Rat)→Int→Option (List Rat)
 |0,_,_=>none
 |k+1,x82,x88=>bif(decide (x88<(v72.j.length:Int))) then((dO v72.j x88).bind fun v143=>(dO x82 v143.dof).bind fun v148=>(dO a2 x23).bind fun v150=>(yA v143.k v150.n).bind fun v152=>(zD v148 v152).bind fun v154=>(dO x82 v143.dof).bind fun v156=>(n8 x82 v143.dof v154).bind fun x158=>(bQ (x88+1)).bind fun v161=>gP K a2 x23 v72 k x158 v161) else(some x82)
def eD (K:Nat) (a0:aM) (a2:List aS):Nat→(List Rat)→Int→Option (List Rat)
 |0,_,_=>none
 |k+1,x17,x23=>bif(decide (x23<(a0.rows.length:Int))) then((dO a0.rows x23).bind fun v72=>(gP K a2 x23 v72 K x17 0).bind fun x89=>kB K a2 x23 v72 (eD K a0 a2 k) x89) else(some x17)
def cF (K:Nat) (a0:aM) (a1:List Rat) (a2:List aS):Option (List Rat):=
 (qO a1).bind fun v2=>(eD K a0 a2 K v2 0).bind fun x24=>kA K a0 x24
theorem cT {K:Nat} {a0:aM} {a1:List Rat} {a2:List aS} {r:List Rat} (hF:cF K a0 a1 a2=some r):Ct Tryz.prog 74 [.va (aM.enc a0),.vc (pS cQ a1),.vc (pS aS.cod a2)] (.vc (pS cQ r)):=by
 unfold cF at hF
 refine a9 Tryz.func74 rfl (by kernel_rfl) Tryz.ntmps74 rfl (fun w0 M0=>?_)
 refine aD (aE (cV rfl rfl trivial (fun b1=>?_)))
 refine aB (aL (.inr rfl)) ⟨eJ cQ,trivial⟩ ?_
 refine aC (aA (aD (aE (aF ?_))))
 obtain⟨v2,h3,hF⟩:=aO hF
 refine zH [] [0] rfl (vG h3) ⟨rfl,trivial⟩ rfl rfl (by decide) ?_
 rintro _ _ ⟨b5,c6,n7,q8,rfl,rfl⟩
 refine bB ?_
 refine aC (aA (aD (aD (aE (aB (a8 (off:=0) (k:=3) rfl tyF113_3) ⟨rfl,trivial⟩ ?_)))))
 refine aB (bD 1 1 rfl rfl rfl rfl (.one tyO25)) ⟨rfl,trivial⟩ ?_
 refine aB (bZ rfl tyS25) ⟨rfl,trivial⟩ ?_
 refine aB (aL (.inl rfl)) ⟨bC _ _,trivial⟩ ?_
 refine aC (aA (bN (cL (fun H E=>∃(x24:List Rat),kA K a0 x24=some r∧x24.length=n7∧H=[hO cQ b5 c6 44 n7 x24,⟨some b1,1,113,4,1,(aM.enc a0)⟩]∧E=[(3,.vc (pP (some b1) 0)),(7,.vc (pO b5 n7 c6))]) ?_ (fun Jj31=>?_))))
 ·rintro _ _ ⟨x24,hF,q28,rfl,rfl⟩
  unfold kA at hF
  refine aA (aD (aD (aE (aB (a8 (off:=0) (k:=0) rfl tyF113_0) ⟨rfl,trivial⟩ ?_))))
  refine aB (bD 1 1 rfl rfl rfl rfl (.one tyO23)) ⟨rfl,trivial⟩ ?_
  refine aB (bZ rfl tyS23) ⟨rfl,trivial⟩ ?_
  refine aB (aL (.inl rfl)) ⟨bC _ _,trivial⟩ ?_
  refine aC (aA (bN (cL (fun H E=>∃(x46:List Rat),jZ K x46=some r∧x46.length=n7∧H=[hO cQ b5 c6 44 n7 x46]∧E=[(7,.vc (pO b5 n7 c6))]) ?_ (fun Jj53=>?_))))
  ·rintro _ _ ⟨x46,hF,q50,rfl,rfl⟩
   unfold jZ at hF
   refine aA (aD (aE (aF ?_)))
   refine bB ?_
   refine aC (aA (aX (aW (t5 0 [6,7,98] rfl q50 ⟨rfl,rfl,rfl,trivial⟩ rfl ?_))))
   obtain rfl:=bX hF
   exact aI (.inl rfl) Tryz.results74 (.tmp rfl .nil) rfl rfl
  obtain⟨x46',hL,hRl52⟩:=aO hF
  refine gY (fun k a w=>∃(x39:List Rat),∃(x45:Int),gQ K a0 k x39 x45=some x46'∧x39.length=n7∧hs _ [hO cQ b5 c6 44 n7 x39] [(7,.vc (pO b5 n7 c6)),(80,.vc (pS bE.cod a0.dofs)),(81,.vc (pI .i64 (a0.dofs.length:Int))),(82,.vc (pI .i64 x45))] a w) K (fun a w ⟨_,_,hF,_,_⟩=>by cases hF) (fun k a w ⟨x39,x45,hF,q43,hh⟩=>gX ?_ hh) (fun a w hh=>⟨x24,0,hL,q28,bA [0] rfl (by decide) (by exact⟨rfl,rfl,rfl,rfl,trivial⟩) hh⟩)
  rw [gQ.eq_2] at hF
  refine aD (aE (aB (dQ rfl) ⟨rfl,rfl,trivial⟩ ?_))
  refine aC (aA (aD (bO rfl (fun h54=>?_) (fun h54=>?_))))
  ·have hF:=aT h54 hF
   refine aV (aA (aD (bN (aD (aE (aF ?_))))))
   obtain⟨v55,h56,hF⟩:=aO hF
   refine aB (dX rfl tyS23 h56) ⟨rfl,rfl,trivial⟩ ?_
   refine aB (dM 17 rfl rfl (.agg tyA108)) ⟨rfl,trivial⟩ ?_
   refine bJ rfl tyZ108q (fun b57=>?_)
   refine bB ?_
   refine aY (dA 0 rfl rfl rfl tyA108.s) ⟨rfl,rfl,trivial⟩ ?_
   refine aC (aA ?_)
   obtain⟨v60,h61,hF⟩:=aO hF
   obtain⟨v62,h63,hF⟩:=aO hF
   obtain⟨v64,h65,hF⟩:=aO hF
   refine bP [0,0,0,0,12,28,0,64,252,511,1023] 10 1 [.v (.vc (pO b5 n7 c6)),.v (.vc (pI .i64 x45)),.v (.vc (pO b5 n7 c6)),.v (.vc (pI .i64 x45)),.v (.vc (pE b5 x45 cQ.n 0)),.v (.va (eQ v60)),.v (.vc (pP (some b57) 0)),.v (.va (eQ v55.inv)),.v (.va (eQ v62)),.v (.vc (pE b5 x45 cQ.n 0))] aR ⟨d0 (aL (.inl rfl)) ⟨rfl,trivial⟩,d0 (aL (.inl rfl)) ⟨rfl,trivial⟩,d0 (aL (.inl rfl)) ⟨rfl,trivial⟩,d0 (aL (.inl rfl)) ⟨rfl,trivial⟩,d0 (cE (C:=cQ) 1 rfl tyS24 rfl q43 (aN h61).1 (aN h61).2.1) ⟨rfl,rfl,trivial⟩,d0 (gA (k:=4) 1 rfl rfl h61 rfl (.agg tyA44) rfl) ⟨rfl,trivial⟩,d0 (a8 (off:=0) (k:=0) rfl tyF108_0) ⟨rfl,trivial⟩,d0 (bD 0 4 rfl rfl rfl rfl (.agg tyA44)) ⟨rfl,trivial⟩,d0 (aG rfl (oT h63) rfl) ⟨rfl,rfl,trivial⟩,d0 (cE (C:=cQ) 1 rfl tyS24 rfl q43 (aN h65).1 (aN h65).2.1) ⟨rfl,rfl,trivial⟩,trivial⟩ (fun bs59 G58=>?_)
   obtain⟨x66,h67,hF⟩:=aO hF
   refine aY (fL 1 rfl rfl h65 h67 tyA44.s) ⟨rfl,rfl,trivial⟩ ?_
   refine aC (bF (aA (aE ?_)))
   obtain⟨v69,h70,hF⟩:=aO hF
   refine aB (bI rfl h70) ⟨rfl,bC _ _,trivial⟩ ?_
   refine aF ?_
   refine aC ?_
   exact bG (fun a w hh=>⟨x66,v69,hF,(b0 h67 q43),bA [1] rfl (by decide) (by exact⟨rfl,rfl,rfl,rfl,trivial⟩) hh⟩)
  have hF:=aU h54 hF
  refine dE ?_
  obtain rfl:=bX hF
  exact bS Jj53 ⟨x39,hRl52,q43,rfl,rfl⟩ [0] rfl ⟨rfl,trivial⟩
 obtain⟨x24',hL,hRl30⟩:=aO hF
 refine gY (fun k a w=>∃(x17:List Rat),∃(x23:Int),eD K a0 a2 k x17 x23=some x24'∧x17.length=n7∧hs _ [hO cQ b5 c6 44 n7 x17,⟨some b1,1,113,4,1,(aM.enc a0)⟩] [(2,.vc (pS aS.cod a2)),(3,.vc (pP (some b1) 0)),(7,.vc (pO b5 n7 c6)),(19,.vc (pS aK.cod a0.rows)),(20,.vc (pI .i64 (a0.rows.length:Int))),(21,.vc (pI .i64 x23))] a w) K (fun a w ⟨_,_,hF,_,_⟩=>by cases hF) (fun k a w ⟨x17,x23,hF,q21,hh⟩=>gX ?_ hh) (fun a w hh=>⟨v2,0,hL,q8,bA [0,1] rfl (by decide) (by exact⟨rfl,rfl,rfl,rfl,rfl,rfl,trivial⟩) hh⟩)
 rw [eD.eq_2] at hF
 refine aD (aE (aB (dQ rfl) ⟨rfl,rfl,trivial⟩ ?_))
 refine aC (aA (aD (bO rfl (fun h71=>?_) (fun h71=>?_))))
 ·have hF:=aT h71 hF
  refine aV (aA (aD (bN (aD (aE (aF ?_))))))
  obtain⟨v72,h73,hF⟩:=aO hF
  refine aB (dX rfl tyS25 h73) ⟨rfl,rfl,trivial⟩ ?_
  refine aB (dM 18 rfl rfl (.agg tyA51)) ⟨rfl,trivial⟩ ?_
  refine bJ rfl tyZ51q (fun b74=>?_)
  refine bB ?_
  refine aY (dA 0 rfl rfl rfl tyA51.s) ⟨rfl,rfl,trivial⟩ ?_
  refine aC (aA (aD (aD (aE (aB (a8 (off:=0) (k:=8) rfl tyF51_5) ⟨rfl,trivial⟩ ?_)))))
  refine aB (bD 0 1 rfl rfl rfl rfl (.one tyO49)) ⟨rfl,trivial⟩ ?_
  refine aB (bZ rfl tyS49) ⟨rfl,trivial⟩ ?_
  refine aB (aL (.inl rfl)) ⟨bC _ _,trivial⟩ ?_
  refine aC (aA (bN (cL (fun H E=>∃(x89:List Rat),kB K a2 x23 v72 (eD K a0 a2 k) x89=some x24'∧x89.length=n7∧H=[⟨some b74,1,51,18,1,(aK.enc v72)⟩,hO cQ b5 c6 44 n7 x89,⟨some b1,1,113,4,1,(aM.enc a0)⟩]∧E=[(2,.vc (pS aS.cod a2)),(3,.vc (pP (some b1) 0)),(7,.vc (pO b5 n7 c6)),(8,.vc (pI .i64 x23)),(9,.vc (pP (some b74) 0)),(19,.vc (pS aK.cod a0.rows)),(20,.vc (pI .i64 (a0.rows.length:Int))),(21,.vc (pI .i64 x23))]) ?_ (fun Jj96=>?_))))
  ·rintro _ _ ⟨x89,hF,q93,rfl,rfl⟩
   unfold kB at hF
   refine aA (aD (aE (aB (a8 (off:=0) (k:=9) rfl tyF51_6) ⟨rfl,trivial⟩ ?_)))
   refine aB (bD 0 1 rfl rfl rfl rfl (.one tyO49)) ⟨rfl,trivial⟩ ?_
   refine aB (bZ rfl tyS49) ⟨rfl,trivial⟩ ?_
   refine aB (aL (.inl rfl)) ⟨bC _ _,trivial⟩ ?_
   refine aC (aA (bN (cL (fun H E=>∃(x111:List Rat),jM K x23 (eD K a0 a2 k) x111=some x24'∧x111.length=n7∧H=[hO cQ b5 c6 44 n7 x111,⟨some b1,1,113,4,1,(aM.enc a0)⟩]∧E=[(2,.vc (pS aS.cod a2)),(3,.vc (pP (some b1) 0)),(7,.vc (pO b5 n7 c6)),(19,.vc (pS aK.cod a0.rows)),(20,.vc (pI .i64 (a0.rows.length:Int))),(21,.vc (pI .i64 x23))]) ?_ (fun Jj118=>?_))))
   ·rintro _ _ ⟨x111,hF,q115,rfl,rfl⟩
    unfold jM at hF
    refine bF (aA (aE ?_))
    obtain⟨v119,h120,hF⟩:=aO hF
    refine aB (bI rfl h120) ⟨rfl,bC _ _,trivial⟩ ?_
    refine aF ?_
    refine aC ?_
    exact bG (fun a w hh=>⟨x111,v119,hF,q115,bA [0,1] rfl (by decide) (by exact⟨rfl,rfl,rfl,rfl,rfl,rfl,trivial⟩) hh⟩)
   obtain⟨x111',hL,hRl117⟩:=aO hF
   refine gY (fun k a w=>∃(x104:List Rat),∃(x110:Int),gM K a2 x23 v72 k x104 x110=some x111'∧x104.length=n7∧hs _ [hO cQ b5 c6 44 n7 x104,⟨some b1,1,113,4,1,(aM.enc a0)⟩] [(2,.vc (pS aS.cod a2)),(3,.vc (pP (some b1) 0)),(7,.vc (pO b5 n7 c6)),(8,.vc (pI .i64 x23)),(19,.vc (pS aK.cod a0.rows)),(20,.vc (pI .i64 (a0.rows.length:Int))),(21,.vc (pI .i64 x23)),(53,.vc (pS aQ.cod v72.t)),(54,.vc (pI .i64 (v72.t.length:Int))),(55,.vc (pI .i64 x110))] a w) K (fun a w ⟨_,_,hF,_,_⟩=>by cases hF) (fun k a w ⟨x104,x110,hF,q108,hh⟩=>gX ?_ hh) (fun a w hh=>⟨x89,0,hL,q93,bA [1,2] rfl (by decide) (by exact⟨rfl,rfl,rfl,rfl,rfl,rfl,rfl,rfl,rfl,rfl,trivial⟩) hh⟩)
   rw [gM.eq_2] at hF
   refine aD (aE (aB (dQ rfl) ⟨rfl,rfl,trivial⟩ ?_))
   refine aC (aA (aD (bO rfl (fun h121=>?_) (fun h121=>?_))))
   ·have hF:=aT h121 hF
    refine aV (aA (aD (bN (aD (aE ?_)))))
    obtain⟨v122,h123,hF⟩:=aO hF
    refine aB (dX rfl tyS49 h123) ⟨rfl,rfl,trivial⟩ ?_
    refine aB (dM 5 rfl rfl (.agg tyA92)) ⟨rfl,trivial⟩ ?_
    refine bJ rfl tyZ92q (fun b124=>?_)
    refine aY (dA 0 rfl rfl rfl tyA92.s) ⟨rfl,rfl,trivial⟩ ?_
    refine aC (aA ?_)
    obtain⟨v127,h128,hF⟩:=aO hF
    obtain⟨v129,h130,hF⟩:=aO hF
    obtain⟨v131,h132,hF⟩:=aO hF
    obtain⟨v133,h134,hF⟩:=aO hF
    obtain⟨v135,h136,hF⟩:=aO hF
    refine bP [0,0,2,0,0,16,56,120,0,256,0,0,3072,7168,15360,32512,65528,131071,262143] 18 1 [.v (.vc (pO b5 n7 c6)),.v (.vc (pP (some b124) 0)),.v (.vc (pI .i64 v122.dof)),.v (.vc (pO b5 n7 c6)),.v (.vc (pP (some b124) 0)),.v (.vc (pI .i64 v122.dof)),.v (.vc (pE b5 v122.dof cQ.n 0)),.v (.va (eQ v127)),.v (.vc (pP (some b124) 1)),.v (.va (eQ v122.k)),.v (.vc (pS aS.cod a2)),.v (.vc (pI .i64 x23)),.v (.vc (pM (aS.cod.e v129))),.v (.vc (pM ((aS.cod.e v129).drop 4))),.v (.va (eQ v129.f)),.v (.va (eQ v131)),.v (.va (eQ v133)),.v (.vc (pE b5 v122.dof cQ.n 0))] aR ⟨d0 (aL (.inl rfl)) ⟨rfl,trivial⟩,d0 (a8 (off:=0) (k:=0) rfl tyF92_0) ⟨rfl,trivial⟩,d0 (bD 0 1 rfl rfl rfl rfl (.one tyO3)) ⟨rfl,trivial⟩,d0 (aL (.inl rfl)) ⟨rfl,trivial⟩,d0 (a8 (off:=0) (k:=0) rfl tyF92_0) ⟨rfl,trivial⟩,d0 (bD 0 1 rfl rfl rfl rfl (.one tyO3)) ⟨rfl,trivial⟩,d0 (cE (C:=cQ) 1 rfl tyS24 rfl q108 (aN h128).1 (aN h128).2.1) ⟨rfl,rfl,trivial⟩,d0 (gA (k:=4) 1 rfl rfl h128 rfl (.agg tyA44) rfl) ⟨rfl,trivial⟩,d0 (a8 (off:=0) (k:=1) rfl tyF92_1) ⟨rfl,trivial⟩,d0 (bD 0 4 rfl rfl rfl rfl (.agg tyA44)) ⟨rfl,trivial⟩,d0 (aL (.inl rfl)) ⟨rfl,trivial⟩,d0 (aL (.inl rfl)) ⟨rfl,trivial⟩,d0 (dX rfl tyS29 h130) ⟨rfl,rfl,trivial⟩,d0 (tC (ps:=(aS.cod.e v129)) (k:=4) rfl tyF58_1) ⟨rfl,trivial⟩,d0 (dM 4 rfl rfl (.agg tyA44)) ⟨rfl,trivial⟩,d0 (aG rfl (oT h132) rfl) ⟨rfl,rfl,trivial⟩,d0 (aG rfl (rV h134) rfl) ⟨rfl,rfl,trivial⟩,d0 (cE (C:=cQ) 1 rfl tyS24 rfl q108 (aN h136).1 (aN h136).2.1) ⟨rfl,rfl,trivial⟩,trivial⟩ (fun bs126 G125=>?_)
    obtain⟨x137,h138,hF⟩:=aO hF
    refine aY (fL 1 rfl rfl h136 h138 tyA44.s) ⟨rfl,rfl,trivial⟩ ?_
    refine aC (bF (aA (aE ?_)))
    obtain⟨v140,h141,hF⟩:=aO hF
    refine aB (bI rfl h141) ⟨rfl,bC _ _,trivial⟩ ?_
    refine aF ?_
    refine aC ?_
    exact bG (fun a w hh=>⟨x137,v140,hF,(b0 h138 q108),bA [1,2] rfl (by decide) (by exact⟨rfl,rfl,rfl,rfl,rfl,rfl,rfl,rfl,rfl,rfl,trivial⟩) hh⟩)
   have hF:=aU h121 hF
   refine dE ?_
   obtain rfl:=bX hF
   exact bS Jj118 ⟨x104,hRl117,q108,rfl,rfl⟩ [0,1] rfl ⟨rfl,rfl,rfl,rfl,rfl,rfl,trivial⟩
  obtain⟨x89',hL,hRl95⟩:=aO hF
  refine gY (fun k a w=>∃(x82:List Rat),∃(x88:Int),gP K a2 x23 v72 k x82 x88=some x89'∧x82.length=n7∧hs _ [⟨some b74,1,51,18,1,(aK.enc v72)⟩,hO cQ b5 c6 44 n7 x82,⟨some b1,1,113,4,1,(aM.enc a0)⟩] [(2,.vc (pS aS.cod a2)),(3,.vc (pP (some b1) 0)),(7,.vc (pO b5 n7 c6)),(8,.vc (pI .i64 x23)),(9,.vc (pP (some b74) 0)),(19,.vc (pS aK.cod a0.rows)),(20,.vc (pI .i64 (a0.rows.length:Int))),(21,.vc (pI .i64 x23)),(27,.vc (pS aQ.cod v72.j)),(28,.vc (pI .i64 (v72.j.length:Int))),(29,.vc (pI .i64 x88))] a w) K (fun a w ⟨_,_,hF,_,_⟩=>by cases hF) (fun k a w ⟨x82,x88,hF,q86,hh⟩=>gX ?_ hh) (fun a w hh=>⟨x17,0,hL,q21,bA [0,1,2] rfl (by decide) (by exact⟨rfl,rfl,rfl,rfl,rfl,rfl,rfl,rfl,rfl,rfl,rfl,trivial⟩) hh⟩)
  rw [gP.eq_2] at hF
  refine aD (aE (aB (dQ rfl) ⟨rfl,rfl,trivial⟩ ?_))
  refine aC (aA (aD (bO rfl (fun h142=>?_) (fun h142=>?_))))
  ·have hF:=aT h142 hF
   refine aV (aA (aD (bN (aD (aE ?_)))))
   obtain⟨v143,h144,hF⟩:=aO hF
   refine aB (dX rfl tyS49 h144) ⟨rfl,rfl,trivial⟩ ?_
   refine aB (dM 5 rfl rfl (.agg tyA92)) ⟨rfl,trivial⟩ ?_
   refine bJ rfl tyZ92q (fun b145=>?_)
   refine aY (dA 0 rfl rfl rfl tyA92.s) ⟨rfl,rfl,trivial⟩ ?_
   refine aC (aA ?_)
   obtain⟨v148,h149,hF⟩:=aO hF
   obtain⟨v150,h151,hF⟩:=aO hF
   obtain⟨v152,h153,hF⟩:=aO hF
   obtain⟨v154,h155,hF⟩:=aO hF
   obtain⟨v156,h157,hF⟩:=aO hF
   refine bP [0,0,2,0,0,16,56,120,0,256,0,0,3072,7168,15360,32512,65528,131071,262143] 18 1 [.v (.vc (pO b5 n7 c6)),.v (.vc (pP (some b145) 0)),.v (.vc (pI .i64 v143.dof)),.v (.vc (pO b5 n7 c6)),.v (.vc (pP (some b145) 0)),.v (.vc (pI .i64 v143.dof)),.v (.vc (pE b5 v143.dof cQ.n 0)),.v (.va (eQ v148)),.v (.vc (pP (some b145) 1)),.v (.va (eQ v143.k)),.v (.vc (pS aS.cod a2)),.v (.vc (pI .i64 x23)),.v (.vc (pM (aS.cod.e v150))),.v (.vc (pM (aS.cod.e v150))),.v (.va (eQ v150.n)),.v (.va (eQ v152)),.v (.va (eQ v154)),.v (.vc (pE b5 v143.dof cQ.n 0))] aR ⟨d0 (aL (.inl rfl)) ⟨rfl,trivial⟩,d0 (a8 (off:=0) (k:=0) rfl tyF92_0) ⟨rfl,trivial⟩,d0 (bD 0 1 rfl rfl rfl rfl (.one tyO3)) ⟨rfl,trivial⟩,d0 (aL (.inl rfl)) ⟨rfl,trivial⟩,d0 (a8 (off:=0) (k:=0) rfl tyF92_0) ⟨rfl,trivial⟩,d0 (bD 0 1 rfl rfl rfl rfl (.one tyO3)) ⟨rfl,trivial⟩,d0 (cE (C:=cQ) 2 rfl tyS24 rfl q86 (aN h149).1 (aN h149).2.1) ⟨rfl,rfl,trivial⟩,d0 (gA (k:=4) 2 rfl rfl h149 rfl (.agg tyA44) rfl) ⟨rfl,trivial⟩,d0 (a8 (off:=0) (k:=1) rfl tyF92_1) ⟨rfl,trivial⟩,d0 (bD 0 4 rfl rfl rfl rfl (.agg tyA44)) ⟨rfl,trivial⟩,d0 (aL (.inl rfl)) ⟨rfl,trivial⟩,d0 (aL (.inl rfl)) ⟨rfl,trivial⟩,d0 (dX rfl tyS29 h151) ⟨rfl,rfl,trivial⟩,d0 (tC (ps:=(aS.cod.e v150)) (k:=0) rfl tyF58_0) ⟨rfl,trivial⟩,d0 (dM 4 rfl rfl (.agg tyA44)) ⟨rfl,trivial⟩,d0 (aG rfl (oT h153) rfl) ⟨rfl,rfl,trivial⟩,d0 (aG rfl (rV h155) rfl) ⟨rfl,rfl,trivial⟩,d0 (cE (C:=cQ) 2 rfl tyS24 rfl q86 (aN h157).1 (aN h157).2.1) ⟨rfl,rfl,trivial⟩,trivial⟩ (fun bs147 G146=>?_)
   obtain⟨x158,h159,hF⟩:=aO hF
   refine aY (fL 2 rfl rfl h157 h159 tyA44.s) ⟨rfl,rfl,trivial⟩ ?_
   refine aC (bF (aA (aE ?_)))
   obtain⟨v161,h162,hF⟩:=aO hF
   refine aB (bI rfl h162) ⟨rfl,bC _ _,trivial⟩ ?_
   refine aF ?_
   refine aC ?_
   exact bG (fun a w hh=>⟨x158,v161,hF,(b0 h159 q86),bA [1,2,3] rfl (by decide) (by exact⟨rfl,rfl,rfl,rfl,rfl,rfl,rfl,rfl,rfl,rfl,rfl,trivial⟩) hh⟩)
  have hF:=aU h142 hF
  refine dE ?_
  obtain rfl:=bX hF
  exact bS Jj96 ⟨x82,hRl95,q86,rfl,rfl⟩ [0,1,2] rfl ⟨rfl,rfl,rfl,rfl,rfl,rfl,rfl,rfl,trivial⟩
 have hF:=aU h71 hF
 refine dE ?_
 obtain rfl:=bX hF
 exact bS Jj31 ⟨x17,hRl30,q21,rfl,rfl⟩ [0,1] rfl ⟨rfl,rfl,trivial⟩
def iV (c0:List Rat) (a0:Int) (a1:Rat):Option (List Rat):=
 (dO c0 a0).bind fun v8=>(n8 c0 a0 a1).bind fun x10=>some x10
theorem mO {c0:List Rat} {a0:Int} {a1:Rat} {r:List Rat} (hF:iV c0 a0 a1=some r) {p0:Nat} {b3:Option Nat} {c4 n2:Nat} (q5:c0.length=n2):CtO Tryz.prog 157 [⟨some p0,1,24,1,1,[pO b3 n2 c4]⟩,hO cQ b3 c4 44 n2 c0] [.vc (pI .i64 a0),.va (eQ a1),.vc (pP (some p0) 0)] (fun Ho q=>∃b15 c16 n14,r.length=n14∧Ho=[⟨some p0,1,24,1,1,[pO b15 n14 c16]⟩,hO cQ b15 c16 44 n14 r]∧q=.any):=by
 unfold iV at hF
 refine a9 Tryz.func157 rfl (by kernel_rfl) Tryz.ntmps157 rfl (fun w0 M0=>?_)
 refine aD (aE (cV rfl rfl trivial (fun b7=>?_)))
 refine aC (aA (aE (aB (bD 1 1 rfl rfl rfl rfl (.one tyO24)) ⟨rfl,trivial⟩ ?_)))
 refine aF ?_
 refine aB (bD 0 4 rfl rfl rfl rfl (.agg tyA44)) ⟨rfl,trivial⟩ ?_
 obtain⟨v8,h9,hF⟩:=aO hF
 refine aB (cE (C:=cQ) 2 rfl tyS24 rfl q5 (aN h9).1 (aN h9).2.1) ⟨rfl,rfl,trivial⟩ ?_
 obtain⟨x10,h11,hF⟩:=aO hF
 refine aY (fL 2 rfl rfl h9 h11 tyA44.s) ⟨rfl,rfl,trivial⟩ ?_
 refine aC ?_
 obtain rfl:=bX hF
 exact vH (.inr rfl) Tryz.results157 .nil rfl [1,2] rfl (by decide) ⟨b3,c4,n2,(b0 h11 q5),rfl,rfl⟩
def qA (a0:List aS):Option (List aS):=
 (tB ([]:List aS) a0).bind fun x9=>some x9
theorem uZ {a0:List aS} {r:List aS} (hF:qA a0=some r):CtO Tryz.prog 158 [] [.vc (pS aS.cod a0)] (fun Ho q=>∃b18 c19 n17,r.length=n17∧Ho=[hO aS.cod b18 c19 58 n17 r]∧q=.vc (pO b18 n17 c19)):=by
 unfold qA at hF
 refine a9 Tryz.func158 rfl (by kernel_rfl) Tryz.ntmps158 rfl (fun w0 M0=>?_)
 refine aD (aE (sA aS.cod 58 rfl ?_))
 refine aC (aA (aD (aD (aE (aF ?_)))))
 refine aDy rfl Tryz.underlying29 rfl (fun h3=>?_) ?_
 ·skip
  subst h3
  have hF:some ([]:List aS)=some r:=by simpa [tB] using hF
  refine aC (aA (kT rfl ?_))
  refine aD (aE (sA aS.cod 58 rfl ?_))
  refine aC (aA (aX (aW ?_)))
  obtain rfl:=bX hF
  exact vH (.inl rfl) Tryz.results158 (.tmp rfl .nil) rfl [0] rfl (by decide) ⟨none,0,0,rfl,rfl,rfl⟩
 refine aC (aA (qG rfl ?_))
 refine aV (aA (aD (aE (aDE (aDk (C:=aS.cod) (xs:=[]) (ps:=[]) (zs:=([]:List aS)) rfl tyS29 rfl trivial rfl) trivial (fun b6 _=>?_)))))
 refine aF ?_
 obtain⟨x9,h10,hF⟩:=aO hF
 refine nY 0 rfl tyS29 rfl rfl rfl rfl rfl h10 (fun b11 c12 H13 e14=>?_)
 cases e14
 refine bB ?_
 refine aC (aA (aX (aW ?_)))
 obtain rfl:=bX hF
 exact vH (.inl rfl) Tryz.results158 (.tmp rfl .nil) rfl [0] rfl (by decide) ⟨b11,c12,(0+a0.length),(gB h10 rfl),rfl,rfl⟩
def iX (c0:(List Nat×List (List Rat))) (c1:Int) (a0:Int) (a1:Rat):Option (List Nat×List (List Rat)):=
 (dO c0.1 a0).bind fun v17=>(dO c0.1 a0).bind fun v19=>(dO (c0.2.getD v19 []) c1).bind fun v21=>(zD v21 a1).bind fun v23=>(dO (c0.2.getD v17 []) c1).bind fun v25=>(n8 (c0.2.getD v17 []) c1 v23).bind fun x27=>some (c0.1,(c0.2.set v17 x27))
theorem mN {c0:(List Nat×List (List Rat))} {c1:Int} {a0:Int} {a1:Rat} {r:(List Nat×List (List Rat))} (hF:iX c0 c1 a0 a1=some r) {p0:Nat} {b5:Option Nat} {c6 n4:Nat} {g3:List rY} {N9:Nat} (q7:c0.1.length=n4) (q10:c0.2.length=N9) (q11:jW g3 c0.2) (q12:(∀k∈c0.1,k<N9)):CtO Tryz.prog 159 ([⟨some p0,1,62,1,1,[pO b5 n4 c6]⟩,hO (cH g3) b5 c6 24 n4 c0.1]++gO cQ 44 g3 c0.2) [.vc (pI .i64 a0),.va (eQ a1),.vc (pP (some p0) 0),.vc (pM (cI.e c1))] (fun Ho q=>∃b34 c35 n33 g32 N38,r.1.length=n33∧r.2.length=N38∧jW g32 r.2∧(∀k∈r.1,k<N38)∧Ho=([⟨some p0,1,62,1,1,[pO b34 n33 c35]⟩,hO (cH g32) b34 c35 24 n33 r.1]++gO cQ 44 g32 r.2)∧q=.any):=by
 unfold iX at hF
 refine a9 Tryz.func159 rfl (by kernel_rfl) Tryz.ntmps159 rfl (fun w0 M0=>?_)
 refine aD (aE (cV rfl rfl trivial (fun b14=>?_)))
 refine aC (aA ?_)
 obtain⟨v17,h18,hF⟩:=aO hF
 obtain⟨v19,h20,hF⟩:=aO hF
 obtain⟨v21,h22,hF⟩:=aO hF
 obtain⟨v23,h24,hF⟩:=aO hF
 obtain⟨v25,h26,hF⟩:=aO hF
 refine bP [0,0,3,7,0,0,0,96,224,0,992,2016,0,8160,16383,32767] 15 1 [.v (.vc (pO b5 n4 c6)),.v (.vc (pI .i64 a0)),.v (.vc (pE b5 a0 (cH g3).n 0)),.v (.vc (pO (iC g3 v17).1 (iC g3 v17).2.1 (iC g3 v17).2.2)),.v (.vc (pI .i64 c1)),.v (.vc (pO b5 n4 c6)),.v (.vc (pI .i64 a0)),.v (.vc (pE b5 a0 (cH g3).n 0)),.v (.vc (pO (iC g3 v19).1 (iC g3 v19).2.1 (iC g3 v19).2.2)),.v (.vc (pI .i64 c1)),.v (.vc (pE (iC g3 v19).1 c1 cQ.n 0)),.v (.va (eQ v21)),.v (.va (eQ a1)),.v (.va (eQ v23)),.v (.vc (pE (iC g3 v17).1 c1 cQ.n 0))] aR ⟨d0 (bD 1 1 rfl rfl rfl rfl (.one tyO62)) ⟨rfl,trivial⟩,d0 (aL (.inl rfl)) ⟨rfl,trivial⟩,d0 (cE (C:=(cH g3)) 2 rfl tyS62 rfl q7 (aN h18).1 (aN h18).2.1) ⟨rfl,rfl,trivial⟩,d0 (gA (C:=(cH g3)) (k:=1) 2 rfl rfl h18 rfl (.one tyO24) rfl) ⟨rfl,trivial⟩,d0 (dM 1 rfl rfl (.one tyO3)) ⟨rfl,trivial⟩,d0 (bD 1 1 rfl rfl rfl rfl (.one tyO62)) ⟨rfl,trivial⟩,d0 (aL (.inl rfl)) ⟨rfl,trivial⟩,d0 (cE (C:=(cH g3)) 2 rfl tyS62 rfl q7 (aN h20).1 (aN h20).2.1) ⟨rfl,rfl,trivial⟩,d0 (gA (C:=(cH g3)) (k:=1) 2 rfl rfl h20 rfl (.one tyO24) rfl) ⟨rfl,trivial⟩,d0 (dM 1 rfl rfl (.one tyO3)) ⟨rfl,trivial⟩,d0 (cE (3+v19) rfl tyS24 (iY 3 rfl q11 q10 (q12 _ (bW h20))) (kD q11 q10 (q12 _ (bW h20))) (aN h22).1 (aN h22).2.1) ⟨rfl,rfl,trivial⟩,d0 (gA (k:=4) (3+v19) rfl (iY 3 rfl q11 q10 (q12 _ (bW h20))) h22 rfl (.agg tyA44) rfl) ⟨rfl,trivial⟩,d0 (bD 0 4 rfl rfl rfl rfl (.agg tyA44)) ⟨rfl,trivial⟩,d0 (aG rfl (rV h24) rfl) ⟨rfl,rfl,trivial⟩,d0 (cE (3+v17) rfl tyS24 (iY 3 rfl q11 q10 (q12 _ (bW h18))) (kD q11 q10 (q12 _ (bW h18))) (aN h26).1 (aN h26).2.1) ⟨rfl,rfl,trivial⟩,trivial⟩ (fun bs16 G15=>?_)
 obtain⟨x27,h28,hF⟩:=aO hF
 refine aY (fL (H':=([⟨some b14,1,44,4,1,(eQ a1)⟩,⟨some p0,1,62,1,1,[pO b5 n4 c6]⟩,hO (cH g3) b5 c6 24 n4 c0.1]++gO cQ 44 g3 (c0.2.set v17 x27))) (3+v17) rfl (xI 3 rfl q11 q10 (q12 _ (bW h18))) h26 h28 tyA44.s (hH:=stN 3 rfl q11 q10 (q12 _ (bW h18)))) ⟨rfl,rfl,trivial⟩ ?_
 refine aC ?_
 obtain rfl:=bX hF
 exact uW (.inr rfl) Tryz.results159 .nil rfl 3 [1,2] rfl rfl (by decide) ⟨b5,c6,n4,g3,N9,q7,(qL q10),(sJ q11 q10 (q12 _ (bW h18)) (b0 h28 rfl)),q12,rfl,rfl⟩
def kS (K:Nat) (x21:List Rat):Option (List Rat):=
 some x21
def dJ (K:Nat) (a0:List Rat) (a1:List aH) (a2:aM):Nat→(List Rat)→Int→Option (List Rat)
 |0,_,_=>none
 |k+1,x14,x20=>bif(decide (x20<(a1.length:Int))) then((dO a1 x20).bind fun v30=>(dO a2.rows v30.row).bind fun v33=>bif(v30.kind==0) then((gE K v33.j a0).bind fun v37=>(iV x14 x20 v37).bind fun v39=>(bQ (x20+1)).bind fun v47=>dJ K a0 a1 a2 k v39 v47) else(bif(v30.kind==1) then((gE K v33.t a0).bind fun v50=>(iV x14 x20 v50).bind fun v52=>(bQ (x20+1)).bind fun v60=>dJ K a0 a1 a2 k v52 v60) else(bif(v30.kind==2) then((gE K v33.t a0).bind fun v63=>(aAd v63).bind fun v65=>(iV x14 x20 v65).bind fun v67=>(bQ (x20+1)).bind fun v75=>dJ K a0 a1 a2 k v67 v75) else((bQ (x20+1)).bind fun v77=>dJ K a0 a1 a2 k x14 v77)))) else(some x14)
def lZ (K:Nat) (a0:List Rat) (a1:List aH) (a2:aM) (a3:List Rat):Option (List Rat):=
 (dJ K a0 a1 a2 K a3 0).bind fun x21=>kS K x21
theorem r9 {K:Nat} {a0:List Rat} {a1:List aH} {a2:aM} {a3:List Rat} {r:List Rat} (hF:lZ K a0 a1 a2 a3=some r) {p0:Nat} {p1:Nat} {p2:Nat} {b2:Option Nat} {c3 n4:Nat} (q5:a3.length=n4):CtO Tryz.prog 156 [⟨some p0,1,24,1,1,[pO b2 n4 c3]⟩,⟨some p1,1,114,1,1,[pS aH.cod a1]⟩,⟨some p2,1,113,4,1,(aM.enc a2)⟩,hO cQ b2 c3 44 n4 a3] [.vc (pS cQ a0),.vc (pF 157 [pP (some p0) 0]),.vc (pP (some p1) 0),.vc (pP (some p2) 0)] (fun Ho q=>∃b1079 c1080 n1081,r.length=n1081∧Ho=[⟨some p0,1,24,1,1,[pO b1079 n1081 c1080]⟩,⟨some p1,1,114,1,1,[pS aH.cod a1]⟩,⟨some p2,1,113,4,1,(aM.enc a2)⟩,hO cQ b1079 c1080 44 n1081 r]∧q=.any):=by
 unfold lZ at hF
 refine a9 Tryz.func156 rfl (by kernel_rfl) Tryz.ntmps156 rfl (fun w0 M0=>?_)
 refine aD (aE (aB (bD 1 1 rfl rfl rfl rfl (.one tyO114)) ⟨rfl,trivial⟩ ?_))
 refine aB (bZ rfl tyS114) ⟨rfl,trivial⟩ ?_
 refine aB (aL (.inl rfl)) ⟨bC _ _,trivial⟩ ?_
 refine aC (aA (bN (cL (fun H E=>∃(x21:List Rat),∃(b22:Option Nat),∃(c23:Nat),∃(n24:Nat),kS K x21=some r∧x21.length=n24∧H=[⟨some p0,1,24,1,1,[pO b22 n24 c23]⟩,⟨some p1,1,114,1,1,[pS aH.cod a1]⟩,⟨some p2,1,113,4,1,(aM.enc a2)⟩,hO cQ b22 c23 44 n24 x21]∧E=[]) ?_ (fun Jj28=>?_))))
 ·rintro _ _ ⟨x21,b22,c23,n24,hF,q25,rfl,rfl⟩
  unfold kS at hF
  obtain rfl:=bX hF
  exact vH (.inr rfl) Tryz.results156 .nil rfl [0,1,2,3] rfl (by decide) ⟨b22,c23,n24,q25,rfl,rfl⟩
 obtain⟨x21',hL,hRl27⟩:=aO hF
 refine gY (fun k a w=>∃(x14:List Rat),∃(x20:Int),∃(b15:Option Nat),∃(c16:Nat),∃(n17:Nat),dJ K a0 a1 a2 k x14 x20=some x21'∧x14.length=n17∧hs _ [⟨some p0,1,24,1,1,[pO b15 n17 c16]⟩,⟨some p1,1,114,1,1,[pS aH.cod a1]⟩,⟨some p2,1,113,4,1,(aM.enc a2)⟩,hO cQ b15 c16 44 n17 x14] [(0,.vc (pS cQ a0)),(1,.vc (pF 157 [pP (some p0) 0])),(3,.vc (pP (some p2) 0)),(9,.vc (pS aH.cod a1)),(10,.vc (pI .i64 (a1.length:Int))),(11,.vc (pI .i64 x20))] a w) K (fun a w ⟨_,_,_,_,_,hF,_,_⟩=>by cases hF) (fun k a w ⟨x14,x20,b15,c16,n17,hF,q18,hh⟩=>gX ?_ hh) (fun a w hh=>⟨a3,0,b2,c3,n4,hL,q5,bA [0,1,2,3] rfl (by decide) (by exact⟨rfl,rfl,rfl,rfl,rfl,rfl,trivial⟩) hh⟩)
 rw [dJ.eq_2] at hF
 refine aD (aE (aB (dQ rfl) ⟨rfl,rfl,trivial⟩ ?_))
 refine aC (aA (aD (bO rfl (fun h29=>?_) (fun h29=>?_))))
 ·have hF:=aT h29 hF
  refine aV (aA (aD (bN (aD (aE (aF ?_))))))
  obtain⟨v30,h31,hF⟩:=aO hF
  refine aB (dX rfl tyS114 h31) ⟨rfl,rfl,trivial⟩ ?_
  refine aB (dM 2 rfl rfl (.agg tyA118)) ⟨rfl,trivial⟩ ?_
  refine bJ rfl tyZ118q (fun b32=>?_)
  refine bB ?_
  refine aY (dA 0 rfl rfl rfl tyA118.s) ⟨rfl,rfl,trivial⟩ ?_
  refine aC (aA (aD (aE (aB (a8 (off:=0) (k:=3) rfl tyF113_3) ⟨rfl,trivial⟩ ?_))))
  refine aB (bD 3 1 rfl rfl rfl rfl (.one tyO25)) ⟨rfl,trivial⟩ ?_
  refine aB (a8 (off:=0) (k:=0) rfl tyF118_0) ⟨rfl,trivial⟩ ?_
  refine aB (bD 0 1 rfl rfl rfl rfl (.one tyO3)) ⟨rfl,trivial⟩ ?_
  obtain⟨v33,h34,hF⟩:=aO hF
  refine aB (dX rfl tyS25 h34) ⟨rfl,rfl,trivial⟩ ?_
  refine aB (dM 18 rfl rfl (.agg tyA51)) ⟨rfl,trivial⟩ ?_
  refine bJ rfl tyZ51q (fun b35=>?_)
  refine aY (dA 0 rfl rfl rfl tyA51.s) ⟨rfl,rfl,trivial⟩ ?_
  refine aC (aA (aD (aE (aB (a8 (off:=0) (k:=1) rfl tyF118_1) ⟨rfl,trivial⟩ ?_))))
  refine aB (bD 1 1 rfl rfl rfl rfl (.one tyO3)) ⟨rfl,trivial⟩ ?_
  refine aC (aA (bN (aD (aE (aB (iJ rfl) ⟨rfl,bC _ _,trivial⟩ ?_)))))
  refine bB ?_
  refine aC (aA (bO rfl (fun h36=>?_) (fun h36=>?_)))
  ·have hF:=aT h36 hF
   refine aE (aF ?_)
   refine aF ?_
   refine aB (a8 (off:=0) (k:=8) rfl tyF51_5) ⟨rfl,trivial⟩ ?_
   refine aB (bD 0 1 rfl rfl rfl rfl (.one tyO49)) ⟨rfl,trivial⟩ ?_
   refine aF ?_
   obtain⟨v37,h38,hF⟩:=aO hF
   refine aB (aG rfl (iL h38) rfl) ⟨rfl,rfl,trivial⟩ ?_
   obtain⟨v39,h40,hF⟩:=aO hF
   refine vA (f:=157) (cs:=[pP (some p0) 0]) (pre:=[.vc (pI .i64 x20),.va (eQ v37)]) (xs:=[.tmp 27,.tmp 31]) [2,5] [0,1,3,4] rfl (mO h40 q18) ⟨rfl,rfl,rfl,trivial⟩ rfl rfl (by decide) ?_
   rintro _ _ ⟨b43,c44,n42,q45,rfl,rfl⟩
   refine aC (bF (bF (aA (aE ?_))))
   obtain⟨v47,h48,hF⟩:=aO hF
   refine aB (bI rfl h48) ⟨rfl,bC _ _,trivial⟩ ?_
   refine aF ?_
   refine aC ?_
   exact bG (fun a w hh=>⟨v39,v47,b43,c44,n42,hF,q45,bA [0,4,5,1] rfl (by decide) (by exact⟨rfl,rfl,rfl,rfl,rfl,rfl,trivial⟩) hh⟩)
  have hF:=aU h36 hF
  refine aD (aE (aB (iJ rfl) ⟨rfl,bC _ _,trivial⟩ ?_))
  refine bB ?_
  refine aC (aA (bO rfl (fun h49=>?_) (fun h49=>?_)))
  ·have hF:=aT h49 hF
   refine aE (aF ?_)
   refine aF ?_
   refine aB (a8 (off:=0) (k:=9) rfl tyF51_6) ⟨rfl,trivial⟩ ?_
   refine aB (bD 0 1 rfl rfl rfl rfl (.one tyO49)) ⟨rfl,trivial⟩ ?_
   refine aF ?_
   obtain⟨v50,h51,hF⟩:=aO hF
   refine aB (aG rfl (iL h51) rfl) ⟨rfl,rfl,trivial⟩ ?_
   obtain⟨v52,h53,hF⟩:=aO hF
   refine vA (f:=157) (cs:=[pP (some p0) 0]) (pre:=[.vc (pI .i64 x20),.va (eQ v50)]) (xs:=[.tmp 36,.tmp 40]) [2,5] [0,1,3,4] rfl (mO h53 q18) ⟨rfl,rfl,rfl,trivial⟩ rfl rfl (by decide) ?_
   rintro _ _ ⟨b56,c57,n55,q58,rfl,rfl⟩
   refine aC (bF (bF (aA (aE ?_))))
   obtain⟨v60,h61,hF⟩:=aO hF
   refine aB (bI rfl h61) ⟨rfl,bC _ _,trivial⟩ ?_
   refine aF ?_
   refine aC ?_
   exact bG (fun a w hh=>⟨v52,v60,b56,c57,n55,hF,q58,bA [0,4,5,1] rfl (by decide) (by exact⟨rfl,rfl,rfl,rfl,rfl,rfl,trivial⟩) hh⟩)
  have hF:=aU h49 hF
  refine aD (aE (aB (iJ rfl) ⟨rfl,bC _ _,trivial⟩ ?_))
  refine bB ?_
  refine aC (aA (bO rfl (fun h62=>?_) (fun h62=>?_)))
  ·have hF:=aT h62 hF
   refine aE (aF ?_)
   refine aF ?_
   refine aB (a8 (off:=0) (k:=9) rfl tyF51_6) ⟨rfl,trivial⟩ ?_
   refine aB (bD 0 1 rfl rfl rfl rfl (.one tyO49)) ⟨rfl,trivial⟩ ?_
   refine aF ?_
   obtain⟨v63,h64,hF⟩:=aO hF
   refine aB (aG rfl (iL h64) rfl) ⟨rfl,rfl,trivial⟩ ?_
   obtain⟨v65,h66,hF⟩:=aO hF
   refine aB (aG rfl (nK h66) rfl) ⟨rfl,trivial⟩ ?_
   obtain⟨v67,h68,hF⟩:=aO hF
   refine vA (f:=157) (cs:=[pP (some p0) 0]) (pre:=[.vc (pI .i64 x20),.va (eQ v65)]) (xs:=[.tmp 45,.tmp 50]) [2,5] [0,1,3,4] rfl (mO h68 q18) ⟨rfl,rfl,rfl,trivial⟩ rfl rfl (by decide) ?_
   rintro _ _ ⟨b71,c72,n70,q73,rfl,rfl⟩
   refine aC (bF (bF (aA (aE ?_))))
   obtain⟨v75,h76,hF⟩:=aO hF
   refine aB (bI rfl h76) ⟨rfl,bC _ _,trivial⟩ ?_
   refine aF ?_
   refine aC ?_
   exact bG (fun a w hh=>⟨v67,v75,b71,c72,n70,hF,q73,bA [0,4,5,1] rfl (by decide) (by exact⟨rfl,rfl,rfl,rfl,rfl,rfl,trivial⟩) hh⟩)
  have hF:=aU h62 hF
  refine aV (bF (bF (aA (aE ?_))))
  obtain⟨v77,h78,hF⟩:=aO hF
  refine aB (bI rfl h78) ⟨rfl,bC _ _,trivial⟩ ?_
  refine aF ?_
  refine aC ?_
  exact bG (fun a w hh=>⟨x14,v77,b15,c16,n17,hF,q18,bA [2,3,4,5] rfl (by decide) (by exact⟨rfl,rfl,rfl,rfl,rfl,rfl,trivial⟩) hh⟩)
 have hF:=aU h29 hF
 refine dE ?_
 obtain rfl:=bX hF
 exact bS Jj28 ⟨x14,b15,c16,n17,hRl27,q18,rfl,rfl⟩ [0,1,2,3] rfl trivial
def kJ (K:Nat) (x40:List Nat) (x46:List (List Rat)):Option ((List Nat)×(List (List Rat))):=
 some (x40,x46)
def dK (K:Nat) (a0:List Rat) (a1:Int) (a2:List aH) (a3:aM):Nat→(List Nat)→(List (List Rat))→Int→Option ((List Nat)×(List (List Rat)))
 |0,_,_,_=>none
 |k+1,x27,x33,x39=>bif(decide (x39<(a2.length:Int))) then((dO a2 x39).bind fun v55=>(dO a3.rows v55.row).bind fun v58=>bif(v55.kind==0) then((gE K v58.j a0).bind fun v62=>(iX (x27,x33) a1 x39 v62).bind fun v64=>(bQ (x39+1)).bind fun v79=>dK K a0 a1 a2 a3 k v64.1 v64.2 v79) else(bif(v55.kind==1) then((gE K v58.t a0).bind fun v82=>(iX (x27,x33) a1 x39 v82).bind fun v84=>(bQ (x39+1)).bind fun v99=>dK K a0 a1 a2 a3 k v84.1 v84.2 v99) else(bif(v55.kind==2) then((gE K v58.t a0).bind fun v102=>(aAd v102).bind fun v104=>(iX (x27,x33) a1 x39 v104).bind fun v106=>(bQ (x39+1)).bind fun v121=>dK K a0 a1 a2 a3 k v106.1 v106.2 v121) else((bQ (x39+1)).bind fun v123=>dK K a0 a1 a2 a3 k x27 x33 v123)))) else(some (x27,x33))
def dP (K:Nat) (a0:List Rat) (a1:Int) (a2:List aH) (a3:aM) (a4:List Nat) (a5:List (List Rat)):Option ((List Nat)×(List (List Rat))):=
 (dK K a0 a1 a2 a3 K a4 a5 0).bind fun(x40,x46)=>kJ K x40 x46
theorem fB {K:Nat} {a0:List Rat} {a1:Int} {a2:List aH} {a3:aM} {a4:List Nat} {a5:List (List Rat)} {r:(List Nat)×(List (List Rat))} (hF:dP K a0 a1 a2 a3 a4 a5=some r) {p0:Nat} {p1:Nat} {p2:Nat} {b3:Option Nat} {c4 n5:Nat} {g8:List rY} {N9:Nat} (q6:a4.length=n5) (q10:a5.length=N9) (q11:jW g8 a5) (q12:∀k∈a4,k<N9):CtO Tryz.prog 156 ([⟨some p0,1,62,1,1,[pO b3 n5 c4]⟩,⟨some p1,1,114,1,1,[pS aH.cod a2]⟩,⟨some p2,1,113,4,1,(aM.enc a3)⟩,hO (cH g8) b3 c4 24 n5 a4]++gO cQ 44 g8 a5) [.vc (pS cQ a0),.vc (pF 159 [pP (some p0) 0,pM (cI.e a1)]),.vc (pP (some p1) 0),.vc (pP (some p2) 0)] (fun Ho q=>∃b1125 c1126 n1127 g1130 N1131,r.1.length=n1127∧r.2.length=N1131∧jW g1130 r.2∧(∀k∈r.1,k<N1131)∧Ho=([⟨some p0,1,62,1,1,[pO b1125 n1127 c1126]⟩,⟨some p1,1,114,1,1,[pS aH.cod a2]⟩,⟨some p2,1,113,4,1,(aM.enc a3)⟩,hO (cH g1130) b1125 c1126 24 n1127 r.1]++gO cQ 44 g1130 r.2)∧q=.any):=by
 unfold dP at hF
 refine a9 Tryz.func156 rfl (by kernel_rfl) Tryz.ntmps156 rfl (fun w0 M0=>?_)
 refine aD (aE (aB (bD 1 1 rfl rfl rfl rfl (.one tyO114)) ⟨rfl,trivial⟩ ?_))
 refine aB (bZ rfl tyS114) ⟨rfl,trivial⟩ ?_
 refine aB (aL (.inl rfl)) ⟨bC _ _,trivial⟩ ?_
 refine aC (aA (bN (cL (fun H E=>∃(x40:List Nat),∃(x46:List (List Rat)),∃(b41:Option Nat),∃(c42:Nat),∃(n43:Nat),∃(g47:List rY),∃(N48:Nat),kJ K x40 x46=some r∧x40.length=n43∧x46.length=N48∧jW g47 x46∧(∀k∈x40,k<N48)∧H=([⟨some p0,1,62,1,1,[pO b41 n43 c42]⟩,⟨some p1,1,114,1,1,[pS aH.cod a2]⟩,⟨some p2,1,113,4,1,(aM.enc a3)⟩,hO (cH g47) b41 c42 24 n43 x40]++gO cQ 44 g47 x46)∧E=[]) ?_ (fun Jj53=>?_))))
 ·rintro _ _ ⟨x40,x46,b41,c42,n43,g47,N48,hF,q44,q49,q50,q51,rfl,rfl⟩
  unfold kJ at hF
  obtain rfl:=bX hF
  exact uW (.inr rfl) Tryz.results156 .nil rfl 4 [0,1,2,3] rfl rfl (by decide) ⟨b41,c42,n43,g47,N48,q44,q49,q50,q51,rfl,rfl⟩
 obtain⟨⟨x40',x46'⟩,hL,hRl52⟩:=aO hF
 refine gY (fun k a w=>∃(x27:List Nat),∃(x33:List (List Rat)),∃(x39:Int),∃(b28:Option Nat),∃(c29:Nat),∃(n30:Nat),∃(g34:List rY),∃(N35:Nat),dK K a0 a1 a2 a3 k x27 x33 x39=some (x40',x46')∧x27.length=n30∧x33.length=N35∧jW g34 x33∧(∀k∈x27,k<N35)∧hs _ ([⟨some p0,1,62,1,1,[pO b28 n30 c29]⟩,⟨some p1,1,114,1,1,[pS aH.cod a2]⟩,⟨some p2,1,113,4,1,(aM.enc a3)⟩,hO (cH g34) b28 c29 24 n30 x27]++gO cQ 44 g34 x33) [(0,.vc (pS cQ a0)),(1,.vc (pF 159 [pP (some p0) 0,pM (cI.e a1)])),(3,.vc (pP (some p2) 0)),(9,.vc (pS aH.cod a2)),(10,.vc (pI .i64 (a2.length:Int))),(11,.vc (pI .i64 x39))] a w) K (fun a w ⟨_,_,_,_,_,_,_,_,hF,_,_,_,_,_⟩=>by cases hF) (fun k a w ⟨x27,x33,x39,b28,c29,n30,g34,N35,hF,q31,q36,q37,q38,hh⟩=>gX ?_ hh) (fun a w hh=>⟨a4,a5,0,b3,c4,n5,g8,N9,hL,q6,q10,q11,q12,cO 4 [0,1,2,3] rfl rfl (by decide) (by exact⟨rfl,rfl,rfl,rfl,rfl,rfl,trivial⟩) hh⟩)
 rw [dK.eq_2] at hF
 refine aD (aE (aB (dQ rfl) ⟨rfl,rfl,trivial⟩ ?_))
 refine aC (aA (aD (bO rfl (fun h54=>?_) (fun h54=>?_))))
 ·have hF:=aT h54 hF
  refine aV (aA (aD (bN (aD (aE (aF ?_))))))
  obtain⟨v55,h56,hF⟩:=aO hF
  refine aB (dX rfl tyS114 h56) ⟨rfl,rfl,trivial⟩ ?_
  refine aB (dM 2 rfl rfl (.agg tyA118)) ⟨rfl,trivial⟩ ?_
  refine bJ rfl tyZ118q (fun b57=>?_)
  refine bB ?_
  refine aY (dA 0 rfl rfl rfl tyA118.s) ⟨rfl,rfl,trivial⟩ ?_
  refine aC (aA (aD (aE (aB (a8 (off:=0) (k:=3) rfl tyF113_3) ⟨rfl,trivial⟩ ?_))))
  refine aB (bD 3 1 rfl rfl rfl rfl (.one tyO25)) ⟨rfl,trivial⟩ ?_
  refine aB (a8 (off:=0) (k:=0) rfl tyF118_0) ⟨rfl,trivial⟩ ?_
  refine aB (bD 0 1 rfl rfl rfl rfl (.one tyO3)) ⟨rfl,trivial⟩ ?_
  obtain⟨v58,h59,hF⟩:=aO hF
  refine aB (dX rfl tyS25 h59) ⟨rfl,rfl,trivial⟩ ?_
  refine aB (dM 18 rfl rfl (.agg tyA51)) ⟨rfl,trivial⟩ ?_
  refine bJ rfl tyZ51q (fun b60=>?_)
  refine aY (dA 0 rfl rfl rfl tyA51.s) ⟨rfl,rfl,trivial⟩ ?_
  refine aC (aA (aD (aE (aB (a8 (off:=0) (k:=1) rfl tyF118_1) ⟨rfl,trivial⟩ ?_))))
  refine aB (bD 1 1 rfl rfl rfl rfl (.one tyO3)) ⟨rfl,trivial⟩ ?_
  refine aC (aA (bN (aD (aE (aB (iJ rfl) ⟨rfl,bC _ _,trivial⟩ ?_)))))
  refine bB ?_
  refine aC (aA (bO rfl (fun h61=>?_) (fun h61=>?_)))
  ·have hF:=aT h61 hF
   refine aE (aF ?_)
   refine aF ?_
   refine aB (a8 (off:=0) (k:=8) rfl tyF51_5) ⟨rfl,trivial⟩ ?_
   refine aB (bD 0 1 rfl rfl rfl rfl (.one tyO49)) ⟨rfl,trivial⟩ ?_
   refine aF ?_
   obtain⟨v62,h63,hF⟩:=aO hF
   refine aB (aG rfl (iL h63) rfl) ⟨rfl,rfl,trivial⟩ ?_
   obtain⟨v64,h65,hF⟩:=aO hF
   refine rG (f:=159) (cs:=[pP (some p0) 0,pM (cI.e a1)]) (pre:=[.vc (pI .i64 x39),.va (eQ v62)]) (xs:=[.tmp 27,.tmp 31]) 6 [2,5] [0,1,3,4] rfl (mN h65 q31 q36 q37 q38) ⟨rfl,rfl,rfl,trivial⟩ rfl rfl rfl (by decide) ?_
   rintro _ _ ⟨b70,c71,n69,g68,N74,q72,q75,q76,q77,rfl,rfl⟩
   refine pJ (nD [⟨some p0,1,62,1,1,[pO b70 n69 c71]⟩,hO (cH g68) b70 c71 24 n69 v64.1] (gO cQ 44 g68 v64.2) [⟨some b60,1,51,18,1,(aK.enc v58)⟩,⟨some b57,1,118,2,1,(aH.enc v55)⟩,⟨some p1,1,114,1,1,[pS aH.cod a2]⟩,⟨some p2,1,113,4,1,(aM.enc a3)⟩]) ?_
   refine aC (bF (bF (aA (aE ?_))))
   obtain⟨v79,h80,hF⟩:=aO hF
   refine aB (bI rfl h80) ⟨rfl,bC _ _,trivial⟩ ?_
   refine aF ?_
   refine aC ?_
   exact bG (fun a w hh=>⟨v64.1,v64.2,v79,b70,c71,n69,g68,N74,hF,q72,q75,q76,q77,cO 6 [0,4,5,1] rfl rfl (by decide) (by exact⟨rfl,rfl,rfl,rfl,rfl,rfl,trivial⟩) hh⟩)
  have hF:=aU h61 hF
  refine aD (aE (aB (iJ rfl) ⟨rfl,bC _ _,trivial⟩ ?_))
  refine bB ?_
  refine aC (aA (bO rfl (fun h81=>?_) (fun h81=>?_)))
  ·have hF:=aT h81 hF
   refine aE (aF ?_)
   refine aF ?_
   refine aB (a8 (off:=0) (k:=9) rfl tyF51_6) ⟨rfl,trivial⟩ ?_
   refine aB (bD 0 1 rfl rfl rfl rfl (.one tyO49)) ⟨rfl,trivial⟩ ?_
   refine aF ?_
   obtain⟨v82,h83,hF⟩:=aO hF
   refine aB (aG rfl (iL h83) rfl) ⟨rfl,rfl,trivial⟩ ?_
   obtain⟨v84,h85,hF⟩:=aO hF
   refine rG (f:=159) (cs:=[pP (some p0) 0,pM (cI.e a1)]) (pre:=[.vc (pI .i64 x39),.va (eQ v82)]) (xs:=[.tmp 36,.tmp 40]) 6 [2,5] [0,1,3,4] rfl (mN h85 q31 q36 q37 q38) ⟨rfl,rfl,rfl,trivial⟩ rfl rfl rfl (by decide) ?_
   rintro _ _ ⟨b90,c91,n89,g88,N94,q92,q95,q96,q97,rfl,rfl⟩
   refine pJ (nD [⟨some p0,1,62,1,1,[pO b90 n89 c91]⟩,hO (cH g88) b90 c91 24 n89 v84.1] (gO cQ 44 g88 v84.2) [⟨some b60,1,51,18,1,(aK.enc v58)⟩,⟨some b57,1,118,2,1,(aH.enc v55)⟩,⟨some p1,1,114,1,1,[pS aH.cod a2]⟩,⟨some p2,1,113,4,1,(aM.enc a3)⟩]) ?_
   refine aC (bF (bF (aA (aE ?_))))
   obtain⟨v99,h100,hF⟩:=aO hF
   refine aB (bI rfl h100) ⟨rfl,bC _ _,trivial⟩ ?_
   refine aF ?_
   refine aC ?_
   exact bG (fun a w hh=>⟨v84.1,v84.2,v99,b90,c91,n89,g88,N94,hF,q92,q95,q96,q97,cO 6 [0,4,5,1] rfl rfl (by decide) (by exact⟨rfl,rfl,rfl,rfl,rfl,rfl,trivial⟩) hh⟩)
  have hF:=aU h81 hF
  refine aD (aE (aB (iJ rfl) ⟨rfl,bC _ _,trivial⟩ ?_))
  refine bB ?_
  refine aC (aA (bO rfl (fun h101=>?_) (fun h101=>?_)))
  ·have hF:=aT h101 hF
   refine aE (aF ?_)
   refine aF ?_
   refine aB (a8 (off:=0) (k:=9) rfl tyF51_6) ⟨rfl,trivial⟩ ?_
   refine aB (bD 0 1 rfl rfl rfl rfl (.one tyO49)) ⟨rfl,trivial⟩ ?_
   refine aF ?_
   obtain⟨v102,h103,hF⟩:=aO hF
   refine aB (aG rfl (iL h103) rfl) ⟨rfl,rfl,trivial⟩ ?_
   obtain⟨v104,h105,hF⟩:=aO hF
   refine aB (aG rfl (nK h105) rfl) ⟨rfl,trivial⟩ ?_
   obtain⟨v106,h107,hF⟩:=aO hF
   refine rG (f:=159) (cs:=[pP (some p0) 0,pM (cI.e a1)]) (pre:=[.vc (pI .i64 x39),.va (eQ v104)]) (xs:=[.tmp 45,.tmp 50]) 6 [2,5] [0,1,3,4] rfl (mN h107 q31 q36 q37 q38) ⟨rfl,rfl,rfl,trivial⟩ rfl rfl rfl (by decide) ?_
   rintro _ _ ⟨b112,c113,n111,g110,N116,q114,q117,q118,q119,rfl,rfl⟩
   refine pJ (nD [⟨some p0,1,62,1,1,[pO b112 n111 c113]⟩,hO (cH g110) b112 c113 24 n111 v106.1] (gO cQ 44 g110 v106.2) [⟨some b60,1,51,18,1,(aK.enc v58)⟩,⟨some b57,1,118,2,1,(aH.enc v55)⟩,⟨some p1,1,114,1,1,[pS aH.cod a2]⟩,⟨some p2,1,113,4,1,(aM.enc a3)⟩]) ?_
   refine aC (bF (bF (aA (aE ?_))))
   obtain⟨v121,h122,hF⟩:=aO hF
   refine aB (bI rfl h122) ⟨rfl,bC _ _,trivial⟩ ?_
   refine aF ?_
   refine aC ?_
   exact bG (fun a w hh=>⟨v106.1,v106.2,v121,b112,c113,n111,g110,N116,hF,q114,q117,q118,q119,cO 6 [0,4,5,1] rfl rfl (by decide) (by exact⟨rfl,rfl,rfl,rfl,rfl,rfl,trivial⟩) hh⟩)
  have hF:=aU h101 hF
  refine aV (bF (bF (aA (aE ?_))))
  obtain⟨v123,h124,hF⟩:=aO hF
  refine aB (bI rfl h124) ⟨rfl,bC _ _,trivial⟩ ?_
  refine aF ?_
  refine aC ?_
  exact bG (fun a w hh=>⟨x27,x33,v123,b28,c29,n30,g34,N35,hF,q31,q36,q37,q38,cO 6 [2,3,4,5] rfl rfl (by decide) (by exact⟨rfl,rfl,rfl,rfl,rfl,rfl,trivial⟩) hh⟩)
 have hF:=aU h54 hF
 refine dE ?_
 obtain⟨rfl,rfl⟩:=sm2 hF
 exact mJ Jj53 ⟨x27,x33,b28,c29,n30,g34,N35,hRl52,q31,q36,q37,q38,rfl,rfl⟩ 4 [0,1,2,3] rfl rfl trivial
def l8 (K:Nat) (v98:List Rat) (x134:List Nat) (x140:List (List Rat)):Option ((List (List Rat))×(List Rat)):=
 some ((aDJ x140 x134),v98)
def jD (K:Nat) (a0:aM) (v2:List aH) (x121:List Nat) (x127:List (List Rat)) (x133:Int) (v152:aH) (v164:aK) (recl146:(List Nat)→(List (List Rat))→Int→Option ((List Nat)×(List (List Rat)))) (x174:List aS):Option ((List Nat)×(List (List Rat))):=
 (bQ (x133+3)).bind fun v183=>bif(decide (v183<(v2.length:Int))) then((bQ (x133+3)).bind fun v186=>(dO v2 v186).bind fun v188=>bif(v188.row==v152.row&&v188.kind==3) then((bQ (x133+3)).bind fun v193=>(dO x121 v193).bind fun v195=>(dO (x127.getD v195 []) x133).bind fun v197=>(n8 (x127.getD v195 []) x133 v164.mu).bind fun x199=>(s6 (a0.dofs.length:Int) 0).bind fun x204=>(cF K a0 x204 x174).bind fun v206=>(dP K v206 x133 v2 a0 x121 (x127.set v195 x199)).bind fun v208=>(bQ (x133+1)).bind fun v221=>recl146 v208.1 v208.2 v221) else((s6 (a0.dofs.length:Int) 0).bind fun x225=>(cF K a0 x225 x174).bind fun v227=>(dP K v227 x133 v2 a0 x121 x127).bind fun v229=>(bQ (x133+1)).bind fun v242=>recl146 v229.1 v229.2 v242)) else((s6 (a0.dofs.length:Int) 0).bind fun x246=>(cF K a0 x246 x174).bind fun v248=>(dP K v248 x133 v2 a0 x121 x127).bind fun v250=>(bQ (x133+1)).bind fun v263=>recl146 v250.1 v250.2 v263)
def cR (K:Nat) (a0:aM) (v2:List aH) (x91:List aS) (v105:Rat):Nat→(List Nat)→(List (List Rat))→Int→Option ((List Nat)×(List (List Rat)))
 |0,_,_,_=>none
 |k+1,x121,x127,x133=>bif(decide (x133<(v2.length:Int))) then((dO v2 x133).bind fun v152=>(qA x91).bind fun v156=>(dO a0.rows v152.row).bind fun v164=>bif(v152.kind==0) then((dO v156 v152.row).bind fun v168=>(n8 v156 v152.row (⟨v105,v168.f⟩:aS)).bind fun x170=>bif(decide (0<(v164.t.length:Int))) then((mE K a0 v164 v105).bind fun v268=>(dO x170 v152.row).bind fun v270=>(n8 x170 v152.row (⟨v270.n,v268⟩:aS)).bind fun x272=>jD K a0 v2 x121 x127 x133 v152 v164 (cR K a0 v2 x91 v105 k) x272) else(jD K a0 v2 x121 x127 x133 v152 v164 (cR K a0 v2 x91 v105 k) x170)) else(bif(v152.kind==1) then((dO v156 v152.row).bind fun v276=>(n8 v156 v152.row (⟨v276.n,v105⟩:aS)).bind fun x278=>(bQ (x133+3)).bind fun v283=>(bQ (v283-1)).bind fun v285=>(dO x121 v285).bind fun v287=>(aAd v105).bind fun v289=>(dO (x127.getD v287 []) x133).bind fun v291=>(n8 (x127.getD v287 []) x133 v289).bind fun x293=>(s6 (a0.dofs.length:Int) 0).bind fun x298=>(cF K a0 x298 x278).bind fun v300=>(dP K v300 x133 v2 a0 x121 (x127.set v287 x293)).bind fun v302=>(bQ (x133+1)).bind fun v315=>cR K a0 v2 x91 v105 k v302.1 v302.2 v315) else(bif(v152.kind==2) then((aAd v105).bind fun v320=>(dO v156 v152.row).bind fun v322=>(n8 v156 v152.row (⟨v322.n,v320⟩:aS)).bind fun x324=>(bQ (x133+3)).bind fun v329=>(bQ (v329-2)).bind fun v331=>(dO x121 v331).bind fun v333=>(aAd v105).bind fun v335=>(dO (x127.getD v333 []) x133).bind fun v337=>(n8 (x127.getD v333 []) x133 v335).bind fun x339=>(s6 (a0.dofs.length:Int) 0).bind fun x344=>(cF K a0 x344 x324).bind fun v346=>(dP K v346 x133 v2 a0 x121 (x127.set v333 x339)).bind fun v348=>(bQ (x133+1)).bind fun v361=>cR K a0 v2 x91 v105 k v348.1 v348.2 v361) else(bif(v152.kind==3) then((bQ (x133+1)).bind fun v366=>(bQ (v366-3)).bind fun v368=>(dO x121 v368).bind fun v370=>(bQ (x133+2)).bind fun v372=>(bQ (v372-3)).bind fun v374=>(dO x121 v374).bind fun v376=>(dO (x127.getD v370 []) x133).bind fun v378=>(n8 (x127.getD v370 []) x133 v105).bind fun x380=>(dO ((x127.set v370 x380).getD v376 []) x133).bind fun v383=>(n8 ((x127.set v370 x380).getD v376 []) x133 v105).bind fun x386=>(bQ (x133+1)).bind fun v389=>cR K a0 v2 x91 v105 k x121 ((x127.set v370 x380).set v376 x386) v389) else((s6 (a0.dofs.length:Int) 0).bind fun x393=>(cF K a0 x393 v156).bind fun v395=>(dP K v395 x133 v2 a0 x121 x127).bind fun v397=>(bQ (x133+1)).bind fun v410=>cR K a0 v2 x91 v105 k v397.1 v397.2 v410))))) else(some (x121,x127))
def mU (K:Nat) (a0:aM) (v2:List aH) (x13:List Rat) (x77:List Nat) (x83:List (List Rat)):Option ((List (List Rat))×(List Rat)):=
 (s6 (a0.rows.length:Int) (⟨0,0⟩:aS)).bind fun x91=>(cF K a0 a0.load x91).bind fun v96=>(lZ K v96 v2 a0 x13).bind fun v98=>(wP 1 1).bind fun v105=>(cR K a0 v2 x91 v105 K x77 x83 0).bind fun(x134,x140)=>l8 K v98 x134 x140
def kG (K:Nat) (v2:List aH) (x10:List Nat):Nat→(List Nat)→(List (List Rat))→Int→Option ((List Nat)×(List (List Rat)))
 |0,_,_,_=>none
 |k+1,x64,x70,x76=>bif(decide (x76<(x10.length:Int))) then((s6 (v2.length:Int) 0).bind fun x415=>(dO x64 x76).bind fun v419=>(n8 x64 x76 x70.length).bind fun x423=>(bQ (x76+1)).bind fun v427=>kG K v2 x10 k x423 (x70++[x415]) v427) else(some (x64,x70))
def oZ (K:Nat) (a0:aM):Option ((List (List Rat))×(List Rat)):=
 (lT K a0).bind fun v2=>(s6 (v2.length:Int) (0:Nat)).bind fun x10=>(s6 (v2.length:Int) 0).bind fun x13=>(kG K v2 x10 K x10 [([]:List Rat)] 0).bind fun(x77,x83)=>mU K a0 v2 x13 x77 x83
theorem uC {K:Nat} {a0:aM} {r:(List (List Rat))×(List Rat)} (hF:oZ K a0=some r):Ct Tryz.prog 71 [.va (aM.enc a0)] (.t2 (.vc (pS (sH cQ) r.1)) (.vc (pS cQ r.2))):=by
 unfold oZ at hF
 refine a9 Tryz.func71 rfl (by kernel_rfl) Tryz.ntmps71 rfl (fun w0 M0=>?_)
 refine aD (aE (cV rfl rfl trivial (fun b1=>?_)))
 refine aB (aL (.inr rfl)) ⟨eJ (sH cQ),trivial⟩ ?_
 refine aB (aL (.inr rfl)) ⟨eJ cQ,trivial⟩ ?_
 refine aC (aA (aD (aE (aB (bD 0 4 rfl rfl rfl rfl (.agg tyA113)) ⟨rfl,trivial⟩ ?_))))
 obtain⟨v2,h3,hF⟩:=aO hF
 refine aB (aG rfl (qY h3) rfl) ⟨rfl,trivial⟩ ?_
 refine bJ rfl tyZ114q (fun b4=>?_)
 refine aY (dA 0 rfl rfl rfl tyO114.s) ⟨rfl,rfl,trivial⟩ ?_
 refine aC (aA (aD (aE (aB (aA7 (xs:=[.tmp 4,.tmp 1]) (cs:=[pP (some b4) 0,pP (some b1) 0]) rfl rfl) ⟨rfl,rfl,trivial⟩ ?_))))
 refine bB ?_
 refine aC (aA (aD (aFz cQ 44 ?_)))
 obtain⟨x10,h11,hF⟩:=aO hF
 obtain⟨x13,h14,hF⟩:=aO hF
 refine pG (HsM [(0,fun G7=>([⟨some b4,1,114,1,1,[pS aH.cod v2]⟩,⟨some b1,1,113,4,1,(aM.enc a0)⟩]++gO cQ 44 [(none,0,0)] [([]:List Rat)])),(1,fun G7=>([hO (cH [(none,0,0)]) ((G7 2).1) x10.length 24 x10.length x10,⟨some b4,1,114,1,1,[pS aH.cod v2]⟩,⟨some b1,1,113,4,1,(aM.enc a0)⟩]++gO cQ 44 [(none,0,0)] [([]:List Rat)])),(2,fun G7=>([hO cQ ((G7 5).1) x13.length 44 x13.length x13,⟨some b4,1,114,1,1,[pS aH.cod v2]⟩,⟨some b1,1,113,4,1,(aM.enc a0)⟩]++gO cQ 44 [(none,0,0)] [([]:List Rat)])),(3,fun G7=>([hO cQ ((G7 5).1) x13.length 44 x13.length x13,hO (cH [(none,0,0)]) ((G7 2).1) x10.length 24 x10.length x10,⟨some b4,1,114,1,1,[pS aH.cod v2]⟩,⟨some b1,1,113,4,1,(aM.enc a0)⟩]++gO cQ 44 [(none,0,0)] [([]:List Rat)])),(4,fun G7=>([⟨some ((G7 6).1.getD 0),1,62,1,1,[pS (sH cQ) ([]:List (List Rat))]⟩,⟨some b4,1,114,1,1,[pS aH.cod v2]⟩,⟨some b1,1,113,4,1,(aM.enc a0)⟩]++gO cQ 44 [(none,0,0)] [([]:List Rat)])),(5,fun G7=>([⟨some ((G7 6).1.getD 0),1,62,1,1,[pS (sH cQ) ([]:List (List Rat))]⟩,hO (cH [(none,0,0)]) ((G7 2).1) x10.length 24 x10.length x10,⟨some b4,1,114,1,1,[pS aH.cod v2]⟩,⟨some b1,1,113,4,1,(aM.enc a0)⟩]++gO cQ 44 [(none,0,0)] [([]:List Rat)])),(6,fun G7=>([⟨some ((G7 6).1.getD 0),1,62,1,1,[pS (sH cQ) ([]:List (List Rat))]⟩,hO cQ ((G7 5).1) x13.length 44 x13.length x13,⟨some b4,1,114,1,1,[pS aH.cod v2]⟩,⟨some b1,1,113,4,1,(aM.enc a0)⟩]++gO cQ 44 [(none,0,0)] [([]:List Rat)])),(7,fun G7=>([⟨some ((G7 6).1.getD 0),1,62,1,1,[pS (sH cQ) ([]:List (List Rat))]⟩,hO cQ ((G7 5).1) x13.length 44 x13.length x13,hO (cH [(none,0,0)]) ((G7 2).1) x10.length 24 x10.length x10,⟨some b4,1,114,1,1,[pS aH.cod v2]⟩,⟨some b1,1,113,4,1,(aM.enc a0)⟩]++gO cQ 44 [(none,0,0)] [([]:List Rat)])),(8,fun G7=>([⟨some ((G7 7).1.getD 0),1,24,1,1,[pS cQ ([]:List Rat)]⟩,⟨some b4,1,114,1,1,[pS aH.cod v2]⟩,⟨some b1,1,113,4,1,(aM.enc a0)⟩]++gO cQ 44 [(none,0,0)] [([]:List Rat)])),(9,fun G7=>([⟨some ((G7 7).1.getD 0),1,24,1,1,[pS cQ ([]:List Rat)]⟩,hO (cH [(none,0,0)]) ((G7 2).1) x10.length 24 x10.length x10,⟨some b4,1,114,1,1,[pS aH.cod v2]⟩,⟨some b1,1,113,4,1,(aM.enc a0)⟩]++gO cQ 44 [(none,0,0)] [([]:List Rat)])),(10,fun G7=>([⟨some ((G7 7).1.getD 0),1,24,1,1,[pS cQ ([]:List Rat)]⟩,hO cQ ((G7 5).1) x13.length 44 x13.length x13,⟨some b4,1,114,1,1,[pS aH.cod v2]⟩,⟨some b1,1,113,4,1,(aM.enc a0)⟩]++gO cQ 44 [(none,0,0)] [([]:List Rat)])),(11,fun G7=>([⟨some ((G7 7).1.getD 0),1,24,1,1,[pS cQ ([]:List Rat)]⟩,hO cQ ((G7 5).1) x13.length 44 x13.length x13,hO (cH [(none,0,0)]) ((G7 2).1) x10.length 24 x10.length x10,⟨some b4,1,114,1,1,[pS aH.cod v2]⟩,⟨some b1,1,113,4,1,(aM.enc a0)⟩]++gO cQ 44 [(none,0,0)] [([]:List Rat)])),(12,fun G7=>([⟨some ((G7 7).1.getD 0),1,24,1,1,[pS cQ ([]:List Rat)]⟩,⟨some ((G7 6).1.getD 0),1,62,1,1,[pS (sH cQ) ([]:List (List Rat))]⟩,⟨some b4,1,114,1,1,[pS aH.cod v2]⟩,⟨some b1,1,113,4,1,(aM.enc a0)⟩]++gO cQ 44 [(none,0,0)] [([]:List Rat)])),(13,fun G7=>([⟨some ((G7 7).1.getD 0),1,24,1,1,[pS cQ ([]:List Rat)]⟩,⟨some ((G7 6).1.getD 0),1,62,1,1,[pS (sH cQ) ([]:List (List Rat))]⟩,hO (cH [(none,0,0)]) ((G7 2).1) x10.length 24 x10.length x10,⟨some b4,1,114,1,1,[pS aH.cod v2]⟩,⟨some b1,1,113,4,1,(aM.enc a0)⟩]++gO cQ 44 [(none,0,0)] [([]:List Rat)])),(14,fun G7=>([⟨some ((G7 7).1.getD 0),1,24,1,1,[pS cQ ([]:List Rat)]⟩,⟨some ((G7 6).1.getD 0),1,62,1,1,[pS (sH cQ) ([]:List (List Rat))]⟩,hO cQ ((G7 5).1) x13.length 44 x13.length x13,⟨some b4,1,114,1,1,[pS aH.cod v2]⟩,⟨some b1,1,113,4,1,(aM.enc a0)⟩]++gO cQ 44 [(none,0,0)] [([]:List Rat)])),(15,fun G7=>([⟨some ((G7 7).1.getD 0),1,24,1,1,[pS cQ ([]:List Rat)]⟩,⟨some ((G7 6).1.getD 0),1,62,1,1,[pS (sH cQ) ([]:List (List Rat))]⟩,hO cQ ((G7 5).1) x13.length 44 x13.length x13,hO (cH [(none,0,0)]) ((G7 2).1) x10.length 24 x10.length x10,⟨some b4,1,114,1,1,[pS aH.cod v2]⟩,⟨some b1,1,113,4,1,(aM.enc a0)⟩]++gO cQ 44 [(none,0,0)] [([]:List Rat)])),(29,fun G7=>([⟨some ((G7 7).1.getD 0),1,24,1,1,[pS cQ ([]:List Rat)]⟩,⟨some ((G7 6).1.getD 0),1,62,1,1,[pO ((G7 2).1) x10.length x10.length]⟩,hO (cH [(none,0,0)]) ((G7 2).1) x10.length 24 x10.length x10,⟨some b4,1,114,1,1,[pS aH.cod v2]⟩,⟨some b1,1,113,4,1,(aM.enc a0)⟩]++gO cQ 44 [(none,0,0)] [([]:List Rat)])),(31,fun G7=>([⟨some ((G7 7).1.getD 0),1,24,1,1,[pS cQ ([]:List Rat)]⟩,⟨some ((G7 6).1.getD 0),1,62,1,1,[pO ((G7 2).1) x10.length x10.length]⟩,hO cQ ((G7 5).1) x13.length 44 x13.length x13,hO (cH [(none,0,0)]) ((G7 2).1) x10.length 24 x10.length x10,⟨some b4,1,114,1,1,[pS aH.cod v2]⟩,⟨some b1,1,113,4,1,(aM.enc a0)⟩]++gO cQ 44 [(none,0,0)] [([]:List Rat)]))]) [2,5,6,7,8] [0,1,3,0,8,24,0,0,199,511] 9 1 [.v (.vc (pS aH.cod v2)),.v (.vc (pI .i64 (v2.length:Int))),.g (fun b _=>.vc (pO b x10.length x10.length)),.v (.vc (pS aH.cod v2)),.v (.vc (pI .i64 (v2.length:Int))),.g (fun b _=>.vc (pO b x13.length x13.length)),.g (fun b _=>.vc (pP (some (b.getD 0)) 0)),.g (fun b _=>.vc (pP (some (b.getD 0)) 0)),.g (fun _ _=>.any)] aR ⟨⟨rfl,.run (L:=[0,2,4,6,8,10,12,14]) ⟨fun G7 A=>bD 0 1 rfl rfl rfl rfl (.one tyO114),fun G7 A=>bD 1 1 rfl rfl rfl rfl (.one tyO114),fun G7 A=>bD 1 1 rfl rfl rfl rfl (.one tyO114),fun G7 A=>bD 2 1 rfl rfl rfl rfl (.one tyO114),fun G7 A=>bD 1 1 rfl rfl rfl rfl (.one tyO114),fun G7 A=>bD 2 1 rfl rfl rfl rfl (.one tyO114),fun G7 A=>bD 2 1 rfl rfl rfl rfl (.one tyO114),fun G7 A=>bD 3 1 rfl rfl rfl rfl (.one tyO114),trivial⟩ (fun G7=>⟨rfl,trivial⟩)⟩,⟨rfl,.run (L:=[0,2,4,6,8,10,12,14]) ⟨fun G7 A=>bZ rfl tyS114,fun G7 A=>bZ rfl tyS114,fun G7 A=>bZ rfl tyS114,fun G7 A=>bZ rfl tyS114,fun G7 A=>bZ rfl tyS114,fun G7 A=>bZ rfl tyS114,fun G7 A=>bZ rfl tyS114,fun G7 A=>bZ rfl tyS114,trivial⟩ (fun G7=>⟨rfl,trivial⟩)⟩,⟨rfl,.hvy [0,2,4,6,8,10,12,14] ⟨fun G7 A=>gN (C:=cH [(none,0,0)]) (z:=0) rfl tyS62 rfl tyZ24_oq h11,fun G7 A=>oL (R:=gO cQ 44 [(none,0,0)] [([]:List Rat)]) [1,0,2,3] (gN (C:=cH [(none,0,0)]) (z:=0) rfl tyS62 rfl tyZ24_oq h11) (fun b_ c_=>⟨[hO (cH [(none,0,0)]) (b_) x10.length 24 x10.length x10,hO cQ ((G7 5).1) x13.length 44 x13.length x13,⟨some b4,1,114,1,1,[pS aH.cod v2]⟩,⟨some b1,1,113,4,1,(aM.enc a0)⟩],_,rfl,rfl,rfl⟩),fun G7 A=>oL (R:=gO cQ 44 [(none,0,0)] [([]:List Rat)]) [1,0,2,3] (gN (C:=cH [(none,0,0)]) (z:=0) rfl tyS62 rfl tyZ24_oq h11) (fun b_ c_=>⟨[hO (cH [(none,0,0)]) (b_) x10.length 24 x10.length x10,⟨some ((G7 6).1.getD 0),1,62,1,1,[pS (sH cQ) ([]:List (List Rat))]⟩,⟨some b4,1,114,1,1,[pS aH.cod v2]⟩,⟨some b1,1,113,4,1,(aM.enc a0)⟩],_,rfl,rfl,rfl⟩),fun G7 A=>oL (R:=gO cQ 44 [(none,0,0)] [([]:List Rat)]) [1,2,0,3,4] (gN (C:=cH [(none,0,0)]) (z:=0) rfl tyS62 rfl tyZ24_oq h11) (fun b_ c_=>⟨[hO (cH [(none,0,0)]) (b_) x10.length 24 x10.length x10,⟨some ((G7 6).1.getD 0),1,62,1,1,[pS (sH cQ) ([]:List (List Rat))]⟩,hO cQ ((G7 5).1) x13.length 44 x13.length x13,⟨some b4,1,114,1,1,[pS aH.cod v2]⟩,⟨some b1,1,113,4,1,(aM.enc a0)⟩],_,rfl,rfl,rfl⟩),fun G7 A=>oL (R:=gO cQ 44 [(none,0,0)] [([]:List Rat)]) [1,0,2,3] (gN (C:=cH [(none,0,0)]) (z:=0) rfl tyS62 rfl tyZ24_oq h11) (fun b_ c_=>⟨[hO (cH [(none,0,0)]) (b_) x10.length 24 x10.length x10,⟨some ((G7 7).1.getD 0),1,24,1,1,[pS cQ ([]:List Rat)]⟩,⟨some b4,1,114,1,1,[pS aH.cod v2]⟩,⟨some b1,1,113,4,1,(aM.enc a0)⟩],_,rfl,rfl,rfl⟩),fun G7 A=>oL (R:=gO cQ 44 [(none,0,0)] [([]:List Rat)]) [1,2,0,3,4] (gN (C:=cH [(none,0,0)]) (z:=0) rfl tyS62 rfl tyZ24_oq h11) (fun b_ c_=>⟨[hO (cH [(none,0,0)]) (b_) x10.length 24 x10.length x10,⟨some ((G7 7).1.getD 0),1,24,1,1,[pS cQ ([]:List Rat)]⟩,hO cQ ((G7 5).1) x13.length 44 x13.length x13,⟨some b4,1,114,1,1,[pS aH.cod v2]⟩,⟨some b1,1,113,4,1,(aM.enc a0)⟩],_,rfl,rfl,rfl⟩),fun G7 A=>oL (R:=gO cQ 44 [(none,0,0)] [([]:List Rat)]) [1,2,0,3,4] (gN (C:=cH [(none,0,0)]) (z:=0) rfl tyS62 rfl tyZ24_oq h11) (fun b_ c_=>⟨[hO (cH [(none,0,0)]) (b_) x10.length 24 x10.length x10,⟨some ((G7 7).1.getD 0),1,24,1,1,[pS cQ ([]:List Rat)]⟩,⟨some ((G7 6).1.getD 0),1,62,1,1,[pS (sH cQ) ([]:List (List Rat))]⟩,⟨some b4,1,114,1,1,[pS aH.cod v2]⟩,⟨some b1,1,113,4,1,(aM.enc a0)⟩],_,rfl,rfl,rfl⟩),fun G7 A=>oL (R:=gO cQ 44 [(none,0,0)] [([]:List Rat)]) [1,2,3,0,4,5] (gN (C:=cH [(none,0,0)]) (z:=0) rfl tyS62 rfl tyZ24_oq h11) (fun b_ c_=>⟨[hO (cH [(none,0,0)]) (b_) x10.length 24 x10.length x10,⟨some ((G7 7).1.getD 0),1,24,1,1,[pS cQ ([]:List Rat)]⟩,⟨some ((G7 6).1.getD 0),1,62,1,1,[pS (sH cQ) ([]:List (List Rat))]⟩,hO cQ ((G7 5).1) x13.length 44 x13.length x13,⟨some b4,1,114,1,1,[pS aH.cod v2]⟩,⟨some b1,1,113,4,1,(aM.enc a0)⟩],_,rfl,rfl,rfl⟩),trivial⟩ (fun G7=>⟨rfl,trivial⟩)⟩,⟨rfl,.run (L:=[0,1,4,5,8,9,12,13,29]) ⟨fun G7 A=>bD 0 1 rfl rfl rfl rfl (.one tyO114),fun G7 A=>bD 1 1 rfl rfl rfl rfl (.one tyO114),fun G7 A=>bD 1 1 rfl rfl rfl rfl (.one tyO114),fun G7 A=>bD 2 1 rfl rfl rfl rfl (.one tyO114),fun G7 A=>bD 1 1 rfl rfl rfl rfl (.one tyO114),fun G7 A=>bD 2 1 rfl rfl rfl rfl (.one tyO114),fun G7 A=>bD 2 1 rfl rfl rfl rfl (.one tyO114),fun G7 A=>bD 3 1 rfl rfl rfl rfl (.one tyO114),fun G7 A=>bD 3 1 rfl rfl rfl rfl (.one tyO114),trivial⟩ (fun G7=>⟨rfl,trivial⟩)⟩,⟨rfl,.run (L:=[0,1,4,5,8,9,12,13,29]) ⟨fun G7 A=>bZ rfl tyS114,fun G7 A=>bZ rfl tyS114,fun G7 A=>bZ rfl tyS114,fun G7 A=>bZ rfl tyS114,fun G7 A=>bZ rfl tyS114,fun G7 A=>bZ rfl tyS114,fun G7 A=>bZ rfl tyS114,fun G7 A=>bZ rfl tyS114,fun G7 A=>bZ rfl tyS114,trivial⟩ (fun G7=>⟨rfl,trivial⟩)⟩,⟨rfl,.hvy [0,1,4,5,8,9,12,13,29] ⟨fun G7 A=>gN (C:=cQ) rfl tyS24 rfl tyZ44q h14,fun G7 A=>gN (C:=cQ) rfl tyS24 rfl tyZ44q h14,fun G7 A=>oL (R:=gO cQ 44 [(none,0,0)] [([]:List Rat)]) [1,0,2,3] (gN (C:=cQ) rfl tyS24 rfl tyZ44q h14) (fun b_ c_=>⟨[hO cQ (b_) x13.length 44 x13.length x13,⟨some ((G7 6).1.getD 0),1,62,1,1,[pS (sH cQ) ([]:List (List Rat))]⟩,⟨some b4,1,114,1,1,[pS aH.cod v2]⟩,⟨some b1,1,113,4,1,(aM.enc a0)⟩],_,rfl,rfl,rfl⟩),fun G7 A=>oL (R:=gO cQ 44 [(none,0,0)] [([]:List Rat)]) [1,0,2,3,4] (gN (C:=cQ) rfl tyS24 rfl tyZ44q h14) (fun b_ c_=>⟨[hO cQ (b_) x13.length 44 x13.length x13,⟨some ((G7 6).1.getD 0),1,62,1,1,[pS (sH cQ) ([]:List (List Rat))]⟩,hO (cH [(none,0,0)]) ((G7 2).1) x10.length 24 x10.length x10,⟨some b4,1,114,1,1,[pS aH.cod v2]⟩,⟨some b1,1,113,4,1,(aM.enc a0)⟩],_,rfl,rfl,rfl⟩),fun G7 A=>oL (R:=gO cQ 44 [(none,0,0)] [([]:List Rat)]) [1,0,2,3] (gN (C:=cQ) rfl tyS24 rfl tyZ44q h14) (fun b_ c_=>⟨[hO cQ (b_) x13.length 44 x13.length x13,⟨some ((G7 7).1.getD 0),1,24,1,1,[pS cQ ([]:List Rat)]⟩,⟨some b4,1,114,1,1,[pS aH.cod v2]⟩,⟨some b1,1,113,4,1,(aM.enc a0)⟩],_,rfl,rfl,rfl⟩),fun G7 A=>oL (R:=gO cQ 44 [(none,0,0)] [([]:List Rat)]) [1,0,2,3,4] (gN (C:=cQ) rfl tyS24 rfl tyZ44q h14) (fun b_ c_=>⟨[hO cQ (b_) x13.length 44 x13.length x13,⟨some ((G7 7).1.getD 0),1,24,1,1,[pS cQ ([]:List Rat)]⟩,hO (cH [(none,0,0)]) ((G7 2).1) x10.length 24 x10.length x10,⟨some b4,1,114,1,1,[pS aH.cod v2]⟩,⟨some b1,1,113,4,1,(aM.enc a0)⟩],_,rfl,rfl,rfl⟩),fun G7 A=>oL (R:=gO cQ 44 [(none,0,0)] [([]:List Rat)]) [1,2,0,3,4] (gN (C:=cQ) rfl tyS24 rfl tyZ44q h14) (fun b_ c_=>⟨[hO cQ (b_) x13.length 44 x13.length x13,⟨some ((G7 7).1.getD 0),1,24,1,1,[pS cQ ([]:List Rat)]⟩,⟨some ((G7 6).1.getD 0),1,62,1,1,[pS (sH cQ) ([]:List (List Rat))]⟩,⟨some b4,1,114,1,1,[pS aH.cod v2]⟩,⟨some b1,1,113,4,1,(aM.enc a0)⟩],_,rfl,rfl,rfl⟩),fun G7 A=>oL (R:=gO cQ 44 [(none,0,0)] [([]:List Rat)]) [1,2,0,3,4,5] (gN (C:=cQ) rfl tyS24 rfl tyZ44q h14) (fun b_ c_=>⟨[hO cQ (b_) x13.length 44 x13.length x13,⟨some ((G7 7).1.getD 0),1,24,1,1,[pS cQ ([]:List Rat)]⟩,⟨some ((G7 6).1.getD 0),1,62,1,1,[pS (sH cQ) ([]:List (List Rat))]⟩,hO (cH [(none,0,0)]) ((G7 2).1) x10.length 24 x10.length x10,⟨some b4,1,114,1,1,[pS aH.cod v2]⟩,⟨some b1,1,113,4,1,(aM.enc a0)⟩],_,rfl,rfl,rfl⟩),fun G7 A=>oL (R:=gO cQ 44 [(none,0,0)] [([]:List Rat)]) [1,2,0,3,4,5] (gN (C:=cQ) rfl tyS24 rfl tyZ44q h14) (fun b_ c_=>⟨[hO cQ (b_) x13.length 44 x13.length x13,⟨some ((G7 7).1.getD 0),1,24,1,1,[pS cQ ([]:List Rat)]⟩,⟨some ((G7 6).1.getD 0),1,62,1,1,[pO ((G7 2).1) x10.length x10.length]⟩,hO (cH [(none,0,0)]) ((G7 2).1) x10.length 24 x10.length x10,⟨some b4,1,114,1,1,[pS aH.cod v2]⟩,⟨some b1,1,113,4,1,(aM.enc a0)⟩],_,rfl,rfl,rfl⟩),trivial⟩ (fun G7=>⟨rfl,trivial⟩)⟩,⟨rfl,.hvy (ins:=fun _=>[]) [0,1,2,3,8,9,10,11] ⟨fun G7 A=>lI (T:=62) (zs:=[pS (sH cQ) ([]:List (List Rat))]) rfl tyZ62q,fun G7 A=>lI (T:=62) (zs:=[pS (sH cQ) ([]:List (List Rat))]) rfl tyZ62q,fun G7 A=>lI (T:=62) (zs:=[pS (sH cQ) ([]:List (List Rat))]) rfl tyZ62q,fun G7 A=>lI (T:=62) (zs:=[pS (sH cQ) ([]:List (List Rat))]) rfl tyZ62q,fun G7 A=>oL (R:=gO cQ 44 [(none,0,0)] [([]:List Rat)]) [1,0,2,3] (lI (T:=62) (zs:=[pS (sH cQ) ([]:List (List Rat))]) rfl tyZ62q) (fun b_ c_=>⟨[⟨some (b_.getD 0),1,62,1,1,[pS (sH cQ) ([]:List (List Rat))]⟩,⟨some ((G7 7).1.getD 0),1,24,1,1,[pS cQ ([]:List Rat)]⟩,⟨some b4,1,114,1,1,[pS aH.cod v2]⟩,⟨some b1,1,113,4,1,(aM.enc a0)⟩],_,rfl,rfl,rfl⟩),fun G7 A=>oL (R:=gO cQ 44 [(none,0,0)] [([]:List Rat)]) [1,0,2,3,4] (lI (T:=62) (zs:=[pS (sH cQ) ([]:List (List Rat))]) rfl tyZ62q) (fun b_ c_=>⟨[⟨some (b_.getD 0),1,62,1,1,[pS (sH cQ) ([]:List (List Rat))]⟩,⟨some ((G7 7).1.getD 0),1,24,1,1,[pS cQ ([]:List Rat)]⟩,hO (cH [(none,0,0)]) ((G7 2).1) x10.length 24 x10.length x10,⟨some b4,1,114,1,1,[pS aH.cod v2]⟩,⟨some b1,1,113,4,1,(aM.enc a0)⟩],_,rfl,rfl,rfl⟩),fun G7 A=>oL (R:=gO cQ 44 [(none,0,0)] [([]:List Rat)]) [1,0,2,3,4] (lI (T:=62) (zs:=[pS (sH cQ) ([]:List (List Rat))]) rfl tyZ62q) (fun b_ c_=>⟨[⟨some (b_.getD 0),1,62,1,1,[pS (sH cQ) ([]:List (List Rat))]⟩,⟨some ((G7 7).1.getD 0),1,24,1,1,[pS cQ ([]:List Rat)]⟩,hO cQ ((G7 5).1) x13.length 44 x13.length x13,⟨some b4,1,114,1,1,[pS aH.cod v2]⟩,⟨some b1,1,113,4,1,(aM.enc a0)⟩],_,rfl,rfl,rfl⟩),fun G7 A=>oL (R:=gO cQ 44 [(none,0,0)] [([]:List Rat)]) [1,0,2,3,4,5] (lI (T:=62) (zs:=[pS (sH cQ) ([]:List (List Rat))]) rfl tyZ62q) (fun b_ c_=>⟨[⟨some (b_.getD 0),1,62,1,1,[pS (sH cQ) ([]:List (List Rat))]⟩,⟨some ((G7 7).1.getD 0),1,24,1,1,[pS cQ ([]:List Rat)]⟩,hO cQ ((G7 5).1) x13.length 44 x13.length x13,hO (cH [(none,0,0)]) ((G7 2).1) x10.length 24 x10.length x10,⟨some b4,1,114,1,1,[pS aH.cod v2]⟩,⟨some b1,1,113,4,1,(aM.enc a0)⟩],_,rfl,rfl,rfl⟩),trivial⟩ (fun G7=>trivial)⟩,⟨rfl,.hvy (ins:=fun _=>[]) [0,1,2,3,4,5,6,7] ⟨fun G7 A=>lI (T:=24) (zs:=[pS cQ ([]:List Rat)]) rfl tyZ24q,fun G7 A=>lI (T:=24) (zs:=[pS cQ ([]:List Rat)]) rfl tyZ24q,fun G7 A=>lI (T:=24) (zs:=[pS cQ ([]:List Rat)]) rfl tyZ24q,fun G7 A=>lI (T:=24) (zs:=[pS cQ ([]:List Rat)]) rfl tyZ24q,fun G7 A=>lI (T:=24) (zs:=[pS cQ ([]:List Rat)]) rfl tyZ24q,fun G7 A=>lI (T:=24) (zs:=[pS cQ ([]:List Rat)]) rfl tyZ24q,fun G7 A=>lI (T:=24) (zs:=[pS cQ ([]:List Rat)]) rfl tyZ24q,fun G7 A=>lI (T:=24) (zs:=[pS cQ ([]:List Rat)]) rfl tyZ24q,trivial⟩ (fun G7=>trivial)⟩,⟨rfl,.hvy [13,15] ⟨fun G7 A=>aGQ (dA 1 rfl rfl rfl tyO62.s),fun G7 A=>aGQ (dA 1 rfl rfl rfl tyO62.s),trivial⟩ (fun G7=>⟨rfl,rfl,trivial⟩)⟩,trivial⟩ (fun bs8 G7=>?_)
 refine aY (dA 0 rfl rfl rfl tyO24.s) ⟨rfl,rfl,trivial⟩ ?_
 refine aC (aA (aD (aD (aE (aB (bD 1 1 rfl rfl rfl rfl (.one tyO62)) ⟨rfl,trivial⟩ ?_)))))
 refine aB (y0 (C:=(cH [(none,0,0)])) (xs:=x10) (T:=24) rfl tyS62 rfl) ⟨rfl,trivial⟩ ?_
 refine aB (aL (.inl rfl)) ⟨bC _ _,trivial⟩ ?_
 refine aC (aA (bN (cL (fun H E=>∃(x77:List Nat),∃(x83:List (List Rat)),∃(b78:Option Nat),∃(c79:Nat),∃(n80:Nat),∃(g84:List rY),∃(N85:Nat),mU K a0 v2 x13 x77 x83=some r∧x77.length=n80∧x83.length=N85∧jW g84 x83∧(∀k∈x77,k<N85)∧H=([⟨some ((G7 7).1.getD 0),1,24,1,1,[pO ((G7 5).1) x13.length x13.length]⟩,⟨some ((G7 6).1.getD 0),1,62,1,1,[pO b78 n80 c79]⟩,hO cQ ((G7 5).1) x13.length 44 x13.length x13,hO (cH g84) b78 c79 24 n80 x77,⟨some b4,1,114,1,1,[pS aH.cod v2]⟩,⟨some b1,1,113,4,1,(aM.enc a0)⟩]++gO cQ 44 g84 x83)∧E=[(1,.vc (pP (some b1) 0)),(4,.vc (pP (some b4) 0)),(5,.vc (pF 156 [pP (some b4) 0,pP (some b1) 0])),(6,.vc (pP (some ((G7 6).1.getD 0)) 0)),(7,.vc (pP (some ((G7 7).1.getD 0)) 0))]) ?_ (fun Jj90=>?_))))
 ·rintro _ _ ⟨x77,x83,b78,c79,n80,g84,N85,hF,q81,q86,q87,q88,rfl,rfl⟩
  unfold mU at hF
  refine aA (aD (aE (aB (a8 (off:=0) (k:=3) rfl tyF113_3) ⟨rfl,trivial⟩ ?_)))
  refine aB (bD 5 1 rfl rfl rfl rfl (.one tyO25)) ⟨rfl,trivial⟩ ?_
  refine aB (bZ rfl tyS25) ⟨rfl,trivial⟩ ?_
  obtain⟨x91,h92,hF⟩:=aO hF
  refine rK (C:=aS.cod) (z:=(⟨0,0⟩:aS)) rfl tyS29 rfl tyZ58q rfl h92 (fun b93=>?_)
  refine bB ?_
  refine aC (aA (aD (aE (aF ?_))))
  refine aB (bD 6 4 rfl rfl rfl rfl (.agg tyA113)) ⟨rfl,trivial⟩ ?_
  refine aB (a8 (off:=0) (k:=1) rfl tyF113_1) ⟨rfl,trivial⟩ ?_
  refine aB (bD 6 1 rfl rfl rfl rfl (.one tyO24)) ⟨rfl,trivial⟩ ?_
  refine aF ?_
  refine xZ 0 [9,39,44] rfl rfl ⟨rfl,rfl,rfl,trivial⟩ rfl ?_
  obtain⟨v96,h97,hF⟩:=aO hF
  refine aB (aG rfl (cT h97) rfl) ⟨rfl,rfl,rfl,trivial⟩ ?_
  refine aB (aA7 (xs:=[.tmp 7]) (cs:=[pP (some ((G7 7).1.getD 0)) 0]) rfl rfl) ⟨rfl,trivial⟩ ?_
  obtain⟨v98,h99,hF⟩:=aO hF
  refine aEr (f:=156) (cs:=[pP (some b4) 0,pP (some b1) 0]) (pre:=[.vc (pS cQ v96),.vc (pF 157 [pP (some ((G7 7).1.getD 0)) 0])]) (xs:=[.tmp 45,.tmp 46]) 6 [0,4,5,2] [1,3] rfl (r9 h99 rfl) ⟨rfl,rfl,rfl,trivial⟩ rfl rfl rfl (by decide) ?_
  rintro _ _ ⟨b100,c101,n102,q103,rfl,rfl⟩
  refine aC (aA (aD (aE ?_)))
  obtain⟨v105,h106,hF⟩:=aO hF
  refine aB (aG rfl (t7 h106) rfl) ⟨bC _ _,bC _ _,trivial⟩ ?_
  refine bJ rfl tyZ44q (fun b107=>?_)
  refine aY (dA 0 rfl rfl rfl tyA44.s) ⟨rfl,rfl,trivial⟩ ?_
  refine aC (aA (aD (aD (aE (aB (bD 2 1 rfl rfl rfl rfl (.one tyO114)) ⟨rfl,trivial⟩ ?_)))))
  refine aB (bZ rfl tyS114) ⟨rfl,trivial⟩ ?_
  refine aB (aL (.inl rfl)) ⟨bC _ _,trivial⟩ ?_
  refine aC (aA (bN (cL (fun H E=>∃(x134:List Nat),∃(x140:List (List Rat)),∃(b135:Option Nat),∃(c136:Nat),∃(n137:Nat),∃(g141:List rY),∃(N142:Nat),l8 K v98 x134 x140=some r∧x134.length=n137∧x140.length=N142∧jW g141 x140∧(∀k∈x134,k<N142)∧H=([⟨some ((G7 7).1.getD 0),1,24,1,1,[pO b100 n102 c101]⟩,hO cQ b100 c101 44 n102 v98,⟨some ((G7 6).1.getD 0),1,62,1,1,[pO b135 n137 c136]⟩,hO (cH g141) b135 c136 24 n137 x134]++gO cQ 44 g141 x140)∧E=[(6,.vc (pP (some ((G7 6).1.getD 0)) 0)),(7,.vc (pP (some ((G7 7).1.getD 0)) 0))]) ?_ (fun Jj147=>?_))))
  ·rintro _ _ ⟨x134,x140,b135,c136,n137,g141,N142,hF,q138,q143,q144,q145,rfl,rfl⟩
   unfold l8 at hF
   refine aA (aD (bP [0,0,1,7] 4 0 [.v (.vc (pO b135 n137 c136)),.v (.vc (pO b100 n102 c101)),.v (.vc (pO b135 n137 c136)),.v (.vc (pO b100 n102 c101))] aR ⟨d0 (bD 2 1 rfl rfl rfl rfl (.one tyO62)) ⟨rfl,trivial⟩,d0 (bD 0 1 rfl rfl rfl rfl (.one tyO24)) ⟨rfl,trivial⟩,d0 (aL (.inr rfl)) ⟨rfl,trivial⟩,d0 (aL (.inr rfl)) ⟨rfl,trivial⟩,trivial⟩ (fun bs149 G148=>?_)))
   refine aC (aA (aX (aW (aGO 3 4 rfl rfl q144 (aBx q143 q145) ?_))))
   refine t5 3 [2,180] rfl ((aEg _ _).trans q138) ⟨rfl,rfl,trivial⟩ rfl ?_
   refine t5 1 [3,181] rfl q103 ⟨rfl,rfl,trivial⟩ rfl ?_
   obtain rfl:=bX hF
   exact aI (.inl rfl) Tryz.results71 (.tmp rfl (.tmp rfl .nil)) rfl rfl
  obtain⟨⟨x134',x140'⟩,hL,hRl146⟩:=aO hF
  refine gY (fun k a w=>∃(x121:List Nat),∃(x127:List (List Rat)),∃(x133:Int),∃(b122:Option Nat),∃(c123:Nat),∃(n124:Nat),∃(g128:List rY),∃(N129:Nat),cR K a0 v2 x91 v105 k x121 x127 x133=some (x134',x140')∧x121.length=n124∧x127.length=N129∧jW g128 x127∧(∀k∈x121,k<N129)∧hs _ ([⟨some b107,1,44,4,1,(eQ v105)⟩,⟨some ((G7 7).1.getD 0),1,24,1,1,[pO b100 n102 c101]⟩,⟨some b4,1,114,1,1,[pS aH.cod v2]⟩,⟨some b1,1,113,4,1,(aM.enc a0)⟩,hO cQ b100 c101 44 n102 v98,⟨some ((G7 6).1.getD 0),1,62,1,1,[pO b122 n124 c123]⟩,hO (cH g128) b122 c123 24 n124 x121]++gO cQ 44 g128 x127) [(1,.vc (pP (some b1) 0)),(4,.vc (pP (some b4) 0)),(5,.vc (pF 156 [pP (some b4) 0,pP (some b1) 0])),(6,.vc (pP (some ((G7 6).1.getD 0)) 0)),(7,.vc (pP (some ((G7 7).1.getD 0)) 0)),(9,.vc (pS aS.cod x91)),(10,.vc (pP (some b107) 0)),(49,.vc (pS aH.cod v2)),(50,.vc (pI .i64 (v2.length:Int))),(51,.vc (pI .i64 x133))] a w) K (fun a w ⟨_,_,_,_,_,_,_,_,hF,_,_,_,_,_⟩=>by cases hF) (fun k a w ⟨x121,x127,x133,b122,c123,n124,g128,N129,hF,q125,q130,q131,q132,hh⟩=>gX ?_ hh) (fun a w hh=>⟨x77,x83,0,b78,c79,n80,g84,N85,hL,q81,q86,q87,q88,cO 7 [0,1,2,3,4,5,6] rfl rfl (by decide) (by exact⟨rfl,rfl,rfl,rfl,rfl,rfl,rfl,rfl,rfl,rfl,trivial⟩) hh⟩)
  rw [cR.eq_2] at hF
  refine aD (aE (aB (dQ rfl) ⟨rfl,rfl,trivial⟩ ?_))
  refine aC (aA (aD (bO rfl (fun h151=>?_) (fun h151=>?_))))
  ·have hF:=aT h151 hF
   refine aV (aA (aD (bN (aD (aE (aF ?_))))))
   obtain⟨v152,h153,hF⟩:=aO hF
   refine aB (dX rfl tyS114 h153) ⟨rfl,rfl,trivial⟩ ?_
   refine aB (dM 2 rfl rfl (.agg tyA118)) ⟨rfl,trivial⟩ ?_
   refine bJ rfl tyZ3q (fun b154=>?_)
   refine bJ rfl tyZ118q (fun b155=>?_)
   refine aY (dA 1 rfl rfl rfl tyO3.s) ⟨rfl,rfl,trivial⟩ ?_
   refine aY (dA 0 rfl rfl rfl tyA118.s) ⟨rfl,rfl,trivial⟩ ?_
   refine aC (aA (aD (aE (aF ?_))))
   obtain⟨v156,h157,hF⟩:=aO hF
   refine aFt rfl (uZ h157) ⟨rfl,trivial⟩ ?_
   rintro _ _ ⟨b159,c160,n161,q162,rfl,rfl⟩
   refine bB ?_
   refine aC (aA (aD (aE (aB (a8 (off:=0) (k:=3) rfl tyF113_3) ⟨rfl,trivial⟩ ?_))))
   refine aB (bD 6 1 rfl rfl rfl rfl (.one tyO25)) ⟨rfl,trivial⟩ ?_
   refine aB (a8 (off:=0) (k:=0) rfl tyF118_0) ⟨rfl,trivial⟩ ?_
   refine aB (bD 1 1 rfl rfl rfl rfl (.one tyO3)) ⟨rfl,trivial⟩ ?_
   obtain⟨v164,h165,hF⟩:=aO hF
   refine aB (dX rfl tyS25 h165) ⟨rfl,rfl,trivial⟩ ?_
   refine aB (dM 18 rfl rfl (.agg tyA51)) ⟨rfl,trivial⟩ ?_
   refine bJ rfl tyZ51q (fun b166=>?_)
   refine aY (dA 0 rfl rfl rfl tyA51.s) ⟨rfl,rfl,trivial⟩ ?_
   refine aC (aA (aD (aD (aE (aB (a8 (off:=0) (k:=1) rfl tyF118_1) ⟨rfl,trivial⟩ ?_)))))
   refine aB (bD 2 1 rfl rfl rfl rfl (.one tyO3)) ⟨rfl,trivial⟩ ?_
   refine aC (aA (bN (aD (aE (aB (iJ rfl) ⟨rfl,bC _ _,trivial⟩ ?_)))))
   refine bB ?_
   refine aC (aA (bO rfl (fun h167=>?_) (fun h167=>?_)))
   ·have hF:=aT h167 hF
    refine aD (aE (aF ?_))
    refine aB (a8 (off:=0) (k:=0) rfl tyF118_0) ⟨rfl,trivial⟩ ?_
    refine aB (bD 2 1 rfl rfl rfl rfl (.one tyO3)) ⟨rfl,trivial⟩ ?_
    refine aB (bD 4 4 rfl rfl rfl rfl (.agg tyA44)) ⟨rfl,trivial⟩ ?_
    obtain⟨v168,h169,hF⟩:=aO hF
    refine aB (cE (C:=aS.cod) 1 rfl tyS29 rfl q162 (aN h169).1 (aN h169).2.1) ⟨rfl,rfl,trivial⟩ ?_
    refine aB (vI (off:=0) (k:=0) rfl tyF58_0) ⟨rfl,trivial⟩ ?_
    obtain⟨x170,h171,hF⟩:=aO hF
    refine aY (fL 1 rfl rfl h169 h171 tyA44.s) ⟨rfl,rfl,trivial⟩ ?_
    refine aC (aA (aD (rB (fun H E=>∃(x174:List aS),jD K a0 v2 x121 x127 x133 v152 v164 (cR K a0 v2 x91 v105 k) x174=some (x134',x140')∧x174.length=n161∧H=([⟨some b166,1,51,18,1,(aK.enc v164)⟩,hO aS.cod b159 c160 58 n161 x174,⟨some b155,1,118,2,1,(aH.enc v152)⟩,⟨some b154,1,3,1,1,[pI .i64 x133]⟩,⟨some b107,1,44,4,1,(eQ v105)⟩,⟨some ((G7 7).1.getD 0),1,24,1,1,[pO b100 n102 c101]⟩,⟨some b4,1,114,1,1,[pS aH.cod v2]⟩,⟨some b1,1,113,4,1,(aM.enc a0)⟩,hO cQ b100 c101 44 n102 v98,⟨some ((G7 6).1.getD 0),1,62,1,1,[pO b122 n124 c123]⟩,hO (cH g128) b122 c123 24 n124 x121]++gO cQ 44 g128 x127)∧E=[(1,.vc (pP (some b1) 0)),(4,.vc (pP (some b4) 0)),(5,.vc (pF 156 [pP (some b4) 0,pP (some b1) 0])),(6,.vc (pP (some ((G7 6).1.getD 0)) 0)),(7,.vc (pP (some ((G7 7).1.getD 0)) 0)),(9,.vc (pS aS.cod x91)),(10,.vc (pP (some b107) 0)),(11,.vc (pP (some b154) 0)),(12,.vc (pP (some b155) 0)),(13,.vc (pO b159 n161 c160)),(14,.vc (pP (some b166) 0)),(49,.vc (pS aH.cod v2)),(50,.vc (pI .i64 (v2.length:Int))),(51,.vc (pI .i64 x133))]) ?_ (fun Jj180=>?_))))
    ·rintro _ _ ⟨x174,hF,q178,rfl,rfl⟩
     unfold jD at hF
     refine aD ?_
     obtain⟨v183,h184,hF⟩:=aO hF
     rcases Bool.eq_false_or_eq_true (decide (v183<(v2.length:Int))) with h185|h185
     ·have hF:=aT h185 hF
      obtain⟨v186,h187,hF⟩:=aO hF
      obtain⟨v188,h189,hF⟩:=aO hF
      refine bP [0,1,0,4,15,31,63,63,191,511,1023,63,2111,6207,16383,32767] 16 0 [.v (.vc (pI .i64 x133)),.v (.vc (pI .i64 v183)),.v (.vc (pS aH.cod v2)),.v (.vc (pI .i64 (v2.length:Int))),.v (.vc (pB (decide (v183<(v2.length:Int))))),.v (.vc (pB true)),.v (.vc (pS aH.cod v2)),.v (.vc (pI .i64 x133)),.v (.vc (pI .i64 v186)),.v (.vc (pM (aH.cod.e v188))),.v (.va (aH.enc v188)),.v (.vc (pP (some b155) 0)),.v (.vc (pI .i64 v152.row)),.v (.va ([pI .i64 v152.row]++[pI .i64 3])),.v (.vc (pB (v188.row==v152.row&&v188.kind==3))),.v (.vc (pB (v188.row==v152.row&&v188.kind==3)))] aR ⟨d0 (bD 3 1 rfl rfl rfl rfl (.one tyO3)) ⟨rfl,trivial⟩,d0 (bI rfl h184) ⟨rfl,bC _ _,trivial⟩,d0 (bD 6 1 rfl rfl rfl rfl (.one tyO114)) ⟨rfl,trivial⟩,d0 (bZ rfl tyS114) ⟨rfl,trivial⟩,d0 (dQ rfl) ⟨rfl,rfl,trivial⟩,d0 (cW (aL (.inl rfl)) h185) ⟨rfl,trivial⟩,g0 (bD 6 1 rfl rfl rfl rfl (.one tyO114)) ⟨rfl,trivial⟩,g0 (bD 3 1 rfl rfl rfl rfl (.one tyO3)) ⟨rfl,trivial⟩,g0 (bI rfl h187) ⟨rfl,bC _ _,trivial⟩,g0 (dX rfl tyS114 h189) ⟨rfl,rfl,trivial⟩,g0 (dM 2 rfl rfl (.agg tyA118)) ⟨rfl,trivial⟩,g0 (a8 (off:=0) (k:=0) rfl tyF118_0) ⟨rfl,trivial⟩,g0 (bD 2 1 rfl rfl rfl rfl (.one tyO3)) ⟨rfl,trivial⟩,g0 (fA (is:=[0,1]) (xs:=[.tmp 99,.const (.int .i64 (3))]) (ps:=[.vc (pI .i64 v152.row),.vc (pI .i64 3)]) rfl tyB118q rfl rfl ⟨trivial,trivial,trivial⟩ rfl) ⟨rfl,bC _ _,trivial⟩,g0 (aGP rfl tyQ118) ⟨rfl,rfl,trivial⟩,d0 (bK rfl) ⟨rfl,rfl,trivial⟩,trivial⟩ (fun bs182 G181=>?_)
      refine aC (aA (bO rfl (fun h190=>?_) (fun h190=>?_)))
      ·have hF:=aT h190 hF
       obtain⟨v193,h194,hF⟩:=aO hF
       obtain⟨v195,h196,hF⟩:=aO hF
       obtain⟨v197,h198,hF⟩:=aO hF
       refine bP [0,0,2,7,15,0,0,64,255,511] 9 1 [.v (.vc (pO b122 n124 c123)),.v (.vc (pI .i64 x133)),.v (.vc (pI .i64 v193)),.v (.vc (pE b122 v193 (cH g128).n 0)),.v (.vc (pO (iC g128 v195).1 (iC g128 v195).2.1 (iC g128 v195).2.2)),.v (.vc (pI .i64 x133)),.v (.vc (pP (some b166) 10)),.v (.va (eQ v164.mu)),.v (.vc (pE (iC g128 v195).1 x133 cQ.n 0))] aR ⟨d0 (bD 9 1 rfl rfl rfl rfl (.one tyO62)) ⟨rfl,trivial⟩,d0 (bD 3 1 rfl rfl rfl rfl (.one tyO3)) ⟨rfl,trivial⟩,d0 (bI rfl h194) ⟨rfl,bC _ _,trivial⟩,d0 (cE (C:=(cH g128)) 10 rfl tyS62 rfl q125 (aN h196).1 (aN h196).2.1) ⟨rfl,rfl,trivial⟩,d0 (gA (C:=(cH g128)) (k:=1) 10 rfl rfl h196 rfl (.one tyO24) rfl) ⟨rfl,trivial⟩,d0 (bD 3 1 rfl rfl rfl rfl (.one tyO3)) ⟨rfl,trivial⟩,d0 (a8 (off:=0) (k:=10) rfl tyF51_7) ⟨rfl,trivial⟩,d0 (bD 0 4 rfl rfl rfl rfl (.agg tyA44)) ⟨rfl,trivial⟩,d0 (cE (11+v195) rfl tyS24 (iY 11 rfl q131 q130 (q132 _ (bW h196))) (kD q131 q130 (q132 _ (bW h196))) (aN h198).1 (aN h198).2.1) ⟨rfl,rfl,trivial⟩,trivial⟩ (fun bs192 G191=>?_)
       obtain⟨x199,h200,hF⟩:=aO hF
       refine aY (fL (H':=([⟨some b166,1,51,18,1,(aK.enc v164)⟩,hO aS.cod b159 c160 58 n161 x174,⟨some b155,1,118,2,1,(aH.enc v152)⟩,⟨some b154,1,3,1,1,[pI .i64 x133]⟩,⟨some b107,1,44,4,1,(eQ v105)⟩,⟨some ((G7 7).1.getD 0),1,24,1,1,[pO b100 n102 c101]⟩,⟨some b4,1,114,1,1,[pS aH.cod v2]⟩,⟨some b1,1,113,4,1,(aM.enc a0)⟩,hO cQ b100 c101 44 n102 v98,⟨some ((G7 6).1.getD 0),1,62,1,1,[pO b122 n124 c123]⟩,hO (cH g128) b122 c123 24 n124 x121]++gO cQ 44 g128 (x127.set v195 x199))) (11+v195) rfl (xI 11 rfl q131 q130 (q132 _ (bW h196))) h198 h200 tyA44.s (hH:=stN 11 rfl q131 q130 (q132 _ (bW h196)))) ⟨rfl,rfl,trivial⟩ ?_
       refine aC (bF (aA (yY 1 [13] rfl q178 ⟨rfl,trivial⟩ rfl ?_)))
       refine aAM 2 [(11,0)] rfl ⟨rfl,trivial⟩ rfl ?_
       obtain⟨x204,h205,hF⟩:=aO hF
       obtain⟨v206,h207,hF⟩:=aO hF
       refine bP [0,0,0,4,12,28,0,126,0,511] 9 1 [.v (.vc (pF 156 [pP (some b4) 0,pP (some b1) 0])),.v (.va (aM.enc a0)),.v (.vc (pP (some b1) 0)),.v (.vc (pS bE.cod a0.dofs)),.v (.vc (pI .i64 (a0.dofs.length:Int))),.v (.vc (pS cQ x204)),.v (.vc (pS aS.cod x174)),.v (.vc (pS cQ v206)),.v (.vc (pF 159 [pP (some ((G7 6).1.getD 0)) 0,pM (cI.e x133)]))] aR ⟨d0 (aL (.inl rfl)) ⟨rfl,trivial⟩,d0 (bD 5 4 rfl rfl rfl rfl (.agg tyA113)) ⟨rfl,trivial⟩,d0 (a8 (off:=0) (k:=0) rfl tyF113_0) ⟨rfl,trivial⟩,d0 (bD 5 1 rfl rfl rfl rfl (.one tyO23)) ⟨rfl,trivial⟩,d0 (bZ rfl tyS23) ⟨rfl,trivial⟩,d0 (yQ 0 (gN (C:=cQ) rfl tyS24 rfl tyZ44q h205) (fun _ _=>rfl) rfl (fun _ _=>rfl)) ⟨rfl,trivial⟩,d0 (aL (.inl rfl)) ⟨rfl,trivial⟩,d0 (aG rfl (cT h207) rfl) ⟨rfl,rfl,rfl,trivial⟩,d0 (aA7 (xs:=[.tmp 6,.tmp 11]) (cs:=[pP (some ((G7 6).1.getD 0)) 0,pM (cI.e x133)]) rfl rfl) ⟨rfl,rfl,trivial⟩,trivial⟩ (fun bs203 G202=>?_)
       obtain⟨v208,h209,hF⟩:=aO hF
       refine rG (f:=156) (cs:=[pP (some b4) 0,pP (some b1) 0]) (pre:=[.vc (pS cQ v206),.vc (pF 159 [pP (some ((G7 6).1.getD 0)) 0,pM (cI.e x133)])]) (xs:=[.tmp 176,.tmp 177]) 9 [7,4,5,8] [0,1,2,3,6] rfl (fB h209 q125 (qL q130) (sJ q131 q130 (q132 _ (bW h196)) (b0 h200 rfl)) q132) ⟨rfl,rfl,rfl,trivial⟩ rfl rfl rfl (by decide) ?_
       rintro _ _ ⟨b210,c211,n212,g215,N216,q213,q217,q218,q219,rfl,rfl⟩
       refine pJ (nD [⟨some ((G7 6).1.getD 0),1,62,1,1,[pO b210 n212 c211]⟩,⟨some b4,1,114,1,1,[pS aH.cod v2]⟩,⟨some b1,1,113,4,1,(aM.enc a0)⟩,hO (cH g215) b210 c211 24 n212 v208.1] (gO cQ 44 g215 v208.2) [⟨some b166,1,51,18,1,(aK.enc v164)⟩,⟨some b155,1,118,2,1,(aH.enc v152)⟩,⟨some b107,1,44,4,1,(eQ v105)⟩,⟨some ((G7 7).1.getD 0),1,24,1,1,[pO b100 n102 c101]⟩,hO cQ b100 c101 44 n102 v98]) ?_
       refine aC (bF (aA (aE ?_)))
       obtain⟨v221,h222,hF⟩:=aO hF
       refine aB (bI rfl h222) ⟨rfl,bC _ _,trivial⟩ ?_
       refine aF ?_
       refine aC ?_
       exact bG (fun a w hh=>⟨v208.1,v208.2,v221,b210,c211,n212,g215,N216,hF,q213,q217,q218,q219,cO 9 [6,7,1,2,8,0,3] rfl rfl (by decide) (by exact⟨rfl,rfl,rfl,rfl,rfl,rfl,rfl,rfl,rfl,rfl,trivial⟩) hh⟩)
      have hF:=aU h190 hF
      refine aV (bF (aA (yY 1 [13] rfl q178 ⟨rfl,trivial⟩ rfl ?_)))
      refine aAM 2 [(11,0)] rfl ⟨rfl,trivial⟩ rfl ?_
      obtain⟨x225,h226,hF⟩:=aO hF
      obtain⟨v227,h228,hF⟩:=aO hF
      refine bP [0,0,0,4,12,28,0,126,0,511] 9 1 [.v (.vc (pF 156 [pP (some b4) 0,pP (some b1) 0])),.v (.va (aM.enc a0)),.v (.vc (pP (some b1) 0)),.v (.vc (pS bE.cod a0.dofs)),.v (.vc (pI .i64 (a0.dofs.length:Int))),.v (.vc (pS cQ x225)),.v (.vc (pS aS.cod x174)),.v (.vc (pS cQ v227)),.v (.vc (pF 159 [pP (some ((G7 6).1.getD 0)) 0,pM (cI.e x133)]))] aR ⟨d0 (aL (.inl rfl)) ⟨rfl,trivial⟩,d0 (bD 5 4 rfl rfl rfl rfl (.agg tyA113)) ⟨rfl,trivial⟩,d0 (a8 (off:=0) (k:=0) rfl tyF113_0) ⟨rfl,trivial⟩,d0 (bD 5 1 rfl rfl rfl rfl (.one tyO23)) ⟨rfl,trivial⟩,d0 (bZ rfl tyS23) ⟨rfl,trivial⟩,d0 (yQ 0 (gN (C:=cQ) rfl tyS24 rfl tyZ44q h226) (fun _ _=>rfl) rfl (fun _ _=>rfl)) ⟨rfl,trivial⟩,d0 (aL (.inl rfl)) ⟨rfl,trivial⟩,d0 (aG rfl (cT h228) rfl) ⟨rfl,rfl,rfl,trivial⟩,d0 (aA7 (xs:=[.tmp 6,.tmp 11]) (cs:=[pP (some ((G7 6).1.getD 0)) 0,pM (cI.e x133)]) rfl rfl) ⟨rfl,rfl,trivial⟩,trivial⟩ (fun bs224 G223=>?_)
      obtain⟨v229,h230,hF⟩:=aO hF
      refine rG (f:=156) (cs:=[pP (some b4) 0,pP (some b1) 0]) (pre:=[.vc (pS cQ v227),.vc (pF 159 [pP (some ((G7 6).1.getD 0)) 0,pM (cI.e x133)])]) (xs:=[.tmp 176,.tmp 177]) 9 [7,4,5,8] [0,1,2,3,6] rfl (fB h230 q125 q130 q131 q132) ⟨rfl,rfl,rfl,trivial⟩ rfl rfl rfl (by decide) ?_
      rintro _ _ ⟨b231,c232,n233,g236,N237,q234,q238,q239,q240,rfl,rfl⟩
      refine pJ (nD [⟨some ((G7 6).1.getD 0),1,62,1,1,[pO b231 n233 c232]⟩,⟨some b4,1,114,1,1,[pS aH.cod v2]⟩,⟨some b1,1,113,4,1,(aM.enc a0)⟩,hO (cH g236) b231 c232 24 n233 v229.1] (gO cQ 44 g236 v229.2) [⟨some b166,1,51,18,1,(aK.enc v164)⟩,⟨some b155,1,118,2,1,(aH.enc v152)⟩,⟨some b107,1,44,4,1,(eQ v105)⟩,⟨some ((G7 7).1.getD 0),1,24,1,1,[pO b100 n102 c101]⟩,hO cQ b100 c101 44 n102 v98]) ?_
      refine aC (bF (aA (aE ?_)))
      obtain⟨v242,h243,hF⟩:=aO hF
      refine aB (bI rfl h243) ⟨rfl,bC _ _,trivial⟩ ?_
      refine aF ?_
      refine aC ?_
      exact bG (fun a w hh=>⟨v229.1,v229.2,v242,b231,c232,n233,g236,N237,hF,q234,q238,q239,q240,cO 9 [6,7,1,2,8,0,3] rfl rfl (by decide) (by exact⟨rfl,rfl,rfl,rfl,rfl,rfl,rfl,rfl,rfl,rfl,trivial⟩) hh⟩)
     have hF:=aU h185 hF
     refine bP [0,1,0,4,15,31,63,63,191,511,1023,63,2111,6207,16383,32767] 16 0 [.v (.vc (pI .i64 x133)),.v (.vc (pI .i64 v183)),.v (.vc (pS aH.cod v2)),.v (.vc (pI .i64 (v2.length:Int))),.v (.vc (pB (decide (v183<(v2.length:Int))))),.v (.vc (pB false)),.v .un,.v .un,.v .un,.v .un,.v .un,.v .un,.v .un,.v .un,.v .un,.v (.vc (pB false))] aR ⟨d0 (bD 3 1 rfl rfl rfl rfl (.one tyO3)) ⟨rfl,trivial⟩,d0 (bI rfl h184) ⟨rfl,bC _ _,trivial⟩,d0 (bD 6 1 rfl rfl rfl rfl (.one tyO114)) ⟨rfl,trivial⟩,d0 (bZ rfl tyS114) ⟨rfl,trivial⟩,d0 (dQ rfl) ⟨rfl,rfl,trivial⟩,d0 (cW (aL (.inl rfl)) h185) ⟨rfl,trivial⟩,⟨rfl,.skipN⟩,⟨rfl,.skipN⟩,⟨rfl,.skipN⟩,⟨rfl,.skipN⟩,⟨rfl,.skipN⟩,⟨rfl,.skipN⟩,⟨rfl,.skipN⟩,⟨rfl,.skipN⟩,⟨rfl,.skipN⟩,d0 (bL rfl) ⟨rfl,dH _,trivial⟩,trivial⟩ (fun bs182 G181=>?_)
     refine aC (aA (qG rfl ?_))
     refine aV (bF (aA (yY 1 [13] rfl q178 ⟨rfl,trivial⟩ rfl ?_)))
     refine aAM 2 [(11,0)] rfl ⟨rfl,trivial⟩ rfl ?_
     obtain⟨x246,h247,hF⟩:=aO hF
     obtain⟨v248,h249,hF⟩:=aO hF
     refine bP [0,0,0,4,12,28,0,126,0,511] 9 1 [.v (.vc (pF 156 [pP (some b4) 0,pP (some b1) 0])),.v (.va (aM.enc a0)),.v (.vc (pP (some b1) 0)),.v (.vc (pS bE.cod a0.dofs)),.v (.vc (pI .i64 (a0.dofs.length:Int))),.v (.vc (pS cQ x246)),.v (.vc (pS aS.cod x174)),.v (.vc (pS cQ v248)),.v (.vc (pF 159 [pP (some ((G7 6).1.getD 0)) 0,pM (cI.e x133)]))] aR ⟨d0 (aL (.inl rfl)) ⟨rfl,trivial⟩,d0 (bD 5 4 rfl rfl rfl rfl (.agg tyA113)) ⟨rfl,trivial⟩,d0 (a8 (off:=0) (k:=0) rfl tyF113_0) ⟨rfl,trivial⟩,d0 (bD 5 1 rfl rfl rfl rfl (.one tyO23)) ⟨rfl,trivial⟩,d0 (bZ rfl tyS23) ⟨rfl,trivial⟩,d0 (yQ 0 (gN (C:=cQ) rfl tyS24 rfl tyZ44q h247) (fun _ _=>rfl) rfl (fun _ _=>rfl)) ⟨rfl,trivial⟩,d0 (aL (.inl rfl)) ⟨rfl,trivial⟩,d0 (aG rfl (cT h249) rfl) ⟨rfl,rfl,rfl,trivial⟩,d0 (aA7 (xs:=[.tmp 6,.tmp 11]) (cs:=[pP (some ((G7 6).1.getD 0)) 0,pM (cI.e x133)]) rfl rfl) ⟨rfl,rfl,trivial⟩,trivial⟩ (fun bs245 G244=>?_)
     obtain⟨v250,h251,hF⟩:=aO hF
     refine rG (f:=156) (cs:=[pP (some b4) 0,pP (some b1) 0]) (pre:=[.vc (pS cQ v248),.vc (pF 159 [pP (some ((G7 6).1.getD 0)) 0,pM (cI.e x133)])]) (xs:=[.tmp 176,.tmp 177]) 9 [7,4,5,8] [0,1,2,3,6] rfl (fB h251 q125 q130 q131 q132) ⟨rfl,rfl,rfl,trivial⟩ rfl rfl rfl (by decide) ?_
     rintro _ _ ⟨b252,c253,n254,g257,N258,q255,q259,q260,q261,rfl,rfl⟩
     refine pJ (nD [⟨some ((G7 6).1.getD 0),1,62,1,1,[pO b252 n254 c253]⟩,⟨some b4,1,114,1,1,[pS aH.cod v2]⟩,⟨some b1,1,113,4,1,(aM.enc a0)⟩,hO (cH g257) b252 c253 24 n254 v250.1] (gO cQ 44 g257 v250.2) [⟨some b166,1,51,18,1,(aK.enc v164)⟩,⟨some b155,1,118,2,1,(aH.enc v152)⟩,⟨some b107,1,44,4,1,(eQ v105)⟩,⟨some ((G7 7).1.getD 0),1,24,1,1,[pO b100 n102 c101]⟩,hO cQ b100 c101 44 n102 v98]) ?_
     refine aC (bF (aA (aE ?_)))
     obtain⟨v263,h264,hF⟩:=aO hF
     refine aB (bI rfl h264) ⟨rfl,bC _ _,trivial⟩ ?_
     refine aF ?_
     refine aC ?_
     exact bG (fun a w hh=>⟨v250.1,v250.2,v263,b252,c253,n254,g257,N258,hF,q255,q259,q260,q261,cO 9 [6,7,1,2,8,0,3] rfl rfl (by decide) (by exact⟨rfl,rfl,rfl,rfl,rfl,rfl,rfl,rfl,rfl,rfl,trivial⟩) hh⟩)
    refine aD (aE (aB (a8 (off:=0) (k:=9) rfl tyF51_6) ⟨rfl,trivial⟩ ?_))
    refine aB (bD 0 1 rfl rfl rfl rfl (.one tyO49)) ⟨rfl,trivial⟩ ?_
    refine aB (bZ rfl tyS49) ⟨rfl,trivial⟩ ?_
    refine aB (p8 rfl) ⟨rfl,bC _ _,trivial⟩ ?_
    refine aC (aA (bO rfl (fun h265=>?_) (fun h265=>?_)))
    ·have hF:=aT h265 hF
     obtain⟨v268,h269,hF⟩:=aO hF
     obtain⟨v270,h271,hF⟩:=aO hF
     refine bP [0,0,2,0,0,0,56,127,255,511] 9 1 [.v (.vc (pO b159 n161 c160)),.v (.vc (pP (some b155) 0)),.v (.vc (pI .i64 v152.row)),.v (.va (aM.enc a0)),.v (.va (aK.enc v164)),.v (.va (eQ v105)),.v (.va (eQ v268)),.v (.vc (pE b159 v152.row aS.cod.n 0)),.v (.vc (pE b159 v152.row aS.cod.n 4))] aR ⟨d0 (aL (.inl rfl)) ⟨rfl,trivial⟩,d0 (a8 (off:=0) (k:=0) rfl tyF118_0) ⟨rfl,trivial⟩,d0 (bD 2 1 rfl rfl rfl rfl (.one tyO3)) ⟨rfl,trivial⟩,d0 (bD 7 4 rfl rfl rfl rfl (.agg tyA113)) ⟨rfl,trivial⟩,d0 (bD 0 18 rfl rfl rfl rfl (.agg tyA51)) ⟨rfl,trivial⟩,d0 (bD 4 4 rfl rfl rfl rfl (.agg tyA44)) ⟨rfl,trivial⟩,d0 (aG rfl (rJ h269) rfl) ⟨rfl,rfl,rfl,trivial⟩,d0 (cE (C:=aS.cod) 1 rfl tyS29 rfl (b0 h171 q162) (aN h271).1 (aN h271).2.1) ⟨rfl,rfl,trivial⟩,d0 (vI (off:=0) (k:=4) rfl tyF58_1) ⟨rfl,trivial⟩,trivial⟩ (fun bs267 G266=>?_)
     obtain⟨x272,h273,hF⟩:=aO hF
     refine aY (fL 1 rfl rfl h271 h273 tyA44.s) ⟨rfl,rfl,trivial⟩ ?_
     refine aC ?_
     exact mJ Jj180 ⟨x272,hF,(b0 h273 (b0 h171 q162)),rfl,rfl⟩ 11 [0,1,2,3,4,5,6,7,8,9,10] rfl rfl ⟨rfl,rfl,rfl,rfl,rfl,rfl,rfl,rfl,rfl,rfl,rfl,rfl,rfl,rfl,trivial⟩
    have hF:=aU h265 hF
    refine aV ?_
    exact mJ Jj180 ⟨x170,hF,(b0 h171 q162),rfl,rfl⟩ 11 [0,1,2,3,4,5,6,7,8,9,10] rfl rfl ⟨rfl,rfl,rfl,rfl,rfl,rfl,rfl,rfl,rfl,rfl,rfl,rfl,rfl,rfl,trivial⟩
   have hF:=aU h167 hF
   refine aD (aE (aB (iJ rfl) ⟨rfl,bC _ _,trivial⟩ ?_))
   refine bB ?_
   refine aC (aA (bO rfl (fun h275=>?_) (fun h275=>?_)))
   ·have hF:=aT h275 hF
    refine aD (aE (aF ?_))
    refine aB (a8 (off:=0) (k:=0) rfl tyF118_0) ⟨rfl,trivial⟩ ?_
    refine aB (bD 2 1 rfl rfl rfl rfl (.one tyO3)) ⟨rfl,trivial⟩ ?_
    refine aB (bD 4 4 rfl rfl rfl rfl (.agg tyA44)) ⟨rfl,trivial⟩ ?_
    obtain⟨v276,h277,hF⟩:=aO hF
    refine aB (cE (C:=aS.cod) 1 rfl tyS29 rfl q162 (aN h277).1 (aN h277).2.1) ⟨rfl,rfl,trivial⟩ ?_
    refine aB (vI (off:=0) (k:=4) rfl tyF58_1) ⟨rfl,trivial⟩ ?_
    obtain⟨x278,h279,hF⟩:=aO hF
    refine aY (fL 1 rfl rfl h277 h279 tyA44.s) ⟨rfl,rfl,trivial⟩ ?_
    refine aC (aA ?_)
    obtain⟨v283,h284,hF⟩:=aO hF
    obtain⟨v285,h286,hF⟩:=aO hF
    obtain⟨v287,h288,hF⟩:=aO hF
    obtain⟨v289,h290,hF⟩:=aO hF
    obtain⟨v291,h292,hF⟩:=aO hF
    refine bP [0,0,2,6,15,31,0,0,128,511,1023] 10 1 [.v (.vc (pO b122 n124 c123)),.v (.vc (pI .i64 x133)),.v (.vc (pI .i64 v283)),.v (.vc (pI .i64 v285)),.v (.vc (pE b122 v285 (cH g128).n 0)),.v (.vc (pO (iC g128 v287).1 (iC g128 v287).2.1 (iC g128 v287).2.2)),.v (.vc (pI .i64 x133)),.v (.va (eQ v105)),.v (.va (eQ v289)),.v (.vc (pE (iC g128 v287).1 x133 cQ.n 0))] aR ⟨d0 (bD 9 1 rfl rfl rfl rfl (.one tyO62)) ⟨rfl,trivial⟩,d0 (bD 3 1 rfl rfl rfl rfl (.one tyO3)) ⟨rfl,trivial⟩,d0 (bI rfl h284) ⟨rfl,bC _ _,trivial⟩,d0 (fH rfl h286) ⟨rfl,bC _ _,trivial⟩,d0 (cE (C:=(cH g128)) 10 rfl tyS62 rfl q125 (aN h288).1 (aN h288).2.1) ⟨rfl,rfl,trivial⟩,d0 (gA (C:=(cH g128)) (k:=1) 10 rfl rfl h288 rfl (.one tyO24) rfl) ⟨rfl,trivial⟩,d0 (bD 3 1 rfl rfl rfl rfl (.one tyO3)) ⟨rfl,trivial⟩,d0 (bD 4 4 rfl rfl rfl rfl (.agg tyA44)) ⟨rfl,trivial⟩,d0 (aG rfl (nK h290) rfl) ⟨rfl,trivial⟩,d0 (cE (11+v287) rfl tyS24 (iY 11 rfl q131 q130 (q132 _ (bW h288))) (kD q131 q130 (q132 _ (bW h288))) (aN h292).1 (aN h292).2.1) ⟨rfl,rfl,trivial⟩,trivial⟩ (fun bs282 G281=>?_)
    obtain⟨x293,h294,hF⟩:=aO hF
    refine aY (fL (H':=([⟨some b166,1,51,18,1,(aK.enc v164)⟩,hO aS.cod b159 c160 58 n161 x278,⟨some b155,1,118,2,1,(aH.enc v152)⟩,⟨some b154,1,3,1,1,[pI .i64 x133]⟩,⟨some b107,1,44,4,1,(eQ v105)⟩,⟨some ((G7 7).1.getD 0),1,24,1,1,[pO b100 n102 c101]⟩,⟨some b4,1,114,1,1,[pS aH.cod v2]⟩,⟨some b1,1,113,4,1,(aM.enc a0)⟩,hO cQ b100 c101 44 n102 v98,⟨some ((G7 6).1.getD 0),1,62,1,1,[pO b122 n124 c123]⟩,hO (cH g128) b122 c123 24 n124 x121]++gO cQ 44 g128 (x127.set v287 x293))) (11+v287) rfl (xI 11 rfl q131 q130 (q132 _ (bW h288))) h292 h294 tyA44.s (hH:=stN 11 rfl q131 q130 (q132 _ (bW h288)))) ⟨rfl,rfl,trivial⟩ ?_
    refine aC (bF (aA (yY 1 [13,57,114] rfl (b0 h279 q162) ⟨rfl,rfl,rfl,trivial⟩ rfl ?_)))
    refine aAM 2 [(11,0)] rfl ⟨rfl,trivial⟩ rfl ?_
    obtain⟨x298,h299,hF⟩:=aO hF
    obtain⟨v300,h301,hF⟩:=aO hF
    refine bP [0,0,0,4,12,28,0,126,0,511] 9 1 [.v (.vc (pF 156 [pP (some b4) 0,pP (some b1) 0])),.v (.va (aM.enc a0)),.v (.vc (pP (some b1) 0)),.v (.vc (pS bE.cod a0.dofs)),.v (.vc (pI .i64 (a0.dofs.length:Int))),.v (.vc (pS cQ x298)),.v (.vc (pS aS.cod x278)),.v (.vc (pS cQ v300)),.v (.vc (pF 159 [pP (some ((G7 6).1.getD 0)) 0,pM (cI.e x133)]))] aR ⟨d0 (aL (.inl rfl)) ⟨rfl,trivial⟩,d0 (bD 5 4 rfl rfl rfl rfl (.agg tyA113)) ⟨rfl,trivial⟩,d0 (a8 (off:=0) (k:=0) rfl tyF113_0) ⟨rfl,trivial⟩,d0 (bD 5 1 rfl rfl rfl rfl (.one tyO23)) ⟨rfl,trivial⟩,d0 (bZ rfl tyS23) ⟨rfl,trivial⟩,d0 (yQ 0 (gN (C:=cQ) rfl tyS24 rfl tyZ44q h299) (fun _ _=>rfl) rfl (fun _ _=>rfl)) ⟨rfl,trivial⟩,d0 (aL (.inl rfl)) ⟨rfl,trivial⟩,d0 (aG rfl (cT h301) rfl) ⟨rfl,rfl,rfl,trivial⟩,d0 (aA7 (xs:=[.tmp 6,.tmp 11]) (cs:=[pP (some ((G7 6).1.getD 0)) 0,pM (cI.e x133)]) rfl rfl) ⟨rfl,rfl,trivial⟩,trivial⟩ (fun bs297 G296=>?_)
    obtain⟨v302,h303,hF⟩:=aO hF
    refine rG (f:=156) (cs:=[pP (some b4) 0,pP (some b1) 0]) (pre:=[.vc (pS cQ v300),.vc (pF 159 [pP (some ((G7 6).1.getD 0)) 0,pM (cI.e x133)])]) (xs:=[.tmp 176,.tmp 177]) 9 [7,4,5,8] [0,1,2,3,6] rfl (fB h303 q125 (qL q130) (sJ q131 q130 (q132 _ (bW h288)) (b0 h294 rfl)) q132) ⟨rfl,rfl,rfl,trivial⟩ rfl rfl rfl (by decide) ?_
    rintro _ _ ⟨b304,c305,n306,g309,N310,q307,q311,q312,q313,rfl,rfl⟩
    refine pJ (nD [⟨some ((G7 6).1.getD 0),1,62,1,1,[pO b304 n306 c305]⟩,⟨some b4,1,114,1,1,[pS aH.cod v2]⟩,⟨some b1,1,113,4,1,(aM.enc a0)⟩,hO (cH g309) b304 c305 24 n306 v302.1] (gO cQ 44 g309 v302.2) [⟨some b166,1,51,18,1,(aK.enc v164)⟩,⟨some b155,1,118,2,1,(aH.enc v152)⟩,⟨some b107,1,44,4,1,(eQ v105)⟩,⟨some ((G7 7).1.getD 0),1,24,1,1,[pO b100 n102 c101]⟩,hO cQ b100 c101 44 n102 v98]) ?_
    refine aC (bF (aA (aE ?_)))
    obtain⟨v315,h316,hF⟩:=aO hF
    refine aB (bI rfl h316) ⟨rfl,bC _ _,trivial⟩ ?_
    refine aF ?_
    refine aC ?_
    exact bG (fun a w hh=>⟨v302.1,v302.2,v315,b304,c305,n306,g309,N310,hF,q307,q311,q312,q313,cO 9 [6,7,1,2,8,0,3] rfl rfl (by decide) (by exact⟨rfl,rfl,rfl,rfl,rfl,rfl,rfl,rfl,rfl,rfl,trivial⟩) hh⟩)
   have hF:=aU h275 hF
   refine aD (aE (aB (iJ rfl) ⟨rfl,bC _ _,trivial⟩ ?_))
   refine bB ?_
   refine aC (aA (bO rfl (fun h317=>?_) (fun h317=>?_)))
   ·have hF:=aT h317 hF
    refine aD ?_
    obtain⟨v320,h321,hF⟩:=aO hF
    obtain⟨v322,h323,hF⟩:=aO hF
    refine bP [0,0,2,0,8,31,63,127] 7 1 [.v (.vc (pO b159 n161 c160)),.v (.vc (pP (some b155) 0)),.v (.vc (pI .i64 v152.row)),.v (.va (eQ v105)),.v (.va (eQ v320)),.v (.vc (pE b159 v152.row aS.cod.n 0)),.v (.vc (pE b159 v152.row aS.cod.n 4))] aR ⟨d0 (aL (.inl rfl)) ⟨rfl,trivial⟩,d0 (a8 (off:=0) (k:=0) rfl tyF118_0) ⟨rfl,trivial⟩,d0 (bD 2 1 rfl rfl rfl rfl (.one tyO3)) ⟨rfl,trivial⟩,d0 (bD 4 4 rfl rfl rfl rfl (.agg tyA44)) ⟨rfl,trivial⟩,d0 (aG rfl (nK h321) rfl) ⟨rfl,trivial⟩,d0 (cE (C:=aS.cod) 1 rfl tyS29 rfl q162 (aN h323).1 (aN h323).2.1) ⟨rfl,rfl,trivial⟩,d0 (vI (off:=0) (k:=4) rfl tyF58_1) ⟨rfl,trivial⟩,trivial⟩ (fun bs319 G318=>?_)
    obtain⟨x324,h325,hF⟩:=aO hF
    refine aY (fL 1 rfl rfl h323 h325 tyA44.s) ⟨rfl,rfl,trivial⟩ ?_
    refine aC (aA ?_)
    obtain⟨v329,h330,hF⟩:=aO hF
    obtain⟨v331,h332,hF⟩:=aO hF
    obtain⟨v333,h334,hF⟩:=aO hF
    obtain⟨v335,h336,hF⟩:=aO hF
    obtain⟨v337,h338,hF⟩:=aO hF
    refine bP [0,0,2,6,15,31,0,0,128,511,1023] 10 1 [.v (.vc (pO b122 n124 c123)),.v (.vc (pI .i64 x133)),.v (.vc (pI .i64 v329)),.v (.vc (pI .i64 v331)),.v (.vc (pE b122 v331 (cH g128).n 0)),.v (.vc (pO (iC g128 v333).1 (iC g128 v333).2.1 (iC g128 v333).2.2)),.v (.vc (pI .i64 x133)),.v (.va (eQ v105)),.v (.va (eQ v335)),.v (.vc (pE (iC g128 v333).1 x133 cQ.n 0))] aR ⟨d0 (bD 9 1 rfl rfl rfl rfl (.one tyO62)) ⟨rfl,trivial⟩,d0 (bD 3 1 rfl rfl rfl rfl (.one tyO3)) ⟨rfl,trivial⟩,d0 (bI rfl h330) ⟨rfl,bC _ _,trivial⟩,d0 (fH rfl h332) ⟨rfl,bC _ _,trivial⟩,d0 (cE (C:=(cH g128)) 10 rfl tyS62 rfl q125 (aN h334).1 (aN h334).2.1) ⟨rfl,rfl,trivial⟩,d0 (gA (C:=(cH g128)) (k:=1) 10 rfl rfl h334 rfl (.one tyO24) rfl) ⟨rfl,trivial⟩,d0 (bD 3 1 rfl rfl rfl rfl (.one tyO3)) ⟨rfl,trivial⟩,d0 (bD 4 4 rfl rfl rfl rfl (.agg tyA44)) ⟨rfl,trivial⟩,d0 (aG rfl (nK h336) rfl) ⟨rfl,trivial⟩,d0 (cE (11+v333) rfl tyS24 (iY 11 rfl q131 q130 (q132 _ (bW h334))) (kD q131 q130 (q132 _ (bW h334))) (aN h338).1 (aN h338).2.1) ⟨rfl,rfl,trivial⟩,trivial⟩ (fun bs328 G327=>?_)
    obtain⟨x339,h340,hF⟩:=aO hF
    refine aY (fL (H':=([⟨some b166,1,51,18,1,(aK.enc v164)⟩,hO aS.cod b159 c160 58 n161 x324,⟨some b155,1,118,2,1,(aH.enc v152)⟩,⟨some b154,1,3,1,1,[pI .i64 x133]⟩,⟨some b107,1,44,4,1,(eQ v105)⟩,⟨some ((G7 7).1.getD 0),1,24,1,1,[pO b100 n102 c101]⟩,⟨some b4,1,114,1,1,[pS aH.cod v2]⟩,⟨some b1,1,113,4,1,(aM.enc a0)⟩,hO cQ b100 c101 44 n102 v98,⟨some ((G7 6).1.getD 0),1,62,1,1,[pO b122 n124 c123]⟩,hO (cH g128) b122 c123 24 n124 x121]++gO cQ 44 g128 (x127.set v333 x339))) (11+v333) rfl (xI 11 rfl q131 q130 (q132 _ (bW h334))) h338 h340 tyA44.s (hH:=stN 11 rfl q131 q130 (q132 _ (bW h334)))) ⟨rfl,rfl,trivial⟩ ?_
    refine aC (bF (aA (yY 1 [13,57,132] rfl (b0 h325 q162) ⟨rfl,rfl,rfl,trivial⟩ rfl ?_)))
    refine aAM 2 [(11,0)] rfl ⟨rfl,trivial⟩ rfl ?_
    obtain⟨x344,h345,hF⟩:=aO hF
    obtain⟨v346,h347,hF⟩:=aO hF
    refine bP [0,0,0,4,12,28,0,126,0,511] 9 1 [.v (.vc (pF 156 [pP (some b4) 0,pP (some b1) 0])),.v (.va (aM.enc a0)),.v (.vc (pP (some b1) 0)),.v (.vc (pS bE.cod a0.dofs)),.v (.vc (pI .i64 (a0.dofs.length:Int))),.v (.vc (pS cQ x344)),.v (.vc (pS aS.cod x324)),.v (.vc (pS cQ v346)),.v (.vc (pF 159 [pP (some ((G7 6).1.getD 0)) 0,pM (cI.e x133)]))] aR ⟨d0 (aL (.inl rfl)) ⟨rfl,trivial⟩,d0 (bD 5 4 rfl rfl rfl rfl (.agg tyA113)) ⟨rfl,trivial⟩,d0 (a8 (off:=0) (k:=0) rfl tyF113_0) ⟨rfl,trivial⟩,d0 (bD 5 1 rfl rfl rfl rfl (.one tyO23)) ⟨rfl,trivial⟩,d0 (bZ rfl tyS23) ⟨rfl,trivial⟩,d0 (yQ 0 (gN (C:=cQ) rfl tyS24 rfl tyZ44q h345) (fun _ _=>rfl) rfl (fun _ _=>rfl)) ⟨rfl,trivial⟩,d0 (aL (.inl rfl)) ⟨rfl,trivial⟩,d0 (aG rfl (cT h347) rfl) ⟨rfl,rfl,rfl,trivial⟩,d0 (aA7 (xs:=[.tmp 6,.tmp 11]) (cs:=[pP (some ((G7 6).1.getD 0)) 0,pM (cI.e x133)]) rfl rfl) ⟨rfl,rfl,trivial⟩,trivial⟩ (fun bs343 G342=>?_)
    obtain⟨v348,h349,hF⟩:=aO hF
    refine rG (f:=156) (cs:=[pP (some b4) 0,pP (some b1) 0]) (pre:=[.vc (pS cQ v346),.vc (pF 159 [pP (some ((G7 6).1.getD 0)) 0,pM (cI.e x133)])]) (xs:=[.tmp 176,.tmp 177]) 9 [7,4,5,8] [0,1,2,3,6] rfl (fB h349 q125 (qL q130) (sJ q131 q130 (q132 _ (bW h334)) (b0 h340 rfl)) q132) ⟨rfl,rfl,rfl,trivial⟩ rfl rfl rfl (by decide) ?_
    rintro _ _ ⟨b350,c351,n352,g355,N356,q353,q357,q358,q359,rfl,rfl⟩
    refine pJ (nD [⟨some ((G7 6).1.getD 0),1,62,1,1,[pO b350 n352 c351]⟩,⟨some b4,1,114,1,1,[pS aH.cod v2]⟩,⟨some b1,1,113,4,1,(aM.enc a0)⟩,hO (cH g355) b350 c351 24 n352 v348.1] (gO cQ 44 g355 v348.2) [⟨some b166,1,51,18,1,(aK.enc v164)⟩,⟨some b155,1,118,2,1,(aH.enc v152)⟩,⟨some b107,1,44,4,1,(eQ v105)⟩,⟨some ((G7 7).1.getD 0),1,24,1,1,[pO b100 n102 c101]⟩,hO cQ b100 c101 44 n102 v98]) ?_
    refine aC (bF (aA (aE ?_)))
    obtain⟨v361,h362,hF⟩:=aO hF
    refine aB (bI rfl h362) ⟨rfl,bC _ _,trivial⟩ ?_
    refine aF ?_
    refine aC ?_
    exact bG (fun a w hh=>⟨v348.1,v348.2,v361,b350,c351,n352,g355,N356,hF,q353,q357,q358,q359,cO 9 [6,7,1,2,8,0,3] rfl rfl (by decide) (by exact⟨rfl,rfl,rfl,rfl,rfl,rfl,rfl,rfl,rfl,rfl,trivial⟩) hh⟩)
   have hF:=aU h317 hF
   refine aD (aE (aB (iJ rfl) ⟨rfl,bC _ _,trivial⟩ ?_))
   refine bB ?_
   refine aC (aA (bO rfl (fun h363=>?_) (fun h363=>?_)))
   ·have hF:=aT h363 hF
    refine aD ?_
    obtain⟨v366,h367,hF⟩:=aO hF
    obtain⟨v368,h369,hF⟩:=aO hF
    obtain⟨v370,h371,hF⟩:=aO hF
    obtain⟨v372,h373,hF⟩:=aO hF
    obtain⟨v374,h375,hF⟩:=aO hF
    obtain⟨v376,h377,hF⟩:=aO hF
    obtain⟨v378,h379,hF⟩:=aO hF
    obtain⟨x380,h381,hF⟩:=aO hF
    obtain⟨v383,h384,hF⟩:=aO hF
    refine pG (HsM [(0,fun G364=>([⟨some b166,1,51,18,1,(aK.enc v164)⟩,hO aS.cod b159 c160 58 n161 v156,⟨some b155,1,118,2,1,(aH.enc v152)⟩,⟨some b154,1,3,1,1,[pI .i64 x133]⟩,⟨some b107,1,44,4,1,(eQ v105)⟩,⟨some ((G7 7).1.getD 0),1,24,1,1,[pO b100 n102 c101]⟩,⟨some b4,1,114,1,1,[pS aH.cod v2]⟩,⟨some b1,1,113,4,1,(aM.enc a0)⟩,hO cQ b100 c101 44 n102 v98,⟨some ((G7 6).1.getD 0),1,62,1,1,[pO b122 n124 c123]⟩,hO (cH g128) b122 c123 24 n124 x121]++gO cQ 44 g128 x127)),(1,fun G364=>([⟨some b166,1,51,18,1,(aK.enc v164)⟩,hO aS.cod b159 c160 58 n161 v156,⟨some b155,1,118,2,1,(aH.enc v152)⟩,⟨some b154,1,3,1,1,[pI .i64 x133]⟩,⟨some b107,1,44,4,1,(eQ v105)⟩,⟨some ((G7 7).1.getD 0),1,24,1,1,[pO b100 n102 c101]⟩,⟨some b4,1,114,1,1,[pS aH.cod v2]⟩,⟨some b1,1,113,4,1,(aM.enc a0)⟩,hO cQ b100 c101 44 n102 v98,⟨some ((G7 6).1.getD 0),1,62,1,1,[pO b122 n124 c123]⟩,hO (cH g128) b122 c123 24 n124 x121]++gO cQ 44 g128 (x127.set v370 x380)))]) [17] [0,0,2,6,15,31,0,0,0,256,768,1920,3968,0,0,0,24575,90111,262143,524287] 19 1 [.v (.vc (pO b122 n124 c123)),.v (.vc (pI .i64 x133)),.v (.vc (pI .i64 v366)),.v (.vc (pI .i64 v368)),.v (.vc (pE b122 v368 (cH g128).n 0)),.v (.vc (pO (iC g128 v370).1 (iC g128 v370).2.1 (iC g128 v370).2.2)),.v (.vc (pI .i64 x133)),.v (.vc (pO b122 n124 c123)),.v (.vc (pI .i64 x133)),.v (.vc (pI .i64 v372)),.v (.vc (pI .i64 v374)),.v (.vc (pE b122 v374 (cH g128).n 0)),.v (.vc (pO (iC g128 v376).1 (iC g128 v376).2.1 (iC g128 v376).2.2)),.v (.vc (pI .i64 x133)),.v (.va (eQ v105)),.v (.va (eQ v105)),.v (.vc (pE (iC g128 v370).1 x133 cQ.n 0)),.g (fun _ _=>.any),.v (.vc (pE (iC g128 v376).1 x133 cQ.n 0))] aR ⟨d1 0 (bD 9 1 rfl rfl rfl rfl (.one tyO62)) ⟨rfl,trivial⟩,d1 0 (bD 3 1 rfl rfl rfl rfl (.one tyO3)) ⟨rfl,trivial⟩,d1 0 (bI rfl h367) ⟨rfl,bC _ _,trivial⟩,d1 0 (fH rfl h369) ⟨rfl,bC _ _,trivial⟩,d1 0 (cE (C:=(cH g128)) 10 rfl tyS62 rfl q125 (aN h371).1 (aN h371).2.1) ⟨rfl,rfl,trivial⟩,d1 0 (gA (C:=(cH g128)) (k:=1) 10 rfl rfl h371 rfl (.one tyO24) rfl) ⟨rfl,trivial⟩,d1 0 (bD 3 1 rfl rfl rfl rfl (.one tyO3)) ⟨rfl,trivial⟩,d1 0 (bD 9 1 rfl rfl rfl rfl (.one tyO62)) ⟨rfl,trivial⟩,d1 0 (bD 3 1 rfl rfl rfl rfl (.one tyO3)) ⟨rfl,trivial⟩,d1 0 (bI rfl h373) ⟨rfl,bC _ _,trivial⟩,d1 0 (fH rfl h375) ⟨rfl,bC _ _,trivial⟩,d1 0 (cE (C:=(cH g128)) 10 rfl tyS62 rfl q125 (aN h377).1 (aN h377).2.1) ⟨rfl,rfl,trivial⟩,d1 0 (gA (C:=(cH g128)) (k:=1) 10 rfl rfl h377 rfl (.one tyO24) rfl) ⟨rfl,trivial⟩,⟨rfl,.run (L:=[0,1]) ⟨fun G364 A=>bD 3 1 rfl rfl rfl rfl (.one tyO3),fun G364 A=>bD 3 1 rfl rfl rfl rfl (.one tyO3),trivial⟩ (fun G364=>⟨rfl,trivial⟩)⟩,d1 0 (bD 4 4 rfl rfl rfl rfl (.agg tyA44)) ⟨rfl,trivial⟩,⟨rfl,.run (L:=[0,1]) ⟨fun G364 A=>bD 4 4 rfl rfl rfl rfl (.agg tyA44),fun G364 A=>bD 4 4 rfl rfl rfl rfl (.agg tyA44),trivial⟩ (fun G364=>⟨rfl,trivial⟩)⟩,d1 0 (cE (11+v370) rfl tyS24 (iY 11 rfl q131 q130 (q132 _ (bW h371))) (kD q131 q130 (q132 _ (bW h371))) (aN h379).1 (aN h379).2.1) ⟨rfl,rfl,trivial⟩,⟨rfl,.hvy [0] ⟨fun G364 A=>xE (fL (H':=([⟨some b166,1,51,18,1,(aK.enc v164)⟩,hO aS.cod b159 c160 58 n161 v156,⟨some b155,1,118,2,1,(aH.enc v152)⟩,⟨some b154,1,3,1,1,[pI .i64 x133]⟩,⟨some b107,1,44,4,1,(eQ v105)⟩,⟨some ((G7 7).1.getD 0),1,24,1,1,[pO b100 n102 c101]⟩,⟨some b4,1,114,1,1,[pS aH.cod v2]⟩,⟨some b1,1,113,4,1,(aM.enc a0)⟩,hO cQ b100 c101 44 n102 v98,⟨some ((G7 6).1.getD 0),1,62,1,1,[pO b122 n124 c123]⟩,hO (cH g128) b122 c123 24 n124 x121]++gO cQ 44 g128 (x127.set v370 x380))++A) (11+v370) rfl (iY 11 rfl q131 q130 (q132 _ (bW h371))) h379 h381 tyA44.s (hH:=stNA 11 rfl q131 q130 (q132 _ (bW h371)))),trivial⟩ (fun G364=>⟨rfl,rfl,trivial⟩)⟩,d1 1 (cE (11+v376) rfl tyS24 (iY 11 rfl (sJ q131 q130 (q132 _ (bW h371)) (b0 h381 rfl)) (qL q130) (q132 _ (bW h377))) (kD (sJ q131 q130 (q132 _ (bW h371)) (b0 h381 rfl)) (qL q130) (q132 _ (bW h377))) (aN h384).1 (aN h384).2.1) ⟨rfl,rfl,trivial⟩,trivial⟩ (fun bs365 G364=>?_)
    obtain⟨x386,h387,hF⟩:=aO hF
    refine aY (fL (H':=([⟨some b166,1,51,18,1,(aK.enc v164)⟩,hO aS.cod b159 c160 58 n161 v156,⟨some b155,1,118,2,1,(aH.enc v152)⟩,⟨some b154,1,3,1,1,[pI .i64 x133]⟩,⟨some b107,1,44,4,1,(eQ v105)⟩,⟨some ((G7 7).1.getD 0),1,24,1,1,[pO b100 n102 c101]⟩,⟨some b4,1,114,1,1,[pS aH.cod v2]⟩,⟨some b1,1,113,4,1,(aM.enc a0)⟩,hO cQ b100 c101 44 n102 v98,⟨some ((G7 6).1.getD 0),1,62,1,1,[pO b122 n124 c123]⟩,hO (cH g128) b122 c123 24 n124 x121]++gO cQ 44 g128 ((x127.set v370 x380).set v376 x386))) (11+v376) rfl (xI 11 rfl (sJ q131 q130 (q132 _ (bW h371)) (b0 h381 rfl)) (qL q130) (q132 _ (bW h377))) h384 h387 tyA44.s (hH:=stN 11 rfl (sJ q131 q130 (q132 _ (bW h371)) (b0 h381 rfl)) (qL q130) (q132 _ (bW h377)))) ⟨rfl,rfl,trivial⟩ ?_
    refine aC (aA (dE (aA (aE ?_))))
    obtain⟨v389,h390,hF⟩:=aO hF
    refine aB (bI rfl h390) ⟨rfl,bC _ _,trivial⟩ ?_
    refine aF ?_
    refine aC ?_
    exact bG (fun a w hh=>⟨x121,((x127.set v370 x380).set v376 x386),v389,b122,c123,n124,g128,N129,hF,q125,(qL (qL q130)),(sJ (sJ q131 q130 (q132 _ (bW h371)) (b0 h381 rfl)) (qL q130) (q132 _ (bW h377)) (b0 h387 rfl)),q132,cO 11 [4,5,6,7,8,9,10] rfl rfl (by decide) (by exact⟨rfl,rfl,rfl,rfl,rfl,rfl,rfl,rfl,rfl,rfl,trivial⟩) hh⟩)
   have hF:=aU h363 hF
   refine aV (bF (aA (yY 1 [13,57] rfl q162 ⟨rfl,rfl,trivial⟩ rfl ?_)))
   refine aAM 2 [(11,0)] rfl ⟨rfl,trivial⟩ rfl ?_
   obtain⟨x393,h394,hF⟩:=aO hF
   obtain⟨v395,h396,hF⟩:=aO hF
   refine bP [0,0,0,4,12,28,0,126,0,511] 9 1 [.v (.vc (pF 156 [pP (some b4) 0,pP (some b1) 0])),.v (.va (aM.enc a0)),.v (.vc (pP (some b1) 0)),.v (.vc (pS bE.cod a0.dofs)),.v (.vc (pI .i64 (a0.dofs.length:Int))),.v (.vc (pS cQ x393)),.v (.vc (pS aS.cod v156)),.v (.vc (pS cQ v395)),.v (.vc (pF 159 [pP (some ((G7 6).1.getD 0)) 0,pM (cI.e x133)]))] aR ⟨d0 (aL (.inl rfl)) ⟨rfl,trivial⟩,d0 (bD 5 4 rfl rfl rfl rfl (.agg tyA113)) ⟨rfl,trivial⟩,d0 (a8 (off:=0) (k:=0) rfl tyF113_0) ⟨rfl,trivial⟩,d0 (bD 5 1 rfl rfl rfl rfl (.one tyO23)) ⟨rfl,trivial⟩,d0 (bZ rfl tyS23) ⟨rfl,trivial⟩,d0 (yQ 0 (gN (C:=cQ) rfl tyS24 rfl tyZ44q h394) (fun _ _=>rfl) rfl (fun _ _=>rfl)) ⟨rfl,trivial⟩,d0 (aL (.inl rfl)) ⟨rfl,trivial⟩,d0 (aG rfl (cT h396) rfl) ⟨rfl,rfl,rfl,trivial⟩,d0 (aA7 (xs:=[.tmp 6,.tmp 11]) (cs:=[pP (some ((G7 6).1.getD 0)) 0,pM (cI.e x133)]) rfl rfl) ⟨rfl,rfl,trivial⟩,trivial⟩ (fun bs392 G391=>?_)
   obtain⟨v397,h398,hF⟩:=aO hF
   refine rG (f:=156) (cs:=[pP (some b4) 0,pP (some b1) 0]) (pre:=[.vc (pS cQ v395),.vc (pF 159 [pP (some ((G7 6).1.getD 0)) 0,pM (cI.e x133)])]) (xs:=[.tmp 176,.tmp 177]) 9 [7,4,5,8] [0,1,2,3,6] rfl (fB h398 q125 q130 q131 q132) ⟨rfl,rfl,rfl,trivial⟩ rfl rfl rfl (by decide) ?_
   rintro _ _ ⟨b399,c400,n401,g404,N405,q402,q406,q407,q408,rfl,rfl⟩
   refine pJ (nD [⟨some ((G7 6).1.getD 0),1,62,1,1,[pO b399 n401 c400]⟩,⟨some b4,1,114,1,1,[pS aH.cod v2]⟩,⟨some b1,1,113,4,1,(aM.enc a0)⟩,hO (cH g404) b399 c400 24 n401 v397.1] (gO cQ 44 g404 v397.2) [⟨some b166,1,51,18,1,(aK.enc v164)⟩,⟨some b155,1,118,2,1,(aH.enc v152)⟩,⟨some b107,1,44,4,1,(eQ v105)⟩,⟨some ((G7 7).1.getD 0),1,24,1,1,[pO b100 n102 c101]⟩,hO cQ b100 c101 44 n102 v98]) ?_
   refine aC (bF (aA (aE ?_)))
   obtain⟨v410,h411,hF⟩:=aO hF
   refine aB (bI rfl h411) ⟨rfl,bC _ _,trivial⟩ ?_
   refine aF ?_
   refine aC ?_
   exact bG (fun a w hh=>⟨v397.1,v397.2,v410,b399,c400,n401,g404,N405,hF,q402,q406,q407,q408,cO 9 [6,7,1,2,8,0,3] rfl rfl (by decide) (by exact⟨rfl,rfl,rfl,rfl,rfl,rfl,rfl,rfl,rfl,rfl,trivial⟩) hh⟩)
  have hF:=aU h151 hF
  refine dE ?_
  obtain⟨rfl,rfl⟩:=sm2 hF
  exact mJ Jj147 ⟨x121,x127,b122,c123,n124,g128,N129,hRl146,q125,q130,q131,q132,rfl,rfl⟩ 7 [1,4,5,6] rfl rfl ⟨rfl,rfl,trivial⟩
 obtain⟨⟨x77',x83'⟩,hL,hRl89⟩:=aO hF
 refine gY (fun k a w=>∃(x64:List Nat),∃(x70:List (List Rat)),∃(x76:Int),∃(b65:Option Nat),∃(c66:Nat),∃(n67:Nat),∃(g71:List rY),∃(N72:Nat),kG K v2 x10 k x64 x70 x76=some (x77',x83')∧x64.length=n67∧x70.length=N72∧jW g71 x70∧(∀k∈x64,k<N72)∧hs _ ([⟨some ((G7 7).1.getD 0),1,24,1,1,[pO ((G7 5).1) x13.length x13.length]⟩,⟨some ((G7 6).1.getD 0),1,62,1,1,[pO b65 n67 c66]⟩,hO cQ ((G7 5).1) x13.length 44 x13.length x13,hO (cH g71) b65 c66 24 n67 x64,⟨some b4,1,114,1,1,[pS aH.cod v2]⟩,⟨some b1,1,113,4,1,(aM.enc a0)⟩]++gO cQ 44 g71 x70) [(1,.vc (pP (some b1) 0)),(4,.vc (pP (some b4) 0)),(5,.vc (pF 156 [pP (some b4) 0,pP (some b1) 0])),(6,.vc (pP (some ((G7 6).1.getD 0)) 0)),(7,.vc (pP (some ((G7 7).1.getD 0)) 0)),(25,.vc (pI .i64 (x10.length:Int))),(26,.vc (pI .i64 x76))] a w) K (fun a w ⟨_,_,_,_,_,_,_,_,hF,_,_,_,_,_⟩=>by cases hF) (fun k a w ⟨x64,x70,x76,b65,c66,n67,g71,N72,hF,q68,q73,q74,q75,hh⟩=>gX ?_ hh) (fun a w hh=>⟨x10,[([]:List Rat)],0,((G7 2).1),x10.length,x10.length,[(none,0,0)],1,hL,rfl,rfl,aDG,(aGz h11),cO 6 [0,1,2,3,4,5] rfl rfl (by decide) (by exact⟨rfl,rfl,rfl,rfl,rfl,rfl,rfl,trivial⟩) hh⟩)
 rw [kG.eq_2] at hF
 refine aD (aE (aB (dQ rfl) ⟨rfl,rfl,trivial⟩ ?_))
 refine aC (aA (aD (bO rfl (fun h412=>?_) (fun h412=>?_))))
 ·have hF:=aT h412 hF
  refine aV (aA (aD (bN (aD (aE (aF ?_))))))
  refine bB ?_
  refine aC (aA ?_)
  obtain⟨x415,h416,hF⟩:=aO hF
  obtain⟨v419,h420,hF⟩:=aO hF
  refine pG (HsM [(0,fun G413=>([⟨some ((G7 7).1.getD 0),1,24,1,1,[pO ((G7 5).1) x13.length x13.length]⟩,⟨some ((G7 6).1.getD 0),1,62,1,1,[pO b65 n67 c66]⟩,hO cQ ((G7 5).1) x13.length 44 x13.length x13,hO (cH g71) b65 c66 24 n67 x64,⟨some b4,1,114,1,1,[pS aH.cod v2]⟩,⟨some b1,1,113,4,1,(aM.enc a0)⟩]++gO cQ 44 g71 x70)),(1,fun G413=>([hO cQ ((G413 4).1) x415.length 44 x415.length x415,⟨some ((G7 7).1.getD 0),1,24,1,1,[pO ((G7 5).1) x13.length x13.length]⟩,⟨some ((G7 6).1.getD 0),1,62,1,1,[pO b65 n67 c66]⟩,hO cQ ((G7 5).1) x13.length 44 x13.length x13,hO (cH g71) b65 c66 24 n67 x64,⟨some b4,1,114,1,1,[pS aH.cod v2]⟩,⟨some b1,1,113,4,1,(aM.enc a0)⟩]++gO cQ 44 g71 x70))]) [4] [0,0,0,4,12,31,63] 6 1 [.v (.vc (pO b65 n67 c66)),.v (.vc (pI .i64 x76)),.v (.vc (pS aH.cod v2)),.v (.vc (pI .i64 (v2.length:Int))),.g (fun b _=>.vc (pO b x415.length x415.length)),.v (.vc (pE b65 x76 (cH g71).n 0))] aR ⟨⟨rfl,.run (L:=[0,1]) ⟨fun G413 A=>bD 1 1 rfl rfl rfl rfl (.one tyO62),fun G413 A=>bD 2 1 rfl rfl rfl rfl (.one tyO62),trivial⟩ (fun G413=>⟨rfl,trivial⟩)⟩,⟨rfl,.run (L:=[0,1]) ⟨fun G413 A=>aL (.inl rfl),fun G413 A=>aL (.inl rfl),trivial⟩ (fun G413=>⟨rfl,trivial⟩)⟩,d1 0 (bD 4 1 rfl rfl rfl rfl (.one tyO114)) ⟨rfl,trivial⟩,d1 0 (bZ rfl tyS114) ⟨rfl,trivial⟩,⟨rfl,.hvy [0] ⟨fun G413 A=>gN (C:=cQ) rfl tyS24 rfl tyZ44q h416,trivial⟩ (fun G413=>⟨rfl,trivial⟩)⟩,d1 1 (cE (C:=(cH g71)) 4 rfl tyS62 rfl q68 (aN h420).1 (aN h420).2.1) ⟨rfl,rfl,trivial⟩,trivial⟩ (fun bs414 G413=>?_)
  obtain⟨x423,h424,hF⟩:=aO hF
  refine aFZ (show([hO cQ ((G413 4).1) x415.length 44 x415.length x415,⟨some ((G7 7).1.getD 0),1,24,1,1,[pO ((G7 5).1) x13.length x13.length]⟩,⟨some ((G7 6).1.getD 0),1,62,1,1,[pO b65 n67 c66]⟩,hO cQ ((G7 5).1) x13.length 44 x13.length x13,hO (cH (g71++[((G413 4).1,x415.length,x415.length)])) b65 c66 24 n67 x64,⟨some b4,1,114,1,1,[pS aH.cod v2]⟩,⟨some b1,1,113,4,1,(aM.enc a0)⟩]++gO cQ 44 g71 x70)=([hO cQ ((G413 4).1) x415.length 44 x415.length x415,⟨some ((G7 7).1.getD 0),1,24,1,1,[pO ((G7 5).1) x13.length x13.length]⟩,⟨some ((G7 6).1.getD 0),1,62,1,1,[pO b65 n67 c66]⟩,hO cQ ((G7 5).1) x13.length 44 x13.length x13,hO (cH g71) b65 c66 24 n67 x64,⟨some b4,1,114,1,1,[pS aH.cod v2]⟩,⟨some b1,1,113,4,1,(aM.enc a0)⟩]++gO cQ 44 g71 x70) from by rw [aCE (N:=x70.length) ((G413 4).1,x415.length,x415.length) q74.1 (aBx q73 q75)]) ?_
  refine aY (fL (C:=cH (g71++[((G413 4).1,x415.length,x415.length)])) (z':=x70.length) 4 rfl rfl h420 h424 tyO24.s (hq:=aB3 ((G413 4).1,x415.length,x415.length) q74.1)) ⟨rfl,rfl,trivial⟩ ?_
  refine z9 (g:=((G413 4).1,x415.length,x415.length)) 0 7 rfl rfl rfl q74 ?_
  refine aC (bF (aA (aE ?_)))
  obtain⟨v427,h428,hF⟩:=aO hF
  refine aB (bI rfl h428) ⟨rfl,bC _ _,trivial⟩ ?_
  refine aF ?_
  refine aC ?_
  exact bG (fun a w hh=>⟨x423,(x70++[x415]),v427,b65,c66,n67,(g71++[((G413 4).1,x415.length,x415.length)]),(N72+1),hF,(b0 h424 q68),(zP q73),(uF q74 rfl),(pC q75 h424 q73),cO 6 [0,1,2,3,4,5] rfl rfl (by decide) (by exact⟨rfl,rfl,rfl,rfl,rfl,rfl,rfl,trivial⟩) hh⟩)
 have hF:=aU h412 hF
 refine dE ?_
 obtain⟨rfl,rfl⟩:=sm2 hF
 exact mJ Jj90 ⟨x64,x70,b65,c66,n67,g71,N72,hRl89,q68,q73,q74,q75,rfl,rfl⟩ 6 [0,1,2,3,4,5] rfl rfl ⟨rfl,rfl,rfl,rfl,rfl,trivial⟩
def rC (K:Nat) (a0:List bE) (a1:List Rat) (a2:List Rat) (a3:List aK) (x33:List aS):Option ((List Rat)×(List aS)×Int):=
 (cF K (⟨a0,a1,a2,a3⟩:aM) a1 x33).bind fun v41=>some (v41,x33,0)
def iF (K:Nat) (a0:List bE) (a1:List Rat) (a2:List Rat) (a3:List aK) (v5:List aH) (v10:cC×Int):Nat→(List aS)→Int→Option (List aS)
 |0,_,_=>none
 |k+1,x26,x32=>bif(decide (x32<(v5.length:Int))) then((dO v5 x32).bind fun v44=>(dO x26 v44.row).bind fun v47=>bif(v44.kind==0) then((dO v10.1.z x32).bind fun v50=>(n8 x26 v44.row (⟨v50,v47.f⟩:aS)).bind fun x52=>(dO a3 v44.row).bind fun v55=>bif(decide (0<(v55.t.length:Int))) then((dO x52 v44.row).bind fun v61=>(mE K (⟨a0,a1,a2,a3⟩:aM) v55 v61.n).bind fun v63=>(dO x52 v44.row).bind fun v65=>(n8 x52 v44.row (⟨v65.n,v63⟩:aS)).bind fun x67=>(bQ (x32+1)).bind fun v70=>iF K a0 a1 a2 a3 v5 v10 k x67 v70) else((bQ (x32+1)).bind fun v72=>iF K a0 a1 a2 a3 v5 v10 k x52 v72)) else(bif(v44.kind==1) then((dO v10.1.z x32).bind fun v77=>(zD v47.f v77).bind fun v79=>(n8 x26 v44.row (⟨v47.n,v79⟩:aS)).bind fun x81=>(bQ (x32+1)).bind fun v84=>iF K a0 a1 a2 a3 v5 v10 k x81 v84) else(bif(v44.kind==2) then((dO v10.1.z x32).bind fun v89=>(aF0 v47.f v89).bind fun v91=>(n8 x26 v44.row (⟨v47.n,v91⟩:aS)).bind fun x93=>(bQ (x32+1)).bind fun v96=>iF K a0 a1 a2 a3 v5 v10 k x93 v96) else((bQ (x32+1)).bind fun v98=>iF K a0 a1 a2 a3 v5 v10 k x26 v98)))) else(some x26)
def rX (K:Nat) (a0:List bE) (a1:List Rat) (a2:List Rat) (a3:List aK):Option ((List Rat)×(List aS)×Int):=
 (oK K (⟨a0,a1,a2,a3⟩:aM)).bind fun v2=>bif(!v2) then(some ([],[],1)) else((lT K (⟨a0,a1,a2,a3⟩:aM)).bind fun v5=>bif(decide (32<(v5.length:Int))) then(some ([],[],4)) else((oZ K (⟨a0,a1,a2,a3⟩:aM)).bind fun v8=>(qQ K v8.1 v8.2 4096).bind fun v10=>bif(v10.2 != 0) then(some ([],[],v10.2)) else((s6 (a3.length:Int) (⟨0,0⟩:aS)).bind fun x14=>(iF K a0 a1 a2 a3 v5 v10 K x14 0).bind fun x33=>rC K a0 a1 a2 a3 x33)))
theorem u7 {K:Nat} {a0:List bE} {a1:List Rat} {a2:List Rat} {a3:List aK} {r:(List Rat)×(List aS)×Int} (hF:rX K a0 a1 a2 a3=some r):Ct Tryz.prog 17 [.vc (pS bE.cod a0),.vc (pS cQ a1),.vc (pS cQ a2),.vc (pS aK.cod a3)] (.t3 (.vc (pS cQ r.1)) (.vc (pS aS.cod r.2.1)) (.vc (pI .i64 r.2.2))):=by
 unfold rX at hF
 refine a9 Tryz.func17 rfl (by kernel_rfl) Tryz.ntmps17 rfl (fun w0 M0=>?_)
 refine aD (aE (aB (aL (.inr rfl)) ⟨eJ cQ,trivial⟩ ?_))
 refine aB (aL (.inr rfl)) ⟨eJ aS.cod,trivial⟩ ?_
 refine aB (aL (.inr rfl)) ⟨bC _ _,trivial⟩ ?_
 refine aC (aA (aD (aE (aF ?_))))
 refine aF ?_
 refine aF ?_
 refine aF ?_
 refine aB (fA (is:=[0,1,2,3]) (xs:=[.tmp 22,.tmp 23,.tmp 24,.tmp 25]) (ps:=[.vc (pS bE.cod a0),.vc (pS cQ a1),.vc (pS cQ a2),.vc (pS aK.cod a3)]) rfl tyB113q rfl rfl ⟨trivial,trivial,trivial,trivial,trivial⟩ rfl) ⟨rfl,rfl,rfl,rfl,trivial⟩ ?_
 refine bJ rfl tyZ113q (fun b1=>?_)
 refine aY (dA 0 rfl rfl rfl tyA113.s) ⟨rfl,rfl,trivial⟩ ?_
 refine aC (aA (aD (aD (aE (aB (bD 0 4 rfl rfl rfl rfl (.agg tyA113)) ⟨rfl,trivial⟩ ?_)))))
 obtain⟨v2,h3,hF⟩:=aO hF
 refine aB (aG rfl (sD h3) rfl) ⟨rfl,trivial⟩ ?_
 refine aB (lK rfl) ⟨rfl,trivial⟩ ?_
 refine aC (aA (bO rfl (fun h4=>?_) (fun h4=>?_)))
 ·have hF:=aT h4 hF
  refine aD (aE (aB (aL (.inr rfl)) ⟨eJ cQ,trivial⟩ ?_))
  refine aB (aL (.inr rfl)) ⟨eJ aS.cod,trivial⟩ ?_
  refine aB (aL (.inr rfl)) ⟨bC _ _,trivial⟩ ?_
  refine aC (aA (aX (aW ?_)))
  obtain rfl:=bX hF
  exact aI (.inl rfl) Tryz.results17 (.tmp rfl (.tmp rfl (.tmp rfl .nil))) rfl rfl
 have hF:=aU h4 hF
 refine aV (aA (aD (aE (aB (bD 0 4 rfl rfl rfl rfl (.agg tyA113)) ⟨rfl,trivial⟩ ?_))))
 obtain⟨v5,h6,hF⟩:=aO hF
 refine aB (aG rfl (qY h6) rfl) ⟨rfl,trivial⟩ ?_
 refine bB ?_
 refine aC (aA (aD (aD (aE (aF ?_)))))
 refine aB (bZ rfl tyS114) ⟨rfl,trivial⟩ ?_
 refine aB (p8 rfl) ⟨rfl,bC _ _,trivial⟩ ?_
 refine aC (aA (bO rfl (fun h7=>?_) (fun h7=>?_)))
 ·have hF:=aT h7 hF
  refine aD (aE (aB (aL (.inr rfl)) ⟨eJ cQ,trivial⟩ ?_))
  refine aB (aL (.inr rfl)) ⟨eJ aS.cod,trivial⟩ ?_
  refine aB (aL (.inr rfl)) ⟨bC _ _,trivial⟩ ?_
  refine aC (aA (aX (aW ?_)))
  obtain rfl:=bX hF
  exact aI (.inl rfl) Tryz.results17 (.tmp rfl (.tmp rfl (.tmp rfl .nil))) rfl rfl
 have hF:=aU h7 hF
 refine aV (aA (aD (aE (aB (bD 0 4 rfl rfl rfl rfl (.agg tyA113)) ⟨rfl,trivial⟩ ?_))))
 obtain⟨v8,h9,hF⟩:=aO hF
 refine aB (aG rfl (uC h9) rfl) ⟨rfl,trivial⟩ ?_
 refine aF ?_
 refine aB (lV rfl) ⟨rfl,trivial⟩ ?_
 refine aB (lR rfl) ⟨rfl,trivial⟩ ?_
 refine bB ?_
 refine bB ?_
 refine aC (aA (aD (aE (aF ?_))))
 refine aF ?_
 obtain⟨v10,h11,hF⟩:=aO hF
 refine aB (aG rfl (wG h11) rfl) ⟨rfl,rfl,bC _ _,trivial⟩ ?_
 refine aF ?_
 refine aB (lV rfl) ⟨rfl,trivial⟩ ?_
 refine aB (lR rfl) ⟨rfl,trivial⟩ ?_
 refine bJ rfl tyZ68q (fun b12=>?_)
 refine aY (dA 0 rfl rfl rfl tyA68.s) ⟨rfl,rfl,trivial⟩ ?_
 refine bB ?_
 refine aC (aA (aD (aD (aE (aF ?_)))))
 refine aB (sC rfl) ⟨rfl,bC _ _,trivial⟩ ?_
 refine aC (aA (bO rfl (fun h13=>?_) (fun h13=>?_)))
 ·have hF:=aT h13 hF
  refine aD (aE (aF ?_))
  refine aB (aL (.inr rfl)) ⟨eJ cQ,trivial⟩ ?_
  refine aB (aL (.inr rfl)) ⟨eJ aS.cod,trivial⟩ ?_
  refine bB ?_
  refine aC (aA (aX (aW ?_)))
  obtain rfl:=bX hF
  exact aI (.inl rfl) Tryz.results17 (.tmp rfl (.tmp rfl (.tmp rfl .nil))) rfl rfl
 have hF:=aU h13 hF
 refine aV (aA (aD (aE (aF ?_))))
 refine aB (bZ rfl tyS25) ⟨rfl,trivial⟩ ?_
 obtain⟨x14,h15,hF⟩:=aO hF
 refine rK (C:=aS.cod) (z:=(⟨0,0⟩:aS)) rfl tyS29 rfl tyZ58q rfl h15 (fun b16=>?_)
 refine bB ?_
 refine aC (aA (aD (aD (aE (aF ?_)))))
 refine aB (bZ rfl tyS114) ⟨rfl,trivial⟩ ?_
 refine aB (aL (.inl rfl)) ⟨bC _ _,trivial⟩ ?_
 refine aC (aA (bN (cL (fun H E=>∃(x33:List aS),rC K a0 a1 a2 a3 x33=some r∧x33.length=x14.length∧H=[hO aS.cod b16 x14.length 58 x14.length x33,⟨some b1,1,113,4,1,([pS bE.cod a0]++[pS cQ a1]++[pS cQ a2]++[pS aK.cod a3])⟩]∧E=[(1,.vc (pS cQ a1)),(11,.vc (pP (some b1) 0)),(17,.vc (pO b16 x14.length x14.length))]) ?_ (fun Jj40=>?_))))
 ·rintro _ _ ⟨x33,hF,q37,rfl,rfl⟩
  unfold rC at hF
  refine aA (aD (aE (aB (bD 1 4 rfl rfl rfl rfl (.agg tyA113)) ⟨rfl,trivial⟩ ?_)))
  refine aF ?_
  refine aF ?_
  refine xZ 0 [17,127] rfl q37 ⟨rfl,rfl,trivial⟩ rfl ?_
  obtain⟨v41,h42,hF⟩:=aO hF
  refine aB (aG rfl (cT h42) rfl) ⟨rfl,rfl,rfl,trivial⟩ ?_
  refine aF ?_
  refine bB ?_
  refine bB ?_
  refine aB (aL (.inr rfl)) ⟨bC _ _,trivial⟩ ?_
  refine aC (aA (aX (aW ?_)))
  obtain rfl:=bX hF
  exact aI (.inl rfl) Tryz.results17 (.tmp rfl (.tmp rfl (.tmp rfl .nil))) rfl rfl
 obtain⟨x33',hL,hRl39⟩:=aO hF
 refine gY (fun k a w=>∃(x26:List aS),∃(x32:Int),iF K a0 a1 a2 a3 v5 v10 k x26 x32=some x33'∧x26.length=x14.length∧hs _ [hO aS.cod b16 x14.length 58 x14.length x26,⟨some b12,1,68,3,1,(cC.enc v10.1)⟩,⟨some b1,1,113,4,1,([pS bE.cod a0]++[pS cQ a1]++[pS cQ a2]++[pS aK.cod a3])⟩] [(1,.vc (pS cQ a1)),(3,.vc (pS aK.cod a3)),(11,.vc (pP (some b1) 0)),(15,.vc (pP (some b12) 0)),(17,.vc (pO b16 x14.length x14.length)),(52,.vc (pS aH.cod v5)),(53,.vc (pI .i64 (v5.length:Int))),(54,.vc (pI .i64 x32))] a w) K (fun a w ⟨_,_,hF,_,_⟩=>by cases hF) (fun k a w ⟨x26,x32,hF,q30,hh⟩=>gX ?_ hh) (fun a w hh=>⟨x14,0,hL,rfl,bA [0,1,2] rfl (by decide) (by exact⟨rfl,rfl,rfl,rfl,rfl,rfl,rfl,rfl,trivial⟩) hh⟩)
 rw [iF.eq_2] at hF
 refine aD (aE (aB (dQ rfl) ⟨rfl,rfl,trivial⟩ ?_))
 refine aC (aA (aD (bO rfl (fun h43=>?_) (fun h43=>?_))))
 ·have hF:=aT h43 hF
  refine aV (aA (aD (bN (aD (aE (aF ?_))))))
  obtain⟨v44,h45,hF⟩:=aO hF
  refine aB (dX rfl tyS114 h45) ⟨rfl,rfl,trivial⟩ ?_
  refine aB (dM 2 rfl rfl (.agg tyA118)) ⟨rfl,trivial⟩ ?_
  refine bJ rfl tyZ118q (fun b46=>?_)
  refine bB ?_
  refine aY (dA 0 rfl rfl rfl tyA118.s) ⟨rfl,rfl,trivial⟩ ?_
  refine aC (aA (aD (aE (aF ?_))))
  refine aB (a8 (off:=0) (k:=0) rfl tyF118_0) ⟨rfl,trivial⟩ ?_
  refine aB (bD 0 1 rfl rfl rfl rfl (.one tyO3)) ⟨rfl,trivial⟩ ?_
  obtain⟨v47,h48,hF⟩:=aO hF
  refine aB (cE (C:=aS.cod) 1 rfl tyS29 rfl q30 (aN h48).1 (aN h48).2.1) ⟨rfl,rfl,trivial⟩ ?_
  refine bB ?_
  refine aC (aA (aD (aE (aB (a8 (off:=0) (k:=1) rfl tyF118_1) ⟨rfl,trivial⟩ ?_))))
  refine aB (bD 0 1 rfl rfl rfl rfl (.one tyO3)) ⟨rfl,trivial⟩ ?_
  refine aC (aA (bN (aD (aE (aB (iJ rfl) ⟨rfl,bC _ _,trivial⟩ ?_)))))
  refine bB ?_
  refine aC (aA (bO rfl (fun h49=>?_) (fun h49=>?_)))
  ·have hF:=aT h49 hF
   refine aD (aE (aF ?_))
   refine aB (a8 (off:=0) (k:=0) rfl tyF68_0) ⟨rfl,trivial⟩ ?_
   refine aB (bD 2 1 rfl rfl rfl rfl (.one tyO24)) ⟨rfl,trivial⟩ ?_
   refine aF ?_
   obtain⟨v50,h51,hF⟩:=aO hF
   refine aB (dX rfl tyS24 h51) ⟨rfl,rfl,trivial⟩ ?_
   refine aB (dM 4 rfl rfl (.agg tyA44)) ⟨rfl,trivial⟩ ?_
   refine aB (wY rfl) ⟨rfl,trivial⟩ ?_
   refine aB (vI (off:=0) (k:=0) rfl tyF58_0) ⟨rfl,trivial⟩ ?_
   obtain⟨x52,h53,hF⟩:=aO hF
   refine aY (fL 1 rfl rfl h48 h53 tyA44.s) ⟨rfl,rfl,trivial⟩ ?_
   refine aC (aA (aD (aE (aF ?_))))
   refine aB (a8 (off:=0) (k:=0) rfl tyF118_0) ⟨rfl,trivial⟩ ?_
   refine aB (bD 0 1 rfl rfl rfl rfl (.one tyO3)) ⟨rfl,trivial⟩ ?_
   obtain⟨v55,h56,hF⟩:=aO hF
   refine aB (dX rfl tyS25 h56) ⟨rfl,rfl,trivial⟩ ?_
   refine aB (dM 18 rfl rfl (.agg tyA51)) ⟨rfl,trivial⟩ ?_
   refine bJ rfl tyZ51q (fun b57=>?_)
   refine aY (dA 0 rfl rfl rfl tyA51.s) ⟨rfl,rfl,trivial⟩ ?_
   refine aC (aA (aD (aE (aB (a8 (off:=0) (k:=9) rfl tyF51_6) ⟨rfl,trivial⟩ ?_))))
   refine aB (bD 0 1 rfl rfl rfl rfl (.one tyO49)) ⟨rfl,trivial⟩ ?_
   refine aB (bZ rfl tyS49) ⟨rfl,trivial⟩ ?_
   refine aB (p8 rfl) ⟨rfl,bC _ _,trivial⟩ ?_
   refine aC (aA (bO rfl (fun h58=>?_) (fun h58=>?_)))
   ·have hF:=aT h58 hF
    obtain⟨v61,h62,hF⟩:=aO hF
    obtain⟨v63,h64,hF⟩:=aO hF
    refine bP [0,0,0,0,8,24,56,126,255,511,1023] 10 1 [.v (.vc (pE b16 v44.row aS.cod.n 0)),.v (.va ([pS bE.cod a0]++[pS cQ a1]++[pS cQ a2]++[pS aK.cod a3])),.v (.va (aK.enc v55)),.v (.vc (pE b16 v44.row aS.cod.n 0)),.v (.vc (pE b16 v44.row aS.cod.n 0)),.v (.vc (pE b16 v44.row aS.cod.n 0)),.v (.va (eQ v61.n)),.v (.va (eQ v63)),.v (.vc (pE b16 v44.row aS.cod.n 0)),.v (.vc (pE b16 v44.row aS.cod.n 4))] aR ⟨d0 (aL (.inl rfl)) ⟨rfl,trivial⟩,d0 (bD 4 4 rfl rfl rfl rfl (.agg tyA113)) ⟨rfl,trivial⟩,d0 (bD 0 18 rfl rfl rfl rfl (.agg tyA51)) ⟨rfl,trivial⟩,d0 (aL (.inl rfl)) ⟨rfl,trivial⟩,d0 (wY rfl) ⟨rfl,trivial⟩,d0 (vI (off:=0) (k:=0) rfl tyF58_0) ⟨rfl,trivial⟩,d0 (gA (k:=4) 2 rfl rfl h62 rfl (.agg tyA44) rfl) ⟨rfl,trivial⟩,d0 (aG rfl (rJ h64) rfl) ⟨rfl,rfl,rfl,trivial⟩,d0 (wY rfl) ⟨rfl,trivial⟩,d0 (vI (off:=0) (k:=4) rfl tyF58_1) ⟨rfl,trivial⟩,trivial⟩ (fun bs60 G59=>?_)
    obtain⟨v65,h66,hF⟩:=aO hF
    obtain⟨x67,h68,hF⟩:=aO hF
    refine aY (fL 2 rfl rfl h66 h68 tyA44.s) ⟨rfl,rfl,trivial⟩ ?_
    refine aC (bF (bF (aA (aE ?_))))
    obtain⟨v70,h71,hF⟩:=aO hF
    refine aB (bI rfl h71) ⟨rfl,bC _ _,trivial⟩ ?_
    refine aF ?_
    refine aC ?_
    exact bG (fun a w hh=>⟨x67,v70,hF,(b0 h68 (b0 h53 q30)),bA [2,3,4] rfl (by decide) (by exact⟨rfl,rfl,rfl,rfl,rfl,rfl,rfl,rfl,trivial⟩) hh⟩)
   have hF:=aU h58 hF
   refine aV (bF (bF (aA (aE ?_))))
   obtain⟨v72,h73,hF⟩:=aO hF
   refine aB (bI rfl h73) ⟨rfl,bC _ _,trivial⟩ ?_
   refine aF ?_
   refine aC ?_
   exact bG (fun a w hh=>⟨x52,v72,hF,(b0 h53 q30),bA [2,3,4] rfl (by decide) (by exact⟨rfl,rfl,rfl,rfl,rfl,rfl,rfl,rfl,trivial⟩) hh⟩)
  have hF:=aU h49 hF
  refine aD (aE (aB (iJ rfl) ⟨rfl,bC _ _,trivial⟩ ?_))
  refine bB ?_
  refine aC (aA (bO rfl (fun h74=>?_) (fun h74=>?_)))
  ·have hF:=aT h74 hF
   obtain⟨v77,h78,hF⟩:=aO hF
   obtain⟨v79,h80,hF⟩:=aO hF
   refine bP [0,0,2,6,14,0,32,0,224,480,1022,2047,4095,8191] 13 1 [.v (.vc (pE b16 v44.row aS.cod.n 0)),.v (.vc (pE b16 v44.row aS.cod.n 0)),.v (.vc (pE b16 v44.row aS.cod.n 0)),.v (.vc (pE b16 v44.row aS.cod.n 4)),.v (.va (eQ v47.f)),.v (.vc (pP (some b12) 0)),.v (.vc (pS cQ v10.1.z)),.v (.vc (pI .i64 x32)),.v (.vc (pM (cQ.e v77))),.v (.va (eQ v77)),.v (.va (eQ v79)),.v (.vc (pE b16 v44.row aS.cod.n 0)),.v (.vc (pE b16 v44.row aS.cod.n 4))] aR ⟨d0 (aL (.inl rfl)) ⟨rfl,trivial⟩,d0 (aL (.inl rfl)) ⟨rfl,trivial⟩,d0 (wY rfl) ⟨rfl,trivial⟩,d0 (vI (off:=0) (k:=4) rfl tyF58_1) ⟨rfl,trivial⟩,d0 (gA (k:=4) 1 rfl rfl h48 rfl (.agg tyA44) rfl) ⟨rfl,trivial⟩,d0 (a8 (off:=0) (k:=0) rfl tyF68_0) ⟨rfl,trivial⟩,d0 (bD 2 1 rfl rfl rfl rfl (.one tyO24)) ⟨rfl,trivial⟩,d0 (aL (.inl rfl)) ⟨rfl,trivial⟩,d0 (dX rfl tyS24 h78) ⟨rfl,rfl,trivial⟩,d0 (dM 4 rfl rfl (.agg tyA44)) ⟨rfl,trivial⟩,d0 (aG rfl (rV h80) rfl) ⟨rfl,rfl,trivial⟩,d0 (wY rfl) ⟨rfl,trivial⟩,d0 (vI (off:=0) (k:=4) rfl tyF58_1) ⟨rfl,trivial⟩,trivial⟩ (fun bs76 G75=>?_)
   obtain⟨x81,h82,hF⟩:=aO hF
   refine aY (fL 1 rfl rfl h48 h82 tyA44.s) ⟨rfl,rfl,trivial⟩ ?_
   refine aC (bF (bF (aA (aE ?_))))
   obtain⟨v84,h85,hF⟩:=aO hF
   refine aB (bI rfl h85) ⟨rfl,bC _ _,trivial⟩ ?_
   refine aF ?_
   refine aC ?_
   exact bG (fun a w hh=>⟨x81,v84,hF,(b0 h82 q30),bA [1,2,3] rfl (by decide) (by exact⟨rfl,rfl,rfl,rfl,rfl,rfl,rfl,rfl,trivial⟩) hh⟩)
  have hF:=aU h74 hF
  refine aD (aE (aB (iJ rfl) ⟨rfl,bC _ _,trivial⟩ ?_))
  refine bB ?_
  refine aC (aA (bO rfl (fun h86=>?_) (fun h86=>?_)))
  ·have hF:=aT h86 hF
   obtain⟨v89,h90,hF⟩:=aO hF
   obtain⟨v91,h92,hF⟩:=aO hF
   refine bP [0,0,2,6,14,0,32,0,224,480,1022,2047,4095,8191] 13 1 [.v (.vc (pE b16 v44.row aS.cod.n 0)),.v (.vc (pE b16 v44.row aS.cod.n 0)),.v (.vc (pE b16 v44.row aS.cod.n 0)),.v (.vc (pE b16 v44.row aS.cod.n 4)),.v (.va (eQ v47.f)),.v (.vc (pP (some b12) 0)),.v (.vc (pS cQ v10.1.z)),.v (.vc (pI .i64 x32)),.v (.vc (pM (cQ.e v89))),.v (.va (eQ v89)),.v (.va (eQ v91)),.v (.vc (pE b16 v44.row aS.cod.n 0)),.v (.vc (pE b16 v44.row aS.cod.n 4))] aR ⟨d0 (aL (.inl rfl)) ⟨rfl,trivial⟩,d0 (aL (.inl rfl)) ⟨rfl,trivial⟩,d0 (wY rfl) ⟨rfl,trivial⟩,d0 (vI (off:=0) (k:=4) rfl tyF58_1) ⟨rfl,trivial⟩,d0 (gA (k:=4) 1 rfl rfl h48 rfl (.agg tyA44) rfl) ⟨rfl,trivial⟩,d0 (a8 (off:=0) (k:=0) rfl tyF68_0) ⟨rfl,trivial⟩,d0 (bD 2 1 rfl rfl rfl rfl (.one tyO24)) ⟨rfl,trivial⟩,d0 (aL (.inl rfl)) ⟨rfl,trivial⟩,d0 (dX rfl tyS24 h90) ⟨rfl,rfl,trivial⟩,d0 (dM 4 rfl rfl (.agg tyA44)) ⟨rfl,trivial⟩,d0 (aG rfl (zV h92) rfl) ⟨rfl,rfl,trivial⟩,d0 (wY rfl) ⟨rfl,trivial⟩,d0 (vI (off:=0) (k:=4) rfl tyF58_1) ⟨rfl,trivial⟩,trivial⟩ (fun bs88 G87=>?_)
   obtain⟨x93,h94,hF⟩:=aO hF
   refine aY (fL 1 rfl rfl h48 h94 tyA44.s) ⟨rfl,rfl,trivial⟩ ?_
   refine aC (bF (bF (aA (aE ?_))))
   obtain⟨v96,h97,hF⟩:=aO hF
   refine aB (bI rfl h97) ⟨rfl,bC _ _,trivial⟩ ?_
   refine aF ?_
   refine aC ?_
   exact bG (fun a w hh=>⟨x93,v96,hF,(b0 h94 q30),bA [1,2,3] rfl (by decide) (by exact⟨rfl,rfl,rfl,rfl,rfl,rfl,rfl,rfl,trivial⟩) hh⟩)
  have hF:=aU h86 hF
  refine aV (bF (bF (aA (aE ?_))))
  obtain⟨v98,h99,hF⟩:=aO hF
  refine aB (bI rfl h99) ⟨rfl,bC _ _,trivial⟩ ?_
  refine aF ?_
  refine aC ?_
  exact bG (fun a w hh=>⟨x26,v98,hF,q30,bA [1,2,3] rfl (by decide) (by exact⟨rfl,rfl,rfl,rfl,rfl,rfl,rfl,rfl,trivial⟩) hh⟩)
 have hF:=aU h43 hF
 refine dE ?_
 obtain rfl:=bX hF
 exact bS Jj40 ⟨x26,hRl39,q30,rfl,rfl⟩ [0,2] rfl ⟨rfl,rfl,rfl,trivial⟩
def l3 (K:Nat):Option Int:=
 some (-1)
def jE (K:Nat) (a0:List aS) (a1:(aS→Option Bool)):Nat→Int→Option (LR Int Unit)
 |0,_=>none
 |k+1,x2=>bif(decide (x2<(a0.length:Int))) then((dO a0 x2).bind fun v6=>(a1 v6).bind fun v8=>bif v8 then(some (.ret x2)) else((bQ (x2+1)).bind fun v11=>jE K a0 a1 k v11)) else(some (.go ()))
def n0 (K:Nat) (a0:List aS) (a1:(aS→Option Bool)):Option Int:=
 (jE K a0 a1 K 0).bind fun o=>match o with| .ret r=>some r| .go _=>l3 K
theorem tM {K:Nat} {a0:List aS} {a1:(aS→Option Bool)} {r:Int} (hF:n0 K a0 a1=some r):Ct Tryz.prog 163 [.vc (pS aS.cod a0),.vc (pFn Tryz.prog (fun x:aS=>[.va (aS.enc x)]) (fun r:Bool=>.vc (pB r)) a1)] (.vc (pI .i64 r)):=by
 unfold n0 at hF
 refine a9 Tryz.func163 rfl (by kernel_rfl) Tryz.ntmps163 rfl (fun w0 M0=>?_)
 refine aD (aE (aB (aL (.inr rfl)) ⟨bC _ _,trivial⟩ ?_))
 refine aC (aA (aD (aD (aE (aF ?_)))))
 refine aB (bZ rfl tyS29) ⟨rfl,trivial⟩ ?_
 refine aB (aL (.inl rfl)) ⟨bC _ _,trivial⟩ ?_
 refine aC (aA (bN (cL (fun H E=>l3 K=some r∧H=[]∧E=[]) ?_ (fun Jj4=>?_))))
 ·rintro _ _ ⟨hF,rfl,rfl⟩
  unfold l3 at hF
  refine aA (aD (aE (aB (aL (.inr rfl)) ⟨bC _ _,trivial⟩ ?_)))
  refine aC (aA (aX (aW ?_)))
  obtain rfl:=bX hF
  exact aI (.inl rfl) Tryz.results163 (.tmp rfl .nil) rfl rfl
 obtain⟨ol3,hL,hRl3⟩:=aO hF
 refine gY (fun k a w=>∃(x2:Int),jE K a0 a1 k x2=some ol3∧hs _ [] [(0,.vc (pS aS.cod a0)),(1,.vc (pFn Tryz.prog (fun x:aS=>[.va (aS.enc x)]) (fun r:Bool=>.vc (pB r)) a1)),(7,.vc (pI .i64 (a0.length:Int))),(8,.vc (pI .i64 x2))] a w) K (fun a w ⟨_,hF,_⟩=>by cases hF) (fun k a w ⟨x2,hF,hh⟩=>gX ?_ hh) (fun a w hh=>⟨0,hL,bA [] rfl (by decide) (by exact⟨rfl,rfl,rfl,rfl,trivial⟩) hh⟩)
 rw [jE.eq_2] at hF
 refine aD (aE (aB (dQ rfl) ⟨rfl,rfl,trivial⟩ ?_))
 refine aC (aA (aD (bO rfl (fun h5=>?_) (fun h5=>?_))))
 ·have hF:=aT h5 hF
  refine aV (aA (aD (bN (aD (aE (aF ?_))))))
  refine bB ?_
  refine aC (aA (aD (aE (aF ?_))))
  refine aF ?_
  refine aF ?_
  obtain⟨v6,h7,hF⟩:=aO hF
  refine aB (dX rfl tyS29 h7) ⟨rfl,rfl,trivial⟩ ?_
  refine aB (dM 8 rfl rfl (.agg tyA58)) ⟨rfl,trivial⟩ ?_
  obtain⟨v8,h9,hF⟩:=aO hF
  refine aB (xW (pre:=fun x:aS=>[.va (aS.enc x)]) (post:=fun r:Bool=>.vc (pB r)) (x:=v6) (r:=v8) rfl h9 rfl) ⟨rfl,rfl,trivial⟩ ?_
  refine aC (aA (bO rfl (fun h10=>?_) (fun h10=>?_)))
  ·have hF:=aT h10 hF
   refine aD (aE (aF ?_))
   refine bB ?_
   refine aC (aA (aX (aW ?_)))
   obtain rfl:=bX hF
   obtain rfl:=bX hRl3
   exact aI (.inl rfl) Tryz.results163 (.tmp rfl .nil) rfl rfl
  have hF:=aU h10 hF
  refine aV (bF (aA (aE ?_)))
  obtain⟨v11,h12,hF⟩:=aO hF
  refine aB (bI rfl h12) ⟨rfl,bC _ _,trivial⟩ ?_
  refine aF ?_
  refine aC ?_
  exact bG (fun a w hh=>⟨v11,hF,bA [] rfl (by decide) (by exact⟨rfl,rfl,rfl,rfl,trivial⟩) hh⟩)
 have hF:=aU h5 hF
 refine dE ?_
 obtain rfl:=bX hF
 exact bS Jj4 ⟨hRl3,rfl,rfl⟩ [] rfl trivial
def mD (K:Nat) (a0:List aS) (a1:(aS→Option Bool)):Option Bool:=
 (n0 K a0 a1).bind fun v1=>some (decide (0≤v1))
theorem sI {K:Nat} {a0:List aS} {a1:(aS→Option Bool)} {r:Bool} (hF:mD K a0 a1=some r):Ct Tryz.prog 76 [.vc (pS aS.cod a0),.vc (pFn Tryz.prog (fun x:aS=>[.va (aS.enc x)]) (fun r:Bool=>.vc (pB r)) a1)] (.vc (pB r)):=by
 unfold mD at hF
 refine a9 Tryz.func76 rfl (by kernel_rfl) Tryz.ntmps76 rfl (fun w0 M0=>?_)
 refine aD (aE (aB (aL (.inr rfl)) ⟨dH _,trivial⟩ ?_))
 refine aC (aA (aD (aE (aF ?_))))
 refine aF ?_
 obtain⟨v1,h2,hF⟩:=aO hF
 refine aB (aG rfl (tM h2) rfl) ⟨rfl,rfl,trivial⟩ ?_
 refine aB (sB rfl) ⟨rfl,bC _ _,trivial⟩ ?_
 refine bB ?_
 refine aC (aA (aX (aW ?_)))
 obtain rfl:=bX hF
 exact aI (.inl rfl) Tryz.results76 (.tmp rfl .nil) rfl rfl
def qM (a0:aS):Option Bool:=
 (aBl a0.n).bind fun v2=>bif(!v2) then(some true) else((aBl a0.f).bind fun v5=>some (!v5))
theorem yM {a0:aS} {r:Bool} (hF:qM a0=some r):Ct Tryz.prog 77 [.va (aS.enc a0)] (.vc (pB r)):=by
 unfold qM at hF
 refine a9 Tryz.func77 rfl (by kernel_rfl) Tryz.ntmps77 rfl (fun w0 M0=>?_)
 refine aD (aE (cV rfl rfl trivial (fun b1=>?_)))
 refine aB (aL (.inr rfl)) ⟨dH _,trivial⟩ ?_
 refine aC (aA (aD (aE (aB (a8 (off:=0) (k:=0) rfl tyF58_0) ⟨rfl,trivial⟩ ?_))))
 refine aB (bD 0 4 rfl rfl rfl rfl (.agg tyA44)) ⟨rfl,trivial⟩ ?_
 obtain⟨v2,h3,hF⟩:=aO hF
 refine aB (aG rfl (nB h3) rfl) ⟨rfl,trivial⟩ ?_
 refine aB (lK rfl) ⟨rfl,trivial⟩ ?_
 refine aF ?_
 refine cU (fun h4=>?_) (fun h4=>?_)
 ·have hF:=aT h4 hF
  refine aJ ?_
  refine aJ ?_
  refine aJ ?_
  refine aJ ?_
  refine aB (bK rfl) ⟨rfl,dH _,trivial⟩ ?_
  refine bB ?_
  refine aC (aA (aX (aW ?_)))
  obtain rfl:=bX hF
  exact aI (.inl rfl) Tryz.results77 (.tmp rfl .nil) rfl rfl
 have hF:=aU h4 hF
 refine aZ (a8 (off:=0) (k:=4) rfl tyF58_1) ⟨rfl,trivial⟩ ?_
 refine aZ (bD 0 4 rfl rfl rfl rfl (.agg tyA44)) ⟨rfl,trivial⟩ ?_
 obtain⟨v5,h6,hF⟩:=aO hF
 refine aZ (aG rfl (nB h6) rfl) ⟨rfl,trivial⟩ ?_
 refine aZ (lK rfl) ⟨rfl,trivial⟩ ?_
 refine aB (bL rfl) ⟨rfl,rfl,trivial⟩ ?_
 refine bB ?_
 refine aC (aA (aX (aW ?_)))
 obtain rfl:=bX hF
 exact aI (.inl rfl) Tryz.results77 (.tmp rfl .nil) rfl rfl
def mQ (K:Nat):Option Bool:=
 some true
def kE (K:Nat) (a0:List Rat) (a1:List Rat) (a2:(Rat×Rat→Option Bool)):Nat→Int→Option (LR Bool Unit)
 |0,_=>none
 |k+1,x3=>bif(decide (x3<(a0.length:Int))) then((dO a0 x3).bind fun v7=>(dO a1 x3).bind fun v10=>(a2 (v7,v10)).bind fun v13=>bif(!v13) then(some (.ret false)) else((bQ (x3+1)).bind fun v16=>kE K a0 a1 a2 k v16)) else(some (.go ()))
def oI (K:Nat) (a0:List Rat) (a1:List Rat) (a2:(Rat×Rat→Option Bool)):Option Bool:=
 bif((a0.length:Int) != (a1.length:Int)) then(some false) else((kE K a0 a1 a2 K 0).bind fun o=>match o with| .ret r=>some r| .go _=>mQ K)
theorem tN {K:Nat} {a0:List Rat} {a1:List Rat} {a2:(Rat×Rat→Option Bool)} {r:Bool} (hF:oI K a0 a1 a2=some r):Ct Tryz.prog 79 [.vc (pS cQ a0),.vc (pS cQ a1),.vc (pFn Tryz.prog (fun x:Rat×Rat=>[.va (eQ x.1),.va (eQ x.2)]) (fun r:Bool=>.vc (pB r)) a2)] (.vc (pB r)):=by
 unfold oI at hF
 refine a9 Tryz.func79 rfl (by kernel_rfl) Tryz.ntmps79 rfl (fun w0 M0=>?_)
 refine aD (aE (aB (aL (.inr rfl)) ⟨dH _,trivial⟩ ?_))
 refine aC (aA (aD (aD (aE (aF ?_)))))
 refine aB (bZ rfl tyS24) ⟨rfl,trivial⟩ ?_
 refine aF ?_
 refine aB (bZ rfl tyS24) ⟨rfl,trivial⟩ ?_
 refine aB (sC rfl) ⟨rfl,rfl,trivial⟩ ?_
 refine aC (aA (bO rfl (fun h1=>?_) (fun h1=>?_)))
 ·have hF:=aT h1 hF
  refine aD (aE (aB (aL (.inr rfl)) ⟨dH _,trivial⟩ ?_))
  refine aC (aA (aX (aW ?_)))
  obtain rfl:=bX hF
  exact aI (.inl rfl) Tryz.results79 (.tmp rfl .nil) rfl rfl
 have hF:=aU h1 hF
 refine aV (aA (aD (aD (aE (aF ?_)))))
 refine aB (bZ rfl tyS24) ⟨rfl,trivial⟩ ?_
 refine aB (aL (.inl rfl)) ⟨bC _ _,trivial⟩ ?_
 refine aC (aA (bN (cL (fun H E=>mQ K=some r∧H=[]∧E=[]) ?_ (fun Jj5=>?_))))
 ·rintro _ _ ⟨hF,rfl,rfl⟩
  unfold mQ at hF
  refine aA (aD (aE (aB (aL (.inr rfl)) ⟨dH _,trivial⟩ ?_)))
  refine aC (aA (aX (aW ?_)))
  obtain rfl:=bX hF
  exact aI (.inl rfl) Tryz.results79 (.tmp rfl .nil) rfl rfl
 obtain⟨ol4,hL,hRl4⟩:=aO hF
 refine gY (fun k a w=>∃(x3:Int),kE K a0 a1 a2 k x3=some ol4∧hs _ [] [(1,.vc (pS cQ a1)),(2,.vc (pFn Tryz.prog (fun x:Rat×Rat=>[.va (eQ x.1),.va (eQ x.2)]) (fun r:Bool=>.vc (pB r)) a2)),(15,.vc (pS cQ a0)),(16,.vc (pI .i64 (a0.length:Int))),(17,.vc (pI .i64 x3))] a w) K (fun a w ⟨_,hF,_⟩=>by cases hF) (fun k a w ⟨x3,hF,hh⟩=>gX ?_ hh) (fun a w hh=>⟨0,hL,bA [] rfl (by decide) (by exact⟨rfl,rfl,rfl,rfl,rfl,trivial⟩) hh⟩)
 rw [kE.eq_2] at hF
 refine aD (aE (aB (dQ rfl) ⟨rfl,rfl,trivial⟩ ?_))
 refine aC (aA (aD (bO rfl (fun h6=>?_) (fun h6=>?_))))
 ·have hF:=aT h6 hF
  refine aV (aA (aD (bN (aD (aE (aF ?_))))))
  obtain⟨v7,h8,hF⟩:=aO hF
  refine aB (dX rfl tyS24 h8) ⟨rfl,rfl,trivial⟩ ?_
  refine aB (dM 4 rfl rfl (.agg tyA44)) ⟨rfl,trivial⟩ ?_
  refine bJ rfl tyZ44q (fun b9=>?_)
  refine bB ?_
  refine aY (dA 0 rfl rfl rfl tyA44.s) ⟨rfl,rfl,trivial⟩ ?_
  refine aC (aA (aD (aE (aF ?_))))
  refine aF ?_
  obtain⟨v10,h11,hF⟩:=aO hF
  refine aB (dX rfl tyS24 h11) ⟨rfl,rfl,trivial⟩ ?_
  refine aB (dM 4 rfl rfl (.agg tyA44)) ⟨rfl,trivial⟩ ?_
  refine bJ rfl tyZ44q (fun b12=>?_)
  refine aY (dA 0 rfl rfl rfl tyA44.s) ⟨rfl,rfl,trivial⟩ ?_
  refine aC (aA (aD (aE (aF ?_))))
  refine aB (bD 1 4 rfl rfl rfl rfl (.agg tyA44)) ⟨rfl,trivial⟩ ?_
  refine aB (bD 0 4 rfl rfl rfl rfl (.agg tyA44)) ⟨rfl,trivial⟩ ?_
  obtain⟨v13,h14,hF⟩:=aO hF
  refine aB (xW (pre:=fun x:Rat×Rat=>[.va (eQ x.1),.va (eQ x.2)]) (post:=fun r:Bool=>.vc (pB r)) (x:=(v7,v10)) (r:=v13) rfl h14 rfl) ⟨rfl,rfl,rfl,trivial⟩ ?_
  refine aB (lK rfl) ⟨rfl,trivial⟩ ?_
  refine aC (aA (bO rfl (fun h15=>?_) (fun h15=>?_)))
  ·have hF:=aT h15 hF
   refine aD (aE (aB (aL (.inr rfl)) ⟨dH _,trivial⟩ ?_))
   refine aC (aA (aX (aW ?_)))
   obtain rfl:=bX hF
   obtain rfl:=bX hRl4
   exact aI (.inl rfl) Tryz.results79 (.tmp rfl .nil) rfl rfl
  have hF:=aU h15 hF
  refine aV (bF (aA (aE ?_)))
  obtain⟨v16,h17,hF⟩:=aO hF
  refine aB (bI rfl h17) ⟨rfl,bC _ _,trivial⟩ ?_
  refine aF ?_
  refine aC ?_
  exact bG (fun a w hh=>⟨v16,hF,bA [] rfl (by decide) (by exact⟨rfl,rfl,rfl,rfl,rfl,trivial⟩) hh⟩)
 have hF:=aU h6 hF
 refine dE ?_
 obtain rfl:=bX hF
 exact bS Jj5 ⟨hRl4,rfl,rfl⟩ [] rfl trivial
def lB (K:Nat) (a1:aK) (a3:aS) (v6:Int) (v8:Rat) (x16:Int):Option Bool:=
 (s5 a3.n).bind fun v18=>bif(decide (v18<0)) then(some false) else(bif(decide (v6<0)) then(some false) else(bif(decide (0<v6)) then((s5 a3.n).bind fun v23=>bif(decide (0<v23)) then(some false) else(bif((a1.t.length:Int)==0) then((s5 a3.f).bind fun v27=>some (v27==0)) else(bif(decide (0<x16)) then((aAd v8).bind fun v32=>(u9 a3.f v32).bind fun v34=>some v34) else(bif(decide (x16<0)) then((u9 a3.f v8).bind fun v37=>some v37) else((aDW a3.f v8).bind fun v41=>bif(decide (v41≤0)) then((aAd a3.f).bind fun v44=>(aDW v44 v8).bind fun v46=>some (decide (v46≤0))) else(some false)))))) else(bif((a1.t.length:Int)==0) then((s5 a3.f).bind fun v49=>some (v49==0)) else(bif(decide (0<x16)) then((aAd v8).bind fun v54=>(u9 a3.f v54).bind fun v56=>some v56) else(bif(decide (x16<0)) then((u9 a3.f v8).bind fun v59=>some v59) else((aDW a3.f v8).bind fun v63=>bif(decide (v63≤0)) then((aAd a3.f).bind fun v66=>(aDW v66 v8).bind fun v68=>some (decide (v68≤0))) else(some false)))))))
def qD (K:Nat) (a0:aM) (a1:aK) (a2:List Rat) (a3:aS):Option Bool:=
 (gE K a1.j a2).bind fun v4=>(s5 v4).bind fun v6=>(yA a1.mu a3.n).bind fun v8=>(gE K a1.t a2).bind fun v11=>(s5 v11).bind fun v13=>(mA K a0 a1).bind fun v70=>bif(v70 != 0) then(lB K a1 a3 v6 v8 v70) else(lB K a1 a3 v6 v8 v13)
theorem vC {K:Nat} {a0:aM} {a1:aK} {a2:List Rat} {a3:aS} {r:Bool} (hF:qD K a0 a1 a2 a3=some r):Ct Tryz.prog 80 [.va (aM.enc a0),.va (aK.enc a1),.vc (pS cQ a2),.va (aS.enc a3)] (.vc (pB r)):=by
 unfold qD at hF
 refine a9 Tryz.func80 rfl (by kernel_rfl) Tryz.ntmps80 rfl (fun w0 M0=>?_)
 refine aD (aE (cV rfl rfl trivial (fun b1=>?_)))
 refine cV rfl rfl trivial (fun b2=>?_)
 refine cV rfl rfl trivial (fun b3=>?_)
 refine aB (aL (.inr rfl)) ⟨dH _,trivial⟩ ?_
 refine aC (aA (aD (aE (aB (a8 (off:=0) (k:=8) rfl tyF51_5) ⟨rfl,trivial⟩ ?_))))
 refine aB (bD 1 1 rfl rfl rfl rfl (.one tyO49)) ⟨rfl,trivial⟩ ?_
 refine aF ?_
 obtain⟨v4,h5,hF⟩:=aO hF
 refine aB (aG rfl (iL h5) rfl) ⟨rfl,rfl,trivial⟩ ?_
 obtain⟨v6,h7,hF⟩:=aO hF
 refine aB (aG rfl (gF h7) rfl) ⟨rfl,trivial⟩ ?_
 refine bB ?_
 refine aC (aA (aD (aE (aB (a8 (off:=0) (k:=10) rfl tyF51_7) ⟨rfl,trivial⟩ ?_))))
 refine aB (bD 1 4 rfl rfl rfl rfl (.agg tyA44)) ⟨rfl,trivial⟩ ?_
 refine aB (a8 (off:=0) (k:=0) rfl tyF58_0) ⟨rfl,trivial⟩ ?_
 refine aB (bD 0 4 rfl rfl rfl rfl (.agg tyA44)) ⟨rfl,trivial⟩ ?_
 obtain⟨v8,h9,hF⟩:=aO hF
 refine aB (aG rfl (oT h9) rfl) ⟨rfl,rfl,trivial⟩ ?_
 refine bJ rfl tyZ44q (fun b10=>?_)
 refine aY (dA 0 rfl rfl rfl tyA44.s) ⟨rfl,rfl,trivial⟩ ?_
 refine aC (aA (aD (aE (aB (a8 (off:=0) (k:=9) rfl tyF51_6) ⟨rfl,trivial⟩ ?_))))
 refine aB (bD 2 1 rfl rfl rfl rfl (.one tyO49)) ⟨rfl,trivial⟩ ?_
 refine aF ?_
 obtain⟨v11,h12,hF⟩:=aO hF
 refine aB (aG rfl (iL h12) rfl) ⟨rfl,rfl,trivial⟩ ?_
 obtain⟨v13,h14,hF⟩:=aO hF
 refine aB (aG rfl (gF h14) rfl) ⟨rfl,trivial⟩ ?_
 refine bB ?_
 refine aC (aA (aD (rB (fun H E=>∃(x16:Int),lB K a1 a3 v6 v8 x16=some r∧H=[⟨some b10,1,44,4,1,(eQ v8)⟩,⟨some b3,1,58,8,1,(aS.enc a3)⟩,⟨some b2,1,51,18,1,(aK.enc a1)⟩]∧E=[(5,.vc (pP (some b2) 0)),(7,.vc (pP (some b3) 0)),(9,.vc (pI .i64 v6)),(10,.vc (pP (some b10) 0)),(11,.vc (pI .i64 x16))]) ?_ (fun Jj17=>?_))))
 ·rintro _ _ ⟨x16,hF,rfl,rfl⟩
  unfold lB at hF
  refine aD (bN (aD (aE (aB (a8 (off:=0) (k:=0) rfl tyF58_0) ⟨rfl,trivial⟩ ?_))))
  refine aB (bD 1 4 rfl rfl rfl rfl (.agg tyA44)) ⟨rfl,trivial⟩ ?_
  obtain⟨v18,h19,hF⟩:=aO hF
  refine aB (aG rfl (gF h19) rfl) ⟨rfl,trivial⟩ ?_
  refine aB (dQ rfl) ⟨rfl,bC _ _,trivial⟩ ?_
  refine aF ?_
  refine cU (fun h20=>?_) (fun h20=>?_)
  ·have hF:=aT h20 hF
   refine aJ ?_
   refine aJ ?_
   refine aB (bK rfl) ⟨rfl,dH _,trivial⟩ ?_
   refine aF ?_
   refine aJ ?_
   refine aJ ?_
   refine aJ ?_
   refine rP ?_
   refine rP ?_
   refine rP ?_
   refine rP ?_
   refine aJ ?_
   refine aB (bK rfl) ⟨rfl,dH _,trivial⟩ ?_
   refine bB ?_
   refine aC (aA (kT rfl ?_))
   refine aD (aE (aB (aL (.inr rfl)) ⟨dH _,trivial⟩ ?_))
   refine aC (aA (aX (aW ?_)))
   obtain rfl:=bX hF
   exact aI (.inl rfl) Tryz.results80 (.tmp rfl .nil) rfl rfl
  have hF:=aU h20 hF
  refine aZ (aL (.inl rfl)) ⟨rfl,trivial⟩ ?_
  refine aZ (dQ rfl) ⟨rfl,bC _ _,trivial⟩ ?_
  refine aB (bL rfl) ⟨rfl,rfl,trivial⟩ ?_
  refine aF ?_
  refine cU (fun h21=>?_) (fun h21=>?_)
  ·have hF:=aT h21 hF
   refine aJ ?_
   refine aJ ?_
   refine aJ ?_
   refine rP ?_
   refine rP ?_
   refine rP ?_
   refine rP ?_
   refine aJ ?_
   refine aB (bK rfl) ⟨rfl,dH _,trivial⟩ ?_
   refine bB ?_
   refine aC (aA (kT rfl ?_))
   refine aD (aE (aB (aL (.inr rfl)) ⟨dH _,trivial⟩ ?_))
   refine aC (aA (aX (aW ?_)))
   obtain rfl:=bX hF
   exact aI (.inl rfl) Tryz.results80 (.tmp rfl .nil) rfl rfl
  have hF:=aU h21 hF
  refine aZ (aL (.inl rfl)) ⟨rfl,trivial⟩ ?_
  refine aZ (p8 rfl) ⟨rfl,bC _ _,trivial⟩ ?_
  refine aZ (aL (.inl rfl)) ⟨rfl,trivial⟩ ?_
  refine cU (fun h22=>?_) (fun h22=>?_)
  ·have hF:=aT h22 hF
   refine aZ (a8 (off:=0) (k:=0) rfl tyF58_0) ⟨rfl,trivial⟩ ?_
   refine aZ (bD 1 4 rfl rfl rfl rfl (.agg tyA44)) ⟨rfl,trivial⟩ ?_
   obtain⟨v23,h24,hF⟩:=aO hF
   refine aZ (aG rfl (gF h24) rfl) ⟨rfl,trivial⟩ ?_
   refine aZ (p8 rfl) ⟨rfl,bC _ _,trivial⟩ ?_
   refine aZ (bK rfl) ⟨rfl,rfl,trivial⟩ ?_
   refine aB (bL rfl) ⟨rfl,rfl,trivial⟩ ?_
   refine bB ?_
   refine aC (aA (bO rfl (fun h25=>?_) (fun h25=>?_)))
   ·have hF:=aT h25 hF
    refine aD (aE (aB (aL (.inr rfl)) ⟨dH _,trivial⟩ ?_))
    refine aC (aA (aX (aW ?_)))
    obtain rfl:=bX hF
    exact aI (.inl rfl) Tryz.results80 (.tmp rfl .nil) rfl rfl
   have hF:=aU h25 hF
   refine aD (aE (aB (a8 (off:=0) (k:=9) rfl tyF51_6) ⟨rfl,trivial⟩ ?_))
   refine aB (bD 2 1 rfl rfl rfl rfl (.one tyO49)) ⟨rfl,trivial⟩ ?_
   refine aB (bZ rfl tyS49) ⟨rfl,trivial⟩ ?_
   refine aB (iJ rfl) ⟨rfl,bC _ _,trivial⟩ ?_
   refine bB ?_
   refine aC (aA (bO rfl (fun h26=>?_) (fun h26=>?_)))
   ·have hF:=aT h26 hF
    refine aD (aE (aB (a8 (off:=0) (k:=4) rfl tyF58_1) ⟨rfl,trivial⟩ ?_))
    refine aB (bD 1 4 rfl rfl rfl rfl (.agg tyA44)) ⟨rfl,trivial⟩ ?_
    obtain⟨v27,h28,hF⟩:=aO hF
    refine aB (aG rfl (gF h28) rfl) ⟨rfl,trivial⟩ ?_
    refine aB (iJ rfl) ⟨rfl,bC _ _,trivial⟩ ?_
    refine bB ?_
    refine aC (aA (aX (aW ?_)))
    obtain rfl:=bX hF
    exact aI (.inl rfl) Tryz.results80 (.tmp rfl .nil) rfl rfl
   have hF:=aU h26 hF
   refine aD (aE (aF ?_))
   refine aB (p8 rfl) ⟨rfl,bC _ _,trivial⟩ ?_
   refine bB ?_
   refine aC (aA (bO rfl (fun h29=>?_) (fun h29=>?_)))
   ·have hF:=aT h29 hF
    refine aD ?_
    obtain⟨v32,h33,hF⟩:=aO hF
    obtain⟨v34,h35,hF⟩:=aO hF
    refine bP [0,1,0,4,15,31] 6 0 [.v (.vc (pP (some b3) 4)),.v (.va (eQ a3.f)),.v (.va (eQ v8)),.v (.va (eQ v32)),.v (.vc (pB v34)),.v (.vc (pB v34))] aR ⟨d0 (a8 (off:=0) (k:=4) rfl tyF58_1) ⟨rfl,trivial⟩,d0 (bD 1 4 rfl rfl rfl rfl (.agg tyA44)) ⟨rfl,trivial⟩,d0 (bD 0 4 rfl rfl rfl rfl (.agg tyA44)) ⟨rfl,trivial⟩,d0 (aG rfl (nK h33) rfl) ⟨rfl,trivial⟩,d0 (aG rfl (gU h35) rfl) ⟨rfl,rfl,trivial⟩,d0 (aL (.inr rfl)) ⟨rfl,trivial⟩,trivial⟩ (fun bs31 G30=>?_)
    refine aC (aA (aX (aW ?_)))
    obtain rfl:=bX hF
    exact aI (.inl rfl) Tryz.results80 (.tmp rfl .nil) rfl rfl
   have hF:=aU h29 hF
   refine aD (aE (aF ?_))
   refine aB (dQ rfl) ⟨rfl,bC _ _,trivial⟩ ?_
   refine bB ?_
   refine aC (aA (bO rfl (fun h36=>?_) (fun h36=>?_)))
   ·have hF:=aT h36 hF
    refine aD (aE (aB (a8 (off:=0) (k:=4) rfl tyF58_1) ⟨rfl,trivial⟩ ?_))
    refine aB (bD 1 4 rfl rfl rfl rfl (.agg tyA44)) ⟨rfl,trivial⟩ ?_
    refine aB (bD 0 4 rfl rfl rfl rfl (.agg tyA44)) ⟨rfl,trivial⟩ ?_
    obtain⟨v37,h38,hF⟩:=aO hF
    refine aB (aG rfl (gU h38) rfl) ⟨rfl,rfl,trivial⟩ ?_
    refine bB ?_
    refine aC (aA (aX (aW ?_)))
    obtain rfl:=bX hF
    exact aI (.inl rfl) Tryz.results80 (.tmp rfl .nil) rfl rfl
   have hF:=aU h36 hF
   refine aV (bF (aA (aD ?_)))
   obtain⟨v41,h42,hF⟩:=aO hF
   rcases Bool.eq_false_or_eq_true (decide (v41≤0)) with h43|h43
   ·have hF:=aT h43 hF
    obtain⟨v44,h45,hF⟩:=aO hF
    obtain⟨v46,h47,hF⟩:=aO hF
    refine bP [0,1,0,7,15,31,63,127,255,63,1023,2047,4095,8191] 14 0 [.v (.vc (pP (some b3) 4)),.v (.va (eQ a3.f)),.v (.va (eQ v8)),.v (.vc (pI .i64 v41)),.v (.vc (pB (decide (v41≤0)))),.v (.vc (pB true)),.v (.vc (pP (some b3) 4)),.v (.va (eQ a3.f)),.v (.va (eQ v44)),.v (.va (eQ v8)),.v (.vc (pI .i64 v46)),.v (.vc (pB (decide (v46≤0)))),.v (.vc (pB (decide (v46≤0)))),.v (.vc (pB (decide (v46≤0))))] aR ⟨d0 (a8 (off:=0) (k:=4) rfl tyF58_1) ⟨rfl,trivial⟩,d0 (bD 1 4 rfl rfl rfl rfl (.agg tyA44)) ⟨rfl,trivial⟩,d0 (bD 0 4 rfl rfl rfl rfl (.agg tyA44)) ⟨rfl,trivial⟩,d0 (aG rfl (l4 h42) rfl) ⟨rfl,rfl,trivial⟩,d0 (w9 rfl) ⟨rfl,bC _ _,trivial⟩,d0 (cW (aL (.inl rfl)) h43) ⟨rfl,trivial⟩,g0 (a8 (off:=0) (k:=4) rfl tyF58_1) ⟨rfl,trivial⟩,g0 (bD 1 4 rfl rfl rfl rfl (.agg tyA44)) ⟨rfl,trivial⟩,g0 (aG rfl (nK h45) rfl) ⟨rfl,trivial⟩,g0 (bD 0 4 rfl rfl rfl rfl (.agg tyA44)) ⟨rfl,trivial⟩,g0 (aG rfl (l4 h47) rfl) ⟨rfl,rfl,trivial⟩,g0 (w9 rfl) ⟨rfl,bC _ _,trivial⟩,d0 (bK rfl) ⟨rfl,rfl,trivial⟩,d0 (aL (.inr rfl)) ⟨rfl,trivial⟩,trivial⟩ (fun bs40 G39=>?_)
    refine aC (aA (aX (aW ?_)))
    obtain rfl:=bX hF
    exact aI (.inl rfl) Tryz.results80 (.tmp rfl .nil) rfl rfl
   have hF:=aU h43 hF
   refine bP [0,1,0,7,15,31,63,127,255,63,1023,2047,4095,8191] 14 0 [.v (.vc (pP (some b3) 4)),.v (.va (eQ a3.f)),.v (.va (eQ v8)),.v (.vc (pI .i64 v41)),.v (.vc (pB (decide (v41≤0)))),.v (.vc (pB false)),.v .un,.v .un,.v .un,.v .un,.v .un,.v .un,.v (.vc (pB false)),.v (.vc (pB false))] aR ⟨d0 (a8 (off:=0) (k:=4) rfl tyF58_1) ⟨rfl,trivial⟩,d0 (bD 1 4 rfl rfl rfl rfl (.agg tyA44)) ⟨rfl,trivial⟩,d0 (bD 0 4 rfl rfl rfl rfl (.agg tyA44)) ⟨rfl,trivial⟩,d0 (aG rfl (l4 h42) rfl) ⟨rfl,rfl,trivial⟩,d0 (w9 rfl) ⟨rfl,bC _ _,trivial⟩,d0 (cW (aL (.inl rfl)) h43) ⟨rfl,trivial⟩,⟨rfl,.skipN⟩,⟨rfl,.skipN⟩,⟨rfl,.skipN⟩,⟨rfl,.skipN⟩,⟨rfl,.skipN⟩,⟨rfl,.skipN⟩,d0 (bL rfl) ⟨rfl,dH _,trivial⟩,d0 (aL (.inr rfl)) ⟨rfl,trivial⟩,trivial⟩ (fun bs40 G39=>?_)
   refine aC (aA (aX (aW ?_)))
   obtain rfl:=bX hF
   exact aI (.inl rfl) Tryz.results80 (.tmp rfl .nil) rfl rfl
  have hF:=aU h22 hF
  refine aJ ?_
  refine aJ ?_
  refine aJ ?_
  refine aJ ?_
  refine aZ (bL rfl) ⟨rfl,dH _,trivial⟩ ?_
  refine aB (bL rfl) ⟨rfl,rfl,trivial⟩ ?_
  refine bB ?_
  refine aC (aA (qG rfl ?_))
  refine aD (aE (aB (a8 (off:=0) (k:=9) rfl tyF51_6) ⟨rfl,trivial⟩ ?_))
  refine aB (bD 2 1 rfl rfl rfl rfl (.one tyO49)) ⟨rfl,trivial⟩ ?_
  refine aB (bZ rfl tyS49) ⟨rfl,trivial⟩ ?_
  refine aB (iJ rfl) ⟨rfl,bC _ _,trivial⟩ ?_
  refine bB ?_
  refine aC (aA (bO rfl (fun h48=>?_) (fun h48=>?_)))
  ·have hF:=aT h48 hF
   refine aD (aE (aB (a8 (off:=0) (k:=4) rfl tyF58_1) ⟨rfl,trivial⟩ ?_))
   refine aB (bD 1 4 rfl rfl rfl rfl (.agg tyA44)) ⟨rfl,trivial⟩ ?_
   obtain⟨v49,h50,hF⟩:=aO hF
   refine aB (aG rfl (gF h50) rfl) ⟨rfl,trivial⟩ ?_
   refine aB (iJ rfl) ⟨rfl,bC _ _,trivial⟩ ?_
   refine bB ?_
   refine aC (aA (aX (aW ?_)))
   obtain rfl:=bX hF
   exact aI (.inl rfl) Tryz.results80 (.tmp rfl .nil) rfl rfl
  have hF:=aU h48 hF
  refine aD (aE (aF ?_))
  refine aB (p8 rfl) ⟨rfl,bC _ _,trivial⟩ ?_
  refine bB ?_
  refine aC (aA (bO rfl (fun h51=>?_) (fun h51=>?_)))
  ·have hF:=aT h51 hF
   refine aD ?_
   obtain⟨v54,h55,hF⟩:=aO hF
   obtain⟨v56,h57,hF⟩:=aO hF
   refine bP [0,1,0,4,15,31] 6 0 [.v (.vc (pP (some b3) 4)),.v (.va (eQ a3.f)),.v (.va (eQ v8)),.v (.va (eQ v54)),.v (.vc (pB v56)),.v (.vc (pB v56))] aR ⟨d0 (a8 (off:=0) (k:=4) rfl tyF58_1) ⟨rfl,trivial⟩,d0 (bD 1 4 rfl rfl rfl rfl (.agg tyA44)) ⟨rfl,trivial⟩,d0 (bD 0 4 rfl rfl rfl rfl (.agg tyA44)) ⟨rfl,trivial⟩,d0 (aG rfl (nK h55) rfl) ⟨rfl,trivial⟩,d0 (aG rfl (gU h57) rfl) ⟨rfl,rfl,trivial⟩,d0 (aL (.inr rfl)) ⟨rfl,trivial⟩,trivial⟩ (fun bs53 G52=>?_)
   refine aC (aA (aX (aW ?_)))
   obtain rfl:=bX hF
   exact aI (.inl rfl) Tryz.results80 (.tmp rfl .nil) rfl rfl
  have hF:=aU h51 hF
  refine aD (aE (aF ?_))
  refine aB (dQ rfl) ⟨rfl,bC _ _,trivial⟩ ?_
  refine bB ?_
  refine aC (aA (bO rfl (fun h58=>?_) (fun h58=>?_)))
  ·have hF:=aT h58 hF
   refine aD (aE (aB (a8 (off:=0) (k:=4) rfl tyF58_1) ⟨rfl,trivial⟩ ?_))
   refine aB (bD 1 4 rfl rfl rfl rfl (.agg tyA44)) ⟨rfl,trivial⟩ ?_
   refine aB (bD 0 4 rfl rfl rfl rfl (.agg tyA44)) ⟨rfl,trivial⟩ ?_
   obtain⟨v59,h60,hF⟩:=aO hF
   refine aB (aG rfl (gU h60) rfl) ⟨rfl,rfl,trivial⟩ ?_
   refine bB ?_
   refine aC (aA (aX (aW ?_)))
   obtain rfl:=bX hF
   exact aI (.inl rfl) Tryz.results80 (.tmp rfl .nil) rfl rfl
  have hF:=aU h58 hF
  refine aV (bF (aA (aD ?_)))
  obtain⟨v63,h64,hF⟩:=aO hF
  rcases Bool.eq_false_or_eq_true (decide (v63≤0)) with h65|h65
  ·have hF:=aT h65 hF
   obtain⟨v66,h67,hF⟩:=aO hF
   obtain⟨v68,h69,hF⟩:=aO hF
   refine bP [0,1,0,7,15,31,63,127,255,63,1023,2047,4095,8191] 14 0 [.v (.vc (pP (some b3) 4)),.v (.va (eQ a3.f)),.v (.va (eQ v8)),.v (.vc (pI .i64 v63)),.v (.vc (pB (decide (v63≤0)))),.v (.vc (pB true)),.v (.vc (pP (some b3) 4)),.v (.va (eQ a3.f)),.v (.va (eQ v66)),.v (.va (eQ v8)),.v (.vc (pI .i64 v68)),.v (.vc (pB (decide (v68≤0)))),.v (.vc (pB (decide (v68≤0)))),.v (.vc (pB (decide (v68≤0))))] aR ⟨d0 (a8 (off:=0) (k:=4) rfl tyF58_1) ⟨rfl,trivial⟩,d0 (bD 1 4 rfl rfl rfl rfl (.agg tyA44)) ⟨rfl,trivial⟩,d0 (bD 0 4 rfl rfl rfl rfl (.agg tyA44)) ⟨rfl,trivial⟩,d0 (aG rfl (l4 h64) rfl) ⟨rfl,rfl,trivial⟩,d0 (w9 rfl) ⟨rfl,bC _ _,trivial⟩,d0 (cW (aL (.inl rfl)) h65) ⟨rfl,trivial⟩,g0 (a8 (off:=0) (k:=4) rfl tyF58_1) ⟨rfl,trivial⟩,g0 (bD 1 4 rfl rfl rfl rfl (.agg tyA44)) ⟨rfl,trivial⟩,g0 (aG rfl (nK h67) rfl) ⟨rfl,trivial⟩,g0 (bD 0 4 rfl rfl rfl rfl (.agg tyA44)) ⟨rfl,trivial⟩,g0 (aG rfl (l4 h69) rfl) ⟨rfl,rfl,trivial⟩,g0 (w9 rfl) ⟨rfl,bC _ _,trivial⟩,d0 (bK rfl) ⟨rfl,rfl,trivial⟩,d0 (aL (.inr rfl)) ⟨rfl,trivial⟩,trivial⟩ (fun bs62 G61=>?_)
   refine aC (aA (aX (aW ?_)))
   obtain rfl:=bX hF
   exact aI (.inl rfl) Tryz.results80 (.tmp rfl .nil) rfl rfl
  have hF:=aU h65 hF
  refine bP [0,1,0,7,15,31,63,127,255,63,1023,2047,4095,8191] 14 0 [.v (.vc (pP (some b3) 4)),.v (.va (eQ a3.f)),.v (.va (eQ v8)),.v (.vc (pI .i64 v63)),.v (.vc (pB (decide (v63≤0)))),.v (.vc (pB false)),.v .un,.v .un,.v .un,.v .un,.v .un,.v .un,.v (.vc (pB false)),.v (.vc (pB false))] aR ⟨d0 (a8 (off:=0) (k:=4) rfl tyF58_1) ⟨rfl,trivial⟩,d0 (bD 1 4 rfl rfl rfl rfl (.agg tyA44)) ⟨rfl,trivial⟩,d0 (bD 0 4 rfl rfl rfl rfl (.agg tyA44)) ⟨rfl,trivial⟩,d0 (aG rfl (l4 h64) rfl) ⟨rfl,rfl,trivial⟩,d0 (w9 rfl) ⟨rfl,bC _ _,trivial⟩,d0 (cW (aL (.inl rfl)) h65) ⟨rfl,trivial⟩,⟨rfl,.skipN⟩,⟨rfl,.skipN⟩,⟨rfl,.skipN⟩,⟨rfl,.skipN⟩,⟨rfl,.skipN⟩,⟨rfl,.skipN⟩,d0 (bL rfl) ⟨rfl,dH _,trivial⟩,d0 (aL (.inr rfl)) ⟨rfl,trivial⟩,trivial⟩ (fun bs62 G61=>?_)
  refine aC (aA (aX (aW ?_)))
  obtain rfl:=bX hF
  exact aI (.inl rfl) Tryz.results80 (.tmp rfl .nil) rfl rfl
 refine aD (aE (aB (bD 3 4 rfl rfl rfl rfl (.agg tyA113)) ⟨rfl,trivial⟩ ?_))
 refine aB (bD 2 18 rfl rfl rfl rfl (.agg tyA51)) ⟨rfl,trivial⟩ ?_
 obtain⟨v70,h71,hF⟩:=aO hF
 refine aB (aG rfl (qB h71) rfl) ⟨rfl,rfl,trivial⟩ ?_
 refine bB ?_
 refine aC (aA (aD (aE (aF ?_))))
 refine aB (sC rfl) ⟨rfl,bC _ _,trivial⟩ ?_
 refine aC (aA (bO rfl (fun h72=>?_) (fun h72=>?_)))
 ·have hF:=aT h72 hF
  refine aE (aF ?_)
  refine bB ?_
  refine aC ?_
  exact bS Jj17 ⟨v70,hF,rfl,rfl⟩ [0,1,2] rfl ⟨rfl,rfl,rfl,rfl,rfl,trivial⟩
 have hF:=aU h72 hF
 refine aV ?_
 exact bS Jj17 ⟨v13,hF,rfl,rfl⟩ [0,1,2] rfl ⟨rfl,rfl,rfl,rfl,rfl,trivial⟩
def rF (K:Nat):Option Int:=
 some 0
def pH (K:Nat) (a0:List bE) (a1:List Rat) (a2:List Rat) (a3:List aK) (a4:List Rat) (a5:List aS):Nat→Int→Option (LR Int Unit)
 |0,_=>none
 |k+1,x19=>bif(decide (x19<(a3.length:Int))) then((dO a3 x19).bind fun v23=>(dO a5 x19).bind fun v28=>(qD K (⟨a0,a1,a2,a3⟩:aM) v23 a4 v28).bind fun v30=>bif(!v30) then(some (.ret 18)) else((bQ (x19+1)).bind fun v33=>pH K a0 a1 a2 a3 a4 a5 k v33)) else(some (.go ()))
def tH (K:Nat) (a0:List bE) (a1:List Rat) (a2:List Rat) (a3:List aK) (a4:List Rat) (a5:List aS):Option Int:=
 (oK K (⟨a0,a1,a2,a3⟩:aM)).bind fun v2=>bif(!v2) then(some 1) else(bif((a4.length:Int) != (a0.length:Int)) then(some 18) else(bif((a5.length:Int) != (a3.length:Int)) then(some 18) else((qZ K a4).bind fun v7=>bif(!v7) then(some 18) else((mD K a5 (qM)).bind fun v10=>bif v10 then(some 18) else((cF K (⟨a0,a1,a2,a3⟩:aM) a1 a5).bind fun v13=>(oI K a4 v13 (fun x=>u9 x.1 x.2)).bind fun v15=>bif(!v15) then(some 18) else((pH K a0 a1 a2 a3 a4 a5 K 0).bind fun o=>match o with| .ret r=>some r| .go _=>rF K))))))
theorem aAh {K:Nat} {a0:List bE} {a1:List Rat} {a2:List Rat} {a3:List aK} {a4:List Rat} {a5:List aS} {r:Int} (hF:tH K a0 a1 a2 a3 a4 a5=some r):Ct Tryz.prog 19 [.vc (pS bE.cod a0),.vc (pS cQ a1),.vc (pS cQ a2),.vc (pS aK.cod a3),.vc (pS cQ a4),.vc (pS aS.cod a5)] (.vc (pI .i64 r)):=by
 unfold tH at hF
 refine a9 Tryz.func19 rfl (by kernel_rfl) Tryz.ntmps19 rfl (fun w0 M0=>?_)
 refine aD (aE (aB (aL (.inr rfl)) ⟨bC _ _,trivial⟩ ?_))
 refine aC (aA (aD (aE (aF ?_))))
 refine aF ?_
 refine aF ?_
 refine aF ?_
 refine aB (fA (is:=[0,1,2,3]) (xs:=[.tmp 16,.tmp 17,.tmp 18,.tmp 19]) (ps:=[.vc (pS bE.cod a0),.vc (pS cQ a1),.vc (pS cQ a2),.vc (pS aK.cod a3)]) rfl tyB113q rfl rfl ⟨trivial,trivial,trivial,trivial,trivial⟩ rfl) ⟨rfl,rfl,rfl,rfl,trivial⟩ ?_
 refine bJ rfl tyZ113q (fun b1=>?_)
 refine aY (dA 0 rfl rfl rfl tyA113.s) ⟨rfl,rfl,trivial⟩ ?_
 refine aC (aA (aD (bN (aD (aE (aB (bD 0 4 rfl rfl rfl rfl (.agg tyA113)) ⟨rfl,trivial⟩ ?_))))))
 obtain⟨v2,h3,hF⟩:=aO hF
 refine aB (aG rfl (sD h3) rfl) ⟨rfl,trivial⟩ ?_
 refine aB (lK rfl) ⟨rfl,trivial⟩ ?_
 refine bB ?_
 refine aC (aA (bO rfl (fun h4=>?_) (fun h4=>?_)))
 ·have hF:=aT h4 hF
  refine aD (aE (aB (aL (.inr rfl)) ⟨bC _ _,trivial⟩ ?_))
  refine aC (aA (aX (aW ?_)))
  obtain rfl:=bX hF
  exact aI (.inl rfl) Tryz.results19 (.tmp rfl .nil) rfl rfl
 have hF:=aU h4 hF
 refine aD (aE (aF ?_))
 refine aB (bZ rfl tyS24) ⟨rfl,trivial⟩ ?_
 refine aF ?_
 refine aB (bZ rfl tyS23) ⟨rfl,trivial⟩ ?_
 refine aB (sC rfl) ⟨rfl,rfl,trivial⟩ ?_
 refine aF ?_
 refine cU (fun h5=>?_) (fun h5=>?_)
 ·have hF:=aT h5 hF
  refine aJ ?_
  refine aJ ?_
  refine aJ ?_
  refine aJ ?_
  refine aJ ?_
  refine aB (bK rfl) ⟨rfl,dH _,trivial⟩ ?_
  refine aF ?_
  refine aJ ?_
  refine aJ ?_
  refine aJ ?_
  refine aB (bK rfl) ⟨rfl,dH _,trivial⟩ ?_
  refine bB ?_
  refine aC (aA (kT rfl ?_))
  refine aD (aE (aB (aL (.inr rfl)) ⟨bC _ _,trivial⟩ ?_))
  refine aC (aA (aX (aW ?_)))
  obtain rfl:=bX hF
  exact aI (.inl rfl) Tryz.results19 (.tmp rfl .nil) rfl rfl
 have hF:=aU h5 hF
 refine aZ (aL (.inl rfl)) ⟨rfl,trivial⟩ ?_
 refine aZ (bZ rfl tyS29) ⟨rfl,trivial⟩ ?_
 refine aZ (aL (.inl rfl)) ⟨rfl,trivial⟩ ?_
 refine aZ (bZ rfl tyS25) ⟨rfl,trivial⟩ ?_
 refine aZ (sC rfl) ⟨rfl,rfl,trivial⟩ ?_
 refine aB (bL rfl) ⟨rfl,rfl,trivial⟩ ?_
 refine aF ?_
 refine cU (fun h6=>?_) (fun h6=>?_)
 ·have hF:=aT h6 hF
  refine aJ ?_
  refine aJ ?_
  refine aJ ?_
  refine aB (bK rfl) ⟨rfl,dH _,trivial⟩ ?_
  refine bB ?_
  refine aC (aA (kT rfl ?_))
  refine aD (aE (aB (aL (.inr rfl)) ⟨bC _ _,trivial⟩ ?_))
  refine aC (aA (aX (aW ?_)))
  obtain rfl:=bX hF
  exact aI (.inl rfl) Tryz.results19 (.tmp rfl .nil) rfl rfl
 have hF:=aU h6 hF
 refine aZ (aL (.inl rfl)) ⟨rfl,trivial⟩ ?_
 obtain⟨v7,h8,hF⟩:=aO hF
 refine aZ (aG rfl (tG h8) rfl) ⟨rfl,trivial⟩ ?_
 refine aZ (lK rfl) ⟨rfl,trivial⟩ ?_
 refine aB (bL rfl) ⟨rfl,rfl,trivial⟩ ?_
 refine bB ?_
 refine aC (aA (bO rfl (fun h9=>?_) (fun h9=>?_)))
 ·have hF:=aT h9 hF
  refine aD (aE (aB (aL (.inr rfl)) ⟨bC _ _,trivial⟩ ?_))
  refine aC (aA (aX (aW ?_)))
  obtain rfl:=bX hF
  exact aI (.inl rfl) Tryz.results19 (.tmp rfl .nil) rfl rfl
 have hF:=aU h9 hF
 refine aD (aE (aF ?_))
 obtain⟨v10,h11,hF⟩:=aO hF
 refine aB (aG rfl (sI h11) rfl) ⟨rfl,(aFD (P:=Tryz.prog) (φ:=(qM)) (pre:=fun x:aS=>[.va (aS.enc x)]) (post:=fun r:Bool=>.vc (pB r)) (fun x r h=>yM h)),trivial⟩ ?_
 refine bB ?_
 refine aC (aA (bO rfl (fun h12=>?_) (fun h12=>?_)))
 ·have hF:=aT h12 hF
  refine aD (aE (aB (aL (.inr rfl)) ⟨bC _ _,trivial⟩ ?_))
  refine aC (aA (aX (aW ?_)))
  obtain rfl:=bX hF
  exact aI (.inl rfl) Tryz.results19 (.tmp rfl .nil) rfl rfl
 have hF:=aU h12 hF
 refine aD (aE (aF ?_))
 refine aB (bD 0 4 rfl rfl rfl rfl (.agg tyA113)) ⟨rfl,trivial⟩ ?_
 refine aF ?_
 refine aF ?_
 obtain⟨v13,h14,hF⟩:=aO hF
 refine aB (aG rfl (cT h14) rfl) ⟨rfl,rfl,rfl,trivial⟩ ?_
 obtain⟨v15,h16,hF⟩:=aO hF
 refine aB (aG rfl (tN h16) rfl) ⟨rfl,rfl,(aFD (P:=Tryz.prog) (φ:=(fun x=>u9 x.1 x.2)) (pre:=fun x:Rat×Rat=>[.va (eQ x.1),.va (eQ x.2)]) (post:=fun r:Bool=>.vc (pB r)) (fun x r h=>gU h)),trivial⟩ ?_
 refine aB (lK rfl) ⟨rfl,trivial⟩ ?_
 refine bB ?_
 refine aC (aA (bO rfl (fun h17=>?_) (fun h17=>?_)))
 ·have hF:=aT h17 hF
  refine aD (aE (aB (aL (.inr rfl)) ⟨bC _ _,trivial⟩ ?_))
  refine aC (aA (aX (aW ?_)))
  obtain rfl:=bX hF
  exact aI (.inl rfl) Tryz.results19 (.tmp rfl .nil) rfl rfl
 have hF:=aU h17 hF
 refine aV (bF (aA (aD (aD (aE (aF ?_))))))
 refine aB (bZ rfl tyS25) ⟨rfl,trivial⟩ ?_
 refine aB (aL (.inl rfl)) ⟨bC _ _,trivial⟩ ?_
 refine aC (aA (bN (cL (fun H E=>rF K=some r∧H=[]∧E=[]) ?_ (fun Jj21=>?_))))
 ·rintro _ _ ⟨hF,rfl,rfl⟩
  unfold rF at hF
  refine aA (aD (aE (aB (aL (.inr rfl)) ⟨bC _ _,trivial⟩ ?_)))
  refine aC (aA (aX (aW ?_)))
  obtain rfl:=bX hF
  exact aI (.inl rfl) Tryz.results19 (.tmp rfl .nil) rfl rfl
 obtain⟨ol20,hL,hRl20⟩:=aO hF
 refine gY (fun k a w=>∃(x19:Int),pH K a0 a1 a2 a3 a4 a5 k x19=some ol20∧hs _ [⟨some b1,1,113,4,1,([pS bE.cod a0]++[pS cQ a1]++[pS cQ a2]++[pS aK.cod a3])⟩] [(4,.vc (pS cQ a4)),(5,.vc (pS aS.cod a5)),(13,.vc (pP (some b1) 0)),(54,.vc (pS aK.cod a3)),(55,.vc (pI .i64 (a3.length:Int))),(56,.vc (pI .i64 x19))] a w) K (fun a w ⟨_,hF,_⟩=>by cases hF) (fun k a w ⟨x19,hF,hh⟩=>gX ?_ hh) (fun a w hh=>⟨0,hL,bA [0] rfl (by decide) (by exact⟨rfl,rfl,rfl,rfl,rfl,rfl,trivial⟩) hh⟩)
 rw [pH.eq_2] at hF
 refine aD (aE (aB (dQ rfl) ⟨rfl,rfl,trivial⟩ ?_))
 refine aC (aA (aD (bO rfl (fun h22=>?_) (fun h22=>?_))))
 ·have hF:=aT h22 hF
  refine aV (aA (aD (bN (aD (aE (aF ?_))))))
  obtain⟨v23,h24,hF⟩:=aO hF
  refine aB (dX rfl tyS25 h24) ⟨rfl,rfl,trivial⟩ ?_
  refine aB (dM 18 rfl rfl (.agg tyA51)) ⟨rfl,trivial⟩ ?_
  refine bJ rfl tyZ51q (fun b25=>?_)
  refine bB ?_
  refine aY (dA 0 rfl rfl rfl tyA51.s) ⟨rfl,rfl,trivial⟩ ?_
  refine aC (aA (aD ?_))
  obtain⟨v28,h29,hF⟩:=aO hF
  obtain⟨v30,h31,hF⟩:=aO hF
  refine bP [0,0,0,0,0,24,56,127,255] 9 0 [.v (.va ([pS bE.cod a0]++[pS cQ a1]++[pS cQ a2]++[pS aK.cod a3])),.v (.va (aK.enc v23)),.v (.vc (pS cQ a4)),.v (.vc (pS aS.cod a5)),.v (.vc (pI .i64 x19)),.v (.vc (pM (aS.cod.e v28))),.v (.va (aS.enc v28)),.v (.vc (pB v30)),.v (.vc (pB (!v30)))] aR ⟨d0 (bD 1 4 rfl rfl rfl rfl (.agg tyA113)) ⟨rfl,trivial⟩,d0 (bD 0 18 rfl rfl rfl rfl (.agg tyA51)) ⟨rfl,trivial⟩,d0 (aL (.inl rfl)) ⟨rfl,trivial⟩,d0 (aL (.inl rfl)) ⟨rfl,trivial⟩,d0 (aL (.inl rfl)) ⟨rfl,trivial⟩,d0 (dX rfl tyS29 h29) ⟨rfl,rfl,trivial⟩,d0 (dM 8 rfl rfl (.agg tyA58)) ⟨rfl,trivial⟩,d0 (aG rfl (vC h31) rfl) ⟨rfl,rfl,rfl,rfl,trivial⟩,d0 (lK rfl) ⟨rfl,trivial⟩,trivial⟩ (fun bs27 G26=>?_)
  refine aC (aA (bO rfl (fun h32=>?_) (fun h32=>?_)))
  ·have hF:=aT h32 hF
   refine aD (aE (aB (aL (.inr rfl)) ⟨bC _ _,trivial⟩ ?_))
   refine aC (aA (aX (aW ?_)))
   obtain rfl:=bX hF
   obtain rfl:=bX hRl20
   exact aI (.inl rfl) Tryz.results19 (.tmp rfl .nil) rfl rfl
  have hF:=aU h32 hF
  refine aV (bF (aA (aE ?_)))
  obtain⟨v33,h34,hF⟩:=aO hF
  refine aB (bI rfl h34) ⟨rfl,bC _ _,trivial⟩ ?_
  refine aF ?_
  refine aC ?_
  exact bG (fun a w hh=>⟨v33,hF,bA [1] rfl (by decide) (by exact⟨rfl,rfl,rfl,rfl,rfl,rfl,trivial⟩) hh⟩)
 have hF:=aU h22 hF
 refine dE ?_
 obtain rfl:=bX hF
 exact bS Jj21 ⟨hRl20,rfl,rfl⟩ [] rfl trivial
def mY (K:Nat) (c0:List Rat) (c1:List Rat) (a0:aK):Option Bool:=
 (gE K a0.t c0).bind fun v2=>(gE K a0.t c1).bind fun v7=>(zD v2 v7).bind fun v9=>(yA v2 v9).bind fun v11=>(s5 v11).bind fun v13=>some (decide (v13<0))
theorem yO {K:Nat} {c0:List Rat} {c1:List Rat} {a0:aK} {r:Bool} (hF:mY K c0 c1 a0=some r):Ct Tryz.prog 91 [.va (aK.enc a0),.vc (pM ((sH cQ).e c0)),.vc (pM ((sH cQ).e c1))] (.vc (pB r)):=by
 unfold mY at hF
 refine a9 Tryz.func91 rfl (by kernel_rfl) Tryz.ntmps91 rfl (fun w0 M0=>?_)
 refine aD (aE (cV rfl rfl trivial (fun b1=>?_)))
 refine aB (aL (.inr rfl)) ⟨dH _,trivial⟩ ?_
 refine aC (aA (aD (aE (aB (a8 (off:=0) (k:=9) rfl tyF51_6) ⟨rfl,trivial⟩ ?_))))
 refine aB (bD 0 1 rfl rfl rfl rfl (.one tyO49)) ⟨rfl,trivial⟩ ?_
 refine aB (dM 1 rfl rfl (.one tyO24)) ⟨rfl,trivial⟩ ?_
 obtain⟨v2,h3,hF⟩:=aO hF
 refine aB (aG rfl (iL h3) rfl) ⟨rfl,rfl,trivial⟩ ?_
 refine bJ rfl tyZ44q (fun b4=>?_)
 refine aY (dA 0 rfl rfl rfl tyA44.s) ⟨rfl,rfl,trivial⟩ ?_
 refine aC (aA (aD ?_))
 obtain⟨v7,h8,hF⟩:=aO hF
 obtain⟨v9,h10,hF⟩:=aO hF
 obtain⟨v11,h12,hF⟩:=aO hF
 obtain⟨v13,h14,hF⟩:=aO hF
 refine bP [0,0,0,4,0,28,62,127,255,511,1023] 11 0 [.v (.va (eQ v2)),.v (.va (eQ v2)),.v (.vc (pP (some b1) 9)),.v (.vc (pS aQ.cod a0.t)),.v (.vc (pS cQ c1)),.v (.va (eQ v7)),.v (.va (eQ v9)),.v (.va (eQ v11)),.v (.vc (pI .i64 v13)),.v (.vc (pB (decide (v13<0)))),.v (.vc (pB (decide (v13<0))))] aR ⟨d0 (bD 0 4 rfl rfl rfl rfl (.agg tyA44)) ⟨rfl,trivial⟩,d0 (bD 0 4 rfl rfl rfl rfl (.agg tyA44)) ⟨rfl,trivial⟩,d0 (a8 (off:=0) (k:=9) rfl tyF51_6) ⟨rfl,trivial⟩,d0 (bD 1 1 rfl rfl rfl rfl (.one tyO49)) ⟨rfl,trivial⟩,d0 (dM 1 rfl rfl (.one tyO24)) ⟨rfl,trivial⟩,d0 (aG rfl (iL h8) rfl) ⟨rfl,rfl,trivial⟩,d0 (aG rfl (rV h10) rfl) ⟨rfl,rfl,trivial⟩,d0 (aG rfl (oT h12) rfl) ⟨rfl,rfl,trivial⟩,d0 (aG rfl (gF h14) rfl) ⟨rfl,trivial⟩,d0 (dQ rfl) ⟨rfl,bC _ _,trivial⟩,d0 (aL (.inr rfl)) ⟨rfl,trivial⟩,trivial⟩ (fun bs6 G5=>?_)
 refine aC (aA (aX (aW ?_)))
 obtain rfl:=bX hF
 exact aI (.inl rfl) Tryz.results91 (.tmp rfl .nil) rfl rfl
def nO (K:Nat) (a0:List Rat) (a1:List Rat) (a2:List aK):Option Bool:=
 (eX K a2 (mY K a0 a1)).bind fun v3=>some (!v3)
theorem oA {K:Nat} {a0:List Rat} {a1:List Rat} {a2:List aK} {r:Bool} (hF:nO K a0 a1 a2=some r):Ct Tryz.prog 27 [.vc (pS cQ a0),.vc (pS cQ a1),.vc (pS aK.cod a2)] (.vc (pB r)):=by
 unfold nO at hF
 refine a9 Tryz.func27 rfl (by kernel_rfl) Tryz.ntmps27 rfl (fun w0 M0=>?_)
 refine aD (aE (cV rfl rfl trivial (fun b1=>?_)))
 refine cV rfl rfl trivial (fun b2=>?_)
 refine aB (aL (.inr rfl)) ⟨dH _,trivial⟩ ?_
 refine aC (aA (aD (aE (aF ?_))))
 refine aDb 1 [(3,0)] rfl ⟨rfl,trivial⟩ rfl ?_
 refine aDb 0 [(4,0)] rfl ⟨rfl,trivial⟩ rfl ?_
 refine aB (aFY (φ:=(mY K a0 a1)) (pre:=fun x:aK=>[.va (aK.enc x)]) (post:=fun r:Bool=>.vc (pB r)) (xs:=[.tmp 3,.tmp 4]) (cs:=[pM ((sH cQ).e a0),pM ((sH cQ).e a1)]) rfl rfl (fun x r h=>yO h)) ⟨rfl,rfl,trivial⟩ ?_
 obtain⟨v3,h4,hF⟩:=aO hF
 refine aB (aG rfl (pR h4) rfl) ⟨rfl,rfl,trivial⟩ ?_
 refine aB (lK rfl) ⟨rfl,trivial⟩ ?_
 refine bB ?_
 refine aC (aA (aX (aW ?_)))
 obtain rfl:=bX hF
 exact aI (.inl rfl) Tryz.results27 (.tmp rfl .nil) rfl rfl
def jT (a0:Int) (a1:Int) (a2:Int) (a3:Int):Option bH:=
 (wP 1 2).bind fun v2=>(wP 1 1).bind fun v5=>(wP 1 2).bind fun v10=>(wP a0 a2).bind fun v14=>(wP a1 1).bind fun v16=>(wP a3 1).bind fun v18=>some (⟨[(⟨v2,0,false,0,0⟩:bE),(⟨v2,0,false,0,0⟩:bE)],[v14,v16],[v18,0],[(⟨0,0,0,0,0,[(⟨1,v5⟩:aQ)],[(⟨0,v5⟩:aQ)],v10,0⟩:aK)]⟩:bH)
theorem eH {a0:Int} {a1:Int} {a2:Int} {a3:Int} {r:bH} (hF:jT a0 a1 a2 a3=some r):Ct Tryz.prog 88 [.vc (pI .i64 a0),.vc (pI .i64 a1),.vc (pI .i64 a2),.vc (pI .i64 a3)] (.va (bH.enc r)):=by
 unfold jT at hF
 refine a9 Tryz.func88 rfl (by kernel_rfl) Tryz.ntmps88 rfl (fun w0 M0=>?_)
 refine aD (aE (bJ rfl tyZ27q (fun b1=>?_)))
 refine aC (aA (aD (aE ?_)))
 obtain⟨v2,h3,hF⟩:=aO hF
 refine aB (aG rfl (bV h3) rfl) ⟨bC _ _,bC _ _,trivial⟩ ?_
 refine aB (fA (is:=[0]) (xs:=[.tmp 12]) (ps:=[.va (eQ v2)]) rfl tyB108q rfl rfl ⟨trivial,trivial⟩ rfl) ⟨rfl,trivial⟩ ?_
 refine bJ rfl tyZ108q (fun b4=>?_)
 refine aY (dA 0 rfl rfl rfl tyA108.s) ⟨rfl,rfl,trivial⟩ ?_
 refine aC (aA (aD (aE ?_)))
 obtain⟨v5,h6,hF⟩:=aO hF
 refine aB (aG rfl (bV h6) rfl) ⟨bC _ _,bC _ _,trivial⟩ ?_
 refine bJ rfl tyZ44q (fun b7=>?_)
 refine aY (dA 0 rfl rfl rfl tyA44.s) ⟨rfl,rfl,trivial⟩ ?_
 refine aC (aA (aD ?_))
 obtain⟨v10,h11,hF⟩:=aO hF
 refine bP [0,1,3,0,8,24,0,127,0,511] 9 1 [.v (.va (eQ v5)),.v (.va ([pI .i64 1]++(eQ v5))),.v (.vc (pS aQ.cod [(⟨1,v5⟩:aQ)])),.v (.va (eQ v5)),.v (.va ([pI .i64 0]++(eQ v5))),.v (.vc (pS aQ.cod [(⟨0,v5⟩:aQ)])),.v (.va (eQ v10)),.v (.va ([pI .i64 0]++[pI .i64 0]++[pI .i64 0]++[pI .i64 0]++(eQ 0)++[pS aQ.cod [(⟨1,v5⟩:aQ)]]++[pS aQ.cod [(⟨0,v5⟩:aQ)]]++(eQ v10)++(eQ 0))),.a 51 ([pI .i64 0]++[pI .i64 0]++[pI .i64 0]++[pI .i64 0]++(eQ 0)++[pS aQ.cod ([]:List aQ)]++[pS aQ.cod ([]:List aQ)]++(eQ 0)++(eQ 0))] aR ⟨d0 (bD 0 4 rfl rfl rfl rfl (.agg tyA44)) ⟨rfl,trivial⟩,d0 (fA (is:=[0,1]) (xs:=[.const (.int .i64 (1)),.tmp 15]) (ps:=[.vc (pI .i64 1),.va (eQ v5)]) rfl tyB92q rfl rfl ⟨trivial,trivial,trivial⟩ rfl) ⟨bC _ _,rfl,trivial⟩,d0 (pX (C:=aQ.cod) (xs:=[.tmp 16]) (ps:=[.va ([pI .i64 1]++(eQ v5))]) (zs:=[(⟨1,v5⟩:aQ)]) rfl tyS49 rfl ⟨⟨trivial,rfl⟩,trivial⟩ rfl) ⟨rfl,trivial⟩,d0 (bD 0 4 rfl rfl rfl rfl (.agg tyA44)) ⟨rfl,trivial⟩,d0 (fA (is:=[0,1]) (xs:=[.const (.int .i64 (0)),.tmp 18]) (ps:=[.vc (pI .i64 0),.va (eQ v5)]) rfl tyB92q rfl rfl ⟨trivial,trivial,trivial⟩ rfl) ⟨bC _ _,rfl,trivial⟩,d0 (pX (C:=aQ.cod) (xs:=[.tmp 19]) (ps:=[.va ([pI .i64 0]++(eQ v5))]) (zs:=[(⟨0,v5⟩:aQ)]) rfl tyS49 rfl ⟨⟨trivial,rfl⟩,trivial⟩ rfl) ⟨rfl,trivial⟩,d0 (aG rfl (bV h11) rfl) ⟨bC _ _,bC _ _,trivial⟩,d0 (fA (is:=[5,6,7]) (xs:=[.tmp 17,.tmp 20,.tmp 21]) (ps:=[.vc (pS aQ.cod [(⟨1,v5⟩:aQ)]),.vc (pS aQ.cod [(⟨0,v5⟩:aQ)]),.va (eQ v10)]) rfl tyB51q rfl rfl ⟨trivial,trivial,trivial,trivial⟩ rfl) ⟨rfl,rfl,rfl,trivial⟩,⟨rfl,.alc tyZ51q⟩,trivial⟩ (fun bs9 G8=>?_)
 refine aY (dA 0 rfl rfl rfl tyA51.s) ⟨rfl,rfl,trivial⟩ ?_
 refine aC (aA (aD ?_))
 obtain⟨v14,h15,hF⟩:=aO hF
 obtain⟨v16,h17,hF⟩:=aO hF
 obtain⟨v18,h19,hF⟩:=aO hF
 refine bP [0,0,3,0,0,24,0,120,248,0,760,0,3832,0,8192,32767,65535] 16 1 [.v (.va ((eQ v2)++(eQ 0)++[pB false]++(eQ 0)++(eQ 0))),.v (.va ((eQ v2)++(eQ 0)++[pB false]++(eQ 0)++(eQ 0))),.v (.vc (pS bE.cod [(⟨v2,0,false,0,0⟩:bE),(⟨v2,0,false,0,0⟩:bE)])),.v (.vc (pI .i64 a0)),.v (.vc (pI .i64 a2)),.v (.va (eQ v14)),.v (.vc (pI .i64 a1)),.v (.va (eQ v16)),.v (.vc (pS cQ [v14,v16])),.v (.vc (pI .i64 a3)),.v (.va (eQ v18)),.v (.va (eQ 0)),.v (.vc (pS cQ [v18,0])),.v (.va ([pI .i64 0]++[pI .i64 0]++[pI .i64 0]++[pI .i64 0]++(eQ 0)++[pS aQ.cod [(⟨1,v5⟩:aQ)]]++[pS aQ.cod [(⟨0,v5⟩:aQ)]]++(eQ v10)++(eQ 0))),.v (.vc (pS aK.cod [(⟨0,0,0,0,0,[(⟨1,v5⟩:aQ)],[(⟨0,v5⟩:aQ)],v10,0⟩:aK)])),.v (.va ([pS bE.cod [(⟨v2,0,false,0,0⟩:bE),(⟨v2,0,false,0,0⟩:bE)]]++[pS cQ [v14,v16]]++[pS cQ [v18,0]]++[pS aK.cod [(⟨0,0,0,0,0,[(⟨1,v5⟩:aQ)],[(⟨0,v5⟩:aQ)],v10,0⟩:aK)]]))] aR ⟨d0 (bD 2 17 rfl rfl rfl rfl (.agg tyA108)) ⟨rfl,trivial⟩,d0 (bD 2 17 rfl rfl rfl rfl (.agg tyA108)) ⟨rfl,trivial⟩,d0 (pX (C:=bE.cod) (xs:=[.tmp 23,.tmp 24]) (ps:=[.va ((eQ v2)++(eQ 0)++[pB false]++(eQ 0)++(eQ 0)),.va ((eQ v2)++(eQ 0)++[pB false]++(eQ 0)++(eQ 0))]) (zs:=[(⟨v2,0,false,0,0⟩:bE),(⟨v2,0,false,0,0⟩:bE)]) rfl tyS23 rfl ⟨⟨trivial,rfl⟩,⟨trivial,rfl⟩,trivial⟩ rfl) ⟨rfl,rfl,trivial⟩,d0 (aL (.inl rfl)) ⟨rfl,trivial⟩,d0 (aL (.inl rfl)) ⟨rfl,trivial⟩,d0 (aG rfl (bV h15) rfl) ⟨rfl,rfl,trivial⟩,d0 (aL (.inl rfl)) ⟨rfl,trivial⟩,d0 (aG rfl (bV h17) rfl) ⟨rfl,bC _ _,trivial⟩,d0 (pX (C:=cQ) (xs:=[.tmp 28,.tmp 30]) (ps:=[.va (eQ v14),.va (eQ v16)]) (zs:=[v14,v16]) rfl tyS24 rfl ⟨⟨trivial,rfl⟩,⟨trivial,rfl⟩,trivial⟩ rfl) ⟨rfl,rfl,trivial⟩,d0 (aL (.inl rfl)) ⟨rfl,trivial⟩,d0 (aG rfl (bV h19) rfl) ⟨rfl,bC _ _,trivial⟩,d0 (fA (is:=[]) (xs:=[]) (ps:=[]) rfl tyB44q rfl rfl trivial rfl) trivial,d0 (pX (C:=cQ) (xs:=[.tmp 33,.tmp 34]) (ps:=[.va (eQ v18),.va (eQ 0)]) (zs:=[v18,0]) rfl tyS24 rfl ⟨⟨trivial,rfl⟩,⟨trivial,rfl⟩,trivial⟩ rfl) ⟨rfl,rfl,trivial⟩,d0 (bD 0 18 rfl rfl rfl rfl (.agg tyA51)) ⟨rfl,trivial⟩,d0 (pX (C:=aK.cod) (xs:=[.tmp 36]) (ps:=[.va ([pI .i64 0]++[pI .i64 0]++[pI .i64 0]++[pI .i64 0]++(eQ 0)++[pS aQ.cod [(⟨1,v5⟩:aQ)]]++[pS aQ.cod [(⟨0,v5⟩:aQ)]]++(eQ v10)++(eQ 0))]) (zs:=[(⟨0,0,0,0,0,[(⟨1,v5⟩:aQ)],[(⟨0,v5⟩:aQ)],v10,0⟩:aK)]) rfl tyS25 rfl ⟨⟨trivial,rfl⟩,trivial⟩ rfl) ⟨rfl,trivial⟩,d0 (fA (is:=[0,1,2,3]) (xs:=[.tmp 25,.tmp 31,.tmp 35,.tmp 37]) (ps:=[.vc (pS bE.cod [(⟨v2,0,false,0,0⟩:bE),(⟨v2,0,false,0,0⟩:bE)]),.vc (pS cQ [v14,v16]),.vc (pS cQ [v18,0]),.vc (pS aK.cod [(⟨0,0,0,0,0,[(⟨1,v5⟩:aQ)],[(⟨0,v5⟩:aQ)],v10,0⟩:aK)])]) rfl tyB27q rfl rfl ⟨trivial,trivial,trivial,trivial,trivial⟩ rfl) ⟨rfl,rfl,rfl,rfl,trivial⟩,trivial⟩ (fun bs13 G12=>?_)
 refine aY (dA 3 rfl rfl rfl tyA27.s) ⟨rfl,rfl,trivial⟩ ?_
 refine aC (aA (aX (aW ?_)))
 obtain rfl:=bX hF
 exact aI (.inl rfl) Tryz.results88 (bM 3 4 rfl rfl rfl rfl (.agg tyA27) .nil) rfl rfl
def jR (K:Nat) (a0:bH) (a1:Rat) (a2:Rat) (a3:Rat) (a4:Rat):Option Bool:=
 (rX K a0.dofs a0.load a0.v a0.rows).bind fun v6=>bif(v6.2.2 != 0) then(some false) else(bif((v6.1.length:Int) != 2) then(some false) else(bif((v6.2.1.length:Int) != 1) then(some false) else((dO v6.1 0).bind fun v13=>(u9 v13 a1).bind fun v15=>bif v15 then((dO v6.1 1).bind fun v18=>(u9 v18 a2).bind fun v20=>bif v20 then((dO v6.2.1 0).bind fun v23=>(u9 v23.n a3).bind fun v25=>bif v25 then((dO v6.2.1 0).bind fun v28=>(u9 v28.f a4).bind fun v30=>some v30) else(some false)) else(some false)) else(some false))))
theorem eI {K:Nat} {a0:bH} {a1:Rat} {a2:Rat} {a3:Rat} {a4:Rat} {r:Bool} (hF:jR K a0 a1 a2 a3 a4=some r):Ct Tryz.prog 89 [.va (bH.enc a0),.va (eQ a1),.va (eQ a2),.va (eQ a3),.va (eQ a4)] (.vc (pB r)):=by
 unfold jR at hF
 refine a9 Tryz.func89 rfl (by kernel_rfl) Tryz.ntmps89 rfl (fun w0 M0=>?_)
 refine aD (aE (cV rfl rfl trivial (fun b1=>?_)))
 refine cV rfl rfl trivial (fun b2=>?_)
 refine cV rfl rfl trivial (fun b3=>?_)
 refine cV rfl rfl trivial (fun b4=>?_)
 refine cV rfl rfl trivial (fun b5=>?_)
 refine aB (aL (.inr rfl)) ⟨dH _,trivial⟩ ?_
 refine aC (aA (aD (aE (aB (a8 (off:=0) (k:=0) rfl tyF27_0) ⟨rfl,trivial⟩ ?_))))
 refine aB (bD 4 1 rfl rfl rfl rfl (.one tyO23)) ⟨rfl,trivial⟩ ?_
 refine aB (a8 (off:=0) (k:=1) rfl tyF27_1) ⟨rfl,trivial⟩ ?_
 refine aB (bD 4 1 rfl rfl rfl rfl (.one tyO24)) ⟨rfl,trivial⟩ ?_
 refine aB (a8 (off:=0) (k:=2) rfl tyF27_2) ⟨rfl,trivial⟩ ?_
 refine aB (bD 4 1 rfl rfl rfl rfl (.one tyO24)) ⟨rfl,trivial⟩ ?_
 refine aB (a8 (off:=0) (k:=3) rfl tyF27_3) ⟨rfl,trivial⟩ ?_
 refine aB (bD 4 1 rfl rfl rfl rfl (.one tyO25)) ⟨rfl,trivial⟩ ?_
 obtain⟨v6,h7,hF⟩:=aO hF
 refine aB (aG rfl (u7 h7) rfl) ⟨rfl,rfl,rfl,rfl,trivial⟩ ?_
 refine aF ?_
 refine aB (aCX rfl) ⟨rfl,trivial⟩ ?_
 refine aB (aC5 rfl) ⟨rfl,trivial⟩ ?_
 refine aB (aC4 rfl) ⟨rfl,trivial⟩ ?_
 refine bB ?_
 refine bB ?_
 refine bB ?_
 refine aC (aA (aD (aD (aE (aF ?_)))))
 refine aB (sC rfl) ⟨rfl,bC _ _,trivial⟩ ?_
 refine aF ?_
 refine cU (fun h8=>?_) (fun h8=>?_)
 ·have hF:=aT h8 hF
  refine aJ ?_
  refine aJ ?_
  refine aJ ?_
  refine aB (bK rfl) ⟨rfl,dH _,trivial⟩ ?_
  refine aF ?_
  refine aJ ?_
  refine aJ ?_
  refine aJ ?_
  refine aB (bK rfl) ⟨rfl,dH _,trivial⟩ ?_
  refine aC (aA (kT rfl ?_))
  refine aD (aE (aB (aL (.inr rfl)) ⟨dH _,trivial⟩ ?_))
  refine aC (aA (aX (aW ?_)))
  obtain rfl:=bX hF
  exact aI (.inl rfl) Tryz.results89 (.tmp rfl .nil) rfl rfl
 have hF:=aU h8 hF
 refine aZ (aL (.inl rfl)) ⟨rfl,trivial⟩ ?_
 refine aZ (bZ rfl tyS24) ⟨rfl,trivial⟩ ?_
 refine aZ (sC rfl) ⟨rfl,bC _ _,trivial⟩ ?_
 refine aB (bL rfl) ⟨rfl,rfl,trivial⟩ ?_
 refine aF ?_
 refine cU (fun h9=>?_) (fun h9=>?_)
 ·have hF:=aT h9 hF
  refine aJ ?_
  refine aJ ?_
  refine aJ ?_
  refine aB (bK rfl) ⟨rfl,dH _,trivial⟩ ?_
  refine aC (aA (kT rfl ?_))
  refine aD (aE (aB (aL (.inr rfl)) ⟨dH _,trivial⟩ ?_))
  refine aC (aA (aX (aW ?_)))
  obtain rfl:=bX hF
  exact aI (.inl rfl) Tryz.results89 (.tmp rfl .nil) rfl rfl
 have hF:=aU h9 hF
 refine aZ (aL (.inl rfl)) ⟨rfl,trivial⟩ ?_
 refine aZ (bZ rfl tyS29) ⟨rfl,trivial⟩ ?_
 refine aZ (sC rfl) ⟨rfl,bC _ _,trivial⟩ ?_
 refine aB (bL rfl) ⟨rfl,rfl,trivial⟩ ?_
 refine aC (aA (bO rfl (fun h10=>?_) (fun h10=>?_)))
 ·have hF:=aT h10 hF
  refine aD (aE (aB (aL (.inr rfl)) ⟨dH _,trivial⟩ ?_))
  refine aC (aA (aX (aW ?_)))
  obtain rfl:=bX hF
  exact aI (.inl rfl) Tryz.results89 (.tmp rfl .nil) rfl rfl
 have hF:=aU h10 hF
 refine aV (aA (aD ?_))
 obtain⟨v13,h14,hF⟩:=aO hF
 obtain⟨v15,h16,hF⟩:=aO hF
 rcases Bool.eq_false_or_eq_true v15 with h17|h17
 ·have hF:=aT h17 hF
  obtain⟨v18,h19,hF⟩:=aO hF
  obtain⟨v20,h21,hF⟩:=aO hF
  rcases Bool.eq_false_or_eq_true v20 with h22|h22
  ·have hF:=aT h22 hF
   obtain⟨v23,h24,hF⟩:=aO hF
   obtain⟨v25,h26,hF⟩:=aO hF
   rcases Bool.eq_false_or_eq_true v25 with h27|h27
   ·have hF:=aT h27 hF
    obtain⟨v28,h29,hF⟩:=aO hF
    obtain⟨v30,h31,hF⟩:=aO hF
    refine bP (0::1::3::0::15::31::63::127::255::63::1023::2047::4095::8191::16383::32767::65535::8191::262143::524287::1048575::2097151::4194303::8388607::16777215::2097151::67108863::134217727::268435455::[]) 29 0 (.v (.vc (pS cQ v6.1))::.v (.vc (pM (cQ.e v13)))::.v (.va (eQ v13))::.v (.va (eQ a1))::.v (.vc (pB v15))::.v (.vc (pB true))::.v (.vc (pS cQ v6.1))::.v (.vc (pM (cQ.e v18)))::.v (.va (eQ v18))::.v (.va (eQ a2))::.v (.vc (pB v20))::.v (.vc (pB v20))::.v (.vc (pB true))::.v (.vc (pS aS.cod v6.2.1))::.v (.vc (pM (aS.cod.e v23)))::.v (.vc (pM (aS.cod.e v23)))::.v (.va (eQ v23.n))::.v (.va (eQ a3))::.v (.vc (pB v25))::.v (.vc (pB v25))::.v (.vc (pB true))::.v (.vc (pS aS.cod v6.2.1))::.v (.vc (pM (aS.cod.e v28)))::.v (.vc (pM ((aS.cod.e v28).drop 4)))::.v (.va (eQ v28.f))::.v (.va (eQ a4))::.v (.vc (pB v30))::.v (.vc (pB v30))::.v (.vc (pB v30))::[]) aR ⟨d0 (aL (.inl rfl)) ⟨rfl,trivial⟩,d0 (dX rfl tyS24 h14) ⟨rfl,bC _ _,trivial⟩,d0 (dM 4 rfl rfl (.agg tyA44)) ⟨rfl,trivial⟩,d0 (bD 3 4 rfl rfl rfl rfl (.agg tyA44)) ⟨rfl,trivial⟩,d0 (aG rfl (gU h16) rfl) ⟨rfl,rfl,trivial⟩,d0 (cW (aL (.inl rfl)) h17) ⟨rfl,trivial⟩,g0 (aL (.inl rfl)) ⟨rfl,trivial⟩,g0 (dX rfl tyS24 h19) ⟨rfl,bC _ _,trivial⟩,g0 (dM 4 rfl rfl (.agg tyA44)) ⟨rfl,trivial⟩,g0 (bD 2 4 rfl rfl rfl rfl (.agg tyA44)) ⟨rfl,trivial⟩,g0 (aG rfl (gU h21) rfl) ⟨rfl,rfl,trivial⟩,d0 (bK rfl) ⟨rfl,rfl,trivial⟩,d0 (cW (aL (.inl rfl)) h22) ⟨rfl,trivial⟩,g0 (aL (.inl rfl)) ⟨rfl,trivial⟩,g0 (dX rfl tyS29 h24) ⟨rfl,bC _ _,trivial⟩,g0 (tC (ps:=(aS.cod.e v23)) (k:=0) rfl tyF58_0) ⟨rfl,trivial⟩,g0 (dM 4 rfl rfl (.agg tyA44)) ⟨rfl,trivial⟩,g0 (bD 1 4 rfl rfl rfl rfl (.agg tyA44)) ⟨rfl,trivial⟩,g0 (aG rfl (gU h26) rfl) ⟨rfl,rfl,trivial⟩,d0 (bK rfl) ⟨rfl,rfl,trivial⟩,d0 (cW (aL (.inl rfl)) h27) ⟨rfl,trivial⟩,g0 (aL (.inl rfl)) ⟨rfl,trivial⟩,g0 (dX rfl tyS29 h29) ⟨rfl,bC _ _,trivial⟩,g0 (tC (ps:=(aS.cod.e v28)) (k:=4) rfl tyF58_1) ⟨rfl,trivial⟩,g0 (dM 4 rfl rfl (.agg tyA44)) ⟨rfl,trivial⟩,g0 (bD 0 4 rfl rfl rfl rfl (.agg tyA44)) ⟨rfl,trivial⟩,g0 (aG rfl (gU h31) rfl) ⟨rfl,rfl,trivial⟩,d0 (bK rfl) ⟨rfl,rfl,trivial⟩,d0 (aL (.inr rfl)) ⟨rfl,trivial⟩,trivial⟩ (fun bs12 G11=>?_)
    refine aC (aA (aX (aW ?_)))
    obtain rfl:=bX hF
    exact aI (.inl rfl) Tryz.results89 (.tmp rfl .nil) rfl rfl
   have hF:=aU h27 hF
   refine bP (0::1::3::0::15::31::63::127::255::63::1023::2047::4095::8191::16383::32767::65535::8191::262143::524287::1048575::2097151::4194303::8388607::16777215::2097151::67108863::134217727::268435455::[]) 29 0 (.v (.vc (pS cQ v6.1))::.v (.vc (pM (cQ.e v13)))::.v (.va (eQ v13))::.v (.va (eQ a1))::.v (.vc (pB v15))::.v (.vc (pB true))::.v (.vc (pS cQ v6.1))::.v (.vc (pM (cQ.e v18)))::.v (.va (eQ v18))::.v (.va (eQ a2))::.v (.vc (pB v20))::.v (.vc (pB v20))::.v (.vc (pB true))::.v (.vc (pS aS.cod v6.2.1))::.v (.vc (pM (aS.cod.e v23)))::.v (.vc (pM (aS.cod.e v23)))::.v (.va (eQ v23.n))::.v (.va (eQ a3))::.v (.vc (pB v25))::.v (.vc (pB v25))::.v (.vc (pB false))::.v .un::.v .un::.v .un::.v .un::.v .un::.v .un::.v (.vc (pB false))::.v (.vc (pB false))::[]) aR ⟨d0 (aL (.inl rfl)) ⟨rfl,trivial⟩,d0 (dX rfl tyS24 h14) ⟨rfl,bC _ _,trivial⟩,d0 (dM 4 rfl rfl (.agg tyA44)) ⟨rfl,trivial⟩,d0 (bD 3 4 rfl rfl rfl rfl (.agg tyA44)) ⟨rfl,trivial⟩,d0 (aG rfl (gU h16) rfl) ⟨rfl,rfl,trivial⟩,d0 (cW (aL (.inl rfl)) h17) ⟨rfl,trivial⟩,g0 (aL (.inl rfl)) ⟨rfl,trivial⟩,g0 (dX rfl tyS24 h19) ⟨rfl,bC _ _,trivial⟩,g0 (dM 4 rfl rfl (.agg tyA44)) ⟨rfl,trivial⟩,g0 (bD 2 4 rfl rfl rfl rfl (.agg tyA44)) ⟨rfl,trivial⟩,g0 (aG rfl (gU h21) rfl) ⟨rfl,rfl,trivial⟩,d0 (bK rfl) ⟨rfl,rfl,trivial⟩,d0 (cW (aL (.inl rfl)) h22) ⟨rfl,trivial⟩,g0 (aL (.inl rfl)) ⟨rfl,trivial⟩,g0 (dX rfl tyS29 h24) ⟨rfl,bC _ _,trivial⟩,g0 (tC (ps:=(aS.cod.e v23)) (k:=0) rfl tyF58_0) ⟨rfl,trivial⟩,g0 (dM 4 rfl rfl (.agg tyA44)) ⟨rfl,trivial⟩,g0 (bD 1 4 rfl rfl rfl rfl (.agg tyA44)) ⟨rfl,trivial⟩,g0 (aG rfl (gU h26) rfl) ⟨rfl,rfl,trivial⟩,d0 (bK rfl) ⟨rfl,rfl,trivial⟩,d0 (cW (aL (.inl rfl)) h27) ⟨rfl,trivial⟩,⟨rfl,.skipN⟩,⟨rfl,.skipN⟩,⟨rfl,.skipN⟩,⟨rfl,.skipN⟩,⟨rfl,.skipN⟩,⟨rfl,.skipN⟩,d0 (bL rfl) ⟨rfl,dH _,trivial⟩,d0 (aL (.inr rfl)) ⟨rfl,trivial⟩,trivial⟩ (fun bs12 G11=>?_)
   refine aC (aA (aX (aW ?_)))
   obtain rfl:=bX hF
   exact aI (.inl rfl) Tryz.results89 (.tmp rfl .nil) rfl rfl
  have hF:=aU h22 hF
  refine bP (0::1::3::0::15::31::63::127::255::63::1023::2047::4095::8191::16383::32767::65535::8191::262143::524287::1048575::2097151::4194303::8388607::16777215::2097151::67108863::134217727::268435455::[]) 29 0 (.v (.vc (pS cQ v6.1))::.v (.vc (pM (cQ.e v13)))::.v (.va (eQ v13))::.v (.va (eQ a1))::.v (.vc (pB v15))::.v (.vc (pB true))::.v (.vc (pS cQ v6.1))::.v (.vc (pM (cQ.e v18)))::.v (.va (eQ v18))::.v (.va (eQ a2))::.v (.vc (pB v20))::.v (.vc (pB v20))::.v (.vc (pB false))::.v .un::.v .un::.v .un::.v .un::.v .un::.v .un::.v (.vc (pB false))::.v (.vc (pB false))::.v .un::.v .un::.v .un::.v .un::.v .un::.v .un::.v (.vc (pB false))::.v (.vc (pB false))::[]) aR ⟨d0 (aL (.inl rfl)) ⟨rfl,trivial⟩,d0 (dX rfl tyS24 h14) ⟨rfl,bC _ _,trivial⟩,d0 (dM 4 rfl rfl (.agg tyA44)) ⟨rfl,trivial⟩,d0 (bD 3 4 rfl rfl rfl rfl (.agg tyA44)) ⟨rfl,trivial⟩,d0 (aG rfl (gU h16) rfl) ⟨rfl,rfl,trivial⟩,d0 (cW (aL (.inl rfl)) h17) ⟨rfl,trivial⟩,g0 (aL (.inl rfl)) ⟨rfl,trivial⟩,g0 (dX rfl tyS24 h19) ⟨rfl,bC _ _,trivial⟩,g0 (dM 4 rfl rfl (.agg tyA44)) ⟨rfl,trivial⟩,g0 (bD 2 4 rfl rfl rfl rfl (.agg tyA44)) ⟨rfl,trivial⟩,g0 (aG rfl (gU h21) rfl) ⟨rfl,rfl,trivial⟩,d0 (bK rfl) ⟨rfl,rfl,trivial⟩,d0 (cW (aL (.inl rfl)) h22) ⟨rfl,trivial⟩,⟨rfl,.skipN⟩,⟨rfl,.skipN⟩,⟨rfl,.skipN⟩,⟨rfl,.skipN⟩,⟨rfl,.skipN⟩,⟨rfl,.skipN⟩,d0 (bL rfl) ⟨rfl,dH _,trivial⟩,d0 (aL (.inl rfl)) ⟨rfl,trivial⟩,⟨rfl,.skipN⟩,⟨rfl,.skipN⟩,⟨rfl,.skipN⟩,⟨rfl,.skipN⟩,⟨rfl,.skipN⟩,⟨rfl,.skipN⟩,d0 (bL rfl) ⟨rfl,dH _,trivial⟩,d0 (aL (.inr rfl)) ⟨rfl,trivial⟩,trivial⟩ (fun bs12 G11=>?_)
  refine aC (aA (aX (aW ?_)))
  obtain rfl:=bX hF
  exact aI (.inl rfl) Tryz.results89 (.tmp rfl .nil) rfl rfl
 have hF:=aU h17 hF
 refine bP (0::1::3::0::15::31::63::127::255::63::1023::2047::4095::8191::16383::32767::65535::8191::262143::524287::1048575::2097151::4194303::8388607::16777215::2097151::67108863::134217727::268435455::[]) 29 0 (.v (.vc (pS cQ v6.1))::.v (.vc (pM (cQ.e v13)))::.v (.va (eQ v13))::.v (.va (eQ a1))::.v (.vc (pB v15))::.v (.vc (pB false))::.v .un::.v .un::.v .un::.v .un::.v .un::.v (.vc (pB false))::.v (.vc (pB false))::.v .un::.v .un::.v .un::.v .un::.v .un::.v .un::.v (.vc (pB false))::.v (.vc (pB false))::.v .un::.v .un::.v .un::.v .un::.v .un::.v .un::.v (.vc (pB false))::.v (.vc (pB false))::[]) aR ⟨d0 (aL (.inl rfl)) ⟨rfl,trivial⟩,d0 (dX rfl tyS24 h14) ⟨rfl,bC _ _,trivial⟩,d0 (dM 4 rfl rfl (.agg tyA44)) ⟨rfl,trivial⟩,d0 (bD 3 4 rfl rfl rfl rfl (.agg tyA44)) ⟨rfl,trivial⟩,d0 (aG rfl (gU h16) rfl) ⟨rfl,rfl,trivial⟩,d0 (cW (aL (.inl rfl)) h17) ⟨rfl,trivial⟩,⟨rfl,.skipN⟩,⟨rfl,.skipN⟩,⟨rfl,.skipN⟩,⟨rfl,.skipN⟩,⟨rfl,.skipN⟩,d0 (bL rfl) ⟨rfl,dH _,trivial⟩,d0 (aL (.inl rfl)) ⟨rfl,trivial⟩,⟨rfl,.skipN⟩,⟨rfl,.skipN⟩,⟨rfl,.skipN⟩,⟨rfl,.skipN⟩,⟨rfl,.skipN⟩,⟨rfl,.skipN⟩,d0 (bL rfl) ⟨rfl,dH _,trivial⟩,d0 (aL (.inl rfl)) ⟨rfl,trivial⟩,⟨rfl,.skipN⟩,⟨rfl,.skipN⟩,⟨rfl,.skipN⟩,⟨rfl,.skipN⟩,⟨rfl,.skipN⟩,⟨rfl,.skipN⟩,d0 (bL rfl) ⟨rfl,dH _,trivial⟩,d0 (aL (.inr rfl)) ⟨rfl,trivial⟩,trivial⟩ (fun bs12 G11=>?_)
 refine aC (aA (aX (aW ?_)))
 obtain rfl:=bX hF
 exact aI (.inl rfl) Tryz.results89 (.tmp rfl .nil) rfl rfl
def nS (K:Nat):Option Bool:=
 (wP 1 1).bind fun v2=>(wP (-1) 2).bind fun v5=>(jT 0 (-1) 1 1).bind fun v8=>(rX K v8.dofs v8.load v8.v v8.rows).bind fun v11=>(jT 1 (-1) 4 0).bind fun v15=>(wP (-1) 4).bind fun v17=>(jR K v15 0 0 v2 v17).bind fun v19=>bif v19 then((jT 1 (-1) 1 0).bind fun v22=>(wP 1 4).bind fun v24=>(jR K v22 v24 0 v2 v5).bind fun v26=>bif v26 then((jT 0 1 1 0).bind fun v29=>(wP 1 2).bind fun v31=>(jR K v29 0 v31 0 0).bind fun v33=>bif v33 then((wP (-1) 4).bind fun v36=>(jR K v8 v36 0 v2 v5).bind fun v38=>bif v38 then(bif(v11.2.2==0) then((nO K v8.v v11.1 v8.rows).bind fun v42=>bif v42 then((tH K v8.dofs v8.load v8.v v8.rows v11.1 v11.2.1).bind fun v45=>some (v45==0)) else(some false)) else(some false)) else(some false)) else(some false)) else(some false)) else(some false)
theorem vU {K:Nat} {r:Bool} (hF:nS K=some r):Ct Tryz.prog 23 [] (.vc (pB r)):=by
 unfold nS at hF
 refine a9 Tryz.func23 rfl (by kernel_rfl) Tryz.ntmps23 rfl (fun w0 M0=>?_)
 refine aD (aE (aB (aL (.inr rfl)) ⟨dH _,trivial⟩ ?_))
 refine aC (aA (aD (aE (bJ rfl tyZ44q (fun b1=>?_)))))
 refine aC (aA (aD (aE ?_)))
 obtain⟨v2,h3,hF⟩:=aO hF
 refine aB (aG rfl (bV h3) rfl) ⟨bC _ _,bC _ _,trivial⟩ ?_
 refine bJ rfl tyZ44q (fun b4=>?_)
 refine aY (dA 0 rfl rfl rfl tyA44.s) ⟨rfl,rfl,trivial⟩ ?_
 refine aC (aA (aD (aE ?_)))
 obtain⟨v5,h6,hF⟩:=aO hF
 refine aB (aG rfl (bV h6) rfl) ⟨bC _ _,bC _ _,trivial⟩ ?_
 refine bJ rfl tyZ44q (fun b7=>?_)
 refine aY (dA 0 rfl rfl rfl tyA44.s) ⟨rfl,rfl,trivial⟩ ?_
 refine aC (aA (aD (aE ?_)))
 obtain⟨v8,h9,hF⟩:=aO hF
 refine aB (aG rfl (eH h9) rfl) ⟨bC _ _,bC _ _,bC _ _,bC _ _,trivial⟩ ?_
 refine bJ rfl tyZ27q (fun b10=>?_)
 refine aY (dA 0 rfl rfl rfl tyA27.s) ⟨rfl,rfl,trivial⟩ ?_
 refine aC (aA (aD (aE (aB (a8 (off:=0) (k:=0) rfl tyF27_0) ⟨rfl,trivial⟩ ?_))))
 refine aB (bD 0 1 rfl rfl rfl rfl (.one tyO23)) ⟨rfl,trivial⟩ ?_
 refine aB (a8 (off:=0) (k:=1) rfl tyF27_1) ⟨rfl,trivial⟩ ?_
 refine aB (bD 0 1 rfl rfl rfl rfl (.one tyO24)) ⟨rfl,trivial⟩ ?_
 refine aB (a8 (off:=0) (k:=2) rfl tyF27_2) ⟨rfl,trivial⟩ ?_
 refine aB (bD 0 1 rfl rfl rfl rfl (.one tyO24)) ⟨rfl,trivial⟩ ?_
 refine aB (a8 (off:=0) (k:=3) rfl tyF27_3) ⟨rfl,trivial⟩ ?_
 refine aB (bD 0 1 rfl rfl rfl rfl (.one tyO25)) ⟨rfl,trivial⟩ ?_
 obtain⟨v11,h12,hF⟩:=aO hF
 refine aB (aG rfl (u7 h12) rfl) ⟨rfl,rfl,rfl,rfl,trivial⟩ ?_
 refine aF ?_
 refine aB (aCX rfl) ⟨rfl,trivial⟩ ?_
 refine aB (aC5 rfl) ⟨rfl,trivial⟩ ?_
 refine aB (aC4 rfl) ⟨rfl,trivial⟩ ?_
 refine bB ?_
 refine bB ?_
 refine bB ?_
 refine aC (aA (aD ?_))
 obtain⟨v15,h16,hF⟩:=aO hF
 obtain⟨v17,h18,hF⟩:=aO hF
 obtain⟨v19,h20,hF⟩:=aO hF
 rcases Bool.eq_false_or_eq_true v19 with h21|h21
 ·have hF:=aT h21 hF
  obtain⟨v22,h23,hF⟩:=aO hF
  obtain⟨v24,h25,hF⟩:=aO hF
  obtain⟨v26,h27,hF⟩:=aO hF
  rcases Bool.eq_false_or_eq_true v26 with h28|h28
  ·have hF:=aT h28 hF
   obtain⟨v29,h30,hF⟩:=aO hF
   obtain⟨v31,h32,hF⟩:=aO hF
   obtain⟨v33,h34,hF⟩:=aO hF
   rcases Bool.eq_false_or_eq_true v33 with h35|h35
   ·have hF:=aT h35 hF
    obtain⟨v36,h37,hF⟩:=aO hF
    obtain⟨v38,h39,hF⟩:=aO hF
    refine bP (0::0::0::0::1::31::63::127::255::127::127::127::4095::8191::16383::32767::32767::65535::32767::32767::1048575::2097151::4194303::8388607::8388607::8388607::8388607::8388607::268435455::536870911::1073741823::[]) 31 0 (.v (.va (bH.enc v15))::.v (.va (eQ 0))::.v (.va (eQ 0))::.v (.va (eQ v2))::.v (.va (eQ v17))::.v (.vc (pB v19))::.v (.vc (pB true))::.v (.va (bH.enc v22))::.v (.va (eQ v24))::.v (.va (eQ 0))::.v (.va (eQ v2))::.v (.va (eQ v5))::.v (.vc (pB v26))::.v (.vc (pB v26))::.v (.vc (pB true))::.v (.va (bH.enc v29))::.v (.va (eQ 0))::.v (.va (eQ v31))::.v (.va (eQ 0))::.v (.va (eQ 0))::.v (.vc (pB v33))::.v (.vc (pB v33))::.v (.vc (pB true))::.v (.va (bH.enc v8))::.v (.va (eQ v36))::.v (.va (eQ 0))::.v (.va (eQ v2))::.v (.va (eQ v5))::.v (.vc (pB v38))::.v (.vc (pB v38))::.v (.vc (pB v38))::[]) aR ⟨d0 (aG rfl (eH h16) rfl) ⟨bC _ _,bC _ _,bC _ _,bC _ _,trivial⟩,d0 (bD 3 4 rfl rfl rfl rfl (.agg tyA44)) ⟨rfl,trivial⟩,d0 (bD 3 4 rfl rfl rfl rfl (.agg tyA44)) ⟨rfl,trivial⟩,d0 (bD 2 4 rfl rfl rfl rfl (.agg tyA44)) ⟨rfl,trivial⟩,d0 (aG rfl (bV h18) rfl) ⟨bC _ _,bC _ _,trivial⟩,d0 (aG rfl (eI h20) rfl) ⟨rfl,rfl,rfl,rfl,rfl,trivial⟩,d0 (cW (aL (.inl rfl)) h21) ⟨rfl,trivial⟩,g0 (aG rfl (eH h23) rfl) ⟨bC _ _,bC _ _,bC _ _,bC _ _,trivial⟩,g0 (aG rfl (bV h25) rfl) ⟨bC _ _,bC _ _,trivial⟩,g0 (bD 3 4 rfl rfl rfl rfl (.agg tyA44)) ⟨rfl,trivial⟩,g0 (bD 2 4 rfl rfl rfl rfl (.agg tyA44)) ⟨rfl,trivial⟩,g0 (bD 1 4 rfl rfl rfl rfl (.agg tyA44)) ⟨rfl,trivial⟩,g0 (aG rfl (eI h27) rfl) ⟨rfl,rfl,rfl,rfl,rfl,trivial⟩,d0 (bK rfl) ⟨rfl,rfl,trivial⟩,d0 (cW (aL (.inl rfl)) h28) ⟨rfl,trivial⟩,g0 (aG rfl (eH h30) rfl) ⟨bC _ _,bC _ _,bC _ _,bC _ _,trivial⟩,g0 (bD 3 4 rfl rfl rfl rfl (.agg tyA44)) ⟨rfl,trivial⟩,g0 (aG rfl (bV h32) rfl) ⟨bC _ _,bC _ _,trivial⟩,g0 (bD 3 4 rfl rfl rfl rfl (.agg tyA44)) ⟨rfl,trivial⟩,g0 (bD 3 4 rfl rfl rfl rfl (.agg tyA44)) ⟨rfl,trivial⟩,g0 (aG rfl (eI h34) rfl) ⟨rfl,rfl,rfl,rfl,rfl,trivial⟩,d0 (bK rfl) ⟨rfl,rfl,trivial⟩,d0 (cW (aL (.inl rfl)) h35) ⟨rfl,trivial⟩,g0 (bD 0 4 rfl rfl rfl rfl (.agg tyA27)) ⟨rfl,trivial⟩,g0 (aG rfl (bV h37) rfl) ⟨bC _ _,bC _ _,trivial⟩,g0 (bD 3 4 rfl rfl rfl rfl (.agg tyA44)) ⟨rfl,trivial⟩,g0 (bD 2 4 rfl rfl rfl rfl (.agg tyA44)) ⟨rfl,trivial⟩,g0 (bD 1 4 rfl rfl rfl rfl (.agg tyA44)) ⟨rfl,trivial⟩,g0 (aG rfl (eI h39) rfl) ⟨rfl,rfl,rfl,rfl,rfl,trivial⟩,d0 (bK rfl) ⟨rfl,rfl,trivial⟩,d0 (aL (.inr rfl)) ⟨rfl,trivial⟩,trivial⟩ (fun bs14 G13=>?_)
    refine aC (aA (aD (aE (aF ?_))))
    refine aF ?_
    refine cU (fun h40=>?_) (fun h40=>?_)
    ·have hF:=aT h40 hF
     refine aZ (aL (.inl rfl)) ⟨rfl,trivial⟩ ?_
     refine aZ (iJ rfl) ⟨rfl,bC _ _,trivial⟩ ?_
     refine aB (bK rfl) ⟨rfl,rfl,trivial⟩ ?_
     refine aF ?_
     refine cU (fun h41=>?_) (fun h41=>?_)
     ·have hF:=aT h41 hF
      refine aZ (a8 (off:=0) (k:=2) rfl tyF27_2) ⟨rfl,trivial⟩ ?_
      refine aZ (bD 0 1 rfl rfl rfl rfl (.one tyO24)) ⟨rfl,trivial⟩ ?_
      refine aZ (aL (.inl rfl)) ⟨rfl,trivial⟩ ?_
      refine aZ (a8 (off:=0) (k:=3) rfl tyF27_3) ⟨rfl,trivial⟩ ?_
      refine aZ (bD 0 1 rfl rfl rfl rfl (.one tyO25)) ⟨rfl,trivial⟩ ?_
      obtain⟨v42,h43,hF⟩:=aO hF
      refine aZ (aG rfl (oA h43) rfl) ⟨rfl,rfl,rfl,trivial⟩ ?_
      refine aB (bK rfl) ⟨rfl,rfl,trivial⟩ ?_
      refine aF ?_
      refine cU (fun h44=>?_) (fun h44=>?_)
      ·have hF:=aT h44 hF
       refine aZ (a8 (off:=0) (k:=0) rfl tyF27_0) ⟨rfl,trivial⟩ ?_
       refine aZ (bD 0 1 rfl rfl rfl rfl (.one tyO23)) ⟨rfl,trivial⟩ ?_
       refine aZ (a8 (off:=0) (k:=1) rfl tyF27_1) ⟨rfl,trivial⟩ ?_
       refine aZ (bD 0 1 rfl rfl rfl rfl (.one tyO24)) ⟨rfl,trivial⟩ ?_
       refine aZ (a8 (off:=0) (k:=2) rfl tyF27_2) ⟨rfl,trivial⟩ ?_
       refine aZ (bD 0 1 rfl rfl rfl rfl (.one tyO24)) ⟨rfl,trivial⟩ ?_
       refine aZ (a8 (off:=0) (k:=3) rfl tyF27_3) ⟨rfl,trivial⟩ ?_
       refine aZ (bD 0 1 rfl rfl rfl rfl (.one tyO25)) ⟨rfl,trivial⟩ ?_
       refine aZ (aL (.inl rfl)) ⟨rfl,trivial⟩ ?_
       refine aZ (aL (.inl rfl)) ⟨rfl,trivial⟩ ?_
       obtain⟨v45,h46,hF⟩:=aO hF
       refine aZ (aG rfl (aAh h46) rfl) ⟨rfl,rfl,rfl,rfl,rfl,rfl,trivial⟩ ?_
       refine aZ (iJ rfl) ⟨rfl,bC _ _,trivial⟩ ?_
       refine aB (bK rfl) ⟨rfl,rfl,trivial⟩ ?_
       refine bB ?_
       refine aC (aA (aX (aW ?_)))
       obtain rfl:=bX hF
       exact aI (.inl rfl) Tryz.results23 (.tmp rfl .nil) rfl rfl
      have hF:=aU h44 hF
      refine aJ ?_
      refine aJ ?_
      refine aJ ?_
      refine aJ ?_
      refine aJ ?_
      refine aJ ?_
      refine aJ ?_
      refine aJ ?_
      refine aJ ?_
      refine aJ ?_
      refine aJ ?_
      refine aJ ?_
      refine aB (bL rfl) ⟨rfl,dH _,trivial⟩ ?_
      refine bB ?_
      refine aC (aA (aX (aW ?_)))
      obtain rfl:=bX hF
      exact aI (.inl rfl) Tryz.results23 (.tmp rfl .nil) rfl rfl
     have hF:=aU h41 hF
     refine aJ ?_
     refine aJ ?_
     refine aJ ?_
     refine aJ ?_
     refine aJ ?_
     refine aJ ?_
     refine aB (bL rfl) ⟨rfl,dH _,trivial⟩ ?_
     refine aF ?_
     refine aJ ?_
     refine aJ ?_
     refine aJ ?_
     refine aJ ?_
     refine aJ ?_
     refine aJ ?_
     refine aJ ?_
     refine aJ ?_
     refine aJ ?_
     refine aJ ?_
     refine aJ ?_
     refine aJ ?_
     refine aB (bL rfl) ⟨rfl,dH _,trivial⟩ ?_
     refine bB ?_
     refine aC (aA (aX (aW ?_)))
     obtain rfl:=bX hF
     exact aI (.inl rfl) Tryz.results23 (.tmp rfl .nil) rfl rfl
    have hF:=aU h40 hF
    refine aJ ?_
    refine aJ ?_
    refine aB (bL rfl) ⟨rfl,dH _,trivial⟩ ?_
    refine aF ?_
    refine aJ ?_
    refine aJ ?_
    refine aJ ?_
    refine aJ ?_
    refine aJ ?_
    refine aJ ?_
    refine aB (bL rfl) ⟨rfl,dH _,trivial⟩ ?_
    refine aF ?_
    refine aJ ?_
    refine aJ ?_
    refine aJ ?_
    refine aJ ?_
    refine aJ ?_
    refine aJ ?_
    refine aJ ?_
    refine aJ ?_
    refine aJ ?_
    refine aJ ?_
    refine aJ ?_
    refine aJ ?_
    refine aB (bL rfl) ⟨rfl,dH _,trivial⟩ ?_
    refine bB ?_
    refine aC (aA (aX (aW ?_)))
    obtain rfl:=bX hF
    exact aI (.inl rfl) Tryz.results23 (.tmp rfl .nil) rfl rfl
   have hF:=aU h35 hF
   refine bP (0::0::0::0::1::31::63::127::255::127::127::127::4095::8191::16383::32767::32767::65535::32767::32767::1048575::2097151::4194303::8388607::8388607::8388607::8388607::8388607::268435455::536870911::1073741823::[]) 31 0 (.v (.va (bH.enc v15))::.v (.va (eQ 0))::.v (.va (eQ 0))::.v (.va (eQ v2))::.v (.va (eQ v17))::.v (.vc (pB v19))::.v (.vc (pB true))::.v (.va (bH.enc v22))::.v (.va (eQ v24))::.v (.va (eQ 0))::.v (.va (eQ v2))::.v (.va (eQ v5))::.v (.vc (pB v26))::.v (.vc (pB v26))::.v (.vc (pB true))::.v (.va (bH.enc v29))::.v (.va (eQ 0))::.v (.va (eQ v31))::.v (.va (eQ 0))::.v (.va (eQ 0))::.v (.vc (pB v33))::.v (.vc (pB v33))::.v (.vc (pB false))::.v .un::.v .un::.v .un::.v .un::.v .un::.v .un::.v (.vc (pB false))::.v (.vc (pB false))::[]) aR ⟨d0 (aG rfl (eH h16) rfl) ⟨bC _ _,bC _ _,bC _ _,bC _ _,trivial⟩,d0 (bD 3 4 rfl rfl rfl rfl (.agg tyA44)) ⟨rfl,trivial⟩,d0 (bD 3 4 rfl rfl rfl rfl (.agg tyA44)) ⟨rfl,trivial⟩,d0 (bD 2 4 rfl rfl rfl rfl (.agg tyA44)) ⟨rfl,trivial⟩,d0 (aG rfl (bV h18) rfl) ⟨bC _ _,bC _ _,trivial⟩,d0 (aG rfl (eI h20) rfl) ⟨rfl,rfl,rfl,rfl,rfl,trivial⟩,d0 (cW (aL (.inl rfl)) h21) ⟨rfl,trivial⟩,g0 (aG rfl (eH h23) rfl) ⟨bC _ _,bC _ _,bC _ _,bC _ _,trivial⟩,g0 (aG rfl (bV h25) rfl) ⟨bC _ _,bC _ _,trivial⟩,g0 (bD 3 4 rfl rfl rfl rfl (.agg tyA44)) ⟨rfl,trivial⟩,g0 (bD 2 4 rfl rfl rfl rfl (.agg tyA44)) ⟨rfl,trivial⟩,g0 (bD 1 4 rfl rfl rfl rfl (.agg tyA44)) ⟨rfl,trivial⟩,g0 (aG rfl (eI h27) rfl) ⟨rfl,rfl,rfl,rfl,rfl,trivial⟩,d0 (bK rfl) ⟨rfl,rfl,trivial⟩,d0 (cW (aL (.inl rfl)) h28) ⟨rfl,trivial⟩,g0 (aG rfl (eH h30) rfl) ⟨bC _ _,bC _ _,bC _ _,bC _ _,trivial⟩,g0 (bD 3 4 rfl rfl rfl rfl (.agg tyA44)) ⟨rfl,trivial⟩,g0 (aG rfl (bV h32) rfl) ⟨bC _ _,bC _ _,trivial⟩,g0 (bD 3 4 rfl rfl rfl rfl (.agg tyA44)) ⟨rfl,trivial⟩,g0 (bD 3 4 rfl rfl rfl rfl (.agg tyA44)) ⟨rfl,trivial⟩,g0 (aG rfl (eI h34) rfl) ⟨rfl,rfl,rfl,rfl,rfl,trivial⟩,d0 (bK rfl) ⟨rfl,rfl,trivial⟩,d0 (cW (aL (.inl rfl)) h35) ⟨rfl,trivial⟩,⟨rfl,.skipN⟩,⟨rfl,.skipN⟩,⟨rfl,.skipN⟩,⟨rfl,.skipN⟩,⟨rfl,.skipN⟩,⟨rfl,.skipN⟩,d0 (bL rfl) ⟨rfl,dH _,trivial⟩,d0 (aL (.inr rfl)) ⟨rfl,trivial⟩,trivial⟩ (fun bs14 G13=>?_)
   refine aC (aA (aD (aE (aF ?_))))
   refine aF ?_
   refine aJ ?_
   refine aJ ?_
   refine aB (bL rfl) ⟨rfl,dH _,trivial⟩ ?_
   refine aF ?_
   refine aJ ?_
   refine aJ ?_
   refine aJ ?_
   refine aJ ?_
   refine aJ ?_
   refine aJ ?_
   refine aB (bL rfl) ⟨rfl,dH _,trivial⟩ ?_
   refine aF ?_
   refine aJ ?_
   refine aJ ?_
   refine aJ ?_
   refine aJ ?_
   refine aJ ?_
   refine aJ ?_
   refine aJ ?_
   refine aJ ?_
   refine aJ ?_
   refine aJ ?_
   refine aJ ?_
   refine aJ ?_
   refine aB (bL rfl) ⟨rfl,dH _,trivial⟩ ?_
   refine bB ?_
   refine aC (aA (aX (aW ?_)))
   obtain rfl:=bX hF
   exact aI (.inl rfl) Tryz.results23 (.tmp rfl .nil) rfl rfl
  have hF:=aU h28 hF
  refine bP (0::0::0::0::1::31::63::127::255::127::127::127::4095::8191::16383::32767::32767::65535::32767::32767::1048575::2097151::4194303::8388607::8388607::8388607::8388607::8388607::268435455::536870911::1073741823::[]) 31 0 (.v (.va (bH.enc v15))::.v (.va (eQ 0))::.v (.va (eQ 0))::.v (.va (eQ v2))::.v (.va (eQ v17))::.v (.vc (pB v19))::.v (.vc (pB true))::.v (.va (bH.enc v22))::.v (.va (eQ v24))::.v (.va (eQ 0))::.v (.va (eQ v2))::.v (.va (eQ v5))::.v (.vc (pB v26))::.v (.vc (pB v26))::.v (.vc (pB false))::.v .un::.v .un::.v .un::.v .un::.v .un::.v .un::.v (.vc (pB false))::.v (.vc (pB false))::.v .un::.v .un::.v .un::.v .un::.v .un::.v .un::.v (.vc (pB false))::.v (.vc (pB false))::[]) aR ⟨d0 (aG rfl (eH h16) rfl) ⟨bC _ _,bC _ _,bC _ _,bC _ _,trivial⟩,d0 (bD 3 4 rfl rfl rfl rfl (.agg tyA44)) ⟨rfl,trivial⟩,d0 (bD 3 4 rfl rfl rfl rfl (.agg tyA44)) ⟨rfl,trivial⟩,d0 (bD 2 4 rfl rfl rfl rfl (.agg tyA44)) ⟨rfl,trivial⟩,d0 (aG rfl (bV h18) rfl) ⟨bC _ _,bC _ _,trivial⟩,d0 (aG rfl (eI h20) rfl) ⟨rfl,rfl,rfl,rfl,rfl,trivial⟩,d0 (cW (aL (.inl rfl)) h21) ⟨rfl,trivial⟩,g0 (aG rfl (eH h23) rfl) ⟨bC _ _,bC _ _,bC _ _,bC _ _,trivial⟩,g0 (aG rfl (bV h25) rfl) ⟨bC _ _,bC _ _,trivial⟩,g0 (bD 3 4 rfl rfl rfl rfl (.agg tyA44)) ⟨rfl,trivial⟩,g0 (bD 2 4 rfl rfl rfl rfl (.agg tyA44)) ⟨rfl,trivial⟩,g0 (bD 1 4 rfl rfl rfl rfl (.agg tyA44)) ⟨rfl,trivial⟩,g0 (aG rfl (eI h27) rfl) ⟨rfl,rfl,rfl,rfl,rfl,trivial⟩,d0 (bK rfl) ⟨rfl,rfl,trivial⟩,d0 (cW (aL (.inl rfl)) h28) ⟨rfl,trivial⟩,⟨rfl,.skipN⟩,⟨rfl,.skipN⟩,⟨rfl,.skipN⟩,⟨rfl,.skipN⟩,⟨rfl,.skipN⟩,⟨rfl,.skipN⟩,d0 (bL rfl) ⟨rfl,dH _,trivial⟩,d0 (aL (.inl rfl)) ⟨rfl,trivial⟩,⟨rfl,.skipN⟩,⟨rfl,.skipN⟩,⟨rfl,.skipN⟩,⟨rfl,.skipN⟩,⟨rfl,.skipN⟩,⟨rfl,.skipN⟩,d0 (bL rfl) ⟨rfl,dH _,trivial⟩,d0 (aL (.inr rfl)) ⟨rfl,trivial⟩,trivial⟩ (fun bs14 G13=>?_)
  refine aC (aA (aD (aE (aF ?_))))
  refine aF ?_
  refine aJ ?_
  refine aJ ?_
  refine aB (bL rfl) ⟨rfl,dH _,trivial⟩ ?_
  refine aF ?_
  refine aJ ?_
  refine aJ ?_
  refine aJ ?_
  refine aJ ?_
  refine aJ ?_
  refine aJ ?_
  refine aB (bL rfl) ⟨rfl,dH _,trivial⟩ ?_
  refine aF ?_
  refine aJ ?_
  refine aJ ?_
  refine aJ ?_
  refine aJ ?_
  refine aJ ?_
  refine aJ ?_
  refine aJ ?_
  refine aJ ?_
  refine aJ ?_
  refine aJ ?_
  refine aJ ?_
  refine aJ ?_
  refine aB (bL rfl) ⟨rfl,dH _,trivial⟩ ?_
  refine bB ?_
  refine aC (aA (aX (aW ?_)))
  obtain rfl:=bX hF
  exact aI (.inl rfl) Tryz.results23 (.tmp rfl .nil) rfl rfl
 have hF:=aU h21 hF
 refine bP (0::0::0::0::1::31::63::127::255::127::127::127::4095::8191::16383::32767::32767::65535::32767::32767::1048575::2097151::4194303::8388607::8388607::8388607::8388607::8388607::268435455::536870911::1073741823::[]) 31 0 (.v (.va (bH.enc v15))::.v (.va (eQ 0))::.v (.va (eQ 0))::.v (.va (eQ v2))::.v (.va (eQ v17))::.v (.vc (pB v19))::.v (.vc (pB false))::.v .un::.v .un::.v .un::.v .un::.v .un::.v .un::.v (.vc (pB false))::.v (.vc (pB false))::.v .un::.v .un::.v .un::.v .un::.v .un::.v .un::.v (.vc (pB false))::.v (.vc (pB false))::.v .un::.v .un::.v .un::.v .un::.v .un::.v .un::.v (.vc (pB false))::.v (.vc (pB false))::[]) aR ⟨d0 (aG rfl (eH h16) rfl) ⟨bC _ _,bC _ _,bC _ _,bC _ _,trivial⟩,d0 (bD 3 4 rfl rfl rfl rfl (.agg tyA44)) ⟨rfl,trivial⟩,d0 (bD 3 4 rfl rfl rfl rfl (.agg tyA44)) ⟨rfl,trivial⟩,d0 (bD 2 4 rfl rfl rfl rfl (.agg tyA44)) ⟨rfl,trivial⟩,d0 (aG rfl (bV h18) rfl) ⟨bC _ _,bC _ _,trivial⟩,d0 (aG rfl (eI h20) rfl) ⟨rfl,rfl,rfl,rfl,rfl,trivial⟩,d0 (cW (aL (.inl rfl)) h21) ⟨rfl,trivial⟩,⟨rfl,.skipN⟩,⟨rfl,.skipN⟩,⟨rfl,.skipN⟩,⟨rfl,.skipN⟩,⟨rfl,.skipN⟩,⟨rfl,.skipN⟩,d0 (bL rfl) ⟨rfl,dH _,trivial⟩,d0 (aL (.inl rfl)) ⟨rfl,trivial⟩,⟨rfl,.skipN⟩,⟨rfl,.skipN⟩,⟨rfl,.skipN⟩,⟨rfl,.skipN⟩,⟨rfl,.skipN⟩,⟨rfl,.skipN⟩,d0 (bL rfl) ⟨rfl,dH _,trivial⟩,d0 (aL (.inl rfl)) ⟨rfl,trivial⟩,⟨rfl,.skipN⟩,⟨rfl,.skipN⟩,⟨rfl,.skipN⟩,⟨rfl,.skipN⟩,⟨rfl,.skipN⟩,⟨rfl,.skipN⟩,d0 (bL rfl) ⟨rfl,dH _,trivial⟩,d0 (aL (.inr rfl)) ⟨rfl,trivial⟩,trivial⟩ (fun bs14 G13=>?_)
 refine aC (aA (aD (aE (aF ?_))))
 refine aF ?_
 refine aJ ?_
 refine aJ ?_
 refine aB (bL rfl) ⟨rfl,dH _,trivial⟩ ?_
 refine aF ?_
 refine aJ ?_
 refine aJ ?_
 refine aJ ?_
 refine aJ ?_
 refine aJ ?_
 refine aJ ?_
 refine aB (bL rfl) ⟨rfl,dH _,trivial⟩ ?_
 refine aF ?_
 refine aJ ?_
 refine aJ ?_
 refine aJ ?_
 refine aJ ?_
 refine aJ ?_
 refine aJ ?_
 refine aJ ?_
 refine aJ ?_
 refine aJ ?_
 refine aJ ?_
 refine aJ ?_
 refine aJ ?_
 refine aB (bL rfl) ⟨rfl,dH _,trivial⟩ ?_
 refine bB ?_
 refine aC (aA (aX (aW ?_)))
 obtain rfl:=bX hF
 exact aI (.inl rfl) Tryz.results23 (.tmp rfl .nil) rfl rfl
def jS (a0:Int):Option Rat:=
 (eG a0 1099511627776).bind fun v2=>(r6 v2 6).bind fun v4=>(bQ (1+v4)).bind fun v6=>(r4 v2 6).bind fun v8=>(bQ (16*v6)).bind fun v10=>(bQ (v10+1)).bind fun v12=>(r6 v8 v12).bind fun v14=>(bQ (8*v6)).bind fun v16=>(bQ (v14-v16)).bind fun v18=>(wP v18 v6).bind fun v20=>some v20
theorem r3 {a0:Int} {r:Rat} (hF:jS a0=some r):Ct Tryz.prog 25 [.vc (pI .i64 a0)] (.va (eQ r)):=by
 unfold jS at hF
 refine a9 Tryz.func25 rfl (by kernel_rfl) Tryz.ntmps25 rfl (fun w0 M0=>?_)
 refine aD (aE (bJ rfl tyZ44q (fun b1=>?_)))
 refine aC (aA (aD (aE (aF ?_))))
 obtain⟨v2,h3,hF⟩:=aO hF
 refine aB (aG rfl (mF h3) rfl) ⟨rfl,bC _ _,trivial⟩ ?_
 refine bB ?_
 refine aC (aA (aD (aE (aF ?_))))
 obtain⟨v4,h5,hF⟩:=aO hF
 refine aB (mZ rfl h5) ⟨rfl,bC _ _,trivial⟩ ?_
 obtain⟨v6,h7,hF⟩:=aO hF
 refine aB (bI rfl h7) ⟨bC _ _,rfl,trivial⟩ ?_
 refine bB ?_
 refine aC (aA (aD (aE (aF ?_))))
 obtain⟨v8,h9,hF⟩:=aO hF
 refine aB (oD rfl h9) ⟨rfl,bC _ _,trivial⟩ ?_
 refine aF ?_
 obtain⟨v10,h11,hF⟩:=aO hF
 refine aB (lL rfl h11) ⟨bC _ _,rfl,trivial⟩ ?_
 obtain⟨v12,h13,hF⟩:=aO hF
 refine aB (bI rfl h13) ⟨rfl,bC _ _,trivial⟩ ?_
 obtain⟨v14,h15,hF⟩:=aO hF
 refine aB (mZ rfl h15) ⟨rfl,rfl,trivial⟩ ?_
 refine aF ?_
 obtain⟨v16,h17,hF⟩:=aO hF
 refine aB (lL rfl h17) ⟨bC _ _,rfl,trivial⟩ ?_
 obtain⟨v18,h19,hF⟩:=aO hF
 refine aB (fH rfl h19) ⟨rfl,rfl,trivial⟩ ?_
 refine aF ?_
 obtain⟨v20,h21,hF⟩:=aO hF
 refine aB (aG rfl (bV h21) rfl) ⟨rfl,rfl,trivial⟩ ?_
 refine aY (dA 0 rfl rfl rfl tyA44.s) ⟨rfl,rfl,trivial⟩ ?_
 refine aC (aA (aX (aW ?_)))
 obtain rfl:=bX hF
 exact aI (.inl rfl) Tryz.results25 (bM 0 4 rfl rfl rfl rfl (.agg tyA44) .nil) rfl rfl
def mI (K:Nat) (x7:Rat):Option Rat:=
 some x7
def eP (K:Nat) (a0:List aQ) (a1:List Rat):Nat→Rat→Int→Option Rat
 |0,_,_=>none
 |k+1,x5,x6=>bif(decide (x6<(a0.length:Int))) then((dO a0 x6).bind fun v11=>bif(decide (0≤v11.dof)) then((dO a0 x6).bind fun v14=>bif(decide (v14.dof<(a1.length:Int))) then((dO a0 x6).bind fun v19=>(dO a0 x6).bind fun v21=>(dO a1 (max v21.dof 0)).bind fun v23=>(yA v19.k v23).bind fun v25=>(zD x5 v25).bind fun v27=>(bQ (x6+1)).bind fun v29=>eP K a0 a1 k v27 v29) else((bQ (x6+1)).bind fun v31=>eP K a0 a1 k x5 v31)) else((bQ (x6+1)).bind fun v33=>eP K a0 a1 k x5 v33)) else(some x5)
def kQ (K:Nat) (a0:List aQ) (a1:List Rat):Option Rat:=
 (eP K a0 a1 K 0 0).bind fun x7=>mI K x7
theorem sE {K:Nat} {a0:List aQ} {a1:List Rat} {r:Rat} (hF:kQ K a0 a1=some r):Ct Tryz.prog 92 [.vc (pS aQ.cod a0),.vc (pS cQ a1)] (.va (eQ r)):=by
 unfold kQ at hF
 refine a9 Tryz.func92 rfl (by kernel_rfl) Tryz.ntmps92 rfl (fun w0 M0=>?_)
 refine aD (aE (bJ rfl tyZ44q (fun b1=>?_)))
 refine aC (aA (aD (aE (bJ rfl tyZ44q (fun b2=>?_)))))
 refine aC (aA (aD (aD (aE (aB (aL (.inr rfl)) ⟨bC _ _,trivial⟩ ?_)))))
 refine aC (aA (bN (cL (fun H E=>∃(x7:Rat),mI K x7=some r∧H=[⟨some b2,1,44,4,1,(eQ x7)⟩,⟨some b1,1,44,4,1,(eQ 0)⟩]∧E=[(4,.vc (pP (some b1) 0)),(5,.vc (pP (some b2) 0))]) ?_ (fun Jj9=>?_))))
 ·rintro _ _ ⟨x7,hF,rfl,rfl⟩
  unfold mI at hF
  refine aA (aD (aE (aB (bD 0 4 rfl rfl rfl rfl (.agg tyA44)) ⟨rfl,trivial⟩ ?_)))
  refine aY (dA 1 rfl rfl rfl tyA44.s) ⟨rfl,rfl,trivial⟩ ?_
  refine aC (aA (aX (aW ?_)))
  obtain rfl:=bX hF
  exact aI (.inl rfl) Tryz.results92 (bM 1 4 rfl rfl rfl rfl (.agg tyA44) .nil) rfl rfl
 obtain⟨x7',hL,hRl8⟩:=aO hF
 refine gY (fun k a w=>∃(x5:Rat),∃(x6:Int),eP K a0 a1 k x5 x6=some x7'∧hs _ [⟨some b2,1,44,4,1,(eQ x5)⟩,⟨some b1,1,44,4,1,(eQ 0)⟩] [(0,.vc (pS aQ.cod a0)),(1,.vc (pS cQ a1)),(4,.vc (pP (some b1) 0)),(5,.vc (pP (some b2) 0)),(6,.vc (pI .i64 x6))] a w) K (fun a w ⟨_,_,hF,_⟩=>by cases hF) (fun k a w ⟨x5,x6,hF,hh⟩=>gX ?_ hh) (fun a w hh=>⟨0,0,hL,bA [0,1] rfl (by decide) (by exact⟨rfl,rfl,rfl,rfl,rfl,trivial⟩) hh⟩)
 rw [eP.eq_2] at hF
 refine aD (aD (aE (aF ?_)))
 refine aF ?_
 refine aB (bZ rfl tyS49) ⟨rfl,trivial⟩ ?_
 refine aB (dQ rfl) ⟨rfl,rfl,trivial⟩ ?_
 refine aC (aA (bO rfl (fun h10=>?_) (fun h10=>?_)))
 ·have hF:=aT h10 hF
  refine aV (aA (aD (bN (aD (aE (aF ?_))))))
  refine aF ?_
  obtain⟨v11,h12,hF⟩:=aO hF
  refine aB (dX rfl tyS49 h12) ⟨rfl,rfl,trivial⟩ ?_
  refine aB (tC (ps:=(aQ.cod.e v11)) (k:=0) rfl tyF92_0) ⟨rfl,trivial⟩ ?_
  refine aB (dM 1 rfl rfl (.one tyO3)) ⟨rfl,trivial⟩ ?_
  refine aB (sB rfl) ⟨rfl,bC _ _,trivial⟩ ?_
  refine aF ?_
  refine cU (fun h13=>?_) (fun h13=>?_)
  ·have hF:=aT h13 hF
   refine aZ (aL (.inl rfl)) ⟨rfl,trivial⟩ ?_
   refine aZ (aL (.inl rfl)) ⟨rfl,trivial⟩ ?_
   obtain⟨v14,h15,hF⟩:=aO hF
   refine aZ (dX rfl tyS49 h15) ⟨rfl,rfl,trivial⟩ ?_
   refine aZ (tC (ps:=(aQ.cod.e v14)) (k:=0) rfl tyF92_0) ⟨rfl,trivial⟩ ?_
   refine aZ (dM 1 rfl rfl (.one tyO3)) ⟨rfl,trivial⟩ ?_
   refine aZ (aL (.inl rfl)) ⟨rfl,trivial⟩ ?_
   refine aZ (bZ rfl tyS24) ⟨rfl,trivial⟩ ?_
   refine aZ (dQ rfl) ⟨rfl,rfl,trivial⟩ ?_
   refine aB (bK rfl) ⟨rfl,rfl,trivial⟩ ?_
   refine aC (aA (bO rfl (fun h16=>?_) (fun h16=>?_)))
   ·have hF:=aT h16 hF
    obtain⟨v19,h20,hF⟩:=aO hF
    obtain⟨v21,h22,hF⟩:=aO hF
    obtain⟨v23,h24,hF⟩:=aO hF
    obtain⟨v25,h26,hF⟩:=aO hF
    obtain⟨v27,h28,hF⟩:=aO hF
    refine bP [0,0,0,6,14,30,0,0,0,384,896,1920,3968,8128,16320,32766,65535,131071] 17 1 [.v (.va (eQ x5)),.v (.vc (pS aQ.cod a0)),.v (.vc (pI .i64 x6)),.v (.vc (pM (aQ.cod.e v19))),.v (.vc (pM ((aQ.cod.e v19).drop 1))),.v (.va (eQ v19.k)),.v (.vc (pS cQ a1)),.v (.vc (pS aQ.cod a0)),.v (.vc (pI .i64 x6)),.v (.vc (pM (aQ.cod.e v21))),.v (.vc (pM (aQ.cod.e v21))),.v (.vc (pI .i64 v21.dof)),.v (.vc (pI .i64 (max v21.dof 0))),.v (.vc (pM (cQ.e v23))),.v (.va (eQ v23)),.v (.va (eQ v25)),.v (.va (eQ v27))] aR ⟨d0 (bD 0 4 rfl rfl rfl rfl (.agg tyA44)) ⟨rfl,trivial⟩,d0 (aL (.inl rfl)) ⟨rfl,trivial⟩,d0 (aL (.inl rfl)) ⟨rfl,trivial⟩,d0 (dX rfl tyS49 h20) ⟨rfl,rfl,trivial⟩,d0 (tC (ps:=(aQ.cod.e v19)) (k:=1) rfl tyF92_1) ⟨rfl,trivial⟩,d0 (dM 4 rfl rfl (.agg tyA44)) ⟨rfl,trivial⟩,d0 (aL (.inl rfl)) ⟨rfl,trivial⟩,d0 (aL (.inl rfl)) ⟨rfl,trivial⟩,d0 (aL (.inl rfl)) ⟨rfl,trivial⟩,d0 (dX rfl tyS49 h22) ⟨rfl,rfl,trivial⟩,d0 (tC (ps:=(aQ.cod.e v21)) (k:=0) rfl tyF92_0) ⟨rfl,trivial⟩,d0 (dM 1 rfl rfl (.one tyO3)) ⟨rfl,trivial⟩,d0 (aFL rfl) ⟨rfl,bC _ _,trivial⟩,d0 (dX rfl tyS24 h24) ⟨rfl,rfl,trivial⟩,d0 (dM 4 rfl rfl (.agg tyA44)) ⟨rfl,trivial⟩,d0 (aG rfl (wZ h26) rfl) ⟨rfl,rfl,trivial⟩,d0 (aG rfl (sQ h28) rfl) ⟨rfl,rfl,trivial⟩,trivial⟩ (fun bs18 G17=>?_)
    refine aY (dA 0 rfl rfl rfl tyA44.s) ⟨rfl,rfl,trivial⟩ ?_
    refine aC (bF (aA (aE (aF ?_))))
    obtain⟨v29,h30,hF⟩:=aO hF
    refine aB (bI rfl h30) ⟨rfl,bC _ _,trivial⟩ ?_
    refine bB ?_
    refine aC ?_
    exact bG (fun a w hh=>⟨v27,v29,hF,bA [0,1] rfl (by decide) (by exact⟨rfl,rfl,rfl,rfl,rfl,trivial⟩) hh⟩)
   have hF:=aU h16 hF
   refine aV (bF (aA (aE (aF ?_))))
   obtain⟨v31,h32,hF⟩:=aO hF
   refine aB (bI rfl h32) ⟨rfl,bC _ _,trivial⟩ ?_
   refine bB ?_
   refine aC ?_
   exact bG (fun a w hh=>⟨x5,v31,hF,bA [0,1] rfl (by decide) (by exact⟨rfl,rfl,rfl,rfl,rfl,trivial⟩) hh⟩)
  have hF:=aU h13 hF
  refine aJ ?_
  refine aJ ?_
  refine aJ ?_
  refine aJ ?_
  refine aJ ?_
  refine aJ ?_
  refine aJ ?_
  refine aJ ?_
  refine aB (bL rfl) ⟨rfl,dH _,trivial⟩ ?_
  refine aC (aA (qG rfl ?_))
  refine aV (bF (aA (aE (aF ?_))))
  obtain⟨v33,h34,hF⟩:=aO hF
  refine aB (bI rfl h34) ⟨rfl,bC _ _,trivial⟩ ?_
  refine bB ?_
  refine aC ?_
  exact bG (fun a w hh=>⟨x5,v33,hF,bA [0,1] rfl (by decide) (by exact⟨rfl,rfl,rfl,rfl,rfl,trivial⟩) hh⟩)
 have hF:=aU h10 hF
 refine dE ?_
 obtain rfl:=bX hF
 exact bS Jj9 ⟨x5,hRl8,rfl,rfl⟩ [0,1] rfl ⟨rfl,rfl,trivial⟩
def lU (K:Nat):Option Bool:=
 some true
def f7 (K:Nat) (a0:List Rat) (a1:List Rat) (a2:List aK):Nat→Int→Option (LR Bool Unit)
 |0,_=>none
 |k+1,x2=>bif(decide (x2<(a2.length:Int))) then((dO a2 x2).bind fun v6=>(kQ K v6.t a0).bind fun v8=>(dO a2 x2).bind fun v13=>(kQ K v13.t a1).bind fun v15=>(zD v8 v15).bind fun v17=>(s5 v8).bind fun v21=>(s5 v17).bind fun v23=>(bQ (v21*v23)).bind fun v25=>bif(decide (v25<0)) then(some (.ret false)) else((bQ (x2+1)).bind fun v28=>f7 K a0 a1 a2 k v28)) else(some (.go ()))
def jQ (K:Nat) (a0:List Rat) (a1:List Rat) (a2:List aK):Option Bool:=
 (f7 K a0 a1 a2 K 0).bind fun o=>match o with| .ret r=>some r| .go _=>lU K
theorem kZ {K:Nat} {a0:List Rat} {a1:List Rat} {a2:List aK} {r:Bool} (hF:jQ K a0 a1 a2=some r):Ct Tryz.prog 28 [.vc (pS cQ a0),.vc (pS cQ a1),.vc (pS aK.cod a2)] (.vc (pB r)):=by
 unfold jQ at hF
 refine a9 Tryz.func28 rfl (by kernel_rfl) Tryz.ntmps28 rfl (fun w0 M0=>?_)
 refine aD (aE (aB (aL (.inr rfl)) ⟨dH _,trivial⟩ ?_))
 refine aC (aA (aD (aD (aE (aB (aL (.inr rfl)) ⟨bC _ _,trivial⟩ ?_)))))
 refine aC (aA (bN (cL (fun H E=>lU K=some r∧H=[]∧E=[]) ?_ (fun Jj4=>?_))))
 ·rintro _ _ ⟨hF,rfl,rfl⟩
  unfold lU at hF
  refine aA (aD (aE (aB (aL (.inr rfl)) ⟨dH _,trivial⟩ ?_)))
  refine aC (aA (aX (aW ?_)))
  obtain rfl:=bX hF
  exact aI (.inl rfl) Tryz.results28 (.tmp rfl .nil) rfl rfl
 obtain⟨ol3,hL,hRl3⟩:=aO hF
 refine gY (fun k a w=>∃(x2:Int),f7 K a0 a1 a2 k x2=some ol3∧hs _ [] [(0,.vc (pS cQ a0)),(1,.vc (pS cQ a1)),(2,.vc (pS aK.cod a2)),(7,.vc (pI .i64 x2))] a w) K (fun a w ⟨_,hF,_⟩=>by cases hF) (fun k a w ⟨x2,hF,hh⟩=>gX ?_ hh) (fun a w hh=>⟨0,hL,bA [] rfl (by decide) (by exact⟨rfl,rfl,rfl,rfl,trivial⟩) hh⟩)
 rw [f7.eq_2] at hF
 refine aD (aD (aE (aF ?_)))
 refine aF ?_
 refine aB (bZ rfl tyS25) ⟨rfl,trivial⟩ ?_
 refine aB (dQ rfl) ⟨rfl,rfl,trivial⟩ ?_
 refine aC (aA (bO rfl (fun h5=>?_) (fun h5=>?_)))
 ·have hF:=aT h5 hF
  refine aV (aA (aD (bN (aD (aE (aF ?_))))))
  refine aF ?_
  obtain⟨v6,h7,hF⟩:=aO hF
  refine aB (dX rfl tyS25 h7) ⟨rfl,rfl,trivial⟩ ?_
  refine aB (tC (ps:=(aK.cod.e v6)) (k:=9) rfl tyF51_6) ⟨rfl,trivial⟩ ?_
  refine aB (dM 1 rfl rfl (.one tyO49)) ⟨rfl,trivial⟩ ?_
  refine aF ?_
  obtain⟨v8,h9,hF⟩:=aO hF
  refine aB (aG rfl (sE h9) rfl) ⟨rfl,rfl,trivial⟩ ?_
  refine bJ rfl tyZ44q (fun b10=>?_)
  refine aY (dA 0 rfl rfl rfl tyA44.s) ⟨rfl,rfl,trivial⟩ ?_
  refine aC (aA (aD ?_))
  obtain⟨v13,h14,hF⟩:=aO hF
  obtain⟨v15,h16,hF⟩:=aO hF
  obtain⟨v17,h18,hF⟩:=aO hF
  refine bP [0,0,0,6,14,30,0,126,255,0,1023] 10 1 [.v (.va (eQ v8)),.v (.vc (pS aK.cod a2)),.v (.vc (pI .i64 x2)),.v (.vc (pM (aK.cod.e v13))),.v (.vc (pM ((aK.cod.e v13).drop 9))),.v (.vc (pS aQ.cod v13.t)),.v (.vc (pS cQ a1)),.v (.va (eQ v15)),.v (.va (eQ v17)),.a 44 (eQ 0)] aR ⟨d0 (bD 0 4 rfl rfl rfl rfl (.agg tyA44)) ⟨rfl,trivial⟩,d0 (aL (.inl rfl)) ⟨rfl,trivial⟩,d0 (aL (.inl rfl)) ⟨rfl,trivial⟩,d0 (dX rfl tyS25 h14) ⟨rfl,rfl,trivial⟩,d0 (tC (ps:=(aK.cod.e v13)) (k:=9) rfl tyF51_6) ⟨rfl,trivial⟩,d0 (dM 1 rfl rfl (.one tyO49)) ⟨rfl,trivial⟩,d0 (aL (.inl rfl)) ⟨rfl,trivial⟩,d0 (aG rfl (sE h16) rfl) ⟨rfl,rfl,trivial⟩,d0 (aG rfl (sQ h18) rfl) ⟨rfl,rfl,trivial⟩,⟨rfl,.alc tyZ44q⟩,trivial⟩ (fun bs12 G11=>?_)
  refine aY (dA 0 rfl rfl rfl tyA44.s) ⟨rfl,rfl,trivial⟩ ?_
  refine aC (aA (aD ?_))
  obtain⟨v21,h22,hF⟩:=aO hF
  obtain⟨v23,h24,hF⟩:=aO hF
  obtain⟨v25,h26,hF⟩:=aO hF
  refine bP [0,1,0,7,15,31] 6 0 [.v (.va (eQ v8)),.v (.vc (pI .i64 v21)),.v (.va (eQ v17)),.v (.vc (pI .i64 v23)),.v (.vc (pI .i64 v25)),.v (.vc (pB (decide (v25<0))))] aR ⟨d0 (bD 1 4 rfl rfl rfl rfl (.agg tyA44)) ⟨rfl,trivial⟩,d0 (aG rfl (nV h22) rfl) ⟨rfl,trivial⟩,d0 (bD 0 4 rfl rfl rfl rfl (.agg tyA44)) ⟨rfl,trivial⟩,d0 (aG rfl (nV h24) rfl) ⟨rfl,trivial⟩,d0 (lL rfl h26) ⟨rfl,rfl,trivial⟩,d0 (dQ rfl) ⟨rfl,bC _ _,trivial⟩,trivial⟩ (fun bs20 G19=>?_)
  refine aC (aA (bO rfl (fun h27=>?_) (fun h27=>?_)))
  ·have hF:=aT h27 hF
   refine aD (aE (aB (aL (.inr rfl)) ⟨dH _,trivial⟩ ?_))
   refine aC (aA (aX (aW ?_)))
   obtain rfl:=bX hF
   obtain rfl:=bX hRl3
   exact aI (.inl rfl) Tryz.results28 (.tmp rfl .nil) rfl rfl
  have hF:=aU h27 hF
  refine aV (bF (aA (aE (aF ?_))))
  obtain⟨v28,h29,hF⟩:=aO hF
  refine aB (bI rfl h29) ⟨rfl,bC _ _,trivial⟩ ?_
  refine bB ?_
  refine aC ?_
  exact bG (fun a w hh=>⟨v28,hF,bA [] rfl (by decide) (by exact⟨rfl,rfl,rfl,rfl,trivial⟩) hh⟩)
 have hF:=aU h5 hF
 refine dE ?_
 obtain rfl:=bX hF
 exact bS Jj4 ⟨hRl3,rfl,rfl⟩ [] rfl trivial
end Go.Proofs.YtcjdedkdoagifaaGreat
