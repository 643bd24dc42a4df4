/- Texts of the proof, part 5: Q2. -/
import Derived.Test.YtcjdedkdoagifaaGreatZ4
set_option linter.unusedVariables false
set_option maxRecDepth 100000
namespace Go.Proofs.YtcjdedkdoagifaaGreat
def lP (K:Nat) (x18:List aK):Option (List aK):=
 some x18
def dZ (K:Nat) (a0:aQ):Nat→(List aK)→Int→Option (List aK)
 |0,_,_=>none
 |k+1,x11,x17=>bif(decide (x17<(a0.rows.length:Int))) then((dC a0.rows x17).bind fun v27=>(qO x11 [(⟨x17,0⟩:aK)]).bind fun x30=>bif(decide (0<(v27.t.length:Int))) then((kW K a0 v27).bind fun v38=>bif(v38==0) then((qO x30 [(⟨x17,1⟩:aK),(⟨x17,2⟩:aK),(⟨x17,3⟩:aK)]).bind fun x41=>(bW (x17+1)).bind fun v48=>dZ K a0 k x41 v48) else((bW (x17+1)).bind fun v50=>dZ K a0 k x30 v50)) else((bW (x17+1)).bind fun v52=>dZ K a0 k x30 v52)) else(some x11)
def jS (K:Nat) (a0:aQ):Option (List aK):=
 (dZ K a0 K ([]:List aK) 0).bind fun x18=>lP K x18
theorem t5 {K:Nat} {a0:aQ} {r:List aK} (hF:jS K a0=some r):Ct Tryz.prog 70 [.va (aQ.enc a0)] (.vc (pS aK.cod r)):=by
 unfold jS at hF
 refine bD Tryz.func70 rfl (by kernel_rfl) Tryz.ntmps70 rfl (fun w0 M0=>?_)
 refine aE (aF (cY rfl rfl trivial (fun b1=>?_)))
 refine aB (aN (.inr rfl)) ⟨dX aK.cod,trivial⟩ ?_
 refine aC (aA (aE (aF (sB aK.cod 118 rfl ?_))))
 refine aC (aA (aE (aE (aF (aB (bE (off:=0) (k:=3) rfl tyF113_3) zU1 ?_)))))
 refine aB (bK 1 1 rfl rfl rfl rfl (.one tyO25)) zU1 ?_
 refine aB (bX rfl tyS25) zU1 ?_
 refine aB (aN (.inl rfl)) ⟨bI _ _,trivial⟩ ?_
 refine aC (aA (bR (cJ (fun H E=>∃(x18:List aK),∃(b19:Option Nat),∃(c20:Nat),∃(n21:Nat),lP K x18=some r∧x18.length=n21∧H=[hO aK.cod b19 c20 118 n21 x18]∧E=[(3,.vc (pO b19 n21 c20))]) ?_ (fun Jj25=>?_))))
 ·rintro _ _ ⟨x18,b19,c20,n21,hF,q22,rfl,rfl⟩
  unfold lP at hF
  refine aA (aE (aF (aI ?_)))
  refine bH ?_
  refine aC (aA (a9 (a8 (uB 0 [2,3,39] rfl q22 ⟨rfl,rfl,rfl,trivial⟩ rfl ?_))))
  obtain rfl:=bV hF
  exact aL (.inl rfl) Tryz.results70 (.tmp rfl .nil) rfl rfl
 obtain⟨x18',hL,hRl24⟩:=aP hF
 refine gB (fun k a w=>∃(x11:List aK),∃(x17:Int),∃(b12:Option Nat),∃(c13:Nat),∃(n14:Nat),dZ K a0 k x11 x17=some x18'∧x11.length=n14∧hs _ [hO aK.cod b12 c13 118 n14 x11,⟨some b1,1,113,4,1,(aQ.enc a0)⟩] [(1,.vc (pP (some b1) 0)),(3,.vc (pO b12 n14 c13)),(7,.vc (pS aH.cod a0.rows)),(8,.vc (pI .i64 (a0.rows.length:Int))),(9,.vc (pI .i64 x17))] a w) K (fun a w ⟨_,_,_,_,_,hF,_,_⟩=>by cases hF) (fun k a w ⟨x11,x17,b12,c13,n14,hF,q15,hh⟩=>gE ?_ hh) (fun a w hh=>⟨([]:List aK),0,none,0,0,hL,rfl,bF [0,1] rfl (by decide) (by exact⟨rfl,rfl,rfl,rfl,rfl,trivial⟩) hh⟩)
 rw [dZ.eq_2] at hF
 refine aE (aF (aB (dQ rfl) zU2 ?_))
 refine aC (aA (aE (bS rfl (fun h26=>?_) (fun h26=>?_))))
 ·have hF:=aV h26 hF
  refine bA (aA (aE (bR (aE (aF (aI ?_))))))
  obtain⟨v27,h28,hF⟩:=aP hF
  refine aB (cO rfl tyS25 h28) zU2 ?_
  refine aB (cK 18 rfl rfl (.agg tyA51)) zU1 ?_
  refine bP rfl tyZ51q (fun b29=>?_)
  refine bH ?_
  refine bG (dO 0 rfl rfl rfl tyA51.s) zU2 ?_
  refine aC (aA (aE (aF (aI ?_))))
  refine aI ?_
  refine aB (cZ (is:=[0,1]) (xs:=[.tmp 15,.const (.int .i64 (0))]) (ps:=[.vc (pI .i64 x17),.vc (pI .i64 0)]) rfl tyB118q rfl rfl ⟨trivial,trivial,trivial⟩ rfl) ⟨rfl,bI _ _,trivial⟩ ?_
  refine aB (iJ (C:=aK.cod) (xs:=[.tmp 16]) (ps:=[.va ([pI .i64 x17]++[pI .i64 0])]) (zs:=[(⟨x17,0⟩:aK)]) rfl tyS114 rfl ⟨⟨trivial,rfl⟩,trivial⟩ rfl) zU1 ?_
  obtain⟨x30,h31,hF⟩:=aP hF
  refine jD 1 rfl tyS114 rfl rfl q15 rfl rfl h31 (fun b32 c33 H34 e35=>?_)
  cases e35
  refine bH ?_
  refine aC (aA (aE (aF (aB (bE (off:=0) (k:=9) rfl tyF51_6) zU1 ?_))))
  refine aB (bK 0 1 rfl rfl rfl rfl (.one tyO49)) zU1 ?_
  refine aB (bX rfl tyS49) zU1 ?_
  refine aB (rV rfl) ⟨rfl,bI _ _,trivial⟩ ?_
  refine aI ?_
  refine cP (fun h37=>?_) (fun h37=>?_)
  ·have hF:=aV h37 hF
   refine aY (bK 2 4 rfl rfl rfl rfl (.agg tyA113)) zU1 ?_
   refine aY (bK 0 18 rfl rfl rfl rfl (.agg tyA51)) zU1 ?_
   obtain⟨v38,h39,hF⟩:=aP hF
   refine aY (aJ rfl (tE h39) rfl) zU2 ?_
   refine aY (gR rfl) ⟨rfl,bI _ _,trivial⟩ ?_
   refine aB (bM rfl) zU2 ?_
   refine aC (aA (bS rfl (fun h40=>?_) (fun h40=>?_)))
   ·have hF:=aV h40 hF
    refine aF (aI ?_)
    refine aI ?_
    refine aB (cZ (is:=[0,1]) (xs:=[.tmp 30,.const (.int .i64 (1))]) (ps:=[.vc (pI .i64 x17),.vc (pI .i64 1)]) rfl tyB118q rfl rfl ⟨trivial,trivial,trivial⟩ rfl) ⟨rfl,bI _ _,trivial⟩ ?_
    refine aI ?_
    refine aB (cZ (is:=[0,1]) (xs:=[.tmp 32,.const (.int .i64 (2))]) (ps:=[.vc (pI .i64 x17),.vc (pI .i64 2)]) rfl tyB118q rfl rfl ⟨trivial,trivial,trivial⟩ rfl) ⟨rfl,bI _ _,trivial⟩ ?_
    refine aI ?_
    refine aB (cZ (is:=[0,1]) (xs:=[.tmp 34,.const (.int .i64 (3))]) (ps:=[.vc (pI .i64 x17),.vc (pI .i64 3)]) rfl tyB118q rfl rfl ⟨trivial,trivial,trivial⟩ rfl) ⟨rfl,bI _ _,trivial⟩ ?_
    refine aB (iJ (C:=aK.cod) (xs:=[.tmp 31,.tmp 33,.tmp 35]) (ps:=[.va ([pI .i64 x17]++[pI .i64 1]),.va ([pI .i64 x17]++[pI .i64 2]),.va ([pI .i64 x17]++[pI .i64 3])]) (zs:=[(⟨x17,1⟩:aK),(⟨x17,2⟩:aK),(⟨x17,3⟩:aK)]) rfl tyS114 rfl ⟨⟨trivial,rfl⟩,⟨trivial,rfl⟩,⟨trivial,rfl⟩,trivial⟩ rfl) ⟨rfl,rfl,rfl,trivial⟩ ?_
    obtain⟨x41,h42,hF⟩:=aP hF
    refine jD 1 rfl tyS114 rfl rfl (cL h31 q15) rfl rfl h42 (fun b43 c44 H45 e46=>?_)
    cases e46
    refine bH ?_
    refine aC (bJ (aA (aF ?_)))
    obtain⟨v48,h49,hF⟩:=aP hF
    refine aB (bO rfl h49) ⟨rfl,bI _ _,trivial⟩ ?_
    refine aI ?_
    refine aC ?_
    exact bL (fun a w hh=>⟨x41,v48,b43,c44,((n14+[(⟨x17,0⟩:aK)].length)+[(⟨x17,1⟩:aK),(⟨x17,2⟩:aK),(⟨x17,3⟩:aK)].length),hF,(cL h42 (cL h31 q15)),bF [1,2] rfl (by decide) (by exact⟨rfl,rfl,rfl,rfl,rfl,trivial⟩) hh⟩)
   have hF:=aX h40 hF
   refine bA (bJ (aA (aF ?_)))
   obtain⟨v50,h51,hF⟩:=aP hF
   refine aB (bO rfl h51) ⟨rfl,bI _ _,trivial⟩ ?_
   refine aI ?_
   refine aC ?_
   exact bL (fun a w hh=>⟨x30,v50,b32,c33,(n14+[(⟨x17,0⟩:aK)].length),hF,(cL h31 q15),bF [1,2] rfl (by decide) (by exact⟨rfl,rfl,rfl,rfl,rfl,trivial⟩) hh⟩)
  have hF:=aX h37 hF
  refine aM ?_
  refine aM ?_
  refine aM ?_
  refine aM ?_
  refine aB (bN rfl) ⟨rfl,cW _,trivial⟩ ?_
  refine aC (aA (sT rfl ?_))
  refine bA (bJ (aA (aF ?_)))
  obtain⟨v52,h53,hF⟩:=aP hF
  refine aB (bO rfl h53) ⟨rfl,bI _ _,trivial⟩ ?_
  refine aI ?_
  refine aC ?_
  exact bL (fun a w hh=>⟨x30,v52,b32,c33,(n14+[(⟨x17,0⟩:aK)].length),hF,(cL h31 q15),bF [1,2] rfl (by decide) (by exact⟨rfl,rfl,rfl,rfl,rfl,trivial⟩) hh⟩)
 have hF:=aX h26 hF
 refine dI ?_
 obtain rfl:=bV hF
 exact bU Jj25 ⟨x11,b12,c13,n14,hRl24,q15,rfl,rfl⟩ [0] rfl zU1
def kM (K:Nat) (a0:aQ) (a1:aH) (a2:Rat):Option Rat:=
 (kW K a0 a1).bind fun v7=>(bW (-v7)).bind fun v9=>(y5 v9 1).bind fun v11=>(yR a1.mu a2).bind fun v13=>(yR v11 v13).bind fun v15=>some v15
theorem uL {K:Nat} {a0:aQ} {a1:aH} {a2:Rat} {r:Rat} (hF:kM K a0 a1 a2=some r):Ct Tryz.prog 72 [.va (aQ.enc a0),.va (aH.enc a1),.va (eQ a2)] (.va (eQ r)):=by
 unfold kM at hF
 refine bD Tryz.func72 rfl (by kernel_rfl) Tryz.ntmps72 rfl (fun w0 M0=>?_)
 refine aE (aF (cY rfl rfl trivial (fun b1=>?_)))
 refine cY rfl rfl trivial (fun b2=>?_)
 refine cY rfl rfl trivial (fun b3=>?_)
 refine bP rfl tyZ44q (fun b4=>?_)
 refine aC (aA (aE ?_))
 obtain⟨v7,h8,hF⟩:=aP hF
 obtain⟨v9,h10,hF⟩:=aP hF
 obtain⟨v11,h12,hF⟩:=aP hF
 obtain⟨v13,h14,hF⟩:=aP hF
 obtain⟨v15,h16,hF⟩:=aP hF
 refine bT [0,0,3,7,15,0,32,0,255,511,1023] 10 1 [.v (.va (aQ.enc a0)),.v (.va (aH.enc a1)),.v (.vc (pI .i64 v7)),.v (.vc (pI .i64 v9)),.v (.va (eQ v11)),.v (.vc (pP (some b2) 10)),.v (.va (eQ a1.mu)),.v (.va (eQ a2)),.v (.va (eQ v13)),.v (.va (eQ v15))] aU ⟨d0 (bK 3 4 rfl rfl rfl rfl (.agg tyA113)) zU1,d0 (bK 2 18 rfl rfl rfl rfl (.agg tyA51)) zU1,d0 (aJ rfl (tE h8) rfl) zU2,d0 (aFd rfl h10) zU1,d0 (aJ rfl (xS h12) rfl) ⟨rfl,bI _ _,trivial⟩,d0 (bE (off:=0) (k:=10) rfl tyF51_7) zU1,d0 (bK 2 4 rfl rfl rfl rfl (.agg tyA44)) zU1,d0 (bK 1 4 rfl rfl rfl rfl (.agg tyA44)) zU1,d0 (aJ rfl (rP h14) rfl) zU2,d0 (aJ rfl (rP h16) rfl) zU2,trivial⟩ (fun bs6 G5=>?_)
 refine bG (dO 0 rfl rfl rfl tyA44.s) zU2 ?_
 refine aC (aA (a9 (a8 ?_)))
 obtain rfl:=bV hF
 exact aL (.inl rfl) Tryz.results72 (bQ 0 4 rfl rfl rfl rfl (.agg tyA44) .nil) rfl rfl
def oR (a0:List Rat):Option (List Rat):=
 (qO ([]:List Rat) a0).bind fun x9=>some x9
theorem zT {a0:List Rat} {r:List Rat} (hF:oR a0=some r):CtO Tryz.prog 160 [] [.vc (pS cQ a0)] (fun Ho q=>∃b18 c19 n17,r.length=n17∧Ho=[hO cQ b18 c19 44 n17 r]∧q=.vc (pO b18 n17 c19)):=by
 unfold oR at hF
 refine bD Tryz.func160 rfl (by kernel_rfl) Tryz.ntmps160 rfl (fun w0 M0=>?_)
 refine aE (aF (sB cQ 44 rfl ?_))
 refine aC (aA (aE (aE (aF (aI ?_)))))
 refine aGX rfl Tryz.underlying24 rfl (fun h3=>?_) ?_
 ·skip
  subst h3
  have hF:some ([]:List Rat)=some r:=by simpa [qO] using hF
  refine aC (aA (iO rfl ?_))
  refine aE (aF (sB cQ 44 rfl ?_))
  refine aC (aA (a9 (a8 ?_)))
  obtain rfl:=bV hF
  exact zI (.inl rfl) Tryz.results160 (.tmp rfl .nil) rfl [0] rfl (by decide) ⟨none,0,0,rfl,rfl,rfl⟩
 refine aC (aA (sT rfl ?_))
 refine bA (aA (aE (aF (aEI (xR (C:=cQ) (xs:=[]) (ps:=[]) (zs:=([]:List Rat)) rfl tyS24 rfl trivial rfl) trivial (fun b6 _=>?_)))))
 refine aI ?_
 obtain⟨x9,h10,hF⟩:=aP hF
 refine jD 0 rfl tyS24 rfl rfl rfl rfl rfl h10 (fun b11 c12 H13 e14=>?_)
 cases e14
 refine bH ?_
 refine aC (aA (a9 (a8 ?_)))
 obtain rfl:=bV hF
 exact zI (.inl rfl) Tryz.results160 (.tmp rfl .nil) rfl [0] rfl (by decide) ⟨b11,c12,(0+a0.length),(cL h10 rfl),rfl,rfl⟩
def jI (K:Nat) (x46:List Rat):Option (List Rat):=
 some x46
def eC (K:Nat) (a0:aQ):Nat→(List Rat)→Int→Option (List Rat)
 |0,_,_=>none
 |k+1,x39,x45=>bif(decide (x45<(a0.dofs.length:Int))) then((dC a0.dofs x45).bind fun v55=>(dC x39 x45).bind fun v60=>(yR v60 v55.inv).bind fun v62=>(dC x39 x45).bind fun v64=>(qC x39 x45 v62).bind fun x66=>(bW (x45+1)).bind fun v69=>eC K a0 k x66 v69) else(some x39)
def jG (K:Nat) (a0:aQ) (x24:List Rat):Option (List Rat):=
 (eC K a0 K x24 0).bind fun x46=>jI K x46
def jA (K:Nat) (x23:Int) (recl30:(List Rat)→Int→Option (List Rat)) (x111:List Rat):Option (List Rat):=
 (bW (x23+1)).bind fun v119=>recl30 x111 v119
def dL (K:Nat) (a2:List aO) (x23:Int) (v72:aH):Nat→(List Rat)→Int→Option (List Rat)
 |0,_,_=>none
 |k+1,x104,x110=>bif(decide (x110<(v72.t.length:Int))) then((dC v72.t x110).bind fun v122=>(dC x104 v122.dof).bind fun v127=>(dC a2 x23).bind fun v129=>(yR v122.k v129.f).bind fun v131=>(aAY v127 v131).bind fun v133=>(dC x104 v122.dof).bind fun v135=>(qC x104 v122.dof v133).bind fun x137=>(bW (x110+1)).bind fun v140=>dL K a2 x23 v72 k x137 v140) else(some x104)
def jH (K:Nat) (a2:List aO) (x23:Int) (v72:aH) (recl30:(List Rat)→Int→Option (List Rat)) (x89:List Rat):Option (List Rat):=
 (dL K a2 x23 v72 K x89 0).bind fun x111=>jA K x23 recl30 x111
def dP (K:Nat) (a2:List aO) (x23:Int) (v72:aH):Nat→(List Rat)→Int→Option (List Rat)
 |0,_,_=>none
 |k+1,x82,x88=>bif(decide (x88<(v72.j.length:Int))) then((dC v72.j x88).bind fun v143=>(dC x82 v143.dof).bind fun v148=>(dC a2 x23).bind fun v150=>(yR v143.k v150.n).bind fun v152=>(aAY v148 v152).bind fun v154=>(dC x82 v143.dof).bind fun v156=>(qC x82 v143.dof v154).bind fun x158=>(bW (x88+1)).bind fun v161=>dP K a2 x23 v72 k x158 v161) else(some x82)
def dE (K:Nat) (a0:aQ) (a2:List aO):Nat→(List Rat)→Int→Option (List Rat)
 |0,_,_=>none
 |k+1,x17,x23=>bif(decide (x23<(a0.rows.length:Int))) then((dC a0.rows x23).bind fun v72=>(dP K a2 x23 v72 K x17 0).bind fun x89=>jH K a2 x23 v72 (dE K a0 a2 k) x89) else(some x17)
def cD (K:Nat) (a0:aQ) (a1:List Rat) (a2:List aO):Option (List Rat):=
 (oR a1).bind fun v2=>(dE K a0 a2 K v2 0).bind fun x24=>jG K a0 x24
theorem dR {K:Nat} {a0:aQ} {a1:List Rat} {a2:List aO} {r:List Rat} (hF:cD K a0 a1 a2=some r):Ct Tryz.prog 74 [.va (aQ.enc a0),.vc (pS cQ a1),.vc (pS aO.cod a2)] (.vc (pS cQ r)):=by
 unfold cD at hF
 refine bD Tryz.func74 rfl (by kernel_rfl) Tryz.ntmps74 rfl (fun w0 M0=>?_)
 refine aE (aF (cY rfl rfl trivial (fun b1=>?_)))
 refine aB (aN (.inr rfl)) ⟨dX cQ,trivial⟩ ?_
 refine aC (aA (aE (aF (aI ?_))))
 obtain⟨v2,h3,hF⟩:=aP hF
 refine aCe [] [0] rfl (zT h3) zU1 rfl rfl (by decide) ?_
 rintro _ _ ⟨b5,c6,n7,q8,rfl,rfl⟩
 refine bH ?_
 refine aC (aA (aE (aE (aF (aB (bE (off:=0) (k:=3) rfl tyF113_3) zU1 ?_)))))
 refine aB (bK 1 1 rfl rfl rfl rfl (.one tyO25)) zU1 ?_
 refine aB (bX rfl tyS25) zU1 ?_
 refine aB (aN (.inl rfl)) ⟨bI _ _,trivial⟩ ?_
 refine aC (aA (bR (cJ (fun H E=>∃(x24:List Rat),jG K a0 x24=some r∧x24.length=n7∧H=[hO cQ b5 c6 44 n7 x24,⟨some b1,1,113,4,1,(aQ.enc a0)⟩]∧E=[(3,.vc (pP (some b1) 0)),(7,.vc (pO b5 n7 c6))]) ?_ (fun Jj31=>?_))))
 ·rintro _ _ ⟨x24,hF,q28,rfl,rfl⟩
  unfold jG at hF
  refine aA (aE (aE (aF (aB (bE (off:=0) (k:=0) rfl tyF113_0) zU1 ?_))))
  refine aB (bK 1 1 rfl rfl rfl rfl (.one tyO23)) zU1 ?_
  refine aB (bX rfl tyS23) zU1 ?_
  refine aB (aN (.inl rfl)) ⟨bI _ _,trivial⟩ ?_
  refine aC (aA (bR (cJ (fun H E=>∃(x46:List Rat),jI K x46=some r∧x46.length=n7∧H=[hO cQ b5 c6 44 n7 x46]∧E=[(7,.vc (pO b5 n7 c6))]) ?_ (fun Jj53=>?_))))
  ·rintro _ _ ⟨x46,hF,q50,rfl,rfl⟩
   unfold jI at hF
   refine aA (aE (aF (aI ?_)))
   refine bH ?_
   refine aC (aA (a9 (a8 (uB 0 [6,7,98] rfl q50 ⟨rfl,rfl,rfl,trivial⟩ rfl ?_))))
   obtain rfl:=bV hF
   exact aL (.inl rfl) Tryz.results74 (.tmp rfl .nil) rfl rfl
  obtain⟨x46',hL,hRl52⟩:=aP hF
  refine gB (fun k a w=>∃(x39:List Rat),∃(x45:Int),eC K a0 k x39 x45=some x46'∧x39.length=n7∧hs _ [hO cQ b5 c6 44 n7 x39] [(7,.vc (pO b5 n7 c6)),(80,.vc (pS aT.cod a0.dofs)),(81,.vc (pI .i64 (a0.dofs.length:Int))),(82,.vc (pI .i64 x45))] a w) K (fun a w ⟨_,_,hF,_,_⟩=>by cases hF) (fun k a w ⟨x39,x45,hF,q43,hh⟩=>gE ?_ hh) (fun a w hh=>⟨x24,0,hL,q28,bF [0] rfl (by decide) (by exact⟨rfl,rfl,rfl,rfl,trivial⟩) hh⟩)
  rw [eC.eq_2] at hF
  refine aE (aF (aB (dQ rfl) zU2 ?_))
  refine aC (aA (aE (bS rfl (fun h54=>?_) (fun h54=>?_))))
  ·have hF:=aV h54 hF
   refine bA (aA (aE (bR (aE (aF (aI ?_))))))
   obtain⟨v55,h56,hF⟩:=aP hF
   refine aB (cO rfl tyS23 h56) zU2 ?_
   refine aB (cK 17 rfl rfl (.agg tyA108)) zU1 ?_
   refine bP rfl tyZ108q (fun b57=>?_)
   refine bH ?_
   refine bG (dO 0 rfl rfl rfl tyA108.s) zU2 ?_
   refine aC (aA ?_)
   obtain⟨v60,h61,hF⟩:=aP hF
   obtain⟨v62,h63,hF⟩:=aP hF
   obtain⟨v64,h65,hF⟩:=aP hF
   refine bT [0,0,0,0,12,28,0,64,252,511,1023] 10 1 [.v (.vc (pO b5 n7 c6)),.v (.vc (pI .i64 x45)),.v (.vc (pO b5 n7 c6)),.v (.vc (pI .i64 x45)),.v (.vc (pE b5 x45 cQ.n 0)),.v (.va (eQ v60)),.v (.vc (pP (some b57) 0)),.v (.va (eQ v55.inv)),.v (.va (eQ v62)),.v (.vc (pE b5 x45 cQ.n 0))] aU ⟨d0 (aN (.inl rfl)) zU1,d0 (aN (.inl rfl)) zU1,d0 (aN (.inl rfl)) zU1,d0 (aN (.inl rfl)) zU1,d0 (cS (C:=cQ) 1 rfl tyS24 rfl q43 (aS h61).1 (aS h61).2.1) zU2,d0 (g9 (k:=4) 1 rfl rfl h61 rfl (.agg tyA44) rfl) zU1,d0 (bE (off:=0) (k:=0) rfl tyF108_0) zU1,d0 (bK 0 4 rfl rfl rfl rfl (.agg tyA44)) zU1,d0 (aJ rfl (rP h63) rfl) zU2,d0 (cS (C:=cQ) 1 rfl tyS24 rfl q43 (aS h65).1 (aS h65).2.1) zU2,trivial⟩ (fun bs59 G58=>?_)
   obtain⟨x66,h67,hF⟩:=aP hF
   refine bG (fW 1 rfl rfl h65 h67 tyA44.s) zU2 ?_
   refine aC (bJ (aA (aF ?_)))
   obtain⟨v69,h70,hF⟩:=aP hF
   refine aB (bO rfl h70) ⟨rfl,bI _ _,trivial⟩ ?_
   refine aI ?_
   refine aC ?_
   exact bL (fun a w hh=>⟨x66,v69,hF,(cE h67 q43),bF [1] rfl (by decide) (by exact⟨rfl,rfl,rfl,rfl,trivial⟩) hh⟩)
  have hF:=aX h54 hF
  refine dI ?_
  obtain rfl:=bV hF
  exact bU Jj53 ⟨x39,hRl52,q43,rfl,rfl⟩ [0] rfl zU1
 obtain⟨x24',hL,hRl30⟩:=aP hF
 refine gB (fun k a w=>∃(x17:List Rat),∃(x23:Int),dE K a0 a2 k x17 x23=some x24'∧x17.length=n7∧hs _ [hO cQ b5 c6 44 n7 x17,⟨some b1,1,113,4,1,(aQ.enc a0)⟩] [(2,.vc (pS aO.cod a2)),(3,.vc (pP (some b1) 0)),(7,.vc (pO b5 n7 c6)),(19,.vc (pS aH.cod a0.rows)),(20,.vc (pI .i64 (a0.rows.length:Int))),(21,.vc (pI .i64 x23))] a w) K (fun a w ⟨_,_,hF,_,_⟩=>by cases hF) (fun k a w ⟨x17,x23,hF,q21,hh⟩=>gE ?_ hh) (fun a w hh=>⟨v2,0,hL,q8,bF [0,1] rfl (by decide) (by exact⟨rfl,rfl,rfl,rfl,rfl,rfl,trivial⟩) hh⟩)
 rw [dE.eq_2] at hF
 refine aE (aF (aB (dQ rfl) zU2 ?_))
 refine aC (aA (aE (bS rfl (fun h71=>?_) (fun h71=>?_))))
 ·have hF:=aV h71 hF
  refine bA (aA (aE (bR (aE (aF (aI ?_))))))
  obtain⟨v72,h73,hF⟩:=aP hF
  refine aB (cO rfl tyS25 h73) zU2 ?_
  refine aB (cK 18 rfl rfl (.agg tyA51)) zU1 ?_
  refine bP rfl tyZ51q (fun b74=>?_)
  refine bH ?_
  refine bG (dO 0 rfl rfl rfl tyA51.s) zU2 ?_
  refine aC (aA (aE (aE (aF (aB (bE (off:=0) (k:=8) rfl tyF51_5) zU1 ?_)))))
  refine aB (bK 0 1 rfl rfl rfl rfl (.one tyO49)) zU1 ?_
  refine aB (bX rfl tyS49) zU1 ?_
  refine aB (aN (.inl rfl)) ⟨bI _ _,trivial⟩ ?_
  refine aC (aA (bR (cJ (fun H E=>∃(x89:List Rat),jH K a2 x23 v72 (dE K a0 a2 k) x89=some x24'∧x89.length=n7∧H=[⟨some b74,1,51,18,1,(aH.enc v72)⟩,hO cQ b5 c6 44 n7 x89,⟨some b1,1,113,4,1,(aQ.enc a0)⟩]∧E=[(2,.vc (pS aO.cod a2)),(3,.vc (pP (some b1) 0)),(7,.vc (pO b5 n7 c6)),(8,.vc (pI .i64 x23)),(9,.vc (pP (some b74) 0)),(19,.vc (pS aH.cod a0.rows)),(20,.vc (pI .i64 (a0.rows.length:Int))),(21,.vc (pI .i64 x23))]) ?_ (fun Jj96=>?_))))
  ·rintro _ _ ⟨x89,hF,q93,rfl,rfl⟩
   unfold jH at hF
   refine aA (aE (aF (aB (bE (off:=0) (k:=9) rfl tyF51_6) zU1 ?_)))
   refine aB (bK 0 1 rfl rfl rfl rfl (.one tyO49)) zU1 ?_
   refine aB (bX rfl tyS49) zU1 ?_
   refine aB (aN (.inl rfl)) ⟨bI _ _,trivial⟩ ?_
   refine aC (aA (bR (cJ (fun H E=>∃(x111:List Rat),jA K x23 (dE K a0 a2 k) x111=some x24'∧x111.length=n7∧H=[hO cQ b5 c6 44 n7 x111,⟨some b1,1,113,4,1,(aQ.enc a0)⟩]∧E=[(2,.vc (pS aO.cod a2)),(3,.vc (pP (some b1) 0)),(7,.vc (pO b5 n7 c6)),(19,.vc (pS aH.cod a0.rows)),(20,.vc (pI .i64 (a0.rows.length:Int))),(21,.vc (pI .i64 x23))]) ?_ (fun Jj118=>?_))))
   ·rintro _ _ ⟨x111,hF,q115,rfl,rfl⟩
    unfold jA at hF
    refine bJ (aA (aF ?_))
    obtain⟨v119,h120,hF⟩:=aP hF
    refine aB (bO rfl h120) ⟨rfl,bI _ _,trivial⟩ ?_
    refine aI ?_
    refine aC ?_
    exact bL (fun a w hh=>⟨x111,v119,hF,q115,bF [0,1] rfl (by decide) (by exact⟨rfl,rfl,rfl,rfl,rfl,rfl,trivial⟩) hh⟩)
   obtain⟨x111',hL,hRl117⟩:=aP hF
   refine gB (fun k a w=>∃(x104:List Rat),∃(x110:Int),dL K a2 x23 v72 k x104 x110=some x111'∧x104.length=n7∧hs _ [hO cQ b5 c6 44 n7 x104,⟨some b1,1,113,4,1,(aQ.enc a0)⟩] [(2,.vc (pS aO.cod a2)),(3,.vc (pP (some b1) 0)),(7,.vc (pO b5 n7 c6)),(8,.vc (pI .i64 x23)),(19,.vc (pS aH.cod a0.rows)),(20,.vc (pI .i64 (a0.rows.length:Int))),(21,.vc (pI .i64 x23)),(53,.vc (pS aG.cod v72.t)),(54,.vc (pI .i64 (v72.t.length:Int))),(55,.vc (pI .i64 x110))] a w) K (fun a w ⟨_,_,hF,_,_⟩=>by cases hF) (fun k a w ⟨x104,x110,hF,q108,hh⟩=>gE ?_ hh) (fun a w hh=>⟨x89,0,hL,q93,bF [1,2] rfl (by decide) (by exact⟨rfl,rfl,rfl,rfl,rfl,rfl,rfl,rfl,rfl,rfl,trivial⟩) hh⟩)
   rw [dL.eq_2] at hF
   refine aE (aF (aB (dQ rfl) zU2 ?_))
   refine aC (aA (aE (bS rfl (fun h121=>?_) (fun h121=>?_))))
   ·have hF:=aV h121 hF
    refine bA (aA (aE (bR (aE (aF ?_)))))
    obtain⟨v122,h123,hF⟩:=aP hF
    refine aB (cO rfl tyS49 h123) zU2 ?_
    refine aB (cK 5 rfl rfl (.agg tyA92)) zU1 ?_
    refine bP rfl tyZ92q (fun b124=>?_)
    refine bG (dO 0 rfl rfl rfl tyA92.s) zU2 ?_
    refine aC (aA ?_)
    obtain⟨v127,h128,hF⟩:=aP hF
    obtain⟨v129,h130,hF⟩:=aP hF
    obtain⟨v131,h132,hF⟩:=aP hF
    obtain⟨v133,h134,hF⟩:=aP hF
    obtain⟨v135,h136,hF⟩:=aP hF
    refine bT [0,0,2,0,0,16,56,120,0,256,0,0,3072,7168,15360,32512,65528,131071,262143] 18 1 [.v (.vc (pO b5 n7 c6)),.v (.vc (pP (some b124) 0)),.v (.vc (pI .i64 v122.dof)),.v (.vc (pO b5 n7 c6)),.v (.vc (pP (some b124) 0)),.v (.vc (pI .i64 v122.dof)),.v (.vc (pE b5 v122.dof cQ.n 0)),.v (.va (eQ v127)),.v (.vc (pP (some b124) 1)),.v (.va (eQ v122.k)),.v (.vc (pS aO.cod a2)),.v (.vc (pI .i64 x23)),.v (.vc (pM (aO.cod.e v129))),.v (.vc (pM ((aO.cod.e v129).drop 4))),.v (.va (eQ v129.f)),.v (.va (eQ v131)),.v (.va (eQ v133)),.v (.vc (pE b5 v122.dof cQ.n 0))] aU ⟨d0 (aN (.inl rfl)) zU1,d0 (bE (off:=0) (k:=0) rfl tyF92_0) zU1,d0 (bK 0 1 rfl rfl rfl rfl (.one tyO3)) zU1,d0 (aN (.inl rfl)) zU1,d0 (bE (off:=0) (k:=0) rfl tyF92_0) zU1,d0 (bK 0 1 rfl rfl rfl rfl (.one tyO3)) zU1,d0 (cS (C:=cQ) 1 rfl tyS24 rfl q108 (aS h128).1 (aS h128).2.1) zU2,d0 (g9 (k:=4) 1 rfl rfl h128 rfl (.agg tyA44) rfl) zU1,d0 (bE (off:=0) (k:=1) rfl tyF92_1) zU1,d0 (bK 0 4 rfl rfl rfl rfl (.agg tyA44)) zU1,d0 (aN (.inl rfl)) zU1,d0 (aN (.inl rfl)) zU1,d0 (cO rfl tyS29 h130) zU2,d0 (jR (ps:=(aO.cod.e v129)) (k:=4) rfl tyF58_1) zU1,d0 (cK 4 rfl rfl (.agg tyA44)) zU1,d0 (aJ rfl (rP h132) rfl) zU2,d0 (aJ rfl (uZ h134) rfl) zU2,d0 (cS (C:=cQ) 1 rfl tyS24 rfl q108 (aS h136).1 (aS h136).2.1) zU2,trivial⟩ (fun bs126 G125=>?_)
    obtain⟨x137,h138,hF⟩:=aP hF
    refine bG (fW 1 rfl rfl h136 h138 tyA44.s) zU2 ?_
    refine aC (bJ (aA (aF ?_)))
    obtain⟨v140,h141,hF⟩:=aP hF
    refine aB (bO rfl h141) ⟨rfl,bI _ _,trivial⟩ ?_
    refine aI ?_
    refine aC ?_
    exact bL (fun a w hh=>⟨x137,v140,hF,(cE h138 q108),bF [1,2] rfl (by decide) (by exact⟨rfl,rfl,rfl,rfl,rfl,rfl,rfl,rfl,rfl,rfl,trivial⟩) hh⟩)
   have hF:=aX h121 hF
   refine dI ?_
   obtain rfl:=bV hF
   exact bU Jj118 ⟨x104,hRl117,q108,rfl,rfl⟩ [0,1] rfl ⟨rfl,rfl,rfl,rfl,rfl,rfl,trivial⟩
  obtain⟨x89',hL,hRl95⟩:=aP hF
  refine gB (fun k a w=>∃(x82:List Rat),∃(x88:Int),dP K a2 x23 v72 k x82 x88=some x89'∧x82.length=n7∧hs _ [⟨some b74,1,51,18,1,(aH.enc v72)⟩,hO cQ b5 c6 44 n7 x82,⟨some b1,1,113,4,1,(aQ.enc a0)⟩] [(2,.vc (pS aO.cod a2)),(3,.vc (pP (some b1) 0)),(7,.vc (pO b5 n7 c6)),(8,.vc (pI .i64 x23)),(9,.vc (pP (some b74) 0)),(19,.vc (pS aH.cod a0.rows)),(20,.vc (pI .i64 (a0.rows.length:Int))),(21,.vc (pI .i64 x23)),(27,.vc (pS aG.cod v72.j)),(28,.vc (pI .i64 (v72.j.length:Int))),(29,.vc (pI .i64 x88))] a w) K (fun a w ⟨_,_,hF,_,_⟩=>by cases hF) (fun k a w ⟨x82,x88,hF,q86,hh⟩=>gE ?_ hh) (fun a w hh=>⟨x17,0,hL,q21,bF [0,1,2] rfl (by decide) (by exact⟨rfl,rfl,rfl,rfl,rfl,rfl,rfl,rfl,rfl,rfl,rfl,trivial⟩) hh⟩)
  rw [dP.eq_2] at hF
  refine aE (aF (aB (dQ rfl) zU2 ?_))
  refine aC (aA (aE (bS rfl (fun h142=>?_) (fun h142=>?_))))
  ·have hF:=aV h142 hF
   refine bA (aA (aE (bR (aE (aF ?_)))))
   obtain⟨v143,h144,hF⟩:=aP hF
   refine aB (cO rfl tyS49 h144) zU2 ?_
   refine aB (cK 5 rfl rfl (.agg tyA92)) zU1 ?_
   refine bP rfl tyZ92q (fun b145=>?_)
   refine bG (dO 0 rfl rfl rfl tyA92.s) zU2 ?_
   refine aC (aA ?_)
   obtain⟨v148,h149,hF⟩:=aP hF
   obtain⟨v150,h151,hF⟩:=aP hF
   obtain⟨v152,h153,hF⟩:=aP hF
   obtain⟨v154,h155,hF⟩:=aP hF
   obtain⟨v156,h157,hF⟩:=aP hF
   refine bT [0,0,2,0,0,16,56,120,0,256,0,0,3072,7168,15360,32512,65528,131071,262143] 18 1 [.v (.vc (pO b5 n7 c6)),.v (.vc (pP (some b145) 0)),.v (.vc (pI .i64 v143.dof)),.v (.vc (pO b5 n7 c6)),.v (.vc (pP (some b145) 0)),.v (.vc (pI .i64 v143.dof)),.v (.vc (pE b5 v143.dof cQ.n 0)),.v (.va (eQ v148)),.v (.vc (pP (some b145) 1)),.v (.va (eQ v143.k)),.v (.vc (pS aO.cod a2)),.v (.vc (pI .i64 x23)),.v (.vc (pM (aO.cod.e v150))),.v (.vc (pM (aO.cod.e v150))),.v (.va (eQ v150.n)),.v (.va (eQ v152)),.v (.va (eQ v154)),.v (.vc (pE b5 v143.dof cQ.n 0))] aU ⟨d0 (aN (.inl rfl)) zU1,d0 (bE (off:=0) (k:=0) rfl tyF92_0) zU1,d0 (bK 0 1 rfl rfl rfl rfl (.one tyO3)) zU1,d0 (aN (.inl rfl)) zU1,d0 (bE (off:=0) (k:=0) rfl tyF92_0) zU1,d0 (bK 0 1 rfl rfl rfl rfl (.one tyO3)) zU1,d0 (cS (C:=cQ) 2 rfl tyS24 rfl q86 (aS h149).1 (aS h149).2.1) zU2,d0 (g9 (k:=4) 2 rfl rfl h149 rfl (.agg tyA44) rfl) zU1,d0 (bE (off:=0) (k:=1) rfl tyF92_1) zU1,d0 (bK 0 4 rfl rfl rfl rfl (.agg tyA44)) zU1,d0 (aN (.inl rfl)) zU1,d0 (aN (.inl rfl)) zU1,d0 (cO rfl tyS29 h151) zU2,d0 (jR (ps:=(aO.cod.e v150)) (k:=0) rfl tyF58_0) zU1,d0 (cK 4 rfl rfl (.agg tyA44)) zU1,d0 (aJ rfl (rP h153) rfl) zU2,d0 (aJ rfl (uZ h155) rfl) zU2,d0 (cS (C:=cQ) 2 rfl tyS24 rfl q86 (aS h157).1 (aS h157).2.1) zU2,trivial⟩ (fun bs147 G146=>?_)
   obtain⟨x158,h159,hF⟩:=aP hF
   refine bG (fW 2 rfl rfl h157 h159 tyA44.s) zU2 ?_
   refine aC (bJ (aA (aF ?_)))
   obtain⟨v161,h162,hF⟩:=aP hF
   refine aB (bO rfl h162) ⟨rfl,bI _ _,trivial⟩ ?_
   refine aI ?_
   refine aC ?_
   exact bL (fun a w hh=>⟨x158,v161,hF,(cE h159 q86),bF [1,2,3] rfl (by decide) (by exact⟨rfl,rfl,rfl,rfl,rfl,rfl,rfl,rfl,rfl,rfl,rfl,trivial⟩) hh⟩)
  have hF:=aX h142 hF
  refine dI ?_
  obtain rfl:=bV hF
  exact bU Jj96 ⟨x82,hRl95,q86,rfl,rfl⟩ [0,1,2] rfl ⟨rfl,rfl,rfl,rfl,rfl,rfl,rfl,rfl,trivial⟩
 have hF:=aX h71 hF
 refine dI ?_
 obtain rfl:=bV hF
 exact bU Jj31 ⟨x17,hRl30,q21,rfl,rfl⟩ [0,1] rfl zU2
def gO (c0:List Rat) (a0:Int) (a1:Rat):Option (List Rat):=
 (dC c0 a0).bind fun v8=>(qC c0 a0 a1).bind fun x10=>some x10
theorem pR {c0:List Rat} {a0:Int} {a1:Rat} {r:List Rat} (hF:gO c0 a0 a1=some r) {p0:Nat} {b3:Option Nat} {c4 n2:Nat} (q5:c0.length=n2):CtO Tryz.prog 157 [⟨some p0,1,24,1,1,[pO b3 n2 c4]⟩,hO cQ b3 c4 44 n2 c0] [.vc (pI .i64 a0),.va (eQ a1),.vc (pP (some p0) 0)] (fun Ho q=>∃b15 c16 n14,r.length=n14∧Ho=[⟨some p0,1,24,1,1,[pO b15 n14 c16]⟩,hO cQ b15 c16 44 n14 r]∧q=.any):=by
 unfold gO at hF
 refine bD Tryz.func157 rfl (by kernel_rfl) Tryz.ntmps157 rfl (fun w0 M0=>?_)
 refine aE (aF (cY rfl rfl trivial (fun b7=>?_)))
 refine aC (aA (aF (aB (bK 1 1 rfl rfl rfl rfl (.one tyO24)) zU1 ?_)))
 refine aI ?_
 refine aB (bK 0 4 rfl rfl rfl rfl (.agg tyA44)) zU1 ?_
 obtain⟨v8,h9,hF⟩:=aP hF
 refine aB (cS (C:=cQ) 2 rfl tyS24 rfl q5 (aS h9).1 (aS h9).2.1) zU2 ?_
 obtain⟨x10,h11,hF⟩:=aP hF
 refine bG (fW 2 rfl rfl h9 h11 tyA44.s) zU2 ?_
 refine aC ?_
 obtain rfl:=bV hF
 exact zI (.inr rfl) Tryz.results157 .nil rfl [1,2] rfl (by decide) ⟨b3,c4,n2,(cE h11 q5),rfl,rfl⟩
def nV (a0:List aO):Option (List aO):=
 (qO ([]:List aO) a0).bind fun x9=>some x9
theorem zA {a0:List aO} {r:List aO} (hF:nV a0=some r):CtO Tryz.prog 158 [] [.vc (pS aO.cod a0)] (fun Ho q=>∃b18 c19 n17,r.length=n17∧Ho=[hO aO.cod b18 c19 58 n17 r]∧q=.vc (pO b18 n17 c19)):=by
 unfold nV at hF
 refine bD Tryz.func158 rfl (by kernel_rfl) Tryz.ntmps158 rfl (fun w0 M0=>?_)
 refine aE (aF (sB aO.cod 58 rfl ?_))
 refine aC (aA (aE (aE (aF (aI ?_)))))
 refine aGX rfl Tryz.underlying29 rfl (fun h3=>?_) ?_
 ·skip
  subst h3
  have hF:some ([]:List aO)=some r:=by simpa [qO] using hF
  refine aC (aA (iO rfl ?_))
  refine aE (aF (sB aO.cod 58 rfl ?_))
  refine aC (aA (a9 (a8 ?_)))
  obtain rfl:=bV hF
  exact zI (.inl rfl) Tryz.results158 (.tmp rfl .nil) rfl [0] rfl (by decide) ⟨none,0,0,rfl,rfl,rfl⟩
 refine aC (aA (sT rfl ?_))
 refine bA (aA (aE (aF (aEI (xR (C:=aO.cod) (xs:=[]) (ps:=[]) (zs:=([]:List aO)) rfl tyS29 rfl trivial rfl) trivial (fun b6 _=>?_)))))
 refine aI ?_
 obtain⟨x9,h10,hF⟩:=aP hF
 refine jD 0 rfl tyS29 rfl rfl rfl rfl rfl h10 (fun b11 c12 H13 e14=>?_)
 cases e14
 refine bH ?_
 refine aC (aA (a9 (a8 ?_)))
 obtain rfl:=bV hF
 exact zI (.inl rfl) Tryz.results158 (.tmp rfl .nil) rfl [0] rfl (by decide) ⟨b11,c12,(0+a0.length),(cL h10 rfl),rfl,rfl⟩
def gQ (c0:(List Nat×List (List Rat))) (c1:Int) (a0:Int) (a1:Rat):Option (List Nat×List (List Rat)):=
 (dC c0.1 a0).bind fun v17=>(dC c0.1 a0).bind fun v19=>(dC (c0.2.getD v19 []) c1).bind fun v21=>(aAY v21 a1).bind fun v23=>(dC (c0.2.getD v17 []) c1).bind fun v25=>(qC (c0.2.getD v17 []) c1 v23).bind fun x27=>some (c0.1,(c0.2.set v17 x27))
theorem pQ {c0:(List Nat×List (List Rat))} {c1:Int} {a0:Int} {a1:Rat} {r:(List Nat×List (List Rat))} (hF:gQ c0 c1 a0 a1=some r) {p0:Nat} {b5:Option Nat} {c6 n4:Nat} {g3:List vB} {N9:Nat} (q7:c0.1.length=n4) (q10:c0.2.length=N9) (q11:l9 g3 c0.2) (q12:(∀k∈c0.1,k<N9)):CtO Tryz.prog 159 ([⟨some p0,1,62,1,1,[pO b5 n4 c6]⟩,hO (cH g3) b5 c6 24 n4 c0.1]++jC cQ 44 g3 c0.2) [.vc (pI .i64 a0),.va (eQ a1),.vc (pP (some p0) 0),.vc (pM (cI.e c1))] (fun Ho q=>∃b34 c35 n33 g32 N38,r.1.length=n33∧r.2.length=N38∧l9 g32 r.2∧(∀k∈r.1,k<N38)∧Ho=([⟨some p0,1,62,1,1,[pO b34 n33 c35]⟩,hO (cH g32) b34 c35 24 n33 r.1]++jC cQ 44 g32 r.2)∧q=.any):=by
 unfold gQ at hF
 refine bD Tryz.func159 rfl (by kernel_rfl) Tryz.ntmps159 rfl (fun w0 M0=>?_)
 refine aE (aF (cY rfl rfl trivial (fun b14=>?_)))
 refine aC (aA ?_)
 obtain⟨v17,h18,hF⟩:=aP hF
 obtain⟨v19,h20,hF⟩:=aP hF
 obtain⟨v21,h22,hF⟩:=aP hF
 obtain⟨v23,h24,hF⟩:=aP hF
 obtain⟨v25,h26,hF⟩:=aP hF
 refine bT [0,0,3,7,0,0,0,96,224,0,992,2016,0,8160,16383,32767] 15 1 [.v (.vc (pO b5 n4 c6)),.v (.vc (pI .i64 a0)),.v (.vc (pE b5 a0 (cH g3).n 0)),.v (.vc (pO (kC g3 v17).1 (kC g3 v17).2.1 (kC g3 v17).2.2)),.v (.vc (pI .i64 c1)),.v (.vc (pO b5 n4 c6)),.v (.vc (pI .i64 a0)),.v (.vc (pE b5 a0 (cH g3).n 0)),.v (.vc (pO (kC g3 v19).1 (kC g3 v19).2.1 (kC g3 v19).2.2)),.v (.vc (pI .i64 c1)),.v (.vc (pE (kC g3 v19).1 c1 cQ.n 0)),.v (.va (eQ v21)),.v (.va (eQ a1)),.v (.va (eQ v23)),.v (.vc (pE (kC g3 v17).1 c1 cQ.n 0))] aU ⟨d0 (bK 1 1 rfl rfl rfl rfl (.one tyO62)) zU1,d0 (aN (.inl rfl)) zU1,d0 (cS (C:=(cH g3)) 2 rfl tyS62 rfl q7 (aS h18).1 (aS h18).2.1) zU2,d0 (g9 (C:=(cH g3)) (k:=1) 2 rfl rfl h18 rfl (.one tyO24) rfl) zU1,d0 (cK 1 rfl rfl (.one tyO3)) zU1,d0 (bK 1 1 rfl rfl rfl rfl (.one tyO62)) zU1,d0 (aN (.inl rfl)) zU1,d0 (cS (C:=(cH g3)) 2 rfl tyS62 rfl q7 (aS h20).1 (aS h20).2.1) zU2,d0 (g9 (C:=(cH g3)) (k:=1) 2 rfl rfl h20 rfl (.one tyO24) rfl) zU1,d0 (cK 1 rfl rfl (.one tyO3)) zU1,d0 (cS (3+v19) rfl tyS24 (lB 3 rfl q11 q10 (q12 _ (cC h20))) (mC q11 q10 (q12 _ (cC h20))) (aS h22).1 (aS h22).2.1) zU2,d0 (g9 (k:=4) (3+v19) rfl (lB 3 rfl q11 q10 (q12 _ (cC h20))) h22 rfl (.agg tyA44) rfl) zU1,d0 (bK 0 4 rfl rfl rfl rfl (.agg tyA44)) zU1,d0 (aJ rfl (uZ h24) rfl) zU2,d0 (cS (3+v17) rfl tyS24 (lB 3 rfl q11 q10 (q12 _ (cC h18))) (mC q11 q10 (q12 _ (cC h18))) (aS h26).1 (aS h26).2.1) zU2,trivial⟩ (fun bs16 G15=>?_)
 obtain⟨x27,h28,hF⟩:=aP hF
 refine bG (fW (H':=([⟨some b14,1,44,4,1,(eQ a1)⟩,⟨some p0,1,62,1,1,[pO b5 n4 c6]⟩,hO (cH g3) b5 c6 24 n4 c0.1]++jC cQ 44 g3 (c0.2.set v17 x27))) (3+v17) rfl (aBz 3 rfl q11 q10 (q12 _ (cC h18))) h26 h28 tyA44.s (hH:=stN 3 rfl q11 q10 (q12 _ (cC h18)))) zU2 ?_
 refine aC ?_
 obtain rfl:=bV hF
 exact yH (.inr rfl) Tryz.results159 .nil rfl 3 [1,2] rfl rfl (by decide) ⟨b5,c6,n4,g3,N9,q7,(tO q10),(wK q11 q10 (q12 _ (cC h18)) (cE h28 rfl)),q12,rfl,rfl⟩
def jW (K:Nat) (x21:List Rat):Option (List Rat):=
 some x21
def cT (K:Nat) (a0:List Rat) (a1:List aK) (a2:aQ):Nat→(List Rat)→Int→Option (List Rat)
 |0,_,_=>none
 |k+1,x14,x20=>bif(decide (x20<(a1.length:Int))) then((dC a1 x20).bind fun v30=>(dC a2.rows v30.row).bind fun v33=>bif(v30.kind==0) then((gZ K v33.j a0).bind fun v37=>(gO x14 x20 v37).bind fun v39=>(bW (x20+1)).bind fun v47=>cT K a0 a1 a2 k v39 v47) else(bif(v30.kind==1) then((gZ K v33.t a0).bind fun v50=>(gO x14 x20 v50).bind fun v52=>(bW (x20+1)).bind fun v60=>cT K a0 a1 a2 k v52 v60) else(bif(v30.kind==2) then((gZ K v33.t a0).bind fun v63=>(aBw v63).bind fun v65=>(gO x14 x20 v65).bind fun v67=>(bW (x20+1)).bind fun v75=>cT K a0 a1 a2 k v67 v75) else((bW (x20+1)).bind fun v77=>cT K a0 a1 a2 k x14 v77)))) else(some x14)
def lK (K:Nat) (a0:List Rat) (a1:List aK) (a2:aQ) (a3:List Rat):Option (List Rat):=
 (cT K a0 a1 a2 K a3 0).bind fun x21=>jW K x21
theorem vL {K:Nat} {a0:List Rat} {a1:List aK} {a2:aQ} {a3:List Rat} {r:List Rat} (hF:lK K a0 a1 a2 a3=some r) {p0:Nat} {p1:Nat} {p2:Nat} {b2:Option Nat} {c3 n4:Nat} (q5:a3.length=n4):CtO Tryz.prog 156 [⟨some p0,1,24,1,1,[pO b2 n4 c3]⟩,⟨some p1,1,114,1,1,[pS aK.cod a1]⟩,⟨some p2,1,113,4,1,(aQ.enc a2)⟩,hO cQ b2 c3 44 n4 a3] [.vc (pS cQ a0),.vc (pF 157 [pP (some p0) 0]),.vc (pP (some p1) 0),.vc (pP (some p2) 0)] (fun Ho q=>∃b1079 c1080 n1081,r.length=n1081∧Ho=[⟨some p0,1,24,1,1,[pO b1079 n1081 c1080]⟩,⟨some p1,1,114,1,1,[pS aK.cod a1]⟩,⟨some p2,1,113,4,1,(aQ.enc a2)⟩,hO cQ b1079 c1080 44 n1081 r]∧q=.any):=by
 unfold lK at hF
 refine bD Tryz.func156 rfl (by kernel_rfl) Tryz.ntmps156 rfl (fun w0 M0=>?_)
 refine aE (aF (aB (bK 1 1 rfl rfl rfl rfl (.one tyO114)) zU1 ?_))
 refine aB (bX rfl tyS114) zU1 ?_
 refine aB (aN (.inl rfl)) ⟨bI _ _,trivial⟩ ?_
 refine aC (aA (bR (cJ (fun H E=>∃(x21:List Rat),∃(b22:Option Nat),∃(c23:Nat),∃(n24:Nat),jW K x21=some r∧x21.length=n24∧H=[⟨some p0,1,24,1,1,[pO b22 n24 c23]⟩,⟨some p1,1,114,1,1,[pS aK.cod a1]⟩,⟨some p2,1,113,4,1,(aQ.enc a2)⟩,hO cQ b22 c23 44 n24 x21]∧E=[]) ?_ (fun Jj28=>?_))))
 ·rintro _ _ ⟨x21,b22,c23,n24,hF,q25,rfl,rfl⟩
  unfold jW at hF
  obtain rfl:=bV hF
  exact zI (.inr rfl) Tryz.results156 .nil rfl [0,1,2,3] rfl (by decide) ⟨b22,c23,n24,q25,rfl,rfl⟩
 obtain⟨x21',hL,hRl27⟩:=aP hF
 refine gB (fun k a w=>∃(x14:List Rat),∃(x20:Int),∃(b15:Option Nat),∃(c16:Nat),∃(n17:Nat),cT K a0 a1 a2 k x14 x20=some x21'∧x14.length=n17∧hs _ [⟨some p0,1,24,1,1,[pO b15 n17 c16]⟩,⟨some p1,1,114,1,1,[pS aK.cod a1]⟩,⟨some p2,1,113,4,1,(aQ.enc a2)⟩,hO cQ b15 c16 44 n17 x14] [(0,.vc (pS cQ a0)),(1,.vc (pF 157 [pP (some p0) 0])),(3,.vc (pP (some p2) 0)),(9,.vc (pS aK.cod a1)),(10,.vc (pI .i64 (a1.length:Int))),(11,.vc (pI .i64 x20))] a w) K (fun a w ⟨_,_,_,_,_,hF,_,_⟩=>by cases hF) (fun k a w ⟨x14,x20,b15,c16,n17,hF,q18,hh⟩=>gE ?_ hh) (fun a w hh=>⟨a3,0,b2,c3,n4,hL,q5,bF [0,1,2,3] rfl (by decide) (by exact⟨rfl,rfl,rfl,rfl,rfl,rfl,trivial⟩) hh⟩)
 rw [cT.eq_2] at hF
 refine aE (aF (aB (dQ rfl) zU2 ?_))
 refine aC (aA (aE (bS rfl (fun h29=>?_) (fun h29=>?_))))
 ·have hF:=aV h29 hF
  refine bA (aA (aE (bR (aE (aF (aI ?_))))))
  obtain⟨v30,h31,hF⟩:=aP hF
  refine aB (cO rfl tyS114 h31) zU2 ?_
  refine aB (cK 2 rfl rfl (.agg tyA118)) zU1 ?_
  refine bP rfl tyZ118q (fun b32=>?_)
  refine bH ?_
  refine bG (dO 0 rfl rfl rfl tyA118.s) zU2 ?_
  refine aC (aA (aE (aF (aB (bE (off:=0) (k:=3) rfl tyF113_3) zU1 ?_))))
  refine aB (bK 3 1 rfl rfl rfl rfl (.one tyO25)) zU1 ?_
  refine aB (bE (off:=0) (k:=0) rfl tyF118_0) zU1 ?_
  refine aB (bK 0 1 rfl rfl rfl rfl (.one tyO3)) zU1 ?_
  obtain⟨v33,h34,hF⟩:=aP hF
  refine aB (cO rfl tyS25 h34) zU2 ?_
  refine aB (cK 18 rfl rfl (.agg tyA51)) zU1 ?_
  refine bP rfl tyZ51q (fun b35=>?_)
  refine bG (dO 0 rfl rfl rfl tyA51.s) zU2 ?_
  refine aC (aA (aE (aF (aB (bE (off:=0) (k:=1) rfl tyF118_1) zU1 ?_))))
  refine aB (bK 1 1 rfl rfl rfl rfl (.one tyO3)) zU1 ?_
  refine aC (aA (bR (aE (aF (aB (gR rfl) ⟨rfl,bI _ _,trivial⟩ ?_)))))
  refine bH ?_
  refine aC (aA (bS rfl (fun h36=>?_) (fun h36=>?_)))
  ·have hF:=aV h36 hF
   refine aF (aI ?_)
   refine aI ?_
   refine aB (bE (off:=0) (k:=8) rfl tyF51_5) zU1 ?_
   refine aB (bK 0 1 rfl rfl rfl rfl (.one tyO49)) zU1 ?_
   refine aI ?_
   obtain⟨v37,h38,hF⟩:=aP hF
   refine aB (aJ rfl (kP h38) rfl) zU2 ?_
   obtain⟨v39,h40,hF⟩:=aP hF
   refine zO (f:=157) (cs:=[pP (some p0) 0]) (pre:=[.vc (pI .i64 x20),.va (eQ v37)]) (xs:=[.tmp 27,.tmp 31]) [2,5] [0,1,3,4] rfl (pR h40 q18) ⟨rfl,rfl,rfl,trivial⟩ rfl rfl (by decide) ?_
   rintro _ _ ⟨b43,c44,n42,q45,rfl,rfl⟩
   refine aC (bJ (bJ (aA (aF ?_))))
   obtain⟨v47,h48,hF⟩:=aP hF
   refine aB (bO rfl h48) ⟨rfl,bI _ _,trivial⟩ ?_
   refine aI ?_
   refine aC ?_
   exact bL (fun a w hh=>⟨v39,v47,b43,c44,n42,hF,q45,bF [0,4,5,1] rfl (by decide) (by exact⟨rfl,rfl,rfl,rfl,rfl,rfl,trivial⟩) hh⟩)
  have hF:=aX h36 hF
  refine aE (aF (aB (gR rfl) ⟨rfl,bI _ _,trivial⟩ ?_))
  refine bH ?_
  refine aC (aA (bS rfl (fun h49=>?_) (fun h49=>?_)))
  ·have hF:=aV h49 hF
   refine aF (aI ?_)
   refine aI ?_
   refine aB (bE (off:=0) (k:=9) rfl tyF51_6) zU1 ?_
   refine aB (bK 0 1 rfl rfl rfl rfl (.one tyO49)) zU1 ?_
   refine aI ?_
   obtain⟨v50,h51,hF⟩:=aP hF
   refine aB (aJ rfl (kP h51) rfl) zU2 ?_
   obtain⟨v52,h53,hF⟩:=aP hF
   refine zO (f:=157) (cs:=[pP (some p0) 0]) (pre:=[.vc (pI .i64 x20),.va (eQ v50)]) (xs:=[.tmp 36,.tmp 40]) [2,5] [0,1,3,4] rfl (pR h53 q18) ⟨rfl,rfl,rfl,trivial⟩ rfl rfl (by decide) ?_
   rintro _ _ ⟨b56,c57,n55,q58,rfl,rfl⟩
   refine aC (bJ (bJ (aA (aF ?_))))
   obtain⟨v60,h61,hF⟩:=aP hF
   refine aB (bO rfl h61) ⟨rfl,bI _ _,trivial⟩ ?_
   refine aI ?_
   refine aC ?_
   exact bL (fun a w hh=>⟨v52,v60,b56,c57,n55,hF,q58,bF [0,4,5,1] rfl (by decide) (by exact⟨rfl,rfl,rfl,rfl,rfl,rfl,trivial⟩) hh⟩)
  have hF:=aX h49 hF
  refine aE (aF (aB (gR rfl) ⟨rfl,bI _ _,trivial⟩ ?_))
  refine bH ?_
  refine aC (aA (bS rfl (fun h62=>?_) (fun h62=>?_)))
  ·have hF:=aV h62 hF
   refine aF (aI ?_)
   refine aI ?_
   refine aB (bE (off:=0) (k:=9) rfl tyF51_6) zU1 ?_
   refine aB (bK 0 1 rfl rfl rfl rfl (.one tyO49)) zU1 ?_
   refine aI ?_
   obtain⟨v63,h64,hF⟩:=aP hF
   refine aB (aJ rfl (kP h64) rfl) zU2 ?_
   obtain⟨v65,h66,hF⟩:=aP hF
   refine aB (aJ rfl (qM h66) rfl) zU1 ?_
   obtain⟨v67,h68,hF⟩:=aP hF
   refine zO (f:=157) (cs:=[pP (some p0) 0]) (pre:=[.vc (pI .i64 x20),.va (eQ v65)]) (xs:=[.tmp 45,.tmp 50]) [2,5] [0,1,3,4] rfl (pR h68 q18) ⟨rfl,rfl,rfl,trivial⟩ rfl rfl (by decide) ?_
   rintro _ _ ⟨b71,c72,n70,q73,rfl,rfl⟩
   refine aC (bJ (bJ (aA (aF ?_))))
   obtain⟨v75,h76,hF⟩:=aP hF
   refine aB (bO rfl h76) ⟨rfl,bI _ _,trivial⟩ ?_
   refine aI ?_
   refine aC ?_
   exact bL (fun a w hh=>⟨v67,v75,b71,c72,n70,hF,q73,bF [0,4,5,1] rfl (by decide) (by exact⟨rfl,rfl,rfl,rfl,rfl,rfl,trivial⟩) hh⟩)
  have hF:=aX h62 hF
  refine bA (bJ (bJ (aA (aF ?_))))
  obtain⟨v77,h78,hF⟩:=aP hF
  refine aB (bO rfl h78) ⟨rfl,bI _ _,trivial⟩ ?_
  refine aI ?_
  refine aC ?_
  exact bL (fun a w hh=>⟨x14,v77,b15,c16,n17,hF,q18,bF [2,3,4,5] rfl (by decide) (by exact⟨rfl,rfl,rfl,rfl,rfl,rfl,trivial⟩) hh⟩)
 have hF:=aX h29 hF
 refine dI ?_
 obtain rfl:=bV hF
 exact bU Jj28 ⟨x14,b15,c16,n17,hRl27,q18,rfl,rfl⟩ [0,1,2,3] rfl trivial
def jX (K:Nat) (x40:List Nat) (x46:List (List Rat)):Option ((List Nat)×(List (List Rat))):=
 some (x40,x46)
def cV (K:Nat) (a0:List Rat) (a1:Int) (a2:List aK) (a3:aQ):Nat→(List Nat)→(List (List Rat))→Int→Option ((List Nat)×(List (List Rat)))
 |0,_,_,_=>none
 |k+1,x27,x33,x39=>bif(decide (x39<(a2.length:Int))) then((dC a2 x39).bind fun v55=>(dC a3.rows v55.row).bind fun v58=>bif(v55.kind==0) then((gZ K v58.j a0).bind fun v62=>(gQ (x27,x33) a1 x39 v62).bind fun v64=>(bW (x39+1)).bind fun v79=>cV K a0 a1 a2 a3 k v64.1 v64.2 v79) else(bif(v55.kind==1) then((gZ K v58.t a0).bind fun v82=>(gQ (x27,x33) a1 x39 v82).bind fun v84=>(bW (x39+1)).bind fun v99=>cV K a0 a1 a2 a3 k v84.1 v84.2 v99) else(bif(v55.kind==2) then((gZ K v58.t a0).bind fun v102=>(aBw v102).bind fun v104=>(gQ (x27,x33) a1 x39 v104).bind fun v106=>(bW (x39+1)).bind fun v121=>cV K a0 a1 a2 a3 k v106.1 v106.2 v121) else((bW (x39+1)).bind fun v123=>cV K a0 a1 a2 a3 k x27 x33 v123)))) else(some (x27,x33))
def dG (K:Nat) (a0:List Rat) (a1:Int) (a2:List aK) (a3:aQ) (a4:List Nat) (a5:List (List Rat)):Option ((List Nat)×(List (List Rat))):=
 (cV K a0 a1 a2 a3 K a4 a5 0).bind fun(x40,x46)=>jX K x40 x46
theorem fU {K:Nat} {a0:List Rat} {a1:Int} {a2:List aK} {a3:aQ} {a4:List Nat} {a5:List (List Rat)} {r:(List Nat)×(List (List Rat))} (hF:dG K a0 a1 a2 a3 a4 a5=some r) {p0:Nat} {p1:Nat} {p2:Nat} {b3:Option Nat} {c4 n5:Nat} {g8:List vB} {N9:Nat} (q6:a4.length=n5) (q10:a5.length=N9) (q11:l9 g8 a5) (q12:∀k∈a4,k<N9):CtO Tryz.prog 156 ([⟨some p0,1,62,1,1,[pO b3 n5 c4]⟩,⟨some p1,1,114,1,1,[pS aK.cod a2]⟩,⟨some p2,1,113,4,1,(aQ.enc a3)⟩,hO (cH g8) b3 c4 24 n5 a4]++jC cQ 44 g8 a5) [.vc (pS cQ a0),.vc (pF 159 [pP (some p0) 0,pM (cI.e a1)]),.vc (pP (some p1) 0),.vc (pP (some p2) 0)] (fun Ho q=>∃b1125 c1126 n1127 g1130 N1131,r.1.length=n1127∧r.2.length=N1131∧l9 g1130 r.2∧(∀k∈r.1,k<N1131)∧Ho=([⟨some p0,1,62,1,1,[pO b1125 n1127 c1126]⟩,⟨some p1,1,114,1,1,[pS aK.cod a2]⟩,⟨some p2,1,113,4,1,(aQ.enc a3)⟩,hO (cH g1130) b1125 c1126 24 n1127 r.1]++jC cQ 44 g1130 r.2)∧q=.any):=by
 unfold dG at hF
 refine bD Tryz.func156 rfl (by kernel_rfl) Tryz.ntmps156 rfl (fun w0 M0=>?_)
 refine aE (aF (aB (bK 1 1 rfl rfl rfl rfl (.one tyO114)) zU1 ?_))
 refine aB (bX rfl tyS114) zU1 ?_
 refine aB (aN (.inl rfl)) ⟨bI _ _,trivial⟩ ?_
 refine aC (aA (bR (cJ (fun H E=>∃(x40:List Nat),∃(x46:List (List Rat)),∃(b41:Option Nat),∃(c42:Nat),∃(n43:Nat),∃(g47:List vB),∃(N48:Nat),jX K x40 x46=some r∧x40.length=n43∧x46.length=N48∧l9 g47 x46∧(∀k∈x40,k<N48)∧H=([⟨some p0,1,62,1,1,[pO b41 n43 c42]⟩,⟨some p1,1,114,1,1,[pS aK.cod a2]⟩,⟨some p2,1,113,4,1,(aQ.enc a3)⟩,hO (cH g47) b41 c42 24 n43 x40]++jC cQ 44 g47 x46)∧E=[]) ?_ (fun Jj53=>?_))))
 ·rintro _ _ ⟨x40,x46,b41,c42,n43,g47,N48,hF,q44,q49,q50,q51,rfl,rfl⟩
  unfold jX at hF
  obtain rfl:=bV hF
  exact yH (.inr rfl) Tryz.results156 .nil rfl 4 [0,1,2,3] rfl rfl (by decide) ⟨b41,c42,n43,g47,N48,q44,q49,q50,q51,rfl,rfl⟩
 obtain⟨⟨x40',x46'⟩,hL,hRl52⟩:=aP hF
 refine gB (fun k a w=>∃(x27:List Nat),∃(x33:List (List Rat)),∃(x39:Int),∃(b28:Option Nat),∃(c29:Nat),∃(n30:Nat),∃(g34:List vB),∃(N35:Nat),cV K a0 a1 a2 a3 k x27 x33 x39=some (x40',x46')∧x27.length=n30∧x33.length=N35∧l9 g34 x33∧(∀k∈x27,k<N35)∧hs _ ([⟨some p0,1,62,1,1,[pO b28 n30 c29]⟩,⟨some p1,1,114,1,1,[pS aK.cod a2]⟩,⟨some p2,1,113,4,1,(aQ.enc a3)⟩,hO (cH g34) b28 c29 24 n30 x27]++jC cQ 44 g34 x33) [(0,.vc (pS cQ a0)),(1,.vc (pF 159 [pP (some p0) 0,pM (cI.e a1)])),(3,.vc (pP (some p2) 0)),(9,.vc (pS aK.cod a2)),(10,.vc (pI .i64 (a2.length:Int))),(11,.vc (pI .i64 x39))] a w) K (fun a w ⟨_,_,_,_,_,_,_,_,hF,_,_,_,_,_⟩=>by cases hF) (fun k a w ⟨x27,x33,x39,b28,c29,n30,g34,N35,hF,q31,q36,q37,q38,hh⟩=>gE ?_ hh) (fun a w hh=>⟨a4,a5,0,b3,c4,n5,g8,N9,hL,q6,q10,q11,q12,dM 4 [0,1,2,3] rfl rfl (by decide) (by exact⟨rfl,rfl,rfl,rfl,rfl,rfl,trivial⟩) hh⟩)
 rw [cV.eq_2] at hF
 refine aE (aF (aB (dQ rfl) zU2 ?_))
 refine aC (aA (aE (bS rfl (fun h54=>?_) (fun h54=>?_))))
 ·have hF:=aV h54 hF
  refine bA (aA (aE (bR (aE (aF (aI ?_))))))
  obtain⟨v55,h56,hF⟩:=aP hF
  refine aB (cO rfl tyS114 h56) zU2 ?_
  refine aB (cK 2 rfl rfl (.agg tyA118)) zU1 ?_
  refine bP rfl tyZ118q (fun b57=>?_)
  refine bH ?_
  refine bG (dO 0 rfl rfl rfl tyA118.s) zU2 ?_
  refine aC (aA (aE (aF (aB (bE (off:=0) (k:=3) rfl tyF113_3) zU1 ?_))))
  refine aB (bK 3 1 rfl rfl rfl rfl (.one tyO25)) zU1 ?_
  refine aB (bE (off:=0) (k:=0) rfl tyF118_0) zU1 ?_
  refine aB (bK 0 1 rfl rfl rfl rfl (.one tyO3)) zU1 ?_
  obtain⟨v58,h59,hF⟩:=aP hF
  refine aB (cO rfl tyS25 h59) zU2 ?_
  refine aB (cK 18 rfl rfl (.agg tyA51)) zU1 ?_
  refine bP rfl tyZ51q (fun b60=>?_)
  refine bG (dO 0 rfl rfl rfl tyA51.s) zU2 ?_
  refine aC (aA (aE (aF (aB (bE (off:=0) (k:=1) rfl tyF118_1) zU1 ?_))))
  refine aB (bK 1 1 rfl rfl rfl rfl (.one tyO3)) zU1 ?_
  refine aC (aA (bR (aE (aF (aB (gR rfl) ⟨rfl,bI _ _,trivial⟩ ?_)))))
  refine bH ?_
  refine aC (aA (bS rfl (fun h61=>?_) (fun h61=>?_)))
  ·have hF:=aV h61 hF
   refine aF (aI ?_)
   refine aI ?_
   refine aB (bE (off:=0) (k:=8) rfl tyF51_5) zU1 ?_
   refine aB (bK 0 1 rfl rfl rfl rfl (.one tyO49)) zU1 ?_
   refine aI ?_
   obtain⟨v62,h63,hF⟩:=aP hF
   refine aB (aJ rfl (kP h63) rfl) zU2 ?_
   obtain⟨v64,h65,hF⟩:=aP hF
   refine t8 (f:=159) (cs:=[pP (some p0) 0,pM (cI.e a1)]) (pre:=[.vc (pI .i64 x39),.va (eQ v62)]) (xs:=[.tmp 27,.tmp 31]) 6 [2,5] [0,1,3,4] rfl (pQ h65 q31 q36 q37 q38) ⟨rfl,rfl,rfl,trivial⟩ rfl rfl rfl (by decide) ?_
   rintro _ _ ⟨b70,c71,n69,g68,N74,q72,q75,q76,q77,rfl,rfl⟩
   refine sE (pY [⟨some p0,1,62,1,1,[pO b70 n69 c71]⟩,hO (cH g68) b70 c71 24 n69 v64.1] (jC cQ 44 g68 v64.2) [⟨some b60,1,51,18,1,(aH.enc v58)⟩,⟨some b57,1,118,2,1,(aK.enc v55)⟩,⟨some p1,1,114,1,1,[pS aK.cod a2]⟩,⟨some p2,1,113,4,1,(aQ.enc a3)⟩]) ?_
   refine aC (bJ (bJ (aA (aF ?_))))
   obtain⟨v79,h80,hF⟩:=aP hF
   refine aB (bO rfl h80) ⟨rfl,bI _ _,trivial⟩ ?_
   refine aI ?_
   refine aC ?_
   exact bL (fun a w hh=>⟨v64.1,v64.2,v79,b70,c71,n69,g68,N74,hF,q72,q75,q76,q77,dM 6 [0,4,5,1] rfl rfl (by decide) (by exact⟨rfl,rfl,rfl,rfl,rfl,rfl,trivial⟩) hh⟩)
  have hF:=aX h61 hF
  refine aE (aF (aB (gR rfl) ⟨rfl,bI _ _,trivial⟩ ?_))
  refine bH ?_
  refine aC (aA (bS rfl (fun h81=>?_) (fun h81=>?_)))
  ·have hF:=aV h81 hF
   refine aF (aI ?_)
   refine aI ?_
   refine aB (bE (off:=0) (k:=9) rfl tyF51_6) zU1 ?_
   refine aB (bK 0 1 rfl rfl rfl rfl (.one tyO49)) zU1 ?_
   refine aI ?_
   obtain⟨v82,h83,hF⟩:=aP hF
   refine aB (aJ rfl (kP h83) rfl) zU2 ?_
   obtain⟨v84,h85,hF⟩:=aP hF
   refine t8 (f:=159) (cs:=[pP (some p0) 0,pM (cI.e a1)]) (pre:=[.vc (pI .i64 x39),.va (eQ v82)]) (xs:=[.tmp 36,.tmp 40]) 6 [2,5] [0,1,3,4] rfl (pQ h85 q31 q36 q37 q38) ⟨rfl,rfl,rfl,trivial⟩ rfl rfl rfl (by decide) ?_
   rintro _ _ ⟨b90,c91,n89,g88,N94,q92,q95,q96,q97,rfl,rfl⟩
   refine sE (pY [⟨some p0,1,62,1,1,[pO b90 n89 c91]⟩,hO (cH g88) b90 c91 24 n89 v84.1] (jC cQ 44 g88 v84.2) [⟨some b60,1,51,18,1,(aH.enc v58)⟩,⟨some b57,1,118,2,1,(aK.enc v55)⟩,⟨some p1,1,114,1,1,[pS aK.cod a2]⟩,⟨some p2,1,113,4,1,(aQ.enc a3)⟩]) ?_
   refine aC (bJ (bJ (aA (aF ?_))))
   obtain⟨v99,h100,hF⟩:=aP hF
   refine aB (bO rfl h100) ⟨rfl,bI _ _,trivial⟩ ?_
   refine aI ?_
   refine aC ?_
   exact bL (fun a w hh=>⟨v84.1,v84.2,v99,b90,c91,n89,g88,N94,hF,q92,q95,q96,q97,dM 6 [0,4,5,1] rfl rfl (by decide) (by exact⟨rfl,rfl,rfl,rfl,rfl,rfl,trivial⟩) hh⟩)
  have hF:=aX h81 hF
  refine aE (aF (aB (gR rfl) ⟨rfl,bI _ _,trivial⟩ ?_))
  refine bH ?_
  refine aC (aA (bS rfl (fun h101=>?_) (fun h101=>?_)))
  ·have hF:=aV h101 hF
   refine aF (aI ?_)
   refine aI ?_
   refine aB (bE (off:=0) (k:=9) rfl tyF51_6) zU1 ?_
   refine aB (bK 0 1 rfl rfl rfl rfl (.one tyO49)) zU1 ?_
   refine aI ?_
   obtain⟨v102,h103,hF⟩:=aP hF
   refine aB (aJ rfl (kP h103) rfl) zU2 ?_
   obtain⟨v104,h105,hF⟩:=aP hF
   refine aB (aJ rfl (qM h105) rfl) zU1 ?_
   obtain⟨v106,h107,hF⟩:=aP hF
   refine t8 (f:=159) (cs:=[pP (some p0) 0,pM (cI.e a1)]) (pre:=[.vc (pI .i64 x39),.va (eQ v104)]) (xs:=[.tmp 45,.tmp 50]) 6 [2,5] [0,1,3,4] rfl (pQ h107 q31 q36 q37 q38) ⟨rfl,rfl,rfl,trivial⟩ rfl rfl rfl (by decide) ?_
   rintro _ _ ⟨b112,c113,n111,g110,N116,q114,q117,q118,q119,rfl,rfl⟩
   refine sE (pY [⟨some p0,1,62,1,1,[pO b112 n111 c113]⟩,hO (cH g110) b112 c113 24 n111 v106.1] (jC cQ 44 g110 v106.2) [⟨some b60,1,51,18,1,(aH.enc v58)⟩,⟨some b57,1,118,2,1,(aK.enc v55)⟩,⟨some p1,1,114,1,1,[pS aK.cod a2]⟩,⟨some p2,1,113,4,1,(aQ.enc a3)⟩]) ?_
   refine aC (bJ (bJ (aA (aF ?_))))
   obtain⟨v121,h122,hF⟩:=aP hF
   refine aB (bO rfl h122) ⟨rfl,bI _ _,trivial⟩ ?_
   refine aI ?_
   refine aC ?_
   exact bL (fun a w hh=>⟨v106.1,v106.2,v121,b112,c113,n111,g110,N116,hF,q114,q117,q118,q119,dM 6 [0,4,5,1] rfl rfl (by decide) (by exact⟨rfl,rfl,rfl,rfl,rfl,rfl,trivial⟩) hh⟩)
  have hF:=aX h101 hF
  refine bA (bJ (bJ (aA (aF ?_))))
  obtain⟨v123,h124,hF⟩:=aP hF
  refine aB (bO rfl h124) ⟨rfl,bI _ _,trivial⟩ ?_
  refine aI ?_
  refine aC ?_
  exact bL (fun a w hh=>⟨x27,x33,v123,b28,c29,n30,g34,N35,hF,q31,q36,q37,q38,dM 6 [2,3,4,5] rfl rfl (by decide) (by exact⟨rfl,rfl,rfl,rfl,rfl,rfl,trivial⟩) hh⟩)
 have hF:=aX h54 hF
 refine dI ?_
 obtain⟨rfl,rfl⟩:=sm2 hF
 exact o7 Jj53 ⟨x27,x33,b28,c29,n30,g34,N35,hRl52,q31,q36,q37,q38,rfl,rfl⟩ 4 [0,1,2,3] rfl rfl trivial
def lQ (K:Nat) (v98:List Rat) (x134:List Nat) (x140:List (List Rat)):Option ((List (List Rat))×(List Rat)):=
 some ((aFC x140 x134),v98)
def eI (K:Nat) (a0:aQ) (v2:List aK) (x121:List Nat) (x127:List (List Rat)) (x133:Int) (v152:aK) (v164:aH) (recl146:(List Nat)→(List (List Rat))→Int→Option ((List Nat)×(List (List Rat)))) (x174:List aO):Option ((List Nat)×(List (List Rat))):=
 (bW (x133+3)).bind fun v183=>bif(decide (v183<(v2.length:Int))) then((bW (x133+3)).bind fun v186=>(dC v2 v186).bind fun v188=>bif(v188.row==v152.row&&v188.kind==3) then((bW (x133+3)).bind fun v193=>(dC x121 v193).bind fun v195=>(dC (x127.getD v195 []) x133).bind fun v197=>(qC (x127.getD v195 []) x133 v164.mu).bind fun x199=>(vK (a0.dofs.length:Int) 0).bind fun x204=>(cD K a0 x204 x174).bind fun v206=>(dG K v206 x133 v2 a0 x121 (x127.set v195 x199)).bind fun v208=>(bW (x133+1)).bind fun v221=>recl146 v208.1 v208.2 v221) else((vK (a0.dofs.length:Int) 0).bind fun x225=>(cD K a0 x225 x174).bind fun v227=>(dG K v227 x133 v2 a0 x121 x127).bind fun v229=>(bW (x133+1)).bind fun v242=>recl146 v229.1 v229.2 v242)) else((vK (a0.dofs.length:Int) 0).bind fun x246=>(cD K a0 x246 x174).bind fun v248=>(dG K v248 x133 v2 a0 x121 x127).bind fun v250=>(bW (x133+1)).bind fun v263=>recl146 v250.1 v250.2 v263)
def bZ (K:Nat) (a0:aQ) (v2:List aK) (x91:List aO) (v105:Rat):Nat→(List Nat)→(List (List Rat))→Int→Option ((List Nat)×(List (List Rat)))
 |0,_,_,_=>none
 |k+1,x121,x127,x133=>bif(decide (x133<(v2.length:Int))) then((dC v2 x133).bind fun v152=>(nV x91).bind fun v156=>(dC a0.rows v152.row).bind fun v164=>bif(v152.kind==0) then((dC v156 v152.row).bind fun v168=>(qC v156 v152.row (⟨v105,v168.f⟩:aO)).bind fun x170=>bif(decide (0<(v164.t.length:Int))) then((kM K a0 v164 v105).bind fun v268=>(dC x170 v152.row).bind fun v270=>(qC x170 v152.row (⟨v270.n,v268⟩:aO)).bind fun x272=>eI K a0 v2 x121 x127 x133 v152 v164 (bZ K a0 v2 x91 v105 k) x272) else(eI K a0 v2 x121 x127 x133 v152 v164 (bZ K a0 v2 x91 v105 k) x170)) else(bif(v152.kind==1) then((dC v156 v152.row).bind fun v276=>(qC v156 v152.row (⟨v276.n,v105⟩:aO)).bind fun x278=>(bW (x133+3)).bind fun v283=>(bW (v283-1)).bind fun v285=>(dC x121 v285).bind fun v287=>(aBw v105).bind fun v289=>(dC (x127.getD v287 []) x133).bind fun v291=>(qC (x127.getD v287 []) x133 v289).bind fun x293=>(vK (a0.dofs.length:Int) 0).bind fun x298=>(cD K a0 x298 x278).bind fun v300=>(dG K v300 x133 v2 a0 x121 (x127.set v287 x293)).bind fun v302=>(bW (x133+1)).bind fun v315=>bZ K a0 v2 x91 v105 k v302.1 v302.2 v315) else(bif(v152.kind==2) then((aBw v105).bind fun v320=>(dC v156 v152.row).bind fun v322=>(qC v156 v152.row (⟨v322.n,v320⟩:aO)).bind fun x324=>(bW (x133+3)).bind fun v329=>(bW (v329-2)).bind fun v331=>(dC x121 v331).bind fun v333=>(aBw v105).bind fun v335=>(dC (x127.getD v333 []) x133).bind fun v337=>(qC (x127.getD v333 []) x133 v335).bind fun x339=>(vK (a0.dofs.length:Int) 0).bind fun x344=>(cD K a0 x344 x324).bind fun v346=>(dG K v346 x133 v2 a0 x121 (x127.set v333 x339)).bind fun v348=>(bW (x133+1)).bind fun v361=>bZ K a0 v2 x91 v105 k v348.1 v348.2 v361) else(bif(v152.kind==3) then((bW (x133+1)).bind fun v366=>(bW (v366-3)).bind fun v368=>(dC x121 v368).bind fun v370=>(bW (x133+2)).bind fun v372=>(bW (v372-3)).bind fun v374=>(dC x121 v374).bind fun v376=>(dC (x127.getD v370 []) x133).bind fun v378=>(qC (x127.getD v370 []) x133 v105).bind fun x380=>(dC ((x127.set v370 x380).getD v376 []) x133).bind fun v383=>(qC ((x127.set v370 x380).getD v376 []) x133 v105).bind fun x386=>(bW (x133+1)).bind fun v389=>bZ K a0 v2 x91 v105 k x121 ((x127.set v370 x380).set v376 x386) v389) else((vK (a0.dofs.length:Int) 0).bind fun x393=>(cD K a0 x393 v156).bind fun v395=>(dG K v395 x133 v2 a0 x121 x127).bind fun v397=>(bW (x133+1)).bind fun v410=>bZ K a0 v2 x91 v105 k v397.1 v397.2 v410))))) else(some (x121,x127))
def mD (K:Nat) (a0:aQ) (v2:List aK) (x13:List Rat) (x77:List Nat) (x83:List (List Rat)):Option ((List (List Rat))×(List Rat)):=
 (vK (a0.rows.length:Int) (⟨0,0⟩:aO)).bind fun x91=>(cD K a0 a0.load x91).bind fun v96=>(lK K v96 v2 a0 x13).bind fun v98=>(y5 1 1).bind fun v105=>(bZ K a0 v2 x91 v105 K x77 x83 0).bind fun(x134,x140)=>lQ K v98 x134 x140
def fR (K:Nat) (v2:List aK) (x10:List Nat):Nat→(List Nat)→(List (List Rat))→Int→Option ((List Nat)×(List (List Rat)))
 |0,_,_,_=>none
 |k+1,x64,x70,x76=>bif(decide (x76<(x10.length:Int))) then((vK (v2.length:Int) 0).bind fun x415=>(dC x64 x76).bind fun v419=>(qC x64 x76 x70.length).bind fun x423=>(bW (x76+1)).bind fun v427=>fR K v2 x10 k x423 (x70++[x415]) v427) else(some (x64,x70))
def kL (K:Nat) (a0:aQ):Option ((List (List Rat))×(List Rat)):=
 (jS K a0).bind fun v2=>(vK (v2.length:Int) (0:Nat)).bind fun x10=>(vK (v2.length:Int) 0).bind fun x13=>(fR K v2 x10 K x10 [([]:List Rat)] 0).bind fun(x77,x83)=>mD K a0 v2 x13 x77 x83
theorem uC {K:Nat} {a0:aQ} {r:(List (List Rat))×(List Rat)} (hF:kL K a0=some r):Ct Tryz.prog 71 [.va (aQ.enc a0)] (.t2 (.vc (pS (rC cQ) r.1)) (.vc (pS cQ r.2))):=by
 unfold kL at hF
 refine bD Tryz.func71 rfl (by kernel_rfl) Tryz.ntmps71 rfl (fun w0 M0=>?_)
 refine aE (aF (cY rfl rfl trivial (fun b1=>?_)))
 refine aB (aN (.inr rfl)) ⟨dX (rC cQ),trivial⟩ ?_
 refine aB (aN (.inr rfl)) ⟨dX cQ,trivial⟩ ?_
 refine aC (aA (aE (aF (aB (bK 0 4 rfl rfl rfl rfl (.agg tyA113)) zU1 ?_))))
 obtain⟨v2,h3,hF⟩:=aP hF
 refine aB (aJ rfl (t5 h3) rfl) zU1 ?_
 refine bP rfl tyZ114q (fun b4=>?_)
 refine bG (dO 0 rfl rfl rfl tyO114.s) zU2 ?_
 refine aC (aA (aE (aF (aB (aEy (xs:=[.tmp 4,.tmp 1]) (cs:=[pP (some b4) 0,pP (some b1) 0]) rfl rfl) zU2 ?_))))
 refine bH ?_
 refine aC (aA (aE (aJR cQ 44 ?_)))
 obtain⟨x10,h11,hF⟩:=aP hF
 obtain⟨x13,h14,hF⟩:=aP hF
 refine nJ (HsM [(0,fun G7=>([⟨some b4,1,114,1,1,[pS aK.cod v2]⟩,⟨some b1,1,113,4,1,(aQ.enc a0)⟩]++jC cQ 44 [(none,0,0)] [([]:List Rat)])),(1,fun G7=>([hO (cH [(none,0,0)]) ((G7 2).1) x10.length 24 x10.length x10,⟨some b4,1,114,1,1,[pS aK.cod v2]⟩,⟨some b1,1,113,4,1,(aQ.enc a0)⟩]++jC cQ 44 [(none,0,0)] [([]:List Rat)])),(2,fun G7=>([hO cQ ((G7 5).1) x13.length 44 x13.length x13,⟨some b4,1,114,1,1,[pS aK.cod v2]⟩,⟨some b1,1,113,4,1,(aQ.enc a0)⟩]++jC cQ 44 [(none,0,0)] [([]:List Rat)])),(3,fun G7=>([hO cQ ((G7 5).1) x13.length 44 x13.length x13,hO (cH [(none,0,0)]) ((G7 2).1) x10.length 24 x10.length x10,⟨some b4,1,114,1,1,[pS aK.cod v2]⟩,⟨some b1,1,113,4,1,(aQ.enc a0)⟩]++jC cQ 44 [(none,0,0)] [([]:List Rat)])),(4,fun G7=>([⟨some ((G7 6).1.getD 0),1,62,1,1,[pS (rC cQ) ([]:List (List Rat))]⟩,⟨some b4,1,114,1,1,[pS aK.cod v2]⟩,⟨some b1,1,113,4,1,(aQ.enc a0)⟩]++jC cQ 44 [(none,0,0)] [([]:List Rat)])),(5,fun G7=>([⟨some ((G7 6).1.getD 0),1,62,1,1,[pS (rC cQ) ([]:List (List Rat))]⟩,hO (cH [(none,0,0)]) ((G7 2).1) x10.length 24 x10.length x10,⟨some b4,1,114,1,1,[pS aK.cod v2]⟩,⟨some b1,1,113,4,1,(aQ.enc a0)⟩]++jC cQ 44 [(none,0,0)] [([]:List Rat)])),(6,fun G7=>([⟨some ((G7 6).1.getD 0),1,62,1,1,[pS (rC cQ) ([]:List (List Rat))]⟩,hO cQ ((G7 5).1) x13.length 44 x13.length x13,⟨some b4,1,114,1,1,[pS aK.cod v2]⟩,⟨some b1,1,113,4,1,(aQ.enc a0)⟩]++jC cQ 44 [(none,0,0)] [([]:List Rat)])),(7,fun G7=>([⟨some ((G7 6).1.getD 0),1,62,1,1,[pS (rC cQ) ([]:List (List Rat))]⟩,hO cQ ((G7 5).1) x13.length 44 x13.length x13,hO (cH [(none,0,0)]) ((G7 2).1) x10.length 24 x10.length x10,⟨some b4,1,114,1,1,[pS aK.cod v2]⟩,⟨some b1,1,113,4,1,(aQ.enc a0)⟩]++jC cQ 44 [(none,0,0)] [([]:List Rat)])),(8,fun G7=>([⟨some ((G7 7).1.getD 0),1,24,1,1,[pS cQ ([]:List Rat)]⟩,⟨some b4,1,114,1,1,[pS aK.cod v2]⟩,⟨some b1,1,113,4,1,(aQ.enc a0)⟩]++jC cQ 44 [(none,0,0)] [([]:List Rat)])),(9,fun G7=>([⟨some ((G7 7).1.getD 0),1,24,1,1,[pS cQ ([]:List Rat)]⟩,hO (cH [(none,0,0)]) ((G7 2).1) x10.length 24 x10.length x10,⟨some b4,1,114,1,1,[pS aK.cod v2]⟩,⟨some b1,1,113,4,1,(aQ.enc a0)⟩]++jC cQ 44 [(none,0,0)] [([]:List Rat)])),(10,fun G7=>([⟨some ((G7 7).1.getD 0),1,24,1,1,[pS cQ ([]:List Rat)]⟩,hO cQ ((G7 5).1) x13.length 44 x13.length x13,⟨some b4,1,114,1,1,[pS aK.cod v2]⟩,⟨some b1,1,113,4,1,(aQ.enc a0)⟩]++jC cQ 44 [(none,0,0)] [([]:List Rat)])),(11,fun G7=>([⟨some ((G7 7).1.getD 0),1,24,1,1,[pS cQ ([]:List Rat)]⟩,hO cQ ((G7 5).1) x13.length 44 x13.length x13,hO (cH [(none,0,0)]) ((G7 2).1) x10.length 24 x10.length x10,⟨some b4,1,114,1,1,[pS aK.cod v2]⟩,⟨some b1,1,113,4,1,(aQ.enc a0)⟩]++jC cQ 44 [(none,0,0)] [([]:List Rat)])),(12,fun G7=>([⟨some ((G7 7).1.getD 0),1,24,1,1,[pS cQ ([]:List Rat)]⟩,⟨some ((G7 6).1.getD 0),1,62,1,1,[pS (rC cQ) ([]:List (List Rat))]⟩,⟨some b4,1,114,1,1,[pS aK.cod v2]⟩,⟨some b1,1,113,4,1,(aQ.enc a0)⟩]++jC cQ 44 [(none,0,0)] [([]:List Rat)])),(13,fun G7=>([⟨some ((G7 7).1.getD 0),1,24,1,1,[pS cQ ([]:List Rat)]⟩,⟨some ((G7 6).1.getD 0),1,62,1,1,[pS (rC cQ) ([]:List (List Rat))]⟩,hO (cH [(none,0,0)]) ((G7 2).1) x10.length 24 x10.length x10,⟨some b4,1,114,1,1,[pS aK.cod v2]⟩,⟨some b1,1,113,4,1,(aQ.enc a0)⟩]++jC cQ 44 [(none,0,0)] [([]:List Rat)])),(14,fun G7=>([⟨some ((G7 7).1.getD 0),1,24,1,1,[pS cQ ([]:List Rat)]⟩,⟨some ((G7 6).1.getD 0),1,62,1,1,[pS (rC cQ) ([]:List (List Rat))]⟩,hO cQ ((G7 5).1) x13.length 44 x13.length x13,⟨some b4,1,114,1,1,[pS aK.cod v2]⟩,⟨some b1,1,113,4,1,(aQ.enc a0)⟩]++jC cQ 44 [(none,0,0)] [([]:List Rat)])),(15,fun G7=>([⟨some ((G7 7).1.getD 0),1,24,1,1,[pS cQ ([]:List Rat)]⟩,⟨some ((G7 6).1.getD 0),1,62,1,1,[pS (rC cQ) ([]:List (List Rat))]⟩,hO cQ ((G7 5).1) x13.length 44 x13.length x13,hO (cH [(none,0,0)]) ((G7 2).1) x10.length 24 x10.length x10,⟨some b4,1,114,1,1,[pS aK.cod v2]⟩,⟨some b1,1,113,4,1,(aQ.enc a0)⟩]++jC cQ 44 [(none,0,0)] [([]:List Rat)])),(29,fun G7=>([⟨some ((G7 7).1.getD 0),1,24,1,1,[pS cQ ([]:List Rat)]⟩,⟨some ((G7 6).1.getD 0),1,62,1,1,[pO ((G7 2).1) x10.length x10.length]⟩,hO (cH [(none,0,0)]) ((G7 2).1) x10.length 24 x10.length x10,⟨some b4,1,114,1,1,[pS aK.cod v2]⟩,⟨some b1,1,113,4,1,(aQ.enc a0)⟩]++jC cQ 44 [(none,0,0)] [([]:List Rat)])),(31,fun G7=>([⟨some ((G7 7).1.getD 0),1,24,1,1,[pS cQ ([]:List Rat)]⟩,⟨some ((G7 6).1.getD 0),1,62,1,1,[pO ((G7 2).1) x10.length x10.length]⟩,hO cQ ((G7 5).1) x13.length 44 x13.length x13,hO (cH [(none,0,0)]) ((G7 2).1) x10.length 24 x10.length x10,⟨some b4,1,114,1,1,[pS aK.cod v2]⟩,⟨some b1,1,113,4,1,(aQ.enc a0)⟩]++jC cQ 44 [(none,0,0)] [([]:List Rat)]))]) [2,5,6,7,8] [0,1,3,0,8,24,0,0,199,511] 9 1 [.v (.vc (pS aK.cod v2)),.v (.vc (pI .i64 (v2.length:Int))),.g (fun b _=>.vc (pO b x10.length x10.length)),.v (.vc (pS aK.cod v2)),.v (.vc (pI .i64 (v2.length:Int))),.g (fun b _=>.vc (pO b x13.length x13.length)),.g (fun b _=>.vc (pP (some (b.getD 0)) 0)),.g (fun b _=>.vc (pP (some (b.getD 0)) 0)),.g (fun _ _=>.any)] aU ⟨⟨rfl,.run (L:=[0,2,4,6,8,10,12,14]) ⟨fun G7 A=>bK 0 1 rfl rfl rfl rfl (.one tyO114),fun G7 A=>bK 1 1 rfl rfl rfl rfl (.one tyO114),fun G7 A=>bK 1 1 rfl rfl rfl rfl (.one tyO114),fun G7 A=>bK 2 1 rfl rfl rfl rfl (.one tyO114),fun G7 A=>bK 1 1 rfl rfl rfl rfl (.one tyO114),fun G7 A=>bK 2 1 rfl rfl rfl rfl (.one tyO114),fun G7 A=>bK 2 1 rfl rfl rfl rfl (.one tyO114),fun G7 A=>bK 3 1 rfl rfl rfl rfl (.one tyO114),trivial⟩ (fun G7=>zU1)⟩,⟨rfl,.run (L:=[0,2,4,6,8,10,12,14]) ⟨fun G7 A=>bX rfl tyS114,fun G7 A=>bX rfl tyS114,fun G7 A=>bX rfl tyS114,fun G7 A=>bX rfl tyS114,fun G7 A=>bX rfl tyS114,fun G7 A=>bX rfl tyS114,fun G7 A=>bX rfl tyS114,fun G7 A=>bX rfl tyS114,trivial⟩ (fun G7=>zU1)⟩,⟨rfl,.hvy [0,2,4,6,8,10,12,14] ⟨fun G7 A=>iZ (C:=cH [(none,0,0)]) (z:=0) rfl tyS62 rfl tyZ24_oq h11,fun G7 A=>rK (R:=jC cQ 44 [(none,0,0)] [([]:List Rat)]) [1,0,2,3] (iZ (C:=cH [(none,0,0)]) (z:=0) rfl tyS62 rfl tyZ24_oq h11) (fun b_ c_=>⟨[hO (cH [(none,0,0)]) (b_) x10.length 24 x10.length x10,hO cQ ((G7 5).1) x13.length 44 x13.length x13,⟨some b4,1,114,1,1,[pS aK.cod v2]⟩,⟨some b1,1,113,4,1,(aQ.enc a0)⟩],_,rfl,rfl,rfl⟩),fun G7 A=>rK (R:=jC cQ 44 [(none,0,0)] [([]:List Rat)]) [1,0,2,3] (iZ (C:=cH [(none,0,0)]) (z:=0) rfl tyS62 rfl tyZ24_oq h11) (fun b_ c_=>⟨[hO (cH [(none,0,0)]) (b_) x10.length 24 x10.length x10,⟨some ((G7 6).1.getD 0),1,62,1,1,[pS (rC cQ) ([]:List (List Rat))]⟩,⟨some b4,1,114,1,1,[pS aK.cod v2]⟩,⟨some b1,1,113,4,1,(aQ.enc a0)⟩],_,rfl,rfl,rfl⟩),fun G7 A=>rK (R:=jC cQ 44 [(none,0,0)] [([]:List Rat)]) [1,2,0,3,4] (iZ (C:=cH [(none,0,0)]) (z:=0) rfl tyS62 rfl tyZ24_oq h11) (fun b_ c_=>⟨[hO (cH [(none,0,0)]) (b_) x10.length 24 x10.length x10,⟨some ((G7 6).1.getD 0),1,62,1,1,[pS (rC cQ) ([]:List (List Rat))]⟩,hO cQ ((G7 5).1) x13.length 44 x13.length x13,⟨some b4,1,114,1,1,[pS aK.cod v2]⟩,⟨some b1,1,113,4,1,(aQ.enc a0)⟩],_,rfl,rfl,rfl⟩),fun G7 A=>rK (R:=jC cQ 44 [(none,0,0)] [([]:List Rat)]) [1,0,2,3] (iZ (C:=cH [(none,0,0)]) (z:=0) rfl tyS62 rfl tyZ24_oq h11) (fun b_ c_=>⟨[hO (cH [(none,0,0)]) (b_) x10.length 24 x10.length x10,⟨some ((G7 7).1.getD 0),1,24,1,1,[pS cQ ([]:List Rat)]⟩,⟨some b4,1,114,1,1,[pS aK.cod v2]⟩,⟨some b1,1,113,4,1,(aQ.enc a0)⟩],_,rfl,rfl,rfl⟩),fun G7 A=>rK (R:=jC cQ 44 [(none,0,0)] [([]:List Rat)]) [1,2,0,3,4] (iZ (C:=cH [(none,0,0)]) (z:=0) rfl tyS62 rfl tyZ24_oq h11) (fun b_ c_=>⟨[hO (cH [(none,0,0)]) (b_) x10.length 24 x10.length x10,⟨some ((G7 7).1.getD 0),1,24,1,1,[pS cQ ([]:List Rat)]⟩,hO cQ ((G7 5).1) x13.length 44 x13.length x13,⟨some b4,1,114,1,1,[pS aK.cod v2]⟩,⟨some b1,1,113,4,1,(aQ.enc a0)⟩],_,rfl,rfl,rfl⟩),fun G7 A=>rK (R:=jC cQ 44 [(none,0,0)] [([]:List Rat)]) [1,2,0,3,4] (iZ (C:=cH [(none,0,0)]) (z:=0) rfl tyS62 rfl tyZ24_oq h11) (fun b_ c_=>⟨[hO (cH [(none,0,0)]) (b_) x10.length 24 x10.length x10,⟨some ((G7 7).1.getD 0),1,24,1,1,[pS cQ ([]:List Rat)]⟩,⟨some ((G7 6).1.getD 0),1,62,1,1,[pS (rC cQ) ([]:List (List Rat))]⟩,⟨some b4,1,114,1,1,[pS aK.cod v2]⟩,⟨some b1,1,113,4,1,(aQ.enc a0)⟩],_,rfl,rfl,rfl⟩),fun G7 A=>rK (R:=jC cQ 44 [(none,0,0)] [([]:List Rat)]) [1,2,3,0,4,5] (iZ (C:=cH [(none,0,0)]) (z:=0) rfl tyS62 rfl tyZ24_oq h11) (fun b_ c_=>⟨[hO (cH [(none,0,0)]) (b_) x10.length 24 x10.length x10,⟨some ((G7 7).1.getD 0),1,24,1,1,[pS cQ ([]:List Rat)]⟩,⟨some ((G7 6).1.getD 0),1,62,1,1,[pS (rC cQ) ([]:List (List Rat))]⟩,hO cQ ((G7 5).1) x13.length 44 x13.length x13,⟨some b4,1,114,1,1,[pS aK.cod v2]⟩,⟨some b1,1,113,4,1,(aQ.enc a0)⟩],_,rfl,rfl,rfl⟩),trivial⟩ (fun G7=>zU1)⟩,⟨rfl,.run (L:=[0,1,4,5,8,9,12,13,29]) ⟨fun G7 A=>bK 0 1 rfl rfl rfl rfl (.one tyO114),fun G7 A=>bK 1 1 rfl rfl rfl rfl (.one tyO114),fun G7 A=>bK 1 1 rfl rfl rfl rfl (.one tyO114),fun G7 A=>bK 2 1 rfl rfl rfl rfl (.one tyO114),fun G7 A=>bK 1 1 rfl rfl rfl rfl (.one tyO114),fun G7 A=>bK 2 1 rfl rfl rfl rfl (.one tyO114),fun G7 A=>bK 2 1 rfl rfl rfl rfl (.one tyO114),fun G7 A=>bK 3 1 rfl rfl rfl rfl (.one tyO114),fun G7 A=>bK 3 1 rfl rfl rfl rfl (.one tyO114),trivial⟩ (fun G7=>zU1)⟩,⟨rfl,.run (L:=[0,1,4,5,8,9,12,13,29]) ⟨fun G7 A=>bX rfl tyS114,fun G7 A=>bX rfl tyS114,fun G7 A=>bX rfl tyS114,fun G7 A=>bX rfl tyS114,fun G7 A=>bX rfl tyS114,fun G7 A=>bX rfl tyS114,fun G7 A=>bX rfl tyS114,fun G7 A=>bX rfl tyS114,fun G7 A=>bX rfl tyS114,trivial⟩ (fun G7=>zU1)⟩,⟨rfl,.hvy [0,1,4,5,8,9,12,13,29] ⟨fun G7 A=>iZ (C:=cQ) rfl tyS24 rfl tyZ44q h14,fun G7 A=>iZ (C:=cQ) rfl tyS24 rfl tyZ44q h14,fun G7 A=>rK (R:=jC cQ 44 [(none,0,0)] [([]:List Rat)]) [1,0,2,3] (iZ (C:=cQ) rfl tyS24 rfl tyZ44q h14) (fun b_ c_=>⟨[hO cQ (b_) x13.length 44 x13.length x13,⟨some ((G7 6).1.getD 0),1,62,1,1,[pS (rC cQ) ([]:List (List Rat))]⟩,⟨some b4,1,114,1,1,[pS aK.cod v2]⟩,⟨some b1,1,113,4,1,(aQ.enc a0)⟩],_,rfl,rfl,rfl⟩),fun G7 A=>rK (R:=jC cQ 44 [(none,0,0)] [([]:List Rat)]) [1,0,2,3,4] (iZ (C:=cQ) rfl tyS24 rfl tyZ44q h14) (fun b_ c_=>⟨[hO cQ (b_) x13.length 44 x13.length x13,⟨some ((G7 6).1.getD 0),1,62,1,1,[pS (rC cQ) ([]:List (List Rat))]⟩,hO (cH [(none,0,0)]) ((G7 2).1) x10.length 24 x10.length x10,⟨some b4,1,114,1,1,[pS aK.cod v2]⟩,⟨some b1,1,113,4,1,(aQ.enc a0)⟩],_,rfl,rfl,rfl⟩),fun G7 A=>rK (R:=jC cQ 44 [(none,0,0)] [([]:List Rat)]) [1,0,2,3] (iZ (C:=cQ) rfl tyS24 rfl tyZ44q h14) (fun b_ c_=>⟨[hO cQ (b_) x13.length 44 x13.length x13,⟨some ((G7 7).1.getD 0),1,24,1,1,[pS cQ ([]:List Rat)]⟩,⟨some b4,1,114,1,1,[pS aK.cod v2]⟩,⟨some b1,1,113,4,1,(aQ.enc a0)⟩],_,rfl,rfl,rfl⟩),fun G7 A=>rK (R:=jC cQ 44 [(none,0,0)] [([]:List Rat)]) [1,0,2,3,4] (iZ (C:=cQ) rfl tyS24 rfl tyZ44q h14) (fun b_ c_=>⟨[hO cQ (b_) x13.length 44 x13.length x13,⟨some ((G7 7).1.getD 0),1,24,1,1,[pS cQ ([]:List Rat)]⟩,hO (cH [(none,0,0)]) ((G7 2).1) x10.length 24 x10.length x10,⟨some b4,1,114,1,1,[pS aK.cod v2]⟩,⟨some b1,1,113,4,1,(aQ.enc a0)⟩],_,rfl,rfl,rfl⟩),fun G7 A=>rK (R:=jC cQ 44 [(none,0,0)] [([]:List Rat)]) [1,2,0,3,4] (iZ (C:=cQ) rfl tyS24 rfl tyZ44q h14) (fun b_ c_=>⟨[hO cQ (b_) x13.length 44 x13.length x13,⟨some ((G7 7).1.getD 0),1,24,1,1,[pS cQ ([]:List Rat)]⟩,⟨some ((G7 6).1.getD 0),1,62,1,1,[pS (rC cQ) ([]:List (List Rat))]⟩,⟨some b4,1,114,1,1,[pS aK.cod v2]⟩,⟨some b1,1,113,4,1,(aQ.enc a0)⟩],_,rfl,rfl,rfl⟩),fun G7 A=>rK (R:=jC cQ 44 [(none,0,0)] [([]:List Rat)]) [1,2,0,3,4,5] (iZ (C:=cQ) rfl tyS24 rfl tyZ44q h14) (fun b_ c_=>⟨[hO cQ (b_) x13.length 44 x13.length x13,⟨some ((G7 7).1.getD 0),1,24,1,1,[pS cQ ([]:List Rat)]⟩,⟨some ((G7 6).1.getD 0),1,62,1,1,[pS (rC cQ) ([]:List (List Rat))]⟩,hO (cH [(none,0,0)]) ((G7 2).1) x10.length 24 x10.length x10,⟨some b4,1,114,1,1,[pS aK.cod v2]⟩,⟨some b1,1,113,4,1,(aQ.enc a0)⟩],_,rfl,rfl,rfl⟩),fun G7 A=>rK (R:=jC cQ 44 [(none,0,0)] [([]:List Rat)]) [1,2,0,3,4,5] (iZ (C:=cQ) rfl tyS24 rfl tyZ44q h14) (fun b_ c_=>⟨[hO cQ (b_) x13.length 44 x13.length x13,⟨some ((G7 7).1.getD 0),1,24,1,1,[pS cQ ([]:List Rat)]⟩,⟨some ((G7 6).1.getD 0),1,62,1,1,[pO ((G7 2).1) x10.length x10.length]⟩,hO (cH [(none,0,0)]) ((G7 2).1) x10.length 24 x10.length x10,⟨some b4,1,114,1,1,[pS aK.cod v2]⟩,⟨some b1,1,113,4,1,(aQ.enc a0)⟩],_,rfl,rfl,rfl⟩),trivial⟩ (fun G7=>zU1)⟩,⟨rfl,.hvy (ins:=fun _=>[]) [0,1,2,3,8,9,10,11] ⟨fun G7 A=>nX (T:=62) (zs:=[pS (rC cQ) ([]:List (List Rat))]) rfl tyZ62q,fun G7 A=>nX (T:=62) (zs:=[pS (rC cQ) ([]:List (List Rat))]) rfl tyZ62q,fun G7 A=>nX (T:=62) (zs:=[pS (rC cQ) ([]:List (List Rat))]) rfl tyZ62q,fun G7 A=>nX (T:=62) (zs:=[pS (rC cQ) ([]:List (List Rat))]) rfl tyZ62q,fun G7 A=>rK (R:=jC cQ 44 [(none,0,0)] [([]:List Rat)]) [1,0,2,3] (nX (T:=62) (zs:=[pS (rC cQ) ([]:List (List Rat))]) rfl tyZ62q) (fun b_ c_=>⟨[⟨some (b_.getD 0),1,62,1,1,[pS (rC cQ) ([]:List (List Rat))]⟩,⟨some ((G7 7).1.getD 0),1,24,1,1,[pS cQ ([]:List Rat)]⟩,⟨some b4,1,114,1,1,[pS aK.cod v2]⟩,⟨some b1,1,113,4,1,(aQ.enc a0)⟩],_,rfl,rfl,rfl⟩),fun G7 A=>rK (R:=jC cQ 44 [(none,0,0)] [([]:List Rat)]) [1,0,2,3,4] (nX (T:=62) (zs:=[pS (rC cQ) ([]:List (List Rat))]) rfl tyZ62q) (fun b_ c_=>⟨[⟨some (b_.getD 0),1,62,1,1,[pS (rC cQ) ([]:List (List Rat))]⟩,⟨some ((G7 7).1.getD 0),1,24,1,1,[pS cQ ([]:List Rat)]⟩,hO (cH [(none,0,0)]) ((G7 2).1) x10.length 24 x10.length x10,⟨some b4,1,114,1,1,[pS aK.cod v2]⟩,⟨some b1,1,113,4,1,(aQ.enc a0)⟩],_,rfl,rfl,rfl⟩),fun G7 A=>rK (R:=jC cQ 44 [(none,0,0)] [([]:List Rat)]) [1,0,2,3,4] (nX (T:=62) (zs:=[pS (rC cQ) ([]:List (List Rat))]) rfl tyZ62q) (fun b_ c_=>⟨[⟨some (b_.getD 0),1,62,1,1,[pS (rC cQ) ([]:List (List Rat))]⟩,⟨some ((G7 7).1.getD 0),1,24,1,1,[pS cQ ([]:List Rat)]⟩,hO cQ ((G7 5).1) x13.length 44 x13.length x13,⟨some b4,1,114,1,1,[pS aK.cod v2]⟩,⟨some b1,1,113,4,1,(aQ.enc a0)⟩],_,rfl,rfl,rfl⟩),fun G7 A=>rK (R:=jC cQ 44 [(none,0,0)] [([]:List Rat)]) [1,0,2,3,4,5] (nX (T:=62) (zs:=[pS (rC cQ) ([]:List (List Rat))]) rfl tyZ62q) (fun b_ c_=>⟨[⟨some (b_.getD 0),1,62,1,1,[pS (rC cQ) ([]:List (List Rat))]⟩,⟨some ((G7 7).1.getD 0),1,24,1,1,[pS cQ ([]:List Rat)]⟩,hO cQ ((G7 5).1) x13.length 44 x13.length x13,hO (cH [(none,0,0)]) ((G7 2).1) x10.length 24 x10.length x10,⟨some b4,1,114,1,1,[pS aK.cod v2]⟩,⟨some b1,1,113,4,1,(aQ.enc a0)⟩],_,rfl,rfl,rfl⟩),trivial⟩ (fun G7=>trivial)⟩,⟨rfl,.hvy (ins:=fun _=>[]) [0,1,2,3,4,5,6,7] ⟨fun G7 A=>nX (T:=24) (zs:=[pS cQ ([]:List Rat)]) rfl tyZ24q,fun G7 A=>nX (T:=24) (zs:=[pS cQ ([]:List Rat)]) rfl tyZ24q,fun G7 A=>nX (T:=24) (zs:=[pS cQ ([]:List Rat)]) rfl tyZ24q,fun G7 A=>nX (T:=24) (zs:=[pS cQ ([]:List Rat)]) rfl tyZ24q,fun G7 A=>nX (T:=24) (zs:=[pS cQ ([]:List Rat)]) rfl tyZ24q,fun G7 A=>nX (T:=24) (zs:=[pS cQ ([]:List Rat)]) rfl tyZ24q,fun G7 A=>nX (T:=24) (zs:=[pS cQ ([]:List Rat)]) rfl tyZ24q,fun G7 A=>nX (T:=24) (zs:=[pS cQ ([]:List Rat)]) rfl tyZ24q,trivial⟩ (fun G7=>trivial)⟩,⟨rfl,.hvy [13,15] ⟨fun G7 A=>aLr (dO 1 rfl rfl rfl tyO62.s),fun G7 A=>aLr (dO 1 rfl rfl rfl tyO62.s),trivial⟩ (fun G7=>zU2)⟩,trivial⟩ (fun bs8 G7=>?_)
 refine bG (dO 0 rfl rfl rfl tyO24.s) zU2 ?_
 refine aC (aA (aE (aE (aF (aB (bK 1 1 rfl rfl rfl rfl (.one tyO62)) zU1 ?_)))))
 refine aB (aB1 (C:=(cH [(none,0,0)])) (xs:=x10) (T:=24) rfl tyS62 rfl) zU1 ?_
 refine aB (aN (.inl rfl)) ⟨bI _ _,trivial⟩ ?_
 refine aC (aA (bR (cJ (fun H E=>∃(x77:List Nat),∃(x83:List (List Rat)),∃(b78:Option Nat),∃(c79:Nat),∃(n80:Nat),∃(g84:List vB),∃(N85:Nat),mD K a0 v2 x13 x77 x83=some r∧x77.length=n80∧x83.length=N85∧l9 g84 x83∧(∀k∈x77,k<N85)∧H=([⟨some ((G7 7).1.getD 0),1,24,1,1,[pO ((G7 5).1) x13.length x13.length]⟩,⟨some ((G7 6).1.getD 0),1,62,1,1,[pO b78 n80 c79]⟩,hO cQ ((G7 5).1) x13.length 44 x13.length x13,hO (cH g84) b78 c79 24 n80 x77,⟨some b4,1,114,1,1,[pS aK.cod v2]⟩,⟨some b1,1,113,4,1,(aQ.enc a0)⟩]++jC cQ 44 g84 x83)∧E=[(1,.vc (pP (some b1) 0)),(4,.vc (pP (some b4) 0)),(5,.vc (pF 156 [pP (some b4) 0,pP (some b1) 0])),(6,.vc (pP (some ((G7 6).1.getD 0)) 0)),(7,.vc (pP (some ((G7 7).1.getD 0)) 0))]) ?_ (fun Jj90=>?_))))
 ·rintro _ _ ⟨x77,x83,b78,c79,n80,g84,N85,hF,q81,q86,q87,q88,rfl,rfl⟩
  unfold mD at hF
  refine aA (aE (aF (aB (bE (off:=0) (k:=3) rfl tyF113_3) zU1 ?_)))
  refine aB (bK 5 1 rfl rfl rfl rfl (.one tyO25)) zU1 ?_
  refine aB (bX rfl tyS25) zU1 ?_
  obtain⟨x91,h92,hF⟩:=aP hF
  refine r6 (C:=aO.cod) (z:=(⟨0,0⟩:aO)) rfl tyS29 rfl tyZ58q rfl h92 (fun b93=>?_)
  refine bH ?_
  refine aC (aA (aE (aF (aI ?_))))
  refine aB (bK 6 4 rfl rfl rfl rfl (.agg tyA113)) zU1 ?_
  refine aB (bE (off:=0) (k:=1) rfl tyF113_1) zU1 ?_
  refine aB (bK 6 1 rfl rfl rfl rfl (.one tyO24)) zU1 ?_
  refine aI ?_
  refine wI 0 [9,39,44] rfl rfl ⟨rfl,rfl,rfl,trivial⟩ rfl ?_
  obtain⟨v96,h97,hF⟩:=aP hF
  refine aB (aJ rfl (dR h97) rfl) ⟨rfl,rfl,rfl,trivial⟩ ?_
  refine aB (aEy (xs:=[.tmp 7]) (cs:=[pP (some ((G7 7).1.getD 0)) 0]) rfl rfl) zU1 ?_
  obtain⟨v98,h99,hF⟩:=aP hF
  refine aIy (f:=156) (cs:=[pP (some b4) 0,pP (some b1) 0]) (pre:=[.vc (pS cQ v96),.vc (pF 157 [pP (some ((G7 7).1.getD 0)) 0])]) (xs:=[.tmp 45,.tmp 46]) 6 [0,4,5,2] [1,3] rfl (vL h99 rfl) ⟨rfl,rfl,rfl,trivial⟩ rfl rfl rfl (by decide) ?_
  rintro _ _ ⟨b100,c101,n102,q103,rfl,rfl⟩
  refine aC (aA (aE (aF ?_)))
  obtain⟨v105,h106,hF⟩:=aP hF
  refine aB (aJ rfl (xS h106) rfl) ⟨bI _ _,bI _ _,trivial⟩ ?_
  refine bP rfl tyZ44q (fun b107=>?_)
  refine bG (dO 0 rfl rfl rfl tyA44.s) zU2 ?_
  refine aC (aA (aE (aE (aF (aB (bK 2 1 rfl rfl rfl rfl (.one tyO114)) zU1 ?_)))))
  refine aB (bX rfl tyS114) zU1 ?_
  refine aB (aN (.inl rfl)) ⟨bI _ _,trivial⟩ ?_
  refine aC (aA (bR (cJ (fun H E=>∃(x134:List Nat),∃(x140:List (List Rat)),∃(b135:Option Nat),∃(c136:Nat),∃(n137:Nat),∃(g141:List vB),∃(N142:Nat),lQ K v98 x134 x140=some r∧x134.length=n137∧x140.length=N142∧l9 g141 x140∧(∀k∈x134,k<N142)∧H=([⟨some ((G7 7).1.getD 0),1,24,1,1,[pO b100 n102 c101]⟩,hO cQ b100 c101 44 n102 v98,⟨some ((G7 6).1.getD 0),1,62,1,1,[pO b135 n137 c136]⟩,hO (cH g141) b135 c136 24 n137 x134]++jC cQ 44 g141 x140)∧E=[(6,.vc (pP (some ((G7 6).1.getD 0)) 0)),(7,.vc (pP (some ((G7 7).1.getD 0)) 0))]) ?_ (fun Jj147=>?_))))
  ·rintro _ _ ⟨x134,x140,b135,c136,n137,g141,N142,hF,q138,q143,q144,q145,rfl,rfl⟩
   unfold lQ at hF
   refine aA (aE (bT [0,0,1,7] 4 0 [.v (.vc (pO b135 n137 c136)),.v (.vc (pO b100 n102 c101)),.v (.vc (pO b135 n137 c136)),.v (.vc (pO b100 n102 c101))] aU ⟨d0 (bK 2 1 rfl rfl rfl rfl (.one tyO62)) zU1,d0 (bK 0 1 rfl rfl rfl rfl (.one tyO24)) zU1,d0 (aN (.inr rfl)) zU1,d0 (aN (.inr rfl)) zU1,trivial⟩ (fun bs149 G148=>?_)))
   refine aC (aA (a9 (a8 (aLP 3 4 rfl rfl q144 (aEs q143 q145) ?_))))
   refine uB 3 [2,180] rfl ((aJk _ _).trans q138) zU2 rfl ?_
   refine uB 1 [3,181] rfl q103 zU2 rfl ?_
   obtain rfl:=bV hF
   exact aL (.inl rfl) Tryz.results71 (.tmp rfl (.tmp rfl .nil)) rfl rfl
  obtain⟨⟨x134',x140'⟩,hL,hRl146⟩:=aP hF
  refine gB (fun k a w=>∃(x121:List Nat),∃(x127:List (List Rat)),∃(x133:Int),∃(b122:Option Nat),∃(c123:Nat),∃(n124:Nat),∃(g128:List vB),∃(N129:Nat),bZ K a0 v2 x91 v105 k x121 x127 x133=some (x134',x140')∧x121.length=n124∧x127.length=N129∧l9 g128 x127∧(∀k∈x121,k<N129)∧hs _ ([⟨some b107,1,44,4,1,(eQ v105)⟩,⟨some ((G7 7).1.getD 0),1,24,1,1,[pO b100 n102 c101]⟩,⟨some b4,1,114,1,1,[pS aK.cod v2]⟩,⟨some b1,1,113,4,1,(aQ.enc a0)⟩,hO cQ b100 c101 44 n102 v98,⟨some ((G7 6).1.getD 0),1,62,1,1,[pO b122 n124 c123]⟩,hO (cH g128) b122 c123 24 n124 x121]++jC cQ 44 g128 x127) [(1,.vc (pP (some b1) 0)),(4,.vc (pP (some b4) 0)),(5,.vc (pF 156 [pP (some b4) 0,pP (some b1) 0])),(6,.vc (pP (some ((G7 6).1.getD 0)) 0)),(7,.vc (pP (some ((G7 7).1.getD 0)) 0)),(9,.vc (pS aO.cod x91)),(10,.vc (pP (some b107) 0)),(49,.vc (pS aK.cod v2)),(50,.vc (pI .i64 (v2.length:Int))),(51,.vc (pI .i64 x133))] a w) K (fun a w ⟨_,_,_,_,_,_,_,_,hF,_,_,_,_,_⟩=>by cases hF) (fun k a w ⟨x121,x127,x133,b122,c123,n124,g128,N129,hF,q125,q130,q131,q132,hh⟩=>gE ?_ hh) (fun a w hh=>⟨x77,x83,0,b78,c79,n80,g84,N85,hL,q81,q86,q87,q88,dM 7 [0,1,2,3,4,5,6] rfl rfl (by decide) (by exact⟨rfl,rfl,rfl,rfl,rfl,rfl,rfl,rfl,rfl,rfl,trivial⟩) hh⟩)
  rw [bZ.eq_2] at hF
  refine aE (aF (aB (dQ rfl) zU2 ?_))
  refine aC (aA (aE (bS rfl (fun h151=>?_) (fun h151=>?_))))
  ·have hF:=aV h151 hF
   refine bA (aA (aE (bR (aE (aF (aI ?_))))))
   obtain⟨v152,h153,hF⟩:=aP hF
   refine aB (cO rfl tyS114 h153) zU2 ?_
   refine aB (cK 2 rfl rfl (.agg tyA118)) zU1 ?_
   refine bP rfl tyZ3q (fun b154=>?_)
   refine bP rfl tyZ118q (fun b155=>?_)
   refine bG (dO 1 rfl rfl rfl tyO3.s) zU2 ?_
   refine bG (dO 0 rfl rfl rfl tyA118.s) zU2 ?_
   refine aC (aA (aE (aF (aI ?_))))
   obtain⟨v156,h157,hF⟩:=aP hF
   refine aJx rfl (zA h157) zU1 ?_
   rintro _ _ ⟨b159,c160,n161,q162,rfl,rfl⟩
   refine bH ?_
   refine aC (aA (aE (aF (aB (bE (off:=0) (k:=3) rfl tyF113_3) zU1 ?_))))
   refine aB (bK 6 1 rfl rfl rfl rfl (.one tyO25)) zU1 ?_
   refine aB (bE (off:=0) (k:=0) rfl tyF118_0) zU1 ?_
   refine aB (bK 1 1 rfl rfl rfl rfl (.one tyO3)) zU1 ?_
   obtain⟨v164,h165,hF⟩:=aP hF
   refine aB (cO rfl tyS25 h165) zU2 ?_
   refine aB (cK 18 rfl rfl (.agg tyA51)) zU1 ?_
   refine bP rfl tyZ51q (fun b166=>?_)
   refine bG (dO 0 rfl rfl rfl tyA51.s) zU2 ?_
   refine aC (aA (aE (aE (aF (aB (bE (off:=0) (k:=1) rfl tyF118_1) zU1 ?_)))))
   refine aB (bK 2 1 rfl rfl rfl rfl (.one tyO3)) zU1 ?_
   refine aC (aA (bR (aE (aF (aB (gR rfl) ⟨rfl,bI _ _,trivial⟩ ?_)))))
   refine bH ?_
   refine aC (aA (bS rfl (fun h167=>?_) (fun h167=>?_)))
   ·have hF:=aV h167 hF
    refine aE (aF (aI ?_))
    refine aB (bE (off:=0) (k:=0) rfl tyF118_0) zU1 ?_
    refine aB (bK 2 1 rfl rfl rfl rfl (.one tyO3)) zU1 ?_
    refine aB (bK 4 4 rfl rfl rfl rfl (.agg tyA44)) zU1 ?_
    obtain⟨v168,h169,hF⟩:=aP hF
    refine aB (cS (C:=aO.cod) 1 rfl tyS29 rfl q162 (aS h169).1 (aS h169).2.1) zU2 ?_
    refine aB (zU (off:=0) (k:=0) rfl tyF58_0) zU1 ?_
    obtain⟨x170,h171,hF⟩:=aP hF
    refine bG (fW 1 rfl rfl h169 h171 tyA44.s) zU2 ?_
    refine aC (aA (aE (uH (fun H E=>∃(x174:List aO),eI K a0 v2 x121 x127 x133 v152 v164 (bZ K a0 v2 x91 v105 k) x174=some (x134',x140')∧x174.length=n161∧H=([⟨some b166,1,51,18,1,(aH.enc v164)⟩,hO aO.cod b159 c160 58 n161 x174,⟨some b155,1,118,2,1,(aK.enc v152)⟩,⟨some b154,1,3,1,1,[pI .i64 x133]⟩,⟨some b107,1,44,4,1,(eQ v105)⟩,⟨some ((G7 7).1.getD 0),1,24,1,1,[pO b100 n102 c101]⟩,⟨some b4,1,114,1,1,[pS aK.cod v2]⟩,⟨some b1,1,113,4,1,(aQ.enc a0)⟩,hO cQ b100 c101 44 n102 v98,⟨some ((G7 6).1.getD 0),1,62,1,1,[pO b122 n124 c123]⟩,hO (cH g128) b122 c123 24 n124 x121]++jC cQ 44 g128 x127)∧E=[(1,.vc (pP (some b1) 0)),(4,.vc (pP (some b4) 0)),(5,.vc (pF 156 [pP (some b4) 0,pP (some b1) 0])),(6,.vc (pP (some ((G7 6).1.getD 0)) 0)),(7,.vc (pP (some ((G7 7).1.getD 0)) 0)),(9,.vc (pS aO.cod x91)),(10,.vc (pP (some b107) 0)),(11,.vc (pP (some b154) 0)),(12,.vc (pP (some b155) 0)),(13,.vc (pO b159 n161 c160)),(14,.vc (pP (some b166) 0)),(49,.vc (pS aK.cod v2)),(50,.vc (pI .i64 (v2.length:Int))),(51,.vc (pI .i64 x133))]) ?_ (fun Jj180=>?_))))
    ·rintro _ _ ⟨x174,hF,q178,rfl,rfl⟩
     unfold eI at hF
     refine aE ?_
     obtain⟨v183,h184,hF⟩:=aP hF
     rcases Bool.eq_false_or_eq_true (decide (v183<(v2.length:Int))) with h185|h185
     ·have hF:=aV h185 hF
      obtain⟨v186,h187,hF⟩:=aP hF
      obtain⟨v188,h189,hF⟩:=aP hF
      refine bT [0,1,0,4,15,31,63,63,191,511,1023,63,2111,6207,16383,32767] 16 0 [.v (.vc (pI .i64 x133)),.v (.vc (pI .i64 v183)),.v (.vc (pS aK.cod v2)),.v (.vc (pI .i64 (v2.length:Int))),.v (.vc (pB (decide (v183<(v2.length:Int))))),.v (.vc (pB true)),.v (.vc (pS aK.cod v2)),.v (.vc (pI .i64 x133)),.v (.vc (pI .i64 v186)),.v (.vc (pM (aK.cod.e v188))),.v (.va (aK.enc v188)),.v (.vc (pP (some b155) 0)),.v (.vc (pI .i64 v152.row)),.v (.va ([pI .i64 v152.row]++[pI .i64 3])),.v (.vc (pB (v188.row==v152.row&&v188.kind==3))),.v (.vc (pB (v188.row==v152.row&&v188.kind==3)))] aU ⟨d0 (bK 3 1 rfl rfl rfl rfl (.one tyO3)) zU1,d0 (bO rfl h184) ⟨rfl,bI _ _,trivial⟩,d0 (bK 6 1 rfl rfl rfl rfl (.one tyO114)) zU1,d0 (bX rfl tyS114) zU1,d0 (dQ rfl) zU2,d0 (cX (aN (.inl rfl)) h185) zU1,g0 (bK 6 1 rfl rfl rfl rfl (.one tyO114)) zU1,g0 (bK 3 1 rfl rfl rfl rfl (.one tyO3)) zU1,g0 (bO rfl h187) ⟨rfl,bI _ _,trivial⟩,g0 (cO rfl tyS114 h189) zU2,g0 (cK 2 rfl rfl (.agg tyA118)) zU1,g0 (bE (off:=0) (k:=0) rfl tyF118_0) zU1,g0 (bK 2 1 rfl rfl rfl rfl (.one tyO3)) zU1,g0 (cZ (is:=[0,1]) (xs:=[.tmp 99,.const (.int .i64 (3))]) (ps:=[.vc (pI .i64 v152.row),.vc (pI .i64 3)]) rfl tyB118q rfl rfl ⟨trivial,trivial,trivial⟩ rfl) ⟨rfl,bI _ _,trivial⟩,g0 (aLx rfl tyQ118) zU2,d0 (bM rfl) zU2,trivial⟩ (fun bs182 G181=>?_)
      refine aC (aA (bS rfl (fun h190=>?_) (fun h190=>?_)))
      ·have hF:=aV h190 hF
       obtain⟨v193,h194,hF⟩:=aP hF
       obtain⟨v195,h196,hF⟩:=aP hF
       obtain⟨v197,h198,hF⟩:=aP hF
       refine bT [0,0,2,7,15,0,0,64,255,511] 9 1 [.v (.vc (pO b122 n124 c123)),.v (.vc (pI .i64 x133)),.v (.vc (pI .i64 v193)),.v (.vc (pE b122 v193 (cH g128).n 0)),.v (.vc (pO (kC g128 v195).1 (kC g128 v195).2.1 (kC g128 v195).2.2)),.v (.vc (pI .i64 x133)),.v (.vc (pP (some b166) 10)),.v (.va (eQ v164.mu)),.v (.vc (pE (kC g128 v195).1 x133 cQ.n 0))] aU ⟨d0 (bK 9 1 rfl rfl rfl rfl (.one tyO62)) zU1,d0 (bK 3 1 rfl rfl rfl rfl (.one tyO3)) zU1,d0 (bO rfl h194) ⟨rfl,bI _ _,trivial⟩,d0 (cS (C:=(cH g128)) 10 rfl tyS62 rfl q125 (aS h196).1 (aS h196).2.1) zU2,d0 (g9 (C:=(cH g128)) (k:=1) 10 rfl rfl h196 rfl (.one tyO24) rfl) zU1,d0 (bK 3 1 rfl rfl rfl rfl (.one tyO3)) zU1,d0 (bE (off:=0) (k:=10) rfl tyF51_7) zU1,d0 (bK 0 4 rfl rfl rfl rfl (.agg tyA44)) zU1,d0 (cS (11+v195) rfl tyS24 (lB 11 rfl q131 q130 (q132 _ (cC h196))) (mC q131 q130 (q132 _ (cC h196))) (aS h198).1 (aS h198).2.1) zU2,trivial⟩ (fun bs192 G191=>?_)
       obtain⟨x199,h200,hF⟩:=aP hF
       refine bG (fW (H':=([⟨some b166,1,51,18,1,(aH.enc v164)⟩,hO aO.cod b159 c160 58 n161 x174,⟨some b155,1,118,2,1,(aK.enc v152)⟩,⟨some b154,1,3,1,1,[pI .i64 x133]⟩,⟨some b107,1,44,4,1,(eQ v105)⟩,⟨some ((G7 7).1.getD 0),1,24,1,1,[pO b100 n102 c101]⟩,⟨some b4,1,114,1,1,[pS aK.cod v2]⟩,⟨some b1,1,113,4,1,(aQ.enc a0)⟩,hO cQ b100 c101 44 n102 v98,⟨some ((G7 6).1.getD 0),1,62,1,1,[pO b122 n124 c123]⟩,hO (cH g128) b122 c123 24 n124 x121]++jC cQ 44 g128 (x127.set v195 x199))) (11+v195) rfl (aBz 11 rfl q131 q130 (q132 _ (cC h196))) h198 h200 tyA44.s (hH:=stN 11 rfl q131 q130 (q132 _ (cC h196)))) zU2 ?_
       refine aC (bJ (aA (aCW 1 [13] rfl q178 zU1 rfl ?_)))
       refine aDN 2 [(11,0)] rfl zU1 rfl ?_
       obtain⟨x204,h205,hF⟩:=aP hF
       obtain⟨v206,h207,hF⟩:=aP hF
       refine bT [0,0,0,4,12,28,0,126,0,511] 9 1 [.v (.vc (pF 156 [pP (some b4) 0,pP (some b1) 0])),.v (.va (aQ.enc a0)),.v (.vc (pP (some b1) 0)),.v (.vc (pS aT.cod a0.dofs)),.v (.vc (pI .i64 (a0.dofs.length:Int))),.v (.vc (pS cQ x204)),.v (.vc (pS aO.cod x174)),.v (.vc (pS cQ v206)),.v (.vc (pF 159 [pP (some ((G7 6).1.getD 0)) 0,pM (cI.e x133)]))] aU ⟨d0 (aN (.inl rfl)) zU1,d0 (bK 5 4 rfl rfl rfl rfl (.agg tyA113)) zU1,d0 (bE (off:=0) (k:=0) rfl tyF113_0) zU1,d0 (bK 5 1 rfl rfl rfl rfl (.one tyO23)) zU1,d0 (bX rfl tyS23) zU1,d0 (aBK 0 (iZ (C:=cQ) rfl tyS24 rfl tyZ44q h205) (fun _ _=>rfl) rfl (fun _ _=>rfl)) zU1,d0 (aN (.inl rfl)) zU1,d0 (aJ rfl (dR h207) rfl) ⟨rfl,rfl,rfl,trivial⟩,d0 (aEy (xs:=[.tmp 6,.tmp 11]) (cs:=[pP (some ((G7 6).1.getD 0)) 0,pM (cI.e x133)]) rfl rfl) zU2,trivial⟩ (fun bs203 G202=>?_)
       obtain⟨v208,h209,hF⟩:=aP hF
       refine t8 (f:=156) (cs:=[pP (some b4) 0,pP (some b1) 0]) (pre:=[.vc (pS cQ v206),.vc (pF 159 [pP (some ((G7 6).1.getD 0)) 0,pM (cI.e x133)])]) (xs:=[.tmp 176,.tmp 177]) 9 [7,4,5,8] [0,1,2,3,6] rfl (fU h209 q125 (tO q130) (wK q131 q130 (q132 _ (cC h196)) (cE h200 rfl)) q132) ⟨rfl,rfl,rfl,trivial⟩ rfl rfl rfl (by decide) ?_
       rintro _ _ ⟨b210,c211,n212,g215,N216,q213,q217,q218,q219,rfl,rfl⟩
       refine sE (pY [⟨some ((G7 6).1.getD 0),1,62,1,1,[pO b210 n212 c211]⟩,⟨some b4,1,114,1,1,[pS aK.cod v2]⟩,⟨some b1,1,113,4,1,(aQ.enc a0)⟩,hO (cH g215) b210 c211 24 n212 v208.1] (jC cQ 44 g215 v208.2) [⟨some b166,1,51,18,1,(aH.enc v164)⟩,⟨some b155,1,118,2,1,(aK.enc v152)⟩,⟨some b107,1,44,4,1,(eQ v105)⟩,⟨some ((G7 7).1.getD 0),1,24,1,1,[pO b100 n102 c101]⟩,hO cQ b100 c101 44 n102 v98]) ?_
       refine aC (bJ (aA (aF ?_)))
       obtain⟨v221,h222,hF⟩:=aP hF
       refine aB (bO rfl h222) ⟨rfl,bI _ _,trivial⟩ ?_
       refine aI ?_
       refine aC ?_
       exact bL (fun a w hh=>⟨v208.1,v208.2,v221,b210,c211,n212,g215,N216,hF,q213,q217,q218,q219,dM 9 [6,7,1,2,8,0,3] rfl rfl (by decide) (by exact⟨rfl,rfl,rfl,rfl,rfl,rfl,rfl,rfl,rfl,rfl,trivial⟩) hh⟩)
      have hF:=aX h190 hF
      refine bA (bJ (aA (aCW 1 [13] rfl q178 zU1 rfl ?_)))
      refine aDN 2 [(11,0)] rfl zU1 rfl ?_
      obtain⟨x225,h226,hF⟩:=aP hF
      obtain⟨v227,h228,hF⟩:=aP hF
      refine bT [0,0,0,4,12,28,0,126,0,511] 9 1 [.v (.vc (pF 156 [pP (some b4) 0,pP (some b1) 0])),.v (.va (aQ.enc a0)),.v (.vc (pP (some b1) 0)),.v (.vc (pS aT.cod a0.dofs)),.v (.vc (pI .i64 (a0.dofs.length:Int))),.v (.vc (pS cQ x225)),.v (.vc (pS aO.cod x174)),.v (.vc (pS cQ v227)),.v (.vc (pF 159 [pP (some ((G7 6).1.getD 0)) 0,pM (cI.e x133)]))] aU ⟨d0 (aN (.inl rfl)) zU1,d0 (bK 5 4 rfl rfl rfl rfl (.agg tyA113)) zU1,d0 (bE (off:=0) (k:=0) rfl tyF113_0) zU1,d0 (bK 5 1 rfl rfl rfl rfl (.one tyO23)) zU1,d0 (bX rfl tyS23) zU1,d0 (aBK 0 (iZ (C:=cQ) rfl tyS24 rfl tyZ44q h226) (fun _ _=>rfl) rfl (fun _ _=>rfl)) zU1,d0 (aN (.inl rfl)) zU1,d0 (aJ rfl (dR h228) rfl) ⟨rfl,rfl,rfl,trivial⟩,d0 (aEy (xs:=[.tmp 6,.tmp 11]) (cs:=[pP (some ((G7 6).1.getD 0)) 0,pM (cI.e x133)]) rfl rfl) zU2,trivial⟩ (fun bs224 G223=>?_)
      obtain⟨v229,h230,hF⟩:=aP hF
      refine t8 (f:=156) (cs:=[pP (some b4) 0,pP (some b1) 0]) (pre:=[.vc (pS cQ v227),.vc (pF 159 [pP (some ((G7 6).1.getD 0)) 0,pM (cI.e x133)])]) (xs:=[.tmp 176,.tmp 177]) 9 [7,4,5,8] [0,1,2,3,6] rfl (fU h230 q125 q130 q131 q132) ⟨rfl,rfl,rfl,trivial⟩ rfl rfl rfl (by decide) ?_
      rintro _ _ ⟨b231,c232,n233,g236,N237,q234,q238,q239,q240,rfl,rfl⟩
      refine sE (pY [⟨some ((G7 6).1.getD 0),1,62,1,1,[pO b231 n233 c232]⟩,⟨some b4,1,114,1,1,[pS aK.cod v2]⟩,⟨some b1,1,113,4,1,(aQ.enc a0)⟩,hO (cH g236) b231 c232 24 n233 v229.1] (jC cQ 44 g236 v229.2) [⟨some b166,1,51,18,1,(aH.enc v164)⟩,⟨some b155,1,118,2,1,(aK.enc v152)⟩,⟨some b107,1,44,4,1,(eQ v105)⟩,⟨some ((G7 7).1.getD 0),1,24,1,1,[pO b100 n102 c101]⟩,hO cQ b100 c101 44 n102 v98]) ?_
      refine aC (bJ (aA (aF ?_)))
      obtain⟨v242,h243,hF⟩:=aP hF
      refine aB (bO rfl h243) ⟨rfl,bI _ _,trivial⟩ ?_
      refine aI ?_
      refine aC ?_
      exact bL (fun a w hh=>⟨v229.1,v229.2,v242,b231,c232,n233,g236,N237,hF,q234,q238,q239,q240,dM 9 [6,7,1,2,8,0,3] rfl rfl (by decide) (by exact⟨rfl,rfl,rfl,rfl,rfl,rfl,rfl,rfl,rfl,rfl,trivial⟩) hh⟩)
     have hF:=aX h185 hF
     refine bT [0,1,0,4,15,31,63,63,191,511,1023,63,2111,6207,16383,32767] 16 0 [.v (.vc (pI .i64 x133)),.v (.vc (pI .i64 v183)),.v (.vc (pS aK.cod v2)),.v (.vc (pI .i64 (v2.length:Int))),.v (.vc (pB (decide (v183<(v2.length:Int))))),.v (.vc (pB false)),.v .un,.v .un,.v .un,.v .un,.v .un,.v .un,.v .un,.v .un,.v .un,.v (.vc (pB false))] aU ⟨d0 (bK 3 1 rfl rfl rfl rfl (.one tyO3)) zU1,d0 (bO rfl h184) ⟨rfl,bI _ _,trivial⟩,d0 (bK 6 1 rfl rfl rfl rfl (.one tyO114)) zU1,d0 (bX rfl tyS114) zU1,d0 (dQ rfl) zU2,d0 (cX (aN (.inl rfl)) h185) zU1,⟨rfl,.skipN⟩,⟨rfl,.skipN⟩,⟨rfl,.skipN⟩,⟨rfl,.skipN⟩,⟨rfl,.skipN⟩,⟨rfl,.skipN⟩,⟨rfl,.skipN⟩,⟨rfl,.skipN⟩,⟨rfl,.skipN⟩,d0 (bN rfl) ⟨rfl,cW _,trivial⟩,trivial⟩ (fun bs182 G181=>?_)
     refine aC (aA (sT rfl ?_))
     refine bA (bJ (aA (aCW 1 [13] rfl q178 zU1 rfl ?_)))
     refine aDN 2 [(11,0)] rfl zU1 rfl ?_
     obtain⟨x246,h247,hF⟩:=aP hF
     obtain⟨v248,h249,hF⟩:=aP hF
     refine bT [0,0,0,4,12,28,0,126,0,511] 9 1 [.v (.vc (pF 156 [pP (some b4) 0,pP (some b1) 0])),.v (.va (aQ.enc a0)),.v (.vc (pP (some b1) 0)),.v (.vc (pS aT.cod a0.dofs)),.v (.vc (pI .i64 (a0.dofs.length:Int))),.v (.vc (pS cQ x246)),.v (.vc (pS aO.cod x174)),.v (.vc (pS cQ v248)),.v (.vc (pF 159 [pP (some ((G7 6).1.getD 0)) 0,pM (cI.e x133)]))] aU ⟨d0 (aN (.inl rfl)) zU1,d0 (bK 5 4 rfl rfl rfl rfl (.agg tyA113)) zU1,d0 (bE (off:=0) (k:=0) rfl tyF113_0) zU1,d0 (bK 5 1 rfl rfl rfl rfl (.one tyO23)) zU1,d0 (bX rfl tyS23) zU1,d0 (aBK 0 (iZ (C:=cQ) rfl tyS24 rfl tyZ44q h247) (fun _ _=>rfl) rfl (fun _ _=>rfl)) zU1,d0 (aN (.inl rfl)) zU1,d0 (aJ rfl (dR h249) rfl) ⟨rfl,rfl,rfl,trivial⟩,d0 (aEy (xs:=[.tmp 6,.tmp 11]) (cs:=[pP (some ((G7 6).1.getD 0)) 0,pM (cI.e x133)]) rfl rfl) zU2,trivial⟩ (fun bs245 G244=>?_)
     obtain⟨v250,h251,hF⟩:=aP hF
     refine t8 (f:=156) (cs:=[pP (some b4) 0,pP (some b1) 0]) (pre:=[.vc (pS cQ v248),.vc (pF 159 [pP (some ((G7 6).1.getD 0)) 0,pM (cI.e x133)])]) (xs:=[.tmp 176,.tmp 177]) 9 [7,4,5,8] [0,1,2,3,6] rfl (fU h251 q125 q130 q131 q132) ⟨rfl,rfl,rfl,trivial⟩ rfl rfl rfl (by decide) ?_
     rintro _ _ ⟨b252,c253,n254,g257,N258,q255,q259,q260,q261,rfl,rfl⟩
     refine sE (pY [⟨some ((G7 6).1.getD 0),1,62,1,1,[pO b252 n254 c253]⟩,⟨some b4,1,114,1,1,[pS aK.cod v2]⟩,⟨some b1,1,113,4,1,(aQ.enc a0)⟩,hO (cH g257) b252 c253 24 n254 v250.1] (jC cQ 44 g257 v250.2) [⟨some b166,1,51,18,1,(aH.enc v164)⟩,⟨some b155,1,118,2,1,(aK.enc v152)⟩,⟨some b107,1,44,4,1,(eQ v105)⟩,⟨some ((G7 7).1.getD 0),1,24,1,1,[pO b100 n102 c101]⟩,hO cQ b100 c101 44 n102 v98]) ?_
     refine aC (bJ (aA (aF ?_)))
     obtain⟨v263,h264,hF⟩:=aP hF
     refine aB (bO rfl h264) ⟨rfl,bI _ _,trivial⟩ ?_
     refine aI ?_
     refine aC ?_
     exact bL (fun a w hh=>⟨v250.1,v250.2,v263,b252,c253,n254,g257,N258,hF,q255,q259,q260,q261,dM 9 [6,7,1,2,8,0,3] rfl rfl (by decide) (by exact⟨rfl,rfl,rfl,rfl,rfl,rfl,rfl,rfl,rfl,rfl,trivial⟩) hh⟩)
    refine aE (aF (aB (bE (off:=0) (k:=9) rfl tyF51_6) zU1 ?_))
    refine aB (bK 0 1 rfl rfl rfl rfl (.one tyO49)) zU1 ?_
    refine aB (bX rfl tyS49) zU1 ?_
    refine aB (rV rfl) ⟨rfl,bI _ _,trivial⟩ ?_
    refine aC (aA (bS rfl (fun h265=>?_) (fun h265=>?_)))
    ·have hF:=aV h265 hF
     obtain⟨v268,h269,hF⟩:=aP hF
     obtain⟨v270,h271,hF⟩:=aP hF
     refine bT [0,0,2,0,0,0,56,127,255,511] 9 1 [.v (.vc (pO b159 n161 c160)),.v (.vc (pP (some b155) 0)),.v (.vc (pI .i64 v152.row)),.v (.va (aQ.enc a0)),.v (.va (aH.enc v164)),.v (.va (eQ v105)),.v (.va (eQ v268)),.v (.vc (pE b159 v152.row aO.cod.n 0)),.v (.vc (pE b159 v152.row aO.cod.n 4))] aU ⟨d0 (aN (.inl rfl)) zU1,d0 (bE (off:=0) (k:=0) rfl tyF118_0) zU1,d0 (bK 2 1 rfl rfl rfl rfl (.one tyO3)) zU1,d0 (bK 7 4 rfl rfl rfl rfl (.agg tyA113)) zU1,d0 (bK 0 18 rfl rfl rfl rfl (.agg tyA51)) zU1,d0 (bK 4 4 rfl rfl rfl rfl (.agg tyA44)) zU1,d0 (aJ rfl (uL h269) rfl) ⟨rfl,rfl,rfl,trivial⟩,d0 (cS (C:=aO.cod) 1 rfl tyS29 rfl (cE h171 q162) (aS h271).1 (aS h271).2.1) zU2,d0 (zU (off:=0) (k:=4) rfl tyF58_1) zU1,trivial⟩ (fun bs267 G266=>?_)
     obtain⟨x272,h273,hF⟩:=aP hF
     refine bG (fW 1 rfl rfl h271 h273 tyA44.s) zU2 ?_
     refine aC ?_
     exact o7 Jj180 ⟨x272,hF,(cE h273 (cE h171 q162)),rfl,rfl⟩ 11 [0,1,2,3,4,5,6,7,8,9,10] rfl rfl ⟨rfl,rfl,rfl,rfl,rfl,rfl,rfl,rfl,rfl,rfl,rfl,rfl,rfl,rfl,trivial⟩
    have hF:=aX h265 hF
    refine bA ?_
    exact o7 Jj180 ⟨x170,hF,(cE h171 q162),rfl,rfl⟩ 11 [0,1,2,3,4,5,6,7,8,9,10] rfl rfl ⟨rfl,rfl,rfl,rfl,rfl,rfl,rfl,rfl,rfl,rfl,rfl,rfl,rfl,rfl,trivial⟩
   have hF:=aX h167 hF
   refine aE (aF (aB (gR rfl) ⟨rfl,bI _ _,trivial⟩ ?_))
   refine bH ?_
   refine aC (aA (bS rfl (fun h275=>?_) (fun h275=>?_)))
   ·have hF:=aV h275 hF
    refine aE (aF (aI ?_))
    refine aB (bE (off:=0) (k:=0) rfl tyF118_0) zU1 ?_
    refine aB (bK 2 1 rfl rfl rfl rfl (.one tyO3)) zU1 ?_
    refine aB (bK 4 4 rfl rfl rfl rfl (.agg tyA44)) zU1 ?_
    obtain⟨v276,h277,hF⟩:=aP hF
    refine aB (cS (C:=aO.cod) 1 rfl tyS29 rfl q162 (aS h277).1 (aS h277).2.1) zU2 ?_
    refine aB (zU (off:=0) (k:=4) rfl tyF58_1) zU1 ?_
    obtain⟨x278,h279,hF⟩:=aP hF
    refine bG (fW 1 rfl rfl h277 h279 tyA44.s) zU2 ?_
    refine aC (aA ?_)
    obtain⟨v283,h284,hF⟩:=aP hF
    obtain⟨v285,h286,hF⟩:=aP hF
    obtain⟨v287,h288,hF⟩:=aP hF
    obtain⟨v289,h290,hF⟩:=aP hF
    obtain⟨v291,h292,hF⟩:=aP hF
    refine bT [0,0,2,6,15,31,0,0,128,511,1023] 10 1 [.v (.vc (pO b122 n124 c123)),.v (.vc (pI .i64 x133)),.v (.vc (pI .i64 v283)),.v (.vc (pI .i64 v285)),.v (.vc (pE b122 v285 (cH g128).n 0)),.v (.vc (pO (kC g128 v287).1 (kC g128 v287).2.1 (kC g128 v287).2.2)),.v (.vc (pI .i64 x133)),.v (.va (eQ v105)),.v (.va (eQ v289)),.v (.vc (pE (kC g128 v287).1 x133 cQ.n 0))] aU ⟨d0 (bK 9 1 rfl rfl rfl rfl (.one tyO62)) zU1,d0 (bK 3 1 rfl rfl rfl rfl (.one tyO3)) zU1,d0 (bO rfl h284) ⟨rfl,bI _ _,trivial⟩,d0 (eM rfl h286) ⟨rfl,bI _ _,trivial⟩,d0 (cS (C:=(cH g128)) 10 rfl tyS62 rfl q125 (aS h288).1 (aS h288).2.1) zU2,d0 (g9 (C:=(cH g128)) (k:=1) 10 rfl rfl h288 rfl (.one tyO24) rfl) zU1,d0 (bK 3 1 rfl rfl rfl rfl (.one tyO3)) zU1,d0 (bK 4 4 rfl rfl rfl rfl (.agg tyA44)) zU1,d0 (aJ rfl (qM h290) rfl) zU1,d0 (cS (11+v287) rfl tyS24 (lB 11 rfl q131 q130 (q132 _ (cC h288))) (mC q131 q130 (q132 _ (cC h288))) (aS h292).1 (aS h292).2.1) zU2,trivial⟩ (fun bs282 G281=>?_)
    obtain⟨x293,h294,hF⟩:=aP hF
    refine bG (fW (H':=([⟨some b166,1,51,18,1,(aH.enc v164)⟩,hO aO.cod b159 c160 58 n161 x278,⟨some b155,1,118,2,1,(aK.enc v152)⟩,⟨some b154,1,3,1,1,[pI .i64 x133]⟩,⟨some b107,1,44,4,1,(eQ v105)⟩,⟨some ((G7 7).1.getD 0),1,24,1,1,[pO b100 n102 c101]⟩,⟨some b4,1,114,1,1,[pS aK.cod v2]⟩,⟨some b1,1,113,4,1,(aQ.enc a0)⟩,hO cQ b100 c101 44 n102 v98,⟨some ((G7 6).1.getD 0),1,62,1,1,[pO b122 n124 c123]⟩,hO (cH g128) b122 c123 24 n124 x121]++jC cQ 44 g128 (x127.set v287 x293))) (11+v287) rfl (aBz 11 rfl q131 q130 (q132 _ (cC h288))) h292 h294 tyA44.s (hH:=stN 11 rfl q131 q130 (q132 _ (cC h288)))) zU2 ?_
    refine aC (bJ (aA (aCW 1 [13,57,114] rfl (cE h279 q162) ⟨rfl,rfl,rfl,trivial⟩ rfl ?_)))
    refine aDN 2 [(11,0)] rfl zU1 rfl ?_
    obtain⟨x298,h299,hF⟩:=aP hF
    obtain⟨v300,h301,hF⟩:=aP hF
    refine bT [0,0,0,4,12,28,0,126,0,511] 9 1 [.v (.vc (pF 156 [pP (some b4) 0,pP (some b1) 0])),.v (.va (aQ.enc a0)),.v (.vc (pP (some b1) 0)),.v (.vc (pS aT.cod a0.dofs)),.v (.vc (pI .i64 (a0.dofs.length:Int))),.v (.vc (pS cQ x298)),.v (.vc (pS aO.cod x278)),.v (.vc (pS cQ v300)),.v (.vc (pF 159 [pP (some ((G7 6).1.getD 0)) 0,pM (cI.e x133)]))] aU ⟨d0 (aN (.inl rfl)) zU1,d0 (bK 5 4 rfl rfl rfl rfl (.agg tyA113)) zU1,d0 (bE (off:=0) (k:=0) rfl tyF113_0) zU1,d0 (bK 5 1 rfl rfl rfl rfl (.one tyO23)) zU1,d0 (bX rfl tyS23) zU1,d0 (aBK 0 (iZ (C:=cQ) rfl tyS24 rfl tyZ44q h299) (fun _ _=>rfl) rfl (fun _ _=>rfl)) zU1,d0 (aN (.inl rfl)) zU1,d0 (aJ rfl (dR h301) rfl) ⟨rfl,rfl,rfl,trivial⟩,d0 (aEy (xs:=[.tmp 6,.tmp 11]) (cs:=[pP (some ((G7 6).1.getD 0)) 0,pM (cI.e x133)]) rfl rfl) zU2,trivial⟩ (fun bs297 G296=>?_)
    obtain⟨v302,h303,hF⟩:=aP hF
    refine t8 (f:=156) (cs:=[pP (some b4) 0,pP (some b1) 0]) (pre:=[.vc (pS cQ v300),.vc (pF 159 [pP (some ((G7 6).1.getD 0)) 0,pM (cI.e x133)])]) (xs:=[.tmp 176,.tmp 177]) 9 [7,4,5,8] [0,1,2,3,6] rfl (fU h303 q125 (tO q130) (wK q131 q130 (q132 _ (cC h288)) (cE h294 rfl)) q132) ⟨rfl,rfl,rfl,trivial⟩ rfl rfl rfl (by decide) ?_
    rintro _ _ ⟨b304,c305,n306,g309,N310,q307,q311,q312,q313,rfl,rfl⟩
    refine sE (pY [⟨some ((G7 6).1.getD 0),1,62,1,1,[pO b304 n306 c305]⟩,⟨some b4,1,114,1,1,[pS aK.cod v2]⟩,⟨some b1,1,113,4,1,(aQ.enc a0)⟩,hO (cH g309) b304 c305 24 n306 v302.1] (jC cQ 44 g309 v302.2) [⟨some b166,1,51,18,1,(aH.enc v164)⟩,⟨some b155,1,118,2,1,(aK.enc v152)⟩,⟨some b107,1,44,4,1,(eQ v105)⟩,⟨some ((G7 7).1.getD 0),1,24,1,1,[pO b100 n102 c101]⟩,hO cQ b100 c101 44 n102 v98]) ?_
    refine aC (bJ (aA (aF ?_)))
    obtain⟨v315,h316,hF⟩:=aP hF
    refine aB (bO rfl h316) ⟨rfl,bI _ _,trivial⟩ ?_
    refine aI ?_
    refine aC ?_
    exact bL (fun a w hh=>⟨v302.1,v302.2,v315,b304,c305,n306,g309,N310,hF,q307,q311,q312,q313,dM 9 [6,7,1,2,8,0,3] rfl rfl (by decide) (by exact⟨rfl,rfl,rfl,rfl,rfl,rfl,rfl,rfl,rfl,rfl,trivial⟩) hh⟩)
   have hF:=aX h275 hF
   refine aE (aF (aB (gR rfl) ⟨rfl,bI _ _,trivial⟩ ?_))
   refine bH ?_
   refine aC (aA (bS rfl (fun h317=>?_) (fun h317=>?_)))
   ·have hF:=aV h317 hF
    refine aE ?_
    obtain⟨v320,h321,hF⟩:=aP hF
    obtain⟨v322,h323,hF⟩:=aP hF
    refine bT [0,0,2,0,8,31,63,127] 7 1 [.v (.vc (pO b159 n161 c160)),.v (.vc (pP (some b155) 0)),.v (.vc (pI .i64 v152.row)),.v (.va (eQ v105)),.v (.va (eQ v320)),.v (.vc (pE b159 v152.row aO.cod.n 0)),.v (.vc (pE b159 v152.row aO.cod.n 4))] aU ⟨d0 (aN (.inl rfl)) zU1,d0 (bE (off:=0) (k:=0) rfl tyF118_0) zU1,d0 (bK 2 1 rfl rfl rfl rfl (.one tyO3)) zU1,d0 (bK 4 4 rfl rfl rfl rfl (.agg tyA44)) zU1,d0 (aJ rfl (qM h321) rfl) zU1,d0 (cS (C:=aO.cod) 1 rfl tyS29 rfl q162 (aS h323).1 (aS h323).2.1) zU2,d0 (zU (off:=0) (k:=4) rfl tyF58_1) zU1,trivial⟩ (fun bs319 G318=>?_)
    obtain⟨x324,h325,hF⟩:=aP hF
    refine bG (fW 1 rfl rfl h323 h325 tyA44.s) zU2 ?_
    refine aC (aA ?_)
    obtain⟨v329,h330,hF⟩:=aP hF
    obtain⟨v331,h332,hF⟩:=aP hF
    obtain⟨v333,h334,hF⟩:=aP hF
    obtain⟨v335,h336,hF⟩:=aP hF
    obtain⟨v337,h338,hF⟩:=aP hF
    refine bT [0,0,2,6,15,31,0,0,128,511,1023] 10 1 [.v (.vc (pO b122 n124 c123)),.v (.vc (pI .i64 x133)),.v (.vc (pI .i64 v329)),.v (.vc (pI .i64 v331)),.v (.vc (pE b122 v331 (cH g128).n 0)),.v (.vc (pO (kC g128 v333).1 (kC g128 v333).2.1 (kC g128 v333).2.2)),.v (.vc (pI .i64 x133)),.v (.va (eQ v105)),.v (.va (eQ v335)),.v (.vc (pE (kC g128 v333).1 x133 cQ.n 0))] aU ⟨d0 (bK 9 1 rfl rfl rfl rfl (.one tyO62)) zU1,d0 (bK 3 1 rfl rfl rfl rfl (.one tyO3)) zU1,d0 (bO rfl h330) ⟨rfl,bI _ _,trivial⟩,d0 (eM rfl h332) ⟨rfl,bI _ _,trivial⟩,d0 (cS (C:=(cH g128)) 10 rfl tyS62 rfl q125 (aS h334).1 (aS h334).2.1) zU2,d0 (g9 (C:=(cH g128)) (k:=1) 10 rfl rfl h334 rfl (.one tyO24) rfl) zU1,d0 (bK 3 1 rfl rfl rfl rfl (.one tyO3)) zU1,d0 (bK 4 4 rfl rfl rfl rfl (.agg tyA44)) zU1,d0 (aJ rfl (qM h336) rfl) zU1,d0 (cS (11+v333) rfl tyS24 (lB 11 rfl q131 q130 (q132 _ (cC h334))) (mC q131 q130 (q132 _ (cC h334))) (aS h338).1 (aS h338).2.1) zU2,trivial⟩ (fun bs328 G327=>?_)
    obtain⟨x339,h340,hF⟩:=aP hF
    refine bG (fW (H':=([⟨some b166,1,51,18,1,(aH.enc v164)⟩,hO aO.cod b159 c160 58 n161 x324,⟨some b155,1,118,2,1,(aK.enc v152)⟩,⟨some b154,1,3,1,1,[pI .i64 x133]⟩,⟨some b107,1,44,4,1,(eQ v105)⟩,⟨some ((G7 7).1.getD 0),1,24,1,1,[pO b100 n102 c101]⟩,⟨some b4,1,114,1,1,[pS aK.cod v2]⟩,⟨some b1,1,113,4,1,(aQ.enc a0)⟩,hO cQ b100 c101 44 n102 v98,⟨some ((G7 6).1.getD 0),1,62,1,1,[pO b122 n124 c123]⟩,hO (cH g128) b122 c123 24 n124 x121]++jC cQ 44 g128 (x127.set v333 x339))) (11+v333) rfl (aBz 11 rfl q131 q130 (q132 _ (cC h334))) h338 h340 tyA44.s (hH:=stN 11 rfl q131 q130 (q132 _ (cC h334)))) zU2 ?_
    refine aC (bJ (aA (aCW 1 [13,57,132] rfl (cE h325 q162) ⟨rfl,rfl,rfl,trivial⟩ rfl ?_)))
    refine aDN 2 [(11,0)] rfl zU1 rfl ?_
    obtain⟨x344,h345,hF⟩:=aP hF
    obtain⟨v346,h347,hF⟩:=aP hF
    refine bT [0,0,0,4,12,28,0,126,0,511] 9 1 [.v (.vc (pF 156 [pP (some b4) 0,pP (some b1) 0])),.v (.va (aQ.enc a0)),.v (.vc (pP (some b1) 0)),.v (.vc (pS aT.cod a0.dofs)),.v (.vc (pI .i64 (a0.dofs.length:Int))),.v (.vc (pS cQ x344)),.v (.vc (pS aO.cod x324)),.v (.vc (pS cQ v346)),.v (.vc (pF 159 [pP (some ((G7 6).1.getD 0)) 0,pM (cI.e x133)]))] aU ⟨d0 (aN (.inl rfl)) zU1,d0 (bK 5 4 rfl rfl rfl rfl (.agg tyA113)) zU1,d0 (bE (off:=0) (k:=0) rfl tyF113_0) zU1,d0 (bK 5 1 rfl rfl rfl rfl (.one tyO23)) zU1,d0 (bX rfl tyS23) zU1,d0 (aBK 0 (iZ (C:=cQ) rfl tyS24 rfl tyZ44q h345) (fun _ _=>rfl) rfl (fun _ _=>rfl)) zU1,d0 (aN (.inl rfl)) zU1,d0 (aJ rfl (dR h347) rfl) ⟨rfl,rfl,rfl,trivial⟩,d0 (aEy (xs:=[.tmp 6,.tmp 11]) (cs:=[pP (some ((G7 6).1.getD 0)) 0,pM (cI.e x133)]) rfl rfl) zU2,trivial⟩ (fun bs343 G342=>?_)
    obtain⟨v348,h349,hF⟩:=aP hF
    refine t8 (f:=156) (cs:=[pP (some b4) 0,pP (some b1) 0]) (pre:=[.vc (pS cQ v346),.vc (pF 159 [pP (some ((G7 6).1.getD 0)) 0,pM (cI.e x133)])]) (xs:=[.tmp 176,.tmp 177]) 9 [7,4,5,8] [0,1,2,3,6] rfl (fU h349 q125 (tO q130) (wK q131 q130 (q132 _ (cC h334)) (cE h340 rfl)) q132) ⟨rfl,rfl,rfl,trivial⟩ rfl rfl rfl (by decide) ?_
    rintro _ _ ⟨b350,c351,n352,g355,N356,q353,q357,q358,q359,rfl,rfl⟩
    refine sE (pY [⟨some ((G7 6).1.getD 0),1,62,1,1,[pO b350 n352 c351]⟩,⟨some b4,1,114,1,1,[pS aK.cod v2]⟩,⟨some b1,1,113,4,1,(aQ.enc a0)⟩,hO (cH g355) b350 c351 24 n352 v348.1] (jC cQ 44 g355 v348.2) [⟨some b166,1,51,18,1,(aH.enc v164)⟩,⟨some b155,1,118,2,1,(aK.enc v152)⟩,⟨some b107,1,44,4,1,(eQ v105)⟩,⟨some ((G7 7).1.getD 0),1,24,1,1,[pO b100 n102 c101]⟩,hO cQ b100 c101 44 n102 v98]) ?_
    refine aC (bJ (aA (aF ?_)))
    obtain⟨v361,h362,hF⟩:=aP hF
    refine aB (bO rfl h362) ⟨rfl,bI _ _,trivial⟩ ?_
    refine aI ?_
    refine aC ?_
    exact bL (fun a w hh=>⟨v348.1,v348.2,v361,b350,c351,n352,g355,N356,hF,q353,q357,q358,q359,dM 9 [6,7,1,2,8,0,3] rfl rfl (by decide) (by exact⟨rfl,rfl,rfl,rfl,rfl,rfl,rfl,rfl,rfl,rfl,trivial⟩) hh⟩)
   have hF:=aX h317 hF
   refine aE (aF (aB (gR rfl) ⟨rfl,bI _ _,trivial⟩ ?_))
   refine bH ?_
   refine aC (aA (bS rfl (fun h363=>?_) (fun h363=>?_)))
   ·have hF:=aV h363 hF
    refine aE ?_
    obtain⟨v366,h367,hF⟩:=aP hF
    obtain⟨v368,h369,hF⟩:=aP hF
    obtain⟨v370,h371,hF⟩:=aP hF
    obtain⟨v372,h373,hF⟩:=aP hF
    obtain⟨v374,h375,hF⟩:=aP hF
    obtain⟨v376,h377,hF⟩:=aP hF
    obtain⟨v378,h379,hF⟩:=aP hF
    obtain⟨x380,h381,hF⟩:=aP hF
    obtain⟨v383,h384,hF⟩:=aP hF
    refine nJ (HsM [(0,fun G364=>([⟨some b166,1,51,18,1,(aH.enc v164)⟩,hO aO.cod b159 c160 58 n161 v156,⟨some b155,1,118,2,1,(aK.enc v152)⟩,⟨some b154,1,3,1,1,[pI .i64 x133]⟩,⟨some b107,1,44,4,1,(eQ v105)⟩,⟨some ((G7 7).1.getD 0),1,24,1,1,[pO b100 n102 c101]⟩,⟨some b4,1,114,1,1,[pS aK.cod v2]⟩,⟨some b1,1,113,4,1,(aQ.enc a0)⟩,hO cQ b100 c101 44 n102 v98,⟨some ((G7 6).1.getD 0),1,62,1,1,[pO b122 n124 c123]⟩,hO (cH g128) b122 c123 24 n124 x121]++jC cQ 44 g128 x127)),(1,fun G364=>([⟨some b166,1,51,18,1,(aH.enc v164)⟩,hO aO.cod b159 c160 58 n161 v156,⟨some b155,1,118,2,1,(aK.enc v152)⟩,⟨some b154,1,3,1,1,[pI .i64 x133]⟩,⟨some b107,1,44,4,1,(eQ v105)⟩,⟨some ((G7 7).1.getD 0),1,24,1,1,[pO b100 n102 c101]⟩,⟨some b4,1,114,1,1,[pS aK.cod v2]⟩,⟨some b1,1,113,4,1,(aQ.enc a0)⟩,hO cQ b100 c101 44 n102 v98,⟨some ((G7 6).1.getD 0),1,62,1,1,[pO b122 n124 c123]⟩,hO (cH g128) b122 c123 24 n124 x121]++jC cQ 44 g128 (x127.set v370 x380)))]) [17] [0,0,2,6,15,31,0,0,0,256,768,1920,3968,0,0,0,24575,90111,262143,524287] 19 1 [.v (.vc (pO b122 n124 c123)),.v (.vc (pI .i64 x133)),.v (.vc (pI .i64 v366)),.v (.vc (pI .i64 v368)),.v (.vc (pE b122 v368 (cH g128).n 0)),.v (.vc (pO (kC g128 v370).1 (kC g128 v370).2.1 (kC g128 v370).2.2)),.v (.vc (pI .i64 x133)),.v (.vc (pO b122 n124 c123)),.v (.vc (pI .i64 x133)),.v (.vc (pI .i64 v372)),.v (.vc (pI .i64 v374)),.v (.vc (pE b122 v374 (cH g128).n 0)),.v (.vc (pO (kC g128 v376).1 (kC g128 v376).2.1 (kC g128 v376).2.2)),.v (.vc (pI .i64 x133)),.v (.va (eQ v105)),.v (.va (eQ v105)),.v (.vc (pE (kC g128 v370).1 x133 cQ.n 0)),.g (fun _ _=>.any),.v (.vc (pE (kC g128 v376).1 x133 cQ.n 0))] aU ⟨d1 0 (bK 9 1 rfl rfl rfl rfl (.one tyO62)) zU1,d1 0 (bK 3 1 rfl rfl rfl rfl (.one tyO3)) zU1,d1 0 (bO rfl h367) ⟨rfl,bI _ _,trivial⟩,d1 0 (eM rfl h369) ⟨rfl,bI _ _,trivial⟩,d1 0 (cS (C:=(cH g128)) 10 rfl tyS62 rfl q125 (aS h371).1 (aS h371).2.1) zU2,d1 0 (g9 (C:=(cH g128)) (k:=1) 10 rfl rfl h371 rfl (.one tyO24) rfl) zU1,d1 0 (bK 3 1 rfl rfl rfl rfl (.one tyO3)) zU1,d1 0 (bK 9 1 rfl rfl rfl rfl (.one tyO62)) zU1,d1 0 (bK 3 1 rfl rfl rfl rfl (.one tyO3)) zU1,d1 0 (bO rfl h373) ⟨rfl,bI _ _,trivial⟩,d1 0 (eM rfl h375) ⟨rfl,bI _ _,trivial⟩,d1 0 (cS (C:=(cH g128)) 10 rfl tyS62 rfl q125 (aS h377).1 (aS h377).2.1) zU2,d1 0 (g9 (C:=(cH g128)) (k:=1) 10 rfl rfl h377 rfl (.one tyO24) rfl) zU1,⟨rfl,.run (L:=[0,1]) ⟨fun G364 A=>bK 3 1 rfl rfl rfl rfl (.one tyO3),fun G364 A=>bK 3 1 rfl rfl rfl rfl (.one tyO3),trivial⟩ (fun G364=>zU1)⟩,d1 0 (bK 4 4 rfl rfl rfl rfl (.agg tyA44)) zU1,⟨rfl,.run (L:=[0,1]) ⟨fun G364 A=>bK 4 4 rfl rfl rfl rfl (.agg tyA44),fun G364 A=>bK 4 4 rfl rfl rfl rfl (.agg tyA44),trivial⟩ (fun G364=>zU1)⟩,d1 0 (cS (11+v370) rfl tyS24 (lB 11 rfl q131 q130 (q132 _ (cC h371))) (mC q131 q130 (q132 _ (cC h371))) (aS h379).1 (aS h379).2.1) zU2,⟨rfl,.hvy [0] ⟨fun G364 A=>aBl (fW (H':=([⟨some b166,1,51,18,1,(aH.enc v164)⟩,hO aO.cod b159 c160 58 n161 v156,⟨some b155,1,118,2,1,(aK.enc v152)⟩,⟨some b154,1,3,1,1,[pI .i64 x133]⟩,⟨some b107,1,44,4,1,(eQ v105)⟩,⟨some ((G7 7).1.getD 0),1,24,1,1,[pO b100 n102 c101]⟩,⟨some b4,1,114,1,1,[pS aK.cod v2]⟩,⟨some b1,1,113,4,1,(aQ.enc a0)⟩,hO cQ b100 c101 44 n102 v98,⟨some ((G7 6).1.getD 0),1,62,1,1,[pO b122 n124 c123]⟩,hO (cH g128) b122 c123 24 n124 x121]++jC cQ 44 g128 (x127.set v370 x380))++A) (11+v370) rfl (lB 11 rfl q131 q130 (q132 _ (cC h371))) h379 h381 tyA44.s (hH:=stNA 11 rfl q131 q130 (q132 _ (cC h371)))),trivial⟩ (fun G364=>zU2)⟩,d1 1 (cS (11+v376) rfl tyS24 (lB 11 rfl (wK q131 q130 (q132 _ (cC h371)) (cE h381 rfl)) (tO q130) (q132 _ (cC h377))) (mC (wK q131 q130 (q132 _ (cC h371)) (cE h381 rfl)) (tO q130) (q132 _ (cC h377))) (aS h384).1 (aS h384).2.1) zU2,trivial⟩ (fun bs365 G364=>?_)
    obtain⟨x386,h387,hF⟩:=aP hF
    refine bG (fW (H':=([⟨some b166,1,51,18,1,(aH.enc v164)⟩,hO aO.cod b159 c160 58 n161 v156,⟨some b155,1,118,2,1,(aK.enc v152)⟩,⟨some b154,1,3,1,1,[pI .i64 x133]⟩,⟨some b107,1,44,4,1,(eQ v105)⟩,⟨some ((G7 7).1.getD 0),1,24,1,1,[pO b100 n102 c101]⟩,⟨some b4,1,114,1,1,[pS aK.cod v2]⟩,⟨some b1,1,113,4,1,(aQ.enc a0)⟩,hO cQ b100 c101 44 n102 v98,⟨some ((G7 6).1.getD 0),1,62,1,1,[pO b122 n124 c123]⟩,hO (cH g128) b122 c123 24 n124 x121]++jC cQ 44 g128 ((x127.set v370 x380).set v376 x386))) (11+v376) rfl (aBz 11 rfl (wK q131 q130 (q132 _ (cC h371)) (cE h381 rfl)) (tO q130) (q132 _ (cC h377))) h384 h387 tyA44.s (hH:=stN 11 rfl (wK q131 q130 (q132 _ (cC h371)) (cE h381 rfl)) (tO q130) (q132 _ (cC h377)))) zU2 ?_
    refine aC (aA (dI (aA (aF ?_))))
    obtain⟨v389,h390,hF⟩:=aP hF
    refine aB (bO rfl h390) ⟨rfl,bI _ _,trivial⟩ ?_
    refine aI ?_
    refine aC ?_
    exact bL (fun a w hh=>⟨x121,((x127.set v370 x380).set v376 x386),v389,b122,c123,n124,g128,N129,hF,q125,(tO (tO q130)),(wK (wK q131 q130 (q132 _ (cC h371)) (cE h381 rfl)) (tO q130) (q132 _ (cC h377)) (cE h387 rfl)),q132,dM 11 [4,5,6,7,8,9,10] rfl rfl (by decide) (by exact⟨rfl,rfl,rfl,rfl,rfl,rfl,rfl,rfl,rfl,rfl,trivial⟩) hh⟩)
   have hF:=aX h363 hF
   refine bA (bJ (aA (aCW 1 [13,57] rfl q162 zU2 rfl ?_)))
   refine aDN 2 [(11,0)] rfl zU1 rfl ?_
   obtain⟨x393,h394,hF⟩:=aP hF
   obtain⟨v395,h396,hF⟩:=aP hF
   refine bT [0,0,0,4,12,28,0,126,0,511] 9 1 [.v (.vc (pF 156 [pP (some b4) 0,pP (some b1) 0])),.v (.va (aQ.enc a0)),.v (.vc (pP (some b1) 0)),.v (.vc (pS aT.cod a0.dofs)),.v (.vc (pI .i64 (a0.dofs.length:Int))),.v (.vc (pS cQ x393)),.v (.vc (pS aO.cod v156)),.v (.vc (pS cQ v395)),.v (.vc (pF 159 [pP (some ((G7 6).1.getD 0)) 0,pM (cI.e x133)]))] aU ⟨d0 (aN (.inl rfl)) zU1,d0 (bK 5 4 rfl rfl rfl rfl (.agg tyA113)) zU1,d0 (bE (off:=0) (k:=0) rfl tyF113_0) zU1,d0 (bK 5 1 rfl rfl rfl rfl (.one tyO23)) zU1,d0 (bX rfl tyS23) zU1,d0 (aBK 0 (iZ (C:=cQ) rfl tyS24 rfl tyZ44q h394) (fun _ _=>rfl) rfl (fun _ _=>rfl)) zU1,d0 (aN (.inl rfl)) zU1,d0 (aJ rfl (dR h396) rfl) ⟨rfl,rfl,rfl,trivial⟩,d0 (aEy (xs:=[.tmp 6,.tmp 11]) (cs:=[pP (some ((G7 6).1.getD 0)) 0,pM (cI.e x133)]) rfl rfl) zU2,trivial⟩ (fun bs392 G391=>?_)
   obtain⟨v397,h398,hF⟩:=aP hF
   refine t8 (f:=156) (cs:=[pP (some b4) 0,pP (some b1) 0]) (pre:=[.vc (pS cQ v395),.vc (pF 159 [pP (some ((G7 6).1.getD 0)) 0,pM (cI.e x133)])]) (xs:=[.tmp 176,.tmp 177]) 9 [7,4,5,8] [0,1,2,3,6] rfl (fU h398 q125 q130 q131 q132) ⟨rfl,rfl,rfl,trivial⟩ rfl rfl rfl (by decide) ?_
   rintro _ _ ⟨b399,c400,n401,g404,N405,q402,q406,q407,q408,rfl,rfl⟩
   refine sE (pY [⟨some ((G7 6).1.getD 0),1,62,1,1,[pO b399 n401 c400]⟩,⟨some b4,1,114,1,1,[pS aK.cod v2]⟩,⟨some b1,1,113,4,1,(aQ.enc a0)⟩,hO (cH g404) b399 c400 24 n401 v397.1] (jC cQ 44 g404 v397.2) [⟨some b166,1,51,18,1,(aH.enc v164)⟩,⟨some b155,1,118,2,1,(aK.enc v152)⟩,⟨some b107,1,44,4,1,(eQ v105)⟩,⟨some ((G7 7).1.getD 0),1,24,1,1,[pO b100 n102 c101]⟩,hO cQ b100 c101 44 n102 v98]) ?_
   refine aC (bJ (aA (aF ?_)))
   obtain⟨v410,h411,hF⟩:=aP hF
   refine aB (bO rfl h411) ⟨rfl,bI _ _,trivial⟩ ?_
   refine aI ?_
   refine aC ?_
   exact bL (fun a w hh=>⟨v397.1,v397.2,v410,b399,c400,n401,g404,N405,hF,q402,q406,q407,q408,dM 9 [6,7,1,2,8,0,3] rfl rfl (by decide) (by exact⟨rfl,rfl,rfl,rfl,rfl,rfl,rfl,rfl,rfl,rfl,trivial⟩) hh⟩)
  have hF:=aX h151 hF
  refine dI ?_
  obtain⟨rfl,rfl⟩:=sm2 hF
  exact o7 Jj147 ⟨x121,x127,b122,c123,n124,g128,N129,hRl146,q125,q130,q131,q132,rfl,rfl⟩ 7 [1,4,5,6] rfl rfl zU2
 obtain⟨⟨x77',x83'⟩,hL,hRl89⟩:=aP hF
 refine gB (fun k a w=>∃(x64:List Nat),∃(x70:List (List Rat)),∃(x76:Int),∃(b65:Option Nat),∃(c66:Nat),∃(n67:Nat),∃(g71:List vB),∃(N72:Nat),fR K v2 x10 k x64 x70 x76=some (x77',x83')∧x64.length=n67∧x70.length=N72∧l9 g71 x70∧(∀k∈x64,k<N72)∧hs _ ([⟨some ((G7 7).1.getD 0),1,24,1,1,[pO ((G7 5).1) x13.length x13.length]⟩,⟨some ((G7 6).1.getD 0),1,62,1,1,[pO b65 n67 c66]⟩,hO cQ ((G7 5).1) x13.length 44 x13.length x13,hO (cH g71) b65 c66 24 n67 x64,⟨some b4,1,114,1,1,[pS aK.cod v2]⟩,⟨some b1,1,113,4,1,(aQ.enc a0)⟩]++jC cQ 44 g71 x70) [(1,.vc (pP (some b1) 0)),(4,.vc (pP (some b4) 0)),(5,.vc (pF 156 [pP (some b4) 0,pP (some b1) 0])),(6,.vc (pP (some ((G7 6).1.getD 0)) 0)),(7,.vc (pP (some ((G7 7).1.getD 0)) 0)),(25,.vc (pI .i64 (x10.length:Int))),(26,.vc (pI .i64 x76))] a w) K (fun a w ⟨_,_,_,_,_,_,_,_,hF,_,_,_,_,_⟩=>by cases hF) (fun k a w ⟨x64,x70,x76,b65,c66,n67,g71,N72,hF,q68,q73,q74,q75,hh⟩=>gE ?_ hh) (fun a w hh=>⟨x10,[([]:List Rat)],0,((G7 2).1),x10.length,x10.length,[(none,0,0)],1,hL,rfl,rfl,aHJ,(aKz h11),dM 6 [0,1,2,3,4,5] rfl rfl (by decide) (by exact⟨rfl,rfl,rfl,rfl,rfl,rfl,rfl,trivial⟩) hh⟩)
 rw [fR.eq_2] at hF
 refine aE (aF (aB (dQ rfl) zU2 ?_))
 refine aC (aA (aE (bS rfl (fun h412=>?_) (fun h412=>?_))))
 ·have hF:=aV h412 hF
  refine bA (aA (aE (bR (aE (aF (aI ?_))))))
  refine bH ?_
  refine aC (aA ?_)
  obtain⟨x415,h416,hF⟩:=aP hF
  obtain⟨v419,h420,hF⟩:=aP hF
  refine nJ (HsM [(0,fun G413=>([⟨some ((G7 7).1.getD 0),1,24,1,1,[pO ((G7 5).1) x13.length x13.length]⟩,⟨some ((G7 6).1.getD 0),1,62,1,1,[pO b65 n67 c66]⟩,hO cQ ((G7 5).1) x13.length 44 x13.length x13,hO (cH g71) b65 c66 24 n67 x64,⟨some b4,1,114,1,1,[pS aK.cod v2]⟩,⟨some b1,1,113,4,1,(aQ.enc a0)⟩]++jC cQ 44 g71 x70)),(1,fun G413=>([hO cQ ((G413 4).1) x415.length 44 x415.length x415,⟨some ((G7 7).1.getD 0),1,24,1,1,[pO ((G7 5).1) x13.length x13.length]⟩,⟨some ((G7 6).1.getD 0),1,62,1,1,[pO b65 n67 c66]⟩,hO cQ ((G7 5).1) x13.length 44 x13.length x13,hO (cH g71) b65 c66 24 n67 x64,⟨some b4,1,114,1,1,[pS aK.cod v2]⟩,⟨some b1,1,113,4,1,(aQ.enc a0)⟩]++jC cQ 44 g71 x70))]) [4] [0,0,0,4,12,31,63] 6 1 [.v (.vc (pO b65 n67 c66)),.v (.vc (pI .i64 x76)),.v (.vc (pS aK.cod v2)),.v (.vc (pI .i64 (v2.length:Int))),.g (fun b _=>.vc (pO b x415.length x415.length)),.v (.vc (pE b65 x76 (cH g71).n 0))] aU ⟨⟨rfl,.run (L:=[0,1]) ⟨fun G413 A=>bK 1 1 rfl rfl rfl rfl (.one tyO62),fun G413 A=>bK 2 1 rfl rfl rfl rfl (.one tyO62),trivial⟩ (fun G413=>zU1)⟩,⟨rfl,.run (L:=[0,1]) ⟨fun G413 A=>aN (.inl rfl),fun G413 A=>aN (.inl rfl),trivial⟩ (fun G413=>zU1)⟩,d1 0 (bK 4 1 rfl rfl rfl rfl (.one tyO114)) zU1,d1 0 (bX rfl tyS114) zU1,⟨rfl,.hvy [0] ⟨fun G413 A=>iZ (C:=cQ) rfl tyS24 rfl tyZ44q h416,trivial⟩ (fun G413=>zU1)⟩,d1 1 (cS (C:=(cH g71)) 4 rfl tyS62 rfl q68 (aS h420).1 (aS h420).2.1) zU2,trivial⟩ (fun bs414 G413=>?_)
  obtain⟨x423,h424,hF⟩:=aP hF
  refine aKq (show([hO cQ ((G413 4).1) x415.length 44 x415.length x415,⟨some ((G7 7).1.getD 0),1,24,1,1,[pO ((G7 5).1) x13.length x13.length]⟩,⟨some ((G7 6).1.getD 0),1,62,1,1,[pO b65 n67 c66]⟩,hO cQ ((G7 5).1) x13.length 44 x13.length x13,hO (cH (g71++[((G413 4).1,x415.length,x415.length)])) b65 c66 24 n67 x64,⟨some b4,1,114,1,1,[pS aK.cod v2]⟩,⟨some b1,1,113,4,1,(aQ.enc a0)⟩]++jC cQ 44 g71 x70)=([hO cQ ((G413 4).1) x415.length 44 x415.length x415,⟨some ((G7 7).1.getD 0),1,24,1,1,[pO ((G7 5).1) x13.length x13.length]⟩,⟨some ((G7 6).1.getD 0),1,62,1,1,[pO b65 n67 c66]⟩,hO cQ ((G7 5).1) x13.length 44 x13.length x13,hO (cH g71) b65 c66 24 n67 x64,⟨some b4,1,114,1,1,[pS aK.cod v2]⟩,⟨some b1,1,113,4,1,(aQ.enc a0)⟩]++jC cQ 44 g71 x70) from by rw [aFZ (N:=x70.length) ((G413 4).1,x415.length,x415.length) q74.1 (aEs q73 q75)]) ?_
  refine bG (fW (C:=cH (g71++[((G413 4).1,x415.length,x415.length)])) (z':=x70.length) 4 rfl rfl h420 h424 tyO24.s (hq:=aE4 ((G413 4).1,x415.length,x415.length) q74.1)) zU2 ?_
  refine aCC (g:=((G413 4).1,x415.length,x415.length)) 0 7 rfl rfl rfl q74 ?_
  refine aC (bJ (aA (aF ?_)))
  obtain⟨v427,h428,hF⟩:=aP hF
  refine aB (bO rfl h428) ⟨rfl,bI _ _,trivial⟩ ?_
  refine aI ?_
  refine aC ?_
  exact bL (fun a w hh=>⟨x423,(x70++[x415]),v427,b65,c66,n67,(g71++[((G413 4).1,x415.length,x415.length)]),(N72+1),hF,(cE h424 q68),(aDd q73),(yL q74 rfl),(sK q75 h424 q73),dM 6 [0,1,2,3,4,5] rfl rfl (by decide) (by exact⟨rfl,rfl,rfl,rfl,rfl,rfl,rfl,trivial⟩) hh⟩)
 have hF:=aX h412 hF
 refine dI ?_
 obtain⟨rfl,rfl⟩:=sm2 hF
 exact o7 Jj90 ⟨x64,x70,b65,c66,n67,g71,N72,hRl89,q68,q73,q74,q75,rfl,rfl⟩ 6 [0,1,2,3,4,5] rfl rfl ⟨rfl,rfl,rfl,rfl,rfl,trivial⟩
def uN (K:Nat) (a0:List aT) (a1:List Rat) (a2:List Rat) (a3:List aH) (x33:List aO):Option ((List Rat)×(List aO)×Int):=
 (cD K (⟨a0,a1,a2,a3⟩:aQ) a1 x33).bind fun v41=>some (v41,x33,0)
def kG (K:Nat) (a0:List aT) (a1:List Rat) (a2:List Rat) (a3:List aH) (v5:List aK) (v10:cN×Int):Nat→(List aO)→Int→Option (List aO)
 |0,_,_=>none
 |k+1,x26,x32=>bif(decide (x32<(v5.length:Int))) then((dC v5 x32).bind fun v44=>(dC x26 v44.row).bind fun v47=>bif(v44.kind==0) then((dC v10.1.z x32).bind fun v50=>(qC x26 v44.row (⟨v50,v47.f⟩:aO)).bind fun x52=>(dC a3 v44.row).bind fun v55=>bif(decide (0<(v55.t.length:Int))) then((dC x52 v44.row).bind fun v61=>(kM K (⟨a0,a1,a2,a3⟩:aQ) v55 v61.n).bind fun v63=>(dC x52 v44.row).bind fun v65=>(qC x52 v44.row (⟨v65.n,v63⟩:aO)).bind fun x67=>(bW (x32+1)).bind fun v70=>kG K a0 a1 a2 a3 v5 v10 k x67 v70) else((bW (x32+1)).bind fun v72=>kG K a0 a1 a2 a3 v5 v10 k x52 v72)) else(bif(v44.kind==1) then((dC v10.1.z x32).bind fun v77=>(aAY v47.f v77).bind fun v79=>(qC x26 v44.row (⟨v47.n,v79⟩:aO)).bind fun x81=>(bW (x32+1)).bind fun v84=>kG K a0 a1 a2 a3 v5 v10 k x81 v84) else(bif(v44.kind==2) then((dC v10.1.z x32).bind fun v89=>(aDo v47.f v89).bind fun v91=>(qC x26 v44.row (⟨v47.n,v91⟩:aO)).bind fun x93=>(bW (x32+1)).bind fun v96=>kG K a0 a1 a2 a3 v5 v10 k x93 v96) else((bW (x32+1)).bind fun v98=>kG K a0 a1 a2 a3 v5 v10 k x26 v98)))) else(some x26)
def vA (K:Nat) (a0:List aT) (a1:List Rat) (a2:List Rat) (a3:List aH):Option ((List Rat)×(List aO)×Int):=
 (kX K (⟨a0,a1,a2,a3⟩:aQ)).bind fun v2=>bif(!v2) then(some ([],[],1)) else((jS K (⟨a0,a1,a2,a3⟩:aQ)).bind fun v5=>bif(decide (32<(v5.length:Int))) then(some ([],[],4)) else((kL K (⟨a0,a1,a2,a3⟩:aQ)).bind fun v8=>(tU K v8.1 v8.2 4096).bind fun v10=>bif(v10.2 != 0) then(some ([],[],v10.2)) else((vK (a3.length:Int) (⟨0,0⟩:aO)).bind fun x14=>(kG K a0 a1 a2 a3 v5 v10 K x14 0).bind fun x33=>uN K a0 a1 a2 a3 x33)))
theorem zL {K:Nat} {a0:List aT} {a1:List Rat} {a2:List Rat} {a3:List aH} {r:(List Rat)×(List aO)×Int} (hF:vA K a0 a1 a2 a3=some r):Ct Tryz.prog 17 [.vc (pS aT.cod a0),.vc (pS cQ a1),.vc (pS cQ a2),.vc (pS aH.cod a3)] (.t3 (.vc (pS cQ r.1)) (.vc (pS aO.cod r.2.1)) (.vc (pI .i64 r.2.2))):=by
 unfold vA at hF
 refine bD Tryz.func17 rfl (by kernel_rfl) Tryz.ntmps17 rfl (fun w0 M0=>?_)
 refine aE (aF (aB (aN (.inr rfl)) ⟨dX cQ,trivial⟩ ?_))
 refine aB (aN (.inr rfl)) ⟨dX aO.cod,trivial⟩ ?_
 refine aB (aN (.inr rfl)) ⟨bI _ _,trivial⟩ ?_
 refine aC (aA (aE (aF (aI ?_))))
 refine aI ?_
 refine aI ?_
 refine aI ?_
 refine aB (cZ (is:=[0,1,2,3]) (xs:=[.tmp 22,.tmp 23,.tmp 24,.tmp 25]) (ps:=[.vc (pS aT.cod a0),.vc (pS cQ a1),.vc (pS cQ a2),.vc (pS aH.cod a3)]) rfl tyB113q rfl rfl ⟨trivial,trivial,trivial,trivial,trivial⟩ rfl) ⟨rfl,rfl,rfl,rfl,trivial⟩ ?_
 refine bP rfl tyZ113q (fun b1=>?_)
 refine bG (dO 0 rfl rfl rfl tyA113.s) zU2 ?_
 refine aC (aA (aE (aE (aF (aB (bK 0 4 rfl rfl rfl rfl (.agg tyA113)) zU1 ?_)))))
 obtain⟨v2,h3,hF⟩:=aP hF
 refine aB (aJ rfl (tC h3) rfl) zU1 ?_
 refine aB (hU rfl) zU1 ?_
 refine aC (aA (bS rfl (fun h4=>?_) (fun h4=>?_)))
 ·have hF:=aV h4 hF
  refine aE (aF (aB (aN (.inr rfl)) ⟨dX cQ,trivial⟩ ?_))
  refine aB (aN (.inr rfl)) ⟨dX aO.cod,trivial⟩ ?_
  refine aB (aN (.inr rfl)) ⟨bI _ _,trivial⟩ ?_
  refine aC (aA (a9 (a8 ?_)))
  obtain rfl:=bV hF
  exact aL (.inl rfl) Tryz.results17 (.tmp rfl (.tmp rfl (.tmp rfl .nil))) rfl rfl
 have hF:=aX h4 hF
 refine bA (aA (aE (aF (aB (bK 0 4 rfl rfl rfl rfl (.agg tyA113)) zU1 ?_))))
 obtain⟨v5,h6,hF⟩:=aP hF
 refine aB (aJ rfl (t5 h6) rfl) zU1 ?_
 refine bH ?_
 refine aC (aA (aE (aE (aF (aI ?_)))))
 refine aB (bX rfl tyS114) zU1 ?_
 refine aB (rV rfl) ⟨rfl,bI _ _,trivial⟩ ?_
 refine aC (aA (bS rfl (fun h7=>?_) (fun h7=>?_)))
 ·have hF:=aV h7 hF
  refine aE (aF (aB (aN (.inr rfl)) ⟨dX cQ,trivial⟩ ?_))
  refine aB (aN (.inr rfl)) ⟨dX aO.cod,trivial⟩ ?_
  refine aB (aN (.inr rfl)) ⟨bI _ _,trivial⟩ ?_
  refine aC (aA (a9 (a8 ?_)))
  obtain rfl:=bV hF
  exact aL (.inl rfl) Tryz.results17 (.tmp rfl (.tmp rfl (.tmp rfl .nil))) rfl rfl
 have hF:=aX h7 hF
 refine bA (aA (aE (aF (aB (bK 0 4 rfl rfl rfl rfl (.agg tyA113)) zU1 ?_))))
 obtain⟨v8,h9,hF⟩:=aP hF
 refine aB (aJ rfl (uC h9) rfl) zU1 ?_
 refine aI ?_
 refine aB (lT rfl) zU1 ?_
 refine aB (lO rfl) zU1 ?_
 refine bH ?_
 refine bH ?_
 refine aC (aA (aE (aF (aI ?_))))
 refine aI ?_
 obtain⟨v10,h11,hF⟩:=aP hF
 refine aB (aJ rfl (aAp h11) rfl) ⟨rfl,rfl,bI _ _,trivial⟩ ?_
 refine aI ?_
 refine aB (lT rfl) zU1 ?_
 refine aB (lO rfl) zU1 ?_
 refine bP rfl tyZ68q (fun b12=>?_)
 refine bG (dO 0 rfl rfl rfl tyA68.s) zU2 ?_
 refine bH ?_
 refine aC (aA (aE (aE (aF (aI ?_)))))
 refine aB (s7 rfl) ⟨rfl,bI _ _,trivial⟩ ?_
 refine aC (aA (bS rfl (fun h13=>?_) (fun h13=>?_)))
 ·have hF:=aV h13 hF
  refine aE (aF (aI ?_))
  refine aB (aN (.inr rfl)) ⟨dX cQ,trivial⟩ ?_
  refine aB (aN (.inr rfl)) ⟨dX aO.cod,trivial⟩ ?_
  refine bH ?_
  refine aC (aA (a9 (a8 ?_)))
  obtain rfl:=bV hF
  exact aL (.inl rfl) Tryz.results17 (.tmp rfl (.tmp rfl (.tmp rfl .nil))) rfl rfl
 have hF:=aX h13 hF
 refine bA (aA (aE (aF (aI ?_))))
 refine aB (bX rfl tyS25) zU1 ?_
 obtain⟨x14,h15,hF⟩:=aP hF
 refine r6 (C:=aO.cod) (z:=(⟨0,0⟩:aO)) rfl tyS29 rfl tyZ58q rfl h15 (fun b16=>?_)
 refine bH ?_
 refine aC (aA (aE (aE (aF (aI ?_)))))
 refine aB (bX rfl tyS114) zU1 ?_
 refine aB (aN (.inl rfl)) ⟨bI _ _,trivial⟩ ?_
 refine aC (aA (bR (cJ (fun H E=>∃(x33:List aO),uN K a0 a1 a2 a3 x33=some r∧x33.length=x14.length∧H=[hO aO.cod b16 x14.length 58 x14.length x33,⟨some b1,1,113,4,1,([pS aT.cod a0]++[pS cQ a1]++[pS cQ a2]++[pS aH.cod a3])⟩]∧E=[(1,.vc (pS cQ a1)),(11,.vc (pP (some b1) 0)),(17,.vc (pO b16 x14.length x14.length))]) ?_ (fun Jj40=>?_))))
 ·rintro _ _ ⟨x33,hF,q37,rfl,rfl⟩
  unfold uN at hF
  refine aA (aE (aF (aB (bK 1 4 rfl rfl rfl rfl (.agg tyA113)) zU1 ?_)))
  refine aI ?_
  refine aI ?_
  refine wI 0 [17,127] rfl q37 zU2 rfl ?_
  obtain⟨v41,h42,hF⟩:=aP hF
  refine aB (aJ rfl (dR h42) rfl) ⟨rfl,rfl,rfl,trivial⟩ ?_
  refine aI ?_
  refine bH ?_
  refine bH ?_
  refine aB (aN (.inr rfl)) ⟨bI _ _,trivial⟩ ?_
  refine aC (aA (a9 (a8 ?_)))
  obtain rfl:=bV hF
  exact aL (.inl rfl) Tryz.results17 (.tmp rfl (.tmp rfl (.tmp rfl .nil))) rfl rfl
 obtain⟨x33',hL,hRl39⟩:=aP hF
 refine gB (fun k a w=>∃(x26:List aO),∃(x32:Int),kG K a0 a1 a2 a3 v5 v10 k x26 x32=some x33'∧x26.length=x14.length∧hs _ [hO aO.cod b16 x14.length 58 x14.length x26,⟨some b12,1,68,3,1,(cN.enc v10.1)⟩,⟨some b1,1,113,4,1,([pS aT.cod a0]++[pS cQ a1]++[pS cQ a2]++[pS aH.cod a3])⟩] [(1,.vc (pS cQ a1)),(3,.vc (pS aH.cod a3)),(11,.vc (pP (some b1) 0)),(15,.vc (pP (some b12) 0)),(17,.vc (pO b16 x14.length x14.length)),(52,.vc (pS aK.cod v5)),(53,.vc (pI .i64 (v5.length:Int))),(54,.vc (pI .i64 x32))] a w) K (fun a w ⟨_,_,hF,_,_⟩=>by cases hF) (fun k a w ⟨x26,x32,hF,q30,hh⟩=>gE ?_ hh) (fun a w hh=>⟨x14,0,hL,rfl,bF [0,1,2] rfl (by decide) (by exact⟨rfl,rfl,rfl,rfl,rfl,rfl,rfl,rfl,trivial⟩) hh⟩)
 rw [kG.eq_2] at hF
 refine aE (aF (aB (dQ rfl) zU2 ?_))
 refine aC (aA (aE (bS rfl (fun h43=>?_) (fun h43=>?_))))
 ·have hF:=aV h43 hF
  refine bA (aA (aE (bR (aE (aF (aI ?_))))))
  obtain⟨v44,h45,hF⟩:=aP hF
  refine aB (cO rfl tyS114 h45) zU2 ?_
  refine aB (cK 2 rfl rfl (.agg tyA118)) zU1 ?_
  refine bP rfl tyZ118q (fun b46=>?_)
  refine bH ?_
  refine bG (dO 0 rfl rfl rfl tyA118.s) zU2 ?_
  refine aC (aA (aE (aF (aI ?_))))
  refine aB (bE (off:=0) (k:=0) rfl tyF118_0) zU1 ?_
  refine aB (bK 0 1 rfl rfl rfl rfl (.one tyO3)) zU1 ?_
  obtain⟨v47,h48,hF⟩:=aP hF
  refine aB (cS (C:=aO.cod) 1 rfl tyS29 rfl q30 (aS h48).1 (aS h48).2.1) zU2 ?_
  refine bH ?_
  refine aC (aA (aE (aF (aB (bE (off:=0) (k:=1) rfl tyF118_1) zU1 ?_))))
  refine aB (bK 0 1 rfl rfl rfl rfl (.one tyO3)) zU1 ?_
  refine aC (aA (bR (aE (aF (aB (gR rfl) ⟨rfl,bI _ _,trivial⟩ ?_)))))
  refine bH ?_
  refine aC (aA (bS rfl (fun h49=>?_) (fun h49=>?_)))
  ·have hF:=aV h49 hF
   refine aE (aF (aI ?_))
   refine aB (bE (off:=0) (k:=0) rfl tyF68_0) zU1 ?_
   refine aB (bK 2 1 rfl rfl rfl rfl (.one tyO24)) zU1 ?_
   refine aI ?_
   obtain⟨v50,h51,hF⟩:=aP hF
   refine aB (cO rfl tyS24 h51) zU2 ?_
   refine aB (cK 4 rfl rfl (.agg tyA44)) zU1 ?_
   refine aB (aAI rfl) zU1 ?_
   refine aB (zU (off:=0) (k:=0) rfl tyF58_0) zU1 ?_
   obtain⟨x52,h53,hF⟩:=aP hF
   refine bG (fW 1 rfl rfl h48 h53 tyA44.s) zU2 ?_
   refine aC (aA (aE (aF (aI ?_))))
   refine aB (bE (off:=0) (k:=0) rfl tyF118_0) zU1 ?_
   refine aB (bK 0 1 rfl rfl rfl rfl (.one tyO3)) zU1 ?_
   obtain⟨v55,h56,hF⟩:=aP hF
   refine aB (cO rfl tyS25 h56) zU2 ?_
   refine aB (cK 18 rfl rfl (.agg tyA51)) zU1 ?_
   refine bP rfl tyZ51q (fun b57=>?_)
   refine bG (dO 0 rfl rfl rfl tyA51.s) zU2 ?_
   refine aC (aA (aE (aF (aB (bE (off:=0) (k:=9) rfl tyF51_6) zU1 ?_))))
   refine aB (bK 0 1 rfl rfl rfl rfl (.one tyO49)) zU1 ?_
   refine aB (bX rfl tyS49) zU1 ?_
   refine aB (rV rfl) ⟨rfl,bI _ _,trivial⟩ ?_
   refine aC (aA (bS rfl (fun h58=>?_) (fun h58=>?_)))
   ·have hF:=aV h58 hF
    obtain⟨v61,h62,hF⟩:=aP hF
    obtain⟨v63,h64,hF⟩:=aP hF
    refine bT [0,0,0,0,8,24,56,126,255,511,1023] 10 1 [.v (.vc (pE b16 v44.row aO.cod.n 0)),.v (.va ([pS aT.cod a0]++[pS cQ a1]++[pS cQ a2]++[pS aH.cod a3])),.v (.va (aH.enc v55)),.v (.vc (pE b16 v44.row aO.cod.n 0)),.v (.vc (pE b16 v44.row aO.cod.n 0)),.v (.vc (pE b16 v44.row aO.cod.n 0)),.v (.va (eQ v61.n)),.v (.va (eQ v63)),.v (.vc (pE b16 v44.row aO.cod.n 0)),.v (.vc (pE b16 v44.row aO.cod.n 4))] aU ⟨d0 (aN (.inl rfl)) zU1,d0 (bK 4 4 rfl rfl rfl rfl (.agg tyA113)) zU1,d0 (bK 0 18 rfl rfl rfl rfl (.agg tyA51)) zU1,d0 (aN (.inl rfl)) zU1,d0 (aAI rfl) zU1,d0 (zU (off:=0) (k:=0) rfl tyF58_0) zU1,d0 (g9 (k:=4) 2 rfl rfl h62 rfl (.agg tyA44) rfl) zU1,d0 (aJ rfl (uL h64) rfl) ⟨rfl,rfl,rfl,trivial⟩,d0 (aAI rfl) zU1,d0 (zU (off:=0) (k:=4) rfl tyF58_1) zU1,trivial⟩ (fun bs60 G59=>?_)
    obtain⟨v65,h66,hF⟩:=aP hF
    obtain⟨x67,h68,hF⟩:=aP hF
    refine bG (fW 2 rfl rfl h66 h68 tyA44.s) zU2 ?_
    refine aC (bJ (bJ (aA (aF ?_))))
    obtain⟨v70,h71,hF⟩:=aP hF
    refine aB (bO rfl h71) ⟨rfl,bI _ _,trivial⟩ ?_
    refine aI ?_
    refine aC ?_
    exact bL (fun a w hh=>⟨x67,v70,hF,(cE h68 (cE h53 q30)),bF [2,3,4] rfl (by decide) (by exact⟨rfl,rfl,rfl,rfl,rfl,rfl,rfl,rfl,trivial⟩) hh⟩)
   have hF:=aX h58 hF
   refine bA (bJ (bJ (aA (aF ?_))))
   obtain⟨v72,h73,hF⟩:=aP hF
   refine aB (bO rfl h73) ⟨rfl,bI _ _,trivial⟩ ?_
   refine aI ?_
   refine aC ?_
   exact bL (fun a w hh=>⟨x52,v72,hF,(cE h53 q30),bF [2,3,4] rfl (by decide) (by exact⟨rfl,rfl,rfl,rfl,rfl,rfl,rfl,rfl,trivial⟩) hh⟩)
  have hF:=aX h49 hF
  refine aE (aF (aB (gR rfl) ⟨rfl,bI _ _,trivial⟩ ?_))
  refine bH ?_
  refine aC (aA (bS rfl (fun h74=>?_) (fun h74=>?_)))
  ·have hF:=aV h74 hF
   obtain⟨v77,h78,hF⟩:=aP hF
   obtain⟨v79,h80,hF⟩:=aP hF
   refine bT [0,0,2,6,14,0,32,0,224,480,1022,2047,4095,8191] 13 1 [.v (.vc (pE b16 v44.row aO.cod.n 0)),.v (.vc (pE b16 v44.row aO.cod.n 0)),.v (.vc (pE b16 v44.row aO.cod.n 0)),.v (.vc (pE b16 v44.row aO.cod.n 4)),.v (.va (eQ v47.f)),.v (.vc (pP (some b12) 0)),.v (.vc (pS cQ v10.1.z)),.v (.vc (pI .i64 x32)),.v (.vc (pM (cQ.e v77))),.v (.va (eQ v77)),.v (.va (eQ v79)),.v (.vc (pE b16 v44.row aO.cod.n 0)),.v (.vc (pE b16 v44.row aO.cod.n 4))] aU ⟨d0 (aN (.inl rfl)) zU1,d0 (aN (.inl rfl)) zU1,d0 (aAI rfl) zU1,d0 (zU (off:=0) (k:=4) rfl tyF58_1) zU1,d0 (g9 (k:=4) 1 rfl rfl h48 rfl (.agg tyA44) rfl) zU1,d0 (bE (off:=0) (k:=0) rfl tyF68_0) zU1,d0 (bK 2 1 rfl rfl rfl rfl (.one tyO24)) zU1,d0 (aN (.inl rfl)) zU1,d0 (cO rfl tyS24 h78) zU2,d0 (cK 4 rfl rfl (.agg tyA44)) zU1,d0 (aJ rfl (uZ h80) rfl) zU2,d0 (aAI rfl) zU1,d0 (zU (off:=0) (k:=4) rfl tyF58_1) zU1,trivial⟩ (fun bs76 G75=>?_)
   obtain⟨x81,h82,hF⟩:=aP hF
   refine bG (fW 1 rfl rfl h48 h82 tyA44.s) zU2 ?_
   refine aC (bJ (bJ (aA (aF ?_))))
   obtain⟨v84,h85,hF⟩:=aP hF
   refine aB (bO rfl h85) ⟨rfl,bI _ _,trivial⟩ ?_
   refine aI ?_
   refine aC ?_
   exact bL (fun a w hh=>⟨x81,v84,hF,(cE h82 q30),bF [1,2,3] rfl (by decide) (by exact⟨rfl,rfl,rfl,rfl,rfl,rfl,rfl,rfl,trivial⟩) hh⟩)
  have hF:=aX h74 hF
  refine aE (aF (aB (gR rfl) ⟨rfl,bI _ _,trivial⟩ ?_))
  refine bH ?_
  refine aC (aA (bS rfl (fun h86=>?_) (fun h86=>?_)))
  ·have hF:=aV h86 hF
   obtain⟨v89,h90,hF⟩:=aP hF
   obtain⟨v91,h92,hF⟩:=aP hF
   refine bT [0,0,2,6,14,0,32,0,224,480,1022,2047,4095,8191] 13 1 [.v (.vc (pE b16 v44.row aO.cod.n 0)),.v (.vc (pE b16 v44.row aO.cod.n 0)),.v (.vc (pE b16 v44.row aO.cod.n 0)),.v (.vc (pE b16 v44.row aO.cod.n 4)),.v (.va (eQ v47.f)),.v (.vc (pP (some b12) 0)),.v (.vc (pS cQ v10.1.z)),.v (.vc (pI .i64 x32)),.v (.vc (pM (cQ.e v89))),.v (.va (eQ v89)),.v (.va (eQ v91)),.v (.vc (pE b16 v44.row aO.cod.n 0)),.v (.vc (pE b16 v44.row aO.cod.n 4))] aU ⟨d0 (aN (.inl rfl)) zU1,d0 (aN (.inl rfl)) zU1,d0 (aAI rfl) zU1,d0 (zU (off:=0) (k:=4) rfl tyF58_1) zU1,d0 (g9 (k:=4) 1 rfl rfl h48 rfl (.agg tyA44) rfl) zU1,d0 (bE (off:=0) (k:=0) rfl tyF68_0) zU1,d0 (bK 2 1 rfl rfl rfl rfl (.one tyO24)) zU1,d0 (aN (.inl rfl)) zU1,d0 (cO rfl tyS24 h90) zU2,d0 (cK 4 rfl rfl (.agg tyA44)) zU1,d0 (aJ rfl (aDm h92) rfl) zU2,d0 (aAI rfl) zU1,d0 (zU (off:=0) (k:=4) rfl tyF58_1) zU1,trivial⟩ (fun bs88 G87=>?_)
   obtain⟨x93,h94,hF⟩:=aP hF
   refine bG (fW 1 rfl rfl h48 h94 tyA44.s) zU2 ?_
   refine aC (bJ (bJ (aA (aF ?_))))
   obtain⟨v96,h97,hF⟩:=aP hF
   refine aB (bO rfl h97) ⟨rfl,bI _ _,trivial⟩ ?_
   refine aI ?_
   refine aC ?_
   exact bL (fun a w hh=>⟨x93,v96,hF,(cE h94 q30),bF [1,2,3] rfl (by decide) (by exact⟨rfl,rfl,rfl,rfl,rfl,rfl,rfl,rfl,trivial⟩) hh⟩)
  have hF:=aX h86 hF
  refine bA (bJ (bJ (aA (aF ?_))))
  obtain⟨v98,h99,hF⟩:=aP hF
  refine aB (bO rfl h99) ⟨rfl,bI _ _,trivial⟩ ?_
  refine aI ?_
  refine aC ?_
  exact bL (fun a w hh=>⟨x26,v98,hF,q30,bF [1,2,3] rfl (by decide) (by exact⟨rfl,rfl,rfl,rfl,rfl,rfl,rfl,rfl,trivial⟩) hh⟩)
 have hF:=aX h43 hF
 refine dI ?_
 obtain rfl:=bV hF
 exact bU Jj40 ⟨x26,hRl39,q30,rfl,rfl⟩ [0,2] rfl ⟨rfl,rfl,rfl,trivial⟩
def nZ (a0:bC) (a1:Int):Option bC:=
 (y5 1 1).bind fun v3=>(k6 a1 8).bind fun v6=>bif(v6==0) then((qO ([]:List Rat) a0.load).bind fun x13=>(qO x13 [v3]).bind fun x19=>some (⟨a0.dofs,x19,a0.v,a0.rows⟩:bC)) else(bif(v6==1) then((bW ((a0.dofs.length:Int)-1)).bind fun v27=>(slL a0.v 0 v27).bind fun x29=>some (⟨a0.dofs,a0.load,x29,a0.rows⟩:bC)) else(bif(v6==2) then((qO ([]:List aH) a0.rows).bind fun x36=>(qO x36 [(⟨0,0,0,0,0,[(⟨(a0.dofs.length:Int),v3⟩:aG)],([]:List aG),0,0⟩:aH)]).bind fun x42=>some (⟨a0.dofs,a0.load,a0.v,x42⟩:bC)) else(bif(v6==3) then((qO ([]:List aH) a0.rows).bind fun x54=>(qO x54 [(⟨0,0,0,0,0,([]:List aG),[(⟨0,v3⟩:aG),(⟨0,v3⟩:aG)],0,0⟩:aH)]).bind fun x60=>some (⟨a0.dofs,a0.load,a0.v,x60⟩:bC)) else(bif(v6==4) then((qO ([]:List aH) a0.rows).bind fun x71=>(y5 (-1) 3).bind fun v78=>(qO x71 [(⟨0,0,0,0,0,([]:List aG),([]:List aG),v78,0⟩:aH)]).bind fun x80=>some (⟨a0.dofs,a0.load,a0.v,x80⟩:bC)) else(bif(v6==5) then((bW ((a0.dofs.length:Int)-1)).bind fun v91=>(slL a0.dofs 0 v91).bind fun x93=>(qO ([]:List aT) x93).bind fun x95=>(qO x95 [(⟨0,0,false,0,0⟩:aT)]).bind fun x102=>some (⟨x102,a0.load,a0.v,a0.rows⟩:bC)) else(bif(v6==6) then((bW ((a0.dofs.length:Int)-1)).bind fun v114=>(slL a0.v 0 v114).bind fun x116=>(qO ([]:List Rat) x116).bind fun x118=>(qO x118 [v3]).bind fun x124=>(qO ([]:List aH) a0.rows).bind fun x135=>(bW ((a0.dofs.length:Int)-1)).bind fun v138=>(qO x135 [(⟨0,0,0,0,0,[(⟨v138,v3⟩:aG)],([]:List aG),0,0⟩:aH)]).bind fun x143=>some (⟨a0.dofs,a0.load,x124,x143⟩:bC)) else(bif(v6==7) then((qO ([]:List aH) a0.rows).bind fun x155=>(qO x155 [(⟨0,0,0,0,0,[(⟨(-1),v3⟩:aG)],([]:List aG),0,0⟩:aH)]).bind fun x161=>some (⟨a0.dofs,a0.load,a0.v,x161⟩:bC)) else(some a0))))))))
theorem zQ {a0:bC} {a1:Int} {r:bC} (hF:nZ a0 a1=some r):Ct Tryz.prog 18 [.va (bC.enc a0),.vc (pI .i64 a1)] (.va (bC.enc r)):=by
 unfold nZ at hF
 refine bD Tryz.func18 rfl (by kernel_rfl) Tryz.ntmps18 rfl (fun w0 M0=>?_)
 refine aE (aF (cY rfl rfl trivial (fun b1=>?_)))
 refine bP rfl tyZ27q (fun b2=>?_)
 refine aC (aA (aE (aF ?_)))
 obtain⟨v3,h4,hF⟩:=aP hF
 refine aB (aJ rfl (bY h4) rfl) ⟨bI _ _,bI _ _,trivial⟩ ?_
 refine bP rfl tyZ44q (fun b5=>?_)
 refine bG (dO 0 rfl rfl rfl tyA44.s) zU2 ?_
 refine aC (aA (aE (aF (aB (bE (off:=0) (k:=0) rfl tyF27_0) zU1 ?_))))
 refine aB (bK 2 1 rfl rfl rfl rfl (.one tyO23)) zU1 ?_
 refine aB (bX rfl tyS23) zU1 ?_
 refine bH ?_
 refine aC (aA (aE (aE (aF (aI ?_)))))
 obtain⟨v6,h7,hF⟩:=aP hF
 refine aB (aJ rfl (uU h7) rfl) ⟨rfl,bI _ _,trivial⟩ ?_
 refine aC (aA (bR (aE (aF (aB (gR rfl) ⟨rfl,bI _ _,trivial⟩ ?_)))))
 refine bH ?_
 refine aC (aA (bS rfl (fun h8=>?_) (fun h8=>?_)))
 ·have hF:=aV h8 hF
  obtain⟨x13,h14,hF⟩:=aP hF
  refine nJ (HsM [(0,fun G9=>[⟨some b5,1,44,4,1,(eQ v3)⟩,⟨some b2,1,27,4,1,([pS aT.cod ([]:List aT)]++[pS cQ ([]:List Rat)]++[pS cQ ([]:List Rat)]++[pS aH.cod ([]:List aH)])⟩,⟨some b1,1,27,4,1,(bC.enc a0)⟩]),(1,fun G9=>[hO cQ ((G9 0).1) 0 44 0 ([]:List Rat),⟨some b5,1,44,4,1,(eQ v3)⟩,⟨some b2,1,27,4,1,([pS aT.cod ([]:List aT)]++[pS cQ ([]:List Rat)]++[pS cQ ([]:List Rat)]++[pS aH.cod ([]:List aH)])⟩,⟨some b1,1,27,4,1,(bC.enc a0)⟩]),(3,fun G9=>[hO cQ ((G9 3).1) ((G9 3).2) 44 (0+a0.load.length) x13,⟨some b5,1,44,4,1,(eQ v3)⟩,⟨some b2,1,27,4,1,([pS aT.cod ([]:List aT)]++[pS cQ ([]:List Rat)]++[pS cQ ([]:List Rat)]++[pS aH.cod ([]:List aH)])⟩,⟨some b1,1,27,4,1,(bC.enc a0)⟩])]) [0,3] [0,0,2,7,0,16,63,127,255] 6 3 [.g (fun b _=>.vc (pO b 0 0)),.v (.vc (pP (some b1) 1)),.v (.vc (pS cQ a0.load)),.g (fun b c=>.vc (pO b (0+a0.load.length) c)),.v (.va (eQ v3)),.v (.vc (pS cQ [v3]))] aU ⟨⟨rfl,.hvy (ins:=fun _=>[]) [0] ⟨fun G9 A=>xR (C:=cQ) (xs:=[]) (ps:=[]) (zs:=([]:List Rat)) rfl tyS24 rfl trivial rfl,trivial⟩ (fun G9=>trivial)⟩,⟨rfl,.run (L:=[0,1]) ⟨fun G9 A=>bE (off:=0) (k:=1) rfl tyF27_1,fun G9 A=>bE (off:=0) (k:=1) rfl tyF27_1,trivial⟩ (fun G9=>zU1)⟩,⟨rfl,.run (L:=[0,1]) ⟨fun G9 A=>bK 2 1 rfl rfl rfl rfl (.one tyO24),fun G9 A=>bK 3 1 rfl rfl rfl rfl (.one tyO24),trivial⟩ (fun G9=>zU1)⟩,⟨rfl,.hvy [1] ⟨fun G9 A=>aA0 0 rfl tyS24 rfl rfl rfl h14,trivial⟩ (fun G9=>zU2)⟩,⟨rfl,.run (L:=[0,1,3]) ⟨fun G9 A=>bK 0 4 rfl rfl rfl rfl (.agg tyA44),fun G9 A=>bK 1 4 rfl rfl rfl rfl (.agg tyA44),fun G9 A=>bK 1 4 rfl rfl rfl rfl (.agg tyA44),trivial⟩ (fun G9=>zU1)⟩,⟨rfl,.run (L:=[0,1,3]) ⟨fun G9 A=>iJ (C:=cQ) (xs:=[.tmp 19]) (ps:=[.va (eQ v3)]) (zs:=[v3]) rfl tyS24 rfl ⟨⟨trivial,rfl⟩,trivial⟩ rfl,fun G9 A=>iJ (C:=cQ) (xs:=[.tmp 19]) (ps:=[.va (eQ v3)]) (zs:=[v3]) rfl tyS24 rfl ⟨⟨trivial,rfl⟩,trivial⟩ rfl,fun G9 A=>iJ (C:=cQ) (xs:=[.tmp 19]) (ps:=[.va (eQ v3)]) (zs:=[v3]) rfl tyS24 rfl ⟨⟨trivial,rfl⟩,trivial⟩ rfl,trivial⟩ (fun G9=>zU1)⟩,trivial⟩ (fun bs10 G9=>?_)
  obtain⟨x19,h20,hF⟩:=aP hF
  refine jD 0 rfl tyS24 rfl rfl (cL h14 rfl) rfl rfl h20 (fun b21 c22 H23 e24=>?_)
  cases e24
  refine aB (bE (off:=0) (k:=1) rfl tyF27_1) zU1 ?_
  refine bG (dO 3 rfl rfl rfl tyO24.s) zU2 ?_
  refine aC (bJ (aA (aE (aF (uT 0 3 1 rfl (cL h20 (cL h14 rfl)) rfl rfl rfl rfl rfl ?_)))))
  refine aB (bK 2 4 rfl rfl rfl rfl (.agg tyA27)) zU1 ?_
  refine bG (dO 1 rfl rfl rfl tyA27.s) zU2 ?_
  refine aC (aA (a9 (a8 ?_)))
  obtain rfl:=bV hF
  exact aL (.inl rfl) Tryz.results18 (bQ 1 4 rfl rfl rfl rfl (.agg tyA27) .nil) rfl rfl
 have hF:=aX h8 hF
 refine aE (aF (aB (gR rfl) ⟨rfl,bI _ _,trivial⟩ ?_))
 refine bH ?_
 refine aC (aA (bS rfl (fun h26=>?_) (fun h26=>?_)))
 ·have hF:=aV h26 hF
  refine aF (aB (bE (off:=0) (k:=2) rfl tyF27_2) zU1 ?_)
  refine aB (bK 2 1 rfl rfl rfl rfl (.one tyO24)) zU1 ?_
  refine aI ?_
  obtain⟨v27,h28,hF⟩:=aP hF
  refine aB (eM rfl h28) ⟨rfl,bI _ _,trivial⟩ ?_
  obtain⟨x29,h30,hF⟩:=aP hF
  refine aB (z6 rfl tyS24 h30) zU2 ?_
  refine aB (bE (off:=0) (k:=2) rfl tyF27_2) zU1 ?_
  refine bG (dO 2 rfl rfl rfl tyO24.s) zU2 ?_
  refine aC (bJ (aA (aE (aF (aB (bK 2 4 rfl rfl rfl rfl (.agg tyA27)) zU1 ?_)))))
  refine bG (dO 1 rfl rfl rfl tyA27.s) zU2 ?_
  refine aC (aA (a9 (a8 ?_)))
  obtain rfl:=bV hF
  exact aL (.inl rfl) Tryz.results18 (bQ 1 4 rfl rfl rfl rfl (.agg tyA27) .nil) rfl rfl
 have hF:=aX h26 hF
 refine aE (aF (aB (gR rfl) ⟨rfl,bI _ _,trivial⟩ ?_))
 refine bH ?_
 refine aC (aA (bS rfl (fun h31=>?_) (fun h31=>?_)))
 ·have hF:=aV h31 hF
  obtain⟨x36,h37,hF⟩:=aP hF
  refine nJ (HsM [(0,fun G32=>[⟨some b5,1,44,4,1,(eQ v3)⟩,⟨some b2,1,27,4,1,([pS aT.cod ([]:List aT)]++[pS cQ ([]:List Rat)]++[pS cQ ([]:List Rat)]++[pS aH.cod ([]:List aH)])⟩,⟨some b1,1,27,4,1,(bC.enc a0)⟩]),(1,fun G32=>[hO aH.cod ((G32 0).1) 0 51 0 ([]:List aH),⟨some b5,1,44,4,1,(eQ v3)⟩,⟨some b2,1,27,4,1,([pS aT.cod ([]:List aT)]++[pS cQ ([]:List Rat)]++[pS cQ ([]:List Rat)]++[pS aH.cod ([]:List aH)])⟩,⟨some b1,1,27,4,1,(bC.enc a0)⟩]),(3,fun G32=>[hO aH.cod ((G32 3).1) ((G32 3).2) 51 (0+a0.rows.length) x36,⟨some b5,1,44,4,1,(eQ v3)⟩,⟨some b2,1,27,4,1,([pS aT.cod ([]:List aT)]++[pS cQ ([]:List Rat)]++[pS cQ ([]:List Rat)]++[pS aH.cod ([]:List aH)])⟩,⟨some b1,1,27,4,1,(bC.enc a0)⟩])]) [0,3] [0,0,2,7,0,0,48,112,240,496,1023,2047,4095] 10 3 [.g (fun b _=>.vc (pO b 0 0)),.v (.vc (pP (some b1) 3)),.v (.vc (pS aH.cod a0.rows)),.g (fun b c=>.vc (pO b (0+a0.rows.length) c)),.v (.vc (pI .i64 (a0.dofs.length:Int))),.v (.va (eQ v3)),.v (.va ([pI .i64 (a0.dofs.length:Int)]++(eQ v3))),.v (.vc (pS aG.cod [(⟨(a0.dofs.length:Int),v3⟩:aG)])),.v (.va ([pI .i64 0]++[pI .i64 0]++[pI .i64 0]++[pI .i64 0]++(eQ 0)++[pS aG.cod [(⟨(a0.dofs.length:Int),v3⟩:aG)]]++[pS aG.cod ([]:List aG)]++(eQ 0)++(eQ 0))),.v (.vc (pS aH.cod [(⟨0,0,0,0,0,[(⟨(a0.dofs.length:Int),v3⟩:aG)],([]:List aG),0,0⟩:aH)]))] aU ⟨⟨rfl,.hvy (ins:=fun _=>[]) [0] ⟨fun G32 A=>xR (C:=aH.cod) (xs:=[]) (ps:=[]) (zs:=([]:List aH)) rfl tyS25 rfl trivial rfl,trivial⟩ (fun G32=>trivial)⟩,⟨rfl,.run (L:=[0,1]) ⟨fun G32 A=>bE (off:=0) (k:=3) rfl tyF27_3,fun G32 A=>bE (off:=0) (k:=3) rfl tyF27_3,trivial⟩ (fun G32=>zU1)⟩,⟨rfl,.run (L:=[0,1]) ⟨fun G32 A=>bK 2 1 rfl rfl rfl rfl (.one tyO25),fun G32 A=>bK 3 1 rfl rfl rfl rfl (.one tyO25),trivial⟩ (fun G32=>zU1)⟩,⟨rfl,.hvy [1] ⟨fun G32 A=>aA0 0 rfl tyS25 rfl rfl rfl h37,trivial⟩ (fun G32=>zU2)⟩,⟨rfl,.run (L:=[0,1,3]) ⟨fun G32 A=>aN (.inl rfl),fun G32 A=>aN (.inl rfl),fun G32 A=>aN (.inl rfl),trivial⟩ (fun G32=>zU1)⟩,⟨rfl,.run (L:=[0,1,3]) ⟨fun G32 A=>bK 0 4 rfl rfl rfl rfl (.agg tyA44),fun G32 A=>bK 1 4 rfl rfl rfl rfl (.agg tyA44),fun G32 A=>bK 1 4 rfl rfl rfl rfl (.agg tyA44),trivial⟩ (fun G32=>zU1)⟩,⟨rfl,.run (L:=[0,1,3]) ⟨fun G32 A=>cZ (is:=[0,1]) (xs:=[.tmp 37,.tmp 38]) (ps:=[.vc (pI .i64 (a0.dofs.length:Int)),.va (eQ v3)]) rfl tyB92q rfl rfl ⟨trivial,trivial,trivial⟩ rfl,fun G32 A=>cZ (is:=[0,1]) (xs:=[.tmp 37,.tmp 38]) (ps:=[.vc (pI .i64 (a0.dofs.length:Int)),.va (eQ v3)]) rfl tyB92q rfl rfl ⟨trivial,trivial,trivial⟩ rfl,fun G32 A=>cZ (is:=[0,1]) (xs:=[.tmp 37,.tmp 38]) (ps:=[.vc (pI .i64 (a0.dofs.length:Int)),.va (eQ v3)]) rfl tyB92q rfl rfl ⟨trivial,trivial,trivial⟩ rfl,trivial⟩ (fun G32=>zU2)⟩,⟨rfl,.run (L:=[0,1,3]) ⟨fun G32 A=>iJ (C:=aG.cod) (xs:=[.tmp 39]) (ps:=[.va ([pI .i64 (a0.dofs.length:Int)]++(eQ v3))]) (zs:=[(⟨(a0.dofs.length:Int),v3⟩:aG)]) rfl tyS49 rfl ⟨⟨trivial,rfl⟩,trivial⟩ rfl,fun G32 A=>iJ (C:=aG.cod) (xs:=[.tmp 39]) (ps:=[.va ([pI .i64 (a0.dofs.length:Int)]++(eQ v3))]) (zs:=[(⟨(a0.dofs.length:Int),v3⟩:aG)]) rfl tyS49 rfl ⟨⟨trivial,rfl⟩,trivial⟩ rfl,fun G32 A=>iJ (C:=aG.cod) (xs:=[.tmp 39]) (ps:=[.va ([pI .i64 (a0.dofs.length:Int)]++(eQ v3))]) (zs:=[(⟨(a0.dofs.length:Int),v3⟩:aG)]) rfl tyS49 rfl ⟨⟨trivial,rfl⟩,trivial⟩ rfl,trivial⟩ (fun G32=>zU1)⟩,⟨rfl,.run (L:=[0,1,3]) ⟨fun G32 A=>cZ (is:=[5]) (xs:=[.tmp 40]) (ps:=[.vc (pS aG.cod [(⟨(a0.dofs.length:Int),v3⟩:aG)])]) rfl tyB51q rfl rfl ⟨trivial,trivial⟩ rfl,fun G32 A=>cZ (is:=[5]) (xs:=[.tmp 40]) (ps:=[.vc (pS aG.cod [(⟨(a0.dofs.length:Int),v3⟩:aG)])]) rfl tyB51q rfl rfl ⟨trivial,trivial⟩ rfl,fun G32 A=>cZ (is:=[5]) (xs:=[.tmp 40]) (ps:=[.vc (pS aG.cod [(⟨(a0.dofs.length:Int),v3⟩:aG)])]) rfl tyB51q rfl rfl ⟨trivial,trivial⟩ rfl,trivial⟩ (fun G32=>zU1)⟩,⟨rfl,.run (L:=[0,1,3]) ⟨fun G32 A=>iJ (C:=aH.cod) (xs:=[.tmp 41]) (ps:=[.va ([pI .i64 0]++[pI .i64 0]++[pI .i64 0]++[pI .i64 0]++(eQ 0)++[pS aG.cod [(⟨(a0.dofs.length:Int),v3⟩:aG)]]++[pS aG.cod ([]:List aG)]++(eQ 0)++(eQ 0))]) (zs:=[(⟨0,0,0,0,0,[(⟨(a0.dofs.length:Int),v3⟩:aG)],([]:List aG),0,0⟩:aH)]) rfl tyS25 rfl ⟨⟨trivial,rfl⟩,trivial⟩ rfl,fun G32 A=>iJ (C:=aH.cod) (xs:=[.tmp 41]) (ps:=[.va ([pI .i64 0]++[pI .i64 0]++[pI .i64 0]++[pI .i64 0]++(eQ 0)++[pS aG.cod [(⟨(a0.dofs.length:Int),v3⟩:aG)]]++[pS aG.cod ([]:List aG)]++(eQ 0)++(eQ 0))]) (zs:=[(⟨0,0,0,0,0,[(⟨(a0.dofs.length:Int),v3⟩:aG)],([]:List aG),0,0⟩:aH)]) rfl tyS25 rfl ⟨⟨trivial,rfl⟩,trivial⟩ rfl,fun G32 A=>iJ (C:=aH.cod) (xs:=[.tmp 41]) (ps:=[.va ([pI .i64 0]++[pI .i64 0]++[pI .i64 0]++[pI .i64 0]++(eQ 0)++[pS aG.cod [(⟨(a0.dofs.length:Int),v3⟩:aG)]]++[pS aG.cod ([]:List aG)]++(eQ 0)++(eQ 0))]) (zs:=[(⟨0,0,0,0,0,[(⟨(a0.dofs.length:Int),v3⟩:aG)],([]:List aG),0,0⟩:aH)]) rfl tyS25 rfl ⟨⟨trivial,rfl⟩,trivial⟩ rfl,trivial⟩ (fun G32=>zU1)⟩,trivial⟩ (fun bs33 G32=>?_)
  obtain⟨x42,h43,hF⟩:=aP hF
  refine jD 0 rfl tyS25 rfl rfl (cL h37 rfl) rfl rfl h43 (fun b44 c45 H46 e47=>?_)
  cases e47
  refine aB (bE (off:=0) (k:=3) rfl tyF27_3) zU1 ?_
  refine bG (dO 3 rfl rfl rfl tyO25.s) zU2 ?_
  refine aC (bJ (aA (aE (aF (uT 0 3 3 rfl (cL h43 (cL h37 rfl)) rfl rfl rfl rfl rfl ?_)))))
  refine aB (bK 2 4 rfl rfl rfl rfl (.agg tyA27)) zU1 ?_
  refine bG (dO 1 rfl rfl rfl tyA27.s) zU2 ?_
  refine aC (aA (a9 (a8 ?_)))
  obtain rfl:=bV hF
  exact aL (.inl rfl) Tryz.results18 (bQ 1 4 rfl rfl rfl rfl (.agg tyA27) .nil) rfl rfl
 have hF:=aX h31 hF
 refine aE (aF (aB (gR rfl) ⟨rfl,bI _ _,trivial⟩ ?_))
 refine bH ?_
 refine aC (aA (bS rfl (fun h49=>?_) (fun h49=>?_)))
 ·have hF:=aV h49 hF
  obtain⟨x54,h55,hF⟩:=aP hF
  refine nJ (HsM [(0,fun G50=>[⟨some b5,1,44,4,1,(eQ v3)⟩,⟨some b2,1,27,4,1,([pS aT.cod ([]:List aT)]++[pS cQ ([]:List Rat)]++[pS cQ ([]:List Rat)]++[pS aH.cod ([]:List aH)])⟩,⟨some b1,1,27,4,1,(bC.enc a0)⟩]),(1,fun G50=>[hO aH.cod ((G50 0).1) 0 51 0 ([]:List aH),⟨some b5,1,44,4,1,(eQ v3)⟩,⟨some b2,1,27,4,1,([pS aT.cod ([]:List aT)]++[pS cQ ([]:List Rat)]++[pS cQ ([]:List Rat)]++[pS aH.cod ([]:List aH)])⟩,⟨some b1,1,27,4,1,(bC.enc a0)⟩]),(3,fun G50=>[hO aH.cod ((G50 3).1) ((G50 3).2) 51 (0+a0.rows.length) x54,⟨some b5,1,44,4,1,(eQ v3)⟩,⟨some b2,1,27,4,1,([pS aT.cod ([]:List aT)]++[pS cQ ([]:List Rat)]++[pS cQ ([]:List Rat)]++[pS aH.cod ([]:List aH)])⟩,⟨some b1,1,27,4,1,(bC.enc a0)⟩])]) [0,3] [0,0,2,7,0,16,0,64,240,496,1008,2047,4095,8191] 11 3 [.g (fun b _=>.vc (pO b 0 0)),.v (.vc (pP (some b1) 3)),.v (.vc (pS aH.cod a0.rows)),.g (fun b c=>.vc (pO b (0+a0.rows.length) c)),.v (.va (eQ v3)),.v (.va ([pI .i64 0]++(eQ v3))),.v (.va (eQ v3)),.v (.va ([pI .i64 0]++(eQ v3))),.v (.vc (pS aG.cod [(⟨0,v3⟩:aG),(⟨0,v3⟩:aG)])),.v (.va ([pI .i64 0]++[pI .i64 0]++[pI .i64 0]++[pI .i64 0]++(eQ 0)++[pS aG.cod ([]:List aG)]++[pS aG.cod [(⟨0,v3⟩:aG),(⟨0,v3⟩:aG)]]++(eQ 0)++(eQ 0))),.v (.vc (pS aH.cod [(⟨0,0,0,0,0,([]:List aG),[(⟨0,v3⟩:aG),(⟨0,v3⟩:aG)],0,0⟩:aH)]))] aU ⟨⟨rfl,.hvy (ins:=fun _=>[]) [0] ⟨fun G50 A=>xR (C:=aH.cod) (xs:=[]) (ps:=[]) (zs:=([]:List aH)) rfl tyS25 rfl trivial rfl,trivial⟩ (fun G50=>trivial)⟩,⟨rfl,.run (L:=[0,1]) ⟨fun G50 A=>bE (off:=0) (k:=3) rfl tyF27_3,fun G50 A=>bE (off:=0) (k:=3) rfl tyF27_3,trivial⟩ (fun G50=>zU1)⟩,⟨rfl,.run (L:=[0,1]) ⟨fun G50 A=>bK 2 1 rfl rfl rfl rfl (.one tyO25),fun G50 A=>bK 3 1 rfl rfl rfl rfl (.one tyO25),trivial⟩ (fun G50=>zU1)⟩,⟨rfl,.hvy [1] ⟨fun G50 A=>aA0 0 rfl tyS25 rfl rfl rfl h55,trivial⟩ (fun G50=>zU2)⟩,⟨rfl,.run (L:=[0,1,3]) ⟨fun G50 A=>bK 0 4 rfl rfl rfl rfl (.agg tyA44),fun G50 A=>bK 1 4 rfl rfl rfl rfl (.agg tyA44),fun G50 A=>bK 1 4 rfl rfl rfl rfl (.agg tyA44),trivial⟩ (fun G50=>zU1)⟩,⟨rfl,.run (L:=[0,1,3]) ⟨fun G50 A=>cZ (is:=[0,1]) (xs:=[.const (.int .i64 (0)),.tmp 51]) (ps:=[.vc (pI .i64 0),.va (eQ v3)]) rfl tyB92q rfl rfl ⟨trivial,trivial,trivial⟩ rfl,fun G50 A=>cZ (is:=[0,1]) (xs:=[.const (.int .i64 (0)),.tmp 51]) (ps:=[.vc (pI .i64 0),.va (eQ v3)]) rfl tyB92q rfl rfl ⟨trivial,trivial,trivial⟩ rfl,fun G50 A=>cZ (is:=[0,1]) (xs:=[.const (.int .i64 (0)),.tmp 51]) (ps:=[.vc (pI .i64 0),.va (eQ v3)]) rfl tyB92q rfl rfl ⟨trivial,trivial,trivial⟩ rfl,trivial⟩ (fun G50=>⟨bI _ _,rfl,trivial⟩)⟩,⟨rfl,.run (L:=[0,1,3]) ⟨fun G50 A=>bK 0 4 rfl rfl rfl rfl (.agg tyA44),fun G50 A=>bK 1 4 rfl rfl rfl rfl (.agg tyA44),fun G50 A=>bK 1 4 rfl rfl rfl rfl (.agg tyA44),trivial⟩ (fun G50=>zU1)⟩,⟨rfl,.run (L:=[0,1,3]) ⟨fun G50 A=>cZ (is:=[0,1]) (xs:=[.const (.int .i64 (0)),.tmp 53]) (ps:=[.vc (pI .i64 0),.va (eQ v3)]) rfl tyB92q rfl rfl ⟨trivial,trivial,trivial⟩ rfl,fun G50 A=>cZ (is:=[0,1]) (xs:=[.const (.int .i64 (0)),.tmp 53]) (ps:=[.vc (pI .i64 0),.va (eQ v3)]) rfl tyB92q rfl rfl ⟨trivial,trivial,trivial⟩ rfl,fun G50 A=>cZ (is:=[0,1]) (xs:=[.const (.int .i64 (0)),.tmp 53]) (ps:=[.vc (pI .i64 0),.va (eQ v3)]) rfl tyB92q rfl rfl ⟨trivial,trivial,trivial⟩ rfl,trivial⟩ (fun G50=>⟨bI _ _,rfl,trivial⟩)⟩,⟨rfl,.run (L:=[0,1,3]) ⟨fun G50 A=>iJ (C:=aG.cod) (xs:=[.tmp 52,.tmp 54]) (ps:=[.va ([pI .i64 0]++(eQ v3)),.va ([pI .i64 0]++(eQ v3))]) (zs:=[(⟨0,v3⟩:aG),(⟨0,v3⟩:aG)]) rfl tyS49 rfl ⟨⟨trivial,rfl⟩,⟨trivial,rfl⟩,trivial⟩ rfl,fun G50 A=>iJ (C:=aG.cod) (xs:=[.tmp 52,.tmp 54]) (ps:=[.va ([pI .i64 0]++(eQ v3)),.va ([pI .i64 0]++(eQ v3))]) (zs:=[(⟨0,v3⟩:aG),(⟨0,v3⟩:aG)]) rfl tyS49 rfl ⟨⟨trivial,rfl⟩,⟨trivial,rfl⟩,trivial⟩ rfl,fun G50 A=>iJ (C:=aG.cod) (xs:=[.tmp 52,.tmp 54]) (ps:=[.va ([pI .i64 0]++(eQ v3)),.va ([pI .i64 0]++(eQ v3))]) (zs:=[(⟨0,v3⟩:aG),(⟨0,v3⟩:aG)]) rfl tyS49 rfl ⟨⟨trivial,rfl⟩,⟨trivial,rfl⟩,trivial⟩ rfl,trivial⟩ (fun G50=>zU2)⟩,⟨rfl,.run (L:=[0,1,3]) ⟨fun G50 A=>cZ (is:=[6]) (xs:=[.tmp 55]) (ps:=[.vc (pS aG.cod [(⟨0,v3⟩:aG),(⟨0,v3⟩:aG)])]) rfl tyB51q rfl rfl ⟨trivial,trivial⟩ rfl,fun G50 A=>cZ (is:=[6]) (xs:=[.tmp 55]) (ps:=[.vc (pS aG.cod [(⟨0,v3⟩:aG),(⟨0,v3⟩:aG)])]) rfl tyB51q rfl rfl ⟨trivial,trivial⟩ rfl,fun G50 A=>cZ (is:=[6]) (xs:=[.tmp 55]) (ps:=[.vc (pS aG.cod [(⟨0,v3⟩:aG),(⟨0,v3⟩:aG)])]) rfl tyB51q rfl rfl ⟨trivial,trivial⟩ rfl,trivial⟩ (fun G50=>zU1)⟩,⟨rfl,.run (L:=[0,1,3]) ⟨fun G50 A=>iJ (C:=aH.cod) (xs:=[.tmp 56]) (ps:=[.va ([pI .i64 0]++[pI .i64 0]++[pI .i64 0]++[pI .i64 0]++(eQ 0)++[pS aG.cod ([]:List aG)]++[pS aG.cod [(⟨0,v3⟩:aG),(⟨0,v3⟩:aG)]]++(eQ 0)++(eQ 0))]) (zs:=[(⟨0,0,0,0,0,([]:List aG),[(⟨0,v3⟩:aG),(⟨0,v3⟩:aG)],0,0⟩:aH)]) rfl tyS25 rfl ⟨⟨trivial,rfl⟩,trivial⟩ rfl,fun G50 A=>iJ (C:=aH.cod) (xs:=[.tmp 56]) (ps:=[.va ([pI .i64 0]++[pI .i64 0]++[pI .i64 0]++[pI .i64 0]++(eQ 0)++[pS aG.cod ([]:List aG)]++[pS aG.cod [(⟨0,v3⟩:aG),(⟨0,v3⟩:aG)]]++(eQ 0)++(eQ 0))]) (zs:=[(⟨0,0,0,0,0,([]:List aG),[(⟨0,v3⟩:aG),(⟨0,v3⟩:aG)],0,0⟩:aH)]) rfl tyS25 rfl ⟨⟨trivial,rfl⟩,trivial⟩ rfl,fun G50 A=>iJ (C:=aH.cod) (xs:=[.tmp 56]) (ps:=[.va ([pI .i64 0]++[pI .i64 0]++[pI .i64 0]++[pI .i64 0]++(eQ 0)++[pS aG.cod ([]:List aG)]++[pS aG.cod [(⟨0,v3⟩:aG),(⟨0,v3⟩:aG)]]++(eQ 0)++(eQ 0))]) (zs:=[(⟨0,0,0,0,0,([]:List aG),[(⟨0,v3⟩:aG),(⟨0,v3⟩:aG)],0,0⟩:aH)]) rfl tyS25 rfl ⟨⟨trivial,rfl⟩,trivial⟩ rfl,trivial⟩ (fun G50=>zU1)⟩,trivial⟩ (fun bs51 G50=>?_)
  obtain⟨x60,h61,hF⟩:=aP hF
  refine jD 0 rfl tyS25 rfl rfl (cL h55 rfl) rfl rfl h61 (fun b62 c63 H64 e65=>?_)
  cases e65
  refine aB (bE (off:=0) (k:=3) rfl tyF27_3) zU1 ?_
  refine bG (dO 3 rfl rfl rfl tyO25.s) zU2 ?_
  refine aC (bJ (aA (aE (aF (uT 0 3 3 rfl (cL h61 (cL h55 rfl)) rfl rfl rfl rfl rfl ?_)))))
  refine aB (bK 2 4 rfl rfl rfl rfl (.agg tyA27)) zU1 ?_
  refine bG (dO 1 rfl rfl rfl tyA27.s) zU2 ?_
  refine aC (aA (a9 (a8 ?_)))
  obtain rfl:=bV hF
  exact aL (.inl rfl) Tryz.results18 (bQ 1 4 rfl rfl rfl rfl (.agg tyA27) .nil) rfl rfl
 have hF:=aX h49 hF
 refine aE (aF (aB (gR rfl) ⟨rfl,bI _ _,trivial⟩ ?_))
 refine bH ?_
 refine aC (aA (bS rfl (fun h67=>?_) (fun h67=>?_)))
 ·have hF:=aV h67 hF
  refine aF (aEI (xR (C:=aH.cod) (xs:=[]) (ps:=[]) (zs:=([]:List aH)) rfl tyS25 rfl trivial rfl) trivial (fun b68 _=>?_))
  refine aB (bE (off:=0) (k:=3) rfl tyF27_3) zU1 ?_
  refine aB (bK 3 1 rfl rfl rfl rfl (.one tyO25)) zU1 ?_
  obtain⟨x71,h72,hF⟩:=aP hF
  refine jD 0 rfl tyS25 rfl rfl rfl rfl rfl h72 (fun b73 c74 H75 e76=>?_)
  cases e76
  obtain⟨v78,h79,hF⟩:=aP hF
  refine aB (aJ rfl (bY h79) rfl) ⟨bI _ _,bI _ _,trivial⟩ ?_
  refine aB (cZ (is:=[7]) (xs:=[.tmp 66]) (ps:=[.va (eQ v78)]) rfl tyB51q rfl rfl ⟨trivial,trivial⟩ rfl) zU1 ?_
  refine aB (iJ (C:=aH.cod) (xs:=[.tmp 67]) (ps:=[.va ([pI .i64 0]++[pI .i64 0]++[pI .i64 0]++[pI .i64 0]++(eQ 0)++[pS aG.cod ([]:List aG)]++[pS aG.cod ([]:List aG)]++(eQ v78)++(eQ 0))]) (zs:=[(⟨0,0,0,0,0,([]:List aG),([]:List aG),v78,0⟩:aH)]) rfl tyS25 rfl ⟨⟨trivial,rfl⟩,trivial⟩ rfl) zU1 ?_
  obtain⟨x80,h81,hF⟩:=aP hF
  refine jD 0 rfl tyS25 rfl rfl (cL h72 rfl) rfl rfl h81 (fun b82 c83 H84 e85=>?_)
  cases e85
  refine aB (bE (off:=0) (k:=3) rfl tyF27_3) zU1 ?_
  refine bG (dO 3 rfl rfl rfl tyO25.s) zU2 ?_
  refine aC (bJ (aA (aE (aF (uT 0 3 3 rfl (cL h81 (cL h72 rfl)) rfl rfl rfl rfl rfl ?_)))))
  refine aB (bK 2 4 rfl rfl rfl rfl (.agg tyA27)) zU1 ?_
  refine bG (dO 1 rfl rfl rfl tyA27.s) zU2 ?_
  refine aC (aA (a9 (a8 ?_)))
  obtain rfl:=bV hF
  exact aL (.inl rfl) Tryz.results18 (bQ 1 4 rfl rfl rfl rfl (.agg tyA27) .nil) rfl rfl
 have hF:=aX h67 hF
 refine aE (aF (aB (gR rfl) ⟨rfl,bI _ _,trivial⟩ ?_))
 refine bH ?_
 refine aC (aA (bS rfl (fun h87=>?_) (fun h87=>?_)))
 ·have hF:=aV h87 hF
  refine aF (aEI (xR (C:=aT.cod) (xs:=[]) (ps:=[]) (zs:=([]:List aT)) rfl tyS23 rfl trivial rfl) trivial (fun b88 _=>?_))
  refine aB (bE (off:=0) (k:=0) rfl tyF27_0) zU1 ?_
  refine aB (bK 3 1 rfl rfl rfl rfl (.one tyO23)) zU1 ?_
  refine aI ?_
  obtain⟨v91,h92,hF⟩:=aP hF
  refine aB (eM rfl h92) ⟨rfl,bI _ _,trivial⟩ ?_
  obtain⟨x93,h94,hF⟩:=aP hF
  refine aB (z6 rfl tyS23 h94) zU2 ?_
  obtain⟨x95,h96,hF⟩:=aP hF
  refine jD 0 rfl tyS23 rfl rfl rfl rfl rfl h96 (fun b97 c98 H99 e100=>?_)
  cases e100
  refine aB (cZ (is:=[]) (xs:=[]) (ps:=[]) rfl tyB108q rfl rfl trivial rfl) trivial ?_
  refine aB (iJ (C:=aT.cod) (xs:=[.tmp 80]) (ps:=[.va ((eQ 0)++(eQ 0)++[pB false]++(eQ 0)++(eQ 0))]) (zs:=[(⟨0,0,false,0,0⟩:aT)]) rfl tyS23 rfl ⟨⟨trivial,rfl⟩,trivial⟩ rfl) zU1 ?_
  obtain⟨x102,h103,hF⟩:=aP hF
  refine jD 0 rfl tyS23 rfl rfl (cL h96 rfl) rfl rfl h103 (fun b104 c105 H106 e107=>?_)
  cases e107
  refine aB (bE (off:=0) (k:=0) rfl tyF27_0) zU1 ?_
  refine bG (dO 3 rfl rfl rfl tyO23.s) zU2 ?_
  refine aC (bJ (aA (aE (aF (uT 0 3 0 rfl (cL h103 (cL h96 rfl)) rfl rfl rfl rfl rfl ?_)))))
  refine aB (bK 2 4 rfl rfl rfl rfl (.agg tyA27)) zU1 ?_
  refine bG (dO 1 rfl rfl rfl tyA27.s) zU2 ?_
  refine aC (aA (a9 (a8 ?_)))
  obtain rfl:=bV hF
  exact aL (.inl rfl) Tryz.results18 (bQ 1 4 rfl rfl rfl rfl (.agg tyA27) .nil) rfl rfl
 have hF:=aX h87 hF
 refine aE (aF (aB (gR rfl) ⟨rfl,bI _ _,trivial⟩ ?_))
 refine bH ?_
 refine aC (aA (bS rfl (fun h109=>?_) (fun h109=>?_)))
 ·have hF:=aV h109 hF
  refine aE ?_
  obtain⟨v114,h115,hF⟩:=aP hF
  obtain⟨x116,h117,hF⟩:=aP hF
  obtain⟨x118,h119,hF⟩:=aP hF
  refine nJ (HsM [(0,fun G110=>[⟨some b5,1,44,4,1,(eQ v3)⟩,⟨some b2,1,27,4,1,([pS aT.cod ([]:List aT)]++[pS cQ ([]:List Rat)]++[pS cQ ([]:List Rat)]++[pS aH.cod ([]:List aH)])⟩,⟨some b1,1,27,4,1,(bC.enc a0)⟩]),(1,fun G110=>[hO cQ ((G110 0).1) 0 44 0 ([]:List Rat),⟨some b5,1,44,4,1,(eQ v3)⟩,⟨some b2,1,27,4,1,([pS aT.cod ([]:List aT)]++[pS cQ ([]:List Rat)]++[pS cQ ([]:List Rat)]++[pS aH.cod ([]:List aH)])⟩,⟨some b1,1,27,4,1,(bC.enc a0)⟩]),(3,fun G110=>[hO cQ ((G110 6).1) ((G110 6).2) 44 (0+x116.length) x118,⟨some b5,1,44,4,1,(eQ v3)⟩,⟨some b2,1,27,4,1,([pS aT.cod ([]:List aT)]++[pS cQ ([]:List Rat)]++[pS cQ ([]:List Rat)]++[pS aH.cod ([]:List aH)])⟩,⟨some b1,1,27,4,1,(bC.enc a0)⟩])]) [0,6] [0,0,2,0,8,30,63,0,128,511,1023,2047] 9 3 [.g (fun b _=>.vc (pO b 0 0)),.v (.vc (pP (some b1) 2)),.v (.vc (pS cQ a0.v)),.v (.vc (pI .i64 (a0.dofs.length:Int))),.v (.vc (pI .i64 v114)),.v (.vc (pS cQ x116)),.g (fun b c=>.vc (pO b (0+x116.length) c)),.v (.va (eQ v3)),.v (.vc (pS cQ [v3]))] aU ⟨⟨rfl,.hvy (ins:=fun _=>[]) [0] ⟨fun G110 A=>xR (C:=cQ) (xs:=[]) (ps:=[]) (zs:=([]:List Rat)) rfl tyS24 rfl trivial rfl,trivial⟩ (fun G110=>trivial)⟩,⟨rfl,.run (L:=[0,1]) ⟨fun G110 A=>bE (off:=0) (k:=2) rfl tyF27_2,fun G110 A=>bE (off:=0) (k:=2) rfl tyF27_2,trivial⟩ (fun G110=>zU1)⟩,⟨rfl,.run (L:=[0,1]) ⟨fun G110 A=>bK 2 1 rfl rfl rfl rfl (.one tyO24),fun G110 A=>bK 3 1 rfl rfl rfl rfl (.one tyO24),trivial⟩ (fun G110=>zU1)⟩,⟨rfl,.run (L:=[0,1]) ⟨fun G110 A=>aN (.inl rfl),fun G110 A=>aN (.inl rfl),trivial⟩ (fun G110=>zU1)⟩,⟨rfl,.run (L:=[0,1]) ⟨fun G110 A=>eM rfl h115,fun G110 A=>eM rfl h115,trivial⟩ (fun G110=>⟨rfl,bI _ _,trivial⟩)⟩,⟨rfl,.run (L:=[0,1]) ⟨fun G110 A=>z6 rfl tyS24 h117,fun G110 A=>z6 rfl tyS24 h117,trivial⟩ (fun G110=>zU2)⟩,⟨rfl,.hvy [1] ⟨fun G110 A=>aA0 0 rfl tyS24 rfl rfl rfl h119,trivial⟩ (fun G110=>zU2)⟩,⟨rfl,.run (L:=[0,1,3]) ⟨fun G110 A=>bK 0 4 rfl rfl rfl rfl (.agg tyA44),fun G110 A=>bK 1 4 rfl rfl rfl rfl (.agg tyA44),fun G110 A=>bK 1 4 rfl rfl rfl rfl (.agg tyA44),trivial⟩ (fun G110=>zU1)⟩,⟨rfl,.run (L:=[0,1,3]) ⟨fun G110 A=>iJ (C:=cQ) (xs:=[.tmp 93]) (ps:=[.va (eQ v3)]) (zs:=[v3]) rfl tyS24 rfl ⟨⟨trivial,rfl⟩,trivial⟩ rfl,fun G110 A=>iJ (C:=cQ) (xs:=[.tmp 93]) (ps:=[.va (eQ v3)]) (zs:=[v3]) rfl tyS24 rfl ⟨⟨trivial,rfl⟩,trivial⟩ rfl,fun G110 A=>iJ (C:=cQ) (xs:=[.tmp 93]) (ps:=[.va (eQ v3)]) (zs:=[v3]) rfl tyS24 rfl ⟨⟨trivial,rfl⟩,trivial⟩ rfl,trivial⟩ (fun G110=>zU1)⟩,trivial⟩ (fun bs111 G110=>?_)
  obtain⟨x124,h125,hF⟩:=aP hF
  refine jD 0 rfl tyS24 rfl rfl (cL h119 rfl) rfl rfl h125 (fun b126 c127 H128 e129=>?_)
  cases e129
  refine aB (bE (off:=0) (k:=2) rfl tyF27_2) zU1 ?_
  refine bG (dO 3 rfl rfl rfl tyO24.s) zU2 ?_
  refine aC (aA ?_)
  obtain⟨x135,h136,hF⟩:=aP hF
  obtain⟨v138,h139,hF⟩:=aP hF
  refine nJ (HsM [(0,fun G131=>[hO cQ b126 c127 44 ((0+x116.length)+[v3].length) x124,⟨some b5,1,44,4,1,(eQ v3)⟩,⟨some b2,1,27,4,1,([pS aT.cod ([]:List aT)]++[pS cQ ([]:List Rat)]++[pS cQ ([]:List Rat)]++[pS aH.cod ([]:List aH)])⟩,⟨some b1,1,27,4,1,([pS aT.cod a0.dofs]++[pS cQ a0.load]++[pO b126 ((0+x116.length)+[v3].length) c127]++[pS aH.cod a0.rows])⟩]),(1,fun G131=>[hO aH.cod ((G131 0).1) 0 51 0 ([]:List aH),hO cQ b126 c127 44 ((0+x116.length)+[v3].length) x124,⟨some b5,1,44,4,1,(eQ v3)⟩,⟨some b2,1,27,4,1,([pS aT.cod ([]:List aT)]++[pS cQ ([]:List Rat)]++[pS cQ ([]:List Rat)]++[pS aH.cod ([]:List aH)])⟩,⟨some b1,1,27,4,1,([pS aT.cod a0.dofs]++[pS cQ a0.load]++[pO b126 ((0+x116.length)+[v3].length) c127]++[pS aH.cod a0.rows])⟩]),(3,fun G131=>[hO aH.cod ((G131 3).1) ((G131 3).2) 51 (0+a0.rows.length) x135,hO cQ b126 c127 44 ((0+x116.length)+[v3].length) x124,⟨some b5,1,44,4,1,(eQ v3)⟩,⟨some b2,1,27,4,1,([pS aT.cod ([]:List aT)]++[pS cQ ([]:List Rat)]++[pS cQ ([]:List Rat)]++[pS aH.cod ([]:List aH)])⟩,⟨some b1,1,27,4,1,([pS aT.cod a0.dofs]++[pS cQ a0.load]++[pO b126 ((0+x116.length)+[v3].length) c127]++[pS aH.cod a0.rows])⟩])]) [0,3] [0,0,2,7,0,16,0,112,240,496,1008,2047,4095,8191] 11 3 [.g (fun b _=>.vc (pO b 0 0)),.v (.vc (pP (some b1) 3)),.v (.vc (pS aH.cod a0.rows)),.g (fun b c=>.vc (pO b (0+a0.rows.length) c)),.v (.vc (pI .i64 (a0.dofs.length:Int))),.v (.vc (pI .i64 v138)),.v (.va (eQ v3)),.v (.va ([pI .i64 v138]++(eQ v3))),.v (.vc (pS aG.cod [(⟨v138,v3⟩:aG)])),.v (.va ([pI .i64 0]++[pI .i64 0]++[pI .i64 0]++[pI .i64 0]++(eQ 0)++[pS aG.cod [(⟨v138,v3⟩:aG)]]++[pS aG.cod ([]:List aG)]++(eQ 0)++(eQ 0))),.v (.vc (pS aH.cod [(⟨0,0,0,0,0,[(⟨v138,v3⟩:aG)],([]:List aG),0,0⟩:aH)]))] aU ⟨⟨rfl,.hvy (ins:=fun _=>[]) [0] ⟨fun G131 A=>xR (C:=aH.cod) (xs:=[]) (ps:=[]) (zs:=([]:List aH)) rfl tyS25 rfl trivial rfl,trivial⟩ (fun G131=>trivial)⟩,⟨rfl,.run (L:=[0,1]) ⟨fun G131 A=>bE (off:=0) (k:=3) rfl tyF27_3,fun G131 A=>bE (off:=0) (k:=3) rfl tyF27_3,trivial⟩ (fun G131=>zU1)⟩,⟨rfl,.run (L:=[0,1]) ⟨fun G131 A=>bK 3 1 rfl rfl rfl rfl (.one tyO25),fun G131 A=>bK 4 1 rfl rfl rfl rfl (.one tyO25),trivial⟩ (fun G131=>zU1)⟩,⟨rfl,.hvy [1] ⟨fun G131 A=>aA0 0 rfl tyS25 rfl rfl rfl h136,trivial⟩ (fun G131=>zU2)⟩,⟨rfl,.run (L:=[0,1,3]) ⟨fun G131 A=>aN (.inl rfl),fun G131 A=>aN (.inl rfl),fun G131 A=>aN (.inl rfl),trivial⟩ (fun G131=>zU1)⟩,⟨rfl,.run (L:=[0,1,3]) ⟨fun G131 A=>eM rfl h139,fun G131 A=>eM rfl h139,fun G131 A=>eM rfl h139,trivial⟩ (fun G131=>⟨rfl,bI _ _,trivial⟩)⟩,⟨rfl,.run (L:=[0,1,3]) ⟨fun G131 A=>bK 1 4 rfl rfl rfl rfl (.agg tyA44),fun G131 A=>bK 2 4 rfl rfl rfl rfl (.agg tyA44),fun G131 A=>bK 2 4 rfl rfl rfl rfl (.agg tyA44),trivial⟩ (fun G131=>zU1)⟩,⟨rfl,.run (L:=[0,1,3]) ⟨fun G131 A=>cZ (is:=[0,1]) (xs:=[.tmp 102,.tmp 103]) (ps:=[.vc (pI .i64 v138),.va (eQ v3)]) rfl tyB92q rfl rfl ⟨trivial,trivial,trivial⟩ rfl,fun G131 A=>cZ (is:=[0,1]) (xs:=[.tmp 102,.tmp 103]) (ps:=[.vc (pI .i64 v138),.va (eQ v3)]) rfl tyB92q rfl rfl ⟨trivial,trivial,trivial⟩ rfl,fun G131 A=>cZ (is:=[0,1]) (xs:=[.tmp 102,.tmp 103]) (ps:=[.vc (pI .i64 v138),.va (eQ v3)]) rfl tyB92q rfl rfl ⟨trivial,trivial,trivial⟩ rfl,trivial⟩ (fun G131=>zU2)⟩,⟨rfl,.run (L:=[0,1,3]) ⟨fun G131 A=>iJ (C:=aG.cod) (xs:=[.tmp 104]) (ps:=[.va ([pI .i64 v138]++(eQ v3))]) (zs:=[(⟨v138,v3⟩:aG)]) rfl tyS49 rfl ⟨⟨trivial,rfl⟩,trivial⟩ rfl,fun G131 A=>iJ (C:=aG.cod) (xs:=[.tmp 104]) (ps:=[.va ([pI .i64 v138]++(eQ v3))]) (zs:=[(⟨v138,v3⟩:aG)]) rfl tyS49 rfl ⟨⟨trivial,rfl⟩,trivial⟩ rfl,fun G131 A=>iJ (C:=aG.cod) (xs:=[.tmp 104]) (ps:=[.va ([pI .i64 v138]++(eQ v3))]) (zs:=[(⟨v138,v3⟩:aG)]) rfl tyS49 rfl ⟨⟨trivial,rfl⟩,trivial⟩ rfl,trivial⟩ (fun G131=>zU1)⟩,⟨rfl,.run (L:=[0,1,3]) ⟨fun G131 A=>cZ (is:=[5]) (xs:=[.tmp 105]) (ps:=[.vc (pS aG.cod [(⟨v138,v3⟩:aG)])]) rfl tyB51q rfl rfl ⟨trivial,trivial⟩ rfl,fun G131 A=>cZ (is:=[5]) (xs:=[.tmp 105]) (ps:=[.vc (pS aG.cod [(⟨v138,v3⟩:aG)])]) rfl tyB51q rfl rfl ⟨trivial,trivial⟩ rfl,fun G131 A=>cZ (is:=[5]) (xs:=[.tmp 105]) (ps:=[.vc (pS aG.cod [(⟨v138,v3⟩:aG)])]) rfl tyB51q rfl rfl ⟨trivial,trivial⟩ rfl,trivial⟩ (fun G131=>zU1)⟩,⟨rfl,.run (L:=[0,1,3]) ⟨fun G131 A=>iJ (C:=aH.cod) (xs:=[.tmp 106]) (ps:=[.va ([pI .i64 0]++[pI .i64 0]++[pI .i64 0]++[pI .i64 0]++(eQ 0)++[pS aG.cod [(⟨v138,v3⟩:aG)]]++[pS aG.cod ([]:List aG)]++(eQ 0)++(eQ 0))]) (zs:=[(⟨0,0,0,0,0,[(⟨v138,v3⟩:aG)],([]:List aG),0,0⟩:aH)]) rfl tyS25 rfl ⟨⟨trivial,rfl⟩,trivial⟩ rfl,fun G131 A=>iJ (C:=aH.cod) (xs:=[.tmp 106]) (ps:=[.va ([pI .i64 0]++[pI .i64 0]++[pI .i64 0]++[pI .i64 0]++(eQ 0)++[pS aG.cod [(⟨v138,v3⟩:aG)]]++[pS aG.cod ([]:List aG)]++(eQ 0)++(eQ 0))]) (zs:=[(⟨0,0,0,0,0,[(⟨v138,v3⟩:aG)],([]:List aG),0,0⟩:aH)]) rfl tyS25 rfl ⟨⟨trivial,rfl⟩,trivial⟩ rfl,fun G131 A=>iJ (C:=aH.cod) (xs:=[.tmp 106]) (ps:=[.va ([pI .i64 0]++[pI .i64 0]++[pI .i64 0]++[pI .i64 0]++(eQ 0)++[pS aG.cod [(⟨v138,v3⟩:aG)]]++[pS aG.cod ([]:List aG)]++(eQ 0)++(eQ 0))]) (zs:=[(⟨0,0,0,0,0,[(⟨v138,v3⟩:aG)],([]:List aG),0,0⟩:aH)]) rfl tyS25 rfl ⟨⟨trivial,rfl⟩,trivial⟩ rfl,trivial⟩ (fun G131=>zU1)⟩,trivial⟩ (fun bs132 G131=>?_)
  obtain⟨x143,h144,hF⟩:=aP hF
  refine jD 0 rfl tyS25 rfl rfl (cL h136 rfl) rfl rfl h144 (fun b145 c146 H147 e148=>?_)
  cases e148
  refine aB (bE (off:=0) (k:=3) rfl tyF27_3) zU1 ?_
  refine bG (dO 4 rfl rfl rfl tyO25.s) zU2 ?_
  refine aC (bJ (aA (aE (aF (uT 1 4 2 rfl (cL h125 (cL h119 rfl)) rfl rfl rfl rfl rfl ?_)))))
  refine uT 0 3 3 rfl (cL h144 (cL h136 rfl)) rfl rfl rfl rfl rfl ?_
  refine aB (bK 2 4 rfl rfl rfl rfl (.agg tyA27)) zU1 ?_
  refine bG (dO 1 rfl rfl rfl tyA27.s) zU2 ?_
  refine aC (aA (a9 (a8 ?_)))
  obtain rfl:=bV hF
  exact aL (.inl rfl) Tryz.results18 (bQ 1 4 rfl rfl rfl rfl (.agg tyA27) .nil) rfl rfl
 have hF:=aX h109 hF
 refine aE (aF (aB (gR rfl) ⟨rfl,bI _ _,trivial⟩ ?_))
 refine bH ?_
 refine aC (aA (bS rfl (fun h150=>?_) (fun h150=>?_)))
 ·have hF:=aV h150 hF
  obtain⟨x155,h156,hF⟩:=aP hF
  refine nJ (HsM [(0,fun G151=>[⟨some b5,1,44,4,1,(eQ v3)⟩,⟨some b2,1,27,4,1,([pS aT.cod ([]:List aT)]++[pS cQ ([]:List Rat)]++[pS cQ ([]:List Rat)]++[pS aH.cod ([]:List aH)])⟩,⟨some b1,1,27,4,1,(bC.enc a0)⟩]),(1,fun G151=>[hO aH.cod ((G151 0).1) 0 51 0 ([]:List aH),⟨some b5,1,44,4,1,(eQ v3)⟩,⟨some b2,1,27,4,1,([pS aT.cod ([]:List aT)]++[pS cQ ([]:List Rat)]++[pS cQ ([]:List Rat)]++[pS aH.cod ([]:List aH)])⟩,⟨some b1,1,27,4,1,(bC.enc a0)⟩]),(3,fun G151=>[hO aH.cod ((G151 3).1) ((G151 3).2) 51 (0+a0.rows.length) x155,⟨some b5,1,44,4,1,(eQ v3)⟩,⟨some b2,1,27,4,1,([pS aT.cod ([]:List aT)]++[pS cQ ([]:List Rat)]++[pS cQ ([]:List Rat)]++[pS aH.cod ([]:List aH)])⟩,⟨some b1,1,27,4,1,(bC.enc a0)⟩])]) [0,3] [0,0,2,7,0,16,48,112,240,511,1023,2047] 9 3 [.g (fun b _=>.vc (pO b 0 0)),.v (.vc (pP (some b1) 3)),.v (.vc (pS aH.cod a0.rows)),.g (fun b c=>.vc (pO b (0+a0.rows.length) c)),.v (.va (eQ v3)),.v (.va ([pI .i64 (-1)]++(eQ v3))),.v (.vc (pS aG.cod [(⟨(-1),v3⟩:aG)])),.v (.va ([pI .i64 0]++[pI .i64 0]++[pI .i64 0]++[pI .i64 0]++(eQ 0)++[pS aG.cod [(⟨(-1),v3⟩:aG)]]++[pS aG.cod ([]:List aG)]++(eQ 0)++(eQ 0))),.v (.vc (pS aH.cod [(⟨0,0,0,0,0,[(⟨(-1),v3⟩:aG)],([]:List aG),0,0⟩:aH)]))] aU ⟨⟨rfl,.hvy (ins:=fun _=>[]) [0] ⟨fun G151 A=>xR (C:=aH.cod) (xs:=[]) (ps:=[]) (zs:=([]:List aH)) rfl tyS25 rfl trivial rfl,trivial⟩ (fun G151=>trivial)⟩,⟨rfl,.run (L:=[0,1]) ⟨fun G151 A=>bE (off:=0) (k:=3) rfl tyF27_3,fun G151 A=>bE (off:=0) (k:=3) rfl tyF27_3,trivial⟩ (fun G151=>zU1)⟩,⟨rfl,.run (L:=[0,1]) ⟨fun G151 A=>bK 2 1 rfl rfl rfl rfl (.one tyO25),fun G151 A=>bK 3 1 rfl rfl rfl rfl (.one tyO25),trivial⟩ (fun G151=>zU1)⟩,⟨rfl,.hvy [1] ⟨fun G151 A=>aA0 0 rfl tyS25 rfl rfl rfl h156,trivial⟩ (fun G151=>zU2)⟩,⟨rfl,.run (L:=[0,1,3]) ⟨fun G151 A=>bK 0 4 rfl rfl rfl rfl (.agg tyA44),fun G151 A=>bK 1 4 rfl rfl rfl rfl (.agg tyA44),fun G151 A=>bK 1 4 rfl rfl rfl rfl (.agg tyA44),trivial⟩ (fun G151=>zU1)⟩,⟨rfl,.run (L:=[0,1,3]) ⟨fun G151 A=>cZ (is:=[0,1]) (xs:=[.const (.int .i64 (-1)),.tmp 116]) (ps:=[.vc (pI .i64 (-1)),.va (eQ v3)]) rfl tyB92q rfl rfl ⟨trivial,trivial,trivial⟩ rfl,fun G151 A=>cZ (is:=[0,1]) (xs:=[.const (.int .i64 (-1)),.tmp 116]) (ps:=[.vc (pI .i64 (-1)),.va (eQ v3)]) rfl tyB92q rfl rfl ⟨trivial,trivial,trivial⟩ rfl,fun G151 A=>cZ (is:=[0,1]) (xs:=[.const (.int .i64 (-1)),.tmp 116]) (ps:=[.vc (pI .i64 (-1)),.va (eQ v3)]) rfl tyB92q rfl rfl ⟨trivial,trivial,trivial⟩ rfl,trivial⟩ (fun G151=>⟨bI _ _,rfl,trivial⟩)⟩,⟨rfl,.run (L:=[0,1,3]) ⟨fun G151 A=>iJ (C:=aG.cod) (xs:=[.tmp 117]) (ps:=[.va ([pI .i64 (-1)]++(eQ v3))]) (zs:=[(⟨(-1),v3⟩:aG)]) rfl tyS49 rfl ⟨⟨trivial,rfl⟩,trivial⟩ rfl,fun G151 A=>iJ (C:=aG.cod) (xs:=[.tmp 117]) (ps:=[.va ([pI .i64 (-1)]++(eQ v3))]) (zs:=[(⟨(-1),v3⟩:aG)]) rfl tyS49 rfl ⟨⟨trivial,rfl⟩,trivial⟩ rfl,fun G151 A=>iJ (C:=aG.cod) (xs:=[.tmp 117]) (ps:=[.va ([pI .i64 (-1)]++(eQ v3))]) (zs:=[(⟨(-1),v3⟩:aG)]) rfl tyS49 rfl ⟨⟨trivial,rfl⟩,trivial⟩ rfl,trivial⟩ (fun G151=>zU1)⟩,⟨rfl,.run (L:=[0,1,3]) ⟨fun G151 A=>cZ (is:=[5]) (xs:=[.tmp 118]) (ps:=[.vc (pS aG.cod [(⟨(-1),v3⟩:aG)])]) rfl tyB51q rfl rfl ⟨trivial,trivial⟩ rfl,fun G151 A=>cZ (is:=[5]) (xs:=[.tmp 118]) (ps:=[.vc (pS aG.cod [(⟨(-1),v3⟩:aG)])]) rfl tyB51q rfl rfl ⟨trivial,trivial⟩ rfl,fun G151 A=>cZ (is:=[5]) (xs:=[.tmp 118]) (ps:=[.vc (pS aG.cod [(⟨(-1),v3⟩:aG)])]) rfl tyB51q rfl rfl ⟨trivial,trivial⟩ rfl,trivial⟩ (fun G151=>zU1)⟩,⟨rfl,.run (L:=[0,1,3]) ⟨fun G151 A=>iJ (C:=aH.cod) (xs:=[.tmp 119]) (ps:=[.va ([pI .i64 0]++[pI .i64 0]++[pI .i64 0]++[pI .i64 0]++(eQ 0)++[pS aG.cod [(⟨(-1),v3⟩:aG)]]++[pS aG.cod ([]:List aG)]++(eQ 0)++(eQ 0))]) (zs:=[(⟨0,0,0,0,0,[(⟨(-1),v3⟩:aG)],([]:List aG),0,0⟩:aH)]) rfl tyS25 rfl ⟨⟨trivial,rfl⟩,trivial⟩ rfl,fun G151 A=>iJ (C:=aH.cod) (xs:=[.tmp 119]) (ps:=[.va ([pI .i64 0]++[pI .i64 0]++[pI .i64 0]++[pI .i64 0]++(eQ 0)++[pS aG.cod [(⟨(-1),v3⟩:aG)]]++[pS aG.cod ([]:List aG)]++(eQ 0)++(eQ 0))]) (zs:=[(⟨0,0,0,0,0,[(⟨(-1),v3⟩:aG)],([]:List aG),0,0⟩:aH)]) rfl tyS25 rfl ⟨⟨trivial,rfl⟩,trivial⟩ rfl,fun G151 A=>iJ (C:=aH.cod) (xs:=[.tmp 119]) (ps:=[.va ([pI .i64 0]++[pI .i64 0]++[pI .i64 0]++[pI .i64 0]++(eQ 0)++[pS aG.cod [(⟨(-1),v3⟩:aG)]]++[pS aG.cod ([]:List aG)]++(eQ 0)++(eQ 0))]) (zs:=[(⟨0,0,0,0,0,[(⟨(-1),v3⟩:aG)],([]:List aG),0,0⟩:aH)]) rfl tyS25 rfl ⟨⟨trivial,rfl⟩,trivial⟩ rfl,trivial⟩ (fun G151=>zU1)⟩,trivial⟩ (fun bs152 G151=>?_)
  obtain⟨x161,h162,hF⟩:=aP hF
  refine jD 0 rfl tyS25 rfl rfl (cL h156 rfl) rfl rfl h162 (fun b163 c164 H165 e166=>?_)
  cases e166
  refine aB (bE (off:=0) (k:=3) rfl tyF27_3) zU1 ?_
  refine bG (dO 3 rfl rfl rfl tyO25.s) zU2 ?_
  refine aC (bJ (aA (aE (aF (uT 0 3 3 rfl (cL h162 (cL h156 rfl)) rfl rfl rfl rfl rfl ?_)))))
  refine aB (bK 2 4 rfl rfl rfl rfl (.agg tyA27)) zU1 ?_
  refine bG (dO 1 rfl rfl rfl tyA27.s) zU2 ?_
  refine aC (aA (a9 (a8 ?_)))
  obtain rfl:=bV hF
  exact aL (.inl rfl) Tryz.results18 (bQ 1 4 rfl rfl rfl rfl (.agg tyA27) .nil) rfl rfl
 have hF:=aX h150 hF
 refine bA (bJ (aA (aE (aF (aB (bK 2 4 rfl rfl rfl rfl (.agg tyA27)) zU1 ?_)))))
 refine bG (dO 1 rfl rfl rfl tyA27.s) zU2 ?_
 refine aC (aA (a9 (a8 ?_)))
 obtain rfl:=bV hF
 exact aL (.inl rfl) Tryz.results18 (bQ 1 4 rfl rfl rfl rfl (.agg tyA27) .nil) rfl rfl
def o5 (K:Nat):Option Int:=
 some (-1)
def lG (K:Nat) (a0:List aO) (a1:(aO→Option Bool)):Nat→Int→Option (LR Int Unit)
 |0,_=>none
 |k+1,x2=>bif(decide (x2<(a0.length:Int))) then((dC a0 x2).bind fun v6=>(a1 v6).bind fun v8=>bif v8 then(some (.ret x2)) else((bW (x2+1)).bind fun v11=>lG K a0 a1 k v11)) else(some (.go ()))
def qW (K:Nat) (a0:List aO) (a1:(aO→Option Bool)):Option Int:=
 (lG K a0 a1 K 0).bind fun o=>match o with| .ret r=>some r| .go _=>o5 K
theorem xC {K:Nat} {a0:List aO} {a1:(aO→Option Bool)} {r:Int} (hF:qW K a0 a1=some r):Ct Tryz.prog 163 [.vc (pS aO.cod a0),.vc (pFn Tryz.prog (fun x:aO=>[.va (aO.enc x)]) (fun r:Bool=>.vc (pB r)) a1)] (.vc (pI .i64 r)):=by
 unfold qW at hF
 refine bD Tryz.func163 rfl (by kernel_rfl) Tryz.ntmps163 rfl (fun w0 M0=>?_)
 refine aE (aF (aB (aN (.inr rfl)) ⟨bI _ _,trivial⟩ ?_))
 refine aC (aA (aE (aE (aF (aI ?_)))))
 refine aB (bX rfl tyS29) zU1 ?_
 refine aB (aN (.inl rfl)) ⟨bI _ _,trivial⟩ ?_
 refine aC (aA (bR (cJ (fun H E=>o5 K=some r∧H=[]∧E=[]) ?_ (fun Jj4=>?_))))
 ·rintro _ _ ⟨hF,rfl,rfl⟩
  unfold o5 at hF
  refine aA (aE (aF (aB (aN (.inr rfl)) ⟨bI _ _,trivial⟩ ?_)))
  refine aC (aA (a9 (a8 ?_)))
  obtain rfl:=bV hF
  exact aL (.inl rfl) Tryz.results163 (.tmp rfl .nil) rfl rfl
 obtain⟨ol3,hL,hRl3⟩:=aP hF
 refine gB (fun k a w=>∃(x2:Int),lG K a0 a1 k x2=some ol3∧hs _ [] [(0,.vc (pS aO.cod a0)),(1,.vc (pFn Tryz.prog (fun x:aO=>[.va (aO.enc x)]) (fun r:Bool=>.vc (pB r)) a1)),(7,.vc (pI .i64 (a0.length:Int))),(8,.vc (pI .i64 x2))] a w) K (fun a w ⟨_,hF,_⟩=>by cases hF) (fun k a w ⟨x2,hF,hh⟩=>gE ?_ hh) (fun a w hh=>⟨0,hL,bF [] rfl (by decide) (by exact⟨rfl,rfl,rfl,rfl,trivial⟩) hh⟩)
 rw [lG.eq_2] at hF
 refine aE (aF (aB (dQ rfl) zU2 ?_))
 refine aC (aA (aE (bS rfl (fun h5=>?_) (fun h5=>?_))))
 ·have hF:=aV h5 hF
  refine bA (aA (aE (bR (aE (aF (aI ?_))))))
  refine bH ?_
  refine aC (aA (aE (aF (aI ?_))))
  refine aI ?_
  refine aI ?_
  obtain⟨v6,h7,hF⟩:=aP hF
  refine aB (cO rfl tyS29 h7) zU2 ?_
  refine aB (cK 8 rfl rfl (.agg tyA58)) zU1 ?_
  obtain⟨v8,h9,hF⟩:=aP hF
  refine aB (aBd (pre:=fun x:aO=>[.va (aO.enc x)]) (post:=fun r:Bool=>.vc (pB r)) (x:=v6) (r:=v8) rfl h9 rfl) zU2 ?_
  refine aC (aA (bS rfl (fun h10=>?_) (fun h10=>?_)))
  ·have hF:=aV h10 hF
   refine aE (aF (aI ?_))
   refine bH ?_
   refine aC (aA (a9 (a8 ?_)))
   obtain rfl:=bV hF
   obtain rfl:=bV hRl3
   exact aL (.inl rfl) Tryz.results163 (.tmp rfl .nil) rfl rfl
  have hF:=aX h10 hF
  refine bA (bJ (aA (aF ?_)))
  obtain⟨v11,h12,hF⟩:=aP hF
  refine aB (bO rfl h12) ⟨rfl,bI _ _,trivial⟩ ?_
  refine aI ?_
  refine aC ?_
  exact bL (fun a w hh=>⟨v11,hF,bF [] rfl (by decide) (by exact⟨rfl,rfl,rfl,rfl,trivial⟩) hh⟩)
 have hF:=aX h5 hF
 refine dI ?_
 obtain rfl:=bV hF
 exact bU Jj4 ⟨hRl3,rfl,rfl⟩ [] rfl trivial
def oX (K:Nat) (a0:List aO) (a1:(aO→Option Bool)):Option Bool:=
 (qW K a0 a1).bind fun v1=>some (decide (0≤v1))
theorem vR {K:Nat} {a0:List aO} {a1:(aO→Option Bool)} {r:Bool} (hF:oX K a0 a1=some r):Ct Tryz.prog 76 [.vc (pS aO.cod a0),.vc (pFn Tryz.prog (fun x:aO=>[.va (aO.enc x)]) (fun r:Bool=>.vc (pB r)) a1)] (.vc (pB r)):=by
 unfold oX at hF
 refine bD Tryz.func76 rfl (by kernel_rfl) Tryz.ntmps76 rfl (fun w0 M0=>?_)
 refine aE (aF (aB (aN (.inr rfl)) ⟨cW _,trivial⟩ ?_))
 refine aC (aA (aE (aF (aI ?_))))
 refine aI ?_
 obtain⟨v1,h2,hF⟩:=aP hF
 refine aB (aJ rfl (xC h2) rfl) zU2 ?_
 refine aB (uP rfl) ⟨rfl,bI _ _,trivial⟩ ?_
 refine bH ?_
 refine aC (aA (a9 (a8 ?_)))
 obtain rfl:=bV hF
 exact aL (.inl rfl) Tryz.results76 (.tmp rfl .nil) rfl rfl
def tM (a0:aO):Option Bool:=
 (aAq a0.n).bind fun v2=>bif(!v2) then(some true) else((aAq a0.f).bind fun v5=>some (!v5))
theorem aBO {a0:aO} {r:Bool} (hF:tM a0=some r):Ct Tryz.prog 77 [.va (aO.enc a0)] (.vc (pB r)):=by
 unfold tM at hF
 refine bD Tryz.func77 rfl (by kernel_rfl) Tryz.ntmps77 rfl (fun w0 M0=>?_)
 refine aE (aF (cY rfl rfl trivial (fun b1=>?_)))
 refine aB (aN (.inr rfl)) ⟨cW _,trivial⟩ ?_
 refine aC (aA (aE (aF (aB (bE (off:=0) (k:=0) rfl tyF58_0) zU1 ?_))))
 refine aB (bK 0 4 rfl rfl rfl rfl (.agg tyA44)) zU1 ?_
 obtain⟨v2,h3,hF⟩:=aP hF
 refine aB (aJ rfl (qJ h3) rfl) zU1 ?_
 refine aB (hU rfl) zU1 ?_
 refine aI ?_
 refine cP (fun h4=>?_) (fun h4=>?_)
 ·have hF:=aV h4 hF
  refine aM ?_
  refine aM ?_
  refine aM ?_
  refine aM ?_
  refine aB (bM rfl) ⟨rfl,cW _,trivial⟩ ?_
  refine bH ?_
  refine aC (aA (a9 (a8 ?_)))
  obtain rfl:=bV hF
  exact aL (.inl rfl) Tryz.results77 (.tmp rfl .nil) rfl rfl
 have hF:=aX h4 hF
 refine aY (bE (off:=0) (k:=4) rfl tyF58_1) zU1 ?_
 refine aY (bK 0 4 rfl rfl rfl rfl (.agg tyA44)) zU1 ?_
 obtain⟨v5,h6,hF⟩:=aP hF
 refine aY (aJ rfl (qJ h6) rfl) zU1 ?_
 refine aY (hU rfl) zU1 ?_
 refine aB (bN rfl) zU2 ?_
 refine bH ?_
 refine aC (aA (a9 (a8 ?_)))
 obtain rfl:=bV hF
 exact aL (.inl rfl) Tryz.results77 (.tmp rfl .nil) rfl rfl
def pV (K:Nat):Option Bool:=
 some true
def mG (K:Nat) (a0:List Rat) (a1:List Rat) (a2:(Rat×Rat→Option Bool)):Nat→Int→Option (LR Bool Unit)
 |0,_=>none
 |k+1,x3=>bif(decide (x3<(a0.length:Int))) then((dC a0 x3).bind fun v7=>(dC a1 x3).bind fun v10=>(a2 (v7,v10)).bind fun v13=>bif(!v13) then(some (.ret false)) else((bW (x3+1)).bind fun v16=>mG K a0 a1 a2 k v16)) else(some (.go ()))
def rM (K:Nat) (a0:List Rat) (a1:List Rat) (a2:(Rat×Rat→Option Bool)):Option Bool:=
 bif((a0.length:Int) != (a1.length:Int)) then(some false) else((mG K a0 a1 a2 K 0).bind fun o=>match o with| .ret r=>some r| .go _=>pV K)
theorem xI {K:Nat} {a0:List Rat} {a1:List Rat} {a2:(Rat×Rat→Option Bool)} {r:Bool} (hF:rM K a0 a1 a2=some r):Ct Tryz.prog 79 [.vc (pS cQ a0),.vc (pS cQ a1),.vc (pFn Tryz.prog (fun x:Rat×Rat=>[.va (eQ x.1),.va (eQ x.2)]) (fun r:Bool=>.vc (pB r)) a2)] (.vc (pB r)):=by
 unfold rM at hF
 refine bD Tryz.func79 rfl (by kernel_rfl) Tryz.ntmps79 rfl (fun w0 M0=>?_)
 refine aE (aF (aB (aN (.inr rfl)) ⟨cW _,trivial⟩ ?_))
 refine aC (aA (aE (aE (aF (aI ?_)))))
 refine aB (bX rfl tyS24) zU1 ?_
 refine aI ?_
 refine aB (bX rfl tyS24) zU1 ?_
 refine aB (s7 rfl) zU2 ?_
 refine aC (aA (bS rfl (fun h1=>?_) (fun h1=>?_)))
 ·have hF:=aV h1 hF
  refine aE (aF (aB (aN (.inr rfl)) ⟨cW _,trivial⟩ ?_))
  refine aC (aA (a9 (a8 ?_)))
  obtain rfl:=bV hF
  exact aL (.inl rfl) Tryz.results79 (.tmp rfl .nil) rfl rfl
 have hF:=aX h1 hF
 refine bA (aA (aE (aE (aF (aI ?_)))))
 refine aB (bX rfl tyS24) zU1 ?_
 refine aB (aN (.inl rfl)) ⟨bI _ _,trivial⟩ ?_
 refine aC (aA (bR (cJ (fun H E=>pV K=some r∧H=[]∧E=[]) ?_ (fun Jj5=>?_))))
 ·rintro _ _ ⟨hF,rfl,rfl⟩
  unfold pV at hF
  refine aA (aE (aF (aB (aN (.inr rfl)) ⟨cW _,trivial⟩ ?_)))
  refine aC (aA (a9 (a8 ?_)))
  obtain rfl:=bV hF
  exact aL (.inl rfl) Tryz.results79 (.tmp rfl .nil) rfl rfl
 obtain⟨ol4,hL,hRl4⟩:=aP hF
 refine gB (fun k a w=>∃(x3:Int),mG K a0 a1 a2 k x3=some ol4∧hs _ [] [(1,.vc (pS cQ a1)),(2,.vc (pFn Tryz.prog (fun x:Rat×Rat=>[.va (eQ x.1),.va (eQ x.2)]) (fun r:Bool=>.vc (pB r)) a2)),(15,.vc (pS cQ a0)),(16,.vc (pI .i64 (a0.length:Int))),(17,.vc (pI .i64 x3))] a w) K (fun a w ⟨_,hF,_⟩=>by cases hF) (fun k a w ⟨x3,hF,hh⟩=>gE ?_ hh) (fun a w hh=>⟨0,hL,bF [] rfl (by decide) (by exact⟨rfl,rfl,rfl,rfl,rfl,trivial⟩) hh⟩)
 rw [mG.eq_2] at hF
 refine aE (aF (aB (dQ rfl) zU2 ?_))
 refine aC (aA (aE (bS rfl (fun h6=>?_) (fun h6=>?_))))
 ·have hF:=aV h6 hF
  refine bA (aA (aE (bR (aE (aF (aI ?_))))))
  obtain⟨v7,h8,hF⟩:=aP hF
  refine aB (cO rfl tyS24 h8) zU2 ?_
  refine aB (cK 4 rfl rfl (.agg tyA44)) zU1 ?_
  refine bP rfl tyZ44q (fun b9=>?_)
  refine bH ?_
  refine bG (dO 0 rfl rfl rfl tyA44.s) zU2 ?_
  refine aC (aA (aE (aF (aI ?_))))
  refine aI ?_
  obtain⟨v10,h11,hF⟩:=aP hF
  refine aB (cO rfl tyS24 h11) zU2 ?_
  refine aB (cK 4 rfl rfl (.agg tyA44)) zU1 ?_
  refine bP rfl tyZ44q (fun b12=>?_)
  refine bG (dO 0 rfl rfl rfl tyA44.s) zU2 ?_
  refine aC (aA (aE (aF (aI ?_))))
  refine aB (bK 1 4 rfl rfl rfl rfl (.agg tyA44)) zU1 ?_
  refine aB (bK 0 4 rfl rfl rfl rfl (.agg tyA44)) zU1 ?_
  obtain⟨v13,h14,hF⟩:=aP hF
  refine aB (aBd (pre:=fun x:Rat×Rat=>[.va (eQ x.1),.va (eQ x.2)]) (post:=fun r:Bool=>.vc (pB r)) (x:=(v7,v10)) (r:=v13) rfl h14 rfl) ⟨rfl,rfl,rfl,trivial⟩ ?_
  refine aB (hU rfl) zU1 ?_
  refine aC (aA (bS rfl (fun h15=>?_) (fun h15=>?_)))
  ·have hF:=aV h15 hF
   refine aE (aF (aB (aN (.inr rfl)) ⟨cW _,trivial⟩ ?_))
   refine aC (aA (a9 (a8 ?_)))
   obtain rfl:=bV hF
   obtain rfl:=bV hRl4
   exact aL (.inl rfl) Tryz.results79 (.tmp rfl .nil) rfl rfl
  have hF:=aX h15 hF
  refine bA (bJ (aA (aF ?_)))
  obtain⟨v16,h17,hF⟩:=aP hF
  refine aB (bO rfl h17) ⟨rfl,bI _ _,trivial⟩ ?_
  refine aI ?_
  refine aC ?_
  exact bL (fun a w hh=>⟨v16,hF,bF [] rfl (by decide) (by exact⟨rfl,rfl,rfl,rfl,rfl,trivial⟩) hh⟩)
 have hF:=aX h6 hF
 refine dI ?_
 obtain rfl:=bV hF
 exact bU Jj5 ⟨hRl4,rfl,rfl⟩ [] rfl trivial
def nH (K:Nat) (a1:aH) (a3:aO) (v6:Int) (v8:Rat) (x16:Int):Option Bool:=
 (vU a3.n).bind fun v18=>bif(decide (v18<0)) then(some false) else(bif(decide (v6<0)) then(some false) else(bif(decide (0<v6)) then((vU a3.n).bind fun v23=>bif(decide (0<v23)) then(some false) else(bif((a1.t.length:Int)==0) then((vU a3.f).bind fun v27=>some (v27==0)) else(bif(decide (0<x16)) then((aBw v8).bind fun v32=>(wL a3.f v32).bind fun v34=>some v34) else(bif(decide (x16<0)) then((wL a3.f v8).bind fun v37=>some v37) else((aHQ a3.f v8).bind fun v41=>bif(decide (v41≤0)) then((aBw a3.f).bind fun v44=>(aHQ v44 v8).bind fun v46=>some (decide (v46≤0))) else(some false)))))) else(bif((a1.t.length:Int)==0) then((vU a3.f).bind fun v49=>some (v49==0)) else(bif(decide (0<x16)) then((aBw v8).bind fun v54=>(wL a3.f v54).bind fun v56=>some v56) else(bif(decide (x16<0)) then((wL a3.f v8).bind fun v59=>some v59) else((aHQ a3.f v8).bind fun v63=>bif(decide (v63≤0)) then((aBw a3.f).bind fun v66=>(aHQ v66 v8).bind fun v68=>some (decide (v68≤0))) else(some false)))))))
def tF (K:Nat) (a0:aQ) (a1:aH) (a2:List Rat) (a3:aO):Option Bool:=
 (gZ K a1.j a2).bind fun v4=>(vU v4).bind fun v6=>(yR a1.mu a3.n).bind fun v8=>(gZ K a1.t a2).bind fun v11=>(vU v11).bind fun v13=>(kW K a0 a1).bind fun v70=>bif(v70 != 0) then(nH K a1 a3 v6 v8 v70) else(nH K a1 a3 v6 v8 v13)
theorem zH {K:Nat} {a0:aQ} {a1:aH} {a2:List Rat} {a3:aO} {r:Bool} (hF:tF K a0 a1 a2 a3=some r):Ct Tryz.prog 80 [.va (aQ.enc a0),.va (aH.enc a1),.vc (pS cQ a2),.va (aO.enc a3)] (.vc (pB r)):=by
 unfold tF at hF
 refine bD Tryz.func80 rfl (by kernel_rfl) Tryz.ntmps80 rfl (fun w0 M0=>?_)
 refine aE (aF (cY rfl rfl trivial (fun b1=>?_)))
 refine cY rfl rfl trivial (fun b2=>?_)
 refine cY rfl rfl trivial (fun b3=>?_)
 refine aB (aN (.inr rfl)) ⟨cW _,trivial⟩ ?_
 refine aC (aA (aE (aF (aB (bE (off:=0) (k:=8) rfl tyF51_5) zU1 ?_))))
 refine aB (bK 1 1 rfl rfl rfl rfl (.one tyO49)) zU1 ?_
 refine aI ?_
 obtain⟨v4,h5,hF⟩:=aP hF
 refine aB (aJ rfl (kP h5) rfl) zU2 ?_
 obtain⟨v6,h7,hF⟩:=aP hF
 refine aB (aJ rfl (iM h7) rfl) zU1 ?_
 refine bH ?_
 refine aC (aA (aE (aF (aB (bE (off:=0) (k:=10) rfl tyF51_7) zU1 ?_))))
 refine aB (bK 1 4 rfl rfl rfl rfl (.agg tyA44)) zU1 ?_
 refine aB (bE (off:=0) (k:=0) rfl tyF58_0) zU1 ?_
 refine aB (bK 0 4 rfl rfl rfl rfl (.agg tyA44)) zU1 ?_
 obtain⟨v8,h9,hF⟩:=aP hF
 refine aB (aJ rfl (rP h9) rfl) zU2 ?_
 refine bP rfl tyZ44q (fun b10=>?_)
 refine bG (dO 0 rfl rfl rfl tyA44.s) zU2 ?_
 refine aC (aA (aE (aF (aB (bE (off:=0) (k:=9) rfl tyF51_6) zU1 ?_))))
 refine aB (bK 2 1 rfl rfl rfl rfl (.one tyO49)) zU1 ?_
 refine aI ?_
 obtain⟨v11,h12,hF⟩:=aP hF
 refine aB (aJ rfl (kP h12) rfl) zU2 ?_
 obtain⟨v13,h14,hF⟩:=aP hF
 refine aB (aJ rfl (iM h14) rfl) zU1 ?_
 refine bH ?_
 refine aC (aA (aE (uH (fun H E=>∃(x16:Int),nH K a1 a3 v6 v8 x16=some r∧H=[⟨some b10,1,44,4,1,(eQ v8)⟩,⟨some b3,1,58,8,1,(aO.enc a3)⟩,⟨some b2,1,51,18,1,(aH.enc a1)⟩]∧E=[(5,.vc (pP (some b2) 0)),(7,.vc (pP (some b3) 0)),(9,.vc (pI .i64 v6)),(10,.vc (pP (some b10) 0)),(11,.vc (pI .i64 x16))]) ?_ (fun Jj17=>?_))))
 ·rintro _ _ ⟨x16,hF,rfl,rfl⟩
  unfold nH at hF
  refine aE (bR (aE (aF (aB (bE (off:=0) (k:=0) rfl tyF58_0) zU1 ?_))))
  refine aB (bK 1 4 rfl rfl rfl rfl (.agg tyA44)) zU1 ?_
  obtain⟨v18,h19,hF⟩:=aP hF
  refine aB (aJ rfl (iM h19) rfl) zU1 ?_
  refine aB (dQ rfl) ⟨rfl,bI _ _,trivial⟩ ?_
  refine aI ?_
  refine cP (fun h20=>?_) (fun h20=>?_)
  ·have hF:=aV h20 hF
   refine aM ?_
   refine aM ?_
   refine aB (bM rfl) ⟨rfl,cW _,trivial⟩ ?_
   refine aI ?_
   refine aM ?_
   refine aM ?_
   refine aM ?_
   refine uS ?_
   refine uS ?_
   refine uS ?_
   refine uS ?_
   refine aM ?_
   refine aB (bM rfl) ⟨rfl,cW _,trivial⟩ ?_
   refine bH ?_
   refine aC (aA (iO rfl ?_))
   refine aE (aF (aB (aN (.inr rfl)) ⟨cW _,trivial⟩ ?_))
   refine aC (aA (a9 (a8 ?_)))
   obtain rfl:=bV hF
   exact aL (.inl rfl) Tryz.results80 (.tmp rfl .nil) rfl rfl
  have hF:=aX h20 hF
  refine aY (aN (.inl rfl)) zU1 ?_
  refine aY (dQ rfl) ⟨rfl,bI _ _,trivial⟩ ?_
  refine aB (bN rfl) zU2 ?_
  refine aI ?_
  refine cP (fun h21=>?_) (fun h21=>?_)
  ·have hF:=aV h21 hF
   refine aM ?_
   refine aM ?_
   refine aM ?_
   refine uS ?_
   refine uS ?_
   refine uS ?_
   refine uS ?_
   refine aM ?_
   refine aB (bM rfl) ⟨rfl,cW _,trivial⟩ ?_
   refine bH ?_
   refine aC (aA (iO rfl ?_))
   refine aE (aF (aB (aN (.inr rfl)) ⟨cW _,trivial⟩ ?_))
   refine aC (aA (a9 (a8 ?_)))
   obtain rfl:=bV hF
   exact aL (.inl rfl) Tryz.results80 (.tmp rfl .nil) rfl rfl
  have hF:=aX h21 hF
  refine aY (aN (.inl rfl)) zU1 ?_
  refine aY (rV rfl) ⟨rfl,bI _ _,trivial⟩ ?_
  refine aY (aN (.inl rfl)) zU1 ?_
  refine cP (fun h22=>?_) (fun h22=>?_)
  ·have hF:=aV h22 hF
   refine aY (bE (off:=0) (k:=0) rfl tyF58_0) zU1 ?_
   refine aY (bK 1 4 rfl rfl rfl rfl (.agg tyA44)) zU1 ?_
   obtain⟨v23,h24,hF⟩:=aP hF
   refine aY (aJ rfl (iM h24) rfl) zU1 ?_
   refine aY (rV rfl) ⟨rfl,bI _ _,trivial⟩ ?_
   refine aY (bM rfl) zU2 ?_
   refine aB (bN rfl) zU2 ?_
   refine bH ?_
   refine aC (aA (bS rfl (fun h25=>?_) (fun h25=>?_)))
   ·have hF:=aV h25 hF
    refine aE (aF (aB (aN (.inr rfl)) ⟨cW _,trivial⟩ ?_))
    refine aC (aA (a9 (a8 ?_)))
    obtain rfl:=bV hF
    exact aL (.inl rfl) Tryz.results80 (.tmp rfl .nil) rfl rfl
   have hF:=aX h25 hF
   refine aE (aF (aB (bE (off:=0) (k:=9) rfl tyF51_6) zU1 ?_))
   refine aB (bK 2 1 rfl rfl rfl rfl (.one tyO49)) zU1 ?_
   refine aB (bX rfl tyS49) zU1 ?_
   refine aB (gR rfl) ⟨rfl,bI _ _,trivial⟩ ?_
   refine bH ?_
   refine aC (aA (bS rfl (fun h26=>?_) (fun h26=>?_)))
   ·have hF:=aV h26 hF
    refine aE (aF (aB (bE (off:=0) (k:=4) rfl tyF58_1) zU1 ?_))
    refine aB (bK 1 4 rfl rfl rfl rfl (.agg tyA44)) zU1 ?_
    obtain⟨v27,h28,hF⟩:=aP hF
    refine aB (aJ rfl (iM h28) rfl) zU1 ?_
    refine aB (gR rfl) ⟨rfl,bI _ _,trivial⟩ ?_
    refine bH ?_
    refine aC (aA (a9 (a8 ?_)))
    obtain rfl:=bV hF
    exact aL (.inl rfl) Tryz.results80 (.tmp rfl .nil) rfl rfl
   have hF:=aX h26 hF
   refine aE (aF (aI ?_))
   refine aB (rV rfl) ⟨rfl,bI _ _,trivial⟩ ?_
   refine bH ?_
   refine aC (aA (bS rfl (fun h29=>?_) (fun h29=>?_)))
   ·have hF:=aV h29 hF
    refine aE ?_
    obtain⟨v32,h33,hF⟩:=aP hF
    obtain⟨v34,h35,hF⟩:=aP hF
    refine bT [0,1,0,4,15,31] 6 0 [.v (.vc (pP (some b3) 4)),.v (.va (eQ a3.f)),.v (.va (eQ v8)),.v (.va (eQ v32)),.v (.vc (pB v34)),.v (.vc (pB v34))] aU ⟨d0 (bE (off:=0) (k:=4) rfl tyF58_1) zU1,d0 (bK 1 4 rfl rfl rfl rfl (.agg tyA44)) zU1,d0 (bK 0 4 rfl rfl rfl rfl (.agg tyA44)) zU1,d0 (aJ rfl (qM h33) rfl) zU1,d0 (aJ rfl (jN h35) rfl) zU2,d0 (aN (.inr rfl)) zU1,trivial⟩ (fun bs31 G30=>?_)
    refine aC (aA (a9 (a8 ?_)))
    obtain rfl:=bV hF
    exact aL (.inl rfl) Tryz.results80 (.tmp rfl .nil) rfl rfl
   have hF:=aX h29 hF
   refine aE (aF (aI ?_))
   refine aB (dQ rfl) ⟨rfl,bI _ _,trivial⟩ ?_
   refine bH ?_
   refine aC (aA (bS rfl (fun h36=>?_) (fun h36=>?_)))
   ·have hF:=aV h36 hF
    refine aE (aF (aB (bE (off:=0) (k:=4) rfl tyF58_1) zU1 ?_))
    refine aB (bK 1 4 rfl rfl rfl rfl (.agg tyA44)) zU1 ?_
    refine aB (bK 0 4 rfl rfl rfl rfl (.agg tyA44)) zU1 ?_
    obtain⟨v37,h38,hF⟩:=aP hF
    refine aB (aJ rfl (jN h38) rfl) zU2 ?_
    refine bH ?_
    refine aC (aA (a9 (a8 ?_)))
    obtain rfl:=bV hF
    exact aL (.inl rfl) Tryz.results80 (.tmp rfl .nil) rfl rfl
   have hF:=aX h36 hF
   refine bA (bJ (aA (aE ?_)))
   obtain⟨v41,h42,hF⟩:=aP hF
   rcases Bool.eq_false_or_eq_true (decide (v41≤0)) with h43|h43
   ·have hF:=aV h43 hF
    obtain⟨v44,h45,hF⟩:=aP hF
    obtain⟨v46,h47,hF⟩:=aP hF
    refine bT [0,1,0,7,15,31,63,127,255,63,1023,2047,4095,8191] 14 0 [.v (.vc (pP (some b3) 4)),.v (.va (eQ a3.f)),.v (.va (eQ v8)),.v (.vc (pI .i64 v41)),.v (.vc (pB (decide (v41≤0)))),.v (.vc (pB true)),.v (.vc (pP (some b3) 4)),.v (.va (eQ a3.f)),.v (.va (eQ v44)),.v (.va (eQ v8)),.v (.vc (pI .i64 v46)),.v (.vc (pB (decide (v46≤0)))),.v (.vc (pB (decide (v46≤0)))),.v (.vc (pB (decide (v46≤0))))] aU ⟨d0 (bE (off:=0) (k:=4) rfl tyF58_1) zU1,d0 (bK 1 4 rfl rfl rfl rfl (.agg tyA44)) zU1,d0 (bK 0 4 rfl rfl rfl rfl (.agg tyA44)) zU1,d0 (aJ rfl (oP h42) rfl) zU2,d0 (zF rfl) ⟨rfl,bI _ _,trivial⟩,d0 (cX (aN (.inl rfl)) h43) zU1,g0 (bE (off:=0) (k:=4) rfl tyF58_1) zU1,g0 (bK 1 4 rfl rfl rfl rfl (.agg tyA44)) zU1,g0 (aJ rfl (qM h45) rfl) zU1,g0 (bK 0 4 rfl rfl rfl rfl (.agg tyA44)) zU1,g0 (aJ rfl (oP h47) rfl) zU2,g0 (zF rfl) ⟨rfl,bI _ _,trivial⟩,d0 (bM rfl) zU2,d0 (aN (.inr rfl)) zU1,trivial⟩ (fun bs40 G39=>?_)
    refine aC (aA (a9 (a8 ?_)))
    obtain rfl:=bV hF
    exact aL (.inl rfl) Tryz.results80 (.tmp rfl .nil) rfl rfl
   have hF:=aX h43 hF
   refine bT [0,1,0,7,15,31,63,127,255,63,1023,2047,4095,8191] 14 0 [.v (.vc (pP (some b3) 4)),.v (.va (eQ a3.f)),.v (.va (eQ v8)),.v (.vc (pI .i64 v41)),.v (.vc (pB (decide (v41≤0)))),.v (.vc (pB false)),.v .un,.v .un,.v .un,.v .un,.v .un,.v .un,.v (.vc (pB false)),.v (.vc (pB false))] aU ⟨d0 (bE (off:=0) (k:=4) rfl tyF58_1) zU1,d0 (bK 1 4 rfl rfl rfl rfl (.agg tyA44)) zU1,d0 (bK 0 4 rfl rfl rfl rfl (.agg tyA44)) zU1,d0 (aJ rfl (oP h42) rfl) zU2,d0 (zF rfl) ⟨rfl,bI _ _,trivial⟩,d0 (cX (aN (.inl rfl)) h43) zU1,⟨rfl,.skipN⟩,⟨rfl,.skipN⟩,⟨rfl,.skipN⟩,⟨rfl,.skipN⟩,⟨rfl,.skipN⟩,⟨rfl,.skipN⟩,d0 (bN rfl) ⟨rfl,cW _,trivial⟩,d0 (aN (.inr rfl)) zU1,trivial⟩ (fun bs40 G39=>?_)
   refine aC (aA (a9 (a8 ?_)))
   obtain rfl:=bV hF
   exact aL (.inl rfl) Tryz.results80 (.tmp rfl .nil) rfl rfl
  have hF:=aX h22 hF
  refine aM ?_
  refine aM ?_
  refine aM ?_
  refine aM ?_
  refine aY (bN rfl) ⟨rfl,cW _,trivial⟩ ?_
  refine aB (bN rfl) zU2 ?_
  refine bH ?_
  refine aC (aA (sT rfl ?_))
  refine aE (aF (aB (bE (off:=0) (k:=9) rfl tyF51_6) zU1 ?_))
  refine aB (bK 2 1 rfl rfl rfl rfl (.one tyO49)) zU1 ?_
  refine aB (bX rfl tyS49) zU1 ?_
  refine aB (gR rfl) ⟨rfl,bI _ _,trivial⟩ ?_
  refine bH ?_
  refine aC (aA (bS rfl (fun h48=>?_) (fun h48=>?_)))
  ·have hF:=aV h48 hF
   refine aE (aF (aB (bE (off:=0) (k:=4) rfl tyF58_1) zU1 ?_))
   refine aB (bK 1 4 rfl rfl rfl rfl (.agg tyA44)) zU1 ?_
   obtain⟨v49,h50,hF⟩:=aP hF
   refine aB (aJ rfl (iM h50) rfl) zU1 ?_
   refine aB (gR rfl) ⟨rfl,bI _ _,trivial⟩ ?_
   refine bH ?_
   refine aC (aA (a9 (a8 ?_)))
   obtain rfl:=bV hF
   exact aL (.inl rfl) Tryz.results80 (.tmp rfl .nil) rfl rfl
  have hF:=aX h48 hF
  refine aE (aF (aI ?_))
  refine aB (rV rfl) ⟨rfl,bI _ _,trivial⟩ ?_
  refine bH ?_
  refine aC (aA (bS rfl (fun h51=>?_) (fun h51=>?_)))
  ·have hF:=aV h51 hF
   refine aE ?_
   obtain⟨v54,h55,hF⟩:=aP hF
   obtain⟨v56,h57,hF⟩:=aP hF
   refine bT [0,1,0,4,15,31] 6 0 [.v (.vc (pP (some b3) 4)),.v (.va (eQ a3.f)),.v (.va (eQ v8)),.v (.va (eQ v54)),.v (.vc (pB v56)),.v (.vc (pB v56))] aU ⟨d0 (bE (off:=0) (k:=4) rfl tyF58_1) zU1,d0 (bK 1 4 rfl rfl rfl rfl (.agg tyA44)) zU1,d0 (bK 0 4 rfl rfl rfl rfl (.agg tyA44)) zU1,d0 (aJ rfl (qM h55) rfl) zU1,d0 (aJ rfl (jN h57) rfl) zU2,d0 (aN (.inr rfl)) zU1,trivial⟩ (fun bs53 G52=>?_)
   refine aC (aA (a9 (a8 ?_)))
   obtain rfl:=bV hF
   exact aL (.inl rfl) Tryz.results80 (.tmp rfl .nil) rfl rfl
  have hF:=aX h51 hF
  refine aE (aF (aI ?_))
  refine aB (dQ rfl) ⟨rfl,bI _ _,trivial⟩ ?_
  refine bH ?_
  refine aC (aA (bS rfl (fun h58=>?_) (fun h58=>?_)))
  ·have hF:=aV h58 hF
   refine aE (aF (aB (bE (off:=0) (k:=4) rfl tyF58_1) zU1 ?_))
   refine aB (bK 1 4 rfl rfl rfl rfl (.agg tyA44)) zU1 ?_
   refine aB (bK 0 4 rfl rfl rfl rfl (.agg tyA44)) zU1 ?_
   obtain⟨v59,h60,hF⟩:=aP hF
   refine aB (aJ rfl (jN h60) rfl) zU2 ?_
   refine bH ?_
   refine aC (aA (a9 (a8 ?_)))
   obtain rfl:=bV hF
   exact aL (.inl rfl) Tryz.results80 (.tmp rfl .nil) rfl rfl
  have hF:=aX h58 hF
  refine bA (bJ (aA (aE ?_)))
  obtain⟨v63,h64,hF⟩:=aP hF
  rcases Bool.eq_false_or_eq_true (decide (v63≤0)) with h65|h65
  ·have hF:=aV h65 hF
   obtain⟨v66,h67,hF⟩:=aP hF
   obtain⟨v68,h69,hF⟩:=aP hF
   refine bT [0,1,0,7,15,31,63,127,255,63,1023,2047,4095,8191] 14 0 [.v (.vc (pP (some b3) 4)),.v (.va (eQ a3.f)),.v (.va (eQ v8)),.v (.vc (pI .i64 v63)),.v (.vc (pB (decide (v63≤0)))),.v (.vc (pB true)),.v (.vc (pP (some b3) 4)),.v (.va (eQ a3.f)),.v (.va (eQ v66)),.v (.va (eQ v8)),.v (.vc (pI .i64 v68)),.v (.vc (pB (decide (v68≤0)))),.v (.vc (pB (decide (v68≤0)))),.v (.vc (pB (decide (v68≤0))))] aU ⟨d0 (bE (off:=0) (k:=4) rfl tyF58_1) zU1,d0 (bK 1 4 rfl rfl rfl rfl (.agg tyA44)) zU1,d0 (bK 0 4 rfl rfl rfl rfl (.agg tyA44)) zU1,d0 (aJ rfl (oP h64) rfl) zU2,d0 (zF rfl) ⟨rfl,bI _ _,trivial⟩,d0 (cX (aN (.inl rfl)) h65) zU1,g0 (bE (off:=0) (k:=4) rfl tyF58_1) zU1,g0 (bK 1 4 rfl rfl rfl rfl (.agg tyA44)) zU1,g0 (aJ rfl (qM h67) rfl) zU1,g0 (bK 0 4 rfl rfl rfl rfl (.agg tyA44)) zU1,g0 (aJ rfl (oP h69) rfl) zU2,g0 (zF rfl) ⟨rfl,bI _ _,trivial⟩,d0 (bM rfl) zU2,d0 (aN (.inr rfl)) zU1,trivial⟩ (fun bs62 G61=>?_)
   refine aC (aA (a9 (a8 ?_)))
   obtain rfl:=bV hF
   exact aL (.inl rfl) Tryz.results80 (.tmp rfl .nil) rfl rfl
  have hF:=aX h65 hF
  refine bT [0,1,0,7,15,31,63,127,255,63,1023,2047,4095,8191] 14 0 [.v (.vc (pP (some b3) 4)),.v (.va (eQ a3.f)),.v (.va (eQ v8)),.v (.vc (pI .i64 v63)),.v (.vc (pB (decide (v63≤0)))),.v (.vc (pB false)),.v .un,.v .un,.v .un,.v .un,.v .un,.v .un,.v (.vc (pB false)),.v (.vc (pB false))] aU ⟨d0 (bE (off:=0) (k:=4) rfl tyF58_1) zU1,d0 (bK 1 4 rfl rfl rfl rfl (.agg tyA44)) zU1,d0 (bK 0 4 rfl rfl rfl rfl (.agg tyA44)) zU1,d0 (aJ rfl (oP h64) rfl) zU2,d0 (zF rfl) ⟨rfl,bI _ _,trivial⟩,d0 (cX (aN (.inl rfl)) h65) zU1,⟨rfl,.skipN⟩,⟨rfl,.skipN⟩,⟨rfl,.skipN⟩,⟨rfl,.skipN⟩,⟨rfl,.skipN⟩,⟨rfl,.skipN⟩,d0 (bN rfl) ⟨rfl,cW _,trivial⟩,d0 (aN (.inr rfl)) zU1,trivial⟩ (fun bs62 G61=>?_)
  refine aC (aA (a9 (a8 ?_)))
  obtain rfl:=bV hF
  exact aL (.inl rfl) Tryz.results80 (.tmp rfl .nil) rfl rfl
 refine aE (aF (aB (bK 3 4 rfl rfl rfl rfl (.agg tyA113)) zU1 ?_))
 refine aB (bK 2 18 rfl rfl rfl rfl (.agg tyA51)) zU1 ?_
 obtain⟨v70,h71,hF⟩:=aP hF
 refine aB (aJ rfl (tE h71) rfl) zU2 ?_
 refine bH ?_
 refine aC (aA (aE (aF (aI ?_))))
 refine aB (s7 rfl) ⟨rfl,bI _ _,trivial⟩ ?_
 refine aC (aA (bS rfl (fun h72=>?_) (fun h72=>?_)))
 ·have hF:=aV h72 hF
  refine aF (aI ?_)
  refine bH ?_
  refine aC ?_
  exact bU Jj17 ⟨v70,hF,rfl,rfl⟩ [0,1,2] rfl ⟨rfl,rfl,rfl,rfl,rfl,trivial⟩
 have hF:=aX h72 hF
 refine bA ?_
 exact bU Jj17 ⟨v13,hF,rfl,rfl⟩ [0,1,2] rfl ⟨rfl,rfl,rfl,rfl,rfl,trivial⟩
def uE (K:Nat):Option Int:=
 some 0
def sD (K:Nat) (a0:List aT) (a1:List Rat) (a2:List Rat) (a3:List aH) (a4:List Rat) (a5:List aO):Nat→Int→Option (LR Int Unit)
 |0,_=>none
 |k+1,x19=>bif(decide (x19<(a3.length:Int))) then((dC a3 x19).bind fun v23=>(dC a5 x19).bind fun v28=>(tF K (⟨a0,a1,a2,a3⟩:aQ) v23 a4 v28).bind fun v30=>bif(!v30) then(some (.ret 18)) else((bW (x19+1)).bind fun v33=>sD K a0 a1 a2 a3 a4 a5 k v33)) else(some (.go ()))
def xH (K:Nat) (a0:List aT) (a1:List Rat) (a2:List Rat) (a3:List aH) (a4:List Rat) (a5:List aO):Option Int:=
 (kX K (⟨a0,a1,a2,a3⟩:aQ)).bind fun v2=>bif(!v2) then(some 1) else(bif((a4.length:Int) != (a0.length:Int)) then(some 18) else(bif((a5.length:Int) != (a3.length:Int)) then(some 18) else((rO K a4).bind fun v7=>bif(!v7) then(some 18) else((oX K a5 (tM)).bind fun v10=>bif v10 then(some 18) else((cD K (⟨a0,a1,a2,a3⟩:aQ) a1 a5).bind fun v13=>(rM K a4 v13 (fun x=>wL x.1 x.2)).bind fun v15=>bif(!v15) then(some 18) else((sD K a0 a1 a2 a3 a4 a5 K 0).bind fun o=>match o with| .ret r=>some r| .go _=>uE K))))))
theorem aC3 {K:Nat} {a0:List aT} {a1:List Rat} {a2:List Rat} {a3:List aH} {a4:List Rat} {a5:List aO} {r:Int} (hF:xH K a0 a1 a2 a3 a4 a5=some r):Ct Tryz.prog 19 [.vc (pS aT.cod a0),.vc (pS cQ a1),.vc (pS cQ a2),.vc (pS aH.cod a3),.vc (pS cQ a4),.vc (pS aO.cod a5)] (.vc (pI .i64 r)):=by
 unfold xH at hF
 refine bD Tryz.func19 rfl (by kernel_rfl) Tryz.ntmps19 rfl (fun w0 M0=>?_)
 refine aE (aF (aB (aN (.inr rfl)) ⟨bI _ _,trivial⟩ ?_))
 refine aC (aA (aE (aF (aI ?_))))
 refine aI ?_
 refine aI ?_
 refine aI ?_
 refine aB (cZ (is:=[0,1,2,3]) (xs:=[.tmp 16,.tmp 17,.tmp 18,.tmp 19]) (ps:=[.vc (pS aT.cod a0),.vc (pS cQ a1),.vc (pS cQ a2),.vc (pS aH.cod a3)]) rfl tyB113q rfl rfl ⟨trivial,trivial,trivial,trivial,trivial⟩ rfl) ⟨rfl,rfl,rfl,rfl,trivial⟩ ?_
 refine bP rfl tyZ113q (fun b1=>?_)
 refine bG (dO 0 rfl rfl rfl tyA113.s) zU2 ?_
 refine aC (aA (aE (bR (aE (aF (aB (bK 0 4 rfl rfl rfl rfl (.agg tyA113)) zU1 ?_))))))
 obtain⟨v2,h3,hF⟩:=aP hF
 refine aB (aJ rfl (tC h3) rfl) zU1 ?_
 refine aB (hU rfl) zU1 ?_
 refine bH ?_
 refine aC (aA (bS rfl (fun h4=>?_) (fun h4=>?_)))
 ·have hF:=aV h4 hF
  refine aE (aF (aB (aN (.inr rfl)) ⟨bI _ _,trivial⟩ ?_))
  refine aC (aA (a9 (a8 ?_)))
  obtain rfl:=bV hF
  exact aL (.inl rfl) Tryz.results19 (.tmp rfl .nil) rfl rfl
 have hF:=aX h4 hF
 refine aE (aF (aI ?_))
 refine aB (bX rfl tyS24) zU1 ?_
 refine aI ?_
 refine aB (bX rfl tyS23) zU1 ?_
 refine aB (s7 rfl) zU2 ?_
 refine aI ?_
 refine cP (fun h5=>?_) (fun h5=>?_)
 ·have hF:=aV h5 hF
  refine aM ?_
  refine aM ?_
  refine aM ?_
  refine aM ?_
  refine aM ?_
  refine aB (bM rfl) ⟨rfl,cW _,trivial⟩ ?_
  refine aI ?_
  refine aM ?_
  refine aM ?_
  refine aM ?_
  refine aB (bM rfl) ⟨rfl,cW _,trivial⟩ ?_
  refine bH ?_
  refine aC (aA (iO rfl ?_))
  refine aE (aF (aB (aN (.inr rfl)) ⟨bI _ _,trivial⟩ ?_))
  refine aC (aA (a9 (a8 ?_)))
  obtain rfl:=bV hF
  exact aL (.inl rfl) Tryz.results19 (.tmp rfl .nil) rfl rfl
 have hF:=aX h5 hF
 refine aY (aN (.inl rfl)) zU1 ?_
 refine aY (bX rfl tyS29) zU1 ?_
 refine aY (aN (.inl rfl)) zU1 ?_
 refine aY (bX rfl tyS25) zU1 ?_
 refine aY (s7 rfl) zU2 ?_
 refine aB (bN rfl) zU2 ?_
 refine aI ?_
 refine cP (fun h6=>?_) (fun h6=>?_)
 ·have hF:=aV h6 hF
  refine aM ?_
  refine aM ?_
  refine aM ?_
  refine aB (bM rfl) ⟨rfl,cW _,trivial⟩ ?_
  refine bH ?_
  refine aC (aA (iO rfl ?_))
  refine aE (aF (aB (aN (.inr rfl)) ⟨bI _ _,trivial⟩ ?_))
  refine aC (aA (a9 (a8 ?_)))
  obtain rfl:=bV hF
  exact aL (.inl rfl) Tryz.results19 (.tmp rfl .nil) rfl rfl
 have hF:=aX h6 hF
 refine aY (aN (.inl rfl)) zU1 ?_
 obtain⟨v7,h8,hF⟩:=aP hF
 refine aY (aJ rfl (xG h8) rfl) zU1 ?_
 refine aY (hU rfl) zU1 ?_
 refine aB (bN rfl) zU2 ?_
 refine bH ?_
 refine aC (aA (bS rfl (fun h9=>?_) (fun h9=>?_)))
 ·have hF:=aV h9 hF
  refine aE (aF (aB (aN (.inr rfl)) ⟨bI _ _,trivial⟩ ?_))
  refine aC (aA (a9 (a8 ?_)))
  obtain rfl:=bV hF
  exact aL (.inl rfl) Tryz.results19 (.tmp rfl .nil) rfl rfl
 have hF:=aX h9 hF
 refine aE (aF (aI ?_))
 obtain⟨v10,h11,hF⟩:=aP hF
 refine aB (aJ rfl (vR h11) rfl) ⟨rfl,(aJE (P:=Tryz.prog) (φ:=(tM)) (pre:=fun x:aO=>[.va (aO.enc x)]) (post:=fun r:Bool=>.vc (pB r)) (fun x r h=>aBO h)),trivial⟩ ?_
 refine bH ?_
 refine aC (aA (bS rfl (fun h12=>?_) (fun h12=>?_)))
 ·have hF:=aV h12 hF
  refine aE (aF (aB (aN (.inr rfl)) ⟨bI _ _,trivial⟩ ?_))
  refine aC (aA (a9 (a8 ?_)))
  obtain rfl:=bV hF
  exact aL (.inl rfl) Tryz.results19 (.tmp rfl .nil) rfl rfl
 have hF:=aX h12 hF
 refine aE (aF (aI ?_))
 refine aB (bK 0 4 rfl rfl rfl rfl (.agg tyA113)) zU1 ?_
 refine aI ?_
 refine aI ?_
 obtain⟨v13,h14,hF⟩:=aP hF
 refine aB (aJ rfl (dR h14) rfl) ⟨rfl,rfl,rfl,trivial⟩ ?_
 obtain⟨v15,h16,hF⟩:=aP hF
 refine aB (aJ rfl (xI h16) rfl) ⟨rfl,rfl,(aJE (P:=Tryz.prog) (φ:=(fun x=>wL x.1 x.2)) (pre:=fun x:Rat×Rat=>[.va (eQ x.1),.va (eQ x.2)]) (post:=fun r:Bool=>.vc (pB r)) (fun x r h=>jN h)),trivial⟩ ?_
 refine aB (hU rfl) zU1 ?_
 refine bH ?_
 refine aC (aA (bS rfl (fun h17=>?_) (fun h17=>?_)))
 ·have hF:=aV h17 hF
  refine aE (aF (aB (aN (.inr rfl)) ⟨bI _ _,trivial⟩ ?_))
  refine aC (aA (a9 (a8 ?_)))
  obtain rfl:=bV hF
  exact aL (.inl rfl) Tryz.results19 (.tmp rfl .nil) rfl rfl
 have hF:=aX h17 hF
 refine bA (bJ (aA (aE (aE (aF (aI ?_))))))
 refine aB (bX rfl tyS25) zU1 ?_
 refine aB (aN (.inl rfl)) ⟨bI _ _,trivial⟩ ?_
 refine aC (aA (bR (cJ (fun H E=>uE K=some r∧H=[]∧E=[]) ?_ (fun Jj21=>?_))))
 ·rintro _ _ ⟨hF,rfl,rfl⟩
  unfold uE at hF
  refine aA (aE (aF (aB (aN (.inr rfl)) ⟨bI _ _,trivial⟩ ?_)))
  refine aC (aA (a9 (a8 ?_)))
  obtain rfl:=bV hF
  exact aL (.inl rfl) Tryz.results19 (.tmp rfl .nil) rfl rfl
 obtain⟨ol20,hL,hRl20⟩:=aP hF
 refine gB (fun k a w=>∃(x19:Int),sD K a0 a1 a2 a3 a4 a5 k x19=some ol20∧hs _ [⟨some b1,1,113,4,1,([pS aT.cod a0]++[pS cQ a1]++[pS cQ a2]++[pS aH.cod a3])⟩] [(4,.vc (pS cQ a4)),(5,.vc (pS aO.cod a5)),(13,.vc (pP (some b1) 0)),(54,.vc (pS aH.cod a3)),(55,.vc (pI .i64 (a3.length:Int))),(56,.vc (pI .i64 x19))] a w) K (fun a w ⟨_,hF,_⟩=>by cases hF) (fun k a w ⟨x19,hF,hh⟩=>gE ?_ hh) (fun a w hh=>⟨0,hL,bF [0] rfl (by decide) (by exact⟨rfl,rfl,rfl,rfl,rfl,rfl,trivial⟩) hh⟩)
 rw [sD.eq_2] at hF
 refine aE (aF (aB (dQ rfl) zU2 ?_))
 refine aC (aA (aE (bS rfl (fun h22=>?_) (fun h22=>?_))))
 ·have hF:=aV h22 hF
  refine bA (aA (aE (bR (aE (aF (aI ?_))))))
  obtain⟨v23,h24,hF⟩:=aP hF
  refine aB (cO rfl tyS25 h24) zU2 ?_
  refine aB (cK 18 rfl rfl (.agg tyA51)) zU1 ?_
  refine bP rfl tyZ51q (fun b25=>?_)
  refine bH ?_
  refine bG (dO 0 rfl rfl rfl tyA51.s) zU2 ?_
  refine aC (aA (aE ?_))
  obtain⟨v28,h29,hF⟩:=aP hF
  obtain⟨v30,h31,hF⟩:=aP hF
  refine bT [0,0,0,0,0,24,56,127,255] 9 0 [.v (.va ([pS aT.cod a0]++[pS cQ a1]++[pS cQ a2]++[pS aH.cod a3])),.v (.va (aH.enc v23)),.v (.vc (pS cQ a4)),.v (.vc (pS aO.cod a5)),.v (.vc (pI .i64 x19)),.v (.vc (pM (aO.cod.e v28))),.v (.va (aO.enc v28)),.v (.vc (pB v30)),.v (.vc (pB (!v30)))] aU ⟨d0 (bK 1 4 rfl rfl rfl rfl (.agg tyA113)) zU1,d0 (bK 0 18 rfl rfl rfl rfl (.agg tyA51)) zU1,d0 (aN (.inl rfl)) zU1,d0 (aN (.inl rfl)) zU1,d0 (aN (.inl rfl)) zU1,d0 (cO rfl tyS29 h29) zU2,d0 (cK 8 rfl rfl (.agg tyA58)) zU1,d0 (aJ rfl (zH h31) rfl) ⟨rfl,rfl,rfl,rfl,trivial⟩,d0 (hU rfl) zU1,trivial⟩ (fun bs27 G26=>?_)
  refine aC (aA (bS rfl (fun h32=>?_) (fun h32=>?_)))
  ·have hF:=aV h32 hF
   refine aE (aF (aB (aN (.inr rfl)) ⟨bI _ _,trivial⟩ ?_))
   refine aC (aA (a9 (a8 ?_)))
   obtain rfl:=bV hF
   obtain rfl:=bV hRl20
   exact aL (.inl rfl) Tryz.results19 (.tmp rfl .nil) rfl rfl
  have hF:=aX h32 hF
  refine bA (bJ (aA (aF ?_)))
  obtain⟨v33,h34,hF⟩:=aP hF
  refine aB (bO rfl h34) ⟨rfl,bI _ _,trivial⟩ ?_
  refine aI ?_
  refine aC ?_
  exact bL (fun a w hh=>⟨v33,hF,bF [1] rfl (by decide) (by exact⟨rfl,rfl,rfl,rfl,rfl,rfl,trivial⟩) hh⟩)
 have hF:=aX h22 hF
 refine dI ?_
 obtain rfl:=bV hF
 exact bU Jj21 ⟨hRl20,rfl,rfl⟩ [] rfl trivial
end Go.Proofs.YtcjdedkdoagifaaGreat
