/- Texts of the proof, part 6: Q3 Q4 QZ LB LD MA MB MC LS XL XF XA XU XV LG LV MS MP XW. -/
import Derived.Test.YtcjdedkdoagifaaGreatZ5
set_option linter.unusedVariables false
set_option maxRecDepth 100000
namespace Go.Proofs.YtcjdedkdoagifaaGreat
def pD (K:Nat) (x26:List Rat):Option (List Rat):=
 some x26
def iW (K:Nat) (a1:List aG) (a2:Rat):Nat→(List Rat)→Int→Option (List Rat)
 |0,_,_=>none
 |k+1,x19,x25=>bif(decide (x25<(a1.length:Int))) then((dC a1 x25).bind fun v37=>(dC a1 x25).bind fun v39=>(dC x19 v39.dof).bind fun v41=>(dC a1 x25).bind fun v43=>(yR v43.k a2).bind fun v45=>(aAY v41 v45).bind fun v47=>(dC x19 v37.dof).bind fun v49=>(qC x19 v37.dof v47).bind fun x51=>(bW (x25+1)).bind fun v54=>iW K a1 a2 k x51 v54) else(some x19)
def nG (K:Nat) (a0:List Rat) (a1:List aG) (a2:Rat):Option (List Rat):=
 (qO ([]:List Rat) a0).bind fun x5=>(iW K a1 a2 K x5 0).bind fun x26=>pD K x26
theorem wB {K:Nat} {a0:List Rat} {a1:List aG} {a2:Rat} {r:List Rat} (hF:nG K a0 a1 a2=some r):Ct Tryz.prog 174 [.vc (pS cQ a0),.vc (pS aG.cod a1),.va (eQ a2)] (.vc (pS cQ r)):=by
 unfold nG at hF
 refine bD Tryz.func174 rfl (by kernel_rfl) Tryz.ntmps174 rfl (fun w0 M0=>?_)
 refine aE (aF (cY rfl rfl trivial (fun b1=>?_)))
 refine aB (aN (.inr rfl)) ⟨dX cQ,trivial⟩ ?_
 refine aC (aA (aE (aF (aEI (xR (C:=cQ) (xs:=[]) (ps:=[]) (zs:=([]:List Rat)) rfl tyS24 rfl trivial rfl) trivial (fun b2 _=>?_)))))
 refine aI ?_
 obtain⟨x5,h6,hF⟩:=aP hF
 refine jD 0 rfl tyS24 rfl rfl rfl rfl rfl h6 (fun b7 c8 H9 e10=>?_)
 cases e10
 refine bH ?_
 refine aC (aA (aE (aE (aF (aB (aN (.inr rfl)) ⟨bI _ _,trivial⟩ ?_)))))
 refine aC (aA (bR (cJ (fun H E=>∃(x26:List Rat),pD K x26=some r∧x26.length=(0+a0.length)∧H=[hO cQ b7 c8 44 (0+a0.length) x26]∧E=[(7,.vc (pO b7 (0+a0.length) c8))]) ?_ (fun Jj33=>?_))))
 ·rintro _ _ ⟨x26,hF,q30,rfl,rfl⟩
  unfold pD at hF
  refine aA (aE (aF (aI ?_)))
  refine bH ?_
  refine aC (aA (a9 (a8 (uB 0 [6,7,41] rfl q30 ⟨rfl,rfl,rfl,trivial⟩ rfl ?_))))
  obtain rfl:=bV hF
  exact aL (.inl rfl) Tryz.results174 (.tmp rfl .nil) rfl rfl
 obtain⟨x26',hL,hRl32⟩:=aP hF
 refine gB (fun k a w=>∃(x19:List Rat),∃(x25:Int),iW K a1 a2 k x19 x25=some x26'∧x19.length=(0+a0.length)∧hs _ [hO cQ b7 c8 44 (0+a0.length) x19,⟨some b1,1,44,4,1,(eQ a2)⟩] [(1,.vc (pS aG.cod a1)),(5,.vc (pP (some b1) 0)),(7,.vc (pO b7 (0+a0.length) c8)),(8,.vc (pI .i64 x25))] a w) K (fun a w ⟨_,_,hF,_,_⟩=>by cases hF) (fun k a w ⟨x19,x25,hF,q23,hh⟩=>gE ?_ hh) (fun a w hh=>⟨x5,0,hL,(cL h6 rfl),bF [0,1] rfl (by decide) (by exact⟨rfl,rfl,rfl,rfl,trivial⟩) hh⟩)
 rw [iW.eq_2] at hF
 refine aE (aE (aF (aI ?_)))
 refine aI ?_
 refine aB (bX rfl tyS49) zU1 ?_
 refine aB (dQ rfl) zU2 ?_
 refine aC (aA (bS rfl (fun h34=>?_) (fun h34=>?_)))
 ·have hF:=aV h34 hF
  refine bA (aA (aE (bR ?_)))
  obtain⟨v37,h38,hF⟩:=aP hF
  obtain⟨v39,h40,hF⟩:=aP hF
  obtain⟨v41,h42,hF⟩:=aP hF
  obtain⟨v43,h44,hF⟩:=aP hF
  obtain⟨v45,h46,hF⟩:=aP hF
  obtain⟨v47,h48,hF⟩:=aP hF
  obtain⟨v49,h50,hF⟩:=aP hF
  refine bT [0,0,0,6,14,30,0,0,0,384,896,1920,4032,8128,0,0,49152,114688,245760,0,1032192,2097088,4194303,8388607] 23 1 [.v (.vc (pO b7 (0+a0.length) c8)),.v (.vc (pS aG.cod a1)),.v (.vc (pI .i64 x25)),.v (.vc (pM (aG.cod.e v37))),.v (.vc (pM (aG.cod.e v37))),.v (.vc (pI .i64 v37.dof)),.v (.vc (pO b7 (0+a0.length) c8)),.v (.vc (pS aG.cod a1)),.v (.vc (pI .i64 x25)),.v (.vc (pM (aG.cod.e v39))),.v (.vc (pM (aG.cod.e v39))),.v (.vc (pI .i64 v39.dof)),.v (.vc (pE b7 v39.dof cQ.n 0)),.v (.va (eQ v41)),.v (.vc (pS aG.cod a1)),.v (.vc (pI .i64 x25)),.v (.vc (pM (aG.cod.e v43))),.v (.vc (pM ((aG.cod.e v43).drop 1))),.v (.va (eQ v43.k)),.v (.va (eQ a2)),.v (.va (eQ v45)),.v (.va (eQ v47)),.v (.vc (pE b7 v37.dof cQ.n 0))] aU ⟨d0 (aN (.inl rfl)) zU1,d0 (aN (.inl rfl)) zU1,d0 (aN (.inl rfl)) zU1,d0 (cO rfl tyS49 h38) zU2,d0 (jR (ps:=(aG.cod.e v37)) (k:=0) rfl tyF92_0) zU1,d0 (cK 1 rfl rfl (.one tyO3)) zU1,d0 (aN (.inl rfl)) zU1,d0 (aN (.inl rfl)) zU1,d0 (aN (.inl rfl)) zU1,d0 (cO rfl tyS49 h40) zU2,d0 (jR (ps:=(aG.cod.e v39)) (k:=0) rfl tyF92_0) zU1,d0 (cK 1 rfl rfl (.one tyO3)) zU1,d0 (cS (C:=cQ) 0 rfl tyS24 rfl q23 (aS h42).1 (aS h42).2.1) zU2,d0 (g9 (k:=4) 0 rfl rfl h42 rfl (.agg tyA44) rfl) zU1,d0 (aN (.inl rfl)) zU1,d0 (aN (.inl rfl)) zU1,d0 (cO rfl tyS49 h44) zU2,d0 (jR (ps:=(aG.cod.e v43)) (k:=1) rfl tyF92_1) zU1,d0 (cK 4 rfl rfl (.agg tyA44)) zU1,d0 (bK 1 4 rfl rfl rfl rfl (.agg tyA44)) zU1,d0 (aJ rfl (mP h46) rfl) zU2,d0 (aJ rfl (oZ h48) rfl) zU2,d0 (cS (C:=cQ) 0 rfl tyS24 rfl q23 (aS h50).1 (aS h50).2.1) zU2,trivial⟩ (fun bs36 G35=>?_)
  obtain⟨x51,h52,hF⟩:=aP hF
  refine bG (fW 0 rfl rfl h50 h52 tyA44.s) zU2 ?_
  refine aC (bJ (aA (aF (aI ?_))))
  obtain⟨v54,h55,hF⟩:=aP hF
  refine aB (bO rfl h55) ⟨rfl,bI _ _,trivial⟩ ?_
  refine bH ?_
  refine aC ?_
  exact bL (fun a w hh=>⟨x51,v54,hF,(cE h52 q23),bF [0,1] rfl (by decide) (by exact⟨rfl,rfl,rfl,rfl,trivial⟩) hh⟩)
 have hF:=aX h34 hF
 refine dI ?_
 obtain rfl:=bV hF
 exact bU Jj33 ⟨x19,hRl32,q23,rfl,rfl⟩ [0] rfl zU1
def pH (K:Nat) (x10:List Rat):Option (List Rat):=
 some x10
def iR (K:Nat) (a1:List aH) (a2:List aO):Nat→(List Rat)→Int→Option (List Rat)
 |0,_,_=>none
 |k+1,x8,x9=>bif(decide (x9<(a1.length:Int))) then((dC a1 x9).bind fun v16=>(dC a2 x9).bind fun v18=>(nG K x8 v16.j v18.n).bind fun v20=>(dC a1 x9).bind fun v22=>(dC a2 x9).bind fun v24=>(nG K v20 v22.t v24.f).bind fun v26=>(bW (x9+1)).bind fun v28=>iR K a1 a2 k v26 v28) else(some x8)
def sH (K:Nat) (a0:Int) (a1:List aH) (a2:List aO):Option (List Rat):=
 (vK a0 0).bind fun x1=>(iR K a1 a2 K x1 0).bind fun x10=>pH K x10
theorem aAP {K:Nat} {a0:Int} {a1:List aH} {a2:List aO} {r:List Rat} (hF:sH K a0 a1 a2=some r):Ct Tryz.prog 85 [.vc (pI .i64 a0),.vc (pS aH.cod a1),.vc (pS aO.cod a2)] (.vc (pS cQ r)):=by
 unfold sH at hF
 refine bD Tryz.func85 rfl (by kernel_rfl) Tryz.ntmps85 rfl (fun w0 M0=>?_)
 refine aE (aF (aB (aN (.inr rfl)) ⟨dX cQ,trivial⟩ ?_))
 refine aC (aA (aE (aF (aI ?_))))
 obtain⟨x1,h2,hF⟩:=aP hF
 refine r6 (C:=cQ) rfl tyS24 rfl tyZ44q rfl h2 (fun b3=>?_)
 refine bH ?_
 refine aC (aA (aE (aE (aF (aB (aN (.inr rfl)) ⟨bI _ _,trivial⟩ ?_)))))
 refine aC (aA (bR (aCW 0 [7,10] rfl rfl zU2 rfl ?_)))
 refine cJ (fun H E=>∃(x10:List Rat),pH K x10=some r∧H=[]∧E=[(7,.vc (pS cQ x10))]) ?_ (fun Jj12=>?_)
 ·rintro _ _ ⟨x10,hF,rfl,rfl⟩
  unfold pH at hF
  refine aA (aE (aF (aI ?_)))
  refine bH ?_
  refine aC (aA (a9 (a8 ?_)))
  obtain rfl:=bV hF
  exact aL (.inl rfl) Tryz.results85 (.tmp rfl .nil) rfl rfl
 obtain⟨x10',hL,hRl11⟩:=aP hF
 refine gB (fun k a w=>∃(x8:List Rat),∃(x9:Int),iR K a1 a2 k x8 x9=some x10'∧hs _ [] [(1,.vc (pS aH.cod a1)),(2,.vc (pS aO.cod a2)),(7,.vc (pS cQ x8)),(8,.vc (pI .i64 x9))] a w) K (fun a w ⟨_,_,hF,_⟩=>by cases hF) (fun k a w ⟨x8,x9,hF,hh⟩=>gE ?_ hh) (fun a w hh=>⟨x1,0,hL,bF [] rfl (by decide) (by exact⟨rfl,rfl,rfl,rfl,trivial⟩) hh⟩)
 rw [iR.eq_2] at hF
 refine aE (aE (aF (aI ?_)))
 refine aI ?_
 refine aB (bX rfl tyS25) zU1 ?_
 refine aB (dQ rfl) zU2 ?_
 refine aC (aA (bS rfl (fun h13=>?_) (fun h13=>?_)))
 ·have hF:=aV h13 hF
  refine bA (aA (aE (bR ?_)))
  obtain⟨v16,h17,hF⟩:=aP hF
  obtain⟨v18,h19,hF⟩:=aP hF
  obtain⟨v20,h21,hF⟩:=aP hF
  obtain⟨v22,h23,hF⟩:=aP hF
  obtain⟨v24,h25,hF⟩:=aP hF
  obtain⟨v26,h27,hF⟩:=aP hF
  refine bT [0,0,0,6,14,30,0,0,192,448,960,2047,0,0,12288,28672,61440,0,0,393216,917504,1966080,4194303,8388607] 24 0 [.v (.vc (pS cQ x8)),.v (.vc (pS aH.cod a1)),.v (.vc (pI .i64 x9)),.v (.vc (pM (aH.cod.e v16))),.v (.vc (pM ((aH.cod.e v16).drop 8))),.v (.vc (pS aG.cod v16.j)),.v (.vc (pS aO.cod a2)),.v (.vc (pI .i64 x9)),.v (.vc (pM (aO.cod.e v18))),.v (.vc (pM (aO.cod.e v18))),.v (.va (eQ v18.n)),.v (.vc (pS cQ v20)),.v (.vc (pS aH.cod a1)),.v (.vc (pI .i64 x9)),.v (.vc (pM (aH.cod.e v22))),.v (.vc (pM ((aH.cod.e v22).drop 9))),.v (.vc (pS aG.cod v22.t)),.v (.vc (pS aO.cod a2)),.v (.vc (pI .i64 x9)),.v (.vc (pM (aO.cod.e v24))),.v (.vc (pM ((aO.cod.e v24).drop 4))),.v (.va (eQ v24.f)),.v (.vc (pS cQ v26)),.v (.vc (pS cQ v26))] aU ⟨d0 (aN (.inl rfl)) zU1,d0 (aN (.inl rfl)) zU1,d0 (aN (.inl rfl)) zU1,d0 (cO rfl tyS25 h17) zU2,d0 (jR (ps:=(aH.cod.e v16)) (k:=8) rfl tyF51_5) zU1,d0 (cK 1 rfl rfl (.one tyO49)) zU1,d0 (aN (.inl rfl)) zU1,d0 (aN (.inl rfl)) zU1,d0 (cO rfl tyS29 h19) zU2,d0 (jR (ps:=(aO.cod.e v18)) (k:=0) rfl tyF58_0) zU1,d0 (cK 4 rfl rfl (.agg tyA44)) zU1,d0 (aJ rfl (wB h21) rfl) ⟨rfl,rfl,rfl,trivial⟩,d0 (aN (.inl rfl)) zU1,d0 (aN (.inl rfl)) zU1,d0 (cO rfl tyS25 h23) zU2,d0 (jR (ps:=(aH.cod.e v22)) (k:=9) rfl tyF51_6) zU1,d0 (cK 1 rfl rfl (.one tyO49)) zU1,d0 (aN (.inl rfl)) zU1,d0 (aN (.inl rfl)) zU1,d0 (cO rfl tyS29 h25) zU2,d0 (jR (ps:=(aO.cod.e v24)) (k:=4) rfl tyF58_1) zU1,d0 (cK 4 rfl rfl (.agg tyA44)) zU1,d0 (aJ rfl (wB h27) rfl) ⟨rfl,rfl,rfl,trivial⟩,d0 (aN (.inr rfl)) zU1,trivial⟩ (fun bs15 G14=>?_)
  refine aC (bJ (aA (aF (aI ?_))))
  obtain⟨v28,h29,hF⟩:=aP hF
  refine aB (bO rfl h29) ⟨rfl,bI _ _,trivial⟩ ?_
  refine bH ?_
  refine aC ?_
  exact bL (fun a w hh=>⟨v26,v28,hF,bF [] rfl (by decide) (by exact⟨rfl,rfl,rfl,rfl,trivial⟩) hh⟩)
 have hF:=aX h13 hF
 refine dI ?_
 obtain rfl:=bV hF
 exact bU Jj12 ⟨x8,hRl11,rfl,rfl⟩ [] rfl zU1
def jE (K:Nat) (x19:List Rat):Option (List Rat):=
 some x19
def eA (K:Nat) (a0:List aT) (a1:List Rat) (v1:List Rat):Nat→(List Rat)→Int→Option (List Rat)
 |0,_,_=>none
 |k+1,x12,x18=>bif(decide (x18<(a0.length:Int))) then((dC a0 x18).bind fun v30=>(dC a1 x18).bind fun v32=>(dC v1 x18).bind fun v34=>(aAY v32 v34).bind fun v36=>(yR v30.inv v36).bind fun v38=>(qO x12 [v38]).bind fun x40=>(bW (x18+1)).bind fun v47=>eA K a0 a1 v1 k x40 v47) else(some x12)
def iX (K:Nat) (a0:List aT) (a1:List Rat) (a2:List aH) (a3:List aO):Option (List Rat):=
 (sH K (a0.length:Int) a2 a3).bind fun v1=>(eA K a0 a1 v1 K ([]:List Rat) 0).bind fun x19=>jE K x19
theorem vJ {K:Nat} {a0:List aT} {a1:List Rat} {a2:List aH} {a3:List aO} {r:List Rat} (hF:iX K a0 a1 a2 a3=some r):Ct Tryz.prog 22 [.vc (pS aT.cod a0),.vc (pS cQ a1),.vc (pS aH.cod a2),.vc (pS aO.cod a3)] (.vc (pS cQ r)):=by
 unfold iX at hF
 refine bD Tryz.func22 rfl (by kernel_rfl) Tryz.ntmps22 rfl (fun w0 M0=>?_)
 refine aE (aF (aB (aN (.inr rfl)) ⟨dX cQ,trivial⟩ ?_))
 refine aC (aA (aE (aF (aI ?_))))
 refine aB (bX rfl tyS23) zU1 ?_
 refine aI ?_
 refine aI ?_
 obtain⟨v1,h2,hF⟩:=aP hF
 refine aB (aJ rfl (aAP h2) rfl) ⟨rfl,rfl,rfl,trivial⟩ ?_
 refine bH ?_
 refine aC (aA (aE (aF (sB cQ 44 rfl ?_))))
 refine aC (aA (aE (aE (aF (aB (aN (.inr rfl)) ⟨bI _ _,trivial⟩ ?_)))))
 refine aC (aA (bR (cJ (fun H E=>∃(x19:List Rat),∃(b20:Option Nat),∃(c21:Nat),∃(n22:Nat),jE K x19=some r∧x19.length=n22∧H=[hO cQ b20 c21 44 n22 x19]∧E=[(10,.vc (pO b20 n22 c21))]) ?_ (fun Jj26=>?_))))
 ·rintro _ _ ⟨x19,b20,c21,n22,hF,q23,rfl,rfl⟩
  unfold jE at hF
  refine aA (aE (aF (aI ?_)))
  refine bH ?_
  refine aC (aA (a9 (a8 (uB 0 [8,10,41] rfl q23 ⟨rfl,rfl,rfl,trivial⟩ rfl ?_))))
  obtain rfl:=bV hF
  exact aL (.inl rfl) Tryz.results22 (.tmp rfl .nil) rfl rfl
 obtain⟨x19',hL,hRl25⟩:=aP hF
 refine gB (fun k a w=>∃(x12:List Rat),∃(x18:Int),∃(b13:Option Nat),∃(c14:Nat),∃(n15:Nat),eA K a0 a1 v1 k x12 x18=some x19'∧x12.length=n15∧hs _ [hO cQ b13 c14 44 n15 x12] [(0,.vc (pS aT.cod a0)),(1,.vc (pS cQ a1)),(9,.vc (pS cQ v1)),(10,.vc (pO b13 n15 c14)),(11,.vc (pI .i64 x18))] a w) K (fun a w ⟨_,_,_,_,_,hF,_,_⟩=>by cases hF) (fun k a w ⟨x12,x18,b13,c14,n15,hF,q16,hh⟩=>gE ?_ hh) (fun a w hh=>⟨([]:List Rat),0,none,0,0,hL,rfl,bF [0] rfl (by decide) (by exact⟨rfl,rfl,rfl,rfl,rfl,trivial⟩) hh⟩)
 rw [eA.eq_2] at hF
 refine aE (aE (aF (aI ?_)))
 refine aI ?_
 refine aB (bX rfl tyS23) zU1 ?_
 refine aB (dQ rfl) zU2 ?_
 refine aC (aA (bS rfl (fun h27=>?_) (fun h27=>?_)))
 ·have hF:=aV h27 hF
  refine bA (aA (aE (bR ?_)))
  obtain⟨v30,h31,hF⟩:=aP hF
  obtain⟨v32,h33,hF⟩:=aP hF
  obtain⟨v34,h35,hF⟩:=aP hF
  obtain⟨v36,h37,hF⟩:=aP hF
  obtain⟨v38,h39,hF⟩:=aP hF
  refine bT [0,0,0,6,14,30,0,0,192,448,0,0,3072,7168,16320,32766,65534,131071,262143] 17 2 [.v (.vc (pO b13 n15 c14)),.v (.vc (pS aT.cod a0)),.v (.vc (pI .i64 x18)),.v (.vc (pM (aT.cod.e v30))),.v (.vc (pM (aT.cod.e v30))),.v (.va (eQ v30.inv)),.v (.vc (pS cQ a1)),.v (.vc (pI .i64 x18)),.v (.vc (pM (cQ.e v32))),.v (.va (eQ v32)),.v (.vc (pS cQ v1)),.v (.vc (pI .i64 x18)),.v (.vc (pM (cQ.e v34))),.v (.va (eQ v34)),.v (.va (eQ v36)),.v (.va (eQ v38)),.v (.vc (pS cQ [v38]))] aU ⟨d0 (aN (.inl rfl)) zU1,d0 (aN (.inl rfl)) zU1,d0 (aN (.inl rfl)) zU1,d0 (cO rfl tyS23 h31) zU2,d0 (jR (ps:=(aT.cod.e v30)) (k:=0) rfl tyF108_0) zU1,d0 (cK 4 rfl rfl (.agg tyA44)) zU1,d0 (aN (.inl rfl)) zU1,d0 (aN (.inl rfl)) zU1,d0 (cO rfl tyS24 h33) zU2,d0 (cK 4 rfl rfl (.agg tyA44)) zU1,d0 (aN (.inl rfl)) zU1,d0 (aN (.inl rfl)) zU1,d0 (cO rfl tyS24 h35) zU2,d0 (cK 4 rfl rfl (.agg tyA44)) zU1,d0 (aJ rfl (oZ h37) rfl) zU2,d0 (aJ rfl (mP h39) rfl) zU2,d0 (iJ (C:=cQ) (xs:=[.tmp 38]) (ps:=[.va (eQ v38)]) (zs:=[v38]) rfl tyS24 rfl ⟨⟨trivial,rfl⟩,trivial⟩ rfl) zU1,trivial⟩ (fun bs29 G28=>?_)
  obtain⟨x40,h41,hF⟩:=aP hF
  refine jD 0 rfl tyS24 rfl rfl q16 rfl rfl h41 (fun b42 c43 H44 e45=>?_)
  cases e45
  refine bH ?_
  refine aC (bJ (aA (aF (aI ?_))))
  obtain⟨v47,h48,hF⟩:=aP hF
  refine aB (bO rfl h48) ⟨rfl,bI _ _,trivial⟩ ?_
  refine bH ?_
  refine aC ?_
  exact bL (fun a w hh=>⟨x40,v47,b42,c43,(n15+[v38].length),hF,(cL h41 q16),bF [0] rfl (by decide) (by exact⟨rfl,rfl,rfl,rfl,rfl,trivial⟩) hh⟩)
 have hF:=aX h27 hF
 refine dI ?_
 obtain rfl:=bV hF
 exact bU Jj26 ⟨x12,b13,c14,n15,hRl25,q16,rfl,rfl⟩ [0] rfl zU1
def mX (K:Nat):Option Bool:=
 some true
def gD (K:Nat) (a0:List Rat) (a1:List Rat):Nat→Int→Option (LR Bool Unit)
 |0,_=>none
 |k+1,x3=>bif(decide (x3<(a0.length:Int))) then((dC a0 x3).bind fun v9=>(dC a1 x3).bind fun v11=>(wL v9 v11).bind fun v13=>bif(!v13) then(some (.ret false)) else((bW (x3+1)).bind fun v16=>gD K a0 a1 k v16)) else(some (.go ()))
def iS (K:Nat) (a0:List Rat) (a1:List Rat):Option Bool:=
 bif((a0.length:Int) != (a1.length:Int)) then(some false) else((gD K a0 a1 K 0).bind fun o=>match o with| .ret r=>some r| .go _=>mX K)
theorem uF {K:Nat} {a0:List Rat} {a1:List Rat} {r:Bool} (hF:iS K a0 a1=some r):Ct Tryz.prog 29 [.vc (pS cQ a0),.vc (pS cQ a1)] (.vc (pB r)):=by
 unfold iS at hF
 refine bD Tryz.func29 rfl (by kernel_rfl) Tryz.ntmps29 rfl (fun w0 M0=>?_)
 refine aE (aF (aB (aN (.inr rfl)) ⟨cW _,trivial⟩ ?_))
 refine aC (aA (aE (aE (aF (aI ?_)))))
 refine aB (bX rfl tyS24) zU1 ?_
 refine aI ?_
 refine aB (bX rfl tyS24) zU1 ?_
 refine aB (s7 rfl) zU2 ?_
 refine aC (aA (bS rfl (fun h1=>?_) (fun h1=>?_)))
 ·have hF:=aV h1 hF
  refine aE (aF (aB (aN (.inr rfl)) ⟨cW _,trivial⟩ ?_))
  refine aC (aA (a9 (a8 ?_)))
  obtain rfl:=bV hF
  exact aL (.inl rfl) Tryz.results29 (.tmp rfl .nil) rfl rfl
 have hF:=aX h1 hF
 refine bA (aA (aE (aE (aF (aB (aN (.inr rfl)) ⟨bI _ _,trivial⟩ ?_)))))
 refine aC (aA (bR (cJ (fun H E=>mX K=some r∧H=[]∧E=[]) ?_ (fun Jj5=>?_))))
 ·rintro _ _ ⟨hF,rfl,rfl⟩
  unfold mX at hF
  refine aA (aE (aF (aB (aN (.inr rfl)) ⟨cW _,trivial⟩ ?_)))
  refine aC (aA (a9 (a8 ?_)))
  obtain rfl:=bV hF
  exact aL (.inl rfl) Tryz.results29 (.tmp rfl .nil) rfl rfl
 obtain⟨ol4,hL,hRl4⟩:=aP hF
 refine gB (fun k a w=>∃(x3:Int),gD K a0 a1 k x3=some ol4∧hs _ [] [(0,.vc (pS cQ a0)),(1,.vc (pS cQ a1)),(5,.vc (pI .i64 x3))] a w) K (fun a w ⟨_,hF,_⟩=>by cases hF) (fun k a w ⟨x3,hF,hh⟩=>gE ?_ hh) (fun a w hh=>⟨0,hL,bF [] rfl (by decide) (by exact⟨rfl,rfl,rfl,trivial⟩) hh⟩)
 rw [gD.eq_2] at hF
 refine aE (aE (aF (aI ?_)))
 refine aI ?_
 refine aB (bX rfl tyS24) zU1 ?_
 refine aB (dQ rfl) zU2 ?_
 refine aC (aA (bS rfl (fun h6=>?_) (fun h6=>?_)))
 ·have hF:=aV h6 hF
  refine bA (aA (aE (bR (aE ?_))))
  obtain⟨v9,h10,hF⟩:=aP hF
  obtain⟨v11,h12,hF⟩:=aP hF
  obtain⟨v13,h14,hF⟩:=aP hF
  refine bT [0,0,3,7,0,0,48,112,255,511] 10 0 [.v (.vc (pS cQ a0)),.v (.vc (pI .i64 x3)),.v (.vc (pM (cQ.e v9))),.v (.va (eQ v9)),.v (.vc (pS cQ a1)),.v (.vc (pI .i64 x3)),.v (.vc (pM (cQ.e v11))),.v (.va (eQ v11)),.v (.vc (pB v13)),.v (.vc (pB (!v13)))] aU ⟨d0 (aN (.inl rfl)) zU1,d0 (aN (.inl rfl)) zU1,d0 (cO rfl tyS24 h10) zU2,d0 (cK 4 rfl rfl (.agg tyA44)) zU1,d0 (aN (.inl rfl)) zU1,d0 (aN (.inl rfl)) zU1,d0 (cO rfl tyS24 h12) zU2,d0 (cK 4 rfl rfl (.agg tyA44)) zU1,d0 (aJ rfl (aAt h14) rfl) zU2,d0 (hU rfl) zU1,trivial⟩ (fun bs8 G7=>?_)
  refine aC (aA (bS rfl (fun h15=>?_) (fun h15=>?_)))
  ·have hF:=aV h15 hF
   refine aE (aF (aB (aN (.inr rfl)) ⟨cW _,trivial⟩ ?_))
   refine aC (aA (a9 (a8 ?_)))
   obtain rfl:=bV hF
   obtain rfl:=bV hRl4
   exact aL (.inl rfl) Tryz.results29 (.tmp rfl .nil) rfl rfl
  have hF:=aX h15 hF
  refine bA (bJ (aA (aF (aI ?_))))
  obtain⟨v16,h17,hF⟩:=aP hF
  refine aB (bO rfl h17) ⟨rfl,bI _ _,trivial⟩ ?_
  refine bH ?_
  refine aC ?_
  exact bL (fun a w hh=>⟨v16,hF,bF [] rfl (by decide) (by exact⟨rfl,rfl,rfl,trivial⟩) hh⟩)
 have hF:=aX h6 hF
 refine dI ?_
 obtain rfl:=bV hF
 exact bU Jj5 ⟨hRl4,rfl,rfl⟩ [] rfl trivial
def o9 (K:Nat) (x7:Rat):Option Rat:=
 some x7
def fI (K:Nat) (a0:List aG) (a1:List Rat):Nat→Rat→Int→Option Rat
 |0,_,_=>none
 |k+1,x5,x6=>bif(decide (x6<(a0.length:Int))) then((dC a0 x6).bind fun v11=>bif(decide (0≤v11.dof)) then((dC a0 x6).bind fun v14=>bif(decide (v14.dof<(a1.length:Int))) then((dC a0 x6).bind fun v19=>(dC a0 x6).bind fun v21=>(dC a1 (max v21.dof 0)).bind fun v23=>(yR v19.k v23).bind fun v25=>(aAY x5 v25).bind fun v27=>(bW (x6+1)).bind fun v29=>fI K a0 a1 k v27 v29) else((bW (x6+1)).bind fun v31=>fI K a0 a1 k x5 v31)) else((bW (x6+1)).bind fun v33=>fI K a0 a1 k x5 v33)) else(some x5)
def gH (K:Nat) (a0:List aG) (a1:List Rat):Option Rat:=
 (fI K a0 a1 K 0 0).bind fun x7=>o9 K x7
theorem nW {K:Nat} {a0:List aG} {a1:List Rat} {r:Rat} (hF:gH K a0 a1=some r):Ct Tryz.prog 92 [.vc (pS aG.cod a0),.vc (pS cQ a1)] (.va (eQ r)):=by
 unfold gH at hF
 refine bD Tryz.func92 rfl (by kernel_rfl) Tryz.ntmps92 rfl (fun w0 M0=>?_)
 refine aE (aF (bP rfl tyZ44q (fun b1=>?_)))
 refine aC (aA (aE (aF (bP rfl tyZ44q (fun b2=>?_)))))
 refine aC (aA (aE (aE (aF (aB (aN (.inr rfl)) ⟨bI _ _,trivial⟩ ?_)))))
 refine aC (aA (bR (cJ (fun H E=>∃(x7:Rat),o9 K x7=some r∧H=[⟨some b2,1,44,4,1,(eQ x7)⟩,⟨some b1,1,44,4,1,(eQ 0)⟩]∧E=[(4,.vc (pP (some b1) 0)),(5,.vc (pP (some b2) 0))]) ?_ (fun Jj9=>?_))))
 ·rintro _ _ ⟨x7,hF,rfl,rfl⟩
  unfold o9 at hF
  refine aA (aE (aF (aB (bK 0 4 rfl rfl rfl rfl (.agg tyA44)) zU1 ?_)))
  refine bG (dO 1 rfl rfl rfl tyA44.s) zU2 ?_
  refine aC (aA (a9 (a8 ?_)))
  obtain rfl:=bV hF
  exact aL (.inl rfl) Tryz.results92 (bQ 1 4 rfl rfl rfl rfl (.agg tyA44) .nil) rfl rfl
 obtain⟨x7',hL,hRl8⟩:=aP hF
 refine gB (fun k a w=>∃(x5:Rat),∃(x6:Int),fI K a0 a1 k x5 x6=some x7'∧hs _ [⟨some b2,1,44,4,1,(eQ x5)⟩,⟨some b1,1,44,4,1,(eQ 0)⟩] [(0,.vc (pS aG.cod a0)),(1,.vc (pS cQ a1)),(4,.vc (pP (some b1) 0)),(5,.vc (pP (some b2) 0)),(6,.vc (pI .i64 x6))] a w) K (fun a w ⟨_,_,hF,_⟩=>by cases hF) (fun k a w ⟨x5,x6,hF,hh⟩=>gE ?_ hh) (fun a w hh=>⟨0,0,hL,bF [0,1] rfl (by decide) (by exact⟨rfl,rfl,rfl,rfl,rfl,trivial⟩) hh⟩)
 rw [fI.eq_2] at hF
 refine aE (aE (aF (aI ?_)))
 refine aI ?_
 refine aB (bX rfl tyS49) zU1 ?_
 refine aB (dQ rfl) zU2 ?_
 refine aC (aA (bS rfl (fun h10=>?_) (fun h10=>?_)))
 ·have hF:=aV h10 hF
  refine bA (aA (aE (bR (aE (aF (aI ?_))))))
  refine aI ?_
  obtain⟨v11,h12,hF⟩:=aP hF
  refine aB (cO rfl tyS49 h12) zU2 ?_
  refine aB (jR (ps:=(aG.cod.e v11)) (k:=0) rfl tyF92_0) zU1 ?_
  refine aB (cK 1 rfl rfl (.one tyO3)) zU1 ?_
  refine aB (uP rfl) ⟨rfl,bI _ _,trivial⟩ ?_
  refine aI ?_
  refine cP (fun h13=>?_) (fun h13=>?_)
  ·have hF:=aV h13 hF
   refine aY (aN (.inl rfl)) zU1 ?_
   refine aY (aN (.inl rfl)) zU1 ?_
   obtain⟨v14,h15,hF⟩:=aP hF
   refine aY (cO rfl tyS49 h15) zU2 ?_
   refine aY (jR (ps:=(aG.cod.e v14)) (k:=0) rfl tyF92_0) zU1 ?_
   refine aY (cK 1 rfl rfl (.one tyO3)) zU1 ?_
   refine aY (aN (.inl rfl)) zU1 ?_
   refine aY (bX rfl tyS24) zU1 ?_
   refine aY (dQ rfl) zU2 ?_
   refine aB (bM rfl) zU2 ?_
   refine aC (aA (bS rfl (fun h16=>?_) (fun h16=>?_)))
   ·have hF:=aV h16 hF
    obtain⟨v19,h20,hF⟩:=aP hF
    obtain⟨v21,h22,hF⟩:=aP hF
    obtain⟨v23,h24,hF⟩:=aP hF
    obtain⟨v25,h26,hF⟩:=aP hF
    obtain⟨v27,h28,hF⟩:=aP hF
    refine bT [0,0,0,6,14,30,0,0,0,384,896,1920,3968,8128,16320,32766,65535,131071] 17 1 [.v (.va (eQ x5)),.v (.vc (pS aG.cod a0)),.v (.vc (pI .i64 x6)),.v (.vc (pM (aG.cod.e v19))),.v (.vc (pM ((aG.cod.e v19).drop 1))),.v (.va (eQ v19.k)),.v (.vc (pS cQ a1)),.v (.vc (pS aG.cod a0)),.v (.vc (pI .i64 x6)),.v (.vc (pM (aG.cod.e v21))),.v (.vc (pM (aG.cod.e v21))),.v (.vc (pI .i64 v21.dof)),.v (.vc (pI .i64 (max v21.dof 0))),.v (.vc (pM (cQ.e v23))),.v (.va (eQ v23)),.v (.va (eQ v25)),.v (.va (eQ v27))] aU ⟨d0 (bK 0 4 rfl rfl rfl rfl (.agg tyA44)) zU1,d0 (aN (.inl rfl)) zU1,d0 (aN (.inl rfl)) zU1,d0 (cO rfl tyS49 h20) zU2,d0 (jR (ps:=(aG.cod.e v19)) (k:=1) rfl tyF92_1) zU1,d0 (cK 4 rfl rfl (.agg tyA44)) zU1,d0 (aN (.inl rfl)) zU1,d0 (aN (.inl rfl)) zU1,d0 (aN (.inl rfl)) zU1,d0 (cO rfl tyS49 h22) zU2,d0 (jR (ps:=(aG.cod.e v21)) (k:=0) rfl tyF92_0) zU1,d0 (cK 1 rfl rfl (.one tyO3)) zU1,d0 (aIZ rfl) ⟨rfl,bI _ _,trivial⟩,d0 (cO rfl tyS24 h24) zU2,d0 (cK 4 rfl rfl (.agg tyA44)) zU1,d0 (aJ rfl (mP h26) rfl) zU2,d0 (aJ rfl (oZ h28) rfl) zU2,trivial⟩ (fun bs18 G17=>?_)
    refine bG (dO 0 rfl rfl rfl tyA44.s) zU2 ?_
    refine aC (bJ (aA (aF (aI ?_))))
    obtain⟨v29,h30,hF⟩:=aP hF
    refine aB (bO rfl h30) ⟨rfl,bI _ _,trivial⟩ ?_
    refine bH ?_
    refine aC ?_
    exact bL (fun a w hh=>⟨v27,v29,hF,bF [0,1] rfl (by decide) (by exact⟨rfl,rfl,rfl,rfl,rfl,trivial⟩) hh⟩)
   have hF:=aX h16 hF
   refine bA (bJ (aA (aF (aI ?_))))
   obtain⟨v31,h32,hF⟩:=aP hF
   refine aB (bO rfl h32) ⟨rfl,bI _ _,trivial⟩ ?_
   refine bH ?_
   refine aC ?_
   exact bL (fun a w hh=>⟨x5,v31,hF,bF [0,1] rfl (by decide) (by exact⟨rfl,rfl,rfl,rfl,rfl,trivial⟩) hh⟩)
  have hF:=aX h13 hF
  refine aM ?_
  refine aM ?_
  refine aM ?_
  refine aM ?_
  refine aM ?_
  refine aM ?_
  refine aM ?_
  refine aM ?_
  refine aB (bN rfl) ⟨rfl,cW _,trivial⟩ ?_
  refine aC (aA (sT rfl ?_))
  refine bA (bJ (aA (aF (aI ?_))))
  obtain⟨v33,h34,hF⟩:=aP hF
  refine aB (bO rfl h34) ⟨rfl,bI _ _,trivial⟩ ?_
  refine bH ?_
  refine aC ?_
  exact bL (fun a w hh=>⟨x5,v33,hF,bF [0,1] rfl (by decide) (by exact⟨rfl,rfl,rfl,rfl,rfl,trivial⟩) hh⟩)
 have hF:=aX h10 hF
 refine dI ?_
 obtain rfl:=bV hF
 exact bU Jj9 ⟨x5,hRl8,rfl,rfl⟩ [0,1] rfl zU2
def pA (K:Nat):Option Bool:=
 some true
def iT (K:Nat) (a0:List Rat):Nat→Int→Option (LR Bool Unit)
 |0,_=>none
 |k+1,x2=>bif(decide (x2<(a0.length:Int))) then((dC a0 x2).bind fun v6=>(aAq v6).bind fun v8=>bif(!v8) then(some (.ret false)) else((bW (x2+1)).bind fun v11=>iT K a0 k v11)) else(some (.go ()))
def mM (K:Nat) (a0:List Rat):Option Bool:=
 (iT K a0 K 0).bind fun o=>match o with| .ret r=>some r| .go _=>pA K
theorem vP {K:Nat} {a0:List Rat} {r:Bool} (hF:mM K a0=some r):Ct Tryz.prog 82 [.vc (pS cQ a0)] (.vc (pB r)):=by
 unfold mM at hF
 refine bD Tryz.func82 rfl (by kernel_rfl) Tryz.ntmps82 rfl (fun w0 M0=>?_)
 refine aE (aF (aB (aN (.inr rfl)) ⟨cW _,trivial⟩ ?_))
 refine aC (aA (aE (aE (aF (aB (aN (.inr rfl)) ⟨bI _ _,trivial⟩ ?_)))))
 refine aC (aA (bR (cJ (fun H E=>pA K=some r∧H=[]∧E=[]) ?_ (fun Jj4=>?_))))
 ·rintro _ _ ⟨hF,rfl,rfl⟩
  unfold pA at hF
  refine aA (aE (aF (aB (aN (.inr rfl)) ⟨cW _,trivial⟩ ?_)))
  refine aC (aA (a9 (a8 ?_)))
  obtain rfl:=bV hF
  exact aL (.inl rfl) Tryz.results82 (.tmp rfl .nil) rfl rfl
 obtain⟨ol3,hL,hRl3⟩:=aP hF
 refine gB (fun k a w=>∃(x2:Int),iT K a0 k x2=some ol3∧hs _ [] [(0,.vc (pS cQ a0)),(3,.vc (pI .i64 x2))] a w) K (fun a w ⟨_,hF,_⟩=>by cases hF) (fun k a w ⟨x2,hF,hh⟩=>gE ?_ hh) (fun a w hh=>⟨0,hL,bF [] rfl (by decide) (by exact zU2) hh⟩)
 rw [iT.eq_2] at hF
 refine aE (aE (aF (aI ?_)))
 refine aI ?_
 refine aB (bX rfl tyS24) zU1 ?_
 refine aB (dQ rfl) zU2 ?_
 refine aC (aA (bS rfl (fun h5=>?_) (fun h5=>?_)))
 ·have hF:=aV h5 hF
  refine bA (aA (aE (bR (aE (aF (aI ?_))))))
  refine aI ?_
  obtain⟨v6,h7,hF⟩:=aP hF
  refine aB (cO rfl tyS24 h7) zU2 ?_
  refine aB (cK 4 rfl rfl (.agg tyA44)) zU1 ?_
  obtain⟨v8,h9,hF⟩:=aP hF
  refine aB (aJ rfl (gY h9) rfl) zU1 ?_
  refine aB (hU rfl) zU1 ?_
  refine aC (aA (bS rfl (fun h10=>?_) (fun h10=>?_)))
  ·have hF:=aV h10 hF
   refine aE (aF (aB (aN (.inr rfl)) ⟨cW _,trivial⟩ ?_))
   refine aC (aA (a9 (a8 ?_)))
   obtain rfl:=bV hF
   obtain rfl:=bV hRl3
   exact aL (.inl rfl) Tryz.results82 (.tmp rfl .nil) rfl rfl
  have hF:=aX h10 hF
  refine bA (bJ (aA (aF (aI ?_))))
  obtain⟨v11,h12,hF⟩:=aP hF
  refine aB (bO rfl h12) ⟨rfl,bI _ _,trivial⟩ ?_
  refine bH ?_
  refine aC ?_
  exact bL (fun a w hh=>⟨v11,hF,bF [] rfl (by decide) (by exact zU2) hh⟩)
 have hF:=aX h5 hF
 refine dI ?_
 obtain rfl:=bV hF
 exact bU Jj4 ⟨hRl3,rfl,rfl⟩ [] rfl trivial
def oF (K:Nat):Option Bool:=
 some true
def f9 (K:Nat) (a0:List aG) (a1:Int):Nat→Int→Option (LR Bool Unit)
 |0,_=>none
 |k+1,x2=>bif(decide (x2<(a0.length:Int))) then((dC a0 x2).bind fun v8=>(aAq v8.k).bind fun v10=>bif(!v10) then(some (.ret false)) else((dC a0 x2).bind fun v13=>bif(decide (v13.dof<0)) then(some (.ret false)) else((dC a0 x2).bind fun v16=>bif(decide (a1≤v16.dof)) then(some (.ret false)) else(bif(decide (0<x2)) then((dC a0 x2).bind fun v20=>(bW (x2-1)).bind fun v22=>(dC a0 (max v22 0)).bind fun v24=>bif(decide (v20.dof≤v24.dof)) then(some (.ret false)) else((bW (x2+1)).bind fun v27=>f9 K a0 a1 k v27)) else((bW (x2+1)).bind fun v29=>f9 K a0 a1 k v29))))) else(some (.go ()))
def lW (K:Nat) (a0:List aG) (a1:Int):Option Bool:=
 (f9 K a0 a1 K 0).bind fun o=>match o with| .ret r=>some r| .go _=>oF K
theorem vF {K:Nat} {a0:List aG} {a1:Int} {r:Bool} (hF:lW K a0 a1=some r):Ct Tryz.prog 227 [.vc (pS aG.cod a0),.vc (pI .i64 a1)] (.vc (pB r)):=by
 unfold lW at hF
 refine bD Tryz.func227 rfl (by kernel_rfl) Tryz.ntmps227 rfl (fun w0 M0=>?_)
 refine aE (aF (aB (aN (.inr rfl)) ⟨cW _,trivial⟩ ?_))
 refine aC (aA (aE (aE (aF (aB (aN (.inr rfl)) ⟨bI _ _,trivial⟩ ?_)))))
 refine aC (aA (bR (cJ (fun H E=>oF K=some r∧H=[]∧E=[]) ?_ (fun Jj4=>?_))))
 ·rintro _ _ ⟨hF,rfl,rfl⟩
  unfold oF at hF
  refine aA (aE (aF (aB (aN (.inr rfl)) ⟨cW _,trivial⟩ ?_)))
  refine aC (aA (a9 (a8 ?_)))
  obtain rfl:=bV hF
  exact aL (.inl rfl) Tryz.results227 (.tmp rfl .nil) rfl rfl
 obtain⟨ol3,hL,hRl3⟩:=aP hF
 refine gB (fun k a w=>∃(x2:Int),f9 K a0 a1 k x2=some ol3∧hs _ [] [(0,.vc (pS aG.cod a0)),(1,.vc (pI .i64 a1)),(5,.vc (pI .i64 x2))] a w) K (fun a w ⟨_,hF,_⟩=>by cases hF) (fun k a w ⟨x2,hF,hh⟩=>gE ?_ hh) (fun a w hh=>⟨0,hL,bF [] rfl (by decide) (by exact⟨rfl,rfl,rfl,trivial⟩) hh⟩)
 rw [f9.eq_2] at hF
 refine aE (aE (aF (aI ?_)))
 refine aI ?_
 refine aB (bX rfl tyS49) zU1 ?_
 refine aB (dQ rfl) zU2 ?_
 refine aC (aA (bS rfl (fun h5=>?_) (fun h5=>?_)))
 ·have hF:=aV h5 hF
  refine bA (aA (aE (bR (aE ?_))))
  obtain⟨v8,h9,hF⟩:=aP hF
  obtain⟨v10,h11,hF⟩:=aP hF
  rcases Bool.eq_false_or_eq_true (!v10) with h12|h12
  ·have hF:=aV h12 hF
   refine bT (0::0::3::7::15::31::63::127::255::255::1023::2047::4095::8191::16383::32767::65535::65535::262143::524287::1048575::65535::4194303::8388607::16777215::33554431::67108863::134217727::268435455::268435455::1073741823::2147483647::4294967295::268435455::268435455::17448304639::51808043007::129117454335::266556407807::541434314751::1099511627775::2199023255551::4398046511103::[]) 43 0 (.v (.vc (pS aG.cod a0))::.v (.vc (pI .i64 x2))::.v (.vc (pM (aG.cod.e v8)))::.v (.vc (pM ((aG.cod.e v8).drop 1)))::.v (.va (eQ v8.k))::.v (.vc (pB v10))::.v (.vc (pB (!v10)))::.v (.vc (pB true))::.v .un::.v .un::.v .un::.v .un::.v .un::.v .un::.v (.vc (pB true))::.v (.vc (pB true))::.v .un::.v .un::.v .un::.v .un::.v .un::.v .un::.v .un::.v (.vc (pB true))::.v (.vc (pB true))::.v .un::.v .un::.v .un::.v .un::.v .un::.v .un::.v .un::.v .un::.v .un::.v .un::.v .un::.v .un::.v .un::.v .un::.v .un::.v .un::.v .un::.v (.vc (pB true))::[]) aU ⟨d0 (aN (.inl rfl)) zU1,d0 (aN (.inl rfl)) zU1,d0 (cO rfl tyS49 h9) zU2,d0 (jR (ps:=(aG.cod.e v8)) (k:=1) rfl tyF92_1) zU1,d0 (cK 4 rfl rfl (.agg tyA44)) zU1,d0 (aJ rfl (gY h11) rfl) zU1,d0 (hU rfl) zU1,d0 (cX (aN (.inl rfl)) h12) zU1,⟨rfl,.skipN⟩,⟨rfl,.skipN⟩,⟨rfl,.skipN⟩,⟨rfl,.skipN⟩,⟨rfl,.skipN⟩,⟨rfl,.skipN⟩,d0 (bM rfl) ⟨rfl,cW _,trivial⟩,d0 (aN (.inl rfl)) zU1,⟨rfl,.skipN⟩,⟨rfl,.skipN⟩,⟨rfl,.skipN⟩,⟨rfl,.skipN⟩,⟨rfl,.skipN⟩,⟨rfl,.skipN⟩,⟨rfl,.skipN⟩,d0 (bM rfl) ⟨rfl,cW _,trivial⟩,d0 (aN (.inl rfl)) zU1,⟨rfl,.skipN⟩,⟨rfl,.skipN⟩,⟨rfl,.skipN⟩,⟨rfl,.skipU⟩,⟨rfl,.skipU⟩,⟨rfl,.skipU⟩,⟨rfl,.skipU⟩,⟨rfl,.skipU⟩,⟨rfl,.skipU⟩,⟨rfl,.skipU⟩,⟨rfl,.skipU⟩,⟨rfl,.skipU⟩,⟨rfl,.skipU⟩,⟨rfl,.skipU⟩,⟨rfl,.skipU⟩,⟨rfl,.skipU⟩,⟨rfl,.skipN⟩,d0 (bM rfl) ⟨rfl,cW _,trivial⟩,trivial⟩ (fun bs7 G6=>?_)
   refine aC (aA (iO rfl ?_))
   refine aE (aF (aB (aN (.inr rfl)) ⟨cW _,trivial⟩ ?_))
   refine aC (aA (a9 (a8 ?_)))
   obtain rfl:=bV hF
   obtain rfl:=bV hRl3
   exact aL (.inl rfl) Tryz.results227 (.tmp rfl .nil) rfl rfl
  have hF:=aX h12 hF
  obtain⟨v13,h14,hF⟩:=aP hF
  rcases Bool.eq_false_or_eq_true (decide (v13.dof<0)) with h15|h15
  ·have hF:=aV h15 hF
   refine bT (0::0::3::7::15::31::63::127::255::255::1023::2047::4095::8191::16383::32767::65535::65535::262143::524287::1048575::65535::4194303::8388607::16777215::33554431::67108863::134217727::268435455::268435455::1073741823::2147483647::4294967295::268435455::268435455::17448304639::51808043007::129117454335::266556407807::541434314751::1099511627775::2199023255551::4398046511103::[]) 43 0 (.v (.vc (pS aG.cod a0))::.v (.vc (pI .i64 x2))::.v (.vc (pM (aG.cod.e v8)))::.v (.vc (pM ((aG.cod.e v8).drop 1)))::.v (.va (eQ v8.k))::.v (.vc (pB v10))::.v (.vc (pB (!v10)))::.v (.vc (pB false))::.v (.vc (pS aG.cod a0))::.v (.vc (pI .i64 x2))::.v (.vc (pM (aG.cod.e v13)))::.v (.vc (pM (aG.cod.e v13)))::.v (.vc (pI .i64 v13.dof))::.v (.vc (pB (decide (v13.dof<0))))::.v (.vc (pB (decide (v13.dof<0))))::.v (.vc (pB true))::.v .un::.v .un::.v .un::.v .un::.v .un::.v .un::.v .un::.v (.vc (pB true))::.v (.vc (pB true))::.v .un::.v .un::.v .un::.v .un::.v .un::.v .un::.v .un::.v .un::.v .un::.v .un::.v .un::.v .un::.v .un::.v .un::.v .un::.v .un::.v .un::.v (.vc (pB true))::[]) aU ⟨d0 (aN (.inl rfl)) zU1,d0 (aN (.inl rfl)) zU1,d0 (cO rfl tyS49 h9) zU2,d0 (jR (ps:=(aG.cod.e v8)) (k:=1) rfl tyF92_1) zU1,d0 (cK 4 rfl rfl (.agg tyA44)) zU1,d0 (aJ rfl (gY h11) rfl) zU1,d0 (hU rfl) zU1,d0 (cX (aN (.inl rfl)) h12) zU1,g0 (aN (.inl rfl)) zU1,g0 (aN (.inl rfl)) zU1,g0 (cO rfl tyS49 h14) zU2,g0 (jR (ps:=(aG.cod.e v13)) (k:=0) rfl tyF92_0) zU1,g0 (cK 1 rfl rfl (.one tyO3)) zU1,g0 (dQ rfl) ⟨rfl,bI _ _,trivial⟩,d0 (bN rfl) zU2,d0 (cX (aN (.inl rfl)) h15) zU1,⟨rfl,.skipN⟩,⟨rfl,.skipN⟩,⟨rfl,.skipN⟩,⟨rfl,.skipN⟩,⟨rfl,.skipN⟩,⟨rfl,.skipN⟩,⟨rfl,.skipN⟩,d0 (bM rfl) ⟨rfl,cW _,trivial⟩,d0 (aN (.inl rfl)) zU1,⟨rfl,.skipN⟩,⟨rfl,.skipN⟩,⟨rfl,.skipN⟩,⟨rfl,.skipU⟩,⟨rfl,.skipU⟩,⟨rfl,.skipU⟩,⟨rfl,.skipU⟩,⟨rfl,.skipU⟩,⟨rfl,.skipU⟩,⟨rfl,.skipU⟩,⟨rfl,.skipU⟩,⟨rfl,.skipU⟩,⟨rfl,.skipU⟩,⟨rfl,.skipU⟩,⟨rfl,.skipU⟩,⟨rfl,.skipU⟩,⟨rfl,.skipN⟩,d0 (bM rfl) ⟨rfl,cW _,trivial⟩,trivial⟩ (fun bs7 G6=>?_)
   refine aC (aA (iO rfl ?_))
   refine aE (aF (aB (aN (.inr rfl)) ⟨cW _,trivial⟩ ?_))
   refine aC (aA (a9 (a8 ?_)))
   obtain rfl:=bV hF
   obtain rfl:=bV hRl3
   exact aL (.inl rfl) Tryz.results227 (.tmp rfl .nil) rfl rfl
  have hF:=aX h15 hF
  obtain⟨v16,h17,hF⟩:=aP hF
  rcases Bool.eq_false_or_eq_true (decide (a1≤v16.dof)) with h18|h18
  ·have hF:=aV h18 hF
   refine bT (0::0::3::7::15::31::63::127::255::255::1023::2047::4095::8191::16383::32767::65535::65535::262143::524287::1048575::65535::4194303::8388607::16777215::33554431::67108863::134217727::268435455::268435455::1073741823::2147483647::4294967295::268435455::268435455::17448304639::51808043007::129117454335::266556407807::541434314751::1099511627775::2199023255551::4398046511103::[]) 43 0 (.v (.vc (pS aG.cod a0))::.v (.vc (pI .i64 x2))::.v (.vc (pM (aG.cod.e v8)))::.v (.vc (pM ((aG.cod.e v8).drop 1)))::.v (.va (eQ v8.k))::.v (.vc (pB v10))::.v (.vc (pB (!v10)))::.v (.vc (pB false))::.v (.vc (pS aG.cod a0))::.v (.vc (pI .i64 x2))::.v (.vc (pM (aG.cod.e v13)))::.v (.vc (pM (aG.cod.e v13)))::.v (.vc (pI .i64 v13.dof))::.v (.vc (pB (decide (v13.dof<0))))::.v (.vc (pB (decide (v13.dof<0))))::.v (.vc (pB false))::.v (.vc (pS aG.cod a0))::.v (.vc (pI .i64 x2))::.v (.vc (pM (aG.cod.e v16)))::.v (.vc (pM (aG.cod.e v16)))::.v (.vc (pI .i64 v16.dof))::.v (.vc (pI .i64 a1))::.v (.vc (pB (decide (a1≤v16.dof))))::.v (.vc (pB (decide (a1≤v16.dof))))::.v (.vc (pB true))::.v .un::.v .un::.v .un::.v .un::.v .un::.v .un::.v .un::.v .un::.v .un::.v .un::.v .un::.v .un::.v .un::.v .un::.v .un::.v .un::.v .un::.v (.vc (pB true))::[]) aU ⟨d0 (aN (.inl rfl)) zU1,d0 (aN (.inl rfl)) zU1,d0 (cO rfl tyS49 h9) zU2,d0 (jR (ps:=(aG.cod.e v8)) (k:=1) rfl tyF92_1) zU1,d0 (cK 4 rfl rfl (.agg tyA44)) zU1,d0 (aJ rfl (gY h11) rfl) zU1,d0 (hU rfl) zU1,d0 (cX (aN (.inl rfl)) h12) zU1,g0 (aN (.inl rfl)) zU1,g0 (aN (.inl rfl)) zU1,g0 (cO rfl tyS49 h14) zU2,g0 (jR (ps:=(aG.cod.e v13)) (k:=0) rfl tyF92_0) zU1,g0 (cK 1 rfl rfl (.one tyO3)) zU1,g0 (dQ rfl) ⟨rfl,bI _ _,trivial⟩,d0 (bN rfl) zU2,d0 (cX (aN (.inl rfl)) h15) zU1,g0 (aN (.inl rfl)) zU1,g0 (aN (.inl rfl)) zU1,g0 (cO rfl tyS49 h17) zU2,g0 (jR (ps:=(aG.cod.e v16)) (k:=0) rfl tyF92_0) zU1,g0 (cK 1 rfl rfl (.one tyO3)) zU1,g0 (aN (.inl rfl)) zU1,g0 (uP rfl) zU2,d0 (bN rfl) zU2,d0 (cX (aN (.inl rfl)) h18) zU1,⟨rfl,.skipN⟩,⟨rfl,.skipN⟩,⟨rfl,.skipN⟩,⟨rfl,.skipU⟩,⟨rfl,.skipU⟩,⟨rfl,.skipU⟩,⟨rfl,.skipU⟩,⟨rfl,.skipU⟩,⟨rfl,.skipU⟩,⟨rfl,.skipU⟩,⟨rfl,.skipU⟩,⟨rfl,.skipU⟩,⟨rfl,.skipU⟩,⟨rfl,.skipU⟩,⟨rfl,.skipU⟩,⟨rfl,.skipU⟩,⟨rfl,.skipN⟩,d0 (bM rfl) ⟨rfl,cW _,trivial⟩,trivial⟩ (fun bs7 G6=>?_)
   refine aC (aA (iO rfl ?_))
   refine aE (aF (aB (aN (.inr rfl)) ⟨cW _,trivial⟩ ?_))
   refine aC (aA (a9 (a8 ?_)))
   obtain rfl:=bV hF
   obtain rfl:=bV hRl3
   exact aL (.inl rfl) Tryz.results227 (.tmp rfl .nil) rfl rfl
  have hF:=aX h18 hF
  rcases Bool.eq_false_or_eq_true (decide (0<x2)) with h19|h19
  ·have hF:=aV h19 hF
   obtain⟨v20,h21,hF⟩:=aP hF
   obtain⟨v22,h23,hF⟩:=aP hF
   obtain⟨v24,h25,hF⟩:=aP hF
   refine bT (0::0::3::7::15::31::63::127::255::255::1023::2047::4095::8191::16383::32767::65535::65535::262143::524287::1048575::65535::4194303::8388607::16777215::33554431::67108863::134217727::268435455::268435455::1073741823::2147483647::4294967295::268435455::268435455::17448304639::51808043007::129117454335::266556407807::541434314751::1099511627775::2199023255551::4398046511103::[]) 43 0 (.v (.vc (pS aG.cod a0))::.v (.vc (pI .i64 x2))::.v (.vc (pM (aG.cod.e v8)))::.v (.vc (pM ((aG.cod.e v8).drop 1)))::.v (.va (eQ v8.k))::.v (.vc (pB v10))::.v (.vc (pB (!v10)))::.v (.vc (pB false))::.v (.vc (pS aG.cod a0))::.v (.vc (pI .i64 x2))::.v (.vc (pM (aG.cod.e v13)))::.v (.vc (pM (aG.cod.e v13)))::.v (.vc (pI .i64 v13.dof))::.v (.vc (pB (decide (v13.dof<0))))::.v (.vc (pB (decide (v13.dof<0))))::.v (.vc (pB false))::.v (.vc (pS aG.cod a0))::.v (.vc (pI .i64 x2))::.v (.vc (pM (aG.cod.e v16)))::.v (.vc (pM (aG.cod.e v16)))::.v (.vc (pI .i64 v16.dof))::.v (.vc (pI .i64 a1))::.v (.vc (pB (decide (a1≤v16.dof))))::.v (.vc (pB (decide (a1≤v16.dof))))::.v (.vc (pB false))::.v (.vc (pI .i64 x2))::.v (.vc (pB (decide (0<x2))))::.v (.vc (pB true))::.v (.vc (pS aG.cod a0))::.v (.vc (pI .i64 x2))::.v (.vc (pM (aG.cod.e v20)))::.v (.vc (pM (aG.cod.e v20)))::.v (.vc (pI .i64 v20.dof))::.v (.vc (pS aG.cod a0))::.v (.vc (pI .i64 x2))::.v (.vc (pI .i64 v22))::.v (.vc (pI .i64 (max v22 0)))::.v (.vc (pM (aG.cod.e v24)))::.v (.vc (pM (aG.cod.e v24)))::.v (.vc (pI .i64 v24.dof))::.v (.vc (pB (decide (v20.dof≤v24.dof))))::.v (.vc (pB (decide (v20.dof≤v24.dof))))::.v (.vc (pB (decide (v20.dof≤v24.dof))))::[]) aU ⟨d0 (aN (.inl rfl)) zU1,d0 (aN (.inl rfl)) zU1,d0 (cO rfl tyS49 h9) zU2,d0 (jR (ps:=(aG.cod.e v8)) (k:=1) rfl tyF92_1) zU1,d0 (cK 4 rfl rfl (.agg tyA44)) zU1,d0 (aJ rfl (gY h11) rfl) zU1,d0 (hU rfl) zU1,d0 (cX (aN (.inl rfl)) h12) zU1,g0 (aN (.inl rfl)) zU1,g0 (aN (.inl rfl)) zU1,g0 (cO rfl tyS49 h14) zU2,g0 (jR (ps:=(aG.cod.e v13)) (k:=0) rfl tyF92_0) zU1,g0 (cK 1 rfl rfl (.one tyO3)) zU1,g0 (dQ rfl) ⟨rfl,bI _ _,trivial⟩,d0 (bN rfl) zU2,d0 (cX (aN (.inl rfl)) h15) zU1,g0 (aN (.inl rfl)) zU1,g0 (aN (.inl rfl)) zU1,g0 (cO rfl tyS49 h17) zU2,g0 (jR (ps:=(aG.cod.e v16)) (k:=0) rfl tyF92_0) zU1,g0 (cK 1 rfl rfl (.one tyO3)) zU1,g0 (aN (.inl rfl)) zU1,g0 (uP rfl) zU2,d0 (bN rfl) zU2,d0 (cX (aN (.inl rfl)) h18) zU1,g0 (aN (.inl rfl)) zU1,g0 (rV rfl) ⟨rfl,bI _ _,trivial⟩,g0 (cX (aN (.inl rfl)) h19) zU1,g0 (aN (.inl rfl)) zU1,g0 (aN (.inl rfl)) zU1,g0 (cO rfl tyS49 h21) zU2,g0 (jR (ps:=(aG.cod.e v20)) (k:=0) rfl tyF92_0) zU1,g0 (cK 1 rfl rfl (.one tyO3)) zU1,g0 (aN (.inl rfl)) zU1,g0 (aN (.inl rfl)) zU1,g0 (eM rfl h23) ⟨rfl,bI _ _,trivial⟩,g0 (aIZ rfl) ⟨rfl,bI _ _,trivial⟩,g0 (cO rfl tyS49 h25) zU2,g0 (jR (ps:=(aG.cod.e v24)) (k:=0) rfl tyF92_0) zU1,g0 (cK 1 rfl rfl (.one tyO3)) zU1,g0 (zF rfl) zU2,g0 (bM rfl) zU2,d0 (bN rfl) zU2,trivial⟩ (fun bs7 G6=>?_)
   refine aC (aA (bS rfl (fun h26=>?_) (fun h26=>?_)))
   ·have hF:=aV h26 hF
    refine aE (aF (aB (aN (.inr rfl)) ⟨cW _,trivial⟩ ?_))
    refine aC (aA (a9 (a8 ?_)))
    obtain rfl:=bV hF
    obtain rfl:=bV hRl3
    exact aL (.inl rfl) Tryz.results227 (.tmp rfl .nil) rfl rfl
   have hF:=aX h26 hF
   refine bA (bJ (aA (aF (aI ?_))))
   obtain⟨v27,h28,hF⟩:=aP hF
   refine aB (bO rfl h28) ⟨rfl,bI _ _,trivial⟩ ?_
   refine bH ?_
   refine aC ?_
   exact bL (fun a w hh=>⟨v27,hF,bF [] rfl (by decide) (by exact⟨rfl,rfl,rfl,trivial⟩) hh⟩)
  have hF:=aX h19 hF
  refine bT (0::0::3::7::15::31::63::127::255::255::1023::2047::4095::8191::16383::32767::65535::65535::262143::524287::1048575::65535::4194303::8388607::16777215::33554431::67108863::134217727::268435455::268435455::1073741823::2147483647::4294967295::268435455::268435455::17448304639::51808043007::129117454335::266556407807::541434314751::1099511627775::2199023255551::4398046511103::[]) 43 0 (.v (.vc (pS aG.cod a0))::.v (.vc (pI .i64 x2))::.v (.vc (pM (aG.cod.e v8)))::.v (.vc (pM ((aG.cod.e v8).drop 1)))::.v (.va (eQ v8.k))::.v (.vc (pB v10))::.v (.vc (pB (!v10)))::.v (.vc (pB false))::.v (.vc (pS aG.cod a0))::.v (.vc (pI .i64 x2))::.v (.vc (pM (aG.cod.e v13)))::.v (.vc (pM (aG.cod.e v13)))::.v (.vc (pI .i64 v13.dof))::.v (.vc (pB (decide (v13.dof<0))))::.v (.vc (pB (decide (v13.dof<0))))::.v (.vc (pB false))::.v (.vc (pS aG.cod a0))::.v (.vc (pI .i64 x2))::.v (.vc (pM (aG.cod.e v16)))::.v (.vc (pM (aG.cod.e v16)))::.v (.vc (pI .i64 v16.dof))::.v (.vc (pI .i64 a1))::.v (.vc (pB (decide (a1≤v16.dof))))::.v (.vc (pB (decide (a1≤v16.dof))))::.v (.vc (pB false))::.v (.vc (pI .i64 x2))::.v (.vc (pB (decide (0<x2))))::.v (.vc (pB false))::.v .un::.v .un::.v .un::.v .un::.v .un::.v .un::.v .un::.v .un::.v .un::.v .un::.v .un::.v .un::.v .un::.v (.vc (pB false))::.v (.vc (pB false))::[]) aU ⟨d0 (aN (.inl rfl)) zU1,d0 (aN (.inl rfl)) zU1,d0 (cO rfl tyS49 h9) zU2,d0 (jR (ps:=(aG.cod.e v8)) (k:=1) rfl tyF92_1) zU1,d0 (cK 4 rfl rfl (.agg tyA44)) zU1,d0 (aJ rfl (gY h11) rfl) zU1,d0 (hU rfl) zU1,d0 (cX (aN (.inl rfl)) h12) zU1,g0 (aN (.inl rfl)) zU1,g0 (aN (.inl rfl)) zU1,g0 (cO rfl tyS49 h14) zU2,g0 (jR (ps:=(aG.cod.e v13)) (k:=0) rfl tyF92_0) zU1,g0 (cK 1 rfl rfl (.one tyO3)) zU1,g0 (dQ rfl) ⟨rfl,bI _ _,trivial⟩,d0 (bN rfl) zU2,d0 (cX (aN (.inl rfl)) h15) zU1,g0 (aN (.inl rfl)) zU1,g0 (aN (.inl rfl)) zU1,g0 (cO rfl tyS49 h17) zU2,g0 (jR (ps:=(aG.cod.e v16)) (k:=0) rfl tyF92_0) zU1,g0 (cK 1 rfl rfl (.one tyO3)) zU1,g0 (aN (.inl rfl)) zU1,g0 (uP rfl) zU2,d0 (bN rfl) zU2,d0 (cX (aN (.inl rfl)) h18) zU1,g0 (aN (.inl rfl)) zU1,g0 (rV rfl) ⟨rfl,bI _ _,trivial⟩,g0 (cX (aN (.inl rfl)) h19) zU1,⟨rfl,.skipN⟩,⟨rfl,.skipN⟩,⟨rfl,.skipN⟩,⟨rfl,.skipN⟩,⟨rfl,.skipN⟩,⟨rfl,.skipN⟩,⟨rfl,.skipN⟩,⟨rfl,.skipN⟩,⟨rfl,.skipN⟩,⟨rfl,.skipN⟩,⟨rfl,.skipN⟩,⟨rfl,.skipN⟩,⟨rfl,.skipN⟩,g0 (bN rfl) ⟨rfl,cW _,trivial⟩,d0 (bN rfl) zU2,trivial⟩ (fun bs7 G6=>?_)
  refine aC (aA (sT rfl ?_))
  refine bA (bJ (aA (aF (aI ?_))))
  obtain⟨v29,h30,hF⟩:=aP hF
  refine aB (bO rfl h30) ⟨rfl,bI _ _,trivial⟩ ?_
  refine bH ?_
  refine aC ?_
  exact bL (fun a w hh=>⟨v29,hF,bF [] rfl (by decide) (by exact⟨rfl,rfl,rfl,trivial⟩) hh⟩)
 have hF:=aX h5 hF
 refine dI ?_
 obtain rfl:=bV hF
 exact bU Jj4 ⟨hRl3,rfl,rfl⟩ [] rfl trivial
def mY (K:Nat):Option Bool:=
 some true
def gF (K:Nat) (a0:List aT) (a3:List aH):Nat→Int→Option (LR Bool Unit)
 |0,_=>none
 |k+1,x15=>bif(decide (x15<(a3.length:Int))) then((dC a3 x15).bind fun v19=>(lW K v19.j (a0.length:Int)).bind fun v21=>bif(!v21) then(some (.ret false)) else((dC a3 x15).bind fun v24=>(lW K v24.t (a0.length:Int)).bind fun v26=>bif(!v26) then(some (.ret false)) else((dC a3 x15).bind fun v29=>(aAq v29.mu).bind fun v31=>bif(!v31) then(some (.ret false)) else((dC a3 x15).bind fun v34=>(vU v34.mu).bind fun v36=>bif(decide (v36<0)) then(some (.ret false)) else((bW (x15+1)).bind fun v39=>gF K a0 a3 k v39))))) else(some (.go ()))
def mV (K:Nat) (a0:List aT) (a3:List aH):Option Bool:=
 (gF K a0 a3 K 0).bind fun o=>match o with| .ret r=>some r| .go _=>mY K
def gC (K:Nat) (a0:List aT):Nat→Int→Option (LR Bool Unit)
 |0,_=>none
 |k+1,x11=>bif(decide (x11<(a0.length:Int))) then((dC a0 x11).bind fun v42=>(aAq v42.inv).bind fun v44=>bif(!v44) then(some (.ret false)) else((dC a0 x11).bind fun v47=>(vU v47.inv).bind fun v49=>bif(decide (v49≤0)) then(some (.ret false)) else((bW (x11+1)).bind fun v52=>gC K a0 k v52))) else(some (.go ()))
def qE (K:Nat) (a0:List aT) (a1:List Rat) (a2:List Rat) (a3:List aH):Option Bool:=
 bif(decide (12<(a0.length:Int))) then(some false) else(bif((a1.length:Int) != (a0.length:Int)) then(some false) else(bif((a2.length:Int) != (a0.length:Int)) then(some false) else((mM K a1).bind fun v4=>bif(!v4) then(some false) else((mM K a2).bind fun v7=>bif(!v7) then(some false) else((gC K a0 K 0).bind fun o=>match o with| .ret r=>some r| .go _=>mV K a0 a3)))))
theorem zE {K:Nat} {a0:List aT} {a1:List Rat} {a2:List Rat} {a3:List aH} {r:Bool} (hF:qE K a0 a1 a2 a3=some r):Ct Tryz.prog 167 [.vc (pS aT.cod a0),.vc (pS cQ a1),.vc (pS cQ a2),.vc (pS aH.cod a3)] (.vc (pB r)):=by
 unfold qE at hF
 refine bD Tryz.func167 rfl (by kernel_rfl) Tryz.ntmps167 rfl (fun w0 M0=>?_)
 refine aE (aF (aB (aN (.inr rfl)) ⟨cW _,trivial⟩ ?_))
 refine aC (aA (aE (aE (aF (aI ?_)))))
 refine aB (bX rfl tyS23) zU1 ?_
 refine aB (rV rfl) ⟨rfl,bI _ _,trivial⟩ ?_
 refine aI ?_
 refine cP (fun h1=>?_) (fun h1=>?_)
 ·have hF:=aV h1 hF
  refine aM ?_
  refine aM ?_
  refine aM ?_
  refine aM ?_
  refine aM ?_
  refine aB (bM rfl) ⟨rfl,cW _,trivial⟩ ?_
  refine aI ?_
  refine aM ?_
  refine aM ?_
  refine aM ?_
  refine aM ?_
  refine aM ?_
  refine aB (bM rfl) ⟨rfl,cW _,trivial⟩ ?_
  refine aI ?_
  refine aM ?_
  refine aM ?_
  refine aM ?_
  refine aB (bM rfl) ⟨rfl,cW _,trivial⟩ ?_
  refine aI ?_
  refine aM ?_
  refine aM ?_
  refine aM ?_
  refine aB (bM rfl) ⟨rfl,cW _,trivial⟩ ?_
  refine aC (aA (iO rfl ?_))
  refine aE (aF (aB (aN (.inr rfl)) ⟨cW _,trivial⟩ ?_))
  refine aC (aA (a9 (a8 ?_)))
  obtain rfl:=bV hF
  exact aL (.inl rfl) Tryz.results167 (.tmp rfl .nil) rfl rfl
 have hF:=aX h1 hF
 refine aY (aN (.inl rfl)) zU1 ?_
 refine aY (bX rfl tyS24) zU1 ?_
 refine aY (aN (.inl rfl)) zU1 ?_
 refine aY (bX rfl tyS23) zU1 ?_
 refine aY (s7 rfl) zU2 ?_
 refine aB (bN rfl) zU2 ?_
 refine aI ?_
 refine cP (fun h2=>?_) (fun h2=>?_)
 ·have hF:=aV h2 hF
  refine aM ?_
  refine aM ?_
  refine aM ?_
  refine aM ?_
  refine aM ?_
  refine aB (bM rfl) ⟨rfl,cW _,trivial⟩ ?_
  refine aI ?_
  refine aM ?_
  refine aM ?_
  refine aM ?_
  refine aB (bM rfl) ⟨rfl,cW _,trivial⟩ ?_
  refine aI ?_
  refine aM ?_
  refine aM ?_
  refine aM ?_
  refine aB (bM rfl) ⟨rfl,cW _,trivial⟩ ?_
  refine aC (aA (iO rfl ?_))
  refine aE (aF (aB (aN (.inr rfl)) ⟨cW _,trivial⟩ ?_))
  refine aC (aA (a9 (a8 ?_)))
  obtain rfl:=bV hF
  exact aL (.inl rfl) Tryz.results167 (.tmp rfl .nil) rfl rfl
 have hF:=aX h2 hF
 refine aY (aN (.inl rfl)) zU1 ?_
 refine aY (bX rfl tyS24) zU1 ?_
 refine aY (aN (.inl rfl)) zU1 ?_
 refine aY (bX rfl tyS23) zU1 ?_
 refine aY (s7 rfl) zU2 ?_
 refine aB (bN rfl) zU2 ?_
 refine aI ?_
 refine cP (fun h3=>?_) (fun h3=>?_)
 ·have hF:=aV h3 hF
  refine aM ?_
  refine aM ?_
  refine aM ?_
  refine aB (bM rfl) ⟨rfl,cW _,trivial⟩ ?_
  refine aI ?_
  refine aM ?_
  refine aM ?_
  refine aM ?_
  refine aB (bM rfl) ⟨rfl,cW _,trivial⟩ ?_
  refine aC (aA (iO rfl ?_))
  refine aE (aF (aB (aN (.inr rfl)) ⟨cW _,trivial⟩ ?_))
  refine aC (aA (a9 (a8 ?_)))
  obtain rfl:=bV hF
  exact aL (.inl rfl) Tryz.results167 (.tmp rfl .nil) rfl rfl
 have hF:=aX h3 hF
 refine aY (aN (.inl rfl)) zU1 ?_
 obtain⟨v4,h5,hF⟩:=aP hF
 refine aY (aJ rfl (vP h5) rfl) zU1 ?_
 refine aY (hU rfl) zU1 ?_
 refine aB (bN rfl) zU2 ?_
 refine aI ?_
 refine cP (fun h6=>?_) (fun h6=>?_)
 ·have hF:=aV h6 hF
  refine aM ?_
  refine aM ?_
  refine aM ?_
  refine aB (bM rfl) ⟨rfl,cW _,trivial⟩ ?_
  refine aC (aA (iO rfl ?_))
  refine aE (aF (aB (aN (.inr rfl)) ⟨cW _,trivial⟩ ?_))
  refine aC (aA (a9 (a8 ?_)))
  obtain rfl:=bV hF
  exact aL (.inl rfl) Tryz.results167 (.tmp rfl .nil) rfl rfl
 have hF:=aX h6 hF
 refine aY (aN (.inl rfl)) zU1 ?_
 obtain⟨v7,h8,hF⟩:=aP hF
 refine aY (aJ rfl (vP h8) rfl) zU1 ?_
 refine aY (hU rfl) zU1 ?_
 refine aB (bN rfl) zU2 ?_
 refine aC (aA (bS rfl (fun h9=>?_) (fun h9=>?_)))
 ·have hF:=aV h9 hF
  refine aE (aF (aB (aN (.inr rfl)) ⟨cW _,trivial⟩ ?_))
  refine aC (aA (a9 (a8 ?_)))
  obtain rfl:=bV hF
  exact aL (.inl rfl) Tryz.results167 (.tmp rfl .nil) rfl rfl
 have hF:=aX h9 hF
 refine bA (aA (aE (aE (aF (aB (aN (.inr rfl)) ⟨bI _ _,trivial⟩ ?_)))))
 refine aC (aA (bR (cJ (fun H E=>mV K a0 a3=some r∧H=[]∧E=[(0,.vc (pS aT.cod a0)),(3,.vc (pS aH.cod a3))]) ?_ (fun Jj13=>?_))))
 ·rintro _ _ ⟨hF,rfl,rfl⟩
  unfold mV at hF
  refine aA (aE (aE (aF (aB (aN (.inr rfl)) ⟨bI _ _,trivial⟩ ?_))))
  refine aC (aA (bR (cJ (fun H E=>mY K=some r∧H=[]∧E=[]) ?_ (fun Jj17=>?_))))
  ·rintro _ _ ⟨hF,rfl,rfl⟩
   unfold mY at hF
   refine aA (aE (aF (aB (aN (.inr rfl)) ⟨cW _,trivial⟩ ?_)))
   refine aC (aA (a9 (a8 ?_)))
   obtain rfl:=bV hF
   exact aL (.inl rfl) Tryz.results167 (.tmp rfl .nil) rfl rfl
  obtain⟨ol16,hL,hRl16⟩:=aP hF
  refine gB (fun k a w=>∃(x15:Int),gF K a0 a3 k x15=some ol16∧hs _ [] [(0,.vc (pS aT.cod a0)),(3,.vc (pS aH.cod a3)),(10,.vc (pI .i64 x15))] a w) K (fun a w ⟨_,hF,_⟩=>by cases hF) (fun k a w ⟨x15,hF,hh⟩=>gE ?_ hh) (fun a w hh=>⟨0,hL,bF [] rfl (by decide) (by exact⟨rfl,rfl,rfl,trivial⟩) hh⟩)
  rw [gF.eq_2] at hF
  refine aE (aE (aF (aI ?_)))
  refine aI ?_
  refine aB (bX rfl tyS25) zU1 ?_
  refine aB (dQ rfl) zU2 ?_
  refine aC (aA (bS rfl (fun h18=>?_) (fun h18=>?_)))
  ·have hF:=aV h18 hF
   refine bA (aA (aE (bR (aE (aE (aF (aI ?_)))))))
   refine aI ?_
   obtain⟨v19,h20,hF⟩:=aP hF
   refine aB (cO rfl tyS25 h20) zU2 ?_
   refine aB (jR (ps:=(aH.cod.e v19)) (k:=8) rfl tyF51_5) zU1 ?_
   refine aB (cK 1 rfl rfl (.one tyO49)) zU1 ?_
   refine aI ?_
   refine aB (bX rfl tyS23) zU1 ?_
   obtain⟨v21,h22,hF⟩:=aP hF
   refine aB (aJ rfl (vF h22) rfl) zU2 ?_
   refine aB (hU rfl) zU1 ?_
   refine aI ?_
   refine cP (fun h23=>?_) (fun h23=>?_)
   ·have hF:=aV h23 hF
    refine aM ?_
    refine aM ?_
    refine aM ?_
    refine aM ?_
    refine aM ?_
    refine aM ?_
    refine aM ?_
    refine aM ?_
    refine aM ?_
    refine aB (bM rfl) ⟨rfl,cW _,trivial⟩ ?_
    refine aI ?_
    refine aM ?_
    refine aM ?_
    refine aM ?_
    refine aM ?_
    refine aM ?_
    refine aM ?_
    refine aM ?_
    refine aB (bM rfl) ⟨rfl,cW _,trivial⟩ ?_
    refine aC (aA (iO rfl ?_))
    refine aE (aF (aB (aN (.inr rfl)) ⟨cW _,trivial⟩ ?_))
    refine aC (aA (a9 (a8 ?_)))
    obtain rfl:=bV hF
    obtain rfl:=bV hRl16
    exact aL (.inl rfl) Tryz.results167 (.tmp rfl .nil) rfl rfl
   have hF:=aX h23 hF
   refine aY (aN (.inl rfl)) zU1 ?_
   refine aY (aN (.inl rfl)) zU1 ?_
   obtain⟨v24,h25,hF⟩:=aP hF
   refine aY (cO rfl tyS25 h25) zU2 ?_
   refine aY (jR (ps:=(aH.cod.e v24)) (k:=9) rfl tyF51_6) zU1 ?_
   refine aY (cK 1 rfl rfl (.one tyO49)) zU1 ?_
   refine aY (aN (.inl rfl)) zU1 ?_
   refine aY (bX rfl tyS23) zU1 ?_
   obtain⟨v26,h27,hF⟩:=aP hF
   refine aY (aJ rfl (vF h27) rfl) zU2 ?_
   refine aY (hU rfl) zU1 ?_
   refine aB (bN rfl) zU2 ?_
   refine aI ?_
   refine cP (fun h28=>?_) (fun h28=>?_)
   ·have hF:=aV h28 hF
    refine aM ?_
    refine aM ?_
    refine aM ?_
    refine aM ?_
    refine aM ?_
    refine aM ?_
    refine aM ?_
    refine aB (bM rfl) ⟨rfl,cW _,trivial⟩ ?_
    refine aC (aA (iO rfl ?_))
    refine aE (aF (aB (aN (.inr rfl)) ⟨cW _,trivial⟩ ?_))
    refine aC (aA (a9 (a8 ?_)))
    obtain rfl:=bV hF
    obtain rfl:=bV hRl16
    exact aL (.inl rfl) Tryz.results167 (.tmp rfl .nil) rfl rfl
   have hF:=aX h28 hF
   refine aY (aN (.inl rfl)) zU1 ?_
   refine aY (aN (.inl rfl)) zU1 ?_
   obtain⟨v29,h30,hF⟩:=aP hF
   refine aY (cO rfl tyS25 h30) zU2 ?_
   refine aY (jR (ps:=(aH.cod.e v29)) (k:=10) rfl tyF51_7) zU1 ?_
   refine aY (cK 4 rfl rfl (.agg tyA44)) zU1 ?_
   obtain⟨v31,h32,hF⟩:=aP hF
   refine aY (aJ rfl (gY h32) rfl) zU1 ?_
   refine aY (hU rfl) zU1 ?_
   refine aB (bN rfl) zU2 ?_
   refine aC (aA (bS rfl (fun h33=>?_) (fun h33=>?_)))
   ·have hF:=aV h33 hF
    refine aE (aF (aB (aN (.inr rfl)) ⟨cW _,trivial⟩ ?_))
    refine aC (aA (a9 (a8 ?_)))
    obtain rfl:=bV hF
    obtain rfl:=bV hRl16
    exact aL (.inl rfl) Tryz.results167 (.tmp rfl .nil) rfl rfl
   have hF:=aX h33 hF
   refine bA (aA (aE (aF (aI ?_))))
   refine aI ?_
   obtain⟨v34,h35,hF⟩:=aP hF
   refine aB (cO rfl tyS25 h35) zU2 ?_
   refine aB (jR (ps:=(aH.cod.e v34)) (k:=10) rfl tyF51_7) zU1 ?_
   refine aB (cK 4 rfl rfl (.agg tyA44)) zU1 ?_
   obtain⟨v36,h37,hF⟩:=aP hF
   refine aB (aJ rfl (l4 h37) rfl) zU1 ?_
   refine aB (dQ rfl) ⟨rfl,bI _ _,trivial⟩ ?_
   refine aC (aA (bS rfl (fun h38=>?_) (fun h38=>?_)))
   ·have hF:=aV h38 hF
    refine aE (aF (aB (aN (.inr rfl)) ⟨cW _,trivial⟩ ?_))
    refine aC (aA (a9 (a8 ?_)))
    obtain rfl:=bV hF
    obtain rfl:=bV hRl16
    exact aL (.inl rfl) Tryz.results167 (.tmp rfl .nil) rfl rfl
   have hF:=aX h38 hF
   refine bA (bJ (aA (aF (aI ?_))))
   obtain⟨v39,h40,hF⟩:=aP hF
   refine aB (bO rfl h40) ⟨rfl,bI _ _,trivial⟩ ?_
   refine bH ?_
   refine aC ?_
   exact bL (fun a w hh=>⟨v39,hF,bF [] rfl (by decide) (by exact⟨rfl,rfl,rfl,trivial⟩) hh⟩)
  have hF:=aX h18 hF
  refine dI ?_
  obtain rfl:=bV hF
  exact bU Jj17 ⟨hRl16,rfl,rfl⟩ [] rfl trivial
 obtain⟨ol12,hL,hRl12⟩:=aP hF
 refine gB (fun k a w=>∃(x11:Int),gC K a0 k x11=some ol12∧hs _ [] [(0,.vc (pS aT.cod a0)),(3,.vc (pS aH.cod a3)),(9,.vc (pI .i64 x11))] a w) K (fun a w ⟨_,hF,_⟩=>by cases hF) (fun k a w ⟨x11,hF,hh⟩=>gE ?_ hh) (fun a w hh=>⟨0,hL,bF [] rfl (by decide) (by exact⟨rfl,rfl,rfl,trivial⟩) hh⟩)
 rw [gC.eq_2] at hF
 refine aE (aE (aF (aI ?_)))
 refine aI ?_
 refine aB (bX rfl tyS23) zU1 ?_
 refine aB (dQ rfl) zU2 ?_
 refine aC (aA (bS rfl (fun h41=>?_) (fun h41=>?_)))
 ·have hF:=aV h41 hF
  refine bA (aA (aE (bR (aE (aE (aF (aI ?_)))))))
  refine aI ?_
  obtain⟨v42,h43,hF⟩:=aP hF
  refine aB (cO rfl tyS23 h43) zU2 ?_
  refine aB (jR (ps:=(aT.cod.e v42)) (k:=0) rfl tyF108_0) zU1 ?_
  refine aB (cK 4 rfl rfl (.agg tyA44)) zU1 ?_
  obtain⟨v44,h45,hF⟩:=aP hF
  refine aB (aJ rfl (gY h45) rfl) zU1 ?_
  refine aB (hU rfl) zU1 ?_
  refine aC (aA (bS rfl (fun h46=>?_) (fun h46=>?_)))
  ·have hF:=aV h46 hF
   refine aE (aF (aB (aN (.inr rfl)) ⟨cW _,trivial⟩ ?_))
   refine aC (aA (a9 (a8 ?_)))
   obtain rfl:=bV hF
   obtain rfl:=bV hRl12
   exact aL (.inl rfl) Tryz.results167 (.tmp rfl .nil) rfl rfl
  have hF:=aX h46 hF
  refine bA (aA (aE (aF (aI ?_))))
  refine aI ?_
  obtain⟨v47,h48,hF⟩:=aP hF
  refine aB (cO rfl tyS23 h48) zU2 ?_
  refine aB (jR (ps:=(aT.cod.e v47)) (k:=0) rfl tyF108_0) zU1 ?_
  refine aB (cK 4 rfl rfl (.agg tyA44)) zU1 ?_
  obtain⟨v49,h50,hF⟩:=aP hF
  refine aB (aJ rfl (l4 h50) rfl) zU1 ?_
  refine aB (zF rfl) ⟨rfl,bI _ _,trivial⟩ ?_
  refine aC (aA (bS rfl (fun h51=>?_) (fun h51=>?_)))
  ·have hF:=aV h51 hF
   refine aE (aF (aB (aN (.inr rfl)) ⟨cW _,trivial⟩ ?_))
   refine aC (aA (a9 (a8 ?_)))
   obtain rfl:=bV hF
   obtain rfl:=bV hRl12
   exact aL (.inl rfl) Tryz.results167 (.tmp rfl .nil) rfl rfl
  have hF:=aX h51 hF
  refine bA (bJ (aA (aF (aI ?_))))
  obtain⟨v52,h53,hF⟩:=aP hF
  refine aB (bO rfl h53) ⟨rfl,bI _ _,trivial⟩ ?_
  refine bH ?_
  refine aC ?_
  exact bL (fun a w hh=>⟨v52,hF,bF [] rfl (by decide) (by exact⟨rfl,rfl,rfl,trivial⟩) hh⟩)
 have hF:=aX h41 hF
 refine dI ?_
 obtain rfl:=bV hF
 exact bU Jj13 ⟨hRl12,rfl,rfl⟩ [] rfl zU2
def qI (K:Nat):Option Bool:=
 some true
def jQ (K:Nat) (a2:List Rat) (a3:List aH):Nat→Int→Option (LR Bool Unit)
 |0,_=>none
 |k+1,x5=>bif(decide (x5<(a3.length:Int))) then((dC a3 x5).bind fun v9=>(gH K v9.j a2).bind fun v11=>(vU v11).bind fun v13=>bif(v13 != 0) then(some (.ret false)) else((bW (x5+1)).bind fun v16=>jQ K a2 a3 k v16)) else(some (.go ()))
def qB (K:Nat) (a0:List aT) (a1:List Rat) (a2:List Rat) (a3:List aH):Option Bool:=
 (qE K a0 a1 a2 a3).bind fun v1=>bif(!v1) then(some false) else((jQ K a2 a3 K 0).bind fun o=>match o with| .ret r=>some r| .go _=>qI K)
theorem aAW {K:Nat} {a0:List aT} {a1:List Rat} {a2:List Rat} {a3:List aH} {r:Bool} (hF:qB K a0 a1 a2 a3=some r):Ct Tryz.prog 81 [.vc (pS aT.cod a0),.vc (pS cQ a1),.vc (pS cQ a2),.vc (pS aH.cod a3)] (.vc (pB r)):=by
 unfold qB at hF
 refine bD Tryz.func81 rfl (by kernel_rfl) Tryz.ntmps81 rfl (fun w0 M0=>?_)
 refine aE (aF (aB (aN (.inr rfl)) ⟨cW _,trivial⟩ ?_))
 refine aC (aA (aE (aE (aF (aI ?_)))))
 refine aI ?_
 refine aI ?_
 refine aI ?_
 obtain⟨v1,h2,hF⟩:=aP hF
 refine aB (aJ rfl (zE h2) rfl) ⟨rfl,rfl,rfl,rfl,trivial⟩ ?_
 refine aB (hU rfl) zU1 ?_
 refine aC (aA (bS rfl (fun h3=>?_) (fun h3=>?_)))
 ·have hF:=aV h3 hF
  refine aE (aF (aB (aN (.inr rfl)) ⟨cW _,trivial⟩ ?_))
  refine aC (aA (a9 (a8 ?_)))
  obtain rfl:=bV hF
  exact aL (.inl rfl) Tryz.results81 (.tmp rfl .nil) rfl rfl
 have hF:=aX h3 hF
 refine bA (aA (aE (aE (aF (aB (aN (.inr rfl)) ⟨bI _ _,trivial⟩ ?_)))))
 refine aC (aA (bR (cJ (fun H E=>qI K=some r∧H=[]∧E=[]) ?_ (fun Jj7=>?_))))
 ·rintro _ _ ⟨hF,rfl,rfl⟩
  unfold qI at hF
  refine aA (aE (aF (aB (aN (.inr rfl)) ⟨cW _,trivial⟩ ?_)))
  refine aC (aA (a9 (a8 ?_)))
  obtain rfl:=bV hF
  exact aL (.inl rfl) Tryz.results81 (.tmp rfl .nil) rfl rfl
 obtain⟨ol6,hL,hRl6⟩:=aP hF
 refine gB (fun k a w=>∃(x5:Int),jQ K a2 a3 k x5=some ol6∧hs _ [] [(2,.vc (pS cQ a2)),(3,.vc (pS aH.cod a3)),(9,.vc (pI .i64 x5))] a w) K (fun a w ⟨_,hF,_⟩=>by cases hF) (fun k a w ⟨x5,hF,hh⟩=>gE ?_ hh) (fun a w hh=>⟨0,hL,bF [] rfl (by decide) (by exact⟨rfl,rfl,rfl,trivial⟩) hh⟩)
 rw [jQ.eq_2] at hF
 refine aE (aE (aF (aI ?_)))
 refine aI ?_
 refine aB (bX rfl tyS25) zU1 ?_
 refine aB (dQ rfl) zU2 ?_
 refine aC (aA (bS rfl (fun h8=>?_) (fun h8=>?_)))
 ·have hF:=aV h8 hF
  refine bA (aA (aE (bR (aE (aF (aI ?_))))))
  refine aI ?_
  obtain⟨v9,h10,hF⟩:=aP hF
  refine aB (cO rfl tyS25 h10) zU2 ?_
  refine aB (jR (ps:=(aH.cod.e v9)) (k:=8) rfl tyF51_5) zU1 ?_
  refine aB (cK 1 rfl rfl (.one tyO49)) zU1 ?_
  refine aI ?_
  obtain⟨v11,h12,hF⟩:=aP hF
  refine aB (aJ rfl (nW h12) rfl) zU2 ?_
  obtain⟨v13,h14,hF⟩:=aP hF
  refine aB (aJ rfl (l4 h14) rfl) zU1 ?_
  refine aB (s7 rfl) ⟨rfl,bI _ _,trivial⟩ ?_
  refine aC (aA (bS rfl (fun h15=>?_) (fun h15=>?_)))
  ·have hF:=aV h15 hF
   refine aE (aF (aB (aN (.inr rfl)) ⟨cW _,trivial⟩ ?_))
   refine aC (aA (a9 (a8 ?_)))
   obtain rfl:=bV hF
   obtain rfl:=bV hRl6
   exact aL (.inl rfl) Tryz.results81 (.tmp rfl .nil) rfl rfl
  have hF:=aX h15 hF
  refine bA (bJ (aA (aF (aI ?_))))
  obtain⟨v16,h17,hF⟩:=aP hF
  refine aB (bO rfl h17) ⟨rfl,bI _ _,trivial⟩ ?_
  refine bH ?_
  refine aC ?_
  exact bL (fun a w hh=>⟨v16,hF,bF [] rfl (by decide) (by exact⟨rfl,rfl,rfl,trivial⟩) hh⟩)
 have hF:=aX h8 hF
 refine dI ?_
 obtain rfl:=bV hF
 exact bU Jj7 ⟨hRl6,rfl,rfl⟩ [] rfl trivial
def mQ (K:Nat) (a0:aH) (a1:List Rat):Option Int:=
 (gH K a0.t a1).bind fun v2=>(vU v2).bind fun v4=>some v4
theorem vN {K:Nat} {a0:aH} {a1:List Rat} {r:Int} (hF:mQ K a0 a1=some r):Ct Tryz.prog 171 [.va (aH.enc a0),.vc (pS cQ a1)] (.vc (pI .i64 r)):=by
 unfold mQ at hF
 refine bD Tryz.func171 rfl (by kernel_rfl) Tryz.ntmps171 rfl (fun w0 M0=>?_)
 refine aE (aF (cY rfl rfl trivial (fun b1=>?_)))
 refine aB (aN (.inr rfl)) ⟨bI _ _,trivial⟩ ?_
 refine aC (aA (aE (aF (aB (bE (off:=0) (k:=9) rfl tyF51_6) zU1 ?_))))
 refine aB (bK 0 1 rfl rfl rfl rfl (.one tyO49)) zU1 ?_
 refine aI ?_
 obtain⟨v2,h3,hF⟩:=aP hF
 refine aB (aJ rfl (nW h3) rfl) zU2 ?_
 obtain⟨v4,h5,hF⟩:=aP hF
 refine aB (aJ rfl (l4 h5) rfl) zU1 ?_
 refine bH ?_
 refine aC (aA (a9 (a8 ?_)))
 obtain rfl:=bV hF
 exact aL (.inl rfl) Tryz.results171 (.tmp rfl .nil) rfl rfl
def tL (K:Nat) (c0:List Rat) (c1:List Rat) (a0:aH):Option Bool:=
 (gZ K a0.t c0).bind fun v2=>(gZ K a0.t c1).bind fun v7=>(aAY v2 v7).bind fun v9=>(yR v2 v9).bind fun v11=>(vU v11).bind fun v13=>some (decide (v13<0))
theorem aBX {K:Nat} {c0:List Rat} {c1:List Rat} {a0:aH} {r:Bool} (hF:tL K c0 c1 a0=some r):Ct Tryz.prog 91 [.va (aH.enc a0),.vc (pM ((rC cQ).e c0)),.vc (pM ((rC cQ).e c1))] (.vc (pB r)):=by
 unfold tL at hF
 refine bD Tryz.func91 rfl (by kernel_rfl) Tryz.ntmps91 rfl (fun w0 M0=>?_)
 refine aE (aF (cY rfl rfl trivial (fun b1=>?_)))
 refine aB (aN (.inr rfl)) ⟨cW _,trivial⟩ ?_
 refine aC (aA (aE (aF (aB (bE (off:=0) (k:=9) rfl tyF51_6) zU1 ?_))))
 refine aB (bK 0 1 rfl rfl rfl rfl (.one tyO49)) zU1 ?_
 refine aB (cK 1 rfl rfl (.one tyO24)) zU1 ?_
 obtain⟨v2,h3,hF⟩:=aP hF
 refine aB (aJ rfl (kP h3) rfl) zU2 ?_
 refine bP rfl tyZ44q (fun b4=>?_)
 refine bG (dO 0 rfl rfl rfl tyA44.s) zU2 ?_
 refine aC (aA (aE ?_))
 obtain⟨v7,h8,hF⟩:=aP hF
 obtain⟨v9,h10,hF⟩:=aP hF
 obtain⟨v11,h12,hF⟩:=aP hF
 obtain⟨v13,h14,hF⟩:=aP hF
 refine bT [0,0,0,4,0,28,62,127,255,511,1023] 11 0 [.v (.va (eQ v2)),.v (.va (eQ v2)),.v (.vc (pP (some b1) 9)),.v (.vc (pS aG.cod a0.t)),.v (.vc (pS cQ c1)),.v (.va (eQ v7)),.v (.va (eQ v9)),.v (.va (eQ v11)),.v (.vc (pI .i64 v13)),.v (.vc (pB (decide (v13<0)))),.v (.vc (pB (decide (v13<0))))] aU ⟨d0 (bK 0 4 rfl rfl rfl rfl (.agg tyA44)) zU1,d0 (bK 0 4 rfl rfl rfl rfl (.agg tyA44)) zU1,d0 (bE (off:=0) (k:=9) rfl tyF51_6) zU1,d0 (bK 1 1 rfl rfl rfl rfl (.one tyO49)) zU1,d0 (cK 1 rfl rfl (.one tyO24)) zU1,d0 (aJ rfl (kP h8) rfl) zU2,d0 (aJ rfl (uZ h10) rfl) zU2,d0 (aJ rfl (rP h12) rfl) zU2,d0 (aJ rfl (iM h14) rfl) zU1,d0 (dQ rfl) ⟨rfl,bI _ _,trivial⟩,d0 (aN (.inr rfl)) zU1,trivial⟩ (fun bs6 G5=>?_)
 refine aC (aA (a9 (a8 ?_)))
 obtain rfl:=bV hF
 exact aL (.inl rfl) Tryz.results91 (.tmp rfl .nil) rfl rfl
def xE (K:Nat) (a0:List Rat) (a1:List Rat) (a2:List aH):Option Bool:=
 (fS K a2 (tL K a0 a1)).bind fun v3=>some (!v3)
theorem aCp {K:Nat} {a0:List Rat} {a1:List Rat} {a2:List aH} {r:Bool} (hF:xE K a0 a1 a2=some r):Ct Tryz.prog 27 [.vc (pS cQ a0),.vc (pS cQ a1),.vc (pS aH.cod a2)] (.vc (pB r)):=by
 unfold xE at hF
 refine bD Tryz.func27 rfl (by kernel_rfl) Tryz.ntmps27 rfl (fun w0 M0=>?_)
 refine aE (aF (cY rfl rfl trivial (fun b1=>?_)))
 refine cY rfl rfl trivial (fun b2=>?_)
 refine aB (aN (.inr rfl)) ⟨cW _,trivial⟩ ?_
 refine aC (aA (aE (aF (aI ?_))))
 refine aGP 1 [(3,0)] rfl zU1 rfl ?_
 refine aGP 0 [(4,0)] rfl zU1 rfl ?_
 refine aB (aKr (φ:=(tL K a0 a1)) (pre:=fun x:aH=>[.va (aH.enc x)]) (post:=fun r:Bool=>.vc (pB r)) (xs:=[.tmp 3,.tmp 4]) (cs:=[pM ((rC cQ).e a0),pM ((rC cQ).e a1)]) rfl rfl (fun x r h=>aBX h)) zU2 ?_
 obtain⟨v3,h4,hF⟩:=aP hF
 refine aB (aJ rfl (sY h4) rfl) zU2 ?_
 refine aB (hU rfl) zU1 ?_
 refine bH ?_
 refine aC (aA (a9 (a8 ?_)))
 obtain rfl:=bV hF
 exact aL (.inl rfl) Tryz.results27 (.tmp rfl .nil) rfl rfl
def lX (a0:Int) (a1:Int) (a2:Int) (a3:Int):Option bC:=
 (y5 1 2).bind fun v2=>(y5 1 1).bind fun v5=>(y5 1 2).bind fun v10=>(y5 a0 a2).bind fun v14=>(y5 a1 1).bind fun v16=>(y5 a3 1).bind fun v18=>some (⟨[(⟨v2,0,false,0,0⟩:aT),(⟨v2,0,false,0,0⟩:aT)],[v14,v16],[v18,0],[(⟨0,0,0,0,0,[(⟨1,v5⟩:aG)],[(⟨0,v5⟩:aG)],v10,0⟩:aH)]⟩:bC)
theorem eZ {a0:Int} {a1:Int} {a2:Int} {a3:Int} {r:bC} (hF:lX a0 a1 a2 a3=some r):Ct Tryz.prog 88 [.vc (pI .i64 a0),.vc (pI .i64 a1),.vc (pI .i64 a2),.vc (pI .i64 a3)] (.va (bC.enc r)):=by
 unfold lX at hF
 refine bD Tryz.func88 rfl (by kernel_rfl) Tryz.ntmps88 rfl (fun w0 M0=>?_)
 refine aE (aF (bP rfl tyZ27q (fun b1=>?_)))
 refine aC (aA (aE (aF ?_)))
 obtain⟨v2,h3,hF⟩:=aP hF
 refine aB (aJ rfl (bY h3) rfl) ⟨bI _ _,bI _ _,trivial⟩ ?_
 refine aB (cZ (is:=[0]) (xs:=[.tmp 12]) (ps:=[.va (eQ v2)]) rfl tyB108q rfl rfl ⟨trivial,trivial⟩ rfl) zU1 ?_
 refine bP rfl tyZ108q (fun b4=>?_)
 refine bG (dO 0 rfl rfl rfl tyA108.s) zU2 ?_
 refine aC (aA (aE (aF ?_)))
 obtain⟨v5,h6,hF⟩:=aP hF
 refine aB (aJ rfl (bY h6) rfl) ⟨bI _ _,bI _ _,trivial⟩ ?_
 refine bP rfl tyZ44q (fun b7=>?_)
 refine bG (dO 0 rfl rfl rfl tyA44.s) zU2 ?_
 refine aC (aA (aE ?_))
 obtain⟨v10,h11,hF⟩:=aP hF
 refine bT [0,1,3,0,8,24,0,127,0,511] 9 1 [.v (.va (eQ v5)),.v (.va ([pI .i64 1]++(eQ v5))),.v (.vc (pS aG.cod [(⟨1,v5⟩:aG)])),.v (.va (eQ v5)),.v (.va ([pI .i64 0]++(eQ v5))),.v (.vc (pS aG.cod [(⟨0,v5⟩:aG)])),.v (.va (eQ v10)),.v (.va ([pI .i64 0]++[pI .i64 0]++[pI .i64 0]++[pI .i64 0]++(eQ 0)++[pS aG.cod [(⟨1,v5⟩:aG)]]++[pS aG.cod [(⟨0,v5⟩:aG)]]++(eQ v10)++(eQ 0))),.a 51 ([pI .i64 0]++[pI .i64 0]++[pI .i64 0]++[pI .i64 0]++(eQ 0)++[pS aG.cod ([]:List aG)]++[pS aG.cod ([]:List aG)]++(eQ 0)++(eQ 0))] aU ⟨d0 (bK 0 4 rfl rfl rfl rfl (.agg tyA44)) zU1,d0 (cZ (is:=[0,1]) (xs:=[.const (.int .i64 (1)),.tmp 15]) (ps:=[.vc (pI .i64 1),.va (eQ v5)]) rfl tyB92q rfl rfl ⟨trivial,trivial,trivial⟩ rfl) ⟨bI _ _,rfl,trivial⟩,d0 (iJ (C:=aG.cod) (xs:=[.tmp 16]) (ps:=[.va ([pI .i64 1]++(eQ v5))]) (zs:=[(⟨1,v5⟩:aG)]) rfl tyS49 rfl ⟨⟨trivial,rfl⟩,trivial⟩ rfl) zU1,d0 (bK 0 4 rfl rfl rfl rfl (.agg tyA44)) zU1,d0 (cZ (is:=[0,1]) (xs:=[.const (.int .i64 (0)),.tmp 18]) (ps:=[.vc (pI .i64 0),.va (eQ v5)]) rfl tyB92q rfl rfl ⟨trivial,trivial,trivial⟩ rfl) ⟨bI _ _,rfl,trivial⟩,d0 (iJ (C:=aG.cod) (xs:=[.tmp 19]) (ps:=[.va ([pI .i64 0]++(eQ v5))]) (zs:=[(⟨0,v5⟩:aG)]) rfl tyS49 rfl ⟨⟨trivial,rfl⟩,trivial⟩ rfl) zU1,d0 (aJ rfl (bY h11) rfl) ⟨bI _ _,bI _ _,trivial⟩,d0 (cZ (is:=[5,6,7]) (xs:=[.tmp 17,.tmp 20,.tmp 21]) (ps:=[.vc (pS aG.cod [(⟨1,v5⟩:aG)]),.vc (pS aG.cod [(⟨0,v5⟩:aG)]),.va (eQ v10)]) rfl tyB51q rfl rfl ⟨trivial,trivial,trivial,trivial⟩ rfl) ⟨rfl,rfl,rfl,trivial⟩,⟨rfl,.alc tyZ51q⟩,trivial⟩ (fun bs9 G8=>?_)
 refine bG (dO 0 rfl rfl rfl tyA51.s) zU2 ?_
 refine aC (aA (aE ?_))
 obtain⟨v14,h15,hF⟩:=aP hF
 obtain⟨v16,h17,hF⟩:=aP hF
 obtain⟨v18,h19,hF⟩:=aP hF
 refine bT [0,0,3,0,0,24,0,120,248,0,760,0,3832,0,8192,32767,65535] 16 1 [.v (.va ((eQ v2)++(eQ 0)++[pB false]++(eQ 0)++(eQ 0))),.v (.va ((eQ v2)++(eQ 0)++[pB false]++(eQ 0)++(eQ 0))),.v (.vc (pS aT.cod [(⟨v2,0,false,0,0⟩:aT),(⟨v2,0,false,0,0⟩:aT)])),.v (.vc (pI .i64 a0)),.v (.vc (pI .i64 a2)),.v (.va (eQ v14)),.v (.vc (pI .i64 a1)),.v (.va (eQ v16)),.v (.vc (pS cQ [v14,v16])),.v (.vc (pI .i64 a3)),.v (.va (eQ v18)),.v (.va (eQ 0)),.v (.vc (pS cQ [v18,0])),.v (.va ([pI .i64 0]++[pI .i64 0]++[pI .i64 0]++[pI .i64 0]++(eQ 0)++[pS aG.cod [(⟨1,v5⟩:aG)]]++[pS aG.cod [(⟨0,v5⟩:aG)]]++(eQ v10)++(eQ 0))),.v (.vc (pS aH.cod [(⟨0,0,0,0,0,[(⟨1,v5⟩:aG)],[(⟨0,v5⟩:aG)],v10,0⟩:aH)])),.v (.va ([pS aT.cod [(⟨v2,0,false,0,0⟩:aT),(⟨v2,0,false,0,0⟩:aT)]]++[pS cQ [v14,v16]]++[pS cQ [v18,0]]++[pS aH.cod [(⟨0,0,0,0,0,[(⟨1,v5⟩:aG)],[(⟨0,v5⟩:aG)],v10,0⟩:aH)]]))] aU ⟨d0 (bK 2 17 rfl rfl rfl rfl (.agg tyA108)) zU1,d0 (bK 2 17 rfl rfl rfl rfl (.agg tyA108)) zU1,d0 (iJ (C:=aT.cod) (xs:=[.tmp 23,.tmp 24]) (ps:=[.va ((eQ v2)++(eQ 0)++[pB false]++(eQ 0)++(eQ 0)),.va ((eQ v2)++(eQ 0)++[pB false]++(eQ 0)++(eQ 0))]) (zs:=[(⟨v2,0,false,0,0⟩:aT),(⟨v2,0,false,0,0⟩:aT)]) rfl tyS23 rfl ⟨⟨trivial,rfl⟩,⟨trivial,rfl⟩,trivial⟩ rfl) zU2,d0 (aN (.inl rfl)) zU1,d0 (aN (.inl rfl)) zU1,d0 (aJ rfl (bY h15) rfl) zU2,d0 (aN (.inl rfl)) zU1,d0 (aJ rfl (bY h17) rfl) ⟨rfl,bI _ _,trivial⟩,d0 (iJ (C:=cQ) (xs:=[.tmp 28,.tmp 30]) (ps:=[.va (eQ v14),.va (eQ v16)]) (zs:=[v14,v16]) rfl tyS24 rfl ⟨⟨trivial,rfl⟩,⟨trivial,rfl⟩,trivial⟩ rfl) zU2,d0 (aN (.inl rfl)) zU1,d0 (aJ rfl (bY h19) rfl) ⟨rfl,bI _ _,trivial⟩,d0 (cZ (is:=[]) (xs:=[]) (ps:=[]) rfl tyB44q rfl rfl trivial rfl) trivial,d0 (iJ (C:=cQ) (xs:=[.tmp 33,.tmp 34]) (ps:=[.va (eQ v18),.va (eQ 0)]) (zs:=[v18,0]) rfl tyS24 rfl ⟨⟨trivial,rfl⟩,⟨trivial,rfl⟩,trivial⟩ rfl) zU2,d0 (bK 0 18 rfl rfl rfl rfl (.agg tyA51)) zU1,d0 (iJ (C:=aH.cod) (xs:=[.tmp 36]) (ps:=[.va ([pI .i64 0]++[pI .i64 0]++[pI .i64 0]++[pI .i64 0]++(eQ 0)++[pS aG.cod [(⟨1,v5⟩:aG)]]++[pS aG.cod [(⟨0,v5⟩:aG)]]++(eQ v10)++(eQ 0))]) (zs:=[(⟨0,0,0,0,0,[(⟨1,v5⟩:aG)],[(⟨0,v5⟩:aG)],v10,0⟩:aH)]) rfl tyS25 rfl ⟨⟨trivial,rfl⟩,trivial⟩ rfl) zU1,d0 (cZ (is:=[0,1,2,3]) (xs:=[.tmp 25,.tmp 31,.tmp 35,.tmp 37]) (ps:=[.vc (pS aT.cod [(⟨v2,0,false,0,0⟩:aT),(⟨v2,0,false,0,0⟩:aT)]),.vc (pS cQ [v14,v16]),.vc (pS cQ [v18,0]),.vc (pS aH.cod [(⟨0,0,0,0,0,[(⟨1,v5⟩:aG)],[(⟨0,v5⟩:aG)],v10,0⟩:aH)])]) rfl tyB27q rfl rfl ⟨trivial,trivial,trivial,trivial,trivial⟩ rfl) ⟨rfl,rfl,rfl,rfl,trivial⟩,trivial⟩ (fun bs13 G12=>?_)
 refine bG (dO 3 rfl rfl rfl tyA27.s) zU2 ?_
 refine aC (aA (a9 (a8 ?_)))
 obtain rfl:=bV hF
 exact aL (.inl rfl) Tryz.results88 (bQ 3 4 rfl rfl rfl rfl (.agg tyA27) .nil) rfl rfl
def lY (K:Nat) (a0:bC) (a1:Rat) (a2:Rat) (a3:Rat) (a4:Rat):Option Bool:=
 (vA K a0.dofs a0.load a0.v a0.rows).bind fun v6=>bif(v6.2.2 != 0) then(some false) else(bif((v6.1.length:Int) != 2) then(some false) else(bif((v6.2.1.length:Int) != 1) then(some false) else((dC v6.1 0).bind fun v13=>(wL v13 a1).bind fun v15=>bif v15 then((dC v6.1 1).bind fun v18=>(wL v18 a2).bind fun v20=>bif v20 then((dC v6.2.1 0).bind fun v23=>(wL v23.n a3).bind fun v25=>bif v25 then((dC v6.2.1 0).bind fun v28=>(wL v28.f a4).bind fun v30=>some v30) else(some false)) else(some false)) else(some false))))
theorem fA {K:Nat} {a0:bC} {a1:Rat} {a2:Rat} {a3:Rat} {a4:Rat} {r:Bool} (hF:lY K a0 a1 a2 a3 a4=some r):Ct Tryz.prog 89 [.va (bC.enc a0),.va (eQ a1),.va (eQ a2),.va (eQ a3),.va (eQ a4)] (.vc (pB r)):=by
 unfold lY at hF
 refine bD Tryz.func89 rfl (by kernel_rfl) Tryz.ntmps89 rfl (fun w0 M0=>?_)
 refine aE (aF (cY rfl rfl trivial (fun b1=>?_)))
 refine cY rfl rfl trivial (fun b2=>?_)
 refine cY rfl rfl trivial (fun b3=>?_)
 refine cY rfl rfl trivial (fun b4=>?_)
 refine cY rfl rfl trivial (fun b5=>?_)
 refine aB (aN (.inr rfl)) ⟨cW _,trivial⟩ ?_
 refine aC (aA (aE (aF (aB (bE (off:=0) (k:=0) rfl tyF27_0) zU1 ?_))))
 refine aB (bK 4 1 rfl rfl rfl rfl (.one tyO23)) zU1 ?_
 refine aB (bE (off:=0) (k:=1) rfl tyF27_1) zU1 ?_
 refine aB (bK 4 1 rfl rfl rfl rfl (.one tyO24)) zU1 ?_
 refine aB (bE (off:=0) (k:=2) rfl tyF27_2) zU1 ?_
 refine aB (bK 4 1 rfl rfl rfl rfl (.one tyO24)) zU1 ?_
 refine aB (bE (off:=0) (k:=3) rfl tyF27_3) zU1 ?_
 refine aB (bK 4 1 rfl rfl rfl rfl (.one tyO25)) zU1 ?_
 obtain⟨v6,h7,hF⟩:=aP hF
 refine aB (aJ rfl (zL h7) rfl) ⟨rfl,rfl,rfl,rfl,trivial⟩ ?_
 refine aI ?_
 refine aB (aGI rfl) zU1 ?_
 refine aB (aG1 rfl) zU1 ?_
 refine aB (aGV rfl) zU1 ?_
 refine bH ?_
 refine bH ?_
 refine bH ?_
 refine aC (aA (aE (aE (aF (aI ?_)))))
 refine aB (s7 rfl) ⟨rfl,bI _ _,trivial⟩ ?_
 refine aI ?_
 refine cP (fun h8=>?_) (fun h8=>?_)
 ·have hF:=aV h8 hF
  refine aM ?_
  refine aM ?_
  refine aM ?_
  refine aB (bM rfl) ⟨rfl,cW _,trivial⟩ ?_
  refine aI ?_
  refine aM ?_
  refine aM ?_
  refine aM ?_
  refine aB (bM rfl) ⟨rfl,cW _,trivial⟩ ?_
  refine aC (aA (iO rfl ?_))
  refine aE (aF (aB (aN (.inr rfl)) ⟨cW _,trivial⟩ ?_))
  refine aC (aA (a9 (a8 ?_)))
  obtain rfl:=bV hF
  exact aL (.inl rfl) Tryz.results89 (.tmp rfl .nil) rfl rfl
 have hF:=aX h8 hF
 refine aY (aN (.inl rfl)) zU1 ?_
 refine aY (bX rfl tyS24) zU1 ?_
 refine aY (s7 rfl) ⟨rfl,bI _ _,trivial⟩ ?_
 refine aB (bN rfl) zU2 ?_
 refine aI ?_
 refine cP (fun h9=>?_) (fun h9=>?_)
 ·have hF:=aV h9 hF
  refine aM ?_
  refine aM ?_
  refine aM ?_
  refine aB (bM rfl) ⟨rfl,cW _,trivial⟩ ?_
  refine aC (aA (iO rfl ?_))
  refine aE (aF (aB (aN (.inr rfl)) ⟨cW _,trivial⟩ ?_))
  refine aC (aA (a9 (a8 ?_)))
  obtain rfl:=bV hF
  exact aL (.inl rfl) Tryz.results89 (.tmp rfl .nil) rfl rfl
 have hF:=aX h9 hF
 refine aY (aN (.inl rfl)) zU1 ?_
 refine aY (bX rfl tyS29) zU1 ?_
 refine aY (s7 rfl) ⟨rfl,bI _ _,trivial⟩ ?_
 refine aB (bN rfl) zU2 ?_
 refine aC (aA (bS rfl (fun h10=>?_) (fun h10=>?_)))
 ·have hF:=aV h10 hF
  refine aE (aF (aB (aN (.inr rfl)) ⟨cW _,trivial⟩ ?_))
  refine aC (aA (a9 (a8 ?_)))
  obtain rfl:=bV hF
  exact aL (.inl rfl) Tryz.results89 (.tmp rfl .nil) rfl rfl
 have hF:=aX h10 hF
 refine bA (aA (aE ?_))
 obtain⟨v13,h14,hF⟩:=aP hF
 obtain⟨v15,h16,hF⟩:=aP hF
 rcases Bool.eq_false_or_eq_true v15 with h17|h17
 ·have hF:=aV h17 hF
  obtain⟨v18,h19,hF⟩:=aP hF
  obtain⟨v20,h21,hF⟩:=aP hF
  rcases Bool.eq_false_or_eq_true v20 with h22|h22
  ·have hF:=aV h22 hF
   obtain⟨v23,h24,hF⟩:=aP hF
   obtain⟨v25,h26,hF⟩:=aP hF
   rcases Bool.eq_false_or_eq_true v25 with h27|h27
   ·have hF:=aV h27 hF
    obtain⟨v28,h29,hF⟩:=aP hF
    obtain⟨v30,h31,hF⟩:=aP hF
    refine bT (0::1::3::0::15::31::63::127::255::63::1023::2047::4095::8191::16383::32767::65535::8191::262143::524287::1048575::2097151::4194303::8388607::16777215::2097151::67108863::134217727::268435455::[]) 29 0 (.v (.vc (pS cQ v6.1))::.v (.vc (pM (cQ.e v13)))::.v (.va (eQ v13))::.v (.va (eQ a1))::.v (.vc (pB v15))::.v (.vc (pB true))::.v (.vc (pS cQ v6.1))::.v (.vc (pM (cQ.e v18)))::.v (.va (eQ v18))::.v (.va (eQ a2))::.v (.vc (pB v20))::.v (.vc (pB v20))::.v (.vc (pB true))::.v (.vc (pS aO.cod v6.2.1))::.v (.vc (pM (aO.cod.e v23)))::.v (.vc (pM (aO.cod.e v23)))::.v (.va (eQ v23.n))::.v (.va (eQ a3))::.v (.vc (pB v25))::.v (.vc (pB v25))::.v (.vc (pB true))::.v (.vc (pS aO.cod v6.2.1))::.v (.vc (pM (aO.cod.e v28)))::.v (.vc (pM ((aO.cod.e v28).drop 4)))::.v (.va (eQ v28.f))::.v (.va (eQ a4))::.v (.vc (pB v30))::.v (.vc (pB v30))::.v (.vc (pB v30))::[]) aU ⟨d0 (aN (.inl rfl)) zU1,d0 (cO rfl tyS24 h14) ⟨rfl,bI _ _,trivial⟩,d0 (cK 4 rfl rfl (.agg tyA44)) zU1,d0 (bK 3 4 rfl rfl rfl rfl (.agg tyA44)) zU1,d0 (aJ rfl (jN h16) rfl) zU2,d0 (cX (aN (.inl rfl)) h17) zU1,g0 (aN (.inl rfl)) zU1,g0 (cO rfl tyS24 h19) ⟨rfl,bI _ _,trivial⟩,g0 (cK 4 rfl rfl (.agg tyA44)) zU1,g0 (bK 2 4 rfl rfl rfl rfl (.agg tyA44)) zU1,g0 (aJ rfl (jN h21) rfl) zU2,d0 (bM rfl) zU2,d0 (cX (aN (.inl rfl)) h22) zU1,g0 (aN (.inl rfl)) zU1,g0 (cO rfl tyS29 h24) ⟨rfl,bI _ _,trivial⟩,g0 (jR (ps:=(aO.cod.e v23)) (k:=0) rfl tyF58_0) zU1,g0 (cK 4 rfl rfl (.agg tyA44)) zU1,g0 (bK 1 4 rfl rfl rfl rfl (.agg tyA44)) zU1,g0 (aJ rfl (jN h26) rfl) zU2,d0 (bM rfl) zU2,d0 (cX (aN (.inl rfl)) h27) zU1,g0 (aN (.inl rfl)) zU1,g0 (cO rfl tyS29 h29) ⟨rfl,bI _ _,trivial⟩,g0 (jR (ps:=(aO.cod.e v28)) (k:=4) rfl tyF58_1) zU1,g0 (cK 4 rfl rfl (.agg tyA44)) zU1,g0 (bK 0 4 rfl rfl rfl rfl (.agg tyA44)) zU1,g0 (aJ rfl (jN h31) rfl) zU2,d0 (bM rfl) zU2,d0 (aN (.inr rfl)) zU1,trivial⟩ (fun bs12 G11=>?_)
    refine aC (aA (a9 (a8 ?_)))
    obtain rfl:=bV hF
    exact aL (.inl rfl) Tryz.results89 (.tmp rfl .nil) rfl rfl
   have hF:=aX h27 hF
   refine bT (0::1::3::0::15::31::63::127::255::63::1023::2047::4095::8191::16383::32767::65535::8191::262143::524287::1048575::2097151::4194303::8388607::16777215::2097151::67108863::134217727::268435455::[]) 29 0 (.v (.vc (pS cQ v6.1))::.v (.vc (pM (cQ.e v13)))::.v (.va (eQ v13))::.v (.va (eQ a1))::.v (.vc (pB v15))::.v (.vc (pB true))::.v (.vc (pS cQ v6.1))::.v (.vc (pM (cQ.e v18)))::.v (.va (eQ v18))::.v (.va (eQ a2))::.v (.vc (pB v20))::.v (.vc (pB v20))::.v (.vc (pB true))::.v (.vc (pS aO.cod v6.2.1))::.v (.vc (pM (aO.cod.e v23)))::.v (.vc (pM (aO.cod.e v23)))::.v (.va (eQ v23.n))::.v (.va (eQ a3))::.v (.vc (pB v25))::.v (.vc (pB v25))::.v (.vc (pB false))::.v .un::.v .un::.v .un::.v .un::.v .un::.v .un::.v (.vc (pB false))::.v (.vc (pB false))::[]) aU ⟨d0 (aN (.inl rfl)) zU1,d0 (cO rfl tyS24 h14) ⟨rfl,bI _ _,trivial⟩,d0 (cK 4 rfl rfl (.agg tyA44)) zU1,d0 (bK 3 4 rfl rfl rfl rfl (.agg tyA44)) zU1,d0 (aJ rfl (jN h16) rfl) zU2,d0 (cX (aN (.inl rfl)) h17) zU1,g0 (aN (.inl rfl)) zU1,g0 (cO rfl tyS24 h19) ⟨rfl,bI _ _,trivial⟩,g0 (cK 4 rfl rfl (.agg tyA44)) zU1,g0 (bK 2 4 rfl rfl rfl rfl (.agg tyA44)) zU1,g0 (aJ rfl (jN h21) rfl) zU2,d0 (bM rfl) zU2,d0 (cX (aN (.inl rfl)) h22) zU1,g0 (aN (.inl rfl)) zU1,g0 (cO rfl tyS29 h24) ⟨rfl,bI _ _,trivial⟩,g0 (jR (ps:=(aO.cod.e v23)) (k:=0) rfl tyF58_0) zU1,g0 (cK 4 rfl rfl (.agg tyA44)) zU1,g0 (bK 1 4 rfl rfl rfl rfl (.agg tyA44)) zU1,g0 (aJ rfl (jN h26) rfl) zU2,d0 (bM rfl) zU2,d0 (cX (aN (.inl rfl)) h27) zU1,⟨rfl,.skipN⟩,⟨rfl,.skipN⟩,⟨rfl,.skipN⟩,⟨rfl,.skipN⟩,⟨rfl,.skipN⟩,⟨rfl,.skipN⟩,d0 (bN rfl) ⟨rfl,cW _,trivial⟩,d0 (aN (.inr rfl)) zU1,trivial⟩ (fun bs12 G11=>?_)
   refine aC (aA (a9 (a8 ?_)))
   obtain rfl:=bV hF
   exact aL (.inl rfl) Tryz.results89 (.tmp rfl .nil) rfl rfl
  have hF:=aX h22 hF
  refine bT (0::1::3::0::15::31::63::127::255::63::1023::2047::4095::8191::16383::32767::65535::8191::262143::524287::1048575::2097151::4194303::8388607::16777215::2097151::67108863::134217727::268435455::[]) 29 0 (.v (.vc (pS cQ v6.1))::.v (.vc (pM (cQ.e v13)))::.v (.va (eQ v13))::.v (.va (eQ a1))::.v (.vc (pB v15))::.v (.vc (pB true))::.v (.vc (pS cQ v6.1))::.v (.vc (pM (cQ.e v18)))::.v (.va (eQ v18))::.v (.va (eQ a2))::.v (.vc (pB v20))::.v (.vc (pB v20))::.v (.vc (pB false))::.v .un::.v .un::.v .un::.v .un::.v .un::.v .un::.v (.vc (pB false))::.v (.vc (pB false))::.v .un::.v .un::.v .un::.v .un::.v .un::.v .un::.v (.vc (pB false))::.v (.vc (pB false))::[]) aU ⟨d0 (aN (.inl rfl)) zU1,d0 (cO rfl tyS24 h14) ⟨rfl,bI _ _,trivial⟩,d0 (cK 4 rfl rfl (.agg tyA44)) zU1,d0 (bK 3 4 rfl rfl rfl rfl (.agg tyA44)) zU1,d0 (aJ rfl (jN h16) rfl) zU2,d0 (cX (aN (.inl rfl)) h17) zU1,g0 (aN (.inl rfl)) zU1,g0 (cO rfl tyS24 h19) ⟨rfl,bI _ _,trivial⟩,g0 (cK 4 rfl rfl (.agg tyA44)) zU1,g0 (bK 2 4 rfl rfl rfl rfl (.agg tyA44)) zU1,g0 (aJ rfl (jN h21) rfl) zU2,d0 (bM rfl) zU2,d0 (cX (aN (.inl rfl)) h22) zU1,⟨rfl,.skipN⟩,⟨rfl,.skipN⟩,⟨rfl,.skipN⟩,⟨rfl,.skipN⟩,⟨rfl,.skipN⟩,⟨rfl,.skipN⟩,d0 (bN rfl) ⟨rfl,cW _,trivial⟩,d0 (aN (.inl rfl)) zU1,⟨rfl,.skipN⟩,⟨rfl,.skipN⟩,⟨rfl,.skipN⟩,⟨rfl,.skipN⟩,⟨rfl,.skipN⟩,⟨rfl,.skipN⟩,d0 (bN rfl) ⟨rfl,cW _,trivial⟩,d0 (aN (.inr rfl)) zU1,trivial⟩ (fun bs12 G11=>?_)
  refine aC (aA (a9 (a8 ?_)))
  obtain rfl:=bV hF
  exact aL (.inl rfl) Tryz.results89 (.tmp rfl .nil) rfl rfl
 have hF:=aX h17 hF
 refine bT (0::1::3::0::15::31::63::127::255::63::1023::2047::4095::8191::16383::32767::65535::8191::262143::524287::1048575::2097151::4194303::8388607::16777215::2097151::67108863::134217727::268435455::[]) 29 0 (.v (.vc (pS cQ v6.1))::.v (.vc (pM (cQ.e v13)))::.v (.va (eQ v13))::.v (.va (eQ a1))::.v (.vc (pB v15))::.v (.vc (pB false))::.v .un::.v .un::.v .un::.v .un::.v .un::.v (.vc (pB false))::.v (.vc (pB false))::.v .un::.v .un::.v .un::.v .un::.v .un::.v .un::.v (.vc (pB false))::.v (.vc (pB false))::.v .un::.v .un::.v .un::.v .un::.v .un::.v .un::.v (.vc (pB false))::.v (.vc (pB false))::[]) aU ⟨d0 (aN (.inl rfl)) zU1,d0 (cO rfl tyS24 h14) ⟨rfl,bI _ _,trivial⟩,d0 (cK 4 rfl rfl (.agg tyA44)) zU1,d0 (bK 3 4 rfl rfl rfl rfl (.agg tyA44)) zU1,d0 (aJ rfl (jN h16) rfl) zU2,d0 (cX (aN (.inl rfl)) h17) zU1,⟨rfl,.skipN⟩,⟨rfl,.skipN⟩,⟨rfl,.skipN⟩,⟨rfl,.skipN⟩,⟨rfl,.skipN⟩,d0 (bN rfl) ⟨rfl,cW _,trivial⟩,d0 (aN (.inl rfl)) zU1,⟨rfl,.skipN⟩,⟨rfl,.skipN⟩,⟨rfl,.skipN⟩,⟨rfl,.skipN⟩,⟨rfl,.skipN⟩,⟨rfl,.skipN⟩,d0 (bN rfl) ⟨rfl,cW _,trivial⟩,d0 (aN (.inl rfl)) zU1,⟨rfl,.skipN⟩,⟨rfl,.skipN⟩,⟨rfl,.skipN⟩,⟨rfl,.skipN⟩,⟨rfl,.skipN⟩,⟨rfl,.skipN⟩,d0 (bN rfl) ⟨rfl,cW _,trivial⟩,d0 (aN (.inr rfl)) zU1,trivial⟩ (fun bs12 G11=>?_)
 refine aC (aA (a9 (a8 ?_)))
 obtain rfl:=bV hF
 exact aL (.inl rfl) Tryz.results89 (.tmp rfl .nil) rfl rfl
def qR (K:Nat):Option Bool:=
 (y5 1 1).bind fun v2=>(y5 (-1) 2).bind fun v5=>(lX 0 (-1) 1 1).bind fun v8=>(vA K v8.dofs v8.load v8.v v8.rows).bind fun v11=>(lX 1 (-1) 4 0).bind fun v15=>(y5 (-1) 4).bind fun v17=>(lY K v15 0 0 v2 v17).bind fun v19=>bif v19 then((lX 1 (-1) 1 0).bind fun v22=>(y5 1 4).bind fun v24=>(lY K v22 v24 0 v2 v5).bind fun v26=>bif v26 then((lX 0 1 1 0).bind fun v29=>(y5 1 2).bind fun v31=>(lY K v29 0 v31 0 0).bind fun v33=>bif v33 then((y5 (-1) 4).bind fun v36=>(lY K v8 v36 0 v2 v5).bind fun v38=>bif v38 then(bif(v11.2.2==0) then((xE K v8.v v11.1 v8.rows).bind fun v42=>bif v42 then((xH K v8.dofs v8.load v8.v v8.rows v11.1 v11.2.1).bind fun v45=>some (v45==0)) else(some false)) else(some false)) else(some false)) else(some false)) else(some false)) else(some false)
theorem aAa {K:Nat} {r:Bool} (hF:qR K=some r):Ct Tryz.prog 23 [] (.vc (pB r)):=by
 unfold qR at hF
 refine bD Tryz.func23 rfl (by kernel_rfl) Tryz.ntmps23 rfl (fun w0 M0=>?_)
 refine aE (aF (aB (aN (.inr rfl)) ⟨cW _,trivial⟩ ?_))
 refine aC (aA (aE (aF (bP rfl tyZ44q (fun b1=>?_)))))
 refine aC (aA (aE (aF ?_)))
 obtain⟨v2,h3,hF⟩:=aP hF
 refine aB (aJ rfl (bY h3) rfl) ⟨bI _ _,bI _ _,trivial⟩ ?_
 refine bP rfl tyZ44q (fun b4=>?_)
 refine bG (dO 0 rfl rfl rfl tyA44.s) zU2 ?_
 refine aC (aA (aE (aF ?_)))
 obtain⟨v5,h6,hF⟩:=aP hF
 refine aB (aJ rfl (bY h6) rfl) ⟨bI _ _,bI _ _,trivial⟩ ?_
 refine bP rfl tyZ44q (fun b7=>?_)
 refine bG (dO 0 rfl rfl rfl tyA44.s) zU2 ?_
 refine aC (aA (aE (aF ?_)))
 obtain⟨v8,h9,hF⟩:=aP hF
 refine aB (aJ rfl (eZ h9) rfl) ⟨bI _ _,bI _ _,bI _ _,bI _ _,trivial⟩ ?_
 refine bP rfl tyZ27q (fun b10=>?_)
 refine bG (dO 0 rfl rfl rfl tyA27.s) zU2 ?_
 refine aC (aA (aE (aF (aB (bE (off:=0) (k:=0) rfl tyF27_0) zU1 ?_))))
 refine aB (bK 0 1 rfl rfl rfl rfl (.one tyO23)) zU1 ?_
 refine aB (bE (off:=0) (k:=1) rfl tyF27_1) zU1 ?_
 refine aB (bK 0 1 rfl rfl rfl rfl (.one tyO24)) zU1 ?_
 refine aB (bE (off:=0) (k:=2) rfl tyF27_2) zU1 ?_
 refine aB (bK 0 1 rfl rfl rfl rfl (.one tyO24)) zU1 ?_
 refine aB (bE (off:=0) (k:=3) rfl tyF27_3) zU1 ?_
 refine aB (bK 0 1 rfl rfl rfl rfl (.one tyO25)) zU1 ?_
 obtain⟨v11,h12,hF⟩:=aP hF
 refine aB (aJ rfl (zL h12) rfl) ⟨rfl,rfl,rfl,rfl,trivial⟩ ?_
 refine aI ?_
 refine aB (aGI rfl) zU1 ?_
 refine aB (aG1 rfl) zU1 ?_
 refine aB (aGV rfl) zU1 ?_
 refine bH ?_
 refine bH ?_
 refine bH ?_
 refine aC (aA (aE ?_))
 obtain⟨v15,h16,hF⟩:=aP hF
 obtain⟨v17,h18,hF⟩:=aP hF
 obtain⟨v19,h20,hF⟩:=aP hF
 rcases Bool.eq_false_or_eq_true v19 with h21|h21
 ·have hF:=aV h21 hF
  obtain⟨v22,h23,hF⟩:=aP hF
  obtain⟨v24,h25,hF⟩:=aP hF
  obtain⟨v26,h27,hF⟩:=aP hF
  rcases Bool.eq_false_or_eq_true v26 with h28|h28
  ·have hF:=aV h28 hF
   obtain⟨v29,h30,hF⟩:=aP hF
   obtain⟨v31,h32,hF⟩:=aP hF
   obtain⟨v33,h34,hF⟩:=aP hF
   rcases Bool.eq_false_or_eq_true v33 with h35|h35
   ·have hF:=aV h35 hF
    obtain⟨v36,h37,hF⟩:=aP hF
    obtain⟨v38,h39,hF⟩:=aP hF
    refine bT (0::0::0::0::1::31::63::127::255::127::127::127::4095::8191::16383::32767::32767::65535::32767::32767::1048575::2097151::4194303::8388607::8388607::8388607::8388607::8388607::268435455::536870911::1073741823::[]) 31 0 (.v (.va (bC.enc v15))::.v (.va (eQ 0))::.v (.va (eQ 0))::.v (.va (eQ v2))::.v (.va (eQ v17))::.v (.vc (pB v19))::.v (.vc (pB true))::.v (.va (bC.enc v22))::.v (.va (eQ v24))::.v (.va (eQ 0))::.v (.va (eQ v2))::.v (.va (eQ v5))::.v (.vc (pB v26))::.v (.vc (pB v26))::.v (.vc (pB true))::.v (.va (bC.enc v29))::.v (.va (eQ 0))::.v (.va (eQ v31))::.v (.va (eQ 0))::.v (.va (eQ 0))::.v (.vc (pB v33))::.v (.vc (pB v33))::.v (.vc (pB true))::.v (.va (bC.enc v8))::.v (.va (eQ v36))::.v (.va (eQ 0))::.v (.va (eQ v2))::.v (.va (eQ v5))::.v (.vc (pB v38))::.v (.vc (pB v38))::.v (.vc (pB v38))::[]) aU ⟨d0 (aJ rfl (eZ h16) rfl) ⟨bI _ _,bI _ _,bI _ _,bI _ _,trivial⟩,d0 (bK 3 4 rfl rfl rfl rfl (.agg tyA44)) zU1,d0 (bK 3 4 rfl rfl rfl rfl (.agg tyA44)) zU1,d0 (bK 2 4 rfl rfl rfl rfl (.agg tyA44)) zU1,d0 (aJ rfl (bY h18) rfl) ⟨bI _ _,bI _ _,trivial⟩,d0 (aJ rfl (fA h20) rfl) ⟨rfl,rfl,rfl,rfl,rfl,trivial⟩,d0 (cX (aN (.inl rfl)) h21) zU1,g0 (aJ rfl (eZ h23) rfl) ⟨bI _ _,bI _ _,bI _ _,bI _ _,trivial⟩,g0 (aJ rfl (bY h25) rfl) ⟨bI _ _,bI _ _,trivial⟩,g0 (bK 3 4 rfl rfl rfl rfl (.agg tyA44)) zU1,g0 (bK 2 4 rfl rfl rfl rfl (.agg tyA44)) zU1,g0 (bK 1 4 rfl rfl rfl rfl (.agg tyA44)) zU1,g0 (aJ rfl (fA h27) rfl) ⟨rfl,rfl,rfl,rfl,rfl,trivial⟩,d0 (bM rfl) zU2,d0 (cX (aN (.inl rfl)) h28) zU1,g0 (aJ rfl (eZ h30) rfl) ⟨bI _ _,bI _ _,bI _ _,bI _ _,trivial⟩,g0 (bK 3 4 rfl rfl rfl rfl (.agg tyA44)) zU1,g0 (aJ rfl (bY h32) rfl) ⟨bI _ _,bI _ _,trivial⟩,g0 (bK 3 4 rfl rfl rfl rfl (.agg tyA44)) zU1,g0 (bK 3 4 rfl rfl rfl rfl (.agg tyA44)) zU1,g0 (aJ rfl (fA h34) rfl) ⟨rfl,rfl,rfl,rfl,rfl,trivial⟩,d0 (bM rfl) zU2,d0 (cX (aN (.inl rfl)) h35) zU1,g0 (bK 0 4 rfl rfl rfl rfl (.agg tyA27)) zU1,g0 (aJ rfl (bY h37) rfl) ⟨bI _ _,bI _ _,trivial⟩,g0 (bK 3 4 rfl rfl rfl rfl (.agg tyA44)) zU1,g0 (bK 2 4 rfl rfl rfl rfl (.agg tyA44)) zU1,g0 (bK 1 4 rfl rfl rfl rfl (.agg tyA44)) zU1,g0 (aJ rfl (fA h39) rfl) ⟨rfl,rfl,rfl,rfl,rfl,trivial⟩,d0 (bM rfl) zU2,d0 (aN (.inr rfl)) zU1,trivial⟩ (fun bs14 G13=>?_)
    refine aC (aA (aE (aF (aI ?_))))
    refine aI ?_
    refine cP (fun h40=>?_) (fun h40=>?_)
    ·have hF:=aV h40 hF
     refine aY (aN (.inl rfl)) zU1 ?_
     refine aY (gR rfl) ⟨rfl,bI _ _,trivial⟩ ?_
     refine aB (bM rfl) zU2 ?_
     refine aI ?_
     refine cP (fun h41=>?_) (fun h41=>?_)
     ·have hF:=aV h41 hF
      refine aY (bE (off:=0) (k:=2) rfl tyF27_2) zU1 ?_
      refine aY (bK 0 1 rfl rfl rfl rfl (.one tyO24)) zU1 ?_
      refine aY (aN (.inl rfl)) zU1 ?_
      refine aY (bE (off:=0) (k:=3) rfl tyF27_3) zU1 ?_
      refine aY (bK 0 1 rfl rfl rfl rfl (.one tyO25)) zU1 ?_
      obtain⟨v42,h43,hF⟩:=aP hF
      refine aY (aJ rfl (aCp h43) rfl) ⟨rfl,rfl,rfl,trivial⟩ ?_
      refine aB (bM rfl) zU2 ?_
      refine aI ?_
      refine cP (fun h44=>?_) (fun h44=>?_)
      ·have hF:=aV h44 hF
       refine aY (bE (off:=0) (k:=0) rfl tyF27_0) zU1 ?_
       refine aY (bK 0 1 rfl rfl rfl rfl (.one tyO23)) zU1 ?_
       refine aY (bE (off:=0) (k:=1) rfl tyF27_1) zU1 ?_
       refine aY (bK 0 1 rfl rfl rfl rfl (.one tyO24)) zU1 ?_
       refine aY (bE (off:=0) (k:=2) rfl tyF27_2) zU1 ?_
       refine aY (bK 0 1 rfl rfl rfl rfl (.one tyO24)) zU1 ?_
       refine aY (bE (off:=0) (k:=3) rfl tyF27_3) zU1 ?_
       refine aY (bK 0 1 rfl rfl rfl rfl (.one tyO25)) zU1 ?_
       refine aY (aN (.inl rfl)) zU1 ?_
       refine aY (aN (.inl rfl)) zU1 ?_
       obtain⟨v45,h46,hF⟩:=aP hF
       refine aY (aJ rfl (aC3 h46) rfl) ⟨rfl,rfl,rfl,rfl,rfl,rfl,trivial⟩ ?_
       refine aY (gR rfl) ⟨rfl,bI _ _,trivial⟩ ?_
       refine aB (bM rfl) zU2 ?_
       refine bH ?_
       refine aC (aA (a9 (a8 ?_)))
       obtain rfl:=bV hF
       exact aL (.inl rfl) Tryz.results23 (.tmp rfl .nil) rfl rfl
      have hF:=aX h44 hF
      refine aM ?_
      refine aM ?_
      refine aM ?_
      refine aM ?_
      refine aM ?_
      refine aM ?_
      refine aM ?_
      refine aM ?_
      refine aM ?_
      refine aM ?_
      refine aM ?_
      refine aM ?_
      refine aB (bN rfl) ⟨rfl,cW _,trivial⟩ ?_
      refine bH ?_
      refine aC (aA (a9 (a8 ?_)))
      obtain rfl:=bV hF
      exact aL (.inl rfl) Tryz.results23 (.tmp rfl .nil) rfl rfl
     have hF:=aX h41 hF
     refine aM ?_
     refine aM ?_
     refine aM ?_
     refine aM ?_
     refine aM ?_
     refine aM ?_
     refine aB (bN rfl) ⟨rfl,cW _,trivial⟩ ?_
     refine aI ?_
     refine aM ?_
     refine aM ?_
     refine aM ?_
     refine aM ?_
     refine aM ?_
     refine aM ?_
     refine aM ?_
     refine aM ?_
     refine aM ?_
     refine aM ?_
     refine aM ?_
     refine aM ?_
     refine aB (bN rfl) ⟨rfl,cW _,trivial⟩ ?_
     refine bH ?_
     refine aC (aA (a9 (a8 ?_)))
     obtain rfl:=bV hF
     exact aL (.inl rfl) Tryz.results23 (.tmp rfl .nil) rfl rfl
    have hF:=aX h40 hF
    refine aM ?_
    refine aM ?_
    refine aB (bN rfl) ⟨rfl,cW _,trivial⟩ ?_
    refine aI ?_
    refine aM ?_
    refine aM ?_
    refine aM ?_
    refine aM ?_
    refine aM ?_
    refine aM ?_
    refine aB (bN rfl) ⟨rfl,cW _,trivial⟩ ?_
    refine aI ?_
    refine aM ?_
    refine aM ?_
    refine aM ?_
    refine aM ?_
    refine aM ?_
    refine aM ?_
    refine aM ?_
    refine aM ?_
    refine aM ?_
    refine aM ?_
    refine aM ?_
    refine aM ?_
    refine aB (bN rfl) ⟨rfl,cW _,trivial⟩ ?_
    refine bH ?_
    refine aC (aA (a9 (a8 ?_)))
    obtain rfl:=bV hF
    exact aL (.inl rfl) Tryz.results23 (.tmp rfl .nil) rfl rfl
   have hF:=aX h35 hF
   refine bT (0::0::0::0::1::31::63::127::255::127::127::127::4095::8191::16383::32767::32767::65535::32767::32767::1048575::2097151::4194303::8388607::8388607::8388607::8388607::8388607::268435455::536870911::1073741823::[]) 31 0 (.v (.va (bC.enc v15))::.v (.va (eQ 0))::.v (.va (eQ 0))::.v (.va (eQ v2))::.v (.va (eQ v17))::.v (.vc (pB v19))::.v (.vc (pB true))::.v (.va (bC.enc v22))::.v (.va (eQ v24))::.v (.va (eQ 0))::.v (.va (eQ v2))::.v (.va (eQ v5))::.v (.vc (pB v26))::.v (.vc (pB v26))::.v (.vc (pB true))::.v (.va (bC.enc v29))::.v (.va (eQ 0))::.v (.va (eQ v31))::.v (.va (eQ 0))::.v (.va (eQ 0))::.v (.vc (pB v33))::.v (.vc (pB v33))::.v (.vc (pB false))::.v .un::.v .un::.v .un::.v .un::.v .un::.v .un::.v (.vc (pB false))::.v (.vc (pB false))::[]) aU ⟨d0 (aJ rfl (eZ h16) rfl) ⟨bI _ _,bI _ _,bI _ _,bI _ _,trivial⟩,d0 (bK 3 4 rfl rfl rfl rfl (.agg tyA44)) zU1,d0 (bK 3 4 rfl rfl rfl rfl (.agg tyA44)) zU1,d0 (bK 2 4 rfl rfl rfl rfl (.agg tyA44)) zU1,d0 (aJ rfl (bY h18) rfl) ⟨bI _ _,bI _ _,trivial⟩,d0 (aJ rfl (fA h20) rfl) ⟨rfl,rfl,rfl,rfl,rfl,trivial⟩,d0 (cX (aN (.inl rfl)) h21) zU1,g0 (aJ rfl (eZ h23) rfl) ⟨bI _ _,bI _ _,bI _ _,bI _ _,trivial⟩,g0 (aJ rfl (bY h25) rfl) ⟨bI _ _,bI _ _,trivial⟩,g0 (bK 3 4 rfl rfl rfl rfl (.agg tyA44)) zU1,g0 (bK 2 4 rfl rfl rfl rfl (.agg tyA44)) zU1,g0 (bK 1 4 rfl rfl rfl rfl (.agg tyA44)) zU1,g0 (aJ rfl (fA h27) rfl) ⟨rfl,rfl,rfl,rfl,rfl,trivial⟩,d0 (bM rfl) zU2,d0 (cX (aN (.inl rfl)) h28) zU1,g0 (aJ rfl (eZ h30) rfl) ⟨bI _ _,bI _ _,bI _ _,bI _ _,trivial⟩,g0 (bK 3 4 rfl rfl rfl rfl (.agg tyA44)) zU1,g0 (aJ rfl (bY h32) rfl) ⟨bI _ _,bI _ _,trivial⟩,g0 (bK 3 4 rfl rfl rfl rfl (.agg tyA44)) zU1,g0 (bK 3 4 rfl rfl rfl rfl (.agg tyA44)) zU1,g0 (aJ rfl (fA h34) rfl) ⟨rfl,rfl,rfl,rfl,rfl,trivial⟩,d0 (bM rfl) zU2,d0 (cX (aN (.inl rfl)) h35) zU1,⟨rfl,.skipN⟩,⟨rfl,.skipN⟩,⟨rfl,.skipN⟩,⟨rfl,.skipN⟩,⟨rfl,.skipN⟩,⟨rfl,.skipN⟩,d0 (bN rfl) ⟨rfl,cW _,trivial⟩,d0 (aN (.inr rfl)) zU1,trivial⟩ (fun bs14 G13=>?_)
   refine aC (aA (aE (aF (aI ?_))))
   refine aI ?_
   refine aM ?_
   refine aM ?_
   refine aB (bN rfl) ⟨rfl,cW _,trivial⟩ ?_
   refine aI ?_
   refine aM ?_
   refine aM ?_
   refine aM ?_
   refine aM ?_
   refine aM ?_
   refine aM ?_
   refine aB (bN rfl) ⟨rfl,cW _,trivial⟩ ?_
   refine aI ?_
   refine aM ?_
   refine aM ?_
   refine aM ?_
   refine aM ?_
   refine aM ?_
   refine aM ?_
   refine aM ?_
   refine aM ?_
   refine aM ?_
   refine aM ?_
   refine aM ?_
   refine aM ?_
   refine aB (bN rfl) ⟨rfl,cW _,trivial⟩ ?_
   refine bH ?_
   refine aC (aA (a9 (a8 ?_)))
   obtain rfl:=bV hF
   exact aL (.inl rfl) Tryz.results23 (.tmp rfl .nil) rfl rfl
  have hF:=aX h28 hF
  refine bT (0::0::0::0::1::31::63::127::255::127::127::127::4095::8191::16383::32767::32767::65535::32767::32767::1048575::2097151::4194303::8388607::8388607::8388607::8388607::8388607::268435455::536870911::1073741823::[]) 31 0 (.v (.va (bC.enc v15))::.v (.va (eQ 0))::.v (.va (eQ 0))::.v (.va (eQ v2))::.v (.va (eQ v17))::.v (.vc (pB v19))::.v (.vc (pB true))::.v (.va (bC.enc v22))::.v (.va (eQ v24))::.v (.va (eQ 0))::.v (.va (eQ v2))::.v (.va (eQ v5))::.v (.vc (pB v26))::.v (.vc (pB v26))::.v (.vc (pB false))::.v .un::.v .un::.v .un::.v .un::.v .un::.v .un::.v (.vc (pB false))::.v (.vc (pB false))::.v .un::.v .un::.v .un::.v .un::.v .un::.v .un::.v (.vc (pB false))::.v (.vc (pB false))::[]) aU ⟨d0 (aJ rfl (eZ h16) rfl) ⟨bI _ _,bI _ _,bI _ _,bI _ _,trivial⟩,d0 (bK 3 4 rfl rfl rfl rfl (.agg tyA44)) zU1,d0 (bK 3 4 rfl rfl rfl rfl (.agg tyA44)) zU1,d0 (bK 2 4 rfl rfl rfl rfl (.agg tyA44)) zU1,d0 (aJ rfl (bY h18) rfl) ⟨bI _ _,bI _ _,trivial⟩,d0 (aJ rfl (fA h20) rfl) ⟨rfl,rfl,rfl,rfl,rfl,trivial⟩,d0 (cX (aN (.inl rfl)) h21) zU1,g0 (aJ rfl (eZ h23) rfl) ⟨bI _ _,bI _ _,bI _ _,bI _ _,trivial⟩,g0 (aJ rfl (bY h25) rfl) ⟨bI _ _,bI _ _,trivial⟩,g0 (bK 3 4 rfl rfl rfl rfl (.agg tyA44)) zU1,g0 (bK 2 4 rfl rfl rfl rfl (.agg tyA44)) zU1,g0 (bK 1 4 rfl rfl rfl rfl (.agg tyA44)) zU1,g0 (aJ rfl (fA h27) rfl) ⟨rfl,rfl,rfl,rfl,rfl,trivial⟩,d0 (bM rfl) zU2,d0 (cX (aN (.inl rfl)) h28) zU1,⟨rfl,.skipN⟩,⟨rfl,.skipN⟩,⟨rfl,.skipN⟩,⟨rfl,.skipN⟩,⟨rfl,.skipN⟩,⟨rfl,.skipN⟩,d0 (bN rfl) ⟨rfl,cW _,trivial⟩,d0 (aN (.inl rfl)) zU1,⟨rfl,.skipN⟩,⟨rfl,.skipN⟩,⟨rfl,.skipN⟩,⟨rfl,.skipN⟩,⟨rfl,.skipN⟩,⟨rfl,.skipN⟩,d0 (bN rfl) ⟨rfl,cW _,trivial⟩,d0 (aN (.inr rfl)) zU1,trivial⟩ (fun bs14 G13=>?_)
  refine aC (aA (aE (aF (aI ?_))))
  refine aI ?_
  refine aM ?_
  refine aM ?_
  refine aB (bN rfl) ⟨rfl,cW _,trivial⟩ ?_
  refine aI ?_
  refine aM ?_
  refine aM ?_
  refine aM ?_
  refine aM ?_
  refine aM ?_
  refine aM ?_
  refine aB (bN rfl) ⟨rfl,cW _,trivial⟩ ?_
  refine aI ?_
  refine aM ?_
  refine aM ?_
  refine aM ?_
  refine aM ?_
  refine aM ?_
  refine aM ?_
  refine aM ?_
  refine aM ?_
  refine aM ?_
  refine aM ?_
  refine aM ?_
  refine aM ?_
  refine aB (bN rfl) ⟨rfl,cW _,trivial⟩ ?_
  refine bH ?_
  refine aC (aA (a9 (a8 ?_)))
  obtain rfl:=bV hF
  exact aL (.inl rfl) Tryz.results23 (.tmp rfl .nil) rfl rfl
 have hF:=aX h21 hF
 refine bT (0::0::0::0::1::31::63::127::255::127::127::127::4095::8191::16383::32767::32767::65535::32767::32767::1048575::2097151::4194303::8388607::8388607::8388607::8388607::8388607::268435455::536870911::1073741823::[]) 31 0 (.v (.va (bC.enc v15))::.v (.va (eQ 0))::.v (.va (eQ 0))::.v (.va (eQ v2))::.v (.va (eQ v17))::.v (.vc (pB v19))::.v (.vc (pB false))::.v .un::.v .un::.v .un::.v .un::.v .un::.v .un::.v (.vc (pB false))::.v (.vc (pB false))::.v .un::.v .un::.v .un::.v .un::.v .un::.v .un::.v (.vc (pB false))::.v (.vc (pB false))::.v .un::.v .un::.v .un::.v .un::.v .un::.v .un::.v (.vc (pB false))::.v (.vc (pB false))::[]) aU ⟨d0 (aJ rfl (eZ h16) rfl) ⟨bI _ _,bI _ _,bI _ _,bI _ _,trivial⟩,d0 (bK 3 4 rfl rfl rfl rfl (.agg tyA44)) zU1,d0 (bK 3 4 rfl rfl rfl rfl (.agg tyA44)) zU1,d0 (bK 2 4 rfl rfl rfl rfl (.agg tyA44)) zU1,d0 (aJ rfl (bY h18) rfl) ⟨bI _ _,bI _ _,trivial⟩,d0 (aJ rfl (fA h20) rfl) ⟨rfl,rfl,rfl,rfl,rfl,trivial⟩,d0 (cX (aN (.inl rfl)) h21) zU1,⟨rfl,.skipN⟩,⟨rfl,.skipN⟩,⟨rfl,.skipN⟩,⟨rfl,.skipN⟩,⟨rfl,.skipN⟩,⟨rfl,.skipN⟩,d0 (bN rfl) ⟨rfl,cW _,trivial⟩,d0 (aN (.inl rfl)) zU1,⟨rfl,.skipN⟩,⟨rfl,.skipN⟩,⟨rfl,.skipN⟩,⟨rfl,.skipN⟩,⟨rfl,.skipN⟩,⟨rfl,.skipN⟩,d0 (bN rfl) ⟨rfl,cW _,trivial⟩,d0 (aN (.inl rfl)) zU1,⟨rfl,.skipN⟩,⟨rfl,.skipN⟩,⟨rfl,.skipN⟩,⟨rfl,.skipN⟩,⟨rfl,.skipN⟩,⟨rfl,.skipN⟩,d0 (bN rfl) ⟨rfl,cW _,trivial⟩,d0 (aN (.inr rfl)) zU1,trivial⟩ (fun bs14 G13=>?_)
 refine aC (aA (aE (aF (aI ?_))))
 refine aI ?_
 refine aM ?_
 refine aM ?_
 refine aB (bN rfl) ⟨rfl,cW _,trivial⟩ ?_
 refine aI ?_
 refine aM ?_
 refine aM ?_
 refine aM ?_
 refine aM ?_
 refine aM ?_
 refine aM ?_
 refine aB (bN rfl) ⟨rfl,cW _,trivial⟩ ?_
 refine aI ?_
 refine aM ?_
 refine aM ?_
 refine aM ?_
 refine aM ?_
 refine aM ?_
 refine aM ?_
 refine aM ?_
 refine aM ?_
 refine aM ?_
 refine aM ?_
 refine aM ?_
 refine aM ?_
 refine aB (bN rfl) ⟨rfl,cW _,trivial⟩ ?_
 refine bH ?_
 refine aC (aA (a9 (a8 ?_)))
 obtain rfl:=bV hF
 exact aL (.inl rfl) Tryz.results23 (.tmp rfl .nil) rfl rfl
end Go.Proofs.YtcjdedkdoagifaaGreat
set_option linter.unusedVariables false
set_option maxRecDepth 100000
namespace Go.Proofs.YtcjdedkdoagifaaGreat
def l6 (K:Nat) (a0:List aT) (a1:List Rat) (a2:List Rat) (a3:List aH):Option ((List (List Rat))×(List Rat)):=
 (kX K (⟨a0,a1,a2,a3⟩:aQ)).bind fun v2=>bif(!v2) then(some ([],[])) else((kL K (⟨a0,a1,a2,a3⟩:aQ)).bind fun v5=>some (v5.1,v5.2))
theorem xO {K:Nat} {a0:List aT} {a1:List Rat} {a2:List Rat} {a3:List aH} {r:(List (List Rat))×(List Rat)} (hF:l6 K a0 a1 a2 a3=some r):Ct Tryz.prog 36 [.vc (pS aT.cod a0),.vc (pS cQ a1),.vc (pS cQ a2),.vc (pS aH.cod a3)] (.t2 (.vc (pS (rC cQ) r.1)) (.vc (pS cQ r.2))):=by
 unfold l6 at hF
 refine bD Tryz.func36 rfl (by kernel_rfl) Tryz.ntmps36 rfl (fun w0 M0=>?_)
 refine aE (aF (aB (aN (.inr rfl)) ⟨dX (rC cQ),trivial⟩ ?_))
 refine aB (aN (.inr rfl)) ⟨dX cQ,trivial⟩ ?_
 refine aC (aA (aE (aF (aI ?_))))
 refine aI ?_
 refine aI ?_
 refine aI ?_
 refine aB (cZ (is:=[0,1,2,3]) (xs:=[.tmp 11,.tmp 12,.tmp 13,.tmp 14]) (ps:=[.vc (pS aT.cod a0),.vc (pS cQ a1),.vc (pS cQ a2),.vc (pS aH.cod a3)]) rfl tyB113q rfl rfl ⟨trivial,trivial,trivial,trivial,trivial⟩ rfl) ⟨rfl,rfl,rfl,rfl,trivial⟩ ?_
 refine bP rfl tyZ113q (fun b1=>?_)
 refine bG (dO 0 rfl rfl rfl tyA113.s) zU2 ?_
 refine aC (aA (aE (aE (aF (aB (bK 0 4 rfl rfl rfl rfl (.agg tyA113)) zU1 ?_)))))
 obtain⟨v2,h3,hF⟩:=aP hF
 refine aB (aJ rfl (tC h3) rfl) zU1 ?_
 refine aB (hU rfl) zU1 ?_
 refine aC (aA (bS rfl (fun h4=>?_) (fun h4=>?_)))
 ·have hF:=aV h4 hF
  refine aE (aF (aB (aN (.inr rfl)) ⟨dX (rC cQ),trivial⟩ ?_))
  refine aB (aN (.inr rfl)) ⟨dX cQ,trivial⟩ ?_
  refine aC (aA (a9 (a8 ?_)))
  obtain rfl:=bV hF
  exact aL (.inl rfl) Tryz.results36 (.tmp rfl (.tmp rfl .nil)) rfl rfl
 have hF:=aX h4 hF
 refine bA (aA (aE (aF (aB (bK 0 4 rfl rfl rfl rfl (.agg tyA113)) zU1 ?_))))
 obtain⟨v5,h6,hF⟩:=aP hF
 refine aB (aJ rfl (uC h6) rfl) zU1 ?_
 refine aB (lT rfl) zU1 ?_
 refine aB (lO rfl) zU1 ?_
 refine bH ?_
 refine bH ?_
 refine aC (aA (a9 (a8 ?_)))
 obtain rfl:=bV hF
 exact aL (.inl rfl) Tryz.results36 (.tmp rfl (.tmp rfl .nil)) rfl rfl
def lJ (K:Nat) (x17:List bB):Option (List bB):=
 some x17
def d6 (K:Nat) (a0:List Rat) (a1:List aH):Nat→(List bB)→Int→Option (List bB)
 |0,_,_=>none
 |k+1,x10,x16=>bif(decide (x16<(a1.length:Int))) then((qO x10 [(⟨x16,0⟩:bB)]).bind fun x26=>(dC a1 x16).bind fun v33=>bif(decide (0<(v33.t.length:Int))) then((dC a1 x16).bind fun v36=>(mQ K v36 a0).bind fun v38=>bif(v38==0) then((qO x26 [(⟨x16,1⟩:bB),(⟨x16,2⟩:bB),(⟨x16,3⟩:bB)]).bind fun x41=>(bW (x16+1)).bind fun v48=>d6 K a0 a1 k x41 v48) else((bW (x16+1)).bind fun v50=>d6 K a0 a1 k x26 v50)) else((bW (x16+1)).bind fun v52=>d6 K a0 a1 k x26 v52)) else(some x10)
def iC (K:Nat) (a0:List Rat) (a1:List aH):Option (List bB):=
 (d6 K a0 a1 K ([]:List bB) 0).bind fun x17=>lJ K x17
theorem qX {K:Nat} {a0:List Rat} {a1:List aH} {r:List bB} (hF:iC K a0 a1=some r):Ct Tryz.prog 103 [.vc (pS cQ a0),.vc (pS aH.cod a1)] (.vc (pS bB.cod r)):=by
 unfold iC at hF
 refine bD Tryz.func103 rfl (by kernel_rfl) Tryz.ntmps103 rfl (fun w0 M0=>?_)
 refine aE (aF (aB (aN (.inr rfl)) ⟨dX bB.cod,trivial⟩ ?_))
 refine aC (aA (aE (aF (sB bB.cod 154 rfl ?_))))
 refine aC (aA (aE (aE (aF (aB (aN (.inr rfl)) ⟨bI _ _,trivial⟩ ?_)))))
 refine aC (aA (bR (cJ (fun H E=>∃(x17:List bB),∃(b18:Option Nat),∃(c19:Nat),∃(n20:Nat),lJ K x17=some r∧x17.length=n20∧H=[hO bB.cod b18 c19 154 n20 x17]∧E=[(5,.vc (pO b18 n20 c19))]) ?_ (fun Jj24=>?_))))
 ·rintro _ _ ⟨x17,b18,c19,n20,hF,q21,rfl,rfl⟩
  unfold lJ at hF
  refine aA (aE (aF (aI ?_)))
  refine bH ?_
  refine aC (aA (a9 (a8 (uB 0 [4,5,43] rfl q21 ⟨rfl,rfl,rfl,trivial⟩ rfl ?_))))
  obtain rfl:=bV hF
  exact aL (.inl rfl) Tryz.results103 (.tmp rfl .nil) rfl rfl
 obtain⟨x17',hL,hRl23⟩:=aP hF
 refine gB (fun k a w=>∃(x10:List bB),∃(x16:Int),∃(b11:Option Nat),∃(c12:Nat),∃(n13:Nat),d6 K a0 a1 k x10 x16=some x17'∧x10.length=n13∧hs _ [hO bB.cod b11 c12 154 n13 x10] [(0,.vc (pS cQ a0)),(1,.vc (pS aH.cod a1)),(5,.vc (pO b11 n13 c12)),(6,.vc (pI .i64 x16))] a w) K (fun a w ⟨_,_,_,_,_,hF,_,_⟩=>by cases hF) (fun k a w ⟨x10,x16,b11,c12,n13,hF,q14,hh⟩=>gE ?_ hh) (fun a w hh=>⟨([]:List bB),0,none,0,0,hL,rfl,bF [0] rfl (by decide) (by exact⟨rfl,rfl,rfl,rfl,trivial⟩) hh⟩)
 rw [d6.eq_2] at hF
 refine aE (aE (aF (aI ?_)))
 refine aI ?_
 refine aB (bX rfl tyS25) zU1 ?_
 refine aB (dQ rfl) zU2 ?_
 refine aC (aA (bS rfl (fun h25=>?_) (fun h25=>?_)))
 ·have hF:=aV h25 hF
  refine bA (aA (aE (bR (aE (aF (aI ?_))))))
  refine aI ?_
  refine aB (cZ (is:=[0,1]) (xs:=[.tmp 14,.const (.int .i64 (0))]) (ps:=[.vc (pI .i64 x16),.vc (pI .i64 0)]) rfl tyB154q rfl rfl ⟨trivial,trivial,trivial⟩ rfl) ⟨rfl,bI _ _,trivial⟩ ?_
  refine aB (iJ (C:=bB.cod) (xs:=[.tmp 15]) (ps:=[.va ([pI .i64 x16]++[pI .i64 0])]) (zs:=[(⟨x16,0⟩:bB)]) rfl tyS142 rfl ⟨⟨trivial,rfl⟩,trivial⟩ rfl) zU1 ?_
  obtain⟨x26,h27,hF⟩:=aP hF
  refine jD 0 rfl tyS142 rfl rfl q14 rfl rfl h27 (fun b28 c29 H30 e31=>?_)
  cases e31
  refine bH ?_
  refine aC (aA (aE (aF (aI ?_))))
  refine aI ?_
  obtain⟨v33,h34,hF⟩:=aP hF
  refine aB (cO rfl tyS25 h34) zU2 ?_
  refine aB (jR (ps:=(aH.cod.e v33)) (k:=9) rfl tyF51_6) zU1 ?_
  refine aB (cK 1 rfl rfl (.one tyO49)) zU1 ?_
  refine aB (bX rfl tyS49) zU1 ?_
  refine aB (rV rfl) ⟨rfl,bI _ _,trivial⟩ ?_
  refine aI ?_
  refine cP (fun h35=>?_) (fun h35=>?_)
  ·have hF:=aV h35 hF
   refine aY (aN (.inl rfl)) zU1 ?_
   refine aY (aN (.inl rfl)) zU1 ?_
   obtain⟨v36,h37,hF⟩:=aP hF
   refine aY (cO rfl tyS25 h37) zU2 ?_
   refine aY (cK 18 rfl rfl (.agg tyA51)) zU1 ?_
   refine aY (aN (.inl rfl)) zU1 ?_
   obtain⟨v38,h39,hF⟩:=aP hF
   refine aY (aJ rfl (vN h39) rfl) zU2 ?_
   refine aY (gR rfl) ⟨rfl,bI _ _,trivial⟩ ?_
   refine aB (bM rfl) zU2 ?_
   refine aC (aA (bS rfl (fun h40=>?_) (fun h40=>?_)))
   ·have hF:=aV h40 hF
    refine aF (aI ?_)
    refine aI ?_
    refine aB (cZ (is:=[0,1]) (xs:=[.tmp 35,.const (.int .i64 (1))]) (ps:=[.vc (pI .i64 x16),.vc (pI .i64 1)]) rfl tyB154q rfl rfl ⟨trivial,trivial,trivial⟩ rfl) ⟨rfl,bI _ _,trivial⟩ ?_
    refine aI ?_
    refine aB (cZ (is:=[0,1]) (xs:=[.tmp 37,.const (.int .i64 (2))]) (ps:=[.vc (pI .i64 x16),.vc (pI .i64 2)]) rfl tyB154q rfl rfl ⟨trivial,trivial,trivial⟩ rfl) ⟨rfl,bI _ _,trivial⟩ ?_
    refine aI ?_
    refine aB (cZ (is:=[0,1]) (xs:=[.tmp 39,.const (.int .i64 (3))]) (ps:=[.vc (pI .i64 x16),.vc (pI .i64 3)]) rfl tyB154q rfl rfl ⟨trivial,trivial,trivial⟩ rfl) ⟨rfl,bI _ _,trivial⟩ ?_
    refine aB (iJ (C:=bB.cod) (xs:=[.tmp 36,.tmp 38,.tmp 40]) (ps:=[.va ([pI .i64 x16]++[pI .i64 1]),.va ([pI .i64 x16]++[pI .i64 2]),.va ([pI .i64 x16]++[pI .i64 3])]) (zs:=[(⟨x16,1⟩:bB),(⟨x16,2⟩:bB),(⟨x16,3⟩:bB)]) rfl tyS142 rfl ⟨⟨trivial,rfl⟩,⟨trivial,rfl⟩,⟨trivial,rfl⟩,trivial⟩ rfl) ⟨rfl,rfl,rfl,trivial⟩ ?_
    obtain⟨x41,h42,hF⟩:=aP hF
    refine jD 0 rfl tyS142 rfl rfl (cL h27 q14) rfl rfl h42 (fun b43 c44 H45 e46=>?_)
    cases e46
    refine bH ?_
    refine aC (bJ (aA (aF (aI ?_))))
    obtain⟨v48,h49,hF⟩:=aP hF
    refine aB (bO rfl h49) ⟨rfl,bI _ _,trivial⟩ ?_
    refine bH ?_
    refine aC ?_
    exact bL (fun a w hh=>⟨x41,v48,b43,c44,((n13+[(⟨x16,0⟩:bB)].length)+[(⟨x16,1⟩:bB),(⟨x16,2⟩:bB),(⟨x16,3⟩:bB)].length),hF,(cL h42 (cL h27 q14)),bF [0] rfl (by decide) (by exact⟨rfl,rfl,rfl,rfl,trivial⟩) hh⟩)
   have hF:=aX h40 hF
   refine bA (bJ (aA (aF (aI ?_))))
   obtain⟨v50,h51,hF⟩:=aP hF
   refine aB (bO rfl h51) ⟨rfl,bI _ _,trivial⟩ ?_
   refine bH ?_
   refine aC ?_
   exact bL (fun a w hh=>⟨x26,v50,b28,c29,(n13+[(⟨x16,0⟩:bB)].length),hF,(cL h27 q14),bF [0] rfl (by decide) (by exact⟨rfl,rfl,rfl,rfl,trivial⟩) hh⟩)
  have hF:=aX h35 hF
  refine aM ?_
  refine aM ?_
  refine aM ?_
  refine aM ?_
  refine aM ?_
  refine aM ?_
  refine aM ?_
  refine aB (bN rfl) ⟨rfl,cW _,trivial⟩ ?_
  refine aC (aA (sT rfl ?_))
  refine bA (bJ (aA (aF (aI ?_))))
  obtain⟨v52,h53,hF⟩:=aP hF
  refine aB (bO rfl h53) ⟨rfl,bI _ _,trivial⟩ ?_
  refine bH ?_
  refine aC ?_
  exact bL (fun a w hh=>⟨x26,v52,b28,c29,(n13+[(⟨x16,0⟩:bB)].length),hF,(cL h27 q14),bF [0] rfl (by decide) (by exact⟨rfl,rfl,rfl,rfl,trivial⟩) hh⟩)
 have hF:=aX h25 hF
 refine dI ?_
 obtain rfl:=bV hF
 exact bU Jj24 ⟨x10,b11,c12,n13,hRl23,q14,rfl,rfl⟩ [0] rfl zU1
def nU (K:Nat) (a0:aH) (a1:List Rat) (a2:List Rat):Option aO:=
 (mQ K a0 a1).bind fun v3=>bif((a0.t.length:Int)==0) then((dC a2 0).bind fun v6=>some (⟨v6,0⟩:aO)) else(bif(v3 != 0) then((dC a2 0).bind fun v11=>(bW (-v3)).bind fun v13=>(y5 v13 1).bind fun v15=>(dC a2 0).bind fun v17=>(yR a0.mu v17).bind fun v19=>(yR v15 v19).bind fun v21=>some (⟨v11,v21⟩:aO)) else((dC a2 0).bind fun v25=>(dC a2 1).bind fun v27=>(dC a2 2).bind fun v29=>(aDo v27 v29).bind fun v31=>some (⟨v25,v31⟩:aO)))
theorem zX {K:Nat} {a0:aH} {a1:List Rat} {a2:List Rat} {r:aO} (hF:nU K a0 a1 a2=some r):Ct Tryz.prog 115 [.va (aH.enc a0),.vc (pS cQ a1),.vc (pS cQ a2)] (.va (aO.enc r)):=by
 unfold nU at hF
 refine bD Tryz.func115 rfl (by kernel_rfl) Tryz.ntmps115 rfl (fun w0 M0=>?_)
 refine aE (aF (cY rfl rfl trivial (fun b1=>?_)))
 refine bP rfl tyZ58q (fun b2=>?_)
 refine aC (aA (aE (aF (aB (bK 1 18 rfl rfl rfl rfl (.agg tyA51)) zU1 ?_))))
 refine aI ?_
 obtain⟨v3,h4,hF⟩:=aP hF
 refine aB (aJ rfl (vN h4) rfl) zU2 ?_
 refine bH ?_
 refine aC (aA (aE (aE (aF (aB (bE (off:=0) (k:=9) rfl tyF51_6) zU1 ?_)))))
 refine aB (bK 1 1 rfl rfl rfl rfl (.one tyO49)) zU1 ?_
 refine aB (bX rfl tyS49) zU1 ?_
 refine aB (gR rfl) ⟨rfl,bI _ _,trivial⟩ ?_
 refine aC (aA (bS rfl (fun h5=>?_) (fun h5=>?_)))
 ·have hF:=aV h5 hF
  refine aE (aF (aI ?_))
  obtain⟨v6,h7,hF⟩:=aP hF
  refine aB (cO rfl tyS24 h7) ⟨rfl,bI _ _,trivial⟩ ?_
  refine aB (cK 4 rfl rfl (.agg tyA44)) zU1 ?_
  refine aB (cZ (is:=[0]) (xs:=[.tmp 17]) (ps:=[.va (eQ v6)]) rfl tyB58q rfl rfl ⟨trivial,trivial⟩ rfl) zU1 ?_
  refine bG (dO 0 rfl rfl rfl tyA58.s) zU2 ?_
  refine aC (aA (a9 (a8 ?_)))
  obtain rfl:=bV hF
  exact aL (.inl rfl) Tryz.results115 (bQ 0 8 rfl rfl rfl rfl (.agg tyA58) .nil) rfl rfl
 have hF:=aX h5 hF
 refine bA (aA (aE (aE (aF (aI ?_)))))
 refine aB (s7 rfl) ⟨rfl,bI _ _,trivial⟩ ?_
 refine aC (aA (bS rfl (fun h8=>?_) (fun h8=>?_)))
 ·have hF:=aV h8 hF
  refine aE ?_
  obtain⟨v11,h12,hF⟩:=aP hF
  obtain⟨v13,h14,hF⟩:=aP hF
  obtain⟨v15,h16,hF⟩:=aP hF
  obtain⟨v17,h18,hF⟩:=aP hF
  obtain⟨v19,h20,hF⟩:=aP hF
  obtain⟨v21,h22,hF⟩:=aP hF
  refine bT [0,1,3,0,8,24,0,64,0,256,768,2040,4088,8191,16383] 14 1 [.v (.vc (pS cQ a2)),.v (.vc (pM (cQ.e v11))),.v (.va (eQ v11)),.v (.vc (pI .i64 v3)),.v (.vc (pI .i64 v13)),.v (.va (eQ v15)),.v (.vc (pP (some b1) 10)),.v (.va (eQ a0.mu)),.v (.vc (pS cQ a2)),.v (.vc (pM (cQ.e v17))),.v (.va (eQ v17)),.v (.va (eQ v19)),.v (.va (eQ v21)),.v (.va ((eQ v11)++(eQ v21)))] aU ⟨d0 (aN (.inl rfl)) zU1,d0 (cO rfl tyS24 h12) ⟨rfl,bI _ _,trivial⟩,d0 (cK 4 rfl rfl (.agg tyA44)) zU1,d0 (aN (.inl rfl)) zU1,d0 (aFd rfl h14) zU1,d0 (aJ rfl (bY h16) rfl) ⟨rfl,bI _ _,trivial⟩,d0 (bE (off:=0) (k:=10) rfl tyF51_7) zU1,d0 (bK 1 4 rfl rfl rfl rfl (.agg tyA44)) zU1,d0 (aN (.inl rfl)) zU1,d0 (cO rfl tyS24 h18) ⟨rfl,bI _ _,trivial⟩,d0 (cK 4 rfl rfl (.agg tyA44)) zU1,d0 (aJ rfl (mP h20) rfl) zU2,d0 (aJ rfl (mP h22) rfl) zU2,d0 (cZ (is:=[0,1]) (xs:=[.tmp 23,.tmp 33]) (ps:=[.va (eQ v11),.va (eQ v21)]) rfl tyB58q rfl rfl ⟨trivial,trivial,trivial⟩ rfl) zU2,trivial⟩ (fun bs10 G9=>?_)
  refine bG (dO 0 rfl rfl rfl tyA58.s) zU2 ?_
  refine aC (aA (a9 (a8 ?_)))
  obtain rfl:=bV hF
  exact aL (.inl rfl) Tryz.results115 (bQ 0 8 rfl rfl rfl rfl (.agg tyA58) .nil) rfl rfl
 have hF:=aX h8 hF
 refine bA (aA (aE ?_))
 obtain⟨v25,h26,hF⟩:=aP hF
 obtain⟨v27,h28,hF⟩:=aP hF
 obtain⟨v29,h30,hF⟩:=aP hF
 obtain⟨v31,h32,hF⟩:=aP hF
 refine bT [0,1,3,0,8,24,0,64,192,504,1023,2047] 11 1 [.v (.vc (pS cQ a2)),.v (.vc (pM (cQ.e v25))),.v (.va (eQ v25)),.v (.vc (pS cQ a2)),.v (.vc (pM (cQ.e v27))),.v (.va (eQ v27)),.v (.vc (pS cQ a2)),.v (.vc (pM (cQ.e v29))),.v (.va (eQ v29)),.v (.va (eQ v31)),.v (.va ((eQ v25)++(eQ v31)))] aU ⟨d0 (aN (.inl rfl)) zU1,d0 (cO rfl tyS24 h26) ⟨rfl,bI _ _,trivial⟩,d0 (cK 4 rfl rfl (.agg tyA44)) zU1,d0 (aN (.inl rfl)) zU1,d0 (cO rfl tyS24 h28) ⟨rfl,bI _ _,trivial⟩,d0 (cK 4 rfl rfl (.agg tyA44)) zU1,d0 (aN (.inl rfl)) zU1,d0 (cO rfl tyS24 h30) ⟨rfl,bI _ _,trivial⟩,d0 (cK 4 rfl rfl (.agg tyA44)) zU1,d0 (aJ rfl (rF h32) rfl) zU2,d0 (cZ (is:=[0,1]) (xs:=[.tmp 37,.tmp 44]) (ps:=[.va (eQ v25),.va (eQ v31)]) rfl tyB58q rfl rfl ⟨trivial,trivial,trivial⟩ rfl) zU2,trivial⟩ (fun bs24 G23=>?_)
 refine bG (dO 0 rfl rfl rfl tyA58.s) zU2 ?_
 refine aC (aA (a9 (a8 ?_)))
 obtain rfl:=bV hF
 exact aL (.inl rfl) Tryz.results115 (bQ 0 8 rfl rfl rfl rfl (.agg tyA58) .nil) rfl rfl
def mU (K:Nat) (x19:List aO):Option (List aO):=
 some x19
def mZ (K:Nat) (a0:List Rat) (a1:List aH) (x12:List aO) (x18:Int) (recl25:(List aO)→Int→Option (List aO)) (x47:List Rat):Option (List aO):=
 (dC a1 x18).bind fun v55=>(nU K v55 a0 x47).bind fun v57=>(qO x12 [v57]).bind fun x59=>(bW (x18+1)).bind fun v66=>recl25 x59 v66
def fC (K:Nat) (a2:List Rat) (v3:List bB) (x18:Int):Nat→(List Rat)→Int→Option (List Rat)
 |0,_,_=>none
 |k+1,x40,x46=>bif(decide (x46<(v3.length:Int))) then((dC v3 x46).bind fun v69=>bif(v69.row==x18) then((dC v3 x46).bind fun v74=>(dC a2 x46).bind fun v76=>(dC x40 v74.kind).bind fun v78=>(qC x40 v74.kind v76).bind fun x80=>(bW (x46+1)).bind fun v83=>fC K a2 v3 x18 k x80 v83) else((bW (x46+1)).bind fun v85=>fC K a2 v3 x18 k x40 v85)) else(some x40)
def fB (K:Nat) (a0:List Rat) (a1:List aH) (a2:List Rat) (v3:List bB):Nat→(List aO)→Int→Option (List aO)
 |0,_,_=>none
 |k+1,x12,x18=>bif(decide (x18<(a1.length:Int))) then((vK 4 0).bind fun x28=>(fC K a2 v3 x18 K x28 0).bind fun x47=>mZ K a0 a1 x12 x18 (fB K a0 a1 a2 v3 k) x47) else(some x12)
def nD (K:Nat) (a0:List Rat) (a1:List aH) (a2:List Rat):Option (List aO):=
 (iC K a0 a1).bind fun v3=>(fB K a0 a1 a2 v3 K ([]:List aO) 0).bind fun x19=>mU K x19
theorem zC {K:Nat} {a0:List Rat} {a1:List aH} {a2:List Rat} {r:List aO} (hF:nD K a0 a1 a2=some r):Ct Tryz.prog 42 [.vc (pS cQ a0),.vc (pS aH.cod a1),.vc (pS cQ a2)] (.vc (pS aO.cod r)):=by
 unfold nD at hF
 refine bD Tryz.func42 rfl (by kernel_rfl) Tryz.ntmps42 rfl (fun w0 M0=>?_)
 refine aE (aF (aB (aN (.inr rfl)) ⟨dX aO.cod,trivial⟩ ?_))
 refine aC (aA (aE (aF (sB aO.cod 58 rfl ?_))))
 refine aC (aA (aE (aF (aI ?_))))
 refine aI ?_
 obtain⟨v3,h4,hF⟩:=aP hF
 refine aB (aJ rfl (qX h4) rfl) zU2 ?_
 refine bH ?_
 refine aC (aA (aE (aE (aF (aB (aN (.inr rfl)) ⟨bI _ _,trivial⟩ ?_)))))
 refine aC (aA (bR (cJ (fun H E=>∃(x19:List aO),∃(b20:Option Nat),∃(c21:Nat),∃(n22:Nat),mU K x19=some r∧x19.length=n22∧H=[hO aO.cod b20 c21 58 n22 x19]∧E=[(7,.vc (pO b20 n22 c21))]) ?_ (fun Jj26=>?_))))
 ·rintro _ _ ⟨x19,b20,c21,n22,hF,q23,rfl,rfl⟩
  unfold mU at hF
  refine aA (aE (aF (aI ?_)))
  refine bH ?_
  refine aC (aA (a9 (a8 (uB 0 [6,7,56] rfl q23 ⟨rfl,rfl,rfl,trivial⟩ rfl ?_))))
  obtain rfl:=bV hF
  exact aL (.inl rfl) Tryz.results42 (.tmp rfl .nil) rfl rfl
 obtain⟨x19',hL,hRl25⟩:=aP hF
 refine gB (fun k a w=>∃(x12:List aO),∃(x18:Int),∃(b13:Option Nat),∃(c14:Nat),∃(n15:Nat),fB K a0 a1 a2 v3 k x12 x18=some x19'∧x12.length=n15∧hs _ [hO aO.cod b13 c14 58 n15 x12] [(0,.vc (pS cQ a0)),(1,.vc (pS aH.cod a1)),(2,.vc (pS cQ a2)),(7,.vc (pO b13 n15 c14)),(8,.vc (pS bB.cod v3)),(9,.vc (pI .i64 x18))] a w) K (fun a w ⟨_,_,_,_,_,hF,_,_⟩=>by cases hF) (fun k a w ⟨x12,x18,b13,c14,n15,hF,q16,hh⟩=>gE ?_ hh) (fun a w hh=>⟨([]:List aO),0,none,0,0,hL,rfl,bF [0] rfl (by decide) (by exact⟨rfl,rfl,rfl,rfl,rfl,rfl,trivial⟩) hh⟩)
 rw [fB.eq_2] at hF
 refine aE (aE (aF (aI ?_)))
 refine aI ?_
 refine aB (bX rfl tyS25) zU1 ?_
 refine aB (dQ rfl) zU2 ?_
 refine aC (aA (bS rfl (fun h27=>?_) (fun h27=>?_)))
 ·have hF:=aV h27 hF
  refine bA (aA (aE (bR (aE (aF ?_)))))
  obtain⟨x28,h29,hF⟩:=aP hF
  refine r6 (C:=cQ) rfl tyS24 rfl tyZ44q (bI _ _) h29 (fun b30=>?_)
  refine bH ?_
  refine aC (aA (aE (aE (aF (aB (aN (.inr rfl)) ⟨bI _ _,trivial⟩ ?_)))))
  refine aC (aA (bR (cJ (fun H E=>∃(x47:List Rat),mZ K a0 a1 x12 x18 (fB K a0 a1 a2 v3 k) x47=some x19'∧x47.length=x28.length∧H=[hO cQ b30 x28.length 44 x28.length x47,hO aO.cod b13 c14 58 n15 x12]∧E=[(0,.vc (pS cQ a0)),(1,.vc (pS aH.cod a1)),(2,.vc (pS cQ a2)),(7,.vc (pO b13 n15 c14)),(8,.vc (pS bB.cod v3)),(9,.vc (pI .i64 x18)),(10,.vc (pO b30 x28.length x28.length))]) ?_ (fun Jj54=>?_))))
  ·rintro _ _ ⟨x47,hF,q51,rfl,rfl⟩
   unfold mZ at hF
   refine aA (aF (aI ?_))
   refine aI ?_
   refine aI ?_
   obtain⟨v55,h56,hF⟩:=aP hF
   refine aB (cO rfl tyS25 h56) zU2 ?_
   refine aB (cK 18 rfl rfl (.agg tyA51)) zU1 ?_
   refine aI ?_
   refine aI ?_
   refine wI 0 [10,52] rfl q51 zU2 rfl ?_
   obtain⟨v57,h58,hF⟩:=aP hF
   refine aB (aJ rfl (zX h58) rfl) ⟨rfl,rfl,rfl,trivial⟩ ?_
   refine aB (iJ (C:=aO.cod) (xs:=[.tmp 53]) (ps:=[.va (aO.enc v57)]) (zs:=[v57]) rfl tyS29 rfl ⟨⟨trivial,rfl⟩,trivial⟩ rfl) zU1 ?_
   obtain⟨x59,h60,hF⟩:=aP hF
   refine jD 0 rfl tyS29 rfl rfl q16 rfl rfl h60 (fun b61 c62 H63 e64=>?_)
   cases e64
   refine bH ?_
   refine aC (bJ (aA (aF (aI ?_))))
   obtain⟨v66,h67,hF⟩:=aP hF
   refine aB (bO rfl h67) ⟨rfl,bI _ _,trivial⟩ ?_
   refine bH ?_
   refine aC ?_
   exact bL (fun a w hh=>⟨x59,v66,b61,c62,(n15+[v57].length),hF,(cL h60 q16),bF [0] rfl (by decide) (by exact⟨rfl,rfl,rfl,rfl,rfl,rfl,trivial⟩) hh⟩)
  obtain⟨x47',hL,hRl53⟩:=aP hF
  refine gB (fun k a w=>∃(x40:List Rat),∃(x46:Int),fC K a2 v3 x18 k x40 x46=some x47'∧x40.length=x28.length∧hs _ [hO cQ b30 x28.length 44 x28.length x40,hO aO.cod b13 c14 58 n15 x12] [(0,.vc (pS cQ a0)),(1,.vc (pS aH.cod a1)),(2,.vc (pS cQ a2)),(7,.vc (pO b13 n15 c14)),(8,.vc (pS bB.cod v3)),(9,.vc (pI .i64 x18)),(10,.vc (pO b30 x28.length x28.length)),(11,.vc (pI .i64 x46))] a w) K (fun a w ⟨_,_,hF,_,_⟩=>by cases hF) (fun k a w ⟨x40,x46,hF,q44,hh⟩=>gE ?_ hh) (fun a w hh=>⟨x28,0,hL,rfl,bF [0,1] rfl (by decide) (by exact⟨rfl,rfl,rfl,rfl,rfl,rfl,rfl,rfl,trivial⟩) hh⟩)
  rw [fC.eq_2] at hF
  refine aE (aE (aF (aI ?_)))
  refine aI ?_
  refine aB (bX rfl tyS142) zU1 ?_
  refine aB (dQ rfl) zU2 ?_
  refine aC (aA (bS rfl (fun h68=>?_) (fun h68=>?_)))
  ·have hF:=aV h68 hF
   refine bA (aA (aE (bR (aE (aF (aI ?_))))))
   refine aI ?_
   obtain⟨v69,h70,hF⟩:=aP hF
   refine aB (cO rfl tyS142 h70) zU2 ?_
   refine aB (jR (ps:=(bB.cod.e v69)) (k:=0) rfl tyF154_0) zU1 ?_
   refine aB (cK 1 rfl rfl (.one tyO3)) zU1 ?_
   refine aI ?_
   refine aB (gR rfl) zU2 ?_
   refine aC (aA (bS rfl (fun h71=>?_) (fun h71=>?_)))
   ·have hF:=aV h71 hF
    obtain⟨v74,h75,hF⟩:=aP hF
    obtain⟨v76,h77,hF⟩:=aP hF
    obtain⟨v78,h79,hF⟩:=aP hF
    refine bT [0,0,0,6,14,30,0,0,192,448,1023,2047] 11 1 [.v (.vc (pO b30 x28.length x28.length)),.v (.vc (pS bB.cod v3)),.v (.vc (pI .i64 x46)),.v (.vc (pM (bB.cod.e v74))),.v (.vc (pM ((bB.cod.e v74).drop 1))),.v (.vc (pI .i64 v74.kind)),.v (.vc (pS cQ a2)),.v (.vc (pI .i64 x46)),.v (.vc (pM (cQ.e v76))),.v (.va (eQ v76)),.v (.vc (pE b30 v74.kind cQ.n 0))] aU ⟨d0 (aN (.inl rfl)) zU1,d0 (aN (.inl rfl)) zU1,d0 (aN (.inl rfl)) zU1,d0 (cO rfl tyS142 h75) zU2,d0 (jR (ps:=(bB.cod.e v74)) (k:=1) rfl tyF154_1) zU1,d0 (cK 1 rfl rfl (.one tyO3)) zU1,d0 (aN (.inl rfl)) zU1,d0 (aN (.inl rfl)) zU1,d0 (cO rfl tyS24 h77) zU2,d0 (cK 4 rfl rfl (.agg tyA44)) zU1,d0 (cS (C:=cQ) 0 rfl tyS24 rfl q44 (aS h79).1 (aS h79).2.1) zU2,trivial⟩ (fun bs73 G72=>?_)
    obtain⟨x80,h81,hF⟩:=aP hF
    refine bG (fW 0 rfl rfl h79 h81 tyA44.s) zU2 ?_
    refine aC (bJ (aA (aF (aI ?_))))
    obtain⟨v83,h84,hF⟩:=aP hF
    refine aB (bO rfl h84) ⟨rfl,bI _ _,trivial⟩ ?_
    refine bH ?_
    refine aC ?_
    exact bL (fun a w hh=>⟨x80,v83,hF,(cE h81 q44),bF [0,1] rfl (by decide) (by exact⟨rfl,rfl,rfl,rfl,rfl,rfl,rfl,rfl,trivial⟩) hh⟩)
   have hF:=aX h71 hF
   refine bA (bJ (aA (aF (aI ?_))))
   obtain⟨v85,h86,hF⟩:=aP hF
   refine aB (bO rfl h86) ⟨rfl,bI _ _,trivial⟩ ?_
   refine bH ?_
   refine aC ?_
   exact bL (fun a w hh=>⟨x40,v85,hF,q44,bF [0,1] rfl (by decide) (by exact⟨rfl,rfl,rfl,rfl,rfl,rfl,rfl,rfl,trivial⟩) hh⟩)
  have hF:=aX h68 hF
  refine dI ?_
  obtain rfl:=bV hF
  exact bU Jj54 ⟨x40,hRl53,q44,rfl,rfl⟩ [0,1] rfl ⟨rfl,rfl,rfl,rfl,rfl,rfl,rfl,trivial⟩
 have hF:=aX h27 hF
 refine dI ?_
 obtain rfl:=bV hF
 exact bU Jj26 ⟨x12,b13,c14,n15,hRl25,q16,rfl,rfl⟩ [0] rfl zU1
def m9 (K:Nat) (x23:List Rat):Option (List Rat):=
 some x23
def dY (K:Nat) (a3:List aH) (a4:List Rat) (v3:List Rat) (v5:List bB):Nat→(List Rat)→Int→Option (List Rat)
 |0,_,_=>none
 |k+1,x16,x22=>bif(decide (x22<(v5.length:Int))) then((dC v5 x22).bind fun v32=>(dC a3 v32.row).bind fun v34=>(dC v5 x22).bind fun v37=>bif(v37.kind==0) then((gH K v34.j v3).bind fun v40=>(qO x16 [v40]).bind fun x42=>(bW (x22+1)).bind fun v49=>dY K a3 a4 v3 v5 k x42 v49) else(bif(v37.kind==1) then((gH K v34.t v3).bind fun v54=>(bW (x22+2)).bind fun v56=>(dC a4 v56).bind fun v58=>(aAY v54 v58).bind fun v60=>(qO x16 [v60]).bind fun x62=>(bW (x22+1)).bind fun v69=>dY K a3 a4 v3 v5 k x62 v69) else(bif(v37.kind==2) then((bW (x22+1)).bind fun v74=>(dC a4 v74).bind fun v76=>(gH K v34.t v3).bind fun v78=>(aDo v76 v78).bind fun v80=>(qO x16 [v80]).bind fun x82=>(bW (x22+1)).bind fun v89=>dY K a3 a4 v3 v5 k x82 v89) else((bW (x22-3)).bind fun v93=>(dC a4 v93).bind fun v95=>(yR v34.mu v95).bind fun v97=>(bW (x22-2)).bind fun v99=>(dC a4 v99).bind fun v101=>(bW (x22-1)).bind fun v103=>(dC a4 v103).bind fun v105=>(aAY v101 v105).bind fun v107=>(aDo v97 v107).bind fun v109=>(qO x16 [v109]).bind fun x111=>(bW (x22+1)).bind fun v118=>dY K a3 a4 v3 v5 k x111 v118)))) else(some x16)
def jK (K:Nat) (a0:List aT) (a1:List Rat) (a2:List Rat) (a3:List aH) (a4:List Rat):Option (List Rat):=
 (nD K a2 a3 a4).bind fun v1=>(iX K a0 a1 a3 v1).bind fun v3=>(iC K a2 a3).bind fun v5=>(dY K a3 a4 v3 v5 K ([]:List Rat) 0).bind fun x23=>m9 K x23
theorem uX {K:Nat} {a0:List aT} {a1:List Rat} {a2:List Rat} {a3:List aH} {a4:List Rat} {r:List Rat} (hF:jK K a0 a1 a2 a3 a4=some r):Ct Tryz.prog 104 [.vc (pS aT.cod a0),.vc (pS cQ a1),.vc (pS cQ a2),.vc (pS aH.cod a3),.vc (pS cQ a4)] (.vc (pS cQ r)):=by
 unfold jK at hF
 refine bD Tryz.func104 rfl (by kernel_rfl) Tryz.ntmps104 rfl (fun w0 M0=>?_)
 refine aE (aF (aB (aN (.inr rfl)) ⟨dX cQ,trivial⟩ ?_))
 refine aC (aA (aE (aF (aI ?_))))
 refine aI ?_
 refine aI ?_
 refine aI ?_
 refine aI ?_
 refine aI ?_
 obtain⟨v1,h2,hF⟩:=aP hF
 refine aB (aJ rfl (zC h2) rfl) ⟨rfl,rfl,rfl,trivial⟩ ?_
 obtain⟨v3,h4,hF⟩:=aP hF
 refine aB (aJ rfl (vJ h4) rfl) ⟨rfl,rfl,rfl,rfl,trivial⟩ ?_
 refine bH ?_
 refine aC (aA (aE (aF (aI ?_))))
 refine aI ?_
 obtain⟨v5,h6,hF⟩:=aP hF
 refine aB (aJ rfl (qX h6) rfl) zU2 ?_
 refine bH ?_
 refine aC (aA (aE (aF (sB cQ 44 rfl ?_))))
 refine aC (aA (aE (aE (aF (aB (aN (.inr rfl)) ⟨bI _ _,trivial⟩ ?_)))))
 refine aC (aA (bR (cJ (fun H E=>∃(x23:List Rat),∃(b24:Option Nat),∃(c25:Nat),∃(n26:Nat),m9 K x23=some r∧x23.length=n26∧H=[hO cQ b24 c25 44 n26 x23]∧E=[(13,.vc (pO b24 n26 c25))]) ?_ (fun Jj30=>?_))))
 ·rintro _ _ ⟨x23,b24,c25,n26,hF,q27,rfl,rfl⟩
  unfold m9 at hF
  refine aA (aE (aF (aI ?_)))
  refine bH ?_
  refine aC (aA (a9 (a8 (uB 0 [10,13,108] rfl q27 ⟨rfl,rfl,rfl,trivial⟩ rfl ?_))))
  obtain rfl:=bV hF
  exact aL (.inl rfl) Tryz.results104 (.tmp rfl .nil) rfl rfl
 obtain⟨x23',hL,hRl29⟩:=aP hF
 refine gB (fun k a w=>∃(x16:List Rat),∃(x22:Int),∃(b17:Option Nat),∃(c18:Nat),∃(n19:Nat),dY K a3 a4 v3 v5 k x16 x22=some x23'∧x16.length=n19∧hs _ [hO cQ b17 c18 44 n19 x16] [(3,.vc (pS aH.cod a3)),(4,.vc (pS cQ a4)),(11,.vc (pS cQ v3)),(12,.vc (pS bB.cod v5)),(13,.vc (pO b17 n19 c18)),(14,.vc (pI .i64 x22))] a w) K (fun a w ⟨_,_,_,_,_,hF,_,_⟩=>by cases hF) (fun k a w ⟨x16,x22,b17,c18,n19,hF,q20,hh⟩=>gE ?_ hh) (fun a w hh=>⟨([]:List Rat),0,none,0,0,hL,rfl,bF [0] rfl (by decide) (by exact⟨rfl,rfl,rfl,rfl,rfl,rfl,trivial⟩) hh⟩)
 rw [dY.eq_2] at hF
 refine aE (aE (aF (aI ?_)))
 refine aI ?_
 refine aB (bX rfl tyS142) zU1 ?_
 refine aB (dQ rfl) zU2 ?_
 refine aC (aA (bS rfl (fun h31=>?_) (fun h31=>?_)))
 ·have hF:=aV h31 hF
  refine bA (aA (aE (bR (aE (aF (aI ?_))))))
  refine aI ?_
  refine aI ?_
  obtain⟨v32,h33,hF⟩:=aP hF
  refine aB (cO rfl tyS142 h33) zU2 ?_
  refine aB (jR (ps:=(bB.cod.e v32)) (k:=0) rfl tyF154_0) zU1 ?_
  refine aB (cK 1 rfl rfl (.one tyO3)) zU1 ?_
  obtain⟨v34,h35,hF⟩:=aP hF
  refine aB (cO rfl tyS25 h35) zU2 ?_
  refine aB (cK 18 rfl rfl (.agg tyA51)) zU1 ?_
  refine bP rfl tyZ51q (fun b36=>?_)
  refine bG (dO 0 rfl rfl rfl tyA51.s) zU2 ?_
  refine aC (aA (aE (aF (aI ?_))))
  refine aI ?_
  obtain⟨v37,h38,hF⟩:=aP hF
  refine aB (cO rfl tyS142 h38) zU2 ?_
  refine aB (jR (ps:=(bB.cod.e v37)) (k:=1) rfl tyF154_1) zU1 ?_
  refine aB (cK 1 rfl rfl (.one tyO3)) zU1 ?_
  refine aC (aA (bR (aE (aF (aB (gR rfl) ⟨rfl,bI _ _,trivial⟩ ?_)))))
  refine bH ?_
  refine aC (aA (bS rfl (fun h39=>?_) (fun h39=>?_)))
  ·have hF:=aV h39 hF
   refine aF (aI ?_)
   refine aB (bE (off:=0) (k:=8) rfl tyF51_5) zU1 ?_
   refine aB (bK 0 1 rfl rfl rfl rfl (.one tyO49)) zU1 ?_
   refine aI ?_
   obtain⟨v40,h41,hF⟩:=aP hF
   refine aB (aJ rfl (nW h41) rfl) zU2 ?_
   refine aB (iJ (C:=cQ) (xs:=[.tmp 75]) (ps:=[.va (eQ v40)]) (zs:=[v40]) rfl tyS24 rfl ⟨⟨trivial,rfl⟩,trivial⟩ rfl) zU1 ?_
   obtain⟨x42,h43,hF⟩:=aP hF
   refine jD 1 rfl tyS24 rfl rfl q20 rfl rfl h43 (fun b44 c45 H46 e47=>?_)
   cases e47
   refine bH ?_
   refine aC (bJ (bJ (aA (aF (aI ?_)))))
   obtain⟨v49,h50,hF⟩:=aP hF
   refine aB (bO rfl h50) ⟨rfl,bI _ _,trivial⟩ ?_
   refine bH ?_
   refine aC ?_
   exact bL (fun a w hh=>⟨x42,v49,b44,c45,(n19+[v40].length),hF,(cL h43 q20),bF [1] rfl (by decide) (by exact⟨rfl,rfl,rfl,rfl,rfl,rfl,trivial⟩) hh⟩)
  have hF:=aX h39 hF
  refine aE (aF (aB (gR rfl) ⟨rfl,bI _ _,trivial⟩ ?_))
  refine bH ?_
  refine aC (aA (bS rfl (fun h51=>?_) (fun h51=>?_)))
  ·have hF:=aV h51 hF
   obtain⟨v54,h55,hF⟩:=aP hF
   obtain⟨v56,h57,hF⟩:=aP hF
   obtain⟨v58,h59,hF⟩:=aP hF
   obtain⟨v60,h61,hF⟩:=aP hF
   refine bT [0,0,2,0,14,0,0,64,224,480,1022,2046,4095,8191] 12 2 [.v (.vc (pO b17 n19 c18)),.v (.vc (pP (some b36) 9)),.v (.vc (pS aG.cod v34.t)),.v (.vc (pS cQ v3)),.v (.va (eQ v54)),.v (.vc (pS cQ a4)),.v (.vc (pI .i64 x22)),.v (.vc (pI .i64 v56)),.v (.vc (pM (cQ.e v58))),.v (.va (eQ v58)),.v (.va (eQ v60)),.v (.vc (pS cQ [v60]))] aU ⟨d0 (aN (.inl rfl)) zU1,d0 (bE (off:=0) (k:=9) rfl tyF51_6) zU1,d0 (bK 0 1 rfl rfl rfl rfl (.one tyO49)) zU1,d0 (aN (.inl rfl)) zU1,d0 (aJ rfl (nW h55) rfl) zU2,d0 (aN (.inl rfl)) zU1,d0 (aN (.inl rfl)) zU1,d0 (bO rfl h57) ⟨rfl,bI _ _,trivial⟩,d0 (cO rfl tyS24 h59) zU2,d0 (cK 4 rfl rfl (.agg tyA44)) zU1,d0 (aJ rfl (oZ h61) rfl) zU2,d0 (iJ (C:=cQ) (xs:=[.tmp 90]) (ps:=[.va (eQ v60)]) (zs:=[v60]) rfl tyS24 rfl ⟨⟨trivial,rfl⟩,trivial⟩ rfl) zU1,trivial⟩ (fun bs53 G52=>?_)
   obtain⟨x62,h63,hF⟩:=aP hF
   refine jD 1 rfl tyS24 rfl rfl q20 rfl rfl h63 (fun b64 c65 H66 e67=>?_)
   cases e67
   refine bH ?_
   refine aC (bJ (bJ (aA (aF (aI ?_)))))
   obtain⟨v69,h70,hF⟩:=aP hF
   refine aB (bO rfl h70) ⟨rfl,bI _ _,trivial⟩ ?_
   refine bH ?_
   refine aC ?_
   exact bL (fun a w hh=>⟨x62,v69,b64,c65,(n19+[v60].length),hF,(cL h63 q20),bF [1] rfl (by decide) (by exact⟨rfl,rfl,rfl,rfl,rfl,rfl,trivial⟩) hh⟩)
  have hF:=aX h51 hF
  refine aE (aF (aB (gR rfl) ⟨rfl,bI _ _,trivial⟩ ?_))
  refine bH ?_
  refine aC (aA (bS rfl (fun h71=>?_) (fun h71=>?_)))
  ·have hF:=aV h71 hF
   obtain⟨v74,h75,hF⟩:=aP hF
   obtain⟨v76,h77,hF⟩:=aP hF
   obtain⟨v78,h79,hF⟩:=aP hF
   obtain⟨v80,h81,hF⟩:=aP hF
   refine bT [0,0,0,4,14,30,0,64,0,448,1022,2046,4095,8191] 12 2 [.v (.vc (pO b17 n19 c18)),.v (.vc (pS cQ a4)),.v (.vc (pI .i64 x22)),.v (.vc (pI .i64 v74)),.v (.vc (pM (cQ.e v76))),.v (.va (eQ v76)),.v (.vc (pP (some b36) 9)),.v (.vc (pS aG.cod v34.t)),.v (.vc (pS cQ v3)),.v (.va (eQ v78)),.v (.va (eQ v80)),.v (.vc (pS cQ [v80]))] aU ⟨d0 (aN (.inl rfl)) zU1,d0 (aN (.inl rfl)) zU1,d0 (aN (.inl rfl)) zU1,d0 (bO rfl h75) ⟨rfl,bI _ _,trivial⟩,d0 (cO rfl tyS24 h77) zU2,d0 (cK 4 rfl rfl (.agg tyA44)) zU1,d0 (bE (off:=0) (k:=9) rfl tyF51_6) zU1,d0 (bK 0 1 rfl rfl rfl rfl (.one tyO49)) zU1,d0 (aN (.inl rfl)) zU1,d0 (aJ rfl (nW h79) rfl) zU2,d0 (aJ rfl (rF h81) rfl) zU2,d0 (iJ (C:=cQ) (xs:=[.tmp 105]) (ps:=[.va (eQ v80)]) (zs:=[v80]) rfl tyS24 rfl ⟨⟨trivial,rfl⟩,trivial⟩ rfl) zU1,trivial⟩ (fun bs73 G72=>?_)
   obtain⟨x82,h83,hF⟩:=aP hF
   refine jD 1 rfl tyS24 rfl rfl q20 rfl rfl h83 (fun b84 c85 H86 e87=>?_)
   cases e87
   refine bH ?_
   refine aC (bJ (bJ (aA (aF (aI ?_)))))
   obtain⟨v89,h90,hF⟩:=aP hF
   refine aB (bO rfl h90) ⟨rfl,bI _ _,trivial⟩ ?_
   refine bH ?_
   refine aC ?_
   exact bL (fun a w hh=>⟨x82,v89,b84,c85,(n19+[v80].length),hF,(cL h83 q20),bF [1] rfl (by decide) (by exact⟨rfl,rfl,rfl,rfl,rfl,rfl,trivial⟩) hh⟩)
  have hF:=aX h71 hF
  obtain⟨v93,h94,hF⟩:=aP hF
  obtain⟨v95,h96,hF⟩:=aP hF
  obtain⟨v97,h98,hF⟩:=aP hF
  obtain⟨v99,h100,hF⟩:=aP hF
  obtain⟨v101,h102,hF⟩:=aP hF
  obtain⟨v103,h104,hF⟩:=aP hF
  obtain⟨v105,h106,hF⟩:=aP hF
  obtain⟨v107,h108,hF⟩:=aP hF
  obtain⟨v109,h110,hF⟩:=aP hF
  refine bT [0,0,2,0,0,16,56,120,254,0,0,1024,3584,7680,0,0,32768,114688,245760,524286,1048574,2097150,4194303,8388607] 22 2 [.v (.vc (pO b17 n19 c18)),.v (.vc (pP (some b36) 10)),.v (.va (eQ v34.mu)),.v (.vc (pS cQ a4)),.v (.vc (pI .i64 x22)),.v (.vc (pI .i64 v93)),.v (.vc (pM (cQ.e v95))),.v (.va (eQ v95)),.v (.va (eQ v97)),.v (.vc (pS cQ a4)),.v (.vc (pI .i64 x22)),.v (.vc (pI .i64 v99)),.v (.vc (pM (cQ.e v101))),.v (.va (eQ v101)),.v (.vc (pS cQ a4)),.v (.vc (pI .i64 x22)),.v (.vc (pI .i64 v103)),.v (.vc (pM (cQ.e v105))),.v (.va (eQ v105)),.v (.va (eQ v107)),.v (.va (eQ v109)),.v (.vc (pS cQ [v109]))] aU ⟨d0 (aN (.inl rfl)) zU1,d0 (bE (off:=0) (k:=10) rfl tyF51_7) zU1,d0 (bK 0 4 rfl rfl rfl rfl (.agg tyA44)) zU1,d0 (aN (.inl rfl)) zU1,d0 (aN (.inl rfl)) zU1,d0 (eM rfl h94) ⟨rfl,bI _ _,trivial⟩,d0 (cO rfl tyS24 h96) zU2,d0 (cK 4 rfl rfl (.agg tyA44)) zU1,d0 (aJ rfl (mP h98) rfl) zU2,d0 (aN (.inl rfl)) zU1,d0 (aN (.inl rfl)) zU1,d0 (eM rfl h100) ⟨rfl,bI _ _,trivial⟩,d0 (cO rfl tyS24 h102) zU2,d0 (cK 4 rfl rfl (.agg tyA44)) zU1,d0 (aN (.inl rfl)) zU1,d0 (aN (.inl rfl)) zU1,d0 (eM rfl h104) ⟨rfl,bI _ _,trivial⟩,d0 (cO rfl tyS24 h106) zU2,d0 (cK 4 rfl rfl (.agg tyA44)) zU1,d0 (aJ rfl (oZ h108) rfl) zU2,d0 (aJ rfl (rF h110) rfl) zU2,d0 (iJ (C:=cQ) (xs:=[.tmp 66]) (ps:=[.va (eQ v109)]) (zs:=[v109]) rfl tyS24 rfl ⟨⟨trivial,rfl⟩,trivial⟩ rfl) zU1,trivial⟩ (fun bs92 G91=>?_)
  obtain⟨x111,h112,hF⟩:=aP hF
  refine jD 1 rfl tyS24 rfl rfl q20 rfl rfl h112 (fun b113 c114 H115 e116=>?_)
  cases e116
  refine bH ?_
  refine aC (bJ (bJ (aA (aF (aI ?_)))))
  obtain⟨v118,h119,hF⟩:=aP hF
  refine aB (bO rfl h119) ⟨rfl,bI _ _,trivial⟩ ?_
  refine bH ?_
  refine aC ?_
  exact bL (fun a w hh=>⟨x111,v118,b113,c114,(n19+[v109].length),hF,(cL h112 q20),bF [1] rfl (by decide) (by exact⟨rfl,rfl,rfl,rfl,rfl,rfl,trivial⟩) hh⟩)
 have hF:=aX h31 hF
 refine dI ?_
 obtain rfl:=bV hF
 exact bU Jj30 ⟨x16,b17,c18,n19,hRl29,q20,rfl,rfl⟩ [0] rfl zU1
def oT (a0:List (List Rat)):Option Int:=
 bif((a0.length:Int)==0) then(some 0) else((dC a0 0).bind fun v2=>some (v2.length:Int))
theorem aAk {a0:List (List Rat)} {r:Int} (hF:oT a0=some r):Ct Tryz.prog 190 [.vc (pS (rC cQ) a0)] (.vc (pI .i64 r)):=by
 unfold oT at hF
 refine bD Tryz.func190 rfl (by kernel_rfl) Tryz.ntmps190 rfl (fun w0 M0=>?_)
 refine aE (aF (aB (aN (.inr rfl)) ⟨bI _ _,trivial⟩ ?_))
 refine aC (aA (aE (aE (aF (aI ?_)))))
 refine aB (bX rfl tyS62) zU1 ?_
 refine aB (gR rfl) ⟨rfl,bI _ _,trivial⟩ ?_
 refine aC (aA (bS rfl (fun h1=>?_) (fun h1=>?_)))
 ·have hF:=aV h1 hF
  refine aE (aF (aB (aN (.inr rfl)) ⟨bI _ _,trivial⟩ ?_))
  refine aC (aA (a9 (a8 ?_)))
  obtain rfl:=bV hF
  exact aL (.inl rfl) Tryz.results190 (.tmp rfl .nil) rfl rfl
 have hF:=aX h1 hF
 refine bA (aA (aE (aF (aI ?_))))
 obtain⟨v2,h3,hF⟩:=aP hF
 refine aB (cO rfl tyS62 h3) ⟨rfl,bI _ _,trivial⟩ ?_
 refine aB (cK 1 rfl rfl (.one tyO24)) zU1 ?_
 refine aB (bX rfl tyS24) zU1 ?_
 refine bH ?_
 refine aC (aA (a9 (a8 ?_)))
 obtain rfl:=bV hF
 exact aL (.inl rfl) Tryz.results190 (.tmp rfl .nil) rfl rfl
def oI (K:Nat) (x17:List (List Rat)):Option (List (List Rat)):=
 some x17
def oC (K:Nat) (x10:List (List Rat)) (x16:Int) (recl23:(List (List Rat))→Int→Option (List (List Rat))) (x44:List Rat):Option (List (List Rat)):=
 (qO x10 [x44]).bind fun x52=>(bW (x16+1)).bind fun v59=>recl23 x52 v59
def iE (K:Nat) (a0:List (List Rat)) (x16:Int):Nat→(List Rat)→Int→Option (List Rat)
 |0,_,_=>none
 |k+1,x37,x43=>bif(decide (x43<(a0.length:Int))) then((dC a0 x43).bind fun v62=>(dC v62 x16).bind fun v64=>(qO x37 [v64]).bind fun x66=>(bW (x43+1)).bind fun v73=>iE K a0 x16 k x66 v73) else(some x37)
def fY (K:Nat) (a0:List (List Rat)):Nat→(List (List Rat))→Int→Option (List (List Rat))
 |0,_,_=>none
 |k+1,x10,x16=>(oT a0).bind fun v25=>bif(decide (x16<v25)) then((iE K a0 x16 K ([]:List Rat) 0).bind fun x44=>oC K x10 x16 (fY K a0 k) x44) else(some x10)
def oQ (K:Nat) (a0:List (List Rat)):Option (List (List Rat)):=
 (fY K a0 K ([]:List (List Rat)) 0).bind fun x17=>oI K x17
theorem aAm {K:Nat} {a0:List (List Rat)} {r:List (List Rat)} (hF:oQ K a0=some r):Ct Tryz.prog 106 [.vc (pS (rC cQ) a0)] (.vc (pS (rC cQ) r)):=by
 unfold oQ at hF
 refine bD Tryz.func106 rfl (by kernel_rfl) Tryz.ntmps106 rfl (fun w0 M0=>?_)
 refine aE (aF (aB (aN (.inr rfl)) ⟨dX (rC cQ),trivial⟩ ?_))
 refine aC (aA (aE (aF (sB (rC cQ) 24 rfl ?_))))
 refine aC (aA (aE (aE (aF (aB (aN (.inr rfl)) ⟨bI _ _,trivial⟩ ?_)))))
 refine aC (aA (bR (cJ (fun H E=>∃(x17:List (List Rat)),∃(b18:Option Nat),∃(c19:Nat),∃(n20:Nat),oI K x17=some r∧x17.length=n20∧H=[hO (rC cQ) b18 c19 24 n20 x17]∧E=[(3,.vc (pO b18 n20 c19))]) ?_ (fun Jj24=>?_))))
 ·rintro _ _ ⟨x17,b18,c19,n20,hF,q21,rfl,rfl⟩
  unfold oI at hF
  refine aA (aE (aF (aI ?_)))
  refine bH ?_
  refine aC (aA (a9 (a8 (uB 0 [2,3,33] rfl q21 ⟨rfl,rfl,rfl,trivial⟩ rfl ?_))))
  obtain rfl:=bV hF
  exact aL (.inl rfl) Tryz.results106 (.tmp rfl .nil) rfl rfl
 obtain⟨x17',hL,hRl23⟩:=aP hF
 refine gB (fun k a w=>∃(x10:List (List Rat)),∃(x16:Int),∃(b11:Option Nat),∃(c12:Nat),∃(n13:Nat),fY K a0 k x10 x16=some x17'∧x10.length=n13∧hs _ [hO (rC cQ) b11 c12 24 n13 x10] [(0,.vc (pS (rC cQ) a0)),(3,.vc (pO b11 n13 c12)),(4,.vc (pI .i64 x16))] a w) K (fun a w ⟨_,_,_,_,_,hF,_,_⟩=>by cases hF) (fun k a w ⟨x10,x16,b11,c12,n13,hF,q14,hh⟩=>gE ?_ hh) (fun a w hh=>⟨([]:List (List Rat)),0,none,0,0,hL,rfl,bF [0] rfl (by decide) (by exact⟨rfl,rfl,rfl,trivial⟩) hh⟩)
 rw [fY.eq_2] at hF
 refine aE (aE (aF (aI ?_)))
 refine aI ?_
 obtain⟨v25,h26,hF⟩:=aP hF
 refine aB (aJ rfl (aAk h26) rfl) zU1 ?_
 refine aB (dQ rfl) zU2 ?_
 refine aC (aA (bS rfl (fun h27=>?_) (fun h27=>?_)))
 ·have hF:=aV h27 hF
  refine bA (aA (aE (bR (aE (aF (sB cQ 44 rfl ?_))))))
  refine aC (aA (aE (aE (aF (aB (aN (.inr rfl)) ⟨bI _ _,trivial⟩ ?_)))))
  refine aC (aA (bR (cJ (fun H E=>∃(x44:List Rat),∃(b45:Option Nat),∃(c46:Nat),∃(n47:Nat),oC K x10 x16 (fY K a0 k) x44=some x17'∧x44.length=n47∧H=[hO cQ b45 c46 44 n47 x44,hO (rC cQ) b11 c12 24 n13 x10]∧E=[(0,.vc (pS (rC cQ) a0)),(3,.vc (pO b11 n13 c12)),(4,.vc (pI .i64 x16)),(5,.vc (pO b45 n47 c46))]) ?_ (fun Jj51=>?_))))
  ·rintro _ _ ⟨x44,b45,c46,n47,hF,q48,rfl,rfl⟩
   unfold oC at hF
   refine aA (aF (aI ?_))
   refine aI ?_
   refine wI 0 [5,30] rfl q48 zU2 rfl ?_
   refine aB (iJ (C:=(rC cQ)) (xs:=[.tmp 30]) (ps:=[.vc (pS cQ x44)]) (zs:=[x44]) rfl tyS62 rfl ⟨⟨trivial,rfl⟩,trivial⟩ rfl) zU1 ?_
   obtain⟨x52,h53,hF⟩:=aP hF
   refine jD 0 rfl tyS62 rfl rfl q14 rfl rfl h53 (fun b54 c55 H56 e57=>?_)
   cases e57
   refine bH ?_
   refine aC (bJ (aA (aF (aI ?_))))
   obtain⟨v59,h60,hF⟩:=aP hF
   refine aB (bO rfl h60) ⟨rfl,bI _ _,trivial⟩ ?_
   refine bH ?_
   refine aC ?_
   exact bL (fun a w hh=>⟨x52,v59,b54,c55,(n13+[x44].length),hF,(cL h53 q14),bF [0] rfl (by decide) (by exact⟨rfl,rfl,rfl,trivial⟩) hh⟩)
  obtain⟨x44',hL,hRl50⟩:=aP hF
  refine gB (fun k a w=>∃(x37:List Rat),∃(x43:Int),∃(b38:Option Nat),∃(c39:Nat),∃(n40:Nat),iE K a0 x16 k x37 x43=some x44'∧x37.length=n40∧hs _ [hO cQ b38 c39 44 n40 x37,hO (rC cQ) b11 c12 24 n13 x10] [(0,.vc (pS (rC cQ) a0)),(3,.vc (pO b11 n13 c12)),(4,.vc (pI .i64 x16)),(5,.vc (pO b38 n40 c39)),(6,.vc (pI .i64 x43))] a w) K (fun a w ⟨_,_,_,_,_,hF,_,_⟩=>by cases hF) (fun k a w ⟨x37,x43,b38,c39,n40,hF,q41,hh⟩=>gE ?_ hh) (fun a w hh=>⟨([]:List Rat),0,none,0,0,hL,rfl,bF [0,1] rfl (by decide) (by exact⟨rfl,rfl,rfl,rfl,rfl,trivial⟩) hh⟩)
  rw [iE.eq_2] at hF
  refine aE (aE (aF (aI ?_)))
  refine aI ?_
  refine aB (bX rfl tyS62) zU1 ?_
  refine aB (dQ rfl) zU2 ?_
  refine aC (aA (bS rfl (fun h61=>?_) (fun h61=>?_)))
  ·have hF:=aV h61 hF
   refine bA (aA (aE (bR (aF (aI ?_)))))
   refine aI ?_
   refine aI ?_
   obtain⟨v62,h63,hF⟩:=aP hF
   refine aB (cO rfl tyS62 h63) zU2 ?_
   refine aB (cK 1 rfl rfl (.one tyO24)) zU1 ?_
   refine aI ?_
   obtain⟨v64,h65,hF⟩:=aP hF
   refine aB (cO rfl tyS24 h65) zU2 ?_
   refine aB (cK 4 rfl rfl (.agg tyA44)) zU1 ?_
   refine aB (iJ (C:=cQ) (xs:=[.tmp 26]) (ps:=[.va (eQ v64)]) (zs:=[v64]) rfl tyS24 rfl ⟨⟨trivial,rfl⟩,trivial⟩ rfl) zU1 ?_
   obtain⟨x66,h67,hF⟩:=aP hF
   refine jD 0 rfl tyS24 rfl rfl q41 rfl rfl h67 (fun b68 c69 H70 e71=>?_)
   cases e71
   refine bH ?_
   refine aC (bJ (aA (aF (aI ?_))))
   obtain⟨v73,h74,hF⟩:=aP hF
   refine aB (bO rfl h74) ⟨rfl,bI _ _,trivial⟩ ?_
   refine bH ?_
   refine aC ?_
   exact bL (fun a w hh=>⟨x66,v73,b68,c69,(n40+[v64].length),hF,(cL h67 q41),bF [0,1] rfl (by decide) (by exact⟨rfl,rfl,rfl,rfl,rfl,trivial⟩) hh⟩)
  have hF:=aX h61 hF
  refine dI ?_
  obtain rfl:=bV hF
  exact bU Jj51 ⟨x37,b38,c39,n40,hRl50,q41,rfl,rfl⟩ [0,1] rfl ⟨rfl,rfl,rfl,rfl,trivial⟩
 have hF:=aX h27 hF
 refine dI ?_
 obtain rfl:=bV hF
 exact bU Jj24 ⟨x10,b11,c12,n13,hRl23,q14,rfl,rfl⟩ [0] rfl zU1
def mB (K:Nat) (v11:List Rat) (x29:List (List Rat)):Option ((List (List Rat))×(List Rat)):=
 (oQ K x29).bind fun v37=>some (v37,v11)
def mF (K:Nat) (x22:List (List Rat)) (x28:Int) (recl35:(List (List Rat))→Int→Option (List (List Rat))) (x70:List Rat):Option (List (List Rat)):=
 (qO x22 [x70]).bind fun x78=>(bW (x28+1)).bind fun v85=>recl35 x78 v85
def fQ (K:Nat) (v4:List bB) (v11:List Rat) (v52:List Rat):Nat→(List Rat)→Int→Option (List Rat)
 |0,_,_=>none
 |k+1,x63,x69=>bif(decide (x69<(v4.length:Int))) then((dC v52 x69).bind fun v90=>(dC v11 x69).bind fun v92=>(aDo v90 v92).bind fun v94=>(qO x63 [v94]).bind fun x96=>(bW (x69+1)).bind fun v103=>fQ K v4 v11 v52 k x96 v103) else(some x63)
def eS (K:Nat) (a0:List aT) (a1:List Rat) (a2:List Rat) (a3:List aH) (v4:List bB) (v11:List Rat):Nat→(List (List Rat))→Int→Option (List (List Rat))
 |0,_,_=>none
 |k+1,x22,x28=>bif(decide (x28<(v4.length:Int))) then((vK (v4.length:Int) 0).bind fun x40=>(y5 1 1).bind fun v45=>(dC x40 x28).bind fun v47=>(qC x40 x28 v45).bind fun x49=>(jK K a0 a1 a2 a3 x49).bind fun v52=>(fQ K v4 v11 v52 K ([]:List Rat) 0).bind fun x70=>mF K x22 x28 (eS K a0 a1 a2 a3 v4 v11 k) x70) else(some x22)
def iU (K:Nat) (a0:List aT) (a1:List Rat) (a2:List Rat) (a3:List aH):Option ((List (List Rat))×(List Rat)):=
 (qB K a0 a1 a2 a3).bind fun v1=>bif(!v1) then(some ([],[])) else((iC K a2 a3).bind fun v4=>(vK (v4.length:Int) 0).bind fun x6=>(jK K a0 a1 a2 a3 x6).bind fun v11=>(eS K a0 a1 a2 a3 v4 v11 K ([]:List (List Rat)) 0).bind fun x29=>mB K v11 x29)
theorem yK {K:Nat} {a0:List aT} {a1:List Rat} {a2:List Rat} {a3:List aH} {r:(List (List Rat))×(List Rat)} (hF:iU K a0 a1 a2 a3=some r):Ct Tryz.prog 37 [.vc (pS aT.cod a0),.vc (pS cQ a1),.vc (pS cQ a2),.vc (pS aH.cod a3)] (.t2 (.vc (pS (rC cQ) r.1)) (.vc (pS cQ r.2))):=by
 unfold iU at hF
 refine bD Tryz.func37 rfl (by kernel_rfl) Tryz.ntmps37 rfl (fun w0 M0=>?_)
 refine aE (aF (aB (aN (.inr rfl)) ⟨dX (rC cQ),trivial⟩ ?_))
 refine aB (aN (.inr rfl)) ⟨dX cQ,trivial⟩ ?_
 refine aC (aA (aE (aE (aF (aI ?_)))))
 refine aI ?_
 refine aI ?_
 refine aI ?_
 obtain⟨v1,h2,hF⟩:=aP hF
 refine aB (aJ rfl (aAW h2) rfl) ⟨rfl,rfl,rfl,rfl,trivial⟩ ?_
 refine aB (hU rfl) zU1 ?_
 refine aC (aA (bS rfl (fun h3=>?_) (fun h3=>?_)))
 ·have hF:=aV h3 hF
  refine aE (aF (aB (aN (.inr rfl)) ⟨dX (rC cQ),trivial⟩ ?_))
  refine aB (aN (.inr rfl)) ⟨dX cQ,trivial⟩ ?_
  refine aC (aA (a9 (a8 ?_)))
  obtain rfl:=bV hF
  exact aL (.inl rfl) Tryz.results37 (.tmp rfl (.tmp rfl .nil)) rfl rfl
 have hF:=aX h3 hF
 refine bA (aA (aE (aF (aI ?_))))
 refine aI ?_
 obtain⟨v4,h5,hF⟩:=aP hF
 refine aB (aJ rfl (qX h5) rfl) zU2 ?_
 refine aB (bX rfl tyS142) zU1 ?_
 refine bH ?_
 refine aC (aA (aE (aF (aI ?_))))
 refine aI ?_
 refine aI ?_
 refine aI ?_
 refine aI ?_
 obtain⟨x6,h7,hF⟩:=aP hF
 refine r6 (C:=cQ) rfl tyS24 rfl tyZ44q rfl h7 (fun b8=>?_)
 refine wI 0 [33] rfl rfl zU1 rfl ?_
 obtain⟨v11,h12,hF⟩:=aP hF
 refine aB (aJ rfl (uX h12) rfl) ⟨rfl,rfl,rfl,rfl,rfl,trivial⟩ ?_
 refine bH ?_
 refine aC (aA (aE (aF (sB (rC cQ) 24 rfl ?_))))
 refine aC (aA (aE (aE (aF (aB (aN (.inr rfl)) ⟨bI _ _,trivial⟩ ?_)))))
 refine aC (aA (bR (cJ (fun H E=>∃(x29:List (List Rat)),∃(b30:Option Nat),∃(c31:Nat),∃(n32:Nat),mB K v11 x29=some r∧x29.length=n32∧H=[hO (rC cQ) b30 c31 24 n32 x29]∧E=[(11,.vc (pS cQ v11)),(12,.vc (pO b30 n32 c31))]) ?_ (fun Jj36=>?_))))
 ·rintro _ _ ⟨x29,b30,c31,n32,hF,q33,rfl,rfl⟩
  unfold mB at hF
  refine aA (aE (aF (aI ?_)))
  refine wI 0 [12,73] rfl q33 zU2 rfl ?_
  obtain⟨v37,h38,hF⟩:=aP hF
  refine aB (aJ rfl (aAm h38) rfl) zU1 ?_
  refine aI ?_
  refine bH ?_
  refine bH ?_
  refine aC (aA (a9 (a8 ?_)))
  obtain rfl:=bV hF
  exact aL (.inl rfl) Tryz.results37 (.tmp rfl (.tmp rfl .nil)) rfl rfl
 obtain⟨x29',hL,hRl35⟩:=aP hF
 refine gB (fun k a w=>∃(x22:List (List Rat)),∃(x28:Int),∃(b23:Option Nat),∃(c24:Nat),∃(n25:Nat),eS K a0 a1 a2 a3 v4 v11 k x22 x28=some x29'∧x22.length=n25∧hs _ [hO (rC cQ) b23 c24 24 n25 x22] [(0,.vc (pS aT.cod a0)),(1,.vc (pS cQ a1)),(2,.vc (pS cQ a2)),(3,.vc (pS aH.cod a3)),(10,.vc (pI .i64 (v4.length:Int))),(11,.vc (pS cQ v11)),(12,.vc (pO b23 n25 c24)),(13,.vc (pI .i64 x28))] a w) K (fun a w ⟨_,_,_,_,_,hF,_,_⟩=>by cases hF) (fun k a w ⟨x22,x28,b23,c24,n25,hF,q26,hh⟩=>gE ?_ hh) (fun a w hh=>⟨([]:List (List Rat)),0,none,0,0,hL,rfl,bF [0] rfl (by decide) (by exact⟨rfl,rfl,rfl,rfl,rfl,rfl,rfl,rfl,trivial⟩) hh⟩)
 rw [eS.eq_2] at hF
 refine aE (aE (aF (aI ?_)))
 refine aI ?_
 refine aB (dQ rfl) zU2 ?_
 refine aC (aA (bS rfl (fun h39=>?_) (fun h39=>?_)))
 ·have hF:=aV h39 hF
  refine bA (aA (aE (bR (aE (aF (aI ?_))))))
  obtain⟨x40,h41,hF⟩:=aP hF
  refine r6 (C:=cQ) rfl tyS24 rfl tyZ44q rfl h41 (fun b42=>?_)
  refine bH ?_
  refine aC (aA (aE (aF (aI ?_))))
  refine aI ?_
  obtain⟨v45,h46,hF⟩:=aP hF
  refine aB (aJ rfl (bY h46) rfl) ⟨bI _ _,bI _ _,trivial⟩ ?_
  obtain⟨v47,h48,hF⟩:=aP hF
  refine aB (cS (C:=cQ) 0 rfl tyS24 rfl rfl (aS h48).1 (aS h48).2.1) zU2 ?_
  obtain⟨x49,h50,hF⟩:=aP hF
  refine bG (fW 0 rfl rfl h48 h50 tyA44.s) zU2 ?_
  refine aC (aA (aE (aF (aI ?_))))
  refine aI ?_
  refine aI ?_
  refine aI ?_
  refine aI ?_
  refine wI 0 [14,41,42,50] rfl (cE h50 rfl) ⟨rfl,rfl,rfl,rfl,trivial⟩ rfl ?_
  obtain⟨v52,h53,hF⟩:=aP hF
  refine aB (aJ rfl (uX h53) rfl) ⟨rfl,rfl,rfl,rfl,rfl,trivial⟩ ?_
  refine bH ?_
  refine aC (aA (aE (aF (sB cQ 44 rfl ?_))))
  refine aC (aA (aE (aE (aF (aB (aN (.inr rfl)) ⟨bI _ _,trivial⟩ ?_)))))
  refine aC (aA (bR (cJ (fun H E=>∃(x70:List Rat),∃(b71:Option Nat),∃(c72:Nat),∃(n73:Nat),mF K x22 x28 (eS K a0 a1 a2 a3 v4 v11 k) x70=some x29'∧x70.length=n73∧H=[hO cQ b71 c72 44 n73 x70,hO (rC cQ) b23 c24 24 n25 x22]∧E=[(0,.vc (pS aT.cod a0)),(1,.vc (pS cQ a1)),(2,.vc (pS cQ a2)),(3,.vc (pS aH.cod a3)),(10,.vc (pI .i64 (v4.length:Int))),(11,.vc (pS cQ v11)),(12,.vc (pO b23 n25 c24)),(13,.vc (pI .i64 x28)),(16,.vc (pO b71 n73 c72))]) ?_ (fun Jj77=>?_))))
  ·rintro _ _ ⟨x70,b71,c72,n73,hF,q74,rfl,rfl⟩
   unfold mF at hF
   refine aA (aF (aI ?_))
   refine aI ?_
   refine wI 0 [16,70] rfl q74 zU2 rfl ?_
   refine aB (iJ (C:=(rC cQ)) (xs:=[.tmp 70]) (ps:=[.vc (pS cQ x70)]) (zs:=[x70]) rfl tyS62 rfl ⟨⟨trivial,rfl⟩,trivial⟩ rfl) zU1 ?_
   obtain⟨x78,h79,hF⟩:=aP hF
   refine jD 0 rfl tyS62 rfl rfl q26 rfl rfl h79 (fun b80 c81 H82 e83=>?_)
   cases e83
   refine bH ?_
   refine aC (bJ (aA (aF (aI ?_))))
   obtain⟨v85,h86,hF⟩:=aP hF
   refine aB (bO rfl h86) ⟨rfl,bI _ _,trivial⟩ ?_
   refine bH ?_
   refine aC ?_
   exact bL (fun a w hh=>⟨x78,v85,b80,c81,(n25+[x70].length),hF,(cL h79 q26),bF [0] rfl (by decide) (by exact⟨rfl,rfl,rfl,rfl,rfl,rfl,rfl,rfl,trivial⟩) hh⟩)
  obtain⟨x70',hL,hRl76⟩:=aP hF
  refine gB (fun k a w=>∃(x63:List Rat),∃(x69:Int),∃(b64:Option Nat),∃(c65:Nat),∃(n66:Nat),fQ K v4 v11 v52 k x63 x69=some x70'∧x63.length=n66∧hs _ [hO cQ b64 c65 44 n66 x63,hO (rC cQ) b23 c24 24 n25 x22] [(0,.vc (pS aT.cod a0)),(1,.vc (pS cQ a1)),(2,.vc (pS cQ a2)),(3,.vc (pS aH.cod a3)),(10,.vc (pI .i64 (v4.length:Int))),(11,.vc (pS cQ v11)),(12,.vc (pO b23 n25 c24)),(13,.vc (pI .i64 x28)),(15,.vc (pS cQ v52)),(16,.vc (pO b64 n66 c65)),(17,.vc (pI .i64 x69))] a w) K (fun a w ⟨_,_,_,_,_,hF,_,_⟩=>by cases hF) (fun k a w ⟨x63,x69,b64,c65,n66,hF,q67,hh⟩=>gE ?_ hh) (fun a w hh=>⟨([]:List Rat),0,none,0,0,hL,rfl,bF [0,1] rfl (by decide) (by exact⟨rfl,rfl,rfl,rfl,rfl,rfl,rfl,rfl,rfl,rfl,rfl,trivial⟩) hh⟩)
  rw [fQ.eq_2] at hF
  refine aE (aE (aF (aI ?_)))
  refine aI ?_
  refine aB (dQ rfl) zU2 ?_
  refine aC (aA (bS rfl (fun h87=>?_) (fun h87=>?_)))
  ·have hF:=aV h87 hF
   refine bA (aA (aE (bR ?_)))
   obtain⟨v90,h91,hF⟩:=aP hF
   obtain⟨v92,h93,hF⟩:=aP hF
   obtain⟨v94,h95,hF⟩:=aP hF
   refine bT [0,0,0,6,14,0,0,96,224,510,1022,2047,4095] 11 2 [.v (.vc (pO b64 n66 c65)),.v (.vc (pS cQ v52)),.v (.vc (pI .i64 x69)),.v (.vc (pM (cQ.e v90))),.v (.va (eQ v90)),.v (.vc (pS cQ v11)),.v (.vc (pI .i64 x69)),.v (.vc (pM (cQ.e v92))),.v (.va (eQ v92)),.v (.va (eQ v94)),.v (.vc (pS cQ [v94]))] aU ⟨d0 (aN (.inl rfl)) zU1,d0 (aN (.inl rfl)) zU1,d0 (aN (.inl rfl)) zU1,d0 (cO rfl tyS24 h91) zU2,d0 (cK 4 rfl rfl (.agg tyA44)) zU1,d0 (aN (.inl rfl)) zU1,d0 (aN (.inl rfl)) zU1,d0 (cO rfl tyS24 h93) zU2,d0 (cK 4 rfl rfl (.agg tyA44)) zU1,d0 (aJ rfl (rF h95) rfl) zU2,d0 (iJ (C:=cQ) (xs:=[.tmp 66]) (ps:=[.va (eQ v94)]) (zs:=[v94]) rfl tyS24 rfl ⟨⟨trivial,rfl⟩,trivial⟩ rfl) zU1,trivial⟩ (fun bs89 G88=>?_)
   obtain⟨x96,h97,hF⟩:=aP hF
   refine jD 0 rfl tyS24 rfl rfl q67 rfl rfl h97 (fun b98 c99 H100 e101=>?_)
   cases e101
   refine bH ?_
   refine aC (bJ (aA (aF (aI ?_))))
   obtain⟨v103,h104,hF⟩:=aP hF
   refine aB (bO rfl h104) ⟨rfl,bI _ _,trivial⟩ ?_
   refine bH ?_
   refine aC ?_
   exact bL (fun a w hh=>⟨x96,v103,b98,c99,(n66+[v94].length),hF,(cL h97 q67),bF [0,1] rfl (by decide) (by exact⟨rfl,rfl,rfl,rfl,rfl,rfl,rfl,rfl,rfl,rfl,rfl,trivial⟩) hh⟩)
  have hF:=aX h87 hF
  refine dI ?_
  obtain rfl:=bV hF
  exact bU Jj77 ⟨x63,b64,c65,n66,hRl76,q67,rfl,rfl⟩ [0,1] rfl ⟨rfl,rfl,rfl,rfl,rfl,rfl,rfl,rfl,rfl,trivial⟩
 have hF:=aX h39 hF
 refine dI ?_
 obtain rfl:=bV hF
 exact bU Jj36 ⟨x22,b23,c24,n25,hRl35,q26,rfl,rfl⟩ [0] rfl zU2
def pC (K:Nat):Option Bool:=
 some true
def iV (K:Nat) (a0:List (List Rat)) (a1:List (List Rat)):Nat→Int→Option (LR Bool Unit)
 |0,_=>none
 |k+1,x3=>bif(decide (x3<(a0.length:Int))) then((dC a0 x3).bind fun v9=>(dC a1 x3).bind fun v11=>(iS K v9 v11).bind fun v13=>bif(!v13) then(some (.ret false)) else((bW (x3+1)).bind fun v16=>iV K a0 a1 k v16)) else(some (.go ()))
def kQ (K:Nat) (a0:List (List Rat)) (a1:List (List Rat)):Option Bool:=
 bif((a0.length:Int) != (a1.length:Int)) then(some false) else((iV K a0 a1 K 0).bind fun o=>match o with| .ret r=>some r| .go _=>pC K)
theorem aAv {K:Nat} {a0:List (List Rat)} {a1:List (List Rat)} {r:Bool} (hF:kQ K a0 a1=some r):Ct Tryz.prog 38 [.vc (pS (rC cQ) a0),.vc (pS (rC cQ) a1)] (.vc (pB r)):=by
 unfold kQ at hF
 refine bD Tryz.func38 rfl (by kernel_rfl) Tryz.ntmps38 rfl (fun w0 M0=>?_)
 refine aE (aF (aB (aN (.inr rfl)) ⟨cW _,trivial⟩ ?_))
 refine aC (aA (aE (aE (aF (aI ?_)))))
 refine aB (bX rfl tyS62) zU1 ?_
 refine aI ?_
 refine aB (bX rfl tyS62) zU1 ?_
 refine aB (s7 rfl) zU2 ?_
 refine aC (aA (bS rfl (fun h1=>?_) (fun h1=>?_)))
 ·have hF:=aV h1 hF
  refine aE (aF (aB (aN (.inr rfl)) ⟨cW _,trivial⟩ ?_))
  refine aC (aA (a9 (a8 ?_)))
  obtain rfl:=bV hF
  exact aL (.inl rfl) Tryz.results38 (.tmp rfl .nil) rfl rfl
 have hF:=aX h1 hF
 refine bA (aA (aE (aE (aF (aB (aN (.inr rfl)) ⟨bI _ _,trivial⟩ ?_)))))
 refine aC (aA (bR (cJ (fun H E=>pC K=some r∧H=[]∧E=[]) ?_ (fun Jj5=>?_))))
 ·rintro _ _ ⟨hF,rfl,rfl⟩
  unfold pC at hF
  refine aA (aE (aF (aB (aN (.inr rfl)) ⟨cW _,trivial⟩ ?_)))
  refine aC (aA (a9 (a8 ?_)))
  obtain rfl:=bV hF
  exact aL (.inl rfl) Tryz.results38 (.tmp rfl .nil) rfl rfl
 obtain⟨ol4,hL,hRl4⟩:=aP hF
 refine gB (fun k a w=>∃(x3:Int),iV K a0 a1 k x3=some ol4∧hs _ [] [(0,.vc (pS (rC cQ) a0)),(1,.vc (pS (rC cQ) a1)),(5,.vc (pI .i64 x3))] a w) K (fun a w ⟨_,hF,_⟩=>by cases hF) (fun k a w ⟨x3,hF,hh⟩=>gE ?_ hh) (fun a w hh=>⟨0,hL,bF [] rfl (by decide) (by exact⟨rfl,rfl,rfl,trivial⟩) hh⟩)
 rw [iV.eq_2] at hF
 refine aE (aE (aF (aI ?_)))
 refine aI ?_
 refine aB (bX rfl tyS62) zU1 ?_
 refine aB (dQ rfl) zU2 ?_
 refine aC (aA (bS rfl (fun h6=>?_) (fun h6=>?_)))
 ·have hF:=aV h6 hF
  refine bA (aA (aE (bR (aE ?_))))
  obtain⟨v9,h10,hF⟩:=aP hF
  obtain⟨v11,h12,hF⟩:=aP hF
  obtain⟨v13,h14,hF⟩:=aP hF
  refine bT [0,0,3,7,0,0,48,112,255,511] 10 0 [.v (.vc (pS (rC cQ) a0)),.v (.vc (pI .i64 x3)),.v (.vc (pM ((rC cQ).e v9))),.v (.vc (pS cQ v9)),.v (.vc (pS (rC cQ) a1)),.v (.vc (pI .i64 x3)),.v (.vc (pM ((rC cQ).e v11))),.v (.vc (pS cQ v11)),.v (.vc (pB v13)),.v (.vc (pB (!v13)))] aU ⟨d0 (aN (.inl rfl)) zU1,d0 (aN (.inl rfl)) zU1,d0 (cO rfl tyS62 h10) zU2,d0 (cK 1 rfl rfl (.one tyO24)) zU1,d0 (aN (.inl rfl)) zU1,d0 (aN (.inl rfl)) zU1,d0 (cO rfl tyS62 h12) zU2,d0 (cK 1 rfl rfl (.one tyO24)) zU1,d0 (aJ rfl (uF h14) rfl) zU2,d0 (hU rfl) zU1,trivial⟩ (fun bs8 G7=>?_)
  refine aC (aA (bS rfl (fun h15=>?_) (fun h15=>?_)))
  ·have hF:=aV h15 hF
   refine aE (aF (aB (aN (.inr rfl)) ⟨cW _,trivial⟩ ?_))
   refine aC (aA (a9 (a8 ?_)))
   obtain rfl:=bV hF
   obtain rfl:=bV hRl4
   exact aL (.inl rfl) Tryz.results38 (.tmp rfl .nil) rfl rfl
  have hF:=aX h15 hF
  refine bA (bJ (aA (aF (aI ?_))))
  obtain⟨v16,h17,hF⟩:=aP hF
  refine aB (bO rfl h17) ⟨rfl,bI _ _,trivial⟩ ?_
  refine bH ?_
  refine aC ?_
  exact bL (fun a w hh=>⟨v16,hF,bF [] rfl (by decide) (by exact⟨rfl,rfl,rfl,trivial⟩) hh⟩)
 have hF:=aX h6 hF
 refine dI ?_
 obtain rfl:=bV hF
 exact bU Jj5 ⟨hRl4,rfl,rfl⟩ [] rfl trivial
def jJ (K:Nat) (a0:List Int) (a1:Bool) (a2:Int):Option Bool:=
 (kY K a0 a1).bind fun v1=>(l6 K v1.dofs v1.load v1.v v1.rows).bind fun v4=>(iU K v1.dofs v1.load v1.v v1.rows).bind fun v6=>(nZ v1 a2).bind fun v8=>(l6 K v8.dofs v8.load v8.v v8.rows).bind fun v11=>(kQ K v4.1 v6.1).bind fun v13=>bif v13 then((iS K v4.2 v6.2).bind fun v16=>bif v16 then((bW ((v11.1.length:Int)+(v11.2.length:Int))).bind fun v19=>bif(v19==0) then((qR K).bind fun v22=>some v22) else(some false)) else(some false)) else(some false)
theorem vT {K:Nat} {a0:List Int} {a1:Bool} {a2:Int} {r:Bool} (hF:jJ K a0 a1 a2=some r):Ct Tryz.prog 8 [.vc (pS cI a0),.vc (pB a1),.vc (pI .i64 a2)] (.vc (pB r)):=by
 unfold jJ at hF
 refine bD Tryz.func8 rfl (by kernel_rfl) Tryz.ntmps8 rfl (fun w0 M0=>?_)
 refine aE (aF (aB (aN (.inr rfl)) ⟨cW _,trivial⟩ ?_))
 refine aC (aA (aE (aF (aI ?_))))
 refine aI ?_
 obtain⟨v1,h2,hF⟩:=aP hF
 refine aB (aJ rfl (aAx h2) rfl) zU2 ?_
 refine bP rfl tyZ27q (fun b3=>?_)
 refine bG (dO 0 rfl rfl rfl tyA27.s) zU2 ?_
 refine aC (aA (aE (aF (aB (bE (off:=0) (k:=0) rfl tyF27_0) zU1 ?_))))
 refine aB (bK 0 1 rfl rfl rfl rfl (.one tyO23)) zU1 ?_
 refine aB (bE (off:=0) (k:=1) rfl tyF27_1) zU1 ?_
 refine aB (bK 0 1 rfl rfl rfl rfl (.one tyO24)) zU1 ?_
 refine aB (bE (off:=0) (k:=2) rfl tyF27_2) zU1 ?_
 refine aB (bK 0 1 rfl rfl rfl rfl (.one tyO24)) zU1 ?_
 refine aB (bE (off:=0) (k:=3) rfl tyF27_3) zU1 ?_
 refine aB (bK 0 1 rfl rfl rfl rfl (.one tyO25)) zU1 ?_
 obtain⟨v4,h5,hF⟩:=aP hF
 refine aB (aJ rfl (xO h5) rfl) ⟨rfl,rfl,rfl,rfl,trivial⟩ ?_
 refine aI ?_
 refine aB (lT rfl) zU1 ?_
 refine aB (lO rfl) zU1 ?_
 refine bH ?_
 refine bH ?_
 refine aC (aA (aE (aF (aB (bE (off:=0) (k:=0) rfl tyF27_0) zU1 ?_))))
 refine aB (bK 0 1 rfl rfl rfl rfl (.one tyO23)) zU1 ?_
 refine aB (bE (off:=0) (k:=1) rfl tyF27_1) zU1 ?_
 refine aB (bK 0 1 rfl rfl rfl rfl (.one tyO24)) zU1 ?_
 refine aB (bE (off:=0) (k:=2) rfl tyF27_2) zU1 ?_
 refine aB (bK 0 1 rfl rfl rfl rfl (.one tyO24)) zU1 ?_
 refine aB (bE (off:=0) (k:=3) rfl tyF27_3) zU1 ?_
 refine aB (bK 0 1 rfl rfl rfl rfl (.one tyO25)) zU1 ?_
 obtain⟨v6,h7,hF⟩:=aP hF
 refine aB (aJ rfl (yK h7) rfl) ⟨rfl,rfl,rfl,rfl,trivial⟩ ?_
 refine aI ?_
 refine aB (lT rfl) zU1 ?_
 refine aB (lO rfl) zU1 ?_
 refine bH ?_
 refine bH ?_
 refine aC (aA (aE (aF (aB (bK 0 4 rfl rfl rfl rfl (.agg tyA27)) zU1 ?_))))
 refine aI ?_
 obtain⟨v8,h9,hF⟩:=aP hF
 refine aB (aJ rfl (zQ h9) rfl) zU2 ?_
 refine bP rfl tyZ27q (fun b10=>?_)
 refine bG (dO 0 rfl rfl rfl tyA27.s) zU2 ?_
 refine aC (aA (aE (aF (aB (bE (off:=0) (k:=0) rfl tyF27_0) zU1 ?_))))
 refine aB (bK 0 1 rfl rfl rfl rfl (.one tyO23)) zU1 ?_
 refine aB (bE (off:=0) (k:=1) rfl tyF27_1) zU1 ?_
 refine aB (bK 0 1 rfl rfl rfl rfl (.one tyO24)) zU1 ?_
 refine aB (bE (off:=0) (k:=2) rfl tyF27_2) zU1 ?_
 refine aB (bK 0 1 rfl rfl rfl rfl (.one tyO24)) zU1 ?_
 refine aB (bE (off:=0) (k:=3) rfl tyF27_3) zU1 ?_
 refine aB (bK 0 1 rfl rfl rfl rfl (.one tyO25)) zU1 ?_
 obtain⟨v11,h12,hF⟩:=aP hF
 refine aB (aJ rfl (xO h12) rfl) ⟨rfl,rfl,rfl,rfl,trivial⟩ ?_
 refine aI ?_
 refine aB (lT rfl) zU1 ?_
 refine aB (lO rfl) zU1 ?_
 refine bH ?_
 refine bH ?_
 refine aC (aA (aE (aF (aI ?_))))
 refine aI ?_
 obtain⟨v13,h14,hF⟩:=aP hF
 refine aB (aJ rfl (aAv h14) rfl) zU2 ?_
 refine aI ?_
 refine cP (fun h15=>?_) (fun h15=>?_)
 ·have hF:=aV h15 hF
  refine aY (aN (.inl rfl)) zU1 ?_
  refine aY (aN (.inl rfl)) zU1 ?_
  obtain⟨v16,h17,hF⟩:=aP hF
  refine aY (aJ rfl (uF h17) rfl) zU2 ?_
  refine aB (bM rfl) zU2 ?_
  refine aI ?_
  refine cP (fun h18=>?_) (fun h18=>?_)
  ·have hF:=aV h18 hF
   refine aY (aN (.inl rfl)) zU1 ?_
   refine aY (bX rfl tyS62) zU1 ?_
   refine aY (aN (.inl rfl)) zU1 ?_
   refine aY (bX rfl tyS24) zU1 ?_
   obtain⟨v19,h20,hF⟩:=aP hF
   refine aY (bO rfl h20) zU2 ?_
   refine aY (gR rfl) ⟨rfl,bI _ _,trivial⟩ ?_
   refine aB (bM rfl) zU2 ?_
   refine aI ?_
   refine cP (fun h21=>?_) (fun h21=>?_)
   ·have hF:=aV h21 hF
    obtain⟨v22,h23,hF⟩:=aP hF
    refine aY (aJ rfl (aAa h23) rfl) trivial ?_
    refine aB (bM rfl) zU2 ?_
    refine bH ?_
    refine aC (aA (a9 (a8 ?_)))
    obtain rfl:=bV hF
    exact aL (.inl rfl) Tryz.results8 (.tmp rfl .nil) rfl rfl
   have hF:=aX h21 hF
   refine aM ?_
   refine aB (bN rfl) ⟨rfl,cW _,trivial⟩ ?_
   refine bH ?_
   refine aC (aA (a9 (a8 ?_)))
   obtain rfl:=bV hF
   exact aL (.inl rfl) Tryz.results8 (.tmp rfl .nil) rfl rfl
  have hF:=aX h18 hF
  refine aM ?_
  refine aM ?_
  refine aM ?_
  refine aM ?_
  refine aM ?_
  refine aM ?_
  refine aB (bN rfl) ⟨rfl,cW _,trivial⟩ ?_
  refine aI ?_
  refine aM ?_
  refine aB (bN rfl) ⟨rfl,cW _,trivial⟩ ?_
  refine bH ?_
  refine aC (aA (a9 (a8 ?_)))
  obtain rfl:=bV hF
  exact aL (.inl rfl) Tryz.results8 (.tmp rfl .nil) rfl rfl
 have hF:=aX h15 hF
 refine aM ?_
 refine aM ?_
 refine aM ?_
 refine aB (bN rfl) ⟨rfl,cW _,trivial⟩ ?_
 refine aI ?_
 refine aM ?_
 refine aM ?_
 refine aM ?_
 refine aM ?_
 refine aM ?_
 refine aM ?_
 refine aB (bN rfl) ⟨rfl,cW _,trivial⟩ ?_
 refine aI ?_
 refine aM ?_
 refine aB (bN rfl) ⟨rfl,cW _,trivial⟩ ?_
 refine bH ?_
 refine aC (aA (a9 (a8 ?_)))
 obtain rfl:=bV hF
 exact aL (.inl rfl) Tryz.results8 (.tmp rfl .nil) rfl rfl
end Go.Proofs.YtcjdedkdoagifaaGreat
set_option linter.unusedVariables false
set_option maxRecDepth 100000
namespace Go.Proofs.YtcjdedkdoagifaaGreat
end Go.Proofs.YtcjdedkdoagifaaGreat
set_option linter.unusedVariables false
namespace Go.Proofs.YtcjdedkdoagifaaGreat
theorem aDO {x m:Int} (hx:-9223372036854775808≤x∧x≤9223372036854775807) (hm:0<m):∃r,k6 x m=some r∧0≤r∧r<m:=by
 unfold k6
 by_cases h:x<0
 ·refine⟨(-(x+1))%m,?_,Int.emod_nonneg _ (by omega),Int.emod_lt_of_pos _ hm⟩
  rw [dT h,d8,oA (by omega),oB,oA (by omega),oB,nR (by omega) hm,oB]
 ·refine⟨x%m,?_,Int.emod_nonneg _ (by omega),Int.emod_lt_of_pos _ hm⟩
  rw [dF h,dS,nR (by omega) hm,oB]
theorem aAB {l:List Int} (hl:aFS l) (i:Int) {m:Int} (hm:0<m):∃r,cG l i m=some r∧0≤r∧r<m:=by
 unfold cG
 by_cases h:i<0
 ·exact⟨0,by rw [dT h,d8],by omega,hm⟩
 ·rw [dF h,dS]
  by_cases h2:(l.length:Int)≤i
  ·exact⟨0,by rw [dT h2,d8],by omega,hm⟩
  ·rw [dF h2,dS]
   obtain⟨n,rfl⟩:∃n:Nat,i=n:=⟨i.toNat,by omega⟩
   obtain⟨x,hx,_,hr⟩:=rdM (xs:=l) (i:=n) (by omega)
   obtain⟨r,h3,h4,h5⟩:=aDO (hl x hx) hm
   exact⟨r,by rw [hr,oB,h3,oB],h4,h5⟩
theorem aBR {a m:Int} (h:0≤a) (hm:0<m):0≤a%m∧a%m<m:=⟨Int.emod_nonneg _ (by omega),Int.emod_lt_of_pos _ hm⟩
def vV (k:Nat) (xs:List Rat):Prop:=∀x∈xs,Bd k x
theorem vV.snoc {k:Nat} {xs:List Rat} {x:Rat} (h:vV k xs) (hx:Bd k x):vV k (xs++[x]):=fun y hy=>by
 rcases List.mem_append.1 hy with h1|h1
 ·exact h y h1
 ·rw [List.mem_singleton.1 h1];exact hx
theorem apS {α:Type} {xs:List α} {x:α} (h:xs.length≤60000000000):qO xs [x]=some (xs++[x]):=wD (by simp;omega)
theorem aKP {p q:Int} (hp:p≠0) (hq:q≠0):(p:Rat)/q≠0:=by
 rw [←Rat.divInt_eq_div]
 intro h
 have:=congrArg Rat.num h
 rw [Rat.num_divInt] at this
 have e:(0:Rat).num=0:=rfl
 rw [e] at this
 obtain⟨c,hc⟩:=Int.gcd_dvd_right (a:=q) (b:=p)
 have hg:0<Int.gcd q p:=Int.gcd_pos_of_ne_zero_left p hq
 have h2:q.sign*p/((Int.gcd q p:Nat):Int)=q.sign*c:=by
  conv=>lhs;rw [hc]
  rw [←Int.mul_assoc,Int.mul_comm q.sign,Int.mul_assoc]
  have:((q.gcd (((q.gcd p:Nat):Int)*c):Nat):Int)=((q.gcd p:Nat):Int):=by rw [←hc]
  rw [this]
  exact Int.mul_ediv_cancel_left _ (by omega)
 rw [h2] at this
 rcases Int.mul_eq_zero.1 this with h3|h3
 ·exact hq (Int.sign_eq_zero_iff_zero.1 h3)
 ·subst h3;rw [Int.mul_zero] at hc;exact hp hc
theorem rdD {α:Type} {xs:List α} {i:Nat} (d:α) (h:i<xs.length):dC xs (i:Int)=some (xs.getD i d):=by
 rw [rdG (x:=xs.getD i d)]
 simp [List.getD_eq_getElem?_getD,h]
def yN (l:List Rat) (i:Nat):Rat:=l.getD i 0
theorem aHZ {l:List Rat} {i:Nat} (h:i<l.length):dC l (i:Int)=some (yN l i):=rdD _ h
theorem aAS {l:List Rat} {i:Nat} (h:i<l.length):yN l i∈l:=by
 have:yN l i=l[i]:=by unfold yN;simp [List.getD_eq_getElem?_getD,h]
 rw [this];exact List.getElem_mem h
theorem aK7:((1:Int):Rat)/((1:Int):Rat)=1:=by decide+kernel
def mp {α:Type} (g:Nat→α) (n:Nat):List α:=(List.range n).map g
theorem aBh {α:Type} (g:Nat→α):mp g 0=[]:=rfl
theorem aEm {α:Type} (g:Nat→α) (n:Nat):mp g (n+1)=mp g n++[g n]:=by unfold mp;rw [List.range_succ,List.map_append];rfl
theorem tG {α:Type} (g:Nat→α) (n:Nat):(mp g n).length=n:=by simp [mp]
theorem aDj {α:Type} {g:Nat→α} {n i:Nat} (h:i<n):(mp g n)[i]?=some (g i):=by simp [mp,h]
theorem aDa {g:Nat→Rat} {n i:Nat} (h:i<n):yN (mp g n) i=g i:=by
 unfold yN mp
 simp [List.getD_eq_getElem?_getD,h]
theorem aF0 {g:Nat→Rat} {n k:Nat} (h:∀i,i<n→Bd k (g i)):vV k (mp g n):=fun x hx=>by
 obtain⟨i,hi,rfl⟩:=List.mem_map.1 hx
 exact h i (List.mem_range.1 hi)
theorem apM {α:Type} {g:Nat→α} {i:Nat} (h:i≤1000000):qO (mp g i) [g i]=some (mp g (i+1)):=by rw [aEm];exact apS (by rw [tG];omega)
theorem hY {α:Type} {f g:Nat→α} {n:Nat} (h:∀i,i<n→f i=g i):mp f n=mp g n:=by
 unfold mp
 exact List.map_congr_left fun i hi=>h i (List.mem_range.1 hi)
def vC {α:Type} (f:Nat→α) (i:Nat) (v:α) (j:Nat):α:=if j=i then v else f j
theorem lF {α:Type} {f:Nat→α} {i:Nat} {v:α}:vC f i v i=v:=if_pos rfl
theorem sX {α:Type} {f:Nat→α} {i j:Nat} {v:α} (h:j≠i):vC f i v j=f j:=if_neg h
theorem aJd {α:Type} {f:Nat→α} {n i:Nat} {v:α}:(mp f n).set i v=mp (vC f i v) n:=by
 apply List.ext_getElem?
 intro j
 by_cases hj:j<n
 ·rw [List.getElem?_set,aDj hj,tG,aDj hj]
  by_cases he:i=j
  ·subst he;rw [if_pos rfl,if_pos hj,lF]
  ·rw [if_neg he,sX (by omega)]
 ·rw [List.getElem?_eq_none (by simp [mp];omega),List.getElem?_eq_none (by simp [mp];omega)]
theorem sN {α:Type} {f:Nat→α} {n i:Nat} (h:i<n):dC (mp f n) (i:Int)=some (f i):=rdG (aDj h)
theorem y8 {α:Type} {f:Nat→α} {n i:Nat} {v:α} (h:i<n):qC (mp f n) (i:Int) v=some (mp (vC f i v) n):=by
 rw [stG (by rw [tG];exact h),aJd]
theorem aIc {α:Type} (z:α):∀n,List.replicate n z=mp (fun _=>z) n
 |0=>rfl
 |n+1=>by rw [aEm,←aIc z n,List.replicate_succ']
theorem aD6 {α:Type} {n:Nat} {z:α} (h:n≤68719476736):vK (n:Int) z=some (mp (fun _=>z) n):=by rw [yV h,aIc]
theorem aKR (l:List Rat):l=mp (yN l) l.length:=by
 apply List.ext_getElem?
 intro j
 by_cases hj:j<l.length
 ·rw [aDj hj];simp [yN,hj]
 ·rw [List.getElem?_eq_none (by omega),List.getElem?_eq_none (by simp [mp];omega)]
theorem tI {i:Nat} (h:i≤1000000000):bW ((i:Int)+1)=some ((i+1:Nat):Int):=yB (m:=0) (n:=i+1) (by omega) (by omega)
theorem aHO {a:Rat}:a.num.sign=0↔a=0:=by rw [Int.sign_eq_zero_iff_zero,Rat.num_eq_zero]
def sm (f:Nat→Rat):Nat→Rat
 |0=>0
 |n+1=>sm f n+f n
end Go.Proofs.YtcjdedkdoagifaaGreat
set_option linter.unusedVariables false
namespace Go.Proofs.YtcjdedkdoagifaaGreat
/-- A degree of freedom with small numbers. -/
def aKw (d:aT):Prop:=Bd 8 d.inv∧d.inv≠0∧Bd 8 d.load
def dof (d:List aT) (i:Nat):aT:=d.getD i ⟨0,0,false,0,0⟩
def aK2 (d:List aT):Prop:=∀x∈d,aKw x
end Go.Proofs.YtcjdedkdoagifaaGreat
set_option linter.unusedVariables false
namespace Go.Proofs.YtcjdedkdoagifaaGreat
/-- A matrix of h rows and w columns. -/
def mx (g:Nat→Nat→Rat) (h w:Nat):List (List Rat):=mp (fun i=>mp (g i) w) h
theorem aIg {g g':Nat→Nat→Rat} {h w:Nat} (e:∀i c,i<h→c<w→g i c=g' i c):mx g h w=mx g' h w:=
 hY fun i hi=>hY fun c hc=>e i c hi hc
theorem aLa {g:Nat→Nat→Rat} {h w i:Nat} {f:Nat→Rat}:mp (vC (fun i=>mp (g i) w) i (mp f w)) h=mx (vC g i f) h w:=by
 refine hY fun j _=>?_
 unfold vC
 split<;>rfl
theorem aLG {g:Nat→Nat→Rat} {h w i:Nat} (hi:i<h):dC (mx g h w) (i:Int)=some (mp (g i) w):=sN hi
theorem aCm {g:Nat→Nat→Rat} {h w:Nat}:(mx g h w).length=h:=tG _ _
def Bdx (h w b:Nat) (g:Nat→Nat→Rat):Prop:=∀i c,i<h→c<w→Bd b (g i c)
theorem Bdx.mono {h w b b':Nat} {g:Nat→Nat→Rat} (hg:Bdx h w b g) (hb:b≤b'):Bdx h w b' g:=fun i c hi hc=>(hg i c hi hc).mono hb
def swp (g:Nat→Nat→Rat) (n at0 i:Nat):Nat→Rat:=g (if i=n then at0 else if i=at0 then n else i)
theorem aEn {h n at0 i:Nat} (hn:n<h) (ha:at0<h) (hi:i<h):(if i=n then at0 else if i=at0 then n else i)<h:=by split;exact ha;split;exact hn;exact hi
end Go.Proofs.YtcjdedkdoagifaaGreat
set_option linter.unusedVariables false
namespace Go.Proofs.YtcjdedkdoagifaaGreat
/-- The rows that the list of indices names, in a pool of rows. -/
structure Rep (ι:Nat→Nat) (pool:List (List Rat)) (g:Nat→Nat→Rat) (h w:Nat):Prop where
 inj:∀i j,i<h→j<h→ι i=ι j→i=j
 lt:∀i,i<h→ι i<pool.length
 el:∀i,i<h→pool.getD (ι i) []=mp (g i) w
theorem Rep.set {ι:Nat→Nat} {pool:List (List Rat)} {g:Nat→Nat→Rat} {h w i:Nat} (r:Rep ι pool g h w) (hi:i<h) (f:Nat→Rat):Rep ι (pool.set (ι i) (mp f w)) (vC g i f) h w:=by
 refine⟨r.inj,fun j hj=>by rw [List.length_set];exact r.lt j hj,fun j hj=>?_⟩
 rw [List.getD_eq_getElem?_getD,List.getElem?_set]
 by_cases he:j=i
 ·subst he
  rw [if_pos rfl,if_pos (r.lt j hj),lF];rfl
 ·rw [if_neg (fun h=>he (r.inj j i hj hi h.symm)),←List.getD_eq_getElem?_getD,r.el j hj,sX he]
theorem Rep.congr {ι:Nat→Nat} {pool:List (List Rat)} {g g':Nat→Nat→Rat} {h w:Nat} (r:Rep ι pool g h w) (e:∀i c,i<h→c<w→g i c=g' i c):Rep ι pool g' h w:=
 ⟨r.inj,r.lt,fun i hi=>by rw [r.el i hi];exact hY fun c hc=>e i c hi hc⟩
theorem Rep.swap {ι:Nat→Nat} {pool:List (List Rat)} {g:Nat→Nat→Rat} {h w n a:Nat} (r:Rep ι pool g h w) (hn:n<h) (ha:a<h) (hne:n≠a):Rep (vC (vC ι n (ι a)) a (ι n)) pool (swp g n a) h w:=by
 have key:∀i,vC (vC ι n (ι a)) a (ι n) i=ι (if i=n then a else if i=a then n else i):=fun i=>by
  unfold vC
  by_cases h1:i=n
  ·rw [if_pos h1,if_neg (by omega),if_pos h1]
  ·rw [if_neg h1]
   by_cases h2:i=a
   ·rw [if_pos h2,if_pos h2,if_neg h1]
   ·rw [if_neg h2,if_neg h1,if_neg h2]
 refine⟨fun i j hi hj e=>?_,fun i hi=>?_,fun i hi=>?_⟩
 ·rw [key,key] at e
  have:=r.inj _ _ (aEn hn ha hi) (aEn hn ha hj) e
  split at this<;>split at this<;>(try split at this)<;>(try split at this)<;>omega
 ·rw [key];exact r.lt _ (aEn hn ha hi)
 ·rw [key];exact r.el _ (aEn hn ha hi)
def mid (f e:Nat→Rat) (c j:Nat):Rat:=if j<c then f j else e j
theorem aKa {α:Type} {g:Nat→α} {i:Nat} {x y:α}:vC (vC g i x) i y=vC g i y:=by
 funext j
 unfold vC
 split<;>rfl
end Go.Proofs.YtcjdedkdoagifaaGreat
set_option linter.unusedVariables false
namespace Go.Proofs.YtcjdedkdoagifaaGreat
/-- A matrix without rows has no columns. -/
def Cok (h w:Nat):Prop:=h=0→w=0
theorem aFq {g:Nat→Nat→Rat} {h w:Nat} (hc:Cok h w):oT (mx g h w)=some (w:Int):=by
 by_cases h0:h=0
 ·subst h0
  rw [hc rfl];rfl
 ·have r0:=aLG (g:=g) (w:=w) (show 0<h by omega)
  simp only [Int.natCast_zero] at r0
  simp only [oT,aCm,qF (show¬(h:Int)=0 by omega),dS,r0,oB,tG]
theorem aCQ {l:List Rat} {b:Nat} (hl:vV b l) (hb:b≤1073741824) (hn:l.length≤1000) (K:Nat):∀(t i k:Nat),i+t=l.length→t<k→gD K l l k (i:Int)=some (.go ())
 |0,i,k,hi,hk=>by
  obtain⟨k',rfl,_⟩:=cU hk
  simp only [gD,dF (show¬(i:Int)<(l.length:Int) by omega),dS]
 |t+1,i,k,hi,hk=>by
  obtain⟨k',rfl,_⟩:=cU hk
  have hx:=hl _ (aAS (l:=l) (i:=i) (by omega))
  simp only [gD,dT (show(i:Int)<(l.length:Int) by omega),d8,aHZ (l:=l) (i:=i) (by omega),oB,aH8 hx hx hb hb,decide_true,Bool.not_true,dS,tI (i:=i) (by omega)]
  exact aCQ hl hb hn K t (i+1) k' (by omega) (by omega)
theorem aAZ {l:List Rat} {b:Nat} (hl:vV b l) (hb:b≤1073741824) (hn:l.length≤1000) {K:Nat} (hK:l.length<K):iS K l l=some true:=by
 have:=aCQ hl hb hn K l.length 0 K (by omega) hK
 simp only [Int.natCast_zero] at this
 simp only [iS,nF (rfl:(l.length:Int)=l.length),dS,this,oB,mX]
theorem aHf {M:List (List Rat)} {b:Nat} (hM:∀r∈M,vV b r∧r.length≤1000) (hb:b≤1073741824) (hn:M.length≤1000) {K:Nat} (hK:1000<K):∀(t i k:Nat),i+t=M.length→t<k→iV K M M k (i:Int)=some (.go ())
 |0,i,k,hi,hk=>by
  obtain⟨k',rfl,_⟩:=cU hk
  simp only [iV,dF (show¬(i:Int)<(M.length:Int) by omega),dS]
 |t+1,i,k,hi,hk=>by
  obtain⟨k',rfl,_⟩:=cU hk
  obtain⟨r,hr,_,hrd⟩:=rdM (xs:=M) (i:=i) (by omega)
  have:=hM r hr
  simp only [iV,dT (show(i:Int)<(M.length:Int) by omega),d8,hrd,oB,aAZ this.1 hb this.2 (K:=K) (by omega),Bool.not_true,dS,tI (i:=i) (by omega)]
  exact aHf hM hb hn hK t (i+1) k' (by omega) (by omega)
theorem aGT {M:List (List Rat)} {b:Nat} (hM:∀r∈M,vV b r∧r.length≤1000) (hb:b≤1073741824) (hn:M.length≤1000) {K:Nat} (hK:1000<K):kQ K M M=some true:=by
 have:=aHf hM hb hn hK M.length 0 K (by omega) (by omega)
 simp only [Int.natCast_zero] at this
 simp only [kQ,nF (rfl:(M.length:Int)=M.length),dS,this,oB,pC]
end Go.Proofs.YtcjdedkdoagifaaGreat
set_option linter.unusedVariables false
namespace Go.Proofs.YtcjdedkdoagifaaGreat
/-- Terms that are few and small. -/
def TB (l:List aG):Prop:=l.length≤12∧∀t∈l,Bd 8 t.k
def RB (r:aH):Prop:=TB r.j∧TB r.t
def RsB (l:List aH):Prop:=∀r∈l,RB r
theorem TB.nil:TB []:=⟨by simp,fun t h=>absurd h List.not_mem_nil⟩
theorem RsB.nil:RsB []:=fun t h=>absurd h List.not_mem_nil
theorem RsB.snoc {l:List aH} {r:aH} (h:RsB l) (hr:RB r):RsB (l++[r]):=fun x hx=>by
 rcases List.mem_append.1 hx with h1|h1
 ·exact h x h1
 ·rw [List.mem_singleton.1 h1];exact hr
def RC (r:aH):Prop:=RB r∧Bd 8 r.mu
def RsC (l:List aH):Prop:=∀r∈l,RC r
theorem RsC.snoc {l:List aH} {r:aH} (h:RsC l) (hr:RC r):RsC (l++[r]):=fun x hx=>by
 rcases List.mem_append.1 hx with h1|h1
 ·exact h x h1
 ·rw [List.mem_singleton.1 h1];exact hr
structure aJ2 (s:bC):Prop where
 n1:1≤s.dofs.length
 n4:s.dofs.length≤4
 dofs:aK2 s.dofs
 ll:s.load.length=s.dofs.length
 vl:s.v.length=s.dofs.length
 load:vV 8 s.load
 v:vV 8 s.v
 rows:RsB s.rows
 rl:s.rows.length≤4
 mus:RsC s.rows
theorem tab7 {m:Int} (h0:0≤m) (h1:m<7):∃x,dC [0,1,(-1),0,2,(-1),1] m=some x∧-2≤x∧x≤2:=by
 have:m=0∨m=1∨m=2∨m=3∨m=4∨m=5∨m=6:=by omega
 rcases this with rfl|rfl|rfl|rfl|rfl|rfl|rfl<;>exact⟨_,rfl,by omega,by omega⟩
theorem aCS {n:Nat} (hn:n≤12):∀(t i:Nat) (out:List aG) (v:Int),i+t=n→0≤v→v≤4000000000000→out.length≤i→(∀t∈out,Bd 8 t.k)→∃r,TB r∧∀K k,t<k→eY K (n:Int) k out v (i:Int)=some r
 |0,i,out,v,hi,h0,h1,hl,hb=>⟨out,⟨by omega,hb⟩,fun K k hk=>by
  obtain⟨k',rfl,_⟩:=cU hk
  simp only [eY,dF (show¬(i:Int)<(n:Int) by omega),dS]⟩
 |t+1,i,out,v,hi,h0,h1,hl,hb=>by
  have m7:=aBR (a:=v) (m:=7) h0 (by omega)
  obtain⟨x,x1,x2,x3⟩:=tab7 m7.1 m7.2
  have m3:=aBR (a:=v/7) (m:=3) (by omega) (by omega)
  have e1:vM v 7=some (v%7):=nR h0 (by omega)
  have e2:vW v 7=some (v/7):=sA h0 (by omega) (by omega)
  have e3:vM (v/7) 3=some (v/7%3):=nR (by omega) (by omega)
  have e4:vW (v/7) 3=some (v/7/3):=sA (by omega) (by omega) (by omega)
  have e5:bW (1+v/7%3)=some (1+v/7%3):=oA (by omega)
  by_cases hx:x=0
  ·obtain⟨r,r1,r2⟩:=aCS hn t (i+1) out (v/7/3) (by omega) (by omega) (by omega) (by omega) hb
   refine⟨r,r1,fun K k hk=>?_⟩
   obtain⟨k',rfl,_⟩:=cU hk
   simp only [eY,dT (show(i:Int)<(n:Int) by omega),d8,e1,oB,x1,e2,nF hx,dS,e4,tI (i:=i) (by omega)]
   exact r2 K k' (by omega)
  ·obtain⟨q,q1,q2,q3⟩:=aAN (k:=8) (p:=x) (q:=1+v/7%3) (by omega) (by omega) (by omega) (by omega)
   obtain⟨r,r1,r2⟩:=aCS hn t (i+1) (out++[⟨(i:Int),q⟩]) (v/7/3) (by omega) (by omega) (by omega) (by simp;omega) (fun t ht=>by
    rcases List.mem_append.1 ht with h|h
    ·exact hb t h
    ·rw [List.mem_singleton.1 h];exact q3)
   refine⟨r,r1,fun K k hk=>?_⟩
   obtain⟨k',rfl,_⟩:=cU hk
   simp only [eY,dT (show(i:Int)<(n:Int) by omega),d8,e1,oB,x1,e2,nT hx,e3,e5,q1,apS (xs:=out) (x:=(⟨(i:Int),q⟩:aG)) (by omega),e4,tI (i:=i) (by omega)]
   exact r2 K k' (by omega)
theorem aEo {n:Nat} (hn:n≤12) {v:Int} (h0:0≤v) (h1:v≤4000000000000):∃r,TB r∧∀K,n<K→eP K v (n:Int)=some r:=by
 obtain⟨r,r1,r2⟩:=aCS hn n 0 [] v (by omega) h0 h1 (by simp) (fun t h=>absurd h List.not_mem_nil)
 refine⟨r,r1,fun K hK=>?_⟩
 have:=r2 K K hK
 simp only [Int.natCast_zero] at this
 simp only [eP,this,oB,oG]
theorem aEQ {l:List Int} (hl:aFS l) {n:Nat} (hn:n≤4):∀(t i:Nat) (a b:List Rat) (d:List aT),i+t=n→a.length=i→b.length=i→d.length=i→vV 8 a→vV 8 b→aK2 d→
  ∃a' b' d',a'.length=n∧b'.length=n∧d'.length=n∧vV 8 a'∧vV 8 b'∧aK2 d'∧∀K k,t<k→iG K l (n:Int) k a b d (i:Int)=some (a',b',d')
 |0,i,a,b,d,hi,h1,h2,h3,h4,h5,h6=>⟨a,b,d,by omega,by omega,by omega,h4,h5,h6,fun K k hk=>by
  obtain⟨k',rfl,_⟩:=cU hk
  simp only [iG,dF (show¬(i:Int)<(n:Int) by omega),dS]⟩
 |t+1,i,a,b,d,hi,h1,h2,h3,h4,h5,h6=>by
  obtain⟨v,v1,v2,v3⟩:=aAB hl (1+(i:Int)) (m:=1073741824) (by omega)
  have m3:=aBR (a:=v) (m:=3) v2 (by omega)
  have m4:=aBR (a:=v/3) (m:=4) (by omega) (by omega)
  have m13:=aBR (a:=v/12) (m:=13) (by omega) (by omega)
  have m33:=aBR (a:=v/156) (m:=3) (by omega) (by omega)
  have e0:bW (1+(i:Int))=some (1+(i:Int)):=oA (by omega)
  have e1:vM v 3=some (v%3):=nR v2 (by omega)
  have e2:bW (1+v%3)=some (1+v%3):=oA (by omega)
  have e3:vW v 3=some (v/3):=sA v2 (by omega) (by omega)
  have e4:vM (v/3) 4=some (v/3%4):=nR (by omega) (by omega)
  have e5:bW (1+v/3%4)=some (1+v/3%4):=oA (by omega)
  obtain⟨q,q1,q2,q3⟩:=aAN (k:=8) (p:=1+v%3) (q:=1+v/3%4) (by omega) (by omega) (by omega) (by omega)
  have e6:vW v 12=some (v/12):=sA v2 (by omega) (by omega)
  have e7:vM (v/12) 13=some (v/12%13):=nR (by omega) (by omega)
  have e8:bW (v/12%13-6)=some (v/12%13-6):=oA (by omega)
  have e9:vW v 156=some (v/156):=sA v2 (by omega) (by omega)
  have e10:vM (v/156) 3=some (v/156%3):=nR (by omega) (by omega)
  have e11:bW (1+v/156%3)=some (1+v/156%3):=oA (by omega)
  obtain⟨p,p1,p2,p3⟩:=aAN (k:=8) (p:=v/12%13-6) (q:=1+v/156%3) (by omega) (by omega) (by omega) (by omega)
  have hq:aKw ⟨q,0,false,0,0⟩:=⟨q3,by rw [q2];exact aKP (by omega) (by omega),Bd.zero.mono (by omega)⟩
  obtain⟨a',b',d',g1,g2,g3,g4,g5,g6,g7⟩:=aEQ hl hn t (i+1) (a++[0]) (b++[p]) (d++[⟨q,0,false,0,0⟩]) (by omega) (by simp;omega) (by simp;omega) (by simp;omega) (h4.snoc (Bd.zero.mono (by omega))) (h5.snoc p3) (fun x hx=>by
   rcases List.mem_append.1 hx with h|h
   ·exact h6 x h
   ·rw [List.mem_singleton.1 h];exact hq)
  refine⟨a',b',d',g1,g2,g3,g4,g5,g6,fun K k hk=>?_⟩
  obtain⟨k',rfl,_⟩:=cU hk
  simp only [iG,dT (show(i:Int)<(n:Int) by omega),d8,e0,oB,v1,e1,e2,e3,e4,e5,q1,apS (xs:=d) (x:=(⟨q,0,false,0,0⟩:aT)) (by omega),e6,e7,e8,e9,e10,e11,p1,apS (xs:=b) (x:=p) (by omega),apS (xs:=a) (x:=(0:Rat)) (by omega),tI (i:=i) (by omega)]
  exact g7 K k' (by omega)
theorem aFK {l:List Int} (hl:aFS l) (i:Nat) (hi:i≤10) (n:Nat) (hn:1≤n∧n≤4):∃v129 v137 v145 v151 q r131 r139 r197,
  cG l (9+3*(i:Int)) 1099511627776=some v129∧cG l (10+3*(i:Int)) 1099511627776=some v137∧cG l (11+3*(i:Int)) 5=some v145∧cG l (11+3*(i:Int)) 3=some v151∧bW (1+v151)=some (1+v151)∧y5 v145 (1+v151)=some q∧Bd 8 q∧0≤v129∧v129≤4000000000000∧TB r131∧TB r139∧TB r197∧
  ∀K,n<K→eP K v129 (n:Int)=some r131∧eP K v137 (n:Int)=some r139∧eP K v129 ((n:Int)-1)=some r197:=by
 obtain⟨v,v1,v2,v3⟩:=aAB hl (9+3*(i:Int)) (m:=1099511627776) (by omega)
 obtain⟨w,w1,w2,w3⟩:=aAB hl (10+3*(i:Int)) (m:=1099511627776) (by omega)
 obtain⟨x,x1,x2,x3⟩:=aAB hl (11+3*(i:Int)) (m:=5) (by omega)
 obtain⟨y,y1,y2,y3⟩:=aAB hl (11+3*(i:Int)) (m:=3) (by omega)
 obtain⟨q,q1,q2,q3⟩:=aAN (k:=8) (p:=x) (q:=1+y) (by omega) (by omega) (by omega) (by omega)
 obtain⟨a,a1,a2⟩:=aEo (n:=n) (v:=v) (by omega) v2 (by omega)
 obtain⟨b,b1,b2⟩:=aEo (n:=n) (v:=w) (by omega) w2 (by omega)
 obtain⟨c,c1,c2⟩:=aEo (n:=n-1) (v:=v) (by omega) v2 (by omega)
 refine⟨v,w,x,y,q,a,b,c,v1,w1,x1,y1,oA (by omega),q1,q3,v2,by omega,a1,b1,c1,fun K hK=>⟨a2 K hK,b2 K hK,?_⟩⟩
 have:=c2 K (by omega)
 rw [show((n-1:Nat):Int)=(n:Int)-1 by omega] at this
 exact this
theorem aDJ {x107:List aH} {i:Nat} {v129:Int} {r:aH} (hi:i≤10) (hv:0≤v129) (hm:Bd 8 r.mu) (hr:RC r) (hl:x107.length≤100):∃r',RC r'∧∀K recl,fK K x107 (i:Int) v129 recl r=recl (x107++[r']) ((i+1:Nat):Int):=by
 by_cases h0:r.mu=0
 ·refine⟨⟨r.kind,r.a,r.b,r.edge,r.gap,r.j,[],0,r.e⟩,⟨⟨hr.1.1,TB.nil⟩,Bd.zero.mono (by omega)⟩,fun K recl=>?_⟩
  simp only [fK,sI hm (by omega),oB,qT (aHO.2 h0),d8,apS (show x107.length≤60000000000 by omega),tI (i:=i) (by omega)]
 ·by_cases h1:v129%5=0
  ·refine⟨⟨r.kind,r.a,r.b,r.edge,r.gap,r.j,[],0,r.e⟩,⟨⟨hr.1.1,TB.nil⟩,Bd.zero.mono (by omega)⟩,fun K recl=>?_⟩
   simp only [fK,sI hm (by omega),oB,qF (fun h=>h0 (aHO.1 h)),dS,nR hv (show(0:Int)<5 by omega),qT h1,d8,apS (show x107.length≤60000000000 by omega),tI (i:=i) (by omega)]
  ·refine⟨r,hr,fun K recl=>?_⟩
   simp only [fK,sI hm (by omega),oB,qF (fun h=>h0 (aHO.1 h)),dS,nR hv (show(0:Int)<5 by omega),qF h1,apS (show x107.length≤60000000000 by omega),tI (i:=i) (by omega)]
theorem aHu {x107:List aH} {i:Nat} {v129:Int} {a b:List aG} {m:Rat} (hi:i≤10) (hv:0≤v129) (hm:Bd 8 m) (ha:TB a) (hb:TB b) (hl:x107.length≤100):∃r',RC r'∧∀K recl,gT K x107 (i:Int) v129 a b m recl=recl (x107++[r']) ((i+1:Nat):Int):=by
 by_cases h0:m=0
 ·refine⟨⟨0,0,(i:Int),0,0,a,[],0,0⟩,⟨⟨ha,TB.nil⟩,Bd.zero.mono (by omega)⟩,fun K recl=>?_⟩
  simp only [gT,sI hm (by omega),oB,qT (aHO.2 h0),d8,apS (show x107.length≤60000000000 by omega),tI (i:=i) (by omega)]
 ·by_cases h1:v129%5=0
  ·refine⟨⟨0,0,(i:Int),0,0,a,[],0,0⟩,⟨⟨ha,TB.nil⟩,Bd.zero.mono (by omega)⟩,fun K recl=>?_⟩
   simp only [gT,sI hm (by omega),oB,qF (fun h=>h0 (aHO.1 h)),dS,nR hv (show(0:Int)<5 by omega),qT h1,d8,apS (show x107.length≤60000000000 by omega),tI (i:=i) (by omega)]
  ·refine⟨⟨0,0,(i:Int),0,0,a,b,m,0⟩,⟨⟨ha,hb⟩,hm⟩,fun K recl=>?_⟩
   simp only [gT,sI hm (by omega),oB,qF (fun h=>h0 (aHO.1 h)),dS,nR hv (show(0:Int)<5 by omega),qF h1,apS (show x107.length≤60000000000 by omega),tI (i:=i) (by omega)]
theorem aBT {l:List Int} (hl:aFS l) (a1:Bool) (n:Nat) (hn:1≤n∧n≤4) {v8:Int} (h8:cG l 8 5=some v8) (h8':v8<5):∀(t i:Nat) (x:List aH),i+t=4→x.length=i→RsC x→
  ∃r,RsC r∧r.length≤4∧∀K k,n<K→t<k→dV K l a1 (n:Int) k x (i:Int)=some r
 |0,i,x,hi,hx,hr=>⟨x,hr,by omega,fun K k hK hk=>by
  obtain⟨k',rfl,_⟩:=cU hk
  simp only [dV,h8,oB,dF (show¬(i:Int)<v8 by omega),dS]⟩
 |t+1,i,x,hi,hx,hr=>by
  by_cases hlt:(i:Int)<v8
  ·obtain⟨v129,v137,v145,v151,q,r131,r139,r197,b1,b2,b3,b4,b5,b6,b7,b8,b9,b10,b11,b12,b13⟩:=aFK hl i (by omega) n hn
   have e3:bW (3*(i:Int))=some (3*(i:Int)):=oA (by omega)
   have e9:bW (9+3*(i:Int))=some (9+3*(i:Int)):=oA (by omega)
   have e10:bW (10+3*(i:Int))=some (10+3*(i:Int)):=oA (by omega)
   have e11:bW (11+3*(i:Int))=some (11+3*(i:Int)):=oA (by omega)
   have en:bW ((n:Int)-1)=some ((n:Int)-1):=oA (by omega)
   cases a1
   ·obtain⟨r',c1,c2⟩:=aDJ (x107:=x) (i:=i) (v129:=v129) (r:=⟨0,0,(i:Int),0,0,r197,r139,q,0⟩) (by omega) b8 b7 ⟨⟨b12,b11⟩,b7⟩ (by omega)
    obtain⟨r,d1,d2,d3⟩:=aBT hl false n hn h8 h8' t (i+1) (x++[r']) (by omega) (by simp;omega) (hr.snoc c1)
    refine⟨r,d1,d2,fun K k hK hk=>?_⟩
    obtain⟨k',rfl,_⟩:=cU hk
    obtain⟨s1,s2,s3⟩:=b13 K hK
    simp only [dV,h8,oB,dT hlt,d8,e3,e9,e10,e11,b1,b2,b3,b4,b5,b6,s1,s2,s3,Bool.not_false,en,c2]
    exact d3 K k' hK (by omega)
   ·obtain⟨r',c1,c2⟩:=aDJ (x107:=x) (i:=i) (v129:=v129) (r:=⟨0,0,(i:Int),0,0,r131,r139,q,0⟩) (by omega) b8 b7 ⟨⟨b10,b11⟩,b7⟩ (by omega)
    obtain⟨r,d1,d2,d3⟩:=aBT hl true n hn h8 h8' t (i+1) (x++[r']) (by omega) (by simp;omega) (hr.snoc c1)
    refine⟨r,d1,d2,fun K k hK hk=>?_⟩
    obtain⟨k',rfl,_⟩:=cU hk
    obtain⟨s1,s2,s3⟩:=b13 K hK
    simp only [dV,h8,oB,dT hlt,d8,e3,e9,e10,e11,b1,b2,b3,b4,b5,b6,s1,s2,Bool.not_true,dS,c2]
    exact d3 K k' hK (by omega)
  ·refine⟨x,hr,by omega,fun K k hK hk=>?_⟩
   obtain⟨k',rfl,_⟩:=cU hk
   simp only [dV,h8,oB,dF hlt,dS]
theorem aDT {l:List Int} (hl:aFS l) (n:Nat) (hn:1≤n∧n≤4) {v8:Int} (h8:cG l 8 5=some v8) (h8':v8<5):∀(t i:Nat) (x:List aH),i+t=4→x.length=i→RsC x→
  ∃r,RsC r∧r.length≤4∧∀K k,n<K→t<k→eO K l (n:Int) k x (i:Int)=some r
 |0,i,x,hi,hx,hr=>⟨x,hr,by omega,fun K k hK hk=>by
  obtain⟨k',rfl,_⟩:=cU hk
  simp only [eO,h8,oB,dF (show¬(i:Int)<v8 by omega),dS]⟩
 |t+1,i,x,hi,hx,hr=>by
  by_cases hlt:(i:Int)<v8
  ·obtain⟨v129,v137,v145,v151,q,r131,r139,r197,b1,b2,b3,b4,b5,b6,b7,b8,b9,b10,b11,b12,b13⟩:=aFK hl i (by omega) n hn
   have e3:bW (3*(i:Int))=some (3*(i:Int)):=oA (by omega)
   have e9:bW (9+3*(i:Int))=some (9+3*(i:Int)):=oA (by omega)
   have e10:bW (10+3*(i:Int))=some (10+3*(i:Int)):=oA (by omega)
   have e11:bW (11+3*(i:Int))=some (11+3*(i:Int)):=oA (by omega)
   obtain⟨r',c1,c2⟩:=aHu (x107:=x) (i:=i) (v129:=v129) (a:=r131) (b:=r139) (m:=q) (by omega) b8 b7 b10 b11 (by omega)
   obtain⟨r,d1,d2,d3⟩:=aDT hl n hn h8 h8' t (i+1) (x++[r']) (by omega) (by simp;omega) (hr.snoc c1)
   refine⟨r,d1,d2,fun K k hK hk=>?_⟩
   obtain⟨k',rfl,_⟩:=cU hk
   obtain⟨s1,s2,s3⟩:=b13 K hK
   simp only [eO,h8,oB,dT hlt,d8,e3,e9,e10,e11,b1,b2,b3,b4,b5,b6,s1,s2,c2]
   exact d3 K k' hK (by omega)
  ·refine⟨x,hr,by omega,fun K k hK hk=>?_⟩
   obtain⟨k',rfl,_⟩:=cU hk
   simp only [eO,h8,oB,dF hlt,dS]
theorem aJZ {l:List Int} (hl:aFS l) (rest:Bool):∃s,aJ2 s∧Ev (fun K=>kY K l rest) s:=by
 obtain⟨v0,a1,a2,a3⟩:=aAB hl 0 (m:=4) (by omega)
 obtain⟨n,hn⟩:∃n:Nat,1+v0=(n:Int):=⟨(1+v0).toNat,by omega⟩
 have e1:bW (1+v0)=some (n:Int):=by rw [oA (by omega),hn]
 obtain⟨a,b,d,g1,g2,g3,g4,g5,g6,g7⟩:=aEQ hl (n:=n) (by omega) n 0 [] [] [] (by omega) rfl rfl rfl (fun t h=>absurd h List.not_mem_nil) (fun t h=>absurd h List.not_mem_nil) (fun t h=>absurd h List.not_mem_nil)
 obtain⟨v5,b1,b2,b3⟩:=aAB hl 5 (m:=3) (by omega)
 obtain⟨v8,c1,c2,c3⟩:=aAB hl 8 (m:=5) (by omega)
 obtain⟨r,d1,d2,d3⟩:=aDT hl n (by omega) c1 c3 4 0 [] rfl rfl (fun x h=>absurd h List.not_mem_nil)
 obtain⟨r',d1',d2',d3'⟩:=aBT hl rest n (by omega) c1 c3 4 0 [] rfl rfl (fun x h=>absurd h List.not_mem_nil)
 simp only [Int.natCast_zero] at g7 d3 d3'
 by_cases h5:0<v5
 ·cases rest
  ·obtain⟨v6,f1,f2,f3⟩:=aAB hl 6 (m:=9) (by omega)
   obtain⟨v7,f4,f5,f6⟩:=aAB hl 7 (m:=3) (by omega)
   obtain⟨q,q1,q2,q3⟩:=aAN (k:=8) (p:=v6-4) (q:=1+v7) (by omega) (by omega) (by omega) (by omega)
   have e2:bW ((n:Int)-1)=some ((n-1:Nat):Int):=yB (m:=0) (by omega) (by omega)
   have e3:bW (v6-4)=some (v6-4):=oA (by omega)
   have e4:bW (1+v7)=some (1+v7):=oA (by omega)
   refine⟨⟨d,b,a.set (n-1) q,r'⟩,⟨by simp only;omega,by simp only;omega,g6,by simp only;omega,by simp only [List.length_set];omega,g5,fun x hx=>?_,fun x hx=>(d1' x hx).1,d2',d1'⟩,⟨6+n,fun K hK=>?_⟩⟩
   ·rcases List.mem_or_eq_of_mem_set hx with h|h
    ·exact g4 x h
    ·rw [h];exact q3
   ·simp only [kY,a1,oB,e1,g7 K K (by omega),jU,b1,dT h5,d8,Bool.not_false,e2,f1,e3,f4,e4,q1,aHZ (l:=a) (i:=n-1) (by omega),stG (xs:=a) (i:=n-1) (v:=q) (by omega),jV,d3' K K (by omega) (by omega),k5]
  ·refine⟨⟨d,b,a,r'⟩,⟨by simp only;omega,by simp only;omega,g6,by simp only;omega,by simp only;omega,g5,g4,fun x hx=>(d1' x hx).1,d2',d1'⟩,⟨6+n,fun K hK=>?_⟩⟩
   simp only [kY,a1,oB,e1,g7 K K (by omega),jU,b1,dT h5,d8,Bool.not_true,dS,jV,d3' K K (by omega) (by omega),k5]
 ·refine⟨⟨d,b,a,r⟩,⟨by simp only;omega,by simp only;omega,g6,by simp only;omega,by simp only;omega,g5,g4,fun x hx=>(d1 x hx).1,d2,d1⟩,⟨6+n,fun K hK=>?_⟩⟩
  simp only [kY,a1,oB,e1,g7 K K (by omega),jU,b1,dF h5,dS,nP,d3 K K (by omega) (by omega),nK]
end Go.Proofs.YtcjdedkdoagifaaGreat
set_option linter.unusedVariables false
namespace Go.Proofs.YtcjdedkdoagifaaGreat
/-- What a term adds to a rate. -/
def trm (a:List Rat) (t:aG):Rat:=bif decide (0≤t.dof∧t.dof<(a.length:Int)) then t.k*yN a t.dof.toNat else 0
def rtf (a:List Rat):List aG→Rat→Rat
 |[],x=>x
 |t::l,x=>rtf a l (x+trm a t)
def rt (l:List aG) (a:List Rat):Rat:=rtf a l 0
theorem aGj {a:List Rat} {B:Nat} {t:aG} (ha:vV B a) (ht:Bd 8 t.k):Bd (8+B) (trm a t):=by
 unfold trm
 by_cases h:0≤t.dof∧t.dof<(a.length:Int)
 ·rw [decide_eq_true h]
  exact(ht.mul (ha _ (aAS (by omega)))).mono (by omega)
 ·rw [decide_eq_false h]
  exact Bd.zero.mono (by omega)
theorem aH9 {a:List Rat} {B:Nat} (ha:vV B a):∀(l:List aG) (x:Rat) (n:Nat),(∀t∈l,Bd 8 t.k)→Bd n x→Bd (n+(B+9)*l.length) (rtf a l x)
 |[],x,n,_,hx=>hx.mono (by simp)
 |t::l,x,n,hl,hx=>(aH9 ha l (x+trm a t) (n+(8+B)+1) (fun t h=>hl t (List.mem_cons_of_mem _ h)) (hx.add (aGj ha (hl t List.mem_cons_self)))).mono (by simp only [List.length_cons,Nat.mul_succ];omega)
theorem z9 {a:List Rat} {B:Nat} {l:List aG} (ha:vV B a) (hl:TB l):Bd (1+(B+9)*12) (rt l a):=(aH9 ha l 0 1 hl.2 Bd.zero).mono (by have:=Nat.mul_le_mul_left (B+9) hl.1;omega)
theorem aGY {a:List Rat} {l:List aG} (ha:vV 64 a) (hl:TB l):Bd 1000 (rt l a):=(z9 ha hl).mono (by omega)
theorem aDG {l:List aG} {i:Nat} (h:i<l.length):∃x,x∈l∧l.drop i=x::l.drop (i+1)∧dC l (i:Int)=some x:=
 ⟨l[i],List.getElem_mem h,List.drop_eq_getElem_cons h,rdG (List.getElem?_eq_getElem h)⟩
theorem aCh {a:List Rat} {t:aG} (x:Rat) (h:¬(0≤t.dof∧t.dof<(a.length:Int))):x+trm a t=x:=by
 unfold trm;rw [decide_eq_false h];exact Rat.add_zero x
theorem aHc {a:List Rat} {B:Nat} {l:List aG} (ha:vV B a) (hl:TB l) (K:Nat):∀(t i k n:Nat) (x:Rat),i+t=l.length→t<k→Bd n x→n+(B+9)*t≤1073741824→lS K l a k x (i:Int)=some (rtf a (l.drop i) x)
 |0,i,k,n,x,hi,hk,hx,hn=>by
  obtain⟨k',rfl,_⟩:=cU hk
  rw [List.drop_eq_nil_of_le (by omega)]
  simp only [lS,dF (show¬(i:Int)<(l.length:Int) by omega),dS];rfl
 |t+1,i,k,n,x,hi,hk,hx,hn=>by
  have h12:=hl.1
  obtain⟨k',rfl,_⟩:=cU hk
  obtain⟨y,h1,h2,h3⟩:=aDG (l:=l) (i:=i) (by omega)
  have hB:(B+9)*(t+1)=(B+9)*t+(B+9):=Nat.mul_succ _ _
  have ih:=aHc ha hl K t (i+1) k' (n+(8+B)+1) (x+trm a y) (by omega) (by omega) (hx.add (aGj ha (hl.2 y h1))) (by omega)
  rw [h2]
  show _=some (rtf a (l.drop (i+1)) (x+trm a y))
  simp only [lS,dT (show(i:Int)<(l.length:Int) by omega),d8,h3,oB]
  by_cases h0:0≤y.dof
  ·simp only [dT h0,d8]
   by_cases h4:y.dof<(a.length:Int)
   ·have e:y.dof=((y.dof.toNat:Nat):Int):=by omega
    have hr:dC a y.dof=some (yN a y.dof.toNat):=by
     have:=aHZ (l:=a) (i:=y.dof.toNat) (by omega)
     rwa [←e] at this
    have hv:=ha _ (aAS (l:=a) (i:=y.dof.toNat) (by omega))
    have ht:trm a y=y.k*yN a y.dof.toNat:=by unfold trm;rw [decide_eq_true ⟨h0,h4⟩];rfl
    rw [ht] at ih ⊢
    simp only [dT h4,d8,hr,oB,tP (hl.2 y h1) hv (by omega) (by omega),vS hx ((hl.2 y h1).mul hv) (by omega) (by omega),tI (i:=i) (by omega)]
    exact ih
   ·rw [aCh x (fun h=>h4 h.2)] at ih ⊢
    simp only [dF h4,dS,tI (i:=i) (by omega),oB]
    exact ih
  ·rw [aCh x (fun h=>h0 h.1)] at ih ⊢
   simp only [dF h0,dS,tI (i:=i) (by omega),oB]
   exact ih
theorem wP {a:List Rat} {B:Nat} {l:List aG} (ha:vV B a) (hB:B≤80000000) (hl:TB l) {K:Nat} (hK:13≤K):gZ K l a=some (rt l a):=by
 have h:=hl.1
 have h2:=Nat.mul_le_mul_left (B+9) h
 have:=aHc ha hl K l.length 0 K 1 0 (by omega) (by omega) Bd.zero (by omega)
 simp only [Int.natCast_zero,List.drop_zero] at this
 simp only [gZ,this,oB,uK];rfl
theorem aG3 {a:List Rat} {l:List aG} (ha:vV 64 a) (hl:TB l) {K:Nat} (hK:13≤K):gZ K l a=some (rt l a):=wP ha (by omega) hl hK
theorem aFB {a:List Rat} {B:Nat} {l:List aG} (ha:vV B a) (hl:TB l) (K:Nat):∀(t i k n:Nat) (x:Rat),i+t=l.length→t<k→Bd n x→n+(B+9)*t≤1073741824→fI K l a k x (i:Int)=some (rtf a (l.drop i) x)
 |0,i,k,n,x,hi,hk,hx,hn=>by
  obtain⟨k',rfl,_⟩:=cU hk
  rw [List.drop_eq_nil_of_le (by omega)]
  simp only [fI,dF (show¬(i:Int)<(l.length:Int) by omega),dS];rfl
 |t+1,i,k,n,x,hi,hk,hx,hn=>by
  have h12:=hl.1
  obtain⟨k',rfl,_⟩:=cU hk
  obtain⟨y,h1,h2,h3⟩:=aDG (l:=l) (i:=i) (by omega)
  have hB:(B+9)*(t+1)=(B+9)*t+(B+9):=Nat.mul_succ _ _
  have ih:=aFB ha hl K t (i+1) k' (n+(8+B)+1) (x+trm a y) (by omega) (by omega) (hx.add (aGj ha (hl.2 y h1))) (by omega)
  rw [h2]
  show _=some (rtf a (l.drop (i+1)) (x+trm a y))
  simp only [fI,dT (show(i:Int)<(l.length:Int) by omega),d8,h3,oB]
  by_cases h0:0≤y.dof
  ·simp only [dT h0,d8]
   by_cases h4:y.dof<(a.length:Int)
   ·have e:max y.dof 0=((y.dof.toNat:Nat):Int):=by omega
    have hr:dC a (max y.dof 0)=some (yN a y.dof.toNat):=by
     rw [e];exact aHZ (l:=a) (i:=y.dof.toNat) (by omega)
    have hv:=ha _ (aAS (l:=a) (i:=y.dof.toNat) (by omega))
    have ht:trm a y=y.k*yN a y.dof.toNat:=by unfold trm;rw [decide_eq_true ⟨h0,h4⟩];rfl
    rw [ht] at ih ⊢
    simp only [dT h4,d8,hr,oB,tP (hl.2 y h1) hv (by omega) (by omega),vS hx ((hl.2 y h1).mul hv) (by omega) (by omega),tI (i:=i) (by omega)]
    exact ih
   ·rw [aCh x (fun h=>h4 h.2)] at ih ⊢
    simp only [dF h4,dS,tI (i:=i) (by omega),oB]
    exact ih
  ·rw [aCh x (fun h=>h0 h.1)] at ih ⊢
   simp only [dF h0,dS,tI (i:=i) (by omega),oB]
   exact ih
theorem aAf {a:List Rat} {B:Nat} {l:List aG} (ha:vV B a) (hB:B≤80000000) (hl:TB l) {K:Nat} (hK:13≤K):gH K l a=some (rt l a):=by
 have h:=hl.1
 have h2:=Nat.mul_le_mul_left (B+9) h
 have:=aFB ha hl K l.length 0 K 1 0 (by omega) (by omega) Bd.zero (by omega)
 simp only [Int.natCast_zero,List.drop_zero] at this
 simp only [gH,this,oB,o9];rfl
theorem aFO {a:List Rat} {l:List aG} (ha:vV 64 a) (hl:TB l) {K:Nat} (hK:13≤K):gH K l a=some (rt l a):=aAf ha (by omega) hl hK
theorem aJ6 {x:Rat} (h:0<x):x.num.sign=1:=by
 have h1:=Rat.num_nonneg.2 (Rat.le_of_lt h)
 have h2:x.num≠0:=fun e=>by rw [Rat.num_eq_zero.1 e] at h;exact Rat.lt_irrefl h
 exact Int.sign_eq_one_of_pos (by omega)
theorem aKH {x:Rat} (h:x<0):0< -x:=by
 have:=Rat.neg_lt_neg h
 rwa [Rat.neg_zero] at this
theorem aJW {x:Rat} (h:x<0):x.num.sign=-1:=by
 have h1:=aJ6 (aKH h)
 rw [Rat.neg_num,Int.sign_neg] at h1
 omega
theorem aBF {l:List aH} {i:Nat} (h:i<l.length):∃x,x∈l∧l.drop i=x::l.drop (i+1)∧dC l (i:Int)=some x:=
 ⟨l[i],List.getElem_mem h,List.drop_eq_getElem_cons h,rdG (List.getElem?_eq_getElem h)⟩
theorem aLO {l:List aH} {f:aH→Option Bool} {b:aH→Bool} (hf:∀r∈l,f r=some (b r)) (hl:l.length≤1000) (K:Nat):∀(t i k:Nat),i+t=l.length→t<k→
  (l.drop i).any b=false∧eR K l f k (i:Int)=some (.go ())∨(l.drop i).any b=true∧∃j:Nat,eR K l f k (i:Int)=some (.ret (j:Int))
 |0,i,k,hi,hk=>by
  obtain⟨k',rfl,_⟩:=cU hk
  refine .inl ⟨by rw [List.drop_eq_nil_of_le (by omega)];rfl,?_⟩
  simp only [eR,dF (show¬(i:Int)<(l.length:Int) by omega),dS]
 |t+1,i,k,hi,hk=>by
  obtain⟨k',rfl,_⟩:=cU hk
  obtain⟨x,h1,h2,h3⟩:=aBF (l:=l) (i:=i) (by omega)
  rw [h2]
  simp only [eR,dT (show(i:Int)<(l.length:Int) by omega),d8,h3,oB,hf x h1,List.any_cons]
  cases b x
  ·simp only [dS,Bool.false_or,tI (i:=i) (by omega),oB]
   exact aLO hf hl K t (i+1) k' (by omega) (by omega)
  ·exact .inr ⟨rfl,i,by simp only [d8]⟩
theorem aH0 {l:List aH} {f:aH→Option Bool} {b:aH→Bool} (hf:∀r∈l,f r=some (b r)) (hl:l.length≤1000) {K:Nat} (hK:l.length<K):fS K l f=some (l.any b):=by
 have:=aLO hf hl K l.length 0 K (by omega) hK
 simp only [Int.natCast_zero,List.drop_zero] at this
 rcases this with⟨h1,h2⟩|⟨h1,y,h2⟩
 ·simp only [fS,lH,h2,oB,mA,h1];rfl
 ·simp only [fS,lH,h2,oB,h1,dT (show(0:Int)≤(y:Int) by omega)]
theorem aJP (K:Nat):qR (K+40)=some true:=by kernel_rfl
end Go.Proofs.YtcjdedkdoagifaaGreat
set_option linter.unusedVariables false
namespace Go.Proofs.YtcjdedkdoagifaaGreat
def u7 (l:List aG) (i:Nat):aG:=l.getD i ⟨0,0⟩
theorem aCq {l:List aG} {i:Nat} (h:i<l.length):dC l (i:Int)=some (u7 l i):=rdD _ h
theorem wC {l:List aG} {i:Nat} (h:i<l.length):u7 l i∈l:=by
 unfold u7
 simp only [List.getD_eq_getElem?_getD,List.getElem?_eq_getElem h,Option.getD_some]
 exact List.getElem_mem h
def tk (n:Nat) (l:List aG) (i:Nat):Bool:=decide (0≤(u7 l i).dof∧(u7 l i).dof<(n:Int)∧(0<i→(u7 l (i-1)).dof<(u7 l i).dof))
def tks (n:Nat) (l:List aG):Nat→Nat→Bool
 |0,_=>true
 |t+1,i=>tk n l i&&tks n l t (i+1)
def tOk (n:Nat) (l:List aG):Bool:=tks n l l.length 0
theorem wV {m:Nat} {a:Rat} (ha:Bd m a) (hm:m≤1073741824):aAq a=some true:=by unfold aAq;rw [ha.qs hm];rfl
theorem aE6 {n:Nat} {l:List aG} (hl:TB l) (K:Nat):∀(t i k:Nat),i+t=l.length→t<k→kZ K l (n:Int) k (i:Int)=some (bif tks n l t i then .go () else .ret false)
 |0,i,k,hi,hk=>by
  obtain⟨k',rfl,_⟩:=cU hk
  simp only [kZ,dF (show¬(i:Int)<(l.length:Int) by omega),dS,tks,d8]
 |t+1,i,k,hi,hk=>by
  have h12:=hl.1
  obtain⟨k',rfl,_⟩:=cU hk
  have hb:=wV (hl.2 _ (wC (l:=l) (i:=i) (by omega))) (by omega)
  have ih:=aE6 (n:=n) hl K t (i+1) k' (by omega) (by omega)
  simp only [kZ,dT (show(i:Int)<(l.length:Int) by omega),d8,aCq (l:=l) (i:=i) (by omega),oB,hb,Bool.not_true,dS,tks,tI (i:=i) (by omega)]
  by_cases h0:(u7 l i).dof<0
  ·have e:tk n l i=false:=decide_eq_false (by omega)
   simp only [dT h0,d8,e,Bool.false_and,dS]
  ·simp only [dF h0,dS]
   by_cases h1:(n:Int)≤(u7 l i).dof
   ·have e:tk n l i=false:=decide_eq_false (by omega)
    simp only [dT h1,d8,e,Bool.false_and,dS]
   ·simp only [dF h1,dS]
    by_cases h2:0<i
    ·have e1:bW ((i:Int)-1)=some ((i-1:Nat):Int):=by rw [oA (by omega)];congr 1;omega
     simp only [dT (show(0:Int)<(i:Int) by omega),d8,e1,oB,aCq (l:=l) (i:=i-1) (by omega)]
     by_cases h3:(u7 l i).dof≤(u7 l (i-1)).dof
     ·have e:tk n l i=false:=decide_eq_false (by omega)
      simp only [dT h3,d8,e,Bool.false_and,dS]
     ·have e:tk n l i=true:=decide_eq_true (by omega)
      simp only [dF h3,dS,e,Bool.true_and]
      exact ih
    ·have e:tk n l i=true:=decide_eq_true (by omega)
     simp only [dF (show¬(0:Int)<(i:Int) by omega),dS,e,Bool.true_and]
     exact ih
theorem aFT {n:Nat} {l:List aG} (hl:TB l) {K:Nat} (hK:13≤K):rW K l (n:Int)=some (tOk n l):=by
 have h:=hl.1
 have:=aE6 (n:=n) hl K l.length 0 K (by omega) (by omega)
 simp only [Int.natCast_zero] at this
 simp only [rW,this,oB,tA,tOk]
 cases tks n l l.length 0<;>rfl
theorem aDw {n:Nat} {l:List aG} (hl:TB l) (K:Nat):∀(t i k:Nat),i+t=l.length→t<k→f9 K l (n:Int) k (i:Int)=some (bif tks n l t i then .go () else .ret false)
 |0,i,k,hi,hk=>by
  obtain⟨k',rfl,_⟩:=cU hk
  simp only [f9,dF (show¬(i:Int)<(l.length:Int) by omega),dS,tks,d8]
 |t+1,i,k,hi,hk=>by
  have h12:=hl.1
  obtain⟨k',rfl,_⟩:=cU hk
  have hb:=wV (hl.2 _ (wC (l:=l) (i:=i) (by omega))) (by omega)
  have ih:=aDw (n:=n) hl K t (i+1) k' (by omega) (by omega)
  simp only [f9,dT (show(i:Int)<(l.length:Int) by omega),d8,aCq (l:=l) (i:=i) (by omega),oB,hb,Bool.not_true,dS,tks,tI (i:=i) (by omega)]
  by_cases h0:(u7 l i).dof<0
  ·have e:tk n l i=false:=decide_eq_false (by omega)
   simp only [dT h0,d8,e,Bool.false_and,dS]
  ·simp only [dF h0,dS]
   by_cases h1:(n:Int)≤(u7 l i).dof
   ·have e:tk n l i=false:=decide_eq_false (by omega)
    simp only [dT h1,d8,e,Bool.false_and,dS]
   ·simp only [dF h1,dS]
    by_cases h2:0<i
    ·have e1:bW ((i:Int)-1)=some ((i-1:Nat):Int):=by rw [oA (by omega)];congr 1;omega
     have e2:max (((i-1:Nat):Int)) 0=((i-1:Nat):Int):=by omega
     simp only [dT (show(0:Int)<(i:Int) by omega),d8,e1,oB,e2,aCq (l:=l) (i:=i-1) (by omega)]
     by_cases h3:(u7 l i).dof≤(u7 l (i-1)).dof
     ·have e:tk n l i=false:=decide_eq_false (by omega)
      simp only [dT h3,d8,e,Bool.false_and,dS]
     ·have e:tk n l i=true:=decide_eq_true (by omega)
      simp only [dF h3,dS,e,Bool.true_and]
      exact ih
    ·have e:tk n l i=true:=decide_eq_true (by omega)
     simp only [dF (show¬(0:Int)<(i:Int) by omega),dS,e,Bool.true_and]
     exact ih
theorem aDP {n:Nat} {l:List aG} (hl:TB l) {K:Nat} (hK:13≤K):lW K l (n:Int)=some (tOk n l):=by
 have h:=hl.1
 have:=aDw (n:=n) hl K l.length 0 K (by omega) (by omega)
 simp only [Int.natCast_zero] at this
 simp only [lW,this,oB,oF,tOk]
 cases tks n l l.length 0<;>rfl
theorem aGx {l:List Rat} (hl:vV 64 l) (hn:l.length≤1000) (K:Nat):∀(t i k:Nat),i+t=l.length→t<k→fP K l qZ k (i:Int)=some (.go ())
 |0,i,k,hi,hk=>by
  obtain⟨k',rfl,_⟩:=cU hk
  simp only [fP,dF (show¬(i:Int)<(l.length:Int) by omega),dS]
 |t+1,i,k,hi,hk=>by
  obtain⟨k',rfl,_⟩:=cU hk
  simp only [fP,dT (show(i:Int)<(l.length:Int) by omega),d8,aHZ (l:=l) (i:=i) (by omega),oB,qZ,wV (hl _ (aAS (l:=l) (i:=i) (by omega))) (by omega),Bool.not_true,dS,tI (i:=i) (by omega)]
  exact aGx hl hn K t (i+1) k' (by omega) (by omega)
theorem aG6 {l:List Rat} (hl:vV 64 l) (hn:l.length≤1000) {K:Nat} (hK:l.length<K):rO K l=some true:=by
 have:=aGx hl hn K l.length 0 K (by omega) (by omega)
 simp only [Int.natCast_zero] at this
 simp only [rO,mE,oJ,this,oB,mH];rfl
theorem aFk {l:List Rat} (hl:vV 64 l) (hn:l.length≤1000) (K:Nat):∀(t i k:Nat),i+t=l.length→t<k→iT K l k (i:Int)=some (.go ())
 |0,i,k,hi,hk=>by
  obtain⟨k',rfl,_⟩:=cU hk
  simp only [iT,dF (show¬(i:Int)<(l.length:Int) by omega),dS]
 |t+1,i,k,hi,hk=>by
  obtain⟨k',rfl,_⟩:=cU hk
  simp only [iT,dT (show(i:Int)<(l.length:Int) by omega),d8,aHZ (l:=l) (i:=i) (by omega),oB,wV (hl _ (aAS (l:=l) (i:=i) (by omega))) (by omega),Bool.not_true,dS,tI (i:=i) (by omega)]
  exact aFk hl hn K t (i+1) k' (by omega) (by omega)
theorem aFg {l:List Rat} (hl:vV 64 l) (hn:l.length≤1000) {K:Nat} (hK:l.length<K):mM K l=some true:=by
 have:=aFk hl hn K l.length 0 K (by omega) (by omega)
 simp only [Int.natCast_zero] at this
 simp only [mM,this,oB,pA]
structure SB (d:List aT) (f v:List Rat) (l:List aH):Prop where
 sd:∀x∈d,Bd 8 x.inv
 dl:d.length≤100
 sf:vV 64 f
 fl:f.length≤100
 sv:vV 64 v
 vl:v.length≤100
 sl:RsC l
 ll:l.length≤100
def aCJ (x:aT):Bool:=decide (0<x.inv.num.sign)
def vE (n:Nat) (v:List Rat) (r:aH):Bool:=tOk n r.j&&tOk n r.t&&decide (0≤r.mu.num.sign)
def oO (v:List Rat) (r:aH):Bool:=decide ((rt r.j v).num.sign=0)
def aA1 (d:List aT) (f v:List Rat) (l:List aH):Bool:=decide (d.length≤12∧f.length=d.length∧v.length=d.length)&&d.all aCJ&&l.all fun r=>vE d.length v r&&oO v r
theorem aDM {l:List aT} {i:Nat} (h:i<l.length):∃x,x∈l∧l.drop i=x::l.drop (i+1)∧dC l (i:Int)=some x:=
 ⟨l[i],List.getElem_mem h,List.drop_eq_getElem_cons h,rdG (List.getElem?_eq_getElem h)⟩
theorem aFp {a0:aQ} (hd:∀x∈a0.dofs,Bd 8 x.inv) (hl:a0.dofs.length≤100) (K:Nat):∀(t i k:Nat),i+t=a0.dofs.length→t<k→iB K a0 k (i:Int)=some (bif(a0.dofs.drop i).all aCJ then .go () else .ret false)
 |0,i,k,hi,hk=>by
  obtain⟨k',rfl,_⟩:=cU hk
  rw [List.drop_eq_nil_of_le (by omega)]
  simp only [iB,dF (show¬(i:Int)<(a0.dofs.length:Int) by omega),dS];rfl
 |t+1,i,k,hi,hk=>by
  obtain⟨k',rfl,_⟩:=cU hk
  obtain⟨x,h1,h2,h3⟩:=aDM (l:=a0.dofs) (i:=i) (by omega)
  have hb:=hd x h1
  rw [h2,List.all_cons]
  simp only [iB,dT (show(i:Int)<(a0.dofs.length:Int) by omega),d8,h3,oB,wV hb (by omega),Bool.not_true,dS,sI hb (by omega)]
  by_cases h:x.inv.num.sign≤0
  ·have e:aCJ x=false:=decide_eq_false (by omega)
   simp only [dT h,d8,e,Bool.false_and,dS]
  ·have e:aCJ x=true:=decide_eq_true (by omega)
   simp only [dF h,dS,e,Bool.true_and,tI (i:=i) (by omega),oB]
   exact aFp hd hl K t (i+1) k' (by omega) (by omega)
theorem aDy {d:List aT} (hd:∀x∈d,Bd 8 x.inv) (hl:d.length≤100) (K:Nat):∀(t i k:Nat),i+t=d.length→t<k→gC K d k (i:Int)=some (bif(d.drop i).all aCJ then .go () else .ret false)
 |0,i,k,hi,hk=>by
  obtain⟨k',rfl,_⟩:=cU hk
  rw [List.drop_eq_nil_of_le (by omega)]
  simp only [gC,dF (show¬(i:Int)<(d.length:Int) by omega),dS];rfl
 |t+1,i,k,hi,hk=>by
  obtain⟨k',rfl,_⟩:=cU hk
  obtain⟨x,h1,h2,h3⟩:=aDM (l:=d) (i:=i) (by omega)
  have hb:=hd x h1
  rw [h2,List.all_cons]
  simp only [gC,dT (show(i:Int)<(d.length:Int) by omega),d8,h3,oB,wV hb (by omega),Bool.not_true,dS,sI hb (by omega)]
  by_cases h:x.inv.num.sign≤0
  ·have e:aCJ x=false:=decide_eq_false (by omega)
   simp only [dT h,d8,e,Bool.false_and,dS]
  ·have e:aCJ x=true:=decide_eq_true (by omega)
   simp only [dF h,dS,e,Bool.true_and,tI (i:=i) (by omega),oB]
   exact aDy hd hl K t (i+1) k' (by omega) (by omega)
theorem aIt {a0:aQ} {n:Nat} {r:aH} (hv:vV 64 a0.v) (hr:RC r) {K:Nat} (hK:13≤K):k7 K (n:Int) a0 r=some (!(vE n a0.v r&&oO a0.v r)):=by
 simp only [k7,aFT hr.1.1 hK,aFT hr.1.2 hK,oB,wV hr.2 (by omega),Bool.not_true,dS,sI hr.2 (by omega),aG3 hv hr.1.1 hK,sI (aGY hv hr.1.1) (by omega),vE,oO]
 cases tOk n r.j
 ·rfl
 ·cases tOk n r.t
  ·rfl
  ·by_cases h:r.mu.num.sign<0
   ·simp only [Bool.not_true,dS,dT h,d8,dF (show¬0≤r.mu.num.sign by omega)];rfl
   ·simp only [Bool.not_true,dS,dF h,dT (show 0≤r.mu.num.sign by omega),Bool.true_and]
    by_cases h2:(rt r.j a0.v).num.sign=0
    ·rw [dT h2,nF h2];rfl
    ·rw [dF h2,nT h2];rfl
theorem aGN {d:List aT} {f v:List Rat} {l:List aH} (h:SB d f v l) {K:Nat} (hK:200≤K):kX K ⟨d,f,v,l⟩=some (aA1 d f v l):=by
 have hdl:=h.dl
 have hfl:=h.fl
 have hvl:=h.vl
 have hll:=h.ll
 have e1:=aFp (a0:=⟨d,f,v,l⟩) h.sd h.dl K d.length 0 K (by simp) (by omega)
 have e2:=aH0 (l:=l) (b:=fun r=>!(vE d.length v r&&oO v r)) (fun r hr=>aIt (a0:=⟨d,f,v,l⟩) (n:=d.length) h.sv (h.sl r hr) (K:=K) (by omega)) (by omega) (show l.length<K by omega)
 simp only [Int.natCast_zero,List.drop_zero] at e1
 have e3:(!l.any fun r=>!(vE d.length v r&&oO v r))=l.all fun r=>vE d.length v r&&oO v r:=by
  rw [List.not_any_eq_all_not];congr;funext r;rw [Bool.not_not]
 simp only [kX,aG6 h.sf (by omega) (show f.length<K by omega),aG6 h.sv (by omega) (show v.length<K by omega),e1,oH,e2,oB,Bool.not_true,dS,e3,aA1]
 by_cases h1:d.length≤12
 ·by_cases h2:f.length=d.length
  ·by_cases h3:v.length=d.length
   ·simp only [dF (show¬(12:Int)<(d.length:Int) by omega),nF (show(f.length:Int)=(d.length:Int) by omega),nF (show(v.length:Int)=(d.length:Int) by omega),dS,decide_eq_true (show d.length≤12∧f.length=d.length∧v.length=d.length from⟨h1,h2,h3⟩),Bool.true_and]
    cases d.all aCJ<;>rfl
   ·simp only [dF (show¬(12:Int)<(d.length:Int) by omega),nF (show(f.length:Int)=(d.length:Int) by omega),nT (show(v.length:Int)≠(d.length:Int) by omega),dS,d8,decide_eq_false (show¬(d.length≤12∧f.length=d.length∧v.length=d.length) from fun h=>h3 h.2.2),Bool.false_and]
  ·simp only [dF (show¬(12:Int)<(d.length:Int) by omega),nT (show(f.length:Int)≠(d.length:Int) by omega),dS,d8,decide_eq_false (show¬(d.length≤12∧f.length=d.length∧v.length=d.length) from fun h=>h2 h.2.1),Bool.false_and]
 ·simp only [dT (show(12:Int)<(d.length:Int) by omega),d8,decide_eq_false (show¬(d.length≤12∧f.length=d.length∧v.length=d.length) from fun h=>h1 h.1),Bool.false_and]
theorem aDF {d:List aT} {v:List Rat} {l:List aH} (hl:RsC l) (hn:l.length≤100) {K:Nat} (hK:13≤K):∀(t i k:Nat),i+t=l.length→t<k→gF K d l k (i:Int)=some (bif(l.drop i).all (vE d.length v) then .go () else .ret false)
 |0,i,k,hi,hk=>by
  obtain⟨k',rfl,_⟩:=cU hk
  rw [List.drop_eq_nil_of_le (by omega)]
  simp only [gF,dF (show¬(i:Int)<(l.length:Int) by omega),dS];rfl
 |t+1,i,k,hi,hk=>by
  obtain⟨k',rfl,_⟩:=cU hk
  obtain⟨r,h1,h2,h3⟩:=aBF (l:=l) (i:=i) (by omega)
  have hr:=hl r h1
  have ih:=aDF (d:=d) (v:=v) hl hn hK t (i+1) k' (by omega) (by omega)
  rw [h2,List.all_cons]
  simp only [gF,dT (show(i:Int)<(l.length:Int) by omega),d8,h3,oB,aDP hr.1.1 hK,aDP hr.1.2 hK,wV hr.2 (by omega),Bool.not_true,dS,sI hr.2 (by omega)]
  unfold vE at ih ⊢
  cases tOk d.length r.j
  ·rfl
  ·cases tOk d.length r.t
   ·rfl
   ·by_cases h:r.mu.num.sign<0
    ·simp only [Bool.not_true,dS,dT h,d8,dF (show¬0≤r.mu.num.sign by omega)];rfl
    ·simp only [Bool.not_true,dS,dF h,dT (show 0≤r.mu.num.sign by omega),Bool.true_and,tI (i:=i) (by omega),oB]
     exact ih
theorem aDX {v:List Rat} {l:List aH} (hv:vV 64 v) (hl:RsC l) (hn:l.length≤100) {K:Nat} (hK:13≤K):∀(t i k:Nat),i+t=l.length→t<k→jQ K v l k (i:Int)=some (bif(l.drop i).all (oO v) then .go () else .ret false)
 |0,i,k,hi,hk=>by
  obtain⟨k',rfl,_⟩:=cU hk
  rw [List.drop_eq_nil_of_le (by omega)]
  simp only [jQ,dF (show¬(i:Int)<(l.length:Int) by omega),dS];rfl
 |t+1,i,k,hi,hk=>by
  obtain⟨k',rfl,_⟩:=cU hk
  obtain⟨r,h1,h2,h3⟩:=aBF (l:=l) (i:=i) (by omega)
  have hr:=hl r h1
  rw [h2,List.all_cons]
  simp only [jQ,dT (show(i:Int)<(l.length:Int) by omega),d8,h3,oB,aFO hv hr.1.1 hK,sI (aGY hv hr.1.1) (by omega)]
  by_cases h:(rt r.j v).num.sign=0
  ·have e:oO v r=true:=decide_eq_true h
   simp only [nF h,dS,e,Bool.true_and,tI (i:=i) (by omega),oB]
   exact aDX hv hl hn hK t (i+1) k' (by omega) (by omega)
  ·have e:oO v r=false:=decide_eq_false h
   simp only [nT h,d8,e,Bool.false_and,dS]
theorem aFw {α:Type} {p q:α→Bool}:∀l:List α,(l.all fun x=>p x&&q x)=(l.all p&&l.all q)
 |[]=>rfl
 |x::l=>by
  rw [List.all_cons,List.all_cons,List.all_cons,aFw l]
  cases p x<;>cases q x<;>cases l.all p<;>rfl
theorem aIG {d:List aT} {f v:List Rat} {l:List aH} (h:SB d f v l) {K:Nat} (hK:200≤K):qB K d f v l=some (aA1 d f v l):=by
 have hdl:=h.dl
 have hfl:=h.fl
 have hvl:=h.vl
 have hll:=h.ll
 have e1:=aDy (d:=d) h.sd h.dl K d.length 0 K (by simp) (by omega)
 have e2:=aDF (d:=d) (v:=v) h.sl h.ll (K:=K) (by omega) l.length 0 K (by omega) (by omega)
 have e3:=aDX h.sv h.sl h.ll (K:=K) (by omega) l.length 0 K (by omega) (by omega)
 simp only [Int.natCast_zero,List.drop_zero] at e1 e2 e3
 simp only [qB,qE,aFg h.sf (by omega) (show f.length<K by omega),aFg h.sv (by omega) (show v.length<K by omega),e1,mV,e2,mY,e3,qI,oB,Bool.not_true,dS,aA1,aFw (p:=vE d.length v) (q:=oO v)]
 by_cases h1:d.length≤12
 ·by_cases h2:f.length=d.length
  ·by_cases h3:v.length=d.length
   ·simp only [dF (show¬(12:Int)<(d.length:Int) by omega),nF (show(f.length:Int)=(d.length:Int) by omega),nF (show(v.length:Int)=(d.length:Int) by omega),dS,decide_eq_true (show d.length≤12∧f.length=d.length∧v.length=d.length from⟨h1,h2,h3⟩),Bool.true_and]
    cases d.all aCJ
    ·rfl
    ·cases l.all (vE d.length v)
     ·rfl
     ·cases l.all (oO v)<;>rfl
   ·simp only [dF (show¬(12:Int)<(d.length:Int) by omega),nF (show(f.length:Int)=(d.length:Int) by omega),nT (show(v.length:Int)≠(d.length:Int) by omega),dS,d8,decide_eq_false (show¬(d.length≤12∧f.length=d.length∧v.length=d.length) from fun h=>h3 h.2.2),Bool.false_and,oB,Bool.not_false]
  ·simp only [dF (show¬(12:Int)<(d.length:Int) by omega),nT (show(f.length:Int)≠(d.length:Int) by omega),dS,d8,decide_eq_false (show¬(d.length≤12∧f.length=d.length∧v.length=d.length) from fun h=>h2 h.2.1),Bool.false_and,oB,Bool.not_false]
 ·simp only [dT (show(12:Int)<(d.length:Int) by omega),d8,decide_eq_false (show¬(d.length≤12∧f.length=d.length∧v.length=d.length) from fun h=>h1 h.1),Bool.false_and,oB,Bool.not_false]
end Go.Proofs.YtcjdedkdoagifaaGreat
set_option linter.unusedVariables false
namespace Go.Proofs.YtcjdedkdoagifaaGreat
/-- What the terms say of a degree of freedom. -/
def cf:List aG→Nat→Rat
 |[],_=>0
 |t::l,i=>(if t.dof=(i:Int) then t.k else 0)+cf l i
def InT (n:Nat) (l:List aG):Prop:=∀t∈l,0≤t.dof∧t.dof<(n:Int)
theorem aIJ {n:Nat} {l:List aG}:∀(t i:Nat),tks n l t i=true→∀j,i≤j→j<i+t→tk n l j=true
 |0,i,h,j,h1,h2=>by omega
 |t+1,i,h,j,h1,h2=>by
  have h3:(tk n l i&&tks n l t (i+1))=true:=h
  rw [Bool.and_eq_true] at h3
  by_cases e:j=i
  ·rw [e];exact h3.1
  ·exact aIJ t (i+1) h3.2 j (by omega) (by omega)
theorem aJg {n:Nat} {l:List aG} (h:tOk n l=true):InT n l:=fun t ht=>by
 obtain⟨i,hi,rfl⟩:=List.getElem_of_mem ht
 have:=of_decide_eq_true (aIJ l.length 0 h i (by omega) (by omega))
 have e:u7 l i=l[i]:=by unfold u7;simp [List.getD_eq_getElem?_getD,hi]
 rw [e] at this
 exact⟨this.1,this.2.1⟩
theorem aLz {A B t:Nat} (h:A+(B+9)*(t+1)≤1073741824):A+(8+B)+1+(B+9)*t≤1073741824∧A≤1073741824∧B≤1073741824:=by
 rw [Nat.mul_succ] at h;omega
theorem aK4 {g:Nat→Rat} {n A B e:Nat} {v:Rat} (hg:∀j,j<n→Bd A (g j)) (hAB:A≤B) (hv:Bd B v):∀j,j<n→Bd B (vC g e v j):=fun j hj=>by
 by_cases h:j=e
 ·rw [h,lF];exact hv
 ·rw [sX h];exact(hg j hj).mono hAB
theorem aJI {g:Nat→Rat} {n e:Nat} {y:aG} {l:List aG} {c:Rat} (he:y.dof=(e:Int)):mp (fun j=>vC g e (g e+y.k*c) j+cf l j*c) n=mp (fun j=>g j+cf (y::l) j*c) n:=hY fun j _=>by
 show _=g j+((if y.dof=(j:Int) then y.k else 0)+cf l j)*c
 by_cases h:j=e
 ·subst h;rw [lF,if_pos he,Rat.add_mul,Rat.add_assoc]
 ·rw [sX h,if_neg (by omega),Rat.zero_add]
theorem aKd {n C:Nat} {l:List aG} {c:Rat} (hl:∀t∈l,Bd 8 t.k) (hi:InT n l) (hc:Bd C c) (Fl:Nat→List Rat→Int→Option (List Rat)) (h0:∀k x,Fl (k+1) x (l.length:Int)=some x)
  (h1:∀k (g:Nat→Rat) (i A:Nat),i<l.length→(∀j,j<n→Bd A (g j))→A≤1073741824→C≤1073741824→∀(e:Nat),(u7 l i).dof=(e:Int)→e<n→Fl (k+1) (mp g n) (i:Int)=Fl k (mp (vC g e (g e+(u7 l i).k*c)) n) ((i+1:Nat):Int)):
  ∀(t i k A:Nat) (g:Nat→Rat),i+t=l.length→t<k→(∀j,j<n→Bd A (g j))→A+(C+9)*t≤1073741824→Fl k (mp g n) (i:Int)=some (mp (fun j=>g j+cf (l.drop i) j*c) n)∧∀j,j<n→Bd (A+(C+9)*t) (g j+cf (l.drop i) j*c)
 |0,i,k,A,g,hi',hk,hg,hA=>by
  obtain⟨k',rfl,_⟩:=cU hk
  have e:i=l.length:=by omega
  subst e
  have e2:∀j,g j+cf (l.drop l.length) j*c=g j:=fun j=>by rw [List.drop_eq_nil_of_le (Nat.le_refl _)];show g j+0*c=g j;rw [Rat.zero_mul,Rat.add_zero]
  refine⟨?_,fun j hj=>by rw [e2];exact(hg j hj).mono (by omega)⟩
  rw [h0,hY (g:=g) fun j _=>e2 j]
 |t+1,i,k,A,g,hi',hk,hg,hA=>by
  obtain⟨k',rfl,_⟩:=cU hk
  have hil:i<l.length:=by omega
  obtain⟨b1,b2,b3⟩:=aLz hA
  obtain⟨m1,m2⟩:=hi _ (wC hil)
  have he:(u7 l i).dof=(((u7 l i).dof.toNat:Nat):Int):=by omega
  have hv:=(hg _ (show(u7 l i).dof.toNat<n by omega)).add ((hl _ (wC hil)).mul hc)
  have ih:=aKd hl hi hc Fl h0 h1 t (i+1) k' (A+(8+C)+1) (vC g (u7 l i).dof.toNat (g (u7 l i).dof.toNat+(u7 l i).k*c)) (by omega) (by omega) (aK4 hg (by omega) hv) b1
  have ed:l.drop i=u7 l i::l.drop (i+1):=by
   rw [List.drop_eq_getElem_cons hil];unfold u7;simp [List.getD_eq_getElem?_getD,hil]
  have e3:=aJI (n:=n) (g:=g) (l:=l.drop (i+1)) (c:=c) he
  rw [h1 k' g i A hil hg b2 b3 _ he (by omega),ih.1,ed,e3]
  refine⟨rfl,fun j hj=>?_⟩
  have e4:=congrArg (fun x=>yN x j) e3
  simp only [aDa hj] at e4
  rw [←e4]
  exact(ih.2 j hj).mono (by rw [Nat.mul_succ];omega)
theorem aI6 {n C:Nat} {l:List aG} {c:Rat} (hl:TB l) (hi:InT n l) (hc:Bd C c) {A:Nat} {g:Nat→Rat} (hg:∀j,j<n→Bd A (g j)) (hA:A+(C+9)*12≤1073741824) (hn:n≤1000) {K:Nat} (hK:13≤K):
  nG K (mp g n) l c=some (mp (fun j=>g j+cf l j*c) n)∧∀j,j<n→Bd (A+(C+9)*12) (g j+cf l j*c):=by
 have h12:=hl.1
 have hm:=Nat.mul_le_mul_left (C+9) h12
 have key:=aKd (n:=n) hl.2 hi hc (fun k x i=>iW K l c k x i) (fun k x=>by
  simp only [iW,dF (show¬(l.length:Int)<(l.length:Int) by omega),dS]) (fun k g i A hil hg h1 h2 e he hen=>by
  have hk:=hl.2 _ (wC hil)
  simp only [iW,dT (show(i:Int)<(l.length:Int) by omega),d8,aCq hil,oB,he,sN (f:=g) hen,tP hk hc (by omega) h2,vS (hg e hen) (hk.mul hc) h1 (by omega),y8 (f:=g) hen,tI (i:=i) (by omega)]) l.length 0 K A g (by omega) (by omega) hg (by omega)
 simp only [Int.natCast_zero,List.drop_zero] at key
 have ha:qO ([]:List Rat) (mp g n)=some (mp g n):=by rw [wD (by simp [mp];omega)];rfl
 refine⟨?_,fun j hj=>(key.2 j hj).mono (by omega)⟩
 simp only [nG,ha,oB,key.1,pD]
def pK (l:List aH) (i:Nat):aH:=l.getD i ⟨0,0,0,0,0,[],[],0,0⟩
theorem aB5 {l:List aH} {i:Nat} (h:i<l.length):dC l (i:Int)=some (pK l i):=rdD _ h
theorem uG {l:List aH} {i:Nat} (h:i<l.length):pK l i∈l:=by
 unfold pK
 simp only [List.getD_eq_getElem?_getD,List.getElem?_eq_getElem h,Option.getD_some]
 exact List.getElem_mem h
def rcq (l:List aH) (p:Nat→aO) (r j:Nat):Rat:=cf (pK l r).j j*(p r).n+cf (pK l r).t j*(p r).f
def uM (l:List aH) (p:Nat→aO) (m j:Nat):Rat:=sm (fun r=>rcq l p r j) m
def InR (n:Nat) (l:List aH):Prop:=∀r∈l,InT n r.j∧InT n r.t
def PB' (C m:Nat) (p:Nat→aO):Prop:=∀r,r<m→Bd C (p r).n∧Bd C (p r).f
theorem aKg {A C t:Nat} (h:A+(C+9)*24*(t+1)≤1073741824):A+(C+9)*12≤1073741824∧A+(C+9)*12+(C+9)*12≤1073741824∧A+(C+9)*12+(C+9)*12+(C+9)*24*t≤1073741824:=by
 rw [Nat.mul_succ ((C+9)*24) t] at h
 generalize(C+9)*24*t=x at *
 omega
theorem aGt {g:Nat→Rat} {l:List aH} {p:Nat→aO} {i n:Nat} (f:Nat→Rat) (hg:g=fun j=>f j+uM l p i j):mp (fun j=>g j+cf (pK l i).j j*(p i).n+cf (pK l i).t j*(p i).f) n=mp (fun j=>f j+uM l p (i+1) j) n:=hY fun j _=>by
 subst hg
 show f j+uM l p i j+_+_=f j+(uM l p i j+rcq l p i j)
 unfold rcq
 rw [Rat.add_assoc,Rat.add_assoc]
theorem aCc {n C:Nat} {l:List aH} {p:Nat→aO} (hl:RsB l) (hr:InR n l) (hp:PB' C l.length p) (f:Nat→Rat) (hn:n≤1000) (hll:l.length≤1000) {K:Nat} (hK:13≤K):
  ∀(t i k A:Nat),i+t=l.length→t<k→(∀j,j<n→Bd A (f j+uM l p i j))→A+(C+9)*24*t≤1073741824→iR K l (mp p l.length) k (mp (fun j=>f j+uM l p i j) n) (i:Int)=some (mp (fun j=>f j+uM l p l.length j) n)∧∀j,j<n→Bd (A+(C+9)*24*t) (f j+uM l p l.length j)
 |0,i,k,A,hi',hk,hg,hA=>by
  obtain⟨k',rfl,_⟩:=cU hk
  have e:i=l.length:=by omega
  subst e
  exact⟨by simp only [iR,dF (show¬(l.length:Int)<(l.length:Int) by omega),dS],fun j hj=>(hg j hj).mono (by omega)⟩
 |t+1,i,k,A,hi',hk,hg,hA=>by
  obtain⟨k',rfl,_⟩:=cU hk
  have hil:i<l.length:=by omega
  obtain⟨b1,b2,b3⟩:=aKg hA
  have hm:=uG hil
  obtain⟨p1,p2⟩:=hp i hil
  obtain⟨e1,f1⟩:=aI6 (hl _ hm).1 (hr _ hm).1 p1 hg b1 hn hK
  obtain⟨e2,f2⟩:=aI6 (hl _ hm).2 (hr _ hm).2 p2 f1 b2 hn hK
  have e3:=aGt (n:=n) (l:=l) (p:=p) (i:=i) f rfl
  have f3:∀j,j<n→Bd (A+(C+9)*12+(C+9)*12) (f j+uM l p (i+1) j):=fun j hj=>by
   have:=congrArg (fun x=>yN x j) e3
   simp only [aDa hj] at this
   rw [←this];exact f2 j hj
  obtain⟨i1,i2⟩:=aCc hl hr hp f hn hll hK t (i+1) k' _ (by omega) (by omega) f3 b3
  have hms:(C+9)*24*(t+1)=(C+9)*24*t+(C+9)*24:=Nat.mul_succ _ _
  refine⟨?_,fun j hj=>(i2 j hj).mono (by omega)⟩
  simp only [iR,dT (show(i:Int)<(l.length:Int) by omega),d8,aB5 hil,sN (f:=p) hil,oB,e1,e2,e3,tI (i:=i) (by omega)]
  exact i1
def zK (d:List aT) (i:Nat):aT:=d.getD i ⟨0,0,false,0,0⟩
theorem aJn {d:List aT} {i:Nat} (h:i<d.length):dC d (i:Int)=some (zK d i):=rdD _ h
theorem aC0 {d:List aT} {i:Nat} (h:i<d.length):zK d i∈d:=by
 unfold zK
 simp only [List.getD_eq_getElem?_getD,List.getElem?_eq_getElem h,Option.getD_some]
 exact List.getElem_mem h
def acc (d:List aT) (f:Nat→Rat) (l:List aH) (p:Nat→aO) (j:Nat):Rat:=(f j+uM l p l.length j)*(zK d j).inv
def aIo (A C m:Nat):Nat:=A+(C+9)*24*m+8
theorem aGv {d:List aT} {f s:Nat→Rat} {A B:Nat} (hd:∀x∈d,Bd 8 x.inv) (hn:d.length≤1000) (hf:∀j,j<d.length→Bd A (f j)) (hs:∀j,j<d.length→Bd B (s j)) (hA:A≤500000000) (hB:B≤500000000) (K:Nat):
  ∀(t i k:Nat),i+t=d.length→t<k→eA K d (mp f d.length) (mp s d.length) k (mp (fun j=>(zK d j).inv*(f j+s j)) i) (i:Int)=some (mp (fun j=>(zK d j).inv*(f j+s j)) d.length)
 |0,i,k,hi,hk=>by
  obtain⟨k',rfl,_⟩:=cU hk
  have e:i=d.length:=by omega
  subst e
  simp only [eA,dF (show¬(d.length:Int)<(d.length:Int) by omega),dS]
 |t+1,i,k,hi,hk=>by
  obtain⟨k',rfl,_⟩:=cU hk
  have hil:i<d.length:=by omega
  have hv:=hd _ (aC0 hil)
  simp only [eA,dT (show(i:Int)<(d.length:Int) by omega),d8,aJn hil,sN (f:=f) hil,sN (f:=s) hil,oB,vS (hf i hil) (hs i hil) (by omega) (by omega),tP hv ((hf i hil).add (hs i hil)) (by omega) (by omega),apM (g:=fun j=>(zK d j).inv*(f j+s j)) (i:=i) (by omega),tI (i:=i) (by omega)]
  exact aGv hd hn hf hs hA hB K t (i+1) k' (by omega) (by omega)
theorem aJB {d:List aT} {f:Nat→Rat} {l:List aH} {p:Nat→aO} {A C:Nat} (hd:∀x∈d,Bd 8 x.inv) (hn:d.length≤1000) (hf:∀j,j<d.length→Bd A (f j)) (hl:RsB l) (hr:InR d.length l) (hll:l.length≤1000) (hp:PB' C l.length p) (hA:A≤400000000) (hC:(C+9)*24*l.length≤400000000) {K:Nat} (hK:2000≤K):
  iX K d (mp f d.length) l (mp p l.length)=some (mp (acc d f l p) d.length):=by
 have z:mp (fun j=>(0:Rat)+uM l p 0 j) d.length=mp (fun _=>(0:Rat)) d.length:=hY fun j _=>by show(0:Rat)+0=0;exact Rat.add_zero 0
 obtain⟨s1,s2⟩:=aCc (p:=p) hl hr hp (fun _=>(0:Rat)) hn hll (show 13≤K by omega) l.length 0 K 1 (by omega) (by omega) (fun j hj=>by show Bd 1 ((0:Rat)+0);rw [Rat.add_zero];exact Bd.zero) (by omega)
 rw [z] at s1
 have s3:∀j,j<d.length→Bd 400000001 ((0:Rat)+uM l p l.length j):=fun j hj=>(s2 j hj).mono (by omega)
 have a1:=aGv hd hn hf s3 (by omega) (by omega) K d.length 0 K (by omega) (by omega)
 simp only [Int.natCast_zero,aBh] at s1 a1
 have e:mp (fun j=>(zK d j).inv*(f j+((0:Rat)+uM l p l.length j))) d.length=mp (acc d f l p) d.length:=hY fun j _=>by rw [Rat.zero_add,Rat.mul_comm];rfl
 simp only [iX,sH,aD6 (z:=(0:Rat)) (n:=d.length) (by omega),oB,s1,pH,a1,jE,e]
theorem aEA {d:List aT} {f:Nat→Rat} {l:List aH} {p:Nat→aO} {A C:Nat} (hd:∀x∈d,Bd 8 x.inv) (hf:∀j,j<d.length→Bd A (f j)) (hl:RsB l) (hr:InR d.length l) (hp:PB' C l.length p) (hn:d.length≤1000) (hll:l.length≤1000) (hA:A≤400000000) (hC:(C+9)*24*l.length≤400000000):vV (aIo A C l.length) (mp (acc d f l p) d.length):=aF0 fun j hj=>by
 obtain⟨_,s2⟩:=aCc (p:=p) hl hr hp f hn hll (K:=1013) (by omega) l.length 0 (l.length+1) A (by omega) (by omega) (fun j hj=>by show Bd A (f j+0);rw [Rat.add_zero];exact hf j hj) (by omega)
 exact(s2 j hj).mul (hd _ (aC0 hj))
theorem aJr {n C:Nat} {a2:List aO} {r:Nat} {v72:aH} {q:aO} (hq:dC a2 (r:Int)=some q) (hl:TB v72.j) (hi:InT n v72.j) (hc:Bd C q.n) {A:Nat} {g:Nat→Rat} (hg:∀j,j<n→Bd A (g j)) (hA:A+(C+9)*12≤1073741824) {K:Nat} (hK:13≤K):
  dP K a2 (r:Int) v72 K (mp g n) 0=some (mp (fun j=>g j+cf v72.j j*q.n) n)∧∀j,j<n→Bd (A+(C+9)*12) (g j+cf v72.j j*q.n):=by
 have h12:=hl.1
 have hm:=Nat.mul_le_mul_left (C+9) h12
 have key:=aKd (n:=n) hl.2 hi hc (fun k x i=>dP K a2 (r:Int) v72 k x i) (fun k x=>by
  simp only [dP,dF (show¬(v72.j.length:Int)<(v72.j.length:Int) by omega),dS]) (fun k g i A hil hg h1 h2 e he hen=>by
  have hk:=hl.2 _ (wC hil)
  simp only [dP,dT (show(i:Int)<(v72.j.length:Int) by omega),d8,aCq hil,oB,he,sN (f:=g) hen,hq,tP hk hc (by omega) h2,vS (hg e hen) (hk.mul hc) h1 (by omega),y8 (f:=g) hen,tI (i:=i) (by omega)]) v72.j.length 0 K A g (by omega) (by omega) hg (by omega)
 simp only [Int.natCast_zero,List.drop_zero] at key
 exact⟨key.1,fun j hj=>(key.2 j hj).mono (by omega)⟩
theorem aHT {n C:Nat} {a2:List aO} {r:Nat} {v72:aH} {q:aO} (hq:dC a2 (r:Int)=some q) (hl:TB v72.t) (hi:InT n v72.t) (hc:Bd C q.f) {A:Nat} {g:Nat→Rat} (hg:∀j,j<n→Bd A (g j)) (hA:A+(C+9)*12≤1073741824) {K:Nat} (hK:13≤K):
  dL K a2 (r:Int) v72 K (mp g n) 0=some (mp (fun j=>g j+cf v72.t j*q.f) n)∧∀j,j<n→Bd (A+(C+9)*12) (g j+cf v72.t j*q.f):=by
 have h12:=hl.1
 have hm:=Nat.mul_le_mul_left (C+9) h12
 have key:=aKd (n:=n) hl.2 hi hc (fun k x i=>dL K a2 (r:Int) v72 k x i) (fun k x=>by
  simp only [dL,dF (show¬(v72.t.length:Int)<(v72.t.length:Int) by omega),dS]) (fun k g i A hil hg h1 h2 e he hen=>by
  have hk:=hl.2 _ (wC hil)
  simp only [dL,dT (show(i:Int)<(v72.t.length:Int) by omega),d8,aCq hil,oB,he,sN (f:=g) hen,hq,tP hk hc (by omega) h2,vS (hg e hen) (hk.mul hc) h1 (by omega),y8 (f:=g) hen,tI (i:=i) (by omega)]) v72.t.length 0 K A g (by omega) (by omega) hg (by omega)
 simp only [Int.natCast_zero,List.drop_zero] at key
 exact⟨key.1,fun j hj=>(key.2 j hj).mono (by omega)⟩
theorem aE2 {a0:aQ} {n C:Nat} {p:Nat→aO} (hl:RsB a0.rows) (hr:InR n a0.rows) (hp:PB' C a0.rows.length p) (f:Nat→Rat) (hn:n≤1000) (hll:a0.rows.length≤1000) {K:Nat} (hK:13≤K):
  ∀(t i k A:Nat),i+t=a0.rows.length→t<k→(∀j,j<n→Bd A (f j+uM a0.rows p i j))→A+(C+9)*24*t≤1073741824→dE K a0 (mp p a0.rows.length) k (mp (fun j=>f j+uM a0.rows p i j) n) (i:Int)=some (mp (fun j=>f j+uM a0.rows p a0.rows.length j) n)
 |0,i,k,A,hi',hk,hg,hA=>by
  obtain⟨k',rfl,_⟩:=cU hk
  have e:i=a0.rows.length:=by omega
  subst e
  simp only [dE,dF (show¬(a0.rows.length:Int)<(a0.rows.length:Int) by omega),dS]
 |t+1,i,k,A,hi',hk,hg,hA=>by
  obtain⟨k',rfl,_⟩:=cU hk
  have hil:i<a0.rows.length:=by omega
  obtain⟨b1,b2,b3⟩:=aKg hA
  have hm:=uG hil
  obtain⟨p1,p2⟩:=hp i hil
  have hq:=sN (f:=p) hil
  obtain⟨e1,f1⟩:=aJr hq (hl _ hm).1 (hr _ hm).1 p1 hg b1 hK
  obtain⟨e2,f2⟩:=aHT hq (hl _ hm).2 (hr _ hm).2 p2 f1 b2 hK
  have e3:=aGt (n:=n) (l:=a0.rows) (p:=p) (i:=i) f rfl
  have f3:∀j,j<n→Bd (A+(C+9)*12+(C+9)*12) (f j+uM a0.rows p (i+1) j):=fun j hj=>by
   have:=congrArg (fun x=>yN x j) e3
   simp only [aDa hj] at this
   rw [←this];exact f2 j hj
  simp only [dE,dT (show(i:Int)<(a0.rows.length:Int) by omega),d8,aB5 hil,oB,e1,jH,e2,e3,jA,tI (i:=i) (by omega)]
  exact aE2 hl hr hp f hn hll hK t (i+1) k' _ (by omega) (by omega) f3 b3
theorem aE1 {a0:aQ} {B:Nat} (hd:∀x∈a0.dofs,Bd 8 x.inv) (hn:a0.dofs.length≤1000) (hB:B≤1000000000) (h:Nat→Rat) (hh:∀j,j<a0.dofs.length→Bd B (h j)) (K:Nat):
  ∀(t i k:Nat),i+t=a0.dofs.length→t<k→eC K a0 k (mp (fun j=>if j<i then h j*(zK a0.dofs j).inv else h j) a0.dofs.length) (i:Int)=some (mp (fun j=>h j*(zK a0.dofs j).inv) a0.dofs.length)
 |0,i,k,hi,hk=>by
  obtain⟨k',rfl,_⟩:=cU hk
  have e:i=a0.dofs.length:=by omega
  subst e
  simp only [eC,dF (show¬(a0.dofs.length:Int)<(a0.dofs.length:Int) by omega),dS]
  exact congrArg some (hY fun j hj=>if_pos hj)
 |t+1,i,k,hi,hk=>by
  obtain⟨k',rfl,_⟩:=cU hk
  have hil:i<a0.dofs.length:=by omega
  have e1:(fun j=>if j<i then h j*(zK a0.dofs j).inv else h j) i=h i:=if_neg (by omega)
  have e2:mp (vC (fun j=>if j<i then h j*(zK a0.dofs j).inv else h j) i (h i*(zK a0.dofs i).inv)) a0.dofs.length=mp (fun j=>if j<i+1 then h j*(zK a0.dofs j).inv else h j) a0.dofs.length:=hY fun j hj=>by
   by_cases e:j=i
   ·subst e;rw [lF,if_pos (by omega)]
   ·rw [sX e]
    by_cases hlt:j<i
    ·rw [if_pos hlt,if_pos (by omega)]
    ·rw [if_neg hlt,if_neg (by omega)]
  simp only [eC,dT (show(i:Int)<(a0.dofs.length:Int) by omega),d8,aJn hil,sN (f:=fun j=>if j<i then h j*(zK a0.dofs j).inv else h j) hil,e1,oB,tP (hh i hil) (hd _ (aC0 hil)) (by omega) (by omega),y8 (f:=fun j=>if j<i then h j*(zK a0.dofs j).inv else h j) hil,e2,tI (i:=i) (by omega)]
  exact aE1 hd hn hB h hh K t (i+1) k' (by omega) (by omega)
theorem aIq {x:List Rat} (hn:x.length≤60000000000):oR x=some x:=by
 unfold oR
 first|(rw [wD (by simp;omega)];rfl)|(simp [wD (show([]:List Rat).length+x.length≤60000000000 by simp;omega)])
theorem aHl {d:List aT} {f0 v0:List Rat} {f:Nat→Rat} {l:List aH} {p:Nat→aO} {A C:Nat} (hd:∀x∈d,Bd 8 x.inv) (hn:d.length≤1000) (hf:∀j,j<d.length→Bd A (f j)) (hl:RsB l) (hr:InR d.length l) (hll:l.length≤1000) (hp:PB' C l.length p) (hA:A≤400000000) (hC:(C+9)*24*l.length≤400000000) {K:Nat} (hK:2000≤K):
  cD K ⟨d,f0,v0,l⟩ (mp f d.length) (mp p l.length)=some (mp (acc d f l p) d.length):=by
 have z:mp (fun j=>f j+uM l p 0 j) d.length=mp f d.length:=hY fun j _=>Rat.add_zero _
 have hz:∀j,j<d.length→Bd A (f j+uM l p 0 j):=fun j hj=>by show Bd A (f j+0);rw [Rat.add_zero];exact hf j hj
 have s1:=aE2 (a0:=⟨d,f0,v0,l⟩) (p:=p) hl hr hp f hn hll (show 13≤K by omega) l.length 0 K A (by simp) (by omega) hz (by omega)
 obtain⟨_,s2⟩:=aCc (p:=p) hl hr hp f hn hll (K:=1013) (by omega) l.length 0 (l.length+1) A (by omega) (by omega) hz (by omega)
 have s3:=aE1 (a0:=⟨d,f0,v0,l⟩) (B:=900000000) hd hn (by omega) (fun j=>f j+uM l p l.length j) (fun j hj=>(s2 j hj).mono (by omega)) K d.length 0 K (by simp) (by omega)
 simp only at s1 s3
 rw [z] at s1
 have e0:mp (fun j=>if j<0 then(f j+uM l p l.length j)*(zK d j).inv else f j+uM l p l.length j) d.length=mp (fun j=>f j+uM l p l.length j) d.length:=hY fun j _=>if_neg (by omega)
 rw [e0] at s3
 simp only [Int.natCast_zero] at s1 s3
 have hc:=aIq (x:=mp f d.length) (by rw [tG];omega)
 simp only [cD,hc,oB,s1,jG,s3,jI]
 rfl
end Go.Proofs.YtcjdedkdoagifaaGreat
set_option linter.unusedVariables false
namespace Go.Proofs.YtcjdedkdoagifaaGreat
/-- Whether a row sticks. -/
def stk (v:List Rat) (r:aH):Bool:=decide (0<r.t.length)&&decide ((rt r.t v).num.sign=0)
def blk (v:List Rat) (l:List aH) (i:Nat):List (Nat×Nat):=(i,0)::(bif stk v (pK l i) then [(i,1),(i,2),(i,3)] else [])
def wT (v:List Rat) (l:List aH):Nat→List (Nat×Nat)
 |0=>[]
 |i+1=>wT v l i++blk v l i
def off (v:List Rat) (l:List aH):Nat→Nat
 |0=>0
 |i+1=>off v l i+(bif stk v (pK l i) then 4 else 1)
theorem wY {v:List Rat} {l:List aH}:∀m,(wT v l m).length=off v l m
 |0=>rfl
 |m+1=>by
  show(wT v l m++blk v l m).length=off v l m+_
  rw [List.length_append,wY m]
  unfold blk
  cases stk v (pK l m)<;>rfl
theorem sU {v:List Rat} {l:List aH}:∀m,off v l m≤4*m
 |0=>Nat.le_refl _
 |m+1=>by
  have:=sU (v:=v) (l:=l) m
  show off v l m+_≤_
  cases stk v (pK l m)
  ·show off v l m+1≤_;omega
  ·show off v l m+4≤_;omega
def vq (v:List Rat) (l:List aH) (r q:Nat):Prop:=q=0∨(stk v (pK l r)=true∧q≤3)
theorem aFb {v:List Rat} {l:List aH} {r q:Nat} (h:vq v l r q):off v l r+q<off v l (r+1):=by
 show _<off v l r+(bif stk v (pK l r) then 4 else 1)
 rcases h with h|⟨h,h2⟩
 ·rw [h];cases stk v (pK l r)<;>simp
 ·rw [h];show _<off v l r+4;omega
theorem aIT {v:List Rat} {l:List aH} {r m:Nat} (h:r≤m):off v l r≤off v l m:=by
 induction m with
 |zero=>
  have:r=0:=by omega
  rw [this];exact Nat.le_refl _
 |succ m ih=>
  by_cases e:r=m+1
  ·rw [e];exact Nat.le_refl _
  ·have h1:=ih (by omega)
   have h2:=aFb (v:=v) (l:=l) (r:=m) (q:=0) (.inl rfl)
   omega
theorem tD {v:List Rat} {l:List aH} {r m q:Nat} (h:r<m) (hq:vq v l r q):off v l r+q<off v l m:=Nat.lt_of_lt_of_le (aFb hq) (aIT h)
theorem aCi {v:List Rat} {l:List aH} {r q:Nat} (hq:vq v l r q):∀m,r<m→(wT v l m)[off v l r+q]?=some (r,q)
 |0,h=>by omega
 |m+1,h=>by
  show(wT v l m++blk v l m)[off v l r+q]?=some (r,q)
  by_cases e:r=m
  ·subst e
   rw [List.getElem?_append_right (by rw [wY];omega),wY,Nat.add_sub_cancel_left]
   unfold blk
   rcases hq with hq|⟨h1,h2⟩
   ·rw [hq];rfl
   ·rw [h1]
    have:q=0∨q=1∨q=2∨q=3:=by omega
    rcases this with rfl|rfl|rfl|rfl<;>rfl
  ·rw [List.getElem?_append_left (by rw [wY];exact tD (by omega) hq)]
   exact aCi hq m (by omega)
theorem u8 {v:List Rat} {l:List aH}:∀m k,k<off v l m→∃r q,r<m∧vq v l r q∧k=off v l r+q
 |0,k,h=>by exact absurd h (Nat.not_lt_zero _)
 |m+1,k,h=>by
  by_cases e:k<off v l m
  ·obtain⟨r,q,h1,h2,h3⟩:=u8 m k e
   exact⟨r,q,by omega,h2,h3⟩
  ·have h':k<off v l m+(bif stk v (pK l m) then 4 else 1):=h
   refine⟨m,k-off v l m,by omega,?_,by omega⟩
   cases hs:stk v (pK l m)
   ·rw [hs] at h';have:k<off v l m+1:=h';exact .inl (by omega)
   ·rw [hs] at h';have:k<off v l m+4:=h';exact .inr ⟨hs,by omega⟩
theorem aEK {v:List Rat} {l:List aH} {r q r' q':Nat} (h:vq v l r q) (h':vq v l r' q') (e:off v l r+q=off v l r'+q'):r=r'∧q=q':=by
 have key:r=r':=by
  rcases Nat.lt_trichotomy r r' with h1|h1|h1
  ·have:=tD h1 h;omega
  ·exact h1
  ·have:=tD h1 h';omega
 subst key
 exact⟨rfl,by omega⟩
def pu (x:Nat×Nat):aK:=⟨(x.1:Int),(x.2:Int)⟩
def ru (x:Nat×Nat):bB:=⟨(x.1:Int),(x.2:Int)⟩
theorem aGD {d:List aT} {f v:List Rat} {l:List aH} {r:aH} (hv:vV 64 v) (hr:RB r) {K:Nat} (hK:13≤K):kW K ⟨d,f,v,l⟩ r=some (rt r.t v).num.sign:=by
 simp only [kW,aG3 hv hr.2 hK,oB,sI (aGY hv hr.2) (by omega)]
theorem aFF {v:List Rat} {r:aH} (hv:vV 64 v) (hr:RB r) {K:Nat} (hK:13≤K):mQ K r v=some (rt r.t v).num.sign:=by
 simp only [mQ,aFO hv hr.2 hK,oB,sI (aGY hv hr.2) (by omega)]
theorem apA {α:Type} {xs ys:List α} (h:xs.length+ys.length≤60000000000):qO xs ys=some (xs++ys):=wD (by omega)
theorem aA7 {d:List aT} {f v:List Rat} {l:List aH} (hv:vV 64 v) (hl:RsB l) (hn:l.length≤1000) {K:Nat} (hK:13≤K):∀(t i k:Nat),i+t=l.length→t<k→dZ K ⟨d,f,v,l⟩ k ((wT v l i).map pu) (i:Int)=some ((wT v l l.length).map pu)
 |0,i,k,hi,hk=>by
  obtain⟨k',rfl,_⟩:=cU hk
  have e:i=l.length:=by omega
  subst e
  simp only [dZ,dF (show¬(l.length:Int)<(l.length:Int) by omega),dS]
 |t+1,i,k,hi,hk=>by
  obtain⟨k',rfl,_⟩:=cU hk
  have hil:i<l.length:=by omega
  have hr:=hl _ (uG hil)
  have h4:=sU (v:=v) (l:=l) i
  have hlen:((wT v l i).map pu).length=off v l i:=by rw [List.length_map,wY]
  have ih:=aA7 (d:=d) (f:=f) hv hl hn hK t (i+1) k' (by omega) (by omega)
  have e1:qO ((wT v l i).map pu) [(⟨(i:Int),0⟩:aK)]=some ((wT v l i).map pu++[(⟨(i:Int),0⟩:aK)]):=apA (by rw [hlen];simp;omega)
  have e2:qO ((wT v l i).map pu++[(⟨(i:Int),0⟩:aK)]) [(⟨(i:Int),1⟩:aK),⟨(i:Int),2⟩,⟨(i:Int),3⟩]=some ((wT v l i).map pu++[(⟨(i:Int),0⟩:aK)]++[(⟨(i:Int),1⟩:aK),⟨(i:Int),2⟩,⟨(i:Int),3⟩]):=apA (by rw [List.length_append,hlen];simp;omega)
  have e3:(wT v l (i+1)).map pu=(wT v l i).map pu++(blk v l i).map pu:=List.map_append
  rw [e3] at ih
  simp only [dZ,dT (show(i:Int)<(l.length:Int) by omega),d8,aB5 hil,oB,e1]
  unfold blk stk at ih
  by_cases h0:0<(pK l i).t.length
  ·simp only [dT (show(0:Int)<((pK l i).t.length:Int) by omega),d8,aGD hv hr hK,oB]
   by_cases h1:(rt (pK l i).t v).num.sign=0
   ·simp only [qT h1,d8,e2,oB,tI (i:=i) (by omega)]
    rw [decide_eq_true h0,decide_eq_true h1] at ih
    rw [List.append_assoc]
    exact ih
   ·simp only [qF h1,dS,tI (i:=i) (by omega),oB]
    rw [decide_eq_false h1,Bool.and_false] at ih
    exact ih
  ·simp only [dF (show¬(0:Int)<((pK l i).t.length:Int) by omega),dS,tI (i:=i) (by omega),oB]
   rw [decide_eq_false h0,Bool.false_and] at ih
   exact ih
theorem aE0 {d:List aT} {f v:List Rat} {l:List aH} (hv:vV 64 v) (hl:RsB l) (hn:l.length≤1000) {K:Nat} (hK:2000≤K):jS K ⟨d,f,v,l⟩=some ((wT v l l.length).map pu):=by
 have:=aA7 (d:=d) (f:=f) hv hl hn (show 13≤K by omega) l.length 0 K (by omega) (by omega)
 simp only [Int.natCast_zero] at this
 simp only [jS,show([]:List aK)=(wT v l 0).map pu from rfl,this,oB,lP]
theorem aAE {v:List Rat} {l:List aH} (hv:vV 64 v) (hl:RsB l) (hn:l.length≤1000) {K:Nat} (hK:13≤K):∀(t i k:Nat),i+t=l.length→t<k→d6 K v l k ((wT v l i).map ru) (i:Int)=some ((wT v l l.length).map ru)
 |0,i,k,hi,hk=>by
  obtain⟨k',rfl,_⟩:=cU hk
  have e:i=l.length:=by omega
  subst e
  simp only [d6,dF (show¬(l.length:Int)<(l.length:Int) by omega),dS]
 |t+1,i,k,hi,hk=>by
  obtain⟨k',rfl,_⟩:=cU hk
  have hil:i<l.length:=by omega
  have hr:=hl _ (uG hil)
  have h4:=sU (v:=v) (l:=l) i
  have hlen:((wT v l i).map ru).length=off v l i:=by rw [List.length_map,wY]
  have ih:=aAE hv hl hn hK t (i+1) k' (by omega) (by omega)
  have e1:qO ((wT v l i).map ru) [(⟨(i:Int),0⟩:bB)]=some ((wT v l i).map ru++[(⟨(i:Int),0⟩:bB)]):=apA (by rw [hlen];simp;omega)
  have e2:qO ((wT v l i).map ru++[(⟨(i:Int),0⟩:bB)]) [(⟨(i:Int),1⟩:bB),⟨(i:Int),2⟩,⟨(i:Int),3⟩]=some ((wT v l i).map ru++[(⟨(i:Int),0⟩:bB)]++[(⟨(i:Int),1⟩:bB),⟨(i:Int),2⟩,⟨(i:Int),3⟩]):=apA (by rw [List.length_append,hlen];simp;omega)
  have e3:(wT v l (i+1)).map ru=(wT v l i).map ru++(blk v l i).map ru:=List.map_append
  rw [e3] at ih
  simp only [d6,dT (show(i:Int)<(l.length:Int) by omega),d8,aB5 hil,oB,e1]
  unfold blk stk at ih
  by_cases h0:0<(pK l i).t.length
  ·simp only [dT (show(0:Int)<((pK l i).t.length:Int) by omega),d8,aFF hv hr hK,oB]
   by_cases h1:(rt (pK l i).t v).num.sign=0
   ·simp only [qT h1,d8,e2,oB,tI (i:=i) (by omega)]
    rw [decide_eq_true h0,decide_eq_true h1] at ih
    rw [List.append_assoc]
    exact ih
   ·simp only [qF h1,dS,tI (i:=i) (by omega),oB]
    rw [decide_eq_false h1,Bool.and_false] at ih
    exact ih
  ·simp only [dF (show¬(0:Int)<((pK l i).t.length:Int) by omega),dS,tI (i:=i) (by omega),oB]
   rw [decide_eq_false h0,Bool.false_and] at ih
   exact ih
theorem yJ {v:List Rat} {l:List aH} (hv:vV 64 v) (hl:RsB l) (hn:l.length≤1000) {K:Nat} (hK:2000≤K):iC K v l=some ((wT v l l.length).map ru):=by
 have:=aAE hv hl hn (show 13≤K by omega) l.length 0 K (by omega) (by omega)
 simp only [Int.natCast_zero] at this
 simp only [iC,show([]:List bB)=(wT v l 0).map ru from rfl,this,oB,lJ]
theorem rdU {v:List Rat} {l:List aH} {m r q:Nat} (hq:vq v l r q) (hr:r<m):dC ((wT v l m).map pu) ((off v l r+q:Nat):Int)=some ⟨(r:Int),(q:Int)⟩:=rdG (by rw [List.getElem?_map,aCi hq m hr];rfl)
theorem aLT {v:List Rat} {l:List aH} {m r q:Nat} (hq:vq v l r q) (hr:r<m):dC ((wT v l m).map ru) ((off v l r+q:Nat):Int)=some ⟨(r:Int),(q:Int)⟩:=rdG (by rw [List.getElem?_map,aCi hq m hr];rfl)
theorem wZ {v:List Rat} {l:List aH} {m:Nat}:((wT v l m).map pu).length=off v l m:=by rw [List.length_map,wY]
theorem aA8 {v:List Rat} {l:List aH} {m:Nat}:((wT v l m).map ru).length=off v l m:=by rw [List.length_map,wY]
end Go.Proofs.YtcjdedkdoagifaaGreat
set_option linter.unusedVariables false
namespace Go.Proofs.YtcjdedkdoagifaaGreat
instance vqDec {v:List Rat} {l:List aH} {r q:Nat}:Decidable (vq v l r q):=by unfold vq;infer_instance
theorem vq3 {v:List Rat} {l:List aH} {r q:Nat} (h:vq v l r q):q≤3:=by
 rcases h with h|h
 ·omega
 ·exact h.2
def ow (v:List Rat) (l:List aH) (z:Nat→Rat) (i k q:Nat):Rat:=if vq v l i q∧off v l i+q<k then z (off v l i+q) else 0
theorem aIi {v:List Rat} {l:List aH} {z:Nat→Rat} {i k r q0:Nat} (hq:vq v l r q0) (hk:k=off v l r+q0):(r=i→mp (vC (ow v l z i k) q0 (z k)) 4=mp (ow v l z i (k+1)) 4)∧(r≠i→mp (ow v l z i k) 4=mp (ow v l z i (k+1)) 4):=by
 refine⟨fun e=>hY fun q _=>?_,fun e=>hY fun q _=>?_⟩
 ·subst e
  by_cases h:q=q0
  ·subst h
   rw [lF]
   unfold ow
   rw [if_pos ⟨hq,by omega⟩,←hk]
  ·rw [sX h]
   unfold ow
   by_cases h2:vq v l r q∧off v l r+q<k
   ·rw [if_pos h2,if_pos ⟨h2.1,by omega⟩]
   ·rw [if_neg h2,if_neg fun h3=>h2 ⟨h3.1,by omega⟩]
 ·unfold ow
  by_cases h2:vq v l i q∧off v l i+q<k
  ·rw [if_pos h2,if_pos ⟨h2.1,by omega⟩]
  ·rw [if_neg h2,if_neg fun h3=>?_]
   have:off v l i+q=off v l r+q0:=by
    have:=h3.2
    by_cases e2:off v l i+q<k
    ·exact absurd ⟨h3.1,e2⟩ h2
    ·omega
   exact e (aEK h3.1 hq this).1.symm
theorem aGJ {v:List Rat} {l:List aH} {m:Nat} {z:Nat→Rat} (hm:m≤1000) (i:Nat) (K:Nat):∀(t k fu:Nat),k+t=off v l m→t<fu→fC K (mp z (off v l m)) ((wT v l m).map ru) (i:Int) fu (mp (ow v l z i k) 4) (k:Int)=some (mp (ow v l z i (off v l m)) 4)
 |0,k,fu,hi,hk=>by
  obtain⟨k',rfl,_⟩:=cU hk
  have e:k=off v l m:=by omega
  subst e
  simp only [fC,aA8,dF (show¬(off v l m:Int)<(off v l m:Int) by omega),dS]
 |t+1,k,fu,hi,hk=>by
  obtain⟨k',rfl,_⟩:=cU hk
  have hkl:k<off v l m:=by omega
  have h4:=sU (v:=v) (l:=l) m
  obtain⟨r,q,h1,h2,h3⟩:=u8 m k hkl
  have hq3:=vq3 h2
  have hu:=aLT (m:=m) h2 h1
  rw [←h3] at hu
  obtain⟨s1,s2⟩:=aIi (z:=z) (i:=i) h2 h3
  have ih:=aGJ (v:=v) (l:=l) (z:=z) hm i K t (k+1) k' (by omega) (by omega)
  simp only [fC,aA8,dT (show(k:Int)<(off v l m:Int) by omega),d8,hu,oB]
  by_cases e:r=i
  ·simp only [qT (show(r:Int)=(i:Int) by omega),d8,sN (f:=z) hkl,sN (f:=ow v l z i k) (n:=4) (i:=q) (by omega),oB,y8 (f:=ow v l z i k) (n:=4) (i:=q) (by omega),s1 e,tI (i:=k) (by omega)]
   exact ih
  ·simp only [qF (show(r:Int)≠(i:Int) by omega),dS,tI (i:=k) (by omega),oB,s2 e]
   exact ih
def pz (v:List Rat) (l:List aH) (z:Nat→Rat) (i:Nat):aO:=
 if(pK l i).t.length=0 then⟨z (off v l i),0⟩
 else if(rt (pK l i).t v).num.sign≠0 then⟨z (off v l i),(((-(rt (pK l i).t v).num.sign:Int):Rat)/((1:Int):Rat))*((pK l i).mu*z (off v l i))⟩
 else⟨z (off v l i),z (off v l i+1)-z (off v l i+2)⟩
theorem aI9 (x:Rat):-1≤x.num.sign∧x.num.sign≤1:=by
 rcases Int.lt_trichotomy x.num 0 with h|h|h
 ·rw [Int.sign_eq_neg_one_of_neg h];omega
 ·rw [h];decide
 ·rw [Int.sign_eq_one_of_pos h];omega
theorem qsg (x:Rat):y5 (-x.num.sign) 1=some (((-x.num.sign:Int):Rat)/((1:Int):Rat))∧Bd 2 (((-x.num.sign:Int):Rat)/((1:Int):Rat)):=by
 have:=aI9 x
 obtain⟨r,h1,h2,h3⟩:=aAN (k:=2) (p:=-x.num.sign) (q:=1) (by omega) (by omega) (by decide) (by omega)
 rw [←h2];exact⟨h1,h3⟩
theorem aJq {v:List Rat} {l:List aH} {z:Nat→Rat} {C:Nat} (hz:∀k,k<off v l l.length→Bd C (z k)) (hl:RsC l):PB' (2*C+11) l.length (pz v l z):=fun i hi=>by
 have h0:=hz _ (tD (v:=v) (l:=l) (r:=i) (q:=0) hi (.inl rfl))
 rw [Nat.add_zero] at h0
 have hm:=(hl _ (uG hi)).2
 unfold pz
 split
 ·exact⟨h0.mono (by omega),Bd.zero.mono (by omega)⟩
 ·rename_i ht
  split
  ·exact⟨h0.mono (by omega),((qsg _).2.mul (hm.mul h0)).mono (by omega)⟩
  ·rename_i hs
   have hst:stk v (pK l i)=true:=by
    unfold stk
    rw [decide_eq_true (show 0<(pK l i).t.length by omega),decide_eq_true (show(rt (pK l i).t v).num.sign=0 from Decidable.of_not_not hs)];rfl
   exact⟨h0.mono (by omega),((hz _ (tD (q:=1) hi (.inr ⟨hst,by omega⟩))).sub (hz _ (tD (q:=2) hi (.inr ⟨hst,by omega⟩)))).mono (by omega)⟩
theorem aDf {v:List Rat} {l:List aH} {z:Nat→Rat} {C:Nat} (hv:vV 64 v) (hl:RsC l) (hz:∀k,k<off v l l.length→Bd C (z k)) (hC:C≤500000000) (hn:l.length≤1000) {K:Nat} (hK:5000≤K):∀(t i k:Nat),i+t=l.length→t<k→fB K v l (mp z (off v l l.length)) ((wT v l l.length).map ru) k (mp (pz v l z) i) (i:Int)=some (mp (pz v l z) l.length)
 |0,i,k,hi,hk=>by
  obtain⟨k',rfl,_⟩:=cU hk
  have e:i=l.length:=by omega
  subst e
  simp only [fB,dF (show¬(l.length:Int)<(l.length:Int) by omega),dS]
 |t+1,i,k,hi,hk=>by
  obtain⟨k',rfl,_⟩:=cU hk
  have hil:i<l.length:=by omega
  have h4:=sU (v:=v) (l:=l) l.length
  have hr:=hl _ (uG hil)
  have ih:=aDf hv hl hz hC hn hK t (i+1) k' (by omega) (by omega)
  have e0:mp (ow v l z i 0) 4=mp (fun _=>(0:Rat)) 4:=hY fun q _=>if_neg (by omega)
  have e1:=aGJ (v:=v) (l:=l) (m:=l.length) (z:=z) hn i K (off v l l.length) 0 K (by omega) (by omega)
  rw [e0] at e1
  simp only [Int.natCast_zero] at e1
  have hmk:vK 4 (0:Rat)=some (mp (fun _=>(0:Rat)) 4):=aD6 (n:=4) (by omega)
  have l0:=tD (v:=v) (l:=l) (m:=l.length) (r:=i) (q:=0) hil (.inl rfl)
  have o0:ow v l z i (off v l l.length) 0=z (off v l i):=by unfold ow;rw [if_pos ⟨.inl rfl,l0⟩,Nat.add_zero]
  rw [Nat.add_zero] at l0
  have r0:dC (mp (ow v l z i (off v l l.length)) 4) 0=some (z (off v l i)):=by rw [←o0];exact sN (i:=0) (by omega)
  have hF:nU K (pK l i) v (mp (ow v l z i (off v l l.length)) 4)=some (pz v l z i):=by
   simp only [nU,aFF hv hr.1 (show 13≤K by omega),oB,r0]
   unfold pz
   by_cases ht:(pK l i).t.length=0
   ·simp only [qT (show((pK l i).t.length:Int)=0 by omega),d8,if_pos ht]
   ·simp only [qF (show((pK l i).t.length:Int)≠0 by omega),dS,if_neg ht]
    by_cases hs:(rt (pK l i).t v).num.sign=0
    ·have hst:stk v (pK l i)=true:=by
      unfold stk;rw [decide_eq_true (show 0<(pK l i).t.length by omega),decide_eq_true hs];rfl
     have l1:=tD (v:=v) (l:=l) (m:=l.length) (r:=i) (q:=1) hil (.inr ⟨hst,by omega⟩)
     have l2:=tD (v:=v) (l:=l) (m:=l.length) (r:=i) (q:=2) hil (.inr ⟨hst,by omega⟩)
     have r1:dC (mp (ow v l z i (off v l l.length)) 4) 1=some (z (off v l i+1)):=by
      have:ow v l z i (off v l l.length) 1=z (off v l i+1):=if_pos ⟨.inr ⟨hst,by omega⟩,l1⟩
      rw [←this];exact sN (i:=1) (by omega)
     have r2:dC (mp (ow v l z i (off v l l.length)) 4) 2=some (z (off v l i+2)):=by
      have:ow v l z i (off v l l.length) 2=z (off v l i+2):=if_pos ⟨.inr ⟨hst,by omega⟩,l2⟩
      rw [←this];exact sN (i:=2) (by omega)
     simp only [nF hs,dS,r1,r2,oB,aCb (hz _ l1) (hz _ l2) (by omega) (by omega),if_neg (show¬((rt (pK l i).t v).num.sign≠0) from fun h=>h hs)]
    ·have hb:=aI9 (rt (pK l i).t v)
     have hz0:=hz _ l0
     simp only [nT hs,d8,oA (show -9223372036854775808≤-(rt (pK l i).t v).num.sign∧_ by omega),oB,(qsg _).1,tP hr.2 hz0 (by omega) (by omega),tP (qsg (rt (pK l i).t v)).2 (hr.2.mul hz0) (by omega) (by omega),if_pos hs]
  simp only [fB,dT (show(i:Int)<(l.length:Int) by omega),d8,hmk,oB,e1,mZ,aB5 hil,hF,apM (g:=pz v l z) (i:=i) (by omega),tI (i:=i) (by omega)]
  exact ih
theorem aHG {v:List Rat} {l:List aH} {z:Nat→Rat} {C:Nat} (hv:vV 64 v) (hl:RsC l) (hz:∀k,k<off v l l.length→Bd C (z k)) (hC:C≤500000000) (hn:l.length≤1000) {K:Nat} (hK:5000≤K):nD K v l (mp z (off v l l.length))=some (mp (pz v l z) l.length):=by
 have:=aDf hv hl hz hC hn hK l.length 0 K (by omega) (by omega)
 simp only [Int.natCast_zero,aBh] at this
 simp only [nD,yJ hv (fun r h=>(hl r h).1) hn (show 2000≤K by omega),oB,this,mU]
def uk (v:List Rat) (l:List aH) (k:Nat):Nat×Nat:=(wT v l l.length).getD k (0,0)
theorem aGM {v:List Rat} {l:List aH} {r q:Nat} (hq:vq v l r q) (hr:r<l.length):uk v l (off v l r+q)=(r,q):=by
 unfold uk
 rw [List.getD_eq_getElem?_getD,aCi hq _ hr];rfl
def rv (v:List Rat) (l:List aH) (a:List Rat) (k:Nat):Rat:=
 if(uk v l k).2=0 then rt (pK l (uk v l k).1).j a
 else if(uk v l k).2=1 then rt (pK l (uk v l k).1).t a
 else if(uk v l k).2=2 then -(rt (pK l (uk v l k).1).t a)
 else 0
def zv (v:List Rat) (l:List aH) (z:Nat→Rat) (k:Nat):Rat:=
 if(uk v l k).2=0 then 0
 else if(uk v l k).2=1 then z (k+2)
 else if(uk v l k).2=2 then z (k+1)
 else(pK l (uk v l k).1).mu*z (k-3)-(z (k-2)+z (k-1))
def vl (v:List Rat) (l:List aH) (a:List Rat) (z:Nat→Rat) (k:Nat):Rat:=rv v l a k+zv v l z k
theorem aDk {v a:List Rat} {l:List aH} {z:Nat→Rat} {C B:Nat} (hl:RsC l) (ha:vV B a) (hB:B≤10000000) (hz:∀k,k<off v l l.length→Bd C (z k)) (hC:C≤100000000) (hn:l.length≤1000) {K:Nat} (hK:13≤K):∀(t k fu:Nat),k+t=off v l l.length→t<fu→dY K l (mp z (off v l l.length)) a ((wT v l l.length).map ru) fu (mp (vl v l a z) k) (k:Int)=some (mp (vl v l a z) (off v l l.length))
 |0,k,fu,hi,hk=>by
  obtain⟨k',rfl,_⟩:=cU hk
  have e:k=off v l l.length:=by omega
  subst e
  simp only [dY,aA8,dF (show¬(off v l l.length:Int)<(off v l l.length:Int) by omega),dS]
 |t+1,k,fu,hi,hk=>by
  obtain⟨k',rfl,_⟩:=cU hk
  have hkl:k<off v l l.length:=by omega
  have h4:=sU (v:=v) (l:=l) l.length
  obtain⟨r,q,h1,h2,h3⟩:=u8 l.length k hkl
  have hq3:=vq3 h2
  have hu:=aLT (m:=l.length) h2 h1
  rw [←h3] at hu
  have huk:=aGM h2 h1
  rw [←h3] at huk
  have hr:=hl _ (uG h1)
  have ih:=aDk hl ha hB hz hC hn hK t (k+1) k' (by omega) (by omega)
  have bj:=z9 ha hr.1.1
  have bt:=z9 ha hr.1.2
  have ap:=apM (g:=vl v l a z) (i:=k) (by omega)
  simp only [dY,aA8,dT (show(k:Int)<(off v l l.length:Int) by omega),d8,hu,oB,aB5 h1]
  have hcase:q=0∨q=1∨q=2∨q=3:=by omega
  rcases hcase with rfl|rfl|rfl|rfl
  ·have e:vl v l a z k=rt (pK l r).j a:=by unfold vl rv zv;rw [huk];exact Rat.add_zero _
   rw [e] at ap
   simp only [qT (show((0:Nat):Int)=0 from rfl),d8,aAf ha (by omega) hr.1.1 hK,oB,ap,tI (i:=k) (by omega)]
   exact ih
  ·have hst:stk v (pK l r)=true:=by rcases h2 with h|h;omega;exact h.1
   have l3:=tD (v:=v) (l:=l) (m:=l.length) (r:=r) (q:=3) h1 (.inr ⟨hst,by omega⟩)
   have e:vl v l a z k=rt (pK l r).t a+z (k+2):=by unfold vl rv zv;rw [huk];rfl
   rw [e] at ap
   have c2:bW ((k:Int)+2)=some ((k+2:Nat):Int):=by rw [oA (by omega)];rfl
   simp only [qF (show((1:Nat):Int)≠0 by omega),qT (show((1:Nat):Int)=1 from rfl),dS,d8,aAf ha (by omega) hr.1.2 hK,oB,c2,sN (f:=z) (n:=off v l l.length) (i:=k+2) (by omega),vS bt (hz (k+2) (by omega)) (by omega) (by omega),ap,tI (i:=k) (by omega)]
   exact ih
  ·have hst:stk v (pK l r)=true:=by rcases h2 with h|h;omega;exact h.1
   have l3:=tD (v:=v) (l:=l) (m:=l.length) (r:=r) (q:=3) h1 (.inr ⟨hst,by omega⟩)
   have e:vl v l a z k=z (k+1)-rt (pK l r).t a:=by
    unfold vl rv zv;rw [huk]
    show -(rt (pK l r).t a)+z (k+1)=_
    rw [Rat.add_comm,Rat.sub_eq_add_neg]
   rw [e] at ap
   simp only [qF (show((2:Nat):Int)≠0 by omega),qF (show((2:Nat):Int)≠1 by omega),qT (show((2:Nat):Int)=2 from rfl),dS,d8,tI (i:=k) (by omega),oB,sN (f:=z) (n:=off v l l.length) (i:=k+1) (by omega),aAf ha (by omega) hr.1.2 hK,aCb (hz (k+1) (by omega)) bt (by omega) (by omega),ap]
   exact ih
  ·have e:vl v l a z k=(pK l r).mu*z (k-3)-(z (k-2)+z (k-1)):=by unfold vl rv zv;rw [huk];exact Rat.zero_add _
   rw [e] at ap
   have c1:bW ((k:Int)-3)=some ((k-3:Nat):Int):=by rw [oA (by omega)];congr 1;omega
   have c2:bW ((k:Int)-2)=some ((k-2:Nat):Int):=by rw [oA (by omega)];congr 1;omega
   have c3:bW ((k:Int)-1)=some ((k-1:Nat):Int):=by rw [oA (by omega)];congr 1;omega
   have z1:=hz (k-3) (by omega)
   have z2:=hz (k-2) (by omega)
   have z3:=hz (k-1) (by omega)
   simp only [qF (show((3:Nat):Int)≠0 by omega),qF (show((3:Nat):Int)≠1 by omega),qF (show((3:Nat):Int)≠2 by omega),dS,c1,c2,c3,oB,sN (f:=z) (n:=off v l l.length) (i:=k-3) (by omega),sN (f:=z) (n:=off v l l.length) (i:=k-2) (by omega),sN (f:=z) (n:=off v l l.length) (i:=k-1) (by omega),tP hr.2 z1 (by omega) (by omega),vS z2 z3 (by omega) (by omega),aCb (hr.2.mul z1) (z2.add z3) (by omega) (by omega),ap,tI (i:=k) (by omega)]
   exact ih
theorem aLs {v a:List Rat} {l:List aH} {z:Nat→Rat} {C B:Nat} (hl:RsC l) (ha:vV B a) (hz:∀k,k<off v l l.length→Bd C (z k)) {k:Nat} (hk:k<off v l l.length):Bd (1+(B+9)*12+(3*C+20)) (vl v l a z k):=by
 obtain⟨r,q,h1,h2,h3⟩:=u8 l.length k hk
 have hq3:=vq3 h2
 have huk:=aGM h2 h1
 rw [←h3] at huk
 have hr:=hl _ (uG h1)
 have bj:=z9 ha hr.1.1
 have bt:=z9 ha hr.1.2
 have hC:∀k,k<off v l l.length→Bd (3*C+19) (z k):=fun k hk=>(hz k hk).mono (by omega)
 have b1:Bd (1+(B+9)*12) (rv v l a k):=by
  unfold rv;rw [huk]
  split
  ·exact bj
  ·split
   ·exact bt
   ·split
    ·exact bt.neg
    ·exact Bd.zero.mono (by omega)
 have b2:Bd (3*C+19) (zv v l z k):=by
  unfold zv;rw [huk]
  have hcase:q=0∨q=1∨q=2∨q=3:=by omega
  rcases hcase with rfl|rfl|rfl|rfl
  ·exact Bd.zero.mono (by omega)
  ·have hst:stk v (pK l r)=true:=by rcases h2 with h|h;omega;exact h.1
   have l3:=tD (v:=v) (l:=l) (m:=l.length) (r:=r) (q:=3) h1 (.inr ⟨hst,by omega⟩)
   exact hC _ (by omega)
  ·have hst:stk v (pK l r)=true:=by rcases h2 with h|h;omega;exact h.1
   have l3:=tD (v:=v) (l:=l) (m:=l.length) (r:=r) (q:=3) h1 (.inr ⟨hst,by omega⟩)
   exact hC _ (by omega)
  ·exact((hr.2.mul (hz (k-3) (by omega))).sub ((hz (k-2) (by omega)).add (hz (k-1) (by omega)))).mono (by omega)
 exact(b1.add b2).mono (by omega)
end Go.Proofs.YtcjdedkdoagifaaGreat
set_option linter.unusedVariables false
namespace Go.Proofs.YtcjdedkdoagifaaGreat
end Go.Proofs.YtcjdedkdoagifaaGreat
set_option linter.unusedVariables false
namespace Go.Proofs.YtcjdedkdoagifaaGreat
end Go.Proofs.YtcjdedkdoagifaaGreat
set_option linter.unusedVariables false
namespace Go.Proofs.YtcjdedkdoagifaaGreat
end Go.Proofs.YtcjdedkdoagifaaGreat
set_option linter.unusedVariables false
namespace Go.Proofs.YtcjdedkdoagifaaGreat
/-- A turned matrix. -/
def tr (g:Nat→Nat→Rat) (i k:Nat):Rat:=g k i
theorem aDC {g:Nat→Nat→Rat} {h w c:Nat} (hh:h≤100) (hc:c<w) (K:Nat):∀(t i k:Nat),i+t=h→t<k→iE K (mx g h w) (c:Int) k (mp (tr g c) i) (i:Int)=some (mp (tr g c) h)
 |0,i,k,hi,hk=>by
  obtain⟨k',rfl,_⟩:=cU hk
  have:i=h:=by omega
  subst this
  simp only [iE,aCm,dF (show¬(i:Int)<(i:Int) by omega),dS]
 |t+1,i,k,hi,hk=>by
  obtain⟨k',rfl,_⟩:=cU hk
  have hl:i<h:=by omega
  have e4:qO (mp (tr g c) i) [g i c]=some (mp (tr g c) (i+1)):=apM (g:=tr g c) (by omega)
  simp only [iE,aCm,dT (show(i:Int)<(h:Int) by omega),d8,aLG (g:=g) (w:=w) hl,oB,sN (f:=g i) hc,e4,tI (i:=i) (by omega)]
  exact aDC hh hc K t (i+1) k' (by omega) (by omega)
theorem aDD {g:Nat→Nat→Rat} {h w:Nat} (hc:Cok h w) (hh:h≤100) (hw:w≤100) {K:Nat} (hK:h<K):∀(t i k:Nat),i+t=w→t<k→fY K (mx g h w) k (mx (tr g) i h) (i:Int)=some (mx (tr g) w h)
 |0,i,k,hi,hk=>by
  obtain⟨k',rfl,_⟩:=cU hk
  have:i=w:=by omega
  subst this
  simp only [fY,aFq hc,oB,dF (show¬(i:Int)<(i:Int) by omega),dS]
 |t+1,i,k,hi,hk=>by
  obtain⟨k',rfl,_⟩:=cU hk
  have h50:=aDC (g:=g) hh (show i<w by omega) K h 0 K (by omega) hK
  simp only [Int.natCast_zero,aBh] at h50
  have e4:qO (mx (tr g) i h) [mp (tr g i) h]=some (mx (tr g) (i+1) h):=apM (g:=fun i=>mp (tr g i) h) (by omega)
  simp only [fY,aFq hc,dT (show(i:Int)<(w:Int) by omega),d8,oB,h50,oC,e4,tI (i:=i) (by omega)]
  exact aDD hc hh hw hK t (i+1) k' (by omega) (by omega)
theorem aIp {g:Nat→Nat→Rat} {h w:Nat} (hc:Cok h w) (hh:h≤100) (hw:w≤100) {K:Nat} (hK:w+h<K):oQ K (mx g h w)=some (mx (tr g) w h):=by
 have:=aDD (g:=g) hc hh hw (K:=K) (by omega) w 0 K (by omega) (by omega)
 have e:mx (tr g) 0 h=[]:=rfl
 rw [e] at this
 simp only [Int.natCast_zero] at this
 simp only [oQ,this,oB,oI]
theorem aLk {g:Nat→Nat→Rat} {h w b:Nat} (hg:Bdx h w b g) (hb:b≤1073741824) (hh:h≤1000) (hw:w≤1000) {K:Nat} (hK:1000<K):kQ K (mx g h w) (mx g h w)=some true:=
 aGT (b:=b) (fun r hr=>by
  obtain⟨i,hi,rfl⟩:=List.mem_map.1 hr
  exact⟨aF0 fun c hc=>hg i c (List.mem_range.1 hi) hc,by rw [tG];exact hw⟩) hb (by rw [aCm];exact hh) hK
end Go.Proofs.YtcjdedkdoagifaaGreat
set_option linter.unusedVariables false
namespace Go.Proofs.YtcjdedkdoagifaaGreat
theorem aHW {d:List aT} {f:Nat→Rat} {v:List Rat} {l:List aH} {z:Nat→Rat} {A C:Nat} (hd:∀x∈d,Bd 8 x.inv) (hn:d.length≤100) (hf:∀j,j<d.length→Bd A (f j)) (hv:vV 64 v) (hl:RsC l) (hr:InR d.length l) (hll:l.length≤100) (hz:∀k,k<off v l l.length→Bd C (z k)) (hA:A≤1000000) (hC:(2*C+20)*24*l.length≤5000000) (hC2:C≤100000000) {K:Nat} (hK:5000≤K):
  jK K d (mp f d.length) v l (mp z (off v l l.length))=some (mp (vl v l (mp (acc d f l (pz v l z)) d.length) z) (off v l l.length)):=by
 have hp:=aJq hz hl
 have hrb:RsB l:=fun r h=>(hl r h).1
 have hcl:(2*C+11+9)*24*l.length≤5000000:=hC
 have e1:=aHG hv hl hz (by omega) (by omega) hK
 have e2:=aJB (p:=pz v l z) hd (show d.length≤1000 by omega) hf hrb hr (by omega) hp (by omega) (by omega) (show 2000≤K by omega)
 have hb:=aEA (p:=pz v l z) hd hf hrb hr hp (by omega) (by omega) (by omega) (by omega)
 have e3:=aDk (z:=z) hl hb (by unfold aIo;omega) hz hC2 (show l.length≤1000 by omega) (show 13≤K by omega) (off v l l.length) 0 K (by omega) (by have:=sU (v:=v) (l:=l) l.length;omega)
 simp only [Int.natCast_zero,aBh] at e3
 simp only [jK,e1,oB,e2,yJ hv hrb (show l.length≤1000 by omega) (show 2000≤K by omega),e3,m9]
theorem aKe {f g:Nat→Rat} {n:Nat} (t:aG):trm (mp (fun j=>f j+g j) n) t=trm (mp f n) t+trm (mp g n) t:=by
 unfold trm
 rw [tG,tG,tG]
 by_cases h:0≤t.dof∧t.dof<(n:Int)
 ·rw [decide_eq_true h]
  show t.k*yN _ _=t.k*yN _ _+t.k*yN _ _
  rw [aDa (by omega),aDa (by omega),aDa (by omega),Rat.mul_add]
 ·rw [decide_eq_false h];exact(Rat.add_zero 0).symm
theorem add4 (x y a b:Rat):x+y+(a+b)=x+a+(y+b):=by
 rw [Rat.add_assoc,←Rat.add_assoc y,Rat.add_comm y a,Rat.add_assoc a,←Rat.add_assoc]
theorem aG0 {f g:Nat→Rat} {n:Nat}:∀(l:List aG) (x y:Rat),rtf (mp (fun j=>f j+g j) n) l (x+y)=rtf (mp f n) l x+rtf (mp g n) l y
 |[],x,y=>rfl
 |t::l,x,y=>by
  show rtf _ l (x+y+trm _ t)=rtf _ l (x+trm _ t)+rtf _ l (y+trm _ t)
  rw [aKe,←aG0 l,add4]
theorem aGo {f g:Nat→Rat} {n:Nat} (l:List aG):rt l (mp (fun j=>f j+g j) n)=rt l (mp f n)+rt l (mp g n):=by
 have:=aG0 (f:=f) (g:=g) (n:=n) l 0 0
 rwa [Rat.add_zero] at this
theorem aKO {v:List Rat} {l:List aH} {f g:Nat→Rat} {n k:Nat}:rv v l (mp (fun j=>f j+g j) n) k=rv v l (mp f n) k+rv v l (mp g n) k:=by
 unfold rv
 split
 ·exact aGo _
 ·split
  ·exact aGo _
  ·split
   ·rw [aGo,Rat.neg_add]
   ·exact(Rat.add_zero 0).symm
theorem aCU {n:Nat}:∀(l:List aG) (x:Rat),rtf (mp (fun _=>(0:Rat)) n) l x=x
 |[],x=>rfl
 |t::l,x=>by
  show rtf _ l (x+trm _ t)=x
  have:trm (mp (fun _=>(0:Rat)) n) t=0:=by
   unfold trm
   rw [tG]
   by_cases h:0≤t.dof∧t.dof<(n:Int)
   ·rw [decide_eq_true h];show t.k*yN _ _=0;rw [aDa (by omega),Rat.mul_zero]
   ·rw [decide_eq_false h];rfl
  rw [this,Rat.add_zero]
  exact aCU l x
theorem aJ4 {v:List Rat} {l:List aH} {n k:Nat}:rv v l (mp (fun _=>(0:Rat)) n) k=0:=by
 unfold rv rt
 rw [aCU,aCU]
 split
 ·rfl
 ·split
  ·rfl
  ·split<;>rfl
def p0:Nat→aO:=fun _=>⟨0,0⟩
def z0:Nat→Rat:=fun _=>0
theorem aBL {l:List aH} {j:Nat}:∀m,uM l p0 m j=0
 |0=>rfl
 |m+1=>by
  show uM l p0 m j+rcq l p0 m j=0
  rw [aBL m]
  unfold rcq
  show(0:Rat)+(cf _ _*0+cf _ _*0)=0
  rw [Rat.mul_zero,Rat.mul_zero,Rat.add_zero,Rat.add_zero]
theorem aHI {d:List aT} {f:Nat→Rat} {l:List aH} {p:Nat→aO}:acc d f l p=fun j=>acc d f l p0 j+acc d z0 l p j:=by
 funext j
 unfold acc z0
 rw [aBL,Rat.add_zero,Rat.zero_add,←Rat.add_mul]
theorem aDc {l:List aH} {p q:Nat→aO} {j:Nat}:∀m,(∀r,r<m→p r=q r)→uM l p m j=uM l q m j
 |0,_=>rfl
 |m+1,h=>by
  show uM l p m j+rcq l p m j=uM l q m j+rcq l q m j
  rw [aDc m fun r hr=>h r (by omega)]
  unfold rcq
  rw [h m (by omega)]
theorem aDA {d:List aT} {f:Nat→Rat} {l:List aH} {p q:Nat→aO} (h:∀r,r<l.length→p r=q r):acc d f l p=acc d f l q:=by
 funext j
 unfold acc
 rw [aDc _ h]
theorem aJa {d:List aT} {l:List aH}:acc d z0 l p0=fun _=>0:=by
 funext j
 unfold acc z0
 rw [aBL,Rat.add_zero,Rat.zero_mul]
theorem aJ9 {v:List Rat} {l:List aH} {i:Nat}:pz v l z0 i=⟨0,0⟩:=by
 unfold pz z0
 split
 ·rfl
 ·split
  ·rw [Rat.mul_zero,Rat.mul_zero]
  ·rw [Rat.sub_self]
theorem aJ1 {v:List Rat} {l:List aH} {k:Nat}:zv v l z0 k=0:=by
 unfold zv z0
 split
 ·rfl
 ·split
  ·rfl
  ·split
   ·rfl
   ·rw [Rat.mul_zero,Rat.add_zero,Rat.sub_self]
def ek (k:Nat):Nat→Rat:=vC z0 k 1
def Mf (d:List aT) (v:List Rat) (l:List aH) (i k:Nat):Rat:=rv v l (mp (acc d z0 l (pz v l (ek k))) d.length) i+zv v l (ek k) i
def qf (d:List aT) (f:Nat→Rat) (v:List Rat) (l:List aH) (i:Nat):Rat:=rv v l (mp (acc d f l p0) d.length) i
theorem aEF {d:List aT} {f:Nat→Rat} {v:List Rat} {l:List aH} {n i:Nat}:vl v l (mp (acc d f l (pz v l z0)) d.length) z0 i=qf d f v l i:=by
 unfold vl qf
 rw [aJ1,Rat.add_zero,aDA (q:=p0) fun r _=>aJ9]
theorem aH6 {d:List aT} {f:Nat→Rat} {v:List Rat} {l:List aH} {k i:Nat}:vl v l (mp (acc d f l (pz v l (ek k))) d.length) (ek k) i-qf d f v l i=Mf d v l i k:=by
 unfold vl qf Mf
 rw [aHI,aKO]
 generalize rv v l (mp (acc d f l p0) d.length) i=a
 generalize rv v l (mp (acc d z0 l (pz v l (ek k))) d.length) i=b
 generalize zv v l (ek k) i=c
 rw [Rat.add_assoc,Rat.sub_eq_add_neg,Rat.add_comm a,Rat.add_assoc,Rat.add_neg_cancel,Rat.add_zero]
theorem aGO {k j:Nat}:Bd 1 (ek k j):=by
 unfold ek vC z0
 split
 ·constructor<;>decide
 ·exact Bd.zero
structure ScB (d:List aT) (f v:List Rat) (l:List aH):Prop where
 sb:SB d f v l
 n8:d.length≤12
 m8:l.length≤8
 ir:InR d.length l
 fl:f.length=d.length
theorem aJT {d:List aT} {f v:List Rat} {l:List aH} (h:SB d f v l) (hm:l.length≤8) (hf:aA1 d f v l=true):ScB d f v l:=by
 unfold aA1 at hf
 rw [Bool.and_eq_true,Bool.and_eq_true] at hf
 have h1:=of_decide_eq_true hf.1.1
 refine⟨h,h1.1,hm,fun r hr=>?_,h1.2.1⟩
 have h2:=List.all_eq_true.1 hf.2 r hr
 unfold vE at h2
 rw [Bool.and_eq_true,Bool.and_eq_true,Bool.and_eq_true] at h2
 exact⟨aJg h2.1.1.1,aJg h2.1.1.2⟩
theorem ScB.fbd {d:List aT} {f v:List Rat} {l:List aH} (h:ScB d f v l):∀j,j<d.length→Bd 64 (yN f j):=fun j hj=>h.sb.sf _ (aAS (by rw [h.fl];exact hj))
theorem ScB.fmp {d:List aT} {f v:List Rat} {l:List aH} (h:ScB d f v l):f=mp (yN f) d.length:=by rw [←h.fl];exact aKR f
theorem bd8 {C m:Nat} (hC:C≤1) (hm:m≤8):(2*C+20)*24*m≤5000000:=Nat.le_trans (Nat.mul_le_mul (Nat.mul_le_mul_right 24 (show 2*C+20≤22 by omega)) hm) (by decide)
theorem ScB.vals {d:List aT} {f v:List Rat} {l:List aH} (h:ScB d f v l) {z:Nat→Rat} (hz:∀k,Bd 1 (z k)) {K:Nat} (hK:5000≤K):jK K d f v l (mp z (off v l l.length))=some (mp (vl v l (mp (acc d (yN f) l (pz v l z)) d.length) z) (off v l l.length)):=by
 have h8:=h.m8
 have hn:=h.n8
 have:=aHW (z:=z) h.sb.sd (by omega) h.fbd h.sb.sv h.sb.sl h.ir (by omega) (fun k _=>hz k) (by omega) (bd8 (Nat.le_refl 1) h8) (by omega) hK
 rwa [←h.fmp] at this
theorem ScB.vbd {d:List aT} {f v:List Rat} {l:List aH} (h:ScB d f v l) {z:Nat→Rat} (hz:∀k,Bd 1 (z k)) {k:Nat} (hk:k<off v l l.length):Bd 100000 (vl v l (mp (acc d (yN f) l (pz v l z)) d.length) z k):=by
 have h8:=h.m8
 have hn:=h.n8
 have hp:=aJq (l:=l) (v:=v) (z:=z) (C:=1) (fun k _=>hz k) h.sb.sl
 have hb:=aEA (p:=pz v l z) h.sb.sd h.fbd (fun r hr=>(h.sb.sl r hr).1) h.ir hp (by omega) (by omega) (by omega) (Nat.le_trans (bd8 (C:=1) (Nat.le_refl 1) h8) (by decide))
 exact(aLs h.sb.sl hb (fun k _=>hz k) hk).mono (by unfold aIo;omega)
theorem aI0 {v:List Rat} {l:List aH} {w q:Nat→Rat} {m:Nat} (hm:m≤100) (hw:∀i,i<off v l m→Bd 100000 (w i)) (hq:∀i,i<off v l m→Bd 100000 (q i)) (K:Nat):∀(t i k:Nat),i+t=off v l m→t<k→fQ K ((wT v l m).map ru) (mp q (off v l m)) (mp w (off v l m)) k (mp (fun i=>w i-q i) i) (i:Int)=some (mp (fun i=>w i-q i) (off v l m))
 |0,i,k,hi,hk=>by
  obtain⟨k',rfl,_⟩:=cU hk
  have e:i=off v l m:=by omega
  subst e
  simp only [fQ,aA8,dF (show¬(off v l m:Int)<(off v l m:Int) by omega),dS]
 |t+1,i,k,hi,hk=>by
  obtain⟨k',rfl,_⟩:=cU hk
  have hil:i<off v l m:=by omega
  have h4:=sU (v:=v) (l:=l) m
  simp only [fQ,aA8,dT (show(i:Int)<(off v l m:Int) by omega),d8,sN (f:=w) hil,sN (f:=q) hil,oB,aCb (hw i hil) (hq i hil) (by omega) (by omega),apM (g:=fun i=>w i-q i) (i:=i) (by omega),tI (i:=i) (by omega)]
  exact aI0 hm hw hq K t (i+1) k' (by omega) (by omega)
theorem aIN:y5 1 1=some 1:=by rw [aI2 (by omega) (by omega),aK7]
theorem aId {d:List aT} {f v:List Rat} {l:List aH} (h:ScB d f v l) {K:Nat} (hK:5000≤K):∀(t i k:Nat),i+t=off v l l.length→t<k→eS K d f v l ((wT v l l.length).map ru) (mp (qf d (yN f) v l) (off v l l.length)) k (mx (tr (Mf d v l)) i (off v l l.length)) (i:Int)=some (mx (tr (Mf d v l)) (off v l l.length) (off v l l.length))
 |0,i,k,hi,hk=>by
  obtain⟨k',rfl,_⟩:=cU hk
  have e:i=off v l l.length:=by omega
  rw [e]
  simp only [eS,aA8,dF (show¬(off v l l.length:Int)<(off v l l.length:Int) by omega),dS]
 |t+1,i,k,hi,hk=>by
  obtain⟨k',rfl,_⟩:=cU hk
  have hil:i<off v l l.length:=by omega
  have h8:=h.m8
  have h4:=sU (v:=v) (l:=l) l.length
  have e1:qC (mp (fun _=>(0:Rat)) (off v l l.length)) (i:Int) 1=some (mp (ek i) (off v l l.length)):=y8 (f:=z0) hil
  have e2:=aI0 (v:=v) (l:=l) (m:=l.length) (w:=vl v l (mp (acc d (yN f) l (pz v l (ek i))) d.length) (ek i)) (q:=qf d (yN f) v l) (by omega) (fun j hj=>h.vbd (fun _=>aGO) hj) (fun j hj=>by rw [←aEF (n:=0)];exact h.vbd (z:=z0) (fun _=>Bd.zero) hj) K (off v l l.length) 0 K (by omega) (by omega)
  simp only [Int.natCast_zero,aBh] at e2
  have e3:mp (fun j=>vl v l (mp (acc d (yN f) l (pz v l (ek i))) d.length) (ek i) j-qf d (yN f) v l j) (off v l l.length)=mp (tr (Mf d v l) i) (off v l l.length):=hY fun j _=>aH6
  rw [e3] at e2
  have e4:qO (mx (tr (Mf d v l)) i (off v l l.length)) [mp (tr (Mf d v l) i) (off v l l.length)]=some (mx (tr (Mf d v l)) (i+1) (off v l l.length)):=apM (g:=fun i=>mp (tr (Mf d v l) i) (off v l l.length)) (by omega)
  simp only [eS,aA8,dT (show(i:Int)<(off v l l.length:Int) by omega),d8,aD6 (z:=(0:Rat)) (n:=off v l l.length) (by omega),aIN,sN (f:=fun _=>(0:Rat)) hil,oB,e1,h.vals (z:=ek i) (fun _=>aGO) hK,e2,mF,e4,tI (i:=i) (by omega)]
  exact aId h hK t (i+1) k' (by omega) (by omega)
theorem aLy (g:Nat→Nat→Rat):tr (tr g)=g:=rfl
theorem aFH {d:List aT} {f v:List Rat} {l:List aH} (h:ScB d f v l) (hf:aA1 d f v l=true) {K:Nat} (hK:5000≤K):iU K d f v l=some (mx (Mf d v l) (off v l l.length) (off v l l.length),mp (qf d (yN f) v l) (off v l l.length)):=by
 have h8:=h.m8
 have h4:=sU (v:=v) (l:=l) l.length
 have e1:=h.vals (z:=z0) (fun _=>Bd.zero) hK
 have e2:mp (vl v l (mp (acc d (yN f) l (pz v l z0)) d.length) z0) (off v l l.length)=mp (qf d (yN f) v l) (off v l l.length):=hY fun j _=>aEF (n:=0)
 have e3:mp (fun _=>(0:Rat)) (off v l l.length)=mp z0 (off v l l.length):=rfl
 have e4:=aId h hK (off v l l.length) 0 K (by omega) (by omega)
 have e5:mx (tr (Mf d v l)) 0 (off v l l.length)=[]:=rfl
 rw [e5] at e4
 simp only [Int.natCast_zero] at e4
 have e6:=aIp (g:=tr (Mf d v l)) (h:=off v l l.length) (w:=off v l l.length) (fun h=>h) (by omega) (by omega) (K:=K) (by omega)
 simp only [iU,aIG h.sb (show 200≤K by omega),hf,oB,Bool.not_true,dS,yJ h.sb.sv (fun r hr=>(h.sb.sl r hr).1) (show l.length≤1000 by omega) (show 2000≤K by omega),aA8,aD6 (z:=(0:Rat)) (n:=off v l l.length) (by omega),e3,e1,e2,e4,mB,e6,aLy]
end Go.Proofs.YtcjdedkdoagifaaGreat
