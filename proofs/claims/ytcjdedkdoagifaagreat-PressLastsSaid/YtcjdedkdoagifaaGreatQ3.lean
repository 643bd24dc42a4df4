import Derived.Test.YtcjdedkdoagifaaGreatQ2
set_option linter.unusedVariables false
set_option maxRecDepth 100000
namespace Go.Proofs.YtcjdedkdoagifaaGreat
def iO (K:Nat) (v1:bH) (x20:List Rat) (x44:List Rat):Option Bool:=
 (nO K v1.v x20 v1.rows).bind fun v54=>(jQ K v1.v x20 v1.rows).bind fun v56=>bif(v54==v56) then((nO K x44 x20 v1.rows).bind fun v59=>(jQ K x44 x20 v1.rows).bind fun v61=>bif(v59==v61) then((nS K).bind fun v64=>some v64) else(some false)) else(some false)
def dY (K:Nat) (a1:List Int) (a2:Int):Nat→(List Rat)→Int→Option (List Rat)
 |0,_,_=>none
 |k+1,x37,x43=>(r4 a2 6).bind fun v66=>(eG v66 6).bind fun v68=>bif(decide (x43<v68)) then((bQ (6+x43)).bind fun v71=>(bU a1 v71 1073741824).bind fun v73=>(jS v73).bind fun v75=>(tB x37 [v75]).bind fun x77=>(bQ (x43+1)).bind fun v84=>dY K a1 a2 k x77 v84) else(some x37)
def iM (K:Nat) (a1:List Int) (a2:Int) (v1:bH) (x20:List Rat):Option Bool:=
 (dY K a1 a2 K ([]:List Rat) 0).bind fun x44=>iO K v1 x20 x44
def d6 (K:Nat) (a1:List Int) (a2:Int):Nat→(List Rat)→Int→Option (List Rat)
 |0,_,_=>none
 |k+1,x13,x19=>(eG a2 6).bind fun v86=>bif(decide (x19<v86)) then((bU a1 x19 1073741824).bind fun v89=>(jS v89).bind fun v91=>(tB x13 [v91]).bind fun x93=>(bQ (x19+1)).bind fun v100=>d6 K a1 a2 k x93 v100) else(some x13)
def iK (K:Nat) (a0:List Int) (a1:List Int) (a2:Int):Option Bool:=
 (iQ K a0 false).bind fun v1=>(d6 K a1 a2 K ([]:List Rat) 0).bind fun x20=>iM K a1 a2 v1 x20
theorem s0 {K:Nat} {a0:List Int} {a1:List Int} {a2:Int} {r:Bool} (hF:iK K a0 a1 a2=some r):Ct Tryz.prog 4 [.vc (pS cI a0),.vc (pS cI a1),.vc (pI .i64 a2)] (.vc (pB r)):=by
 unfold iK at hF
 refine a9 Tryz.func4 rfl (by kernel_rfl) Tryz.ntmps4 rfl (fun w0 M0=>?_)
 refine aD (aE (aB (aL (.inr rfl)) ⟨dH _,trivial⟩ ?_))
 refine aC (aA (aD (aE (aF ?_))))
 obtain⟨v1,h2,hF⟩:=aO hF
 refine aB (aG rfl (wH h2) rfl) ⟨rfl,dH _,trivial⟩ ?_
 refine bJ rfl tyZ27q (fun b3=>?_)
 refine aY (dA 0 rfl rfl rfl tyA27.s) ⟨rfl,rfl,trivial⟩ ?_
 refine aC (aA (aD (aE (sA cQ 44 rfl ?_))))
 refine aC (aA (aD (aD (aE (aB (aL (.inr rfl)) ⟨bC _ _,trivial⟩ ?_)))))
 refine aC (aA (bN (cL (fun H E=>∃(x20:List Rat),∃(b21:Option Nat),∃(c22:Nat),∃(n23:Nat),iM K a1 a2 v1 x20=some r∧x20.length=n23∧H=[hO cQ b21 c22 44 n23 x20,⟨some b3,1,27,4,1,(bH.enc v1)⟩]∧E=[(1,.vc (pS cI a1)),(2,.vc (pI .i64 a2)),(7,.vc (pP (some b3) 0)),(8,.vc (pO b21 n23 c22))]) ?_ (fun Jj27=>?_))))
 ·rintro _ _ ⟨x20,b21,c22,n23,hF,q24,rfl,rfl⟩
  unfold iM at hF
  refine aA (aD (aE (sA cQ 44 rfl ?_)))
  refine aC (aA (aD (aD (aE (aB (aL (.inr rfl)) ⟨bC _ _,trivial⟩ ?_)))))
  refine aC (aA (bN (cL (fun H E=>∃(x44:List Rat),∃(b45:Option Nat),∃(c46:Nat),∃(n47:Nat),iO K v1 x20 x44=some r∧x44.length=n47∧H=[hO cQ b45 c46 44 n47 x44,hO cQ b21 c22 44 n23 x20,⟨some b3,1,27,4,1,(bH.enc v1)⟩]∧E=[(7,.vc (pP (some b3) 0)),(8,.vc (pO b21 n23 c22)),(10,.vc (pO b45 n47 c46))]) ?_ (fun Jj51=>?_))))
  ·rintro _ _ ⟨x44,b45,c46,n47,hF,q48,rfl,rfl⟩
   unfold iO at hF
   refine aA (aD (yY 1 [8] rfl q24 ⟨rfl,trivial⟩ rfl ?_))
   refine yY 0 [10] rfl q48 ⟨rfl,trivial⟩ rfl ?_
   obtain⟨v54,h55,hF⟩:=aO hF
   obtain⟨v56,h57,hF⟩:=aO hF
   rcases Bool.eq_false_or_eq_true (v54==v56) with h58|h58
   ·have hF:=aT h58 hF
    obtain⟨v59,h60,hF⟩:=aO hF
    obtain⟨v61,h62,hF⟩:=aO hF
    rcases Bool.eq_false_or_eq_true (v59==v61) with h63|h63
    ·have hF:=aT h63 hF
     obtain⟨v64,h65,hF⟩:=aO hF
     refine bP (0::1::0::0::8::31::0::64::0::0::512::2047::4095::8191::16383::16383::16383::81919::262143::16383::16383::16383::2113535::8388607::16777215::33554431::67108863::134217727::268435455::536870911::[]) 30 0 (.v (.vc (pP (some b3) 2))::.v (.vc (pS cQ v1.v))::.v (.vc (pS cQ x20))::.v (.vc (pP (some b3) 3))::.v (.vc (pS aK.cod v1.rows))::.v (.vc (pB v54))::.v (.vc (pP (some b3) 2))::.v (.vc (pS cQ v1.v))::.v (.vc (pS cQ x20))::.v (.vc (pP (some b3) 3))::.v (.vc (pS aK.cod v1.rows))::.v (.vc (pB v56))::.v (.vc (pB (v54==v56)))::.v (.vc (pB true))::.v (.vc (pS cQ x44))::.v (.vc (pS cQ x20))::.v (.vc (pP (some b3) 3))::.v (.vc (pS aK.cod v1.rows))::.v (.vc (pB v59))::.v (.vc (pS cQ x44))::.v (.vc (pS cQ x20))::.v (.vc (pP (some b3) 3))::.v (.vc (pS aK.cod v1.rows))::.v (.vc (pB v61))::.v (.vc (pB (v59==v61)))::.v (.vc (pB (v59==v61)))::.v (.vc (pB true))::.v (.vc (pB v64))::.v (.vc (pB v64))::.v (.vc (pB v64))::[]) aR ⟨d0 (a8 (off:=0) (k:=2) rfl tyF27_2) ⟨rfl,trivial⟩,d0 (bD 0 1 rfl rfl rfl rfl (.one tyO24)) ⟨rfl,trivial⟩,d0 (aL (.inl rfl)) ⟨rfl,trivial⟩,d0 (a8 (off:=0) (k:=3) rfl tyF27_3) ⟨rfl,trivial⟩,d0 (bD 0 1 rfl rfl rfl rfl (.one tyO25)) ⟨rfl,trivial⟩,d0 (aG rfl (oA h55) rfl) ⟨rfl,rfl,rfl,trivial⟩,d0 (a8 (off:=0) (k:=2) rfl tyF27_2) ⟨rfl,trivial⟩,d0 (bD 0 1 rfl rfl rfl rfl (.one tyO24)) ⟨rfl,trivial⟩,d0 (aL (.inl rfl)) ⟨rfl,trivial⟩,d0 (a8 (off:=0) (k:=3) rfl tyF27_3) ⟨rfl,trivial⟩,d0 (bD 0 1 rfl rfl rfl rfl (.one tyO25)) ⟨rfl,trivial⟩,d0 (aG rfl (kZ h57) rfl) ⟨rfl,rfl,rfl,trivial⟩,⟨rfl,.run (L:=[0]) ⟨fun G52 A=>yZ rfl Tryz.underlying4,trivial⟩ (fun G52=>⟨rfl,rfl,trivial⟩)⟩,d0 (cW (aL (.inl rfl)) h58) ⟨rfl,trivial⟩,g0 (aL (.inl rfl)) ⟨rfl,trivial⟩,g0 (aL (.inl rfl)) ⟨rfl,trivial⟩,g0 (a8 (off:=0) (k:=3) rfl tyF27_3) ⟨rfl,trivial⟩,g0 (bD 0 1 rfl rfl rfl rfl (.one tyO25)) ⟨rfl,trivial⟩,g0 (aG rfl (oA h60) rfl) ⟨rfl,rfl,rfl,trivial⟩,g0 (aL (.inl rfl)) ⟨rfl,trivial⟩,g0 (aL (.inl rfl)) ⟨rfl,trivial⟩,g0 (a8 (off:=0) (k:=3) rfl tyF27_3) ⟨rfl,trivial⟩,g0 (bD 0 1 rfl rfl rfl rfl (.one tyO25)) ⟨rfl,trivial⟩,g0 (aG rfl (kZ h62) rfl) ⟨rfl,rfl,rfl,trivial⟩,⟨rfl,.runG (L:=[0]) ⟨fun G52 A=>yZ rfl Tryz.underlying4,trivial⟩ (fun G52=>⟨rfl,rfl,trivial⟩)⟩,d0 (bK rfl) ⟨rfl,rfl,trivial⟩,d0 (cW (aL (.inl rfl)) h63) ⟨rfl,trivial⟩,g0 (aG rfl (vU h65) rfl) trivial,d0 (bK rfl) ⟨rfl,rfl,trivial⟩,d0 (aL (.inr rfl)) ⟨rfl,trivial⟩,trivial⟩ (fun bs53 G52=>?_)
     refine aC (aA (aX (aW ?_)))
     obtain rfl:=bX hF
     exact aI (.inl rfl) Tryz.results4 (.tmp rfl .nil) rfl rfl
    have hF:=aU h63 hF
    refine bP (0::1::0::0::8::31::0::64::0::0::512::2047::4095::8191::16383::16383::16383::81919::262143::16383::16383::16383::2113535::8388607::16777215::33554431::67108863::134217727::268435455::536870911::[]) 30 0 (.v (.vc (pP (some b3) 2))::.v (.vc (pS cQ v1.v))::.v (.vc (pS cQ x20))::.v (.vc (pP (some b3) 3))::.v (.vc (pS aK.cod v1.rows))::.v (.vc (pB v54))::.v (.vc (pP (some b3) 2))::.v (.vc (pS cQ v1.v))::.v (.vc (pS cQ x20))::.v (.vc (pP (some b3) 3))::.v (.vc (pS aK.cod v1.rows))::.v (.vc (pB v56))::.v (.vc (pB (v54==v56)))::.v (.vc (pB true))::.v (.vc (pS cQ x44))::.v (.vc (pS cQ x20))::.v (.vc (pP (some b3) 3))::.v (.vc (pS aK.cod v1.rows))::.v (.vc (pB v59))::.v (.vc (pS cQ x44))::.v (.vc (pS cQ x20))::.v (.vc (pP (some b3) 3))::.v (.vc (pS aK.cod v1.rows))::.v (.vc (pB v61))::.v (.vc (pB (v59==v61)))::.v (.vc (pB (v59==v61)))::.v (.vc (pB false))::.v .un::.v (.vc (pB false))::.v (.vc (pB false))::[]) aR ⟨d0 (a8 (off:=0) (k:=2) rfl tyF27_2) ⟨rfl,trivial⟩,d0 (bD 0 1 rfl rfl rfl rfl (.one tyO24)) ⟨rfl,trivial⟩,d0 (aL (.inl rfl)) ⟨rfl,trivial⟩,d0 (a8 (off:=0) (k:=3) rfl tyF27_3) ⟨rfl,trivial⟩,d0 (bD 0 1 rfl rfl rfl rfl (.one tyO25)) ⟨rfl,trivial⟩,d0 (aG rfl (oA h55) rfl) ⟨rfl,rfl,rfl,trivial⟩,d0 (a8 (off:=0) (k:=2) rfl tyF27_2) ⟨rfl,trivial⟩,d0 (bD 0 1 rfl rfl rfl rfl (.one tyO24)) ⟨rfl,trivial⟩,d0 (aL (.inl rfl)) ⟨rfl,trivial⟩,d0 (a8 (off:=0) (k:=3) rfl tyF27_3) ⟨rfl,trivial⟩,d0 (bD 0 1 rfl rfl rfl rfl (.one tyO25)) ⟨rfl,trivial⟩,d0 (aG rfl (kZ h57) rfl) ⟨rfl,rfl,rfl,trivial⟩,⟨rfl,.run (L:=[0]) ⟨fun G52 A=>yZ rfl Tryz.underlying4,trivial⟩ (fun G52=>⟨rfl,rfl,trivial⟩)⟩,d0 (cW (aL (.inl rfl)) h58) ⟨rfl,trivial⟩,g0 (aL (.inl rfl)) ⟨rfl,trivial⟩,g0 (aL (.inl rfl)) ⟨rfl,trivial⟩,g0 (a8 (off:=0) (k:=3) rfl tyF27_3) ⟨rfl,trivial⟩,g0 (bD 0 1 rfl rfl rfl rfl (.one tyO25)) ⟨rfl,trivial⟩,g0 (aG rfl (oA h60) rfl) ⟨rfl,rfl,rfl,trivial⟩,g0 (aL (.inl rfl)) ⟨rfl,trivial⟩,g0 (aL (.inl rfl)) ⟨rfl,trivial⟩,g0 (a8 (off:=0) (k:=3) rfl tyF27_3) ⟨rfl,trivial⟩,g0 (bD 0 1 rfl rfl rfl rfl (.one tyO25)) ⟨rfl,trivial⟩,g0 (aG rfl (kZ h62) rfl) ⟨rfl,rfl,rfl,trivial⟩,⟨rfl,.runG (L:=[0]) ⟨fun G52 A=>yZ rfl Tryz.underlying4,trivial⟩ (fun G52=>⟨rfl,rfl,trivial⟩)⟩,d0 (bK rfl) ⟨rfl,rfl,trivial⟩,d0 (cW (aL (.inl rfl)) h63) ⟨rfl,trivial⟩,⟨rfl,.skipN⟩,d0 (bL rfl) ⟨rfl,dH _,trivial⟩,d0 (aL (.inr rfl)) ⟨rfl,trivial⟩,trivial⟩ (fun bs53 G52=>?_)
    refine aC (aA (aX (aW ?_)))
    obtain rfl:=bX hF
    exact aI (.inl rfl) Tryz.results4 (.tmp rfl .nil) rfl rfl
   have hF:=aU h58 hF
   refine bP (0::1::0::0::8::31::0::64::0::0::512::2047::4095::8191::16383::16383::16383::81919::262143::16383::16383::16383::2113535::8388607::16777215::33554431::67108863::134217727::268435455::536870911::[]) 30 0 (.v (.vc (pP (some b3) 2))::.v (.vc (pS cQ v1.v))::.v (.vc (pS cQ x20))::.v (.vc (pP (some b3) 3))::.v (.vc (pS aK.cod v1.rows))::.v (.vc (pB v54))::.v (.vc (pP (some b3) 2))::.v (.vc (pS cQ v1.v))::.v (.vc (pS cQ x20))::.v (.vc (pP (some b3) 3))::.v (.vc (pS aK.cod v1.rows))::.v (.vc (pB v56))::.v (.vc (pB (v54==v56)))::.v (.vc (pB false))::.v .un::.v .un::.v .un::.v .un::.v .un::.v .un::.v .un::.v .un::.v .un::.v .un::.v .un::.v (.vc (pB false))::.v (.vc (pB false))::.v .un::.v (.vc (pB false))::.v (.vc (pB false))::[]) aR ⟨d0 (a8 (off:=0) (k:=2) rfl tyF27_2) ⟨rfl,trivial⟩,d0 (bD 0 1 rfl rfl rfl rfl (.one tyO24)) ⟨rfl,trivial⟩,d0 (aL (.inl rfl)) ⟨rfl,trivial⟩,d0 (a8 (off:=0) (k:=3) rfl tyF27_3) ⟨rfl,trivial⟩,d0 (bD 0 1 rfl rfl rfl rfl (.one tyO25)) ⟨rfl,trivial⟩,d0 (aG rfl (oA h55) rfl) ⟨rfl,rfl,rfl,trivial⟩,d0 (a8 (off:=0) (k:=2) rfl tyF27_2) ⟨rfl,trivial⟩,d0 (bD 0 1 rfl rfl rfl rfl (.one tyO24)) ⟨rfl,trivial⟩,d0 (aL (.inl rfl)) ⟨rfl,trivial⟩,d0 (a8 (off:=0) (k:=3) rfl tyF27_3) ⟨rfl,trivial⟩,d0 (bD 0 1 rfl rfl rfl rfl (.one tyO25)) ⟨rfl,trivial⟩,d0 (aG rfl (kZ h57) rfl) ⟨rfl,rfl,rfl,trivial⟩,⟨rfl,.run (L:=[0]) ⟨fun G52 A=>yZ rfl Tryz.underlying4,trivial⟩ (fun G52=>⟨rfl,rfl,trivial⟩)⟩,d0 (cW (aL (.inl rfl)) h58) ⟨rfl,trivial⟩,⟨rfl,.skipN⟩,⟨rfl,.skipN⟩,⟨rfl,.skipN⟩,⟨rfl,.skipN⟩,⟨rfl,.skipN⟩,⟨rfl,.skipN⟩,⟨rfl,.skipN⟩,⟨rfl,.skipN⟩,⟨rfl,.skipN⟩,⟨rfl,.skipN⟩,⟨rfl,.skipN⟩,d0 (bL rfl) ⟨rfl,dH _,trivial⟩,d0 (aL (.inl rfl)) ⟨rfl,trivial⟩,⟨rfl,.skipN⟩,d0 (bL rfl) ⟨rfl,dH _,trivial⟩,d0 (aL (.inr rfl)) ⟨rfl,trivial⟩,trivial⟩ (fun bs53 G52=>?_)
   refine aC (aA (aX (aW ?_)))
   obtain rfl:=bX hF
   exact aI (.inl rfl) Tryz.results4 (.tmp rfl .nil) rfl rfl
  obtain⟨x44',hL,hRl50⟩:=aO hF
  refine gY (fun k a w=>∃(x37:List Rat),∃(x43:Int),∃(b38:Option Nat),∃(c39:Nat),∃(n40:Nat),dY K a1 a2 k x37 x43=some x44'∧x37.length=n40∧hs _ [hO cQ b38 c39 44 n40 x37,hO cQ b21 c22 44 n23 x20,⟨some b3,1,27,4,1,(bH.enc v1)⟩] [(1,.vc (pS cI a1)),(2,.vc (pI .i64 a2)),(7,.vc (pP (some b3) 0)),(8,.vc (pO b21 n23 c22)),(10,.vc (pO b38 n40 c39)),(11,.vc (pI .i64 x43))] a w) K (fun a w ⟨_,_,_,_,_,hF,_,_⟩=>by cases hF) (fun k a w ⟨x37,x43,b38,c39,n40,hF,q41,hh⟩=>gX ?_ hh) (fun a w hh=>⟨([]:List Rat),0,none,0,0,hL,rfl,bA [0,1,2] rfl (by decide) (by exact⟨rfl,rfl,rfl,rfl,rfl,rfl,trivial⟩) hh⟩)
  rw [dY.eq_2] at hF
  refine aD (aD (aE (aF ?_)))
  refine aF ?_
  obtain⟨v66,h67,hF⟩:=aO hF
  refine aB (oD rfl h67) ⟨rfl,bC _ _,trivial⟩ ?_
  obtain⟨v68,h69,hF⟩:=aO hF
  refine aB (aG rfl (mF h69) rfl) ⟨rfl,bC _ _,trivial⟩ ?_
  refine aB (dQ rfl) ⟨rfl,rfl,trivial⟩ ?_
  refine aC (aA (bO rfl (fun h70=>?_) (fun h70=>?_)))
  ·have hF:=aT h70 hF
   refine aV (aA (aD (bN (aE (aF ?_)))))
   refine aF ?_
   refine aF ?_
   obtain⟨v71,h72,hF⟩:=aO hF
   refine aB (bI rfl h72) ⟨bC _ _,rfl,trivial⟩ ?_
   obtain⟨v73,h74,hF⟩:=aO hF
   refine aB (aG rfl (cP h74) rfl) ⟨rfl,rfl,bC _ _,trivial⟩ ?_
   obtain⟨v75,h76,hF⟩:=aO hF
   refine aB (aG rfl (r3 h76) rfl) ⟨rfl,trivial⟩ ?_
   refine aB (pX (C:=cQ) (xs:=[.tmp 39]) (ps:=[.va (eQ v75)]) (zs:=[v75]) rfl tyS24 rfl ⟨⟨trivial,rfl⟩,trivial⟩ rfl) ⟨rfl,trivial⟩ ?_
   obtain⟨x77,h78,hF⟩:=aO hF
   refine nY 0 rfl tyS24 rfl rfl q41 rfl rfl h78 (fun b79 c80 H81 e82=>?_)
   cases e82
   refine bB ?_
   refine aC (bF (aA (aE (aF ?_))))
   obtain⟨v84,h85,hF⟩:=aO hF
   refine aB (bI rfl h85) ⟨rfl,bC _ _,trivial⟩ ?_
   refine bB ?_
   refine aC ?_
   exact bG (fun a w hh=>⟨x77,v84,b79,c80,(n40+[v75].length),hF,(gB h78 q41),bA [0,1,2] rfl (by decide) (by exact⟨rfl,rfl,rfl,rfl,rfl,rfl,trivial⟩) hh⟩)
  have hF:=aU h70 hF
  refine dE ?_
  obtain rfl:=bX hF
  exact bS Jj51 ⟨x37,b38,c39,n40,hRl50,q41,rfl,rfl⟩ [0,1,2] rfl ⟨rfl,rfl,rfl,trivial⟩
 obtain⟨x20',hL,hRl26⟩:=aO hF
 refine gY (fun k a w=>∃(x13:List Rat),∃(x19:Int),∃(b14:Option Nat),∃(c15:Nat),∃(n16:Nat),d6 K a1 a2 k x13 x19=some x20'∧x13.length=n16∧hs _ [hO cQ b14 c15 44 n16 x13,⟨some b3,1,27,4,1,(bH.enc v1)⟩] [(1,.vc (pS cI a1)),(2,.vc (pI .i64 a2)),(7,.vc (pP (some b3) 0)),(8,.vc (pO b14 n16 c15)),(9,.vc (pI .i64 x19))] a w) K (fun a w ⟨_,_,_,_,_,hF,_,_⟩=>by cases hF) (fun k a w ⟨x13,x19,b14,c15,n16,hF,q17,hh⟩=>gX ?_ hh) (fun a w hh=>⟨([]:List Rat),0,none,0,0,hL,rfl,bA [0,1] rfl (by decide) (by exact⟨rfl,rfl,rfl,rfl,rfl,trivial⟩) hh⟩)
 rw [d6.eq_2] at hF
 refine aD (aD (aE (aF ?_)))
 refine aF ?_
 obtain⟨v86,h87,hF⟩:=aO hF
 refine aB (aG rfl (mF h87) rfl) ⟨rfl,bC _ _,trivial⟩ ?_
 refine aB (dQ rfl) ⟨rfl,rfl,trivial⟩ ?_
 refine aC (aA (bO rfl (fun h88=>?_) (fun h88=>?_)))
 ·have hF:=aT h88 hF
  refine aV (aA (aD (bN (aE (aF ?_)))))
  refine aF ?_
  refine aF ?_
  obtain⟨v89,h90,hF⟩:=aO hF
  refine aB (aG rfl (cP h90) rfl) ⟨rfl,rfl,bC _ _,trivial⟩ ?_
  obtain⟨v91,h92,hF⟩:=aO hF
  refine aB (aG rfl (r3 h92) rfl) ⟨rfl,trivial⟩ ?_
  refine aB (pX (C:=cQ) (xs:=[.tmp 24]) (ps:=[.va (eQ v91)]) (zs:=[v91]) rfl tyS24 rfl ⟨⟨trivial,rfl⟩,trivial⟩ rfl) ⟨rfl,trivial⟩ ?_
  obtain⟨x93,h94,hF⟩:=aO hF
  refine nY 0 rfl tyS24 rfl rfl q17 rfl rfl h94 (fun b95 c96 H97 e98=>?_)
  cases e98
  refine bB ?_
  refine aC (bF (aA (aE (aF ?_))))
  obtain⟨v100,h101,hF⟩:=aO hF
  refine aB (bI rfl h101) ⟨rfl,bC _ _,trivial⟩ ?_
  refine bB ?_
  refine aC ?_
  exact bG (fun a w hh=>⟨x93,v100,b95,c96,(n16+[v91].length),hF,(gB h94 q17),bA [0,1] rfl (by decide) (by exact⟨rfl,rfl,rfl,rfl,rfl,trivial⟩) hh⟩)
 have hF:=aU h88 hF
 refine dE ?_
 obtain rfl:=bX hF
 exact bS Jj27 ⟨x13,b14,c15,n16,hRl26,q17,rfl,rfl⟩ [0,1] rfl ⟨rfl,rfl,rfl,rfl,trivial⟩
end Go.Proofs.YtcjdedkdoagifaaGreat
