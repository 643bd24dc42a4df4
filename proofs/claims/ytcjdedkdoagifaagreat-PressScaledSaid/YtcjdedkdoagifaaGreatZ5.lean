/- Texts of the proof, part 5: Q2 Q3 QZ LB MA MB MC MR MT LG LV MS MN MP MU YC YD LD LS XL XF XA XU XV XW. -/
import Derived.Test.YtcjdedkdoagifaaGreatZ4
set_option linter.unusedVariables false
set_option maxRecDepth 100000
namespace Go.Proofs.YtcjdedkdoagifaaGreat
def k6 (K:Nat) (v98:List Rat) (x134:List Nat) (x140:List (List Rat)):Option ((List (List Rat))×(List Rat)):=
 some ((aD0 x140 x134),v98)
def dO (K:Nat) (a0:aD) (v2:List aC) (x121:List Nat) (x127:List (List Rat)) (x133:Int) (v152:aC) (v164:aA) (recl146:(List Nat)→(List (List Rat))→Int→Option ((List Nat)×(List (List Rat)))) (x174:List aF):Option ((List Nat)×(List (List Rat))):=
 (aP (x133+3)).bind fun v183=>bif(decide (v183<(v2.length:Int))) then((aP (x133+3)).bind fun v186=>(bK v2 v186).bind fun v188=>bif(v188.row==v152.row&&v188.kind==3) then((aP (x133+3)).bind fun v193=>(bK x121 v193).bind fun v195=>(bK (x127.getD v195 []) x133).bind fun v197=>(nL (x127.getD v195 []) x133 v164.mu).bind fun x199=>(vC (a0.dofs.length:Int) 0).bind fun x204=>(bE K a0 x204 x174).bind fun v206=>(b0 K v206 x133 v2 a0 x121 (x127.set v195 x199)).bind fun v208=>(aP (x133+1)).bind fun v221=>recl146 v208.1 v208.2 v221) else((vC (a0.dofs.length:Int) 0).bind fun x225=>(bE K a0 x225 x174).bind fun v227=>(b0 K v227 x133 v2 a0 x121 x127).bind fun v229=>(aP (x133+1)).bind fun v242=>recl146 v229.1 v229.2 v242)) else((vC (a0.dofs.length:Int) 0).bind fun x246=>(bE K a0 x246 x174).bind fun v248=>(b0 K v248 x133 v2 a0 x121 x127).bind fun v250=>(aP (x133+1)).bind fun v263=>recl146 v250.1 v250.2 v263)
def aX (K:Nat) (a0:aD) (v2:List aC) (x91:List aF) (v105:Rat):Nat→(List Nat)→(List (List Rat))→Int→Option ((List Nat)×(List (List Rat)))
 |0,_,_,_=>none
 |k+1,x121,x127,x133=>bif(decide (x133<(v2.length:Int))) then((bK v2 x133).bind fun v152=>(nI x91).bind fun v156=>(bK a0.rows v152.row).bind fun v164=>bif(v152.kind==0) then((bK v156 v152.row).bind fun v168=>(nL v156 v152.row (⟨v105,v168.f⟩:aF)).bind fun x170=>bif(decide (0<(v164.t.length:Int))) then((jR K a0 v164 v105).bind fun v268=>(bK x170 v152.row).bind fun v270=>(nL x170 v152.row (⟨v270.n,v268⟩:aF)).bind fun x272=>dO K a0 v2 x121 x127 x133 v152 v164 (aX K a0 v2 x91 v105 k) x272) else(dO K a0 v2 x121 x127 x133 v152 v164 (aX K a0 v2 x91 v105 k) x170)) else(bif(v152.kind==1) then((bK v156 v152.row).bind fun v276=>(nL v156 v152.row (⟨v276.n,v105⟩:aF)).bind fun x278=>(aP (x133+3)).bind fun v283=>(aP (v283-1)).bind fun v285=>(bK x121 v285).bind fun v287=>(aA4 v105).bind fun v289=>(bK (x127.getD v287 []) x133).bind fun v291=>(nL (x127.getD v287 []) x133 v289).bind fun x293=>(vC (a0.dofs.length:Int) 0).bind fun x298=>(bE K a0 x298 x278).bind fun v300=>(b0 K v300 x133 v2 a0 x121 (x127.set v287 x293)).bind fun v302=>(aP (x133+1)).bind fun v315=>aX K a0 v2 x91 v105 k v302.1 v302.2 v315) else(bif(v152.kind==2) then((aA4 v105).bind fun v320=>(bK v156 v152.row).bind fun v322=>(nL v156 v152.row (⟨v322.n,v320⟩:aF)).bind fun x324=>(aP (x133+3)).bind fun v329=>(aP (v329-2)).bind fun v331=>(bK x121 v331).bind fun v333=>(aA4 v105).bind fun v335=>(bK (x127.getD v333 []) x133).bind fun v337=>(nL (x127.getD v333 []) x133 v335).bind fun x339=>(vC (a0.dofs.length:Int) 0).bind fun x344=>(bE K a0 x344 x324).bind fun v346=>(b0 K v346 x133 v2 a0 x121 (x127.set v333 x339)).bind fun v348=>(aP (x133+1)).bind fun v361=>aX K a0 v2 x91 v105 k v348.1 v348.2 v361) else(bif(v152.kind==3) then((aP (x133+1)).bind fun v366=>(aP (v366-3)).bind fun v368=>(bK x121 v368).bind fun v370=>(aP (x133+2)).bind fun v372=>(aP (v372-3)).bind fun v374=>(bK x121 v374).bind fun v376=>(bK (x127.getD v370 []) x133).bind fun v378=>(nL (x127.getD v370 []) x133 v105).bind fun x380=>(bK ((x127.set v370 x380).getD v376 []) x133).bind fun v383=>(nL ((x127.set v370 x380).getD v376 []) x133 v105).bind fun x386=>(aP (x133+1)).bind fun v389=>aX K a0 v2 x91 v105 k x121 ((x127.set v370 x380).set v376 x386) v389) else((vC (a0.dofs.length:Int) 0).bind fun x393=>(bE K a0 x393 v156).bind fun v395=>(b0 K v395 x133 v2 a0 x121 x127).bind fun v397=>(aP (x133+1)).bind fun v410=>aX K a0 v2 x91 v105 k v397.1 v397.2 v410))))) else(some (x121,x127))
def lR (K:Nat) (a0:aD) (v2:List aC) (x13:List Rat) (x77:List Nat) (x83:List (List Rat)):Option ((List (List Rat))×(List Rat)):=
 (vC (a0.rows.length:Int) (⟨0,0⟩:aF)).bind fun x91=>(bE K a0 a0.load x91).bind fun v96=>(kU K v96 v2 a0 x13).bind fun v98=>(zC 1 1).bind fun v105=>(aX K a0 v2 x91 v105 K x77 x83 0).bind fun(x134,x140)=>k6 K v98 x134 x140
def fD (K:Nat) (v2:List aC) (x10:List Nat):Nat→(List Nat)→(List (List Rat))→Int→Option ((List Nat)×(List (List Rat)))
 |0,_,_,_=>none
 |k+1,x64,x70,x76=>bif(decide (x76<(x10.length:Int))) then((vC (v2.length:Int) 0).bind fun x415=>(bK x64 x76).bind fun v419=>(nL x64 x76 x70.length).bind fun x423=>(aP (x76+1)).bind fun v427=>fD K v2 x10 k x423 (x70++[x415]) v427) else(some (x64,x70))
def l5 (K:Nat) (a0:aD):Option ((List (List Rat))×(List Rat)):=
 (iQ K a0).bind fun v2=>(vC (v2.length:Int) (0:Nat)).bind fun x10=>(vC (v2.length:Int) 0).bind fun x13=>(fD K v2 x10 K x10 [([]:List Rat)] 0).bind fun(x77,x83)=>lR K a0 v2 x13 x77 x83
theorem y0 {K:Nat} {a0:aD} {r:(List (List Rat))×(List Rat)} (hF:l5 K a0=some r):Ct Tryz.prog 71 [.va (aD.enc a0)] (.t2 (.vc (pS (vZ cQ) r.1)) (.vc (pS cQ r.2))):=by
 unfold l5 at hF
 refine aI Tryz.func71 rfl (by kernel_rfl) Tryz.ntmps71 rfl (fun w0 M0=>?_)
 refine aO (aW (cT rfl rfl trivial (fun b1=>?_)))
 refine aS (bS (.inr rfl)) ⟨eE (vZ cQ),trivial⟩ ?_
 refine aS (bS (.inr rfl)) ⟨eE cQ,trivial⟩ ?_
 obtain⟨v2,h3,hF⟩:=bC hF tV
 refine go ?_ ?_
 refine aN rfl tyZ114q (fun b4=>?_)
 refine go ?_ ?_
 refine aS (aFT (xs:=[.tmp 4,.tmp 1]) (cs:=[pP (some b4) 0,pP (some b1) 0]) rfl rfl) zU2 ?_
 refine yM ?_
 refine bQ (aU (aO (aMv cQ 44 ?_)))
 obtain⟨x10,h11,hF⟩:=a9 hF
 obtain⟨x13,h14,hF⟩:=a9 hF
 refine rI (HsM [(0,fun G7=>([⟨some b4,1,114,1,1,[pS aC.cod v2]⟩,⟨some b1,1,113,4,1,(aD.enc a0)⟩]++gY cQ 44 [(none,0,0)] [([]:List Rat)])),(1,fun G7=>([hO (cH [(none,0,0)]) ((G7 2).1) x10.length 24 x10.length x10,⟨some b4,1,114,1,1,[pS aC.cod v2]⟩,⟨some b1,1,113,4,1,(aD.enc a0)⟩]++gY cQ 44 [(none,0,0)] [([]:List Rat)])),(2,fun G7=>([hO cQ ((G7 5).1) x13.length 44 x13.length x13,⟨some b4,1,114,1,1,[pS aC.cod v2]⟩,⟨some b1,1,113,4,1,(aD.enc a0)⟩]++gY cQ 44 [(none,0,0)] [([]:List Rat)])),(3,fun G7=>([hO cQ ((G7 5).1) x13.length 44 x13.length x13,hO (cH [(none,0,0)]) ((G7 2).1) x10.length 24 x10.length x10,⟨some b4,1,114,1,1,[pS aC.cod v2]⟩,⟨some b1,1,113,4,1,(aD.enc a0)⟩]++gY cQ 44 [(none,0,0)] [([]:List Rat)])),(4,fun G7=>([⟨some ((G7 6).1.getD 0),1,62,1,1,[pS (vZ cQ) ([]:List (List Rat))]⟩,⟨some b4,1,114,1,1,[pS aC.cod v2]⟩,⟨some b1,1,113,4,1,(aD.enc a0)⟩]++gY cQ 44 [(none,0,0)] [([]:List Rat)])),(5,fun G7=>([⟨some ((G7 6).1.getD 0),1,62,1,1,[pS (vZ cQ) ([]:List (List Rat))]⟩,hO (cH [(none,0,0)]) ((G7 2).1) x10.length 24 x10.length x10,⟨some b4,1,114,1,1,[pS aC.cod v2]⟩,⟨some b1,1,113,4,1,(aD.enc a0)⟩]++gY cQ 44 [(none,0,0)] [([]:List Rat)])),(6,fun G7=>([⟨some ((G7 6).1.getD 0),1,62,1,1,[pS (vZ cQ) ([]:List (List Rat))]⟩,hO cQ ((G7 5).1) x13.length 44 x13.length x13,⟨some b4,1,114,1,1,[pS aC.cod v2]⟩,⟨some b1,1,113,4,1,(aD.enc a0)⟩]++gY cQ 44 [(none,0,0)] [([]:List Rat)])),(7,fun G7=>([⟨some ((G7 6).1.getD 0),1,62,1,1,[pS (vZ cQ) ([]:List (List Rat))]⟩,hO cQ ((G7 5).1) x13.length 44 x13.length x13,hO (cH [(none,0,0)]) ((G7 2).1) x10.length 24 x10.length x10,⟨some b4,1,114,1,1,[pS aC.cod v2]⟩,⟨some b1,1,113,4,1,(aD.enc a0)⟩]++gY cQ 44 [(none,0,0)] [([]:List Rat)])),(8,fun G7=>([⟨some ((G7 7).1.getD 0),1,24,1,1,[pS cQ ([]:List Rat)]⟩,⟨some b4,1,114,1,1,[pS aC.cod v2]⟩,⟨some b1,1,113,4,1,(aD.enc a0)⟩]++gY cQ 44 [(none,0,0)] [([]:List Rat)])),(9,fun G7=>([⟨some ((G7 7).1.getD 0),1,24,1,1,[pS cQ ([]:List Rat)]⟩,hO (cH [(none,0,0)]) ((G7 2).1) x10.length 24 x10.length x10,⟨some b4,1,114,1,1,[pS aC.cod v2]⟩,⟨some b1,1,113,4,1,(aD.enc a0)⟩]++gY cQ 44 [(none,0,0)] [([]:List Rat)])),(10,fun G7=>([⟨some ((G7 7).1.getD 0),1,24,1,1,[pS cQ ([]:List Rat)]⟩,hO cQ ((G7 5).1) x13.length 44 x13.length x13,⟨some b4,1,114,1,1,[pS aC.cod v2]⟩,⟨some b1,1,113,4,1,(aD.enc a0)⟩]++gY cQ 44 [(none,0,0)] [([]:List Rat)])),(11,fun G7=>([⟨some ((G7 7).1.getD 0),1,24,1,1,[pS cQ ([]:List Rat)]⟩,hO cQ ((G7 5).1) x13.length 44 x13.length x13,hO (cH [(none,0,0)]) ((G7 2).1) x10.length 24 x10.length x10,⟨some b4,1,114,1,1,[pS aC.cod v2]⟩,⟨some b1,1,113,4,1,(aD.enc a0)⟩]++gY cQ 44 [(none,0,0)] [([]:List Rat)])),(12,fun G7=>([⟨some ((G7 7).1.getD 0),1,24,1,1,[pS cQ ([]:List Rat)]⟩,⟨some ((G7 6).1.getD 0),1,62,1,1,[pS (vZ cQ) ([]:List (List Rat))]⟩,⟨some b4,1,114,1,1,[pS aC.cod v2]⟩,⟨some b1,1,113,4,1,(aD.enc a0)⟩]++gY cQ 44 [(none,0,0)] [([]:List Rat)])),(13,fun G7=>([⟨some ((G7 7).1.getD 0),1,24,1,1,[pS cQ ([]:List Rat)]⟩,⟨some ((G7 6).1.getD 0),1,62,1,1,[pS (vZ cQ) ([]:List (List Rat))]⟩,hO (cH [(none,0,0)]) ((G7 2).1) x10.length 24 x10.length x10,⟨some b4,1,114,1,1,[pS aC.cod v2]⟩,⟨some b1,1,113,4,1,(aD.enc a0)⟩]++gY cQ 44 [(none,0,0)] [([]:List Rat)])),(14,fun G7=>([⟨some ((G7 7).1.getD 0),1,24,1,1,[pS cQ ([]:List Rat)]⟩,⟨some ((G7 6).1.getD 0),1,62,1,1,[pS (vZ cQ) ([]:List (List Rat))]⟩,hO cQ ((G7 5).1) x13.length 44 x13.length x13,⟨some b4,1,114,1,1,[pS aC.cod v2]⟩,⟨some b1,1,113,4,1,(aD.enc a0)⟩]++gY cQ 44 [(none,0,0)] [([]:List Rat)])),(15,fun G7=>([⟨some ((G7 7).1.getD 0),1,24,1,1,[pS cQ ([]:List Rat)]⟩,⟨some ((G7 6).1.getD 0),1,62,1,1,[pS (vZ cQ) ([]:List (List Rat))]⟩,hO cQ ((G7 5).1) x13.length 44 x13.length x13,hO (cH [(none,0,0)]) ((G7 2).1) x10.length 24 x10.length x10,⟨some b4,1,114,1,1,[pS aC.cod v2]⟩,⟨some b1,1,113,4,1,(aD.enc a0)⟩]++gY cQ 44 [(none,0,0)] [([]:List Rat)])),(29,fun G7=>([⟨some ((G7 7).1.getD 0),1,24,1,1,[pS cQ ([]:List Rat)]⟩,⟨some ((G7 6).1.getD 0),1,62,1,1,[pO ((G7 2).1) x10.length x10.length]⟩,hO (cH [(none,0,0)]) ((G7 2).1) x10.length 24 x10.length x10,⟨some b4,1,114,1,1,[pS aC.cod v2]⟩,⟨some b1,1,113,4,1,(aD.enc a0)⟩]++gY cQ 44 [(none,0,0)] [([]:List Rat)])),(31,fun G7=>([⟨some ((G7 7).1.getD 0),1,24,1,1,[pS cQ ([]:List Rat)]⟩,⟨some ((G7 6).1.getD 0),1,62,1,1,[pO ((G7 2).1) x10.length x10.length]⟩,hO cQ ((G7 5).1) x13.length 44 x13.length x13,hO (cH [(none,0,0)]) ((G7 2).1) x10.length 24 x10.length x10,⟨some b4,1,114,1,1,[pS aC.cod v2]⟩,⟨some b1,1,113,4,1,(aD.enc a0)⟩]++gY cQ 44 [(none,0,0)] [([]:List Rat)]))]) [2,5,6,7,8] [0,1,3,0,8,24,0,0,199,511] 9 1 [.v (.vc (pS aC.cod v2)),.v (.vc (pI .i64 (v2.length:Int))),.g (fun b _=>.vc (pO b x10.length x10.length)),.v (.vc (pS aC.cod v2)),.v (.vc (pI .i64 (v2.length:Int))),.g (fun b _=>.vc (pO b x13.length x13.length)),.g (fun b _=>.vc (pP (some (b.getD 0)) 0)),.g (fun b _=>.vc (pP (some (b.getD 0)) 0)),.g (fun _ _=>.any)] bI ⟨⟨rfl,.run (L:=[0,2,4,6,8,10,12,14]) ⟨fun G7 A=>fV 0 1 rfl rfl rfl rfl (.one tyO114),fun G7 A=>fV 1 1 rfl rfl rfl rfl (.one tyO114),fun G7 A=>fV 1 1 rfl rfl rfl rfl (.one tyO114),fun G7 A=>fV 2 1 rfl rfl rfl rfl (.one tyO114),fun G7 A=>fV 1 1 rfl rfl rfl rfl (.one tyO114),fun G7 A=>fV 2 1 rfl rfl rfl rfl (.one tyO114),fun G7 A=>fV 2 1 rfl rfl rfl rfl (.one tyO114),fun G7 A=>fV 3 1 rfl rfl rfl rfl (.one tyO114),trivial⟩ (fun G7=>zU1)⟩,⟨rfl,.run (L:=[0,2,4,6,8,10,12,14]) ⟨fun G7 A=>tO rfl tyS114,fun G7 A=>tO rfl tyS114,fun G7 A=>tO rfl tyS114,fun G7 A=>tO rfl tyS114,fun G7 A=>tO rfl tyS114,fun G7 A=>tO rfl tyS114,fun G7 A=>tO rfl tyS114,fun G7 A=>tO rfl tyS114,trivial⟩ (fun G7=>zU1)⟩,⟨rfl,.hvy [0,2,4,6,8,10,12,14] ⟨fun G7 A=>gW (C:=cH [(none,0,0)]) (z:=0) rfl tyS62 rfl tyZ24_oq h11,fun G7 A=>qP (R:=gY cQ 44 [(none,0,0)] [([]:List Rat)]) [1,0,2,3] (gW (C:=cH [(none,0,0)]) (z:=0) rfl tyS62 rfl tyZ24_oq h11) (fun b_ c_=>⟨[hO (cH [(none,0,0)]) (b_) x10.length 24 x10.length x10,hO cQ ((G7 5).1) x13.length 44 x13.length x13,⟨some b4,1,114,1,1,[pS aC.cod v2]⟩,⟨some b1,1,113,4,1,(aD.enc a0)⟩],_,rfl,rfl,rfl⟩),fun G7 A=>qP (R:=gY cQ 44 [(none,0,0)] [([]:List Rat)]) [1,0,2,3] (gW (C:=cH [(none,0,0)]) (z:=0) rfl tyS62 rfl tyZ24_oq h11) (fun b_ c_=>⟨[hO (cH [(none,0,0)]) (b_) x10.length 24 x10.length x10,⟨some ((G7 6).1.getD 0),1,62,1,1,[pS (vZ cQ) ([]:List (List Rat))]⟩,⟨some b4,1,114,1,1,[pS aC.cod v2]⟩,⟨some b1,1,113,4,1,(aD.enc a0)⟩],_,rfl,rfl,rfl⟩),fun G7 A=>qP (R:=gY cQ 44 [(none,0,0)] [([]:List Rat)]) [1,2,0,3,4] (gW (C:=cH [(none,0,0)]) (z:=0) rfl tyS62 rfl tyZ24_oq h11) (fun b_ c_=>⟨[hO (cH [(none,0,0)]) (b_) x10.length 24 x10.length x10,⟨some ((G7 6).1.getD 0),1,62,1,1,[pS (vZ cQ) ([]:List (List Rat))]⟩,hO cQ ((G7 5).1) x13.length 44 x13.length x13,⟨some b4,1,114,1,1,[pS aC.cod v2]⟩,⟨some b1,1,113,4,1,(aD.enc a0)⟩],_,rfl,rfl,rfl⟩),fun G7 A=>qP (R:=gY cQ 44 [(none,0,0)] [([]:List Rat)]) [1,0,2,3] (gW (C:=cH [(none,0,0)]) (z:=0) rfl tyS62 rfl tyZ24_oq h11) (fun b_ c_=>⟨[hO (cH [(none,0,0)]) (b_) x10.length 24 x10.length x10,⟨some ((G7 7).1.getD 0),1,24,1,1,[pS cQ ([]:List Rat)]⟩,⟨some b4,1,114,1,1,[pS aC.cod v2]⟩,⟨some b1,1,113,4,1,(aD.enc a0)⟩],_,rfl,rfl,rfl⟩),fun G7 A=>qP (R:=gY cQ 44 [(none,0,0)] [([]:List Rat)]) [1,2,0,3,4] (gW (C:=cH [(none,0,0)]) (z:=0) rfl tyS62 rfl tyZ24_oq h11) (fun b_ c_=>⟨[hO (cH [(none,0,0)]) (b_) x10.length 24 x10.length x10,⟨some ((G7 7).1.getD 0),1,24,1,1,[pS cQ ([]:List Rat)]⟩,hO cQ ((G7 5).1) x13.length 44 x13.length x13,⟨some b4,1,114,1,1,[pS aC.cod v2]⟩,⟨some b1,1,113,4,1,(aD.enc a0)⟩],_,rfl,rfl,rfl⟩),fun G7 A=>qP (R:=gY cQ 44 [(none,0,0)] [([]:List Rat)]) [1,2,0,3,4] (gW (C:=cH [(none,0,0)]) (z:=0) rfl tyS62 rfl tyZ24_oq h11) (fun b_ c_=>⟨[hO (cH [(none,0,0)]) (b_) x10.length 24 x10.length x10,⟨some ((G7 7).1.getD 0),1,24,1,1,[pS cQ ([]:List Rat)]⟩,⟨some ((G7 6).1.getD 0),1,62,1,1,[pS (vZ cQ) ([]:List (List Rat))]⟩,⟨some b4,1,114,1,1,[pS aC.cod v2]⟩,⟨some b1,1,113,4,1,(aD.enc a0)⟩],_,rfl,rfl,rfl⟩),fun G7 A=>qP (R:=gY cQ 44 [(none,0,0)] [([]:List Rat)]) [1,2,3,0,4,5] (gW (C:=cH [(none,0,0)]) (z:=0) rfl tyS62 rfl tyZ24_oq h11) (fun b_ c_=>⟨[hO (cH [(none,0,0)]) (b_) x10.length 24 x10.length x10,⟨some ((G7 7).1.getD 0),1,24,1,1,[pS cQ ([]:List Rat)]⟩,⟨some ((G7 6).1.getD 0),1,62,1,1,[pS (vZ cQ) ([]:List (List Rat))]⟩,hO cQ ((G7 5).1) x13.length 44 x13.length x13,⟨some b4,1,114,1,1,[pS aC.cod v2]⟩,⟨some b1,1,113,4,1,(aD.enc a0)⟩],_,rfl,rfl,rfl⟩),trivial⟩ (fun G7=>zU1)⟩,⟨rfl,.run (L:=[0,1,4,5,8,9,12,13,29]) ⟨fun G7 A=>fV 0 1 rfl rfl rfl rfl (.one tyO114),fun G7 A=>fV 1 1 rfl rfl rfl rfl (.one tyO114),fun G7 A=>fV 1 1 rfl rfl rfl rfl (.one tyO114),fun G7 A=>fV 2 1 rfl rfl rfl rfl (.one tyO114),fun G7 A=>fV 1 1 rfl rfl rfl rfl (.one tyO114),fun G7 A=>fV 2 1 rfl rfl rfl rfl (.one tyO114),fun G7 A=>fV 2 1 rfl rfl rfl rfl (.one tyO114),fun G7 A=>fV 3 1 rfl rfl rfl rfl (.one tyO114),fun G7 A=>fV 3 1 rfl rfl rfl rfl (.one tyO114),trivial⟩ (fun G7=>zU1)⟩,⟨rfl,.run (L:=[0,1,4,5,8,9,12,13,29]) ⟨fun G7 A=>tO rfl tyS114,fun G7 A=>tO rfl tyS114,fun G7 A=>tO rfl tyS114,fun G7 A=>tO rfl tyS114,fun G7 A=>tO rfl tyS114,fun G7 A=>tO rfl tyS114,fun G7 A=>tO rfl tyS114,fun G7 A=>tO rfl tyS114,fun G7 A=>tO rfl tyS114,trivial⟩ (fun G7=>zU1)⟩,⟨rfl,.hvy [0,1,4,5,8,9,12,13,29] ⟨fun G7 A=>gW (C:=cQ) rfl tyS24 rfl tyZ44q h14,fun G7 A=>gW (C:=cQ) rfl tyS24 rfl tyZ44q h14,fun G7 A=>qP (R:=gY cQ 44 [(none,0,0)] [([]:List Rat)]) [1,0,2,3] (gW (C:=cQ) rfl tyS24 rfl tyZ44q h14) (fun b_ c_=>⟨[hO cQ (b_) x13.length 44 x13.length x13,⟨some ((G7 6).1.getD 0),1,62,1,1,[pS (vZ cQ) ([]:List (List Rat))]⟩,⟨some b4,1,114,1,1,[pS aC.cod v2]⟩,⟨some b1,1,113,4,1,(aD.enc a0)⟩],_,rfl,rfl,rfl⟩),fun G7 A=>qP (R:=gY cQ 44 [(none,0,0)] [([]:List Rat)]) [1,0,2,3,4] (gW (C:=cQ) rfl tyS24 rfl tyZ44q h14) (fun b_ c_=>⟨[hO cQ (b_) x13.length 44 x13.length x13,⟨some ((G7 6).1.getD 0),1,62,1,1,[pS (vZ cQ) ([]:List (List Rat))]⟩,hO (cH [(none,0,0)]) ((G7 2).1) x10.length 24 x10.length x10,⟨some b4,1,114,1,1,[pS aC.cod v2]⟩,⟨some b1,1,113,4,1,(aD.enc a0)⟩],_,rfl,rfl,rfl⟩),fun G7 A=>qP (R:=gY cQ 44 [(none,0,0)] [([]:List Rat)]) [1,0,2,3] (gW (C:=cQ) rfl tyS24 rfl tyZ44q h14) (fun b_ c_=>⟨[hO cQ (b_) x13.length 44 x13.length x13,⟨some ((G7 7).1.getD 0),1,24,1,1,[pS cQ ([]:List Rat)]⟩,⟨some b4,1,114,1,1,[pS aC.cod v2]⟩,⟨some b1,1,113,4,1,(aD.enc a0)⟩],_,rfl,rfl,rfl⟩),fun G7 A=>qP (R:=gY cQ 44 [(none,0,0)] [([]:List Rat)]) [1,0,2,3,4] (gW (C:=cQ) rfl tyS24 rfl tyZ44q h14) (fun b_ c_=>⟨[hO cQ (b_) x13.length 44 x13.length x13,⟨some ((G7 7).1.getD 0),1,24,1,1,[pS cQ ([]:List Rat)]⟩,hO (cH [(none,0,0)]) ((G7 2).1) x10.length 24 x10.length x10,⟨some b4,1,114,1,1,[pS aC.cod v2]⟩,⟨some b1,1,113,4,1,(aD.enc a0)⟩],_,rfl,rfl,rfl⟩),fun G7 A=>qP (R:=gY cQ 44 [(none,0,0)] [([]:List Rat)]) [1,2,0,3,4] (gW (C:=cQ) rfl tyS24 rfl tyZ44q h14) (fun b_ c_=>⟨[hO cQ (b_) x13.length 44 x13.length x13,⟨some ((G7 7).1.getD 0),1,24,1,1,[pS cQ ([]:List Rat)]⟩,⟨some ((G7 6).1.getD 0),1,62,1,1,[pS (vZ cQ) ([]:List (List Rat))]⟩,⟨some b4,1,114,1,1,[pS aC.cod v2]⟩,⟨some b1,1,113,4,1,(aD.enc a0)⟩],_,rfl,rfl,rfl⟩),fun G7 A=>qP (R:=gY cQ 44 [(none,0,0)] [([]:List Rat)]) [1,2,0,3,4,5] (gW (C:=cQ) rfl tyS24 rfl tyZ44q h14) (fun b_ c_=>⟨[hO cQ (b_) x13.length 44 x13.length x13,⟨some ((G7 7).1.getD 0),1,24,1,1,[pS cQ ([]:List Rat)]⟩,⟨some ((G7 6).1.getD 0),1,62,1,1,[pS (vZ cQ) ([]:List (List Rat))]⟩,hO (cH [(none,0,0)]) ((G7 2).1) x10.length 24 x10.length x10,⟨some b4,1,114,1,1,[pS aC.cod v2]⟩,⟨some b1,1,113,4,1,(aD.enc a0)⟩],_,rfl,rfl,rfl⟩),fun G7 A=>qP (R:=gY cQ 44 [(none,0,0)] [([]:List Rat)]) [1,2,0,3,4,5] (gW (C:=cQ) rfl tyS24 rfl tyZ44q h14) (fun b_ c_=>⟨[hO cQ (b_) x13.length 44 x13.length x13,⟨some ((G7 7).1.getD 0),1,24,1,1,[pS cQ ([]:List Rat)]⟩,⟨some ((G7 6).1.getD 0),1,62,1,1,[pO ((G7 2).1) x10.length x10.length]⟩,hO (cH [(none,0,0)]) ((G7 2).1) x10.length 24 x10.length x10,⟨some b4,1,114,1,1,[pS aC.cod v2]⟩,⟨some b1,1,113,4,1,(aD.enc a0)⟩],_,rfl,rfl,rfl⟩),trivial⟩ (fun G7=>zU1)⟩,⟨rfl,.hvy (ins:=fun _=>[]) [0,1,2,3,8,9,10,11] ⟨fun G7 A=>nH (T:=62) (zs:=[pS (vZ cQ) ([]:List (List Rat))]) rfl tyZ62q,fun G7 A=>nH (T:=62) (zs:=[pS (vZ cQ) ([]:List (List Rat))]) rfl tyZ62q,fun G7 A=>nH (T:=62) (zs:=[pS (vZ cQ) ([]:List (List Rat))]) rfl tyZ62q,fun G7 A=>nH (T:=62) (zs:=[pS (vZ cQ) ([]:List (List Rat))]) rfl tyZ62q,fun G7 A=>qP (R:=gY cQ 44 [(none,0,0)] [([]:List Rat)]) [1,0,2,3] (nH (T:=62) (zs:=[pS (vZ cQ) ([]:List (List Rat))]) rfl tyZ62q) (fun b_ c_=>⟨[⟨some (b_.getD 0),1,62,1,1,[pS (vZ cQ) ([]:List (List Rat))]⟩,⟨some ((G7 7).1.getD 0),1,24,1,1,[pS cQ ([]:List Rat)]⟩,⟨some b4,1,114,1,1,[pS aC.cod v2]⟩,⟨some b1,1,113,4,1,(aD.enc a0)⟩],_,rfl,rfl,rfl⟩),fun G7 A=>qP (R:=gY cQ 44 [(none,0,0)] [([]:List Rat)]) [1,0,2,3,4] (nH (T:=62) (zs:=[pS (vZ cQ) ([]:List (List Rat))]) rfl tyZ62q) (fun b_ c_=>⟨[⟨some (b_.getD 0),1,62,1,1,[pS (vZ cQ) ([]:List (List Rat))]⟩,⟨some ((G7 7).1.getD 0),1,24,1,1,[pS cQ ([]:List Rat)]⟩,hO (cH [(none,0,0)]) ((G7 2).1) x10.length 24 x10.length x10,⟨some b4,1,114,1,1,[pS aC.cod v2]⟩,⟨some b1,1,113,4,1,(aD.enc a0)⟩],_,rfl,rfl,rfl⟩),fun G7 A=>qP (R:=gY cQ 44 [(none,0,0)] [([]:List Rat)]) [1,0,2,3,4] (nH (T:=62) (zs:=[pS (vZ cQ) ([]:List (List Rat))]) rfl tyZ62q) (fun b_ c_=>⟨[⟨some (b_.getD 0),1,62,1,1,[pS (vZ cQ) ([]:List (List Rat))]⟩,⟨some ((G7 7).1.getD 0),1,24,1,1,[pS cQ ([]:List Rat)]⟩,hO cQ ((G7 5).1) x13.length 44 x13.length x13,⟨some b4,1,114,1,1,[pS aC.cod v2]⟩,⟨some b1,1,113,4,1,(aD.enc a0)⟩],_,rfl,rfl,rfl⟩),fun G7 A=>qP (R:=gY cQ 44 [(none,0,0)] [([]:List Rat)]) [1,0,2,3,4,5] (nH (T:=62) (zs:=[pS (vZ cQ) ([]:List (List Rat))]) rfl tyZ62q) (fun b_ c_=>⟨[⟨some (b_.getD 0),1,62,1,1,[pS (vZ cQ) ([]:List (List Rat))]⟩,⟨some ((G7 7).1.getD 0),1,24,1,1,[pS cQ ([]:List Rat)]⟩,hO cQ ((G7 5).1) x13.length 44 x13.length x13,hO (cH [(none,0,0)]) ((G7 2).1) x10.length 24 x10.length x10,⟨some b4,1,114,1,1,[pS aC.cod v2]⟩,⟨some b1,1,113,4,1,(aD.enc a0)⟩],_,rfl,rfl,rfl⟩),trivial⟩ (fun G7=>trivial)⟩,⟨rfl,.hvy (ins:=fun _=>[]) [0,1,2,3,4,5,6,7] ⟨fun G7 A=>nH (T:=24) (zs:=[pS cQ ([]:List Rat)]) rfl tyZ24q,fun G7 A=>nH (T:=24) (zs:=[pS cQ ([]:List Rat)]) rfl tyZ24q,fun G7 A=>nH (T:=24) (zs:=[pS cQ ([]:List Rat)]) rfl tyZ24q,fun G7 A=>nH (T:=24) (zs:=[pS cQ ([]:List Rat)]) rfl tyZ24q,fun G7 A=>nH (T:=24) (zs:=[pS cQ ([]:List Rat)]) rfl tyZ24q,fun G7 A=>nH (T:=24) (zs:=[pS cQ ([]:List Rat)]) rfl tyZ24q,fun G7 A=>nH (T:=24) (zs:=[pS cQ ([]:List Rat)]) rfl tyZ24q,fun G7 A=>nH (T:=24) (zs:=[pS cQ ([]:List Rat)]) rfl tyZ24q,trivial⟩ (fun G7=>trivial)⟩,⟨rfl,.hvy [13,15] ⟨fun G7 A=>aQA (t_s 1 rfl rfl rfl tyO62.s),fun G7 A=>aQA (t_s 1 rfl rfl rfl tyO62.s),trivial⟩ (fun G7=>zU2)⟩,trivial⟩ (fun bs8 G7=>?_)
 refine go ?_ ?_
 refine aV (cC (fun H E=>∃(x77:List Nat),∃(x83:List (List Rat)),∃(b78:Option Nat),∃(c79:Nat),∃(n80:Nat),∃(g84:List vK),∃(N85:Nat),lR K a0 v2 x13 x77 x83=some r∧x77.length=n80∧x83.length=N85∧lK g84 x83∧(∀k∈x77,k<N85)∧H=([⟨some ((G7 7).1.getD 0),1,24,1,1,[pO ((G7 5).1) x13.length x13.length]⟩,⟨some ((G7 6).1.getD 0),1,62,1,1,[pO b78 n80 c79]⟩,hO cQ ((G7 5).1) x13.length 44 x13.length x13,hO (cH g84) b78 c79 24 n80 x77,⟨some b4,1,114,1,1,[pS aC.cod v2]⟩,⟨some b1,1,113,4,1,(aD.enc a0)⟩]++gY cQ 44 g84 x83)∧E=[(1,.vc (pP (some b1) 0)),(4,.vc (pP (some b4) 0)),(5,.vc (pF 156 [pP (some b4) 0,pP (some b1) 0])),(6,.vc (pP (some ((G7 6).1.getD 0)) 0)),(7,.vc (pP (some ((G7 7).1.getD 0)) 0))]) ?_ (fun Jj90=>?_))
 ·rintro _ _ ⟨x77,x83,b78,c79,n80,g84,N85,hF,q81,q86,q87,q88,rfl,rfl⟩
  unfold lR at hF
  obtain⟨x91,h92,hF⟩:=a9 hF
  refine go ?_ ?_
  refine uH (C:=aF.cod) (z:=(⟨0,0⟩:aF)) rfl tyS29 rfl tyZ58q rfl h92 (fun b93=>?_)
  refine yM ?_
  refine bQ (aU (aO (aW (nC ?_))))
  refine aS (fV 6 4 rfl rfl rfl rfl (.agg tyA113)) zU1 ?_
  refine aS (nO (off:=0) (k:=1) rfl tyF113_1) zU1 ?_
  refine aS (fV 6 1 rfl rfl rfl rfl (.one tyO24)) zU1 ?_
  refine nC ?_
  refine aAQ 0 [9,39,44] rfl rfl ⟨rfl,rfl,rfl,trivial⟩ rfl ?_
  obtain⟨v96,h97,hF⟩:=bC hF cM
  refine aS (bP rfl h97 rfl) ⟨rfl,rfl,rfl,trivial⟩ ?_
  refine aS (aFT (xs:=[.tmp 7]) (cs:=[pP (some ((G7 7).1.getD 0)) 0]) rfl rfl) zU1 ?_
  obtain⟨v98,h99,hF⟩:=a9 hF
  refine aMk (f:=156) (cs:=[pP (some b4) 0,pP (some b1) 0]) (pre:=[.vc (pS cQ v96),.vc (pF 157 [pP (some ((G7 7).1.getD 0)) 0])]) (xs:=[.tmp 45,.tmp 46]) 6 [0,4,5,2] [1,3] rfl (vS h99 rfl) ⟨rfl,rfl,rfl,trivial⟩ rfl rfl rfl (by decide) ?_
  rintro _ _ ⟨b100,c101,n102,q103,rfl,rfl⟩
  obtain⟨v105,h106,hF⟩:=bC hF yO
  refine go ?_ ?_
  refine aN rfl tyZ44q (fun b107=>?_)
  refine go ?_ ?_
  refine aV (cC (fun H E=>∃(x134:List Nat),∃(x140:List (List Rat)),∃(b135:Option Nat),∃(c136:Nat),∃(n137:Nat),∃(g141:List vK),∃(N142:Nat),k6 K v98 x134 x140=some r∧x134.length=n137∧x140.length=N142∧lK g141 x140∧(∀k∈x134,k<N142)∧H=([⟨some ((G7 7).1.getD 0),1,24,1,1,[pO b100 n102 c101]⟩,hO cQ b100 c101 44 n102 v98,⟨some ((G7 6).1.getD 0),1,62,1,1,[pO b135 n137 c136]⟩,hO (cH g141) b135 c136 24 n137 x134]++gY cQ 44 g141 x140)∧E=[(6,.vc (pP (some ((G7 6).1.getD 0)) 0)),(7,.vc (pP (some ((G7 7).1.getD 0)) 0))]) ?_ (fun Jj147=>?_))
  ·rintro _ _ ⟨x134,x140,b135,c136,n137,g141,N142,hF,q138,q143,q144,q145,rfl,rfl⟩
   unfold k6 at hF
   refine aU (aO (dr [0,0,1,7] 4 0 ?_ (fun bs149 G148=>?_)))
   refine bQ (aU (rQ (r6 (aQr 3 4 rfl rfl q144 (aFP q143 q145) ?_))))
   refine yI 3 [2,180] rfl ((aKT _ _).trans q138) zU2 rfl ?_
   refine yI 1 [3,181] rfl q103 zU2 rfl ?_
   obtain rfl:=p6 hF
   exact r9 (.inl rfl) Tryz.results71 (.tmp rfl (.tmp rfl .nil)) rfl rfl
  obtain⟨⟨x134',x140'⟩,hL,hRl146⟩:=a9 hF
  refine iN (fun k a w=>∃(x121:List Nat),∃(x127:List (List Rat)),∃(x133:Int),∃(b122:Option Nat),∃(c123:Nat),∃(n124:Nat),∃(g128:List vK),∃(N129:Nat),aX K a0 v2 x91 v105 k x121 x127 x133=some (x134',x140')∧x121.length=n124∧x127.length=N129∧lK g128 x127∧(∀k∈x121,k<N129)∧hs _ ([⟨some b107,1,44,4,1,(eQ v105)⟩,⟨some ((G7 7).1.getD 0),1,24,1,1,[pO b100 n102 c101]⟩,⟨some b4,1,114,1,1,[pS aC.cod v2]⟩,⟨some b1,1,113,4,1,(aD.enc a0)⟩,hO cQ b100 c101 44 n102 v98,⟨some ((G7 6).1.getD 0),1,62,1,1,[pO b122 n124 c123]⟩,hO (cH g128) b122 c123 24 n124 x121]++gY cQ 44 g128 x127) [(1,.vc (pP (some b1) 0)),(4,.vc (pP (some b4) 0)),(5,.vc (pF 156 [pP (some b4) 0,pP (some b1) 0])),(6,.vc (pP (some ((G7 6).1.getD 0)) 0)),(7,.vc (pP (some ((G7 7).1.getD 0)) 0)),(9,.vc (pS aF.cod x91)),(10,.vc (pP (some b107) 0)),(49,.vc (pS aC.cod v2)),(50,.vc (pI .i64 (v2.length:Int))),(51,.vc (pI .i64 x133))] a w) K (fun a w ⟨_,_,_,_,_,_,_,_,hF,_,_,_,_,_⟩=>by cases hF) (fun k a w ⟨x121,x127,x133,b122,c123,n124,g128,N129,hF,q125,q130,q131,q132,hh⟩=>iP ?_ hh) (fun a w hh=>⟨x77,x83,0,b78,c79,n80,g84,N85,hL,q81,q86,q87,q88,cJ 7 [0,1,2,3,4,5,6] rfl rfl (by decide) (by exact⟨rfl,rfl,rfl,rfl,rfl,rfl,rfl,rfl,rfl,rfl,trivial⟩) hh⟩)
  rw [aX.eq_2] at hF
  refine go ?_ ?_
  refine aJ hF rfl (fun h151 hF=>?_) (fun h151 hF=>?_)
  ·refine go ?_ ?_
   refine aV ?_
   obtain⟨v152,h153,hF⟩:=a9 hF
   refine go ?_ ?_
   refine aN rfl tyZ3q (fun b154=>?_)
   refine aN rfl tyZ118q (fun b155=>?_)
   obtain⟨v156,h157,hF⟩:=a9 hF
   refine go ?_ ?_
   refine aMI rfl (zQ h157) zU1 ?_
   rintro _ _ ⟨b159,c160,n161,q162,rfl,rfl⟩
   obtain⟨v164,h165,hF⟩:=a9 hF
   refine go ?_ ?_
   refine aN rfl tyZ51q (fun b166=>?_)
   refine go ?_ ?_
   refine aV (go ?_ ?_)
   refine aJ hF rfl (fun h167 hF=>?_) (fun h167 hF=>?_)
   ·refine aO (aW (nC ?_))
    refine aS (nO (off:=0) (k:=0) rfl tyF118_0) zU1 ?_
    refine aS (fV 2 1 rfl rfl rfl rfl (.one tyO3)) zU1 ?_
    refine aS (fV 4 4 rfl rfl rfl rfl (.agg tyA44)) zU1 ?_
    obtain⟨v168,h169,hF⟩:=a9 hF
    refine aS (lT (C:=aF.cod) 1 rfl tyS29 rfl q162 (aT h169).1 (aT h169).2.1) zU2 ?_
    refine aS (aKK (off:=0) (k:=0) rfl tyF58_0) zU1 ?_
    obtain⟨x170,h171,hF⟩:=a9 hF
    refine oI (wU 1 rfl rfl h169 h171 tyA44.s) zU2 ?_
    refine bQ (aU (aO (uQ (fun H E=>∃(x174:List aF),dO K a0 v2 x121 x127 x133 v152 v164 (aX K a0 v2 x91 v105 k) x174=some (x134',x140')∧x174.length=n161∧H=([⟨some b166,1,51,18,1,(aA.enc v164)⟩,hO aF.cod b159 c160 58 n161 x174,⟨some b155,1,118,2,1,(aC.enc v152)⟩,⟨some b154,1,3,1,1,[pI .i64 x133]⟩,⟨some b107,1,44,4,1,(eQ v105)⟩,⟨some ((G7 7).1.getD 0),1,24,1,1,[pO b100 n102 c101]⟩,⟨some b4,1,114,1,1,[pS aC.cod v2]⟩,⟨some b1,1,113,4,1,(aD.enc a0)⟩,hO cQ b100 c101 44 n102 v98,⟨some ((G7 6).1.getD 0),1,62,1,1,[pO b122 n124 c123]⟩,hO (cH g128) b122 c123 24 n124 x121]++gY cQ 44 g128 x127)∧E=[(1,.vc (pP (some b1) 0)),(4,.vc (pP (some b4) 0)),(5,.vc (pF 156 [pP (some b4) 0,pP (some b1) 0])),(6,.vc (pP (some ((G7 6).1.getD 0)) 0)),(7,.vc (pP (some ((G7 7).1.getD 0)) 0)),(9,.vc (pS aF.cod x91)),(10,.vc (pP (some b107) 0)),(11,.vc (pP (some b154) 0)),(12,.vc (pP (some b155) 0)),(13,.vc (pO b159 n161 c160)),(14,.vc (pP (some b166) 0)),(49,.vc (pS aC.cod v2)),(50,.vc (pI .i64 (v2.length:Int))),(51,.vc (pI .i64 x133))]) ?_ (fun Jj180=>?_))))
    ·rintro _ _ ⟨x174,hF,q178,rfl,rfl⟩
     unfold dO at hF
     refine aO ?_
     obtain⟨v183,h184,hF⟩:=a9 hF
     rcases Bool.eq_false_or_eq_true (decide (v183<(v2.length:Int))) with h185|h185
     ·have hF:=t6 h185 hF
      have hF:=rS h184 hF
      obtain⟨v188,h189,hF⟩:=a9 hF
      refine jV [0,1,0,4,15,31,63,63,191,511,1023,63,2111,6207,16383,32767] 16 0 [.v (.vc (pI .i64 x133)),.v (.vc (pI .i64 v183)),.v (.vc (pS aC.cod v2)),.v (.vc (pI .i64 (v2.length:Int))),.v (.vc (pB (decide (v183<(v2.length:Int))))),.v (.vc (pB true)),.v (.vc (pS aC.cod v2)),.v (.vc (pI .i64 x133)),.v (.vc (pI .i64 v183)),.v (.vc (pM (aC.cod.e v188))),.v (.va (aC.enc v188)),.v (.vc (pP (some b155) 0)),.v (.vc (pI .i64 v152.row)),.v (.va ([pI .i64 v152.row]++[pI .i64 3])),.v (.vc (pB (v188.row==v152.row&&v188.kind==3))),.v (.vc (pB (v188.row==v152.row&&v188.kind==3)))] bI ⟨d0 (fV 3 1 rfl rfl rfl rfl (.one tyO3)) zU1,d0 (vV rfl h184) ⟨rfl,kG _ _,trivial⟩,d0 (fV 6 1 rfl rfl rfl rfl (.one tyO114)) zU1,d0 (tO rfl tyS114) zU1,d0 (aJM rfl) zU2,d0 (kP (bS (.inl rfl)) h185) zU1,g0 (fV 6 1 rfl rfl rfl rfl (.one tyO114)) zU1,g0 (fV 3 1 rfl rfl rfl rfl (.one tyO3)) zU1,g0 (vV rfl h184) ⟨rfl,kG _ _,trivial⟩,g0 (aJC rfl tyS114 h189) zU2,g0 (aD3 2 rfl rfl (.agg tyA118)) zU1,g0 (nO (off:=0) (k:=0) rfl tyF118_0) zU1,g0 (fV 2 1 rfl rfl rfl rfl (.one tyO3)) zU1,g0 (fF (is:=[0,1]) (xs:=[.tmp 99,.const (.int .i64 (3))]) (ps:=[.vc (pI .i64 v152.row),.vc (pI .i64 3)]) rfl tyB118q rfl rfl ⟨trivial,trivial,trivial⟩ rfl) ⟨rfl,kG _ _,trivial⟩,g0 (aRd rfl tyQ118) zU2,d0 (vH rfl) zU2,trivial⟩ (fun bs182 G181=>?_)
      refine bQ (aU (aJ hF rfl (fun h190 hF=>?_) (fun h190 hF=>?_)))
      ·have hF:=rS h184 hF
       obtain⟨v195,h196,hF⟩:=a9 hF
       obtain⟨v197,h198,hF⟩:=a9 hF
       refine jV [0,0,2,7,15,0,0,64,255,511] 9 1 [.v (.vc (pO b122 n124 c123)),.v (.vc (pI .i64 x133)),.v (.vc (pI .i64 v183)),.v (.vc (pE b122 v183 (cH g128).n 0)),.v (.vc (pO (jD g128 v195).1 (jD g128 v195).2.1 (jD g128 v195).2.2)),.v (.vc (pI .i64 x133)),.v (.vc (pP (some b166) 10)),.v (.va (eQ v164.mu)),.v (.vc (pE (jD g128 v195).1 x133 cQ.n 0))] bI ⟨d0 (fV 9 1 rfl rfl rfl rfl (.one tyO62)) zU1,d0 (fV 3 1 rfl rfl rfl rfl (.one tyO3)) zU1,d0 (vV rfl h184) ⟨rfl,kG _ _,trivial⟩,d0 (lT (C:=(cH g128)) 10 rfl tyS62 rfl q125 (aT h196).1 (aT h196).2.1) zU2,d0 (pK (C:=(cH g128)) (k:=1) 10 rfl rfl h196 rfl (.one tyO24) rfl) zU1,d0 (fV 3 1 rfl rfl rfl rfl (.one tyO3)) zU1,d0 (nO (off:=0) (k:=10) rfl tyF51_7) zU1,d0 (fV 0 4 rfl rfl rfl rfl (.agg tyA44)) zU1,d0 (lT (11+v195) rfl tyS24 (kS 11 rfl q131 q130 (q132 _ (bB h196))) (lM q131 q130 (q132 _ (bB h196))) (aT h198).1 (aT h198).2.1) zU2,trivial⟩ (fun bs192 G191=>?_)
       obtain⟨x199,h200,hF⟩:=a9 hF
       refine oI (wU (H':=([⟨some b166,1,51,18,1,(aA.enc v164)⟩,hO aF.cod b159 c160 58 n161 x174,⟨some b155,1,118,2,1,(aC.enc v152)⟩,⟨some b154,1,3,1,1,[pI .i64 x133]⟩,⟨some b107,1,44,4,1,(eQ v105)⟩,⟨some ((G7 7).1.getD 0),1,24,1,1,[pO b100 n102 c101]⟩,⟨some b4,1,114,1,1,[pS aC.cod v2]⟩,⟨some b1,1,113,4,1,(aD.enc a0)⟩,hO cQ b100 c101 44 n102 v98,⟨some ((G7 6).1.getD 0),1,62,1,1,[pO b122 n124 c123]⟩,hO (cH g128) b122 c123 24 n124 x121]++gY cQ 44 g128 (x127.set v195 x199))) (11+v195) rfl (aBC 11 rfl q131 q130 (q132 _ (bB h196))) h198 h200 tyA44.s (hH:=stN 11 rfl q131 q130 (q132 _ (bB h196)))) zU2 ?_
       refine bQ (xT (aU (aEg 1 [13] rfl q178 zU1 rfl ?_)))
       refine aEp 2 [(11,0)] rfl zU1 rfl ?_
       obtain⟨x204,h205,hF⟩:=a9 hF
       obtain⟨v206,h207,hF⟩:=bC hF cM
       refine jV [0,0,0,4,12,28,0,126,0,511] 9 1 [.v (.vc (pF 156 [pP (some b4) 0,pP (some b1) 0])),.v (.va (aD.enc a0)),.v (.vc (pP (some b1) 0)),.v (.vc (pS aG.cod a0.dofs)),.v (.vc (pI .i64 (a0.dofs.length:Int))),.v (.vc (pS cQ x204)),.v (.vc (pS aF.cod x174)),.v (.vc (pS cQ v206)),.v (.vc (pF 159 [pP (some ((G7 6).1.getD 0)) 0,pM (cI.e x133)]))] bI ⟨d0 (bS (.inl rfl)) zU1,d0 (fV 5 4 rfl rfl rfl rfl (.agg tyA113)) zU1,d0 (nO (off:=0) (k:=0) rfl tyF113_0) zU1,d0 (fV 5 1 rfl rfl rfl rfl (.one tyO23)) zU1,d0 (tO rfl tyS23) zU1,d0 (aCg 0 (gW (C:=cQ) rfl tyS24 rfl tyZ44q h205) (fun _ _=>rfl) rfl (fun _ _=>rfl)) zU1,d0 (bS (.inl rfl)) zU1,d0 (bP rfl h207 rfl) ⟨rfl,rfl,rfl,trivial⟩,d0 (aFT (xs:=[.tmp 6,.tmp 11]) (cs:=[pP (some ((G7 6).1.getD 0)) 0,pM (cI.e x133)]) rfl rfl) zU2,trivial⟩ (fun bs203 G202=>?_)
       obtain⟨v208,h209,hF⟩:=a9 hF
       refine uN (f:=156) (cs:=[pP (some b4) 0,pP (some b1) 0]) (pre:=[.vc (pS cQ v206),.vc (pF 159 [pP (some ((G7 6).1.getD 0)) 0,pM (cI.e x133)])]) (xs:=[.tmp 176,.tmp 177]) 9 [7,4,5,8] [0,1,2,3,6] rfl (fG h209 q125 (tG q130) (wK q131 q130 (q132 _ (bB h196)) (bH h200 rfl)) q132) ⟨rfl,rfl,rfl,trivial⟩ rfl rfl rfl (by decide) ?_
       rintro _ _ ⟨b210,c211,n212,g215,N216,q213,q217,q218,q219,rfl,rfl⟩
       refine rJ (oZ [⟨some ((G7 6).1.getD 0),1,62,1,1,[pO b210 n212 c211]⟩,⟨some b4,1,114,1,1,[pS aC.cod v2]⟩,⟨some b1,1,113,4,1,(aD.enc a0)⟩,hO (cH g215) b210 c211 24 n212 v208.1] (gY cQ 44 g215 v208.2) [⟨some b166,1,51,18,1,(aA.enc v164)⟩,⟨some b155,1,118,2,1,(aC.enc v152)⟩,⟨some b107,1,44,4,1,(eQ v105)⟩,⟨some ((G7 7).1.getD 0),1,24,1,1,[pO b100 n102 c101]⟩,hO cQ b100 c101 44 n102 v98]) ?_
       obtain⟨v221,h222,hF⟩:=a9 hF
       refine go ?_ ?_
       exact aL (fun a w hh=>⟨v208.1,v208.2,v221,b210,c211,n212,g215,N216,hF,q213,q217,q218,q219,cJ 9 [6,7,1,2,8,0,3] rfl rfl (by decide) (by exact⟨rfl,rfl,rfl,rfl,rfl,rfl,rfl,rfl,rfl,rfl,trivial⟩) hh⟩)
      refine iS (xT (aU (aEg 1 [13] rfl q178 zU1 rfl ?_)))
      refine aEp 2 [(11,0)] rfl zU1 rfl ?_
      obtain⟨x225,h226,hF⟩:=a9 hF
      obtain⟨v227,h228,hF⟩:=bC hF cM
      refine jV [0,0,0,4,12,28,0,126,0,511] 9 1 [.v (.vc (pF 156 [pP (some b4) 0,pP (some b1) 0])),.v (.va (aD.enc a0)),.v (.vc (pP (some b1) 0)),.v (.vc (pS aG.cod a0.dofs)),.v (.vc (pI .i64 (a0.dofs.length:Int))),.v (.vc (pS cQ x225)),.v (.vc (pS aF.cod x174)),.v (.vc (pS cQ v227)),.v (.vc (pF 159 [pP (some ((G7 6).1.getD 0)) 0,pM (cI.e x133)]))] bI ⟨d0 (bS (.inl rfl)) zU1,d0 (fV 5 4 rfl rfl rfl rfl (.agg tyA113)) zU1,d0 (nO (off:=0) (k:=0) rfl tyF113_0) zU1,d0 (fV 5 1 rfl rfl rfl rfl (.one tyO23)) zU1,d0 (tO rfl tyS23) zU1,d0 (aCg 0 (gW (C:=cQ) rfl tyS24 rfl tyZ44q h226) (fun _ _=>rfl) rfl (fun _ _=>rfl)) zU1,d0 (bS (.inl rfl)) zU1,d0 (bP rfl h228 rfl) ⟨rfl,rfl,rfl,trivial⟩,d0 (aFT (xs:=[.tmp 6,.tmp 11]) (cs:=[pP (some ((G7 6).1.getD 0)) 0,pM (cI.e x133)]) rfl rfl) zU2,trivial⟩ (fun bs224 G223=>?_)
      obtain⟨v229,h230,hF⟩:=a9 hF
      refine uN (f:=156) (cs:=[pP (some b4) 0,pP (some b1) 0]) (pre:=[.vc (pS cQ v227),.vc (pF 159 [pP (some ((G7 6).1.getD 0)) 0,pM (cI.e x133)])]) (xs:=[.tmp 176,.tmp 177]) 9 [7,4,5,8] [0,1,2,3,6] rfl (fG h230 q125 q130 q131 q132) ⟨rfl,rfl,rfl,trivial⟩ rfl rfl rfl (by decide) ?_
      rintro _ _ ⟨b231,c232,n233,g236,N237,q234,q238,q239,q240,rfl,rfl⟩
      refine rJ (oZ [⟨some ((G7 6).1.getD 0),1,62,1,1,[pO b231 n233 c232]⟩,⟨some b4,1,114,1,1,[pS aC.cod v2]⟩,⟨some b1,1,113,4,1,(aD.enc a0)⟩,hO (cH g236) b231 c232 24 n233 v229.1] (gY cQ 44 g236 v229.2) [⟨some b166,1,51,18,1,(aA.enc v164)⟩,⟨some b155,1,118,2,1,(aC.enc v152)⟩,⟨some b107,1,44,4,1,(eQ v105)⟩,⟨some ((G7 7).1.getD 0),1,24,1,1,[pO b100 n102 c101]⟩,hO cQ b100 c101 44 n102 v98]) ?_
      obtain⟨v242,h243,hF⟩:=a9 hF
      refine go ?_ ?_
      exact aL (fun a w hh=>⟨v229.1,v229.2,v242,b231,c232,n233,g236,N237,hF,q234,q238,q239,q240,cJ 9 [6,7,1,2,8,0,3] rfl rfl (by decide) (by exact⟨rfl,rfl,rfl,rfl,rfl,rfl,rfl,rfl,rfl,rfl,trivial⟩) hh⟩)
     have hF:=uP h185 hF
     refine drb [0,1,0,4,15,31,63,63,191,511,1023,63,2111,6207,16383,32767] 16 0 ?_ (fun bs182 G181=>?_)
     refine bQ (aU (tZ rfl ?_))
     refine iS (xT (aU (aEg 1 [13] rfl q178 zU1 rfl ?_)))
     refine aEp 2 [(11,0)] rfl zU1 rfl ?_
     obtain⟨x246,h247,hF⟩:=a9 hF
     obtain⟨v248,h249,hF⟩:=bC hF cM
     refine jV [0,0,0,4,12,28,0,126,0,511] 9 1 [.v (.vc (pF 156 [pP (some b4) 0,pP (some b1) 0])),.v (.va (aD.enc a0)),.v (.vc (pP (some b1) 0)),.v (.vc (pS aG.cod a0.dofs)),.v (.vc (pI .i64 (a0.dofs.length:Int))),.v (.vc (pS cQ x246)),.v (.vc (pS aF.cod x174)),.v (.vc (pS cQ v248)),.v (.vc (pF 159 [pP (some ((G7 6).1.getD 0)) 0,pM (cI.e x133)]))] bI ⟨d0 (bS (.inl rfl)) zU1,d0 (fV 5 4 rfl rfl rfl rfl (.agg tyA113)) zU1,d0 (nO (off:=0) (k:=0) rfl tyF113_0) zU1,d0 (fV 5 1 rfl rfl rfl rfl (.one tyO23)) zU1,d0 (tO rfl tyS23) zU1,d0 (aCg 0 (gW (C:=cQ) rfl tyS24 rfl tyZ44q h247) (fun _ _=>rfl) rfl (fun _ _=>rfl)) zU1,d0 (bS (.inl rfl)) zU1,d0 (bP rfl h249 rfl) ⟨rfl,rfl,rfl,trivial⟩,d0 (aFT (xs:=[.tmp 6,.tmp 11]) (cs:=[pP (some ((G7 6).1.getD 0)) 0,pM (cI.e x133)]) rfl rfl) zU2,trivial⟩ (fun bs245 G244=>?_)
     obtain⟨v250,h251,hF⟩:=a9 hF
     refine uN (f:=156) (cs:=[pP (some b4) 0,pP (some b1) 0]) (pre:=[.vc (pS cQ v248),.vc (pF 159 [pP (some ((G7 6).1.getD 0)) 0,pM (cI.e x133)])]) (xs:=[.tmp 176,.tmp 177]) 9 [7,4,5,8] [0,1,2,3,6] rfl (fG h251 q125 q130 q131 q132) ⟨rfl,rfl,rfl,trivial⟩ rfl rfl rfl (by decide) ?_
     rintro _ _ ⟨b252,c253,n254,g257,N258,q255,q259,q260,q261,rfl,rfl⟩
     refine rJ (oZ [⟨some ((G7 6).1.getD 0),1,62,1,1,[pO b252 n254 c253]⟩,⟨some b4,1,114,1,1,[pS aC.cod v2]⟩,⟨some b1,1,113,4,1,(aD.enc a0)⟩,hO (cH g257) b252 c253 24 n254 v250.1] (gY cQ 44 g257 v250.2) [⟨some b166,1,51,18,1,(aA.enc v164)⟩,⟨some b155,1,118,2,1,(aC.enc v152)⟩,⟨some b107,1,44,4,1,(eQ v105)⟩,⟨some ((G7 7).1.getD 0),1,24,1,1,[pO b100 n102 c101]⟩,hO cQ b100 c101 44 n102 v98]) ?_
     obtain⟨v263,h264,hF⟩:=a9 hF
     refine go ?_ ?_
     exact aL (fun a w hh=>⟨v250.1,v250.2,v263,b252,c253,n254,g257,N258,hF,q255,q259,q260,q261,cJ 9 [6,7,1,2,8,0,3] rfl rfl (by decide) (by exact⟨rfl,rfl,rfl,rfl,rfl,rfl,rfl,rfl,rfl,rfl,trivial⟩) hh⟩)
    refine go ?_ ?_
    refine aJ hF rfl (fun h265 hF=>?_) (fun h265 hF=>?_)
    ·obtain⟨v268,h269,hF⟩:=bC hF uL
     obtain⟨v270,h271,hF⟩:=a9 hF
     refine dr [0,0,2,0,0,0,56,127,255,511] 9 1 ?_ (fun bs267 G266=>?_)
     obtain⟨x272,h273,hF⟩:=a9 hF
     refine oI (wU 1 rfl rfl h271 h273 tyA44.s) zU2 ?_
     refine bQ ?_
     exact oC Jj180 ⟨x272,hF,(bH h273 (bH h171 q162)),rfl,rfl⟩ 11 [0,1,2,3,4,5,6,7,8,9,10] rfl rfl ⟨rfl,rfl,rfl,rfl,rfl,rfl,rfl,rfl,rfl,rfl,rfl,rfl,rfl,rfl,trivial⟩
    refine iS ?_
    exact oC Jj180 ⟨x170,hF,(bH h171 q162),rfl,rfl⟩ 11 [0,1,2,3,4,5,6,7,8,9,10] rfl rfl ⟨rfl,rfl,rfl,rfl,rfl,rfl,rfl,rfl,rfl,rfl,rfl,rfl,rfl,rfl,trivial⟩
   refine go ?_ ?_
   refine aJ hF rfl (fun h275 hF=>?_) (fun h275 hF=>?_)
   ·obtain⟨v276,h277,x278,h279,v283,h284,v285,h286,hF⟩:=bn4 hF
    obtain⟨v287,h288,hF⟩:=a9 hF
    obtain⟨v289,h290,hF⟩:=bC hF pG
    obtain⟨v291,h292,hF⟩:=a9 hF
    refine go ?_ ?_
    refine jV [0,0,2,6,15,31,0,0,128,511,1023] 10 1 [.v (.vc (pO b122 n124 c123)),.v (.vc (pI .i64 x133)),.v (.vc (pI .i64 v283)),.v (.vc (pI .i64 v285)),.v (.vc (pE b122 v285 (cH g128).n 0)),.v (.vc (pO (jD g128 v287).1 (jD g128 v287).2.1 (jD g128 v287).2.2)),.v (.vc (pI .i64 x133)),.v (.va (eQ v105)),.v (.va (eQ v289)),.v (.vc (pE (jD g128 v287).1 x133 cQ.n 0))] bI ⟨d0 (fV 9 1 rfl rfl rfl rfl (.one tyO62)) zU1,d0 (fV 3 1 rfl rfl rfl rfl (.one tyO3)) zU1,d0 (vV rfl h284) ⟨rfl,kG _ _,trivial⟩,d0 (aBw rfl h286) ⟨rfl,kG _ _,trivial⟩,d0 (lT (C:=(cH g128)) 10 rfl tyS62 rfl q125 (aT h288).1 (aT h288).2.1) zU2,d0 (pK (C:=(cH g128)) (k:=1) 10 rfl rfl h288 rfl (.one tyO24) rfl) zU1,d0 (fV 3 1 rfl rfl rfl rfl (.one tyO3)) zU1,d0 (fV 4 4 rfl rfl rfl rfl (.agg tyA44)) zU1,d0 (bP rfl h290 rfl) zU1,d0 (lT (11+v287) rfl tyS24 (kS 11 rfl q131 q130 (q132 _ (bB h288))) (lM q131 q130 (q132 _ (bB h288))) (aT h292).1 (aT h292).2.1) zU2,trivial⟩ (fun bs282 G281=>?_)
    obtain⟨x293,h294,hF⟩:=a9 hF
    refine oI (wU (H':=([⟨some b166,1,51,18,1,(aA.enc v164)⟩,hO aF.cod b159 c160 58 n161 x278,⟨some b155,1,118,2,1,(aC.enc v152)⟩,⟨some b154,1,3,1,1,[pI .i64 x133]⟩,⟨some b107,1,44,4,1,(eQ v105)⟩,⟨some ((G7 7).1.getD 0),1,24,1,1,[pO b100 n102 c101]⟩,⟨some b4,1,114,1,1,[pS aC.cod v2]⟩,⟨some b1,1,113,4,1,(aD.enc a0)⟩,hO cQ b100 c101 44 n102 v98,⟨some ((G7 6).1.getD 0),1,62,1,1,[pO b122 n124 c123]⟩,hO (cH g128) b122 c123 24 n124 x121]++gY cQ 44 g128 (x127.set v287 x293))) (11+v287) rfl (aBC 11 rfl q131 q130 (q132 _ (bB h288))) h292 h294 tyA44.s (hH:=stN 11 rfl q131 q130 (q132 _ (bB h288)))) zU2 ?_
    refine bQ (xT (aU (aEg 1 [13,57,114] rfl (bH h279 q162) ⟨rfl,rfl,rfl,trivial⟩ rfl ?_)))
    refine aEp 2 [(11,0)] rfl zU1 rfl ?_
    obtain⟨x298,h299,hF⟩:=a9 hF
    obtain⟨v300,h301,hF⟩:=bC hF cM
    refine jV [0,0,0,4,12,28,0,126,0,511] 9 1 [.v (.vc (pF 156 [pP (some b4) 0,pP (some b1) 0])),.v (.va (aD.enc a0)),.v (.vc (pP (some b1) 0)),.v (.vc (pS aG.cod a0.dofs)),.v (.vc (pI .i64 (a0.dofs.length:Int))),.v (.vc (pS cQ x298)),.v (.vc (pS aF.cod x278)),.v (.vc (pS cQ v300)),.v (.vc (pF 159 [pP (some ((G7 6).1.getD 0)) 0,pM (cI.e x133)]))] bI ⟨d0 (bS (.inl rfl)) zU1,d0 (fV 5 4 rfl rfl rfl rfl (.agg tyA113)) zU1,d0 (nO (off:=0) (k:=0) rfl tyF113_0) zU1,d0 (fV 5 1 rfl rfl rfl rfl (.one tyO23)) zU1,d0 (tO rfl tyS23) zU1,d0 (aCg 0 (gW (C:=cQ) rfl tyS24 rfl tyZ44q h299) (fun _ _=>rfl) rfl (fun _ _=>rfl)) zU1,d0 (bS (.inl rfl)) zU1,d0 (bP rfl h301 rfl) ⟨rfl,rfl,rfl,trivial⟩,d0 (aFT (xs:=[.tmp 6,.tmp 11]) (cs:=[pP (some ((G7 6).1.getD 0)) 0,pM (cI.e x133)]) rfl rfl) zU2,trivial⟩ (fun bs297 G296=>?_)
    obtain⟨v302,h303,hF⟩:=a9 hF
    refine uN (f:=156) (cs:=[pP (some b4) 0,pP (some b1) 0]) (pre:=[.vc (pS cQ v300),.vc (pF 159 [pP (some ((G7 6).1.getD 0)) 0,pM (cI.e x133)])]) (xs:=[.tmp 176,.tmp 177]) 9 [7,4,5,8] [0,1,2,3,6] rfl (fG h303 q125 (tG q130) (wK q131 q130 (q132 _ (bB h288)) (bH h294 rfl)) q132) ⟨rfl,rfl,rfl,trivial⟩ rfl rfl rfl (by decide) ?_
    rintro _ _ ⟨b304,c305,n306,g309,N310,q307,q311,q312,q313,rfl,rfl⟩
    refine rJ (oZ [⟨some ((G7 6).1.getD 0),1,62,1,1,[pO b304 n306 c305]⟩,⟨some b4,1,114,1,1,[pS aC.cod v2]⟩,⟨some b1,1,113,4,1,(aD.enc a0)⟩,hO (cH g309) b304 c305 24 n306 v302.1] (gY cQ 44 g309 v302.2) [⟨some b166,1,51,18,1,(aA.enc v164)⟩,⟨some b155,1,118,2,1,(aC.enc v152)⟩,⟨some b107,1,44,4,1,(eQ v105)⟩,⟨some ((G7 7).1.getD 0),1,24,1,1,[pO b100 n102 c101]⟩,hO cQ b100 c101 44 n102 v98]) ?_
    obtain⟨v315,h316,hF⟩:=a9 hF
    refine go ?_ ?_
    exact aL (fun a w hh=>⟨v302.1,v302.2,v315,b304,c305,n306,g309,N310,hF,q307,q311,q312,q313,cJ 9 [6,7,1,2,8,0,3] rfl rfl (by decide) (by exact⟨rfl,rfl,rfl,rfl,rfl,rfl,rfl,rfl,rfl,rfl,trivial⟩) hh⟩)
   refine go ?_ ?_
   refine aJ hF rfl (fun h317 hF=>?_) (fun h317 hF=>?_)
   ·refine aO ?_
    obtain⟨v320,h321,hF⟩:=bC hF pG
    obtain⟨v322,h323,hF⟩:=a9 hF
    refine dr [0,0,2,0,8,31,63,127] 7 1 ?_ (fun bs319 G318=>?_)
    obtain⟨x324,h325,v329,h330,v331,h332,v333,h334,hF⟩:=bn4 hF
    obtain⟨v335,h336,hF⟩:=bC hF pG
    obtain⟨v337,h338,hF⟩:=a9 hF
    refine go ?_ ?_
    refine jV [0,0,2,6,15,31,0,0,128,511,1023] 10 1 [.v (.vc (pO b122 n124 c123)),.v (.vc (pI .i64 x133)),.v (.vc (pI .i64 v329)),.v (.vc (pI .i64 v331)),.v (.vc (pE b122 v331 (cH g128).n 0)),.v (.vc (pO (jD g128 v333).1 (jD g128 v333).2.1 (jD g128 v333).2.2)),.v (.vc (pI .i64 x133)),.v (.va (eQ v105)),.v (.va (eQ v335)),.v (.vc (pE (jD g128 v333).1 x133 cQ.n 0))] bI ⟨d0 (fV 9 1 rfl rfl rfl rfl (.one tyO62)) zU1,d0 (fV 3 1 rfl rfl rfl rfl (.one tyO3)) zU1,d0 (vV rfl h330) ⟨rfl,kG _ _,trivial⟩,d0 (aBw rfl h332) ⟨rfl,kG _ _,trivial⟩,d0 (lT (C:=(cH g128)) 10 rfl tyS62 rfl q125 (aT h334).1 (aT h334).2.1) zU2,d0 (pK (C:=(cH g128)) (k:=1) 10 rfl rfl h334 rfl (.one tyO24) rfl) zU1,d0 (fV 3 1 rfl rfl rfl rfl (.one tyO3)) zU1,d0 (fV 4 4 rfl rfl rfl rfl (.agg tyA44)) zU1,d0 (bP rfl h336 rfl) zU1,d0 (lT (11+v333) rfl tyS24 (kS 11 rfl q131 q130 (q132 _ (bB h334))) (lM q131 q130 (q132 _ (bB h334))) (aT h338).1 (aT h338).2.1) zU2,trivial⟩ (fun bs328 G327=>?_)
    obtain⟨x339,h340,hF⟩:=a9 hF
    refine oI (wU (H':=([⟨some b166,1,51,18,1,(aA.enc v164)⟩,hO aF.cod b159 c160 58 n161 x324,⟨some b155,1,118,2,1,(aC.enc v152)⟩,⟨some b154,1,3,1,1,[pI .i64 x133]⟩,⟨some b107,1,44,4,1,(eQ v105)⟩,⟨some ((G7 7).1.getD 0),1,24,1,1,[pO b100 n102 c101]⟩,⟨some b4,1,114,1,1,[pS aC.cod v2]⟩,⟨some b1,1,113,4,1,(aD.enc a0)⟩,hO cQ b100 c101 44 n102 v98,⟨some ((G7 6).1.getD 0),1,62,1,1,[pO b122 n124 c123]⟩,hO (cH g128) b122 c123 24 n124 x121]++gY cQ 44 g128 (x127.set v333 x339))) (11+v333) rfl (aBC 11 rfl q131 q130 (q132 _ (bB h334))) h338 h340 tyA44.s (hH:=stN 11 rfl q131 q130 (q132 _ (bB h334)))) zU2 ?_
    refine bQ (xT (aU (aEg 1 [13,57,132] rfl (bH h325 q162) ⟨rfl,rfl,rfl,trivial⟩ rfl ?_)))
    refine aEp 2 [(11,0)] rfl zU1 rfl ?_
    obtain⟨x344,h345,hF⟩:=a9 hF
    obtain⟨v346,h347,hF⟩:=bC hF cM
    refine jV [0,0,0,4,12,28,0,126,0,511] 9 1 [.v (.vc (pF 156 [pP (some b4) 0,pP (some b1) 0])),.v (.va (aD.enc a0)),.v (.vc (pP (some b1) 0)),.v (.vc (pS aG.cod a0.dofs)),.v (.vc (pI .i64 (a0.dofs.length:Int))),.v (.vc (pS cQ x344)),.v (.vc (pS aF.cod x324)),.v (.vc (pS cQ v346)),.v (.vc (pF 159 [pP (some ((G7 6).1.getD 0)) 0,pM (cI.e x133)]))] bI ⟨d0 (bS (.inl rfl)) zU1,d0 (fV 5 4 rfl rfl rfl rfl (.agg tyA113)) zU1,d0 (nO (off:=0) (k:=0) rfl tyF113_0) zU1,d0 (fV 5 1 rfl rfl rfl rfl (.one tyO23)) zU1,d0 (tO rfl tyS23) zU1,d0 (aCg 0 (gW (C:=cQ) rfl tyS24 rfl tyZ44q h345) (fun _ _=>rfl) rfl (fun _ _=>rfl)) zU1,d0 (bS (.inl rfl)) zU1,d0 (bP rfl h347 rfl) ⟨rfl,rfl,rfl,trivial⟩,d0 (aFT (xs:=[.tmp 6,.tmp 11]) (cs:=[pP (some ((G7 6).1.getD 0)) 0,pM (cI.e x133)]) rfl rfl) zU2,trivial⟩ (fun bs343 G342=>?_)
    obtain⟨v348,h349,hF⟩:=a9 hF
    refine uN (f:=156) (cs:=[pP (some b4) 0,pP (some b1) 0]) (pre:=[.vc (pS cQ v346),.vc (pF 159 [pP (some ((G7 6).1.getD 0)) 0,pM (cI.e x133)])]) (xs:=[.tmp 176,.tmp 177]) 9 [7,4,5,8] [0,1,2,3,6] rfl (fG h349 q125 (tG q130) (wK q131 q130 (q132 _ (bB h334)) (bH h340 rfl)) q132) ⟨rfl,rfl,rfl,trivial⟩ rfl rfl rfl (by decide) ?_
    rintro _ _ ⟨b350,c351,n352,g355,N356,q353,q357,q358,q359,rfl,rfl⟩
    refine rJ (oZ [⟨some ((G7 6).1.getD 0),1,62,1,1,[pO b350 n352 c351]⟩,⟨some b4,1,114,1,1,[pS aC.cod v2]⟩,⟨some b1,1,113,4,1,(aD.enc a0)⟩,hO (cH g355) b350 c351 24 n352 v348.1] (gY cQ 44 g355 v348.2) [⟨some b166,1,51,18,1,(aA.enc v164)⟩,⟨some b155,1,118,2,1,(aC.enc v152)⟩,⟨some b107,1,44,4,1,(eQ v105)⟩,⟨some ((G7 7).1.getD 0),1,24,1,1,[pO b100 n102 c101]⟩,hO cQ b100 c101 44 n102 v98]) ?_
    obtain⟨v361,h362,hF⟩:=a9 hF
    refine go ?_ ?_
    exact aL (fun a w hh=>⟨v348.1,v348.2,v361,b350,c351,n352,g355,N356,hF,q353,q357,q358,q359,cJ 9 [6,7,1,2,8,0,3] rfl rfl (by decide) (by exact⟨rfl,rfl,rfl,rfl,rfl,rfl,rfl,rfl,rfl,rfl,trivial⟩) hh⟩)
   refine go ?_ ?_
   refine aJ hF rfl (fun h363 hF=>?_) (fun h363 hF=>?_)
   ·refine aO ?_
    obtain⟨v366,h367,hF⟩:=a9 hF
    obtain⟨v368,h369,hF⟩:=a9 hF
    obtain⟨v370,h371,hF⟩:=a9 hF
    obtain⟨v372,h373,hF⟩:=a9 hF
    obtain⟨v374,h375,hF⟩:=a9 hF
    obtain⟨v376,h377,hF⟩:=a9 hF
    obtain⟨v378,h379,hF⟩:=a9 hF
    obtain⟨x380,h381,hF⟩:=a9 hF
    obtain⟨v383,h384,hF⟩:=a9 hF
    refine rI (HsM [(0,fun G364=>([⟨some b166,1,51,18,1,(aA.enc v164)⟩,hO aF.cod b159 c160 58 n161 v156,⟨some b155,1,118,2,1,(aC.enc v152)⟩,⟨some b154,1,3,1,1,[pI .i64 x133]⟩,⟨some b107,1,44,4,1,(eQ v105)⟩,⟨some ((G7 7).1.getD 0),1,24,1,1,[pO b100 n102 c101]⟩,⟨some b4,1,114,1,1,[pS aC.cod v2]⟩,⟨some b1,1,113,4,1,(aD.enc a0)⟩,hO cQ b100 c101 44 n102 v98,⟨some ((G7 6).1.getD 0),1,62,1,1,[pO b122 n124 c123]⟩,hO (cH g128) b122 c123 24 n124 x121]++gY cQ 44 g128 x127)),(1,fun G364=>([⟨some b166,1,51,18,1,(aA.enc v164)⟩,hO aF.cod b159 c160 58 n161 v156,⟨some b155,1,118,2,1,(aC.enc v152)⟩,⟨some b154,1,3,1,1,[pI .i64 x133]⟩,⟨some b107,1,44,4,1,(eQ v105)⟩,⟨some ((G7 7).1.getD 0),1,24,1,1,[pO b100 n102 c101]⟩,⟨some b4,1,114,1,1,[pS aC.cod v2]⟩,⟨some b1,1,113,4,1,(aD.enc a0)⟩,hO cQ b100 c101 44 n102 v98,⟨some ((G7 6).1.getD 0),1,62,1,1,[pO b122 n124 c123]⟩,hO (cH g128) b122 c123 24 n124 x121]++gY cQ 44 g128 (x127.set v370 x380)))]) [17] [0,0,2,6,15,31,0,0,0,256,768,1920,3968,0,0,0,24575,90111,262143,524287] 19 1 [.v (.vc (pO b122 n124 c123)),.v (.vc (pI .i64 x133)),.v (.vc (pI .i64 v366)),.v (.vc (pI .i64 v368)),.v (.vc (pE b122 v368 (cH g128).n 0)),.v (.vc (pO (jD g128 v370).1 (jD g128 v370).2.1 (jD g128 v370).2.2)),.v (.vc (pI .i64 x133)),.v (.vc (pO b122 n124 c123)),.v (.vc (pI .i64 x133)),.v (.vc (pI .i64 v372)),.v (.vc (pI .i64 v374)),.v (.vc (pE b122 v374 (cH g128).n 0)),.v (.vc (pO (jD g128 v376).1 (jD g128 v376).2.1 (jD g128 v376).2.2)),.v (.vc (pI .i64 x133)),.v (.va (eQ v105)),.v (.va (eQ v105)),.v (.vc (pE (jD g128 v370).1 x133 cQ.n 0)),.g (fun _ _=>.any),.v (.vc (pE (jD g128 v376).1 x133 cQ.n 0))] bI ⟨d1 0 (fV 9 1 rfl rfl rfl rfl (.one tyO62)) zU1,d1 0 (fV 3 1 rfl rfl rfl rfl (.one tyO3)) zU1,d1 0 (vV rfl h367) ⟨rfl,kG _ _,trivial⟩,d1 0 (aBw rfl h369) ⟨rfl,kG _ _,trivial⟩,d1 0 (lT (C:=(cH g128)) 10 rfl tyS62 rfl q125 (aT h371).1 (aT h371).2.1) zU2,d1 0 (pK (C:=(cH g128)) (k:=1) 10 rfl rfl h371 rfl (.one tyO24) rfl) zU1,d1 0 (fV 3 1 rfl rfl rfl rfl (.one tyO3)) zU1,d1 0 (fV 9 1 rfl rfl rfl rfl (.one tyO62)) zU1,d1 0 (fV 3 1 rfl rfl rfl rfl (.one tyO3)) zU1,d1 0 (vV rfl h373) ⟨rfl,kG _ _,trivial⟩,d1 0 (aBw rfl h375) ⟨rfl,kG _ _,trivial⟩,d1 0 (lT (C:=(cH g128)) 10 rfl tyS62 rfl q125 (aT h377).1 (aT h377).2.1) zU2,d1 0 (pK (C:=(cH g128)) (k:=1) 10 rfl rfl h377 rfl (.one tyO24) rfl) zU1,⟨rfl,.run (L:=[0,1]) ⟨fun G364 A=>fV 3 1 rfl rfl rfl rfl (.one tyO3),fun G364 A=>fV 3 1 rfl rfl rfl rfl (.one tyO3),trivial⟩ (fun G364=>zU1)⟩,d1 0 (fV 4 4 rfl rfl rfl rfl (.agg tyA44)) zU1,⟨rfl,.run (L:=[0,1]) ⟨fun G364 A=>fV 4 4 rfl rfl rfl rfl (.agg tyA44),fun G364 A=>fV 4 4 rfl rfl rfl rfl (.agg tyA44),trivial⟩ (fun G364=>zU1)⟩,d1 0 (lT (11+v370) rfl tyS24 (kS 11 rfl q131 q130 (q132 _ (bB h371))) (lM q131 q130 (q132 _ (bB h371))) (aT h379).1 (aT h379).2.1) zU2,⟨rfl,.hvy [0] ⟨fun G364 A=>aBh (wU (H':=([⟨some b166,1,51,18,1,(aA.enc v164)⟩,hO aF.cod b159 c160 58 n161 v156,⟨some b155,1,118,2,1,(aC.enc v152)⟩,⟨some b154,1,3,1,1,[pI .i64 x133]⟩,⟨some b107,1,44,4,1,(eQ v105)⟩,⟨some ((G7 7).1.getD 0),1,24,1,1,[pO b100 n102 c101]⟩,⟨some b4,1,114,1,1,[pS aC.cod v2]⟩,⟨some b1,1,113,4,1,(aD.enc a0)⟩,hO cQ b100 c101 44 n102 v98,⟨some ((G7 6).1.getD 0),1,62,1,1,[pO b122 n124 c123]⟩,hO (cH g128) b122 c123 24 n124 x121]++gY cQ 44 g128 (x127.set v370 x380))++A) (11+v370) rfl (kS 11 rfl q131 q130 (q132 _ (bB h371))) h379 h381 tyA44.s (hH:=stNA 11 rfl q131 q130 (q132 _ (bB h371)))),trivial⟩ (fun G364=>zU2)⟩,d1 1 (lT (11+v376) rfl tyS24 (kS 11 rfl (wK q131 q130 (q132 _ (bB h371)) (bH h381 rfl)) (tG q130) (q132 _ (bB h377))) (lM (wK q131 q130 (q132 _ (bB h371)) (bH h381 rfl)) (tG q130) (q132 _ (bB h377))) (aT h384).1 (aT h384).2.1) zU2,trivial⟩ (fun bs365 G364=>?_)
    obtain⟨x386,h387,hF⟩:=a9 hF
    refine oI (wU (H':=([⟨some b166,1,51,18,1,(aA.enc v164)⟩,hO aF.cod b159 c160 58 n161 v156,⟨some b155,1,118,2,1,(aC.enc v152)⟩,⟨some b154,1,3,1,1,[pI .i64 x133]⟩,⟨some b107,1,44,4,1,(eQ v105)⟩,⟨some ((G7 7).1.getD 0),1,24,1,1,[pO b100 n102 c101]⟩,⟨some b4,1,114,1,1,[pS aC.cod v2]⟩,⟨some b1,1,113,4,1,(aD.enc a0)⟩,hO cQ b100 c101 44 n102 v98,⟨some ((G7 6).1.getD 0),1,62,1,1,[pO b122 n124 c123]⟩,hO (cH g128) b122 c123 24 n124 x121]++gY cQ 44 g128 ((x127.set v370 x380).set v376 x386))) (11+v376) rfl (aBC 11 rfl (wK q131 q130 (q132 _ (bB h371)) (bH h381 rfl)) (tG q130) (q132 _ (bB h377))) h384 h387 tyA44.s (hH:=stN 11 rfl (wK q131 q130 (q132 _ (bB h371)) (bH h381 rfl)) (tG q130) (q132 _ (bB h377)))) zU2 ?_
    refine bQ (aU (dG ?_))
    have hF:=rS h367 hF
    refine go ?_ ?_
    exact aL (fun a w hh=>⟨x121,((x127.set v370 x380).set v376 x386),v366,b122,c123,n124,g128,N129,hF,q125,(tG (tG q130)),(wK (wK q131 q130 (q132 _ (bB h371)) (bH h381 rfl)) (tG q130) (q132 _ (bB h377)) (bH h387 rfl)),q132,cJ 11 [4,5,6,7,8,9,10] rfl rfl (by decide) (by exact⟨rfl,rfl,rfl,rfl,rfl,rfl,rfl,rfl,rfl,rfl,trivial⟩) hh⟩)
   refine iS (xT (aU (aEg 1 [13,57] rfl q162 zU2 rfl ?_)))
   refine aEp 2 [(11,0)] rfl zU1 rfl ?_
   obtain⟨x393,h394,hF⟩:=a9 hF
   obtain⟨v395,h396,hF⟩:=bC hF cM
   refine jV [0,0,0,4,12,28,0,126,0,511] 9 1 [.v (.vc (pF 156 [pP (some b4) 0,pP (some b1) 0])),.v (.va (aD.enc a0)),.v (.vc (pP (some b1) 0)),.v (.vc (pS aG.cod a0.dofs)),.v (.vc (pI .i64 (a0.dofs.length:Int))),.v (.vc (pS cQ x393)),.v (.vc (pS aF.cod v156)),.v (.vc (pS cQ v395)),.v (.vc (pF 159 [pP (some ((G7 6).1.getD 0)) 0,pM (cI.e x133)]))] bI ⟨d0 (bS (.inl rfl)) zU1,d0 (fV 5 4 rfl rfl rfl rfl (.agg tyA113)) zU1,d0 (nO (off:=0) (k:=0) rfl tyF113_0) zU1,d0 (fV 5 1 rfl rfl rfl rfl (.one tyO23)) zU1,d0 (tO rfl tyS23) zU1,d0 (aCg 0 (gW (C:=cQ) rfl tyS24 rfl tyZ44q h394) (fun _ _=>rfl) rfl (fun _ _=>rfl)) zU1,d0 (bS (.inl rfl)) zU1,d0 (bP rfl h396 rfl) ⟨rfl,rfl,rfl,trivial⟩,d0 (aFT (xs:=[.tmp 6,.tmp 11]) (cs:=[pP (some ((G7 6).1.getD 0)) 0,pM (cI.e x133)]) rfl rfl) zU2,trivial⟩ (fun bs392 G391=>?_)
   obtain⟨v397,h398,hF⟩:=a9 hF
   refine uN (f:=156) (cs:=[pP (some b4) 0,pP (some b1) 0]) (pre:=[.vc (pS cQ v395),.vc (pF 159 [pP (some ((G7 6).1.getD 0)) 0,pM (cI.e x133)])]) (xs:=[.tmp 176,.tmp 177]) 9 [7,4,5,8] [0,1,2,3,6] rfl (fG h398 q125 q130 q131 q132) ⟨rfl,rfl,rfl,trivial⟩ rfl rfl rfl (by decide) ?_
   rintro _ _ ⟨b399,c400,n401,g404,N405,q402,q406,q407,q408,rfl,rfl⟩
   refine rJ (oZ [⟨some ((G7 6).1.getD 0),1,62,1,1,[pO b399 n401 c400]⟩,⟨some b4,1,114,1,1,[pS aC.cod v2]⟩,⟨some b1,1,113,4,1,(aD.enc a0)⟩,hO (cH g404) b399 c400 24 n401 v397.1] (gY cQ 44 g404 v397.2) [⟨some b166,1,51,18,1,(aA.enc v164)⟩,⟨some b155,1,118,2,1,(aC.enc v152)⟩,⟨some b107,1,44,4,1,(eQ v105)⟩,⟨some ((G7 7).1.getD 0),1,24,1,1,[pO b100 n102 c101]⟩,hO cQ b100 c101 44 n102 v98]) ?_
   obtain⟨v410,h411,hF⟩:=a9 hF
   refine go ?_ ?_
   exact aL (fun a w hh=>⟨v397.1,v397.2,v410,b399,c400,n401,g404,N405,hF,q402,q406,q407,q408,cJ 9 [6,7,1,2,8,0,3] rfl rfl (by decide) (by exact⟨rfl,rfl,rfl,rfl,rfl,rfl,rfl,rfl,rfl,rfl,trivial⟩) hh⟩)
  refine dG ?_
  obtain⟨rfl,rfl⟩:=sm2 hF
  exact oC Jj147 ⟨x121,x127,b122,c123,n124,g128,N129,hRl146,q125,q130,q131,q132,rfl,rfl⟩ 7 [1,4,5,6] rfl rfl zU2
 obtain⟨⟨x77',x83'⟩,hL,hRl89⟩:=a9 hF
 refine iN (fun k a w=>∃(x64:List Nat),∃(x70:List (List Rat)),∃(x76:Int),∃(b65:Option Nat),∃(c66:Nat),∃(n67:Nat),∃(g71:List vK),∃(N72:Nat),fD K v2 x10 k x64 x70 x76=some (x77',x83')∧x64.length=n67∧x70.length=N72∧lK g71 x70∧(∀k∈x64,k<N72)∧hs _ ([⟨some ((G7 7).1.getD 0),1,24,1,1,[pO ((G7 5).1) x13.length x13.length]⟩,⟨some ((G7 6).1.getD 0),1,62,1,1,[pO b65 n67 c66]⟩,hO cQ ((G7 5).1) x13.length 44 x13.length x13,hO (cH g71) b65 c66 24 n67 x64,⟨some b4,1,114,1,1,[pS aC.cod v2]⟩,⟨some b1,1,113,4,1,(aD.enc a0)⟩]++gY cQ 44 g71 x70) [(1,.vc (pP (some b1) 0)),(4,.vc (pP (some b4) 0)),(5,.vc (pF 156 [pP (some b4) 0,pP (some b1) 0])),(6,.vc (pP (some ((G7 6).1.getD 0)) 0)),(7,.vc (pP (some ((G7 7).1.getD 0)) 0)),(25,.vc (pI .i64 (x10.length:Int))),(26,.vc (pI .i64 x76))] a w) K (fun a w ⟨_,_,_,_,_,_,_,_,hF,_,_,_,_,_⟩=>by cases hF) (fun k a w ⟨x64,x70,x76,b65,c66,n67,g71,N72,hF,q68,q73,q74,q75,hh⟩=>iP ?_ hh) (fun a w hh=>⟨x10,[([]:List Rat)],0,((G7 2).1),x10.length,x10.length,[(none,0,0)],1,hL,rfl,rfl,aJw,(aOP h11),cJ 6 [0,1,2,3,4,5] rfl rfl (by decide) (by exact⟨rfl,rfl,rfl,rfl,rfl,rfl,rfl,trivial⟩) hh⟩)
 rw [fD.eq_2] at hF
 refine go ?_ ?_
 refine aJ hF rfl (fun h412 hF=>?_) (fun h412 hF=>?_)
 ·refine go ?_ ?_
  refine aV ?_
  have hF:=rS h14 hF
  obtain⟨v419,h420,hF⟩:=a9 hF
  refine go ?_ ?_
  refine rI (HsM [(0,fun G413=>([⟨some ((G7 7).1.getD 0),1,24,1,1,[pO ((G7 5).1) x13.length x13.length]⟩,⟨some ((G7 6).1.getD 0),1,62,1,1,[pO b65 n67 c66]⟩,hO cQ ((G7 5).1) x13.length 44 x13.length x13,hO (cH g71) b65 c66 24 n67 x64,⟨some b4,1,114,1,1,[pS aC.cod v2]⟩,⟨some b1,1,113,4,1,(aD.enc a0)⟩]++gY cQ 44 g71 x70)),(1,fun G413=>([hO cQ ((G413 4).1) x13.length 44 x13.length x13,⟨some ((G7 7).1.getD 0),1,24,1,1,[pO ((G7 5).1) x13.length x13.length]⟩,⟨some ((G7 6).1.getD 0),1,62,1,1,[pO b65 n67 c66]⟩,hO cQ ((G7 5).1) x13.length 44 x13.length x13,hO (cH g71) b65 c66 24 n67 x64,⟨some b4,1,114,1,1,[pS aC.cod v2]⟩,⟨some b1,1,113,4,1,(aD.enc a0)⟩]++gY cQ 44 g71 x70))]) [4] [0,0,0,4,12,31,63] 6 1 [.v (.vc (pO b65 n67 c66)),.v (.vc (pI .i64 x76)),.v (.vc (pS aC.cod v2)),.v (.vc (pI .i64 (v2.length:Int))),.g (fun b _=>.vc (pO b x13.length x13.length)),.v (.vc (pE b65 x76 (cH g71).n 0))] bI ⟨⟨rfl,.run (L:=[0,1]) ⟨fun G413 A=>fV 1 1 rfl rfl rfl rfl (.one tyO62),fun G413 A=>fV 2 1 rfl rfl rfl rfl (.one tyO62),trivial⟩ (fun G413=>zU1)⟩,⟨rfl,.run (L:=[0,1]) ⟨fun G413 A=>bS (.inl rfl),fun G413 A=>bS (.inl rfl),trivial⟩ (fun G413=>zU1)⟩,d1 0 (fV 4 1 rfl rfl rfl rfl (.one tyO114)) zU1,d1 0 (tO rfl tyS114) zU1,⟨rfl,.hvy [0] ⟨fun G413 A=>gW (C:=cQ) rfl tyS24 rfl tyZ44q h14,trivial⟩ (fun G413=>zU1)⟩,d1 1 (lT (C:=(cH g71)) 4 rfl tyS62 rfl q68 (aT h420).1 (aT h420).2.1) zU2,trivial⟩ (fun bs414 G413=>?_)
  obtain⟨x423,h424,hF⟩:=a9 hF
  refine aN6 (show([hO cQ ((G413 4).1) x13.length 44 x13.length x13,⟨some ((G7 7).1.getD 0),1,24,1,1,[pO ((G7 5).1) x13.length x13.length]⟩,⟨some ((G7 6).1.getD 0),1,62,1,1,[pO b65 n67 c66]⟩,hO cQ ((G7 5).1) x13.length 44 x13.length x13,hO (cH (g71++[((G413 4).1,x13.length,x13.length)])) b65 c66 24 n67 x64,⟨some b4,1,114,1,1,[pS aC.cod v2]⟩,⟨some b1,1,113,4,1,(aD.enc a0)⟩]++gY cQ 44 g71 x70)=([hO cQ ((G413 4).1) x13.length 44 x13.length x13,⟨some ((G7 7).1.getD 0),1,24,1,1,[pO ((G7 5).1) x13.length x13.length]⟩,⟨some ((G7 6).1.getD 0),1,62,1,1,[pO b65 n67 c66]⟩,hO cQ ((G7 5).1) x13.length 44 x13.length x13,hO (cH g71) b65 c66 24 n67 x64,⟨some b4,1,114,1,1,[pS aC.cod v2]⟩,⟨some b1,1,113,4,1,(aD.enc a0)⟩]++gY cQ 44 g71 x70) from by rw [aHQ (N:=x70.length) ((G413 4).1,x13.length,x13.length) q74.1 (aFP q73 q75)]) ?_
  refine oI (wU (C:=cH (g71++[((G413 4).1,x13.length,x13.length)])) (z':=x70.length) 4 rfl rfl h420 h424 tyO24.s (hq:=aHc ((G413 4).1,x13.length,x13.length) q74.1)) zU2 ?_
  refine aDE (g:=((G413 4).1,x13.length,x13.length)) 0 7 rfl rfl rfl q74 ?_
  obtain⟨v427,h428,hF⟩:=a9 hF
  refine go ?_ ?_
  exact aL (fun a w hh=>⟨x423,(x70++[x13]),v427,b65,c66,n67,(g71++[((G413 4).1,x13.length,x13.length)]),(N72+1),hF,(bH h424 q68),(aDf q73),(y6 q74 rfl),(rK q75 h424 q73),cJ 6 [0,1,2,3,4,5] rfl rfl (by decide) (by exact⟨rfl,rfl,rfl,rfl,rfl,rfl,rfl,trivial⟩) hh⟩)
 refine dG ?_
 obtain⟨rfl,rfl⟩:=sm2 hF
 exact oC Jj90 ⟨x64,x70,b65,c66,n67,g71,N72,hRl89,q68,q73,q74,q75,rfl,rfl⟩ 6 [0,1,2,3,4,5] rfl rfl ⟨rfl,rfl,rfl,rfl,rfl,trivial⟩
def rM (K:Nat) (a0:List aG) (a1:List Rat) (a2:List Rat) (a3:List aA) (x33:List aF):Option ((List Rat)×(List aF)×Int):=
 (bE K (⟨a0,a1,a2,a3⟩:aD) a1 x33).bind fun v41=>some (v41,x33,0)
def cX (K:Nat) (a0:List aG) (a1:List Rat) (a2:List Rat) (a3:List aA) (v5:List aC) (v10:aM×Int):Nat→(List aF)→Int→Option (List aF)
 |0,_,_=>none
 |k+1,x26,x32=>bif(decide (x32<(v5.length:Int))) then((bK v5 x32).bind fun v44=>(bK x26 v44.row).bind fun v47=>bif(v44.kind==0) then((bK v10.1.z x32).bind fun v50=>(nL x26 v44.row (⟨v50,v47.f⟩:aF)).bind fun x52=>(bK a3 v44.row).bind fun v55=>bif(decide (0<(v55.t.length:Int))) then((bK x52 v44.row).bind fun v61=>(jR K (⟨a0,a1,a2,a3⟩:aD) v55 v61.n).bind fun v63=>(bK x52 v44.row).bind fun v65=>(nL x52 v44.row (⟨v65.n,v63⟩:aF)).bind fun x67=>(aP (x32+1)).bind fun v70=>cX K a0 a1 a2 a3 v5 v10 k x67 v70) else((aP (x32+1)).bind fun v72=>cX K a0 a1 a2 a3 v5 v10 k x52 v72)) else(bif(v44.kind==1) then((bK v10.1.z x32).bind fun v77=>(aBx v47.f v77).bind fun v79=>(nL x26 v44.row (⟨v47.n,v79⟩:aF)).bind fun x81=>(aP (x32+1)).bind fun v84=>cX K a0 a1 a2 a3 v5 v10 k x81 v84) else(bif(v44.kind==2) then((bK v10.1.z x32).bind fun v89=>(aDW v47.f v89).bind fun v91=>(nL x26 v44.row (⟨v47.n,v91⟩:aF)).bind fun x93=>(aP (x32+1)).bind fun v96=>cX K a0 a1 a2 a3 v5 v10 k x93 v96) else((aP (x32+1)).bind fun v98=>cX K a0 a1 a2 a3 v5 v10 k x26 v98)))) else(some x26)
def mI (K:Nat) (a0:List aG) (a1:List Rat) (a2:List Rat) (a3:List aA):Option ((List Rat)×(List aF)×Int):=
 (mC K (⟨a0,a1,a2,a3⟩:aD)).bind fun v2=>bif(!v2) then(some ([],[],1)) else((iQ K (⟨a0,a1,a2,a3⟩:aD)).bind fun v5=>bif(decide (32<(v5.length:Int))) then(some ([],[],4)) else((l5 K (⟨a0,a1,a2,a3⟩:aD)).bind fun v8=>(l9 K v8.1 v8.2 4096).bind fun v10=>bif(v10.2 != 0) then(some ([],[],v10.2)) else((vC (a3.length:Int) (⟨0,0⟩:aF)).bind fun x14=>(cX K a0 a1 a2 a3 v5 v10 K x14 0).bind fun x33=>rM K a0 a1 a2 a3 x33)))
theorem uM {K:Nat} {a0:List aG} {a1:List Rat} {a2:List Rat} {a3:List aA} {r:(List Rat)×(List aF)×Int} (hF:mI K a0 a1 a2 a3=some r):Ct Tryz.prog 17 [.vc (pS aG.cod a0),.vc (pS cQ a1),.vc (pS cQ a2),.vc (pS aA.cod a3)] (.t3 (.vc (pS cQ r.1)) (.vc (pS aF.cod r.2.1)) (.vc (pI .i64 r.2.2))):=by
 unfold mI at hF
 refine aI Tryz.func17 rfl (by kernel_rfl) Tryz.ntmps17 rfl (fun w0 M0=>?_)
 refine aO (aW (aS (bS (.inr rfl)) ⟨eE cQ,trivial⟩ ?_))
 refine aS (bS (.inr rfl)) ⟨eE aF.cod,trivial⟩ ?_
 refine go ?_ ?_
 refine aS (fF (is:=[0,1,2,3]) (xs:=[.tmp 22,.tmp 23,.tmp 24,.tmp 25]) (ps:=[.vc (pS aG.cod a0),.vc (pS cQ a1),.vc (pS cQ a2),.vc (pS aA.cod a3)]) rfl tyB113q rfl rfl ⟨trivial,trivial,trivial,trivial,trivial⟩ rfl) ⟨rfl,rfl,rfl,rfl,trivial⟩ ?_
 refine aN rfl tyZ113q (fun b1=>?_)
 obtain⟨v2,h3,hF⟩:=bC hF vU
 refine go ?_ ?_
 refine aJ hF rfl (fun h4 hF=>?_) (fun h4 hF=>?_)
 ·refine aO (aW (aS (bS (.inr rfl)) ⟨eE cQ,trivial⟩ ?_))
  refine aS (bS (.inr rfl)) ⟨eE aF.cod,trivial⟩ ?_
  exact cF
 obtain⟨v5,h6,hF⟩:=bC hF tV
 refine go ?_ ?_
 refine aJ hF rfl (fun h7 hF=>?_) (fun h7 hF=>?_)
 ·refine aO (aW (aS (bS (.inr rfl)) ⟨eE cQ,trivial⟩ ?_))
  refine aS (bS (.inr rfl)) ⟨eE aF.cod,trivial⟩ ?_
  exact cF
 obtain⟨v8,h9,hF⟩:=bC hF y0
 obtain⟨v10,h11,hF⟩:=bC hF aAz
 refine go ?_ ?_
 refine aN rfl tyZ68q (fun b12=>?_)
 refine go ?_ ?_
 refine aJ hF rfl (fun h13 hF=>?_) (fun h13 hF=>?_)
 ·refine go ?_ ?_
  refine aS (bS (.inr rfl)) ⟨eE cQ,trivial⟩ ?_
  refine aS (bS (.inr rfl)) ⟨eE aF.cod,trivial⟩ ?_
  exact cF
 obtain⟨x14,h15,hF⟩:=a9 hF
 refine go ?_ ?_
 refine uH (C:=aF.cod) (z:=(⟨0,0⟩:aF)) rfl tyS29 rfl tyZ58q rfl h15 (fun b16=>?_)
 refine go ?_ ?_
 refine aV (cC (fun H E=>∃(x33:List aF),rM K a0 a1 a2 a3 x33=some r∧x33.length=x14.length∧H=[hO aF.cod b16 x14.length 58 x14.length x33,⟨some b1,1,113,4,1,([pS aG.cod a0]++[pS cQ a1]++[pS cQ a2]++[pS aA.cod a3])⟩]∧E=[(1,.vc (pS cQ a1)),(11,.vc (pP (some b1) 0)),(17,.vc (pO b16 x14.length x14.length))]) ?_ (fun Jj40=>?_))
 ·rintro _ _ ⟨x33,hF,q37,rfl,rfl⟩
  unfold rM at hF
  refine aU (aO (aW (aS (fV 1 4 rfl rfl rfl rfl (.agg tyA113)) zU1 ?_)))
  refine nC ?_
  refine nC ?_
  refine aAQ 0 [17,127] rfl q37 zU2 rfl ?_
  obtain⟨v41,h42,hF⟩:=bC hF cM
  exact cF
 obtain⟨x33',hL,hRl39⟩:=a9 hF
 refine iN (fun k a w=>∃(x26:List aF),∃(x32:Int),cX K a0 a1 a2 a3 v5 v10 k x26 x32=some x33'∧x26.length=x14.length∧hs _ [hO aF.cod b16 x14.length 58 x14.length x26,⟨some b12,1,68,3,1,(aM.enc v10.1)⟩,⟨some b1,1,113,4,1,([pS aG.cod a0]++[pS cQ a1]++[pS cQ a2]++[pS aA.cod a3])⟩] [(1,.vc (pS cQ a1)),(3,.vc (pS aA.cod a3)),(11,.vc (pP (some b1) 0)),(15,.vc (pP (some b12) 0)),(17,.vc (pO b16 x14.length x14.length)),(52,.vc (pS aC.cod v5)),(53,.vc (pI .i64 (v5.length:Int))),(54,.vc (pI .i64 x32))] a w) K (fun a w ⟨_,_,hF,_,_⟩=>by cases hF) (fun k a w ⟨x26,x32,hF,q30,hh⟩=>iP ?_ hh) (fun a w hh=>⟨x14,0,hL,rfl,iB [0,1,2] hh⟩)
 rw [cX.eq_2] at hF
 refine go ?_ ?_
 refine aJ hF rfl (fun h43 hF=>?_) (fun h43 hF=>?_)
 ·refine go ?_ ?_
  refine aV ?_
  obtain⟨v44,h45,hF⟩:=a9 hF
  refine go ?_ ?_
  refine aN rfl tyZ118q (fun b46=>?_)
  obtain⟨v47,h48,hF⟩:=a9 hF
  refine go ?_ ?_
  refine aV (go ?_ ?_)
  refine aJ hF rfl (fun h49 hF=>?_) (fun h49 hF=>?_)
  ·obtain⟨v50,h51,x52,h53,v55,h56,hF⟩:=bn3 hF
   refine go ?_ ?_
   refine aN rfl tyZ51q (fun b57=>?_)
   refine go ?_ ?_
   refine aJ hF rfl (fun h58 hF=>?_) (fun h58 hF=>?_)
   ·obtain⟨v61,h62,hF⟩:=a9 hF
    obtain⟨v63,h64,hF⟩:=bC hF uL
    refine dr [0,0,0,0,8,24,56,126,255,511,1023] 10 1 ?_ (fun bs60 G59=>?_)
    have hF:=rS h62 hF
    obtain⟨x67,h68,v70,h71,hF⟩:=uS hF
    refine go ?_ ?_
    exact aL (fun a w hh=>⟨x67,v70,hF,(bH h68 (bH h53 q30)),iB [2,3,4] hh⟩)
   obtain⟨v72,h73,hF⟩:=a9 hF
   refine go ?_ ?_
   exact aL (fun a w hh=>⟨x52,v72,hF,(bH h53 q30),iB [2,3,4] hh⟩)
  refine go ?_ ?_
  refine aJ hF rfl (fun h74 hF=>?_) (fun h74 hF=>?_)
  ·obtain⟨v77,h78,hF⟩:=a9 hF
   obtain⟨v79,h80,hF⟩:=bC hF u9
   refine dr [0,0,2,6,14,0,32,0,224,480,1022,2047,4095,8191] 13 1 ?_ (fun bs76 G75=>?_)
   obtain⟨x81,h82,v84,h85,hF⟩:=uS hF
   refine go ?_ ?_
   exact aL (fun a w hh=>⟨x81,v84,hF,(bH h82 q30),iB [1,2,3] hh⟩)
  refine go ?_ ?_
  refine aJ hF rfl (fun h86 hF=>?_) (fun h86 hF=>?_)
  ·obtain⟨v89,h90,hF⟩:=a9 hF
   obtain⟨v91,h92,hF⟩:=bC hF aDy
   refine dr [0,0,2,6,14,0,32,0,224,480,1022,2047,4095,8191] 13 1 ?_ (fun bs88 G87=>?_)
   obtain⟨x93,h94,v96,h97,hF⟩:=uS hF
   refine go ?_ ?_
   exact aL (fun a w hh=>⟨x93,v96,hF,(bH h94 q30),iB [1,2,3] hh⟩)
  obtain⟨v98,h99,hF⟩:=a9 hF
  refine go ?_ ?_
  exact aL (fun a w hh=>⟨x26,v98,hF,q30,iB [1,2,3] hh⟩)
 refine dG ?_
 obtain rfl:=p6 hF
 exact p8 Jj40 ⟨x26,hRl39,q30,rfl,rfl⟩ [0,2]
def nX (K:Nat):Option Int:=
 some (-1)
def kZ (K:Nat) (a0:List aF) (a1:(aF→Option Bool)):Nat→Int→Option (LR Int Unit)
 |0,_=>none
 |k+1,x2=>bif(decide (x2<(a0.length:Int))) then((bK a0 x2).bind fun v6=>(a1 v6).bind fun v8=>bif v8 then(some (.ret x2)) else((aP (x2+1)).bind fun v11=>kZ K a0 a1 k v11)) else(some (.go ()))
def pX (K:Nat) (a0:List aF) (a1:(aF→Option Bool)):Option Int:=
 (kZ K a0 a1 K 0).bind fun o=>match o with| .ret r=>some r| .go _=>nX K
theorem xR {K:Nat} {a0:List aF} {a1:(aF→Option Bool)} {r:Int} (hF:pX K a0 a1=some r):Ct Tryz.prog 163 [.vc (pS aF.cod a0),.vc (pFn Tryz.prog (fun x:aF=>[.va (aF.enc x)]) (fun r:Bool=>.vc (pB r)) a1)] (.vc (pI .i64 r)):=by
 unfold pX at hF
 refine aI Tryz.func163 rfl (by kernel_rfl) Tryz.ntmps163 rfl (fun w0 M0=>?_)
 refine go ?_ ?_
 refine aV (cC (fun H E=>nX K=some r∧H=[]∧E=[]) ?_ (fun Jj4=>?_))
 ·rintro _ _ ⟨hF,rfl,rfl⟩
  unfold nX at hF
  exact cF
 obtain⟨ol3,hL,hRl3⟩:=a9 hF
 refine iN (fun k a w=>∃(x2:Int),kZ K a0 a1 k x2=some ol3∧hs _ [] [(0,.vc (pS aF.cod a0)),(1,.vc (pFn Tryz.prog (fun x:aF=>[.va (aF.enc x)]) (fun r:Bool=>.vc (pB r)) a1)),(7,.vc (pI .i64 (a0.length:Int))),(8,.vc (pI .i64 x2))] a w) K (fun a w ⟨_,hF,_⟩=>by cases hF) (fun k a w ⟨x2,hF,hh⟩=>iP ?_ hh) (fun a w hh=>⟨0,hL,iB [] hh⟩)
 rw [kZ.eq_2] at hF
 refine go ?_ ?_
 refine aJ hF rfl (fun h5 hF=>?_) (fun h5 hF=>?_)
 ·refine go ?_ ?_
  refine aV ?_
  obtain⟨v6,h7,v8,h9,hF⟩:=uS hF
  refine go ?_ ?_
  refine aS (aBK (pre:=fun x:aF=>[.va (aF.enc x)]) (post:=fun r:Bool=>.vc (pB r)) (x:=v6) (r:=v8) rfl h9 rfl) zU2 ?_
  refine bQ (aU (aJ hF rfl (fun h10 hF=>?_) (fun h10 hF=>?_)))
  ·exact cF
  obtain⟨v11,h12,hF⟩:=a9 hF
  refine go ?_ ?_
  exact aL (fun a w hh=>⟨v11,hF,iB [] hh⟩)
 refine dG ?_
 obtain rfl:=p6 hF
 exact p8 Jj4 ⟨hRl3,rfl,rfl⟩ []
def nV (K:Nat) (a0:List aF) (a1:(aF→Option Bool)):Option Bool:=
 (pX K a0 a1).bind fun v1=>some (decide (0≤v1))
theorem wC {K:Nat} {a0:List aF} {a1:(aF→Option Bool)} {r:Bool} (hF:nV K a0 a1=some r):Ct Tryz.prog 76 [.vc (pS aF.cod a0),.vc (pFn Tryz.prog (fun x:aF=>[.va (aF.enc x)]) (fun r:Bool=>.vc (pB r)) a1)] (.vc (pB r)):=by
 unfold nV at hF
 refine aI Tryz.func76 rfl (by kernel_rfl) Tryz.ntmps76 rfl (fun w0 M0=>?_)
 obtain⟨v1,h2,hF⟩:=bC hF xR
 exact cF
def tF (a0:aF):Option Bool:=
 (aAG a0.n).bind fun v2=>bif(!v2) then(some true) else((aAG a0.f).bind fun v5=>some (!v5))
theorem aCh {a0:aF} {r:Bool} (hF:tF a0=some r):Ct Tryz.prog 77 [.va (aF.enc a0)] (.vc (pB r)):=by
 unfold tF at hF
 refine aI Tryz.func77 rfl (by kernel_rfl) Tryz.ntmps77 rfl (fun w0 M0=>?_)
 refine aO (aW (cT rfl rfl trivial (fun b1=>?_)))
 obtain⟨v2,h3,hF⟩:=bC hF o6
 refine go ?_ ?_
 refine eH hF (fun h4 hF=>?_) (fun h4 hF=>?_)
 ·exact cF
 obtain⟨v5,h6,hF⟩:=bC hF o6
 exact cF
def oM (K:Nat):Option Bool:=
 some true
def lN (K:Nat) (a0:List Rat) (a1:List Rat) (a2:(Rat×Rat→Option Bool)):Nat→Int→Option (LR Bool Unit)
 |0,_=>none
 |k+1,x3=>bif(decide (x3<(a0.length:Int))) then((bK a0 x3).bind fun v7=>(bK a1 x3).bind fun v10=>(a2 (v7,v10)).bind fun v13=>bif(!v13) then(some (.ret false)) else((aP (x3+1)).bind fun v16=>lN K a0 a1 a2 k v16)) else(some (.go ()))
def qD (K:Nat) (a0:List Rat) (a1:List Rat) (a2:(Rat×Rat→Option Bool)):Option Bool:=
 bif((a0.length:Int) != (a1.length:Int)) then(some false) else((lN K a0 a1 a2 K 0).bind fun o=>match o with| .ret r=>some r| .go _=>oM K)
theorem yP {K:Nat} {a0:List Rat} {a1:List Rat} {a2:(Rat×Rat→Option Bool)} {r:Bool} (hF:qD K a0 a1 a2=some r):Ct Tryz.prog 79 [.vc (pS cQ a0),.vc (pS cQ a1),.vc (pFn Tryz.prog (fun x:Rat×Rat=>[.va (eQ x.1),.va (eQ x.2)]) (fun r:Bool=>.vc (pB r)) a2)] (.vc (pB r)):=by
 unfold qD at hF
 refine aI Tryz.func79 rfl (by kernel_rfl) Tryz.ntmps79 rfl (fun w0 M0=>?_)
 refine go ?_ ?_
 refine aJ hF rfl (fun h1 hF=>?_) (fun h1 hF=>?_)
 ·exact cF
 refine go ?_ ?_
 refine aV (cC (fun H E=>oM K=some r∧H=[]∧E=[]) ?_ (fun Jj5=>?_))
 ·rintro _ _ ⟨hF,rfl,rfl⟩
  unfold oM at hF
  exact cF
 obtain⟨ol4,hL,hRl4⟩:=a9 hF
 refine iN (fun k a w=>∃(x3:Int),lN K a0 a1 a2 k x3=some ol4∧hs _ [] [(1,.vc (pS cQ a1)),(2,.vc (pFn Tryz.prog (fun x:Rat×Rat=>[.va (eQ x.1),.va (eQ x.2)]) (fun r:Bool=>.vc (pB r)) a2)),(15,.vc (pS cQ a0)),(16,.vc (pI .i64 (a0.length:Int))),(17,.vc (pI .i64 x3))] a w) K (fun a w ⟨_,hF,_⟩=>by cases hF) (fun k a w ⟨x3,hF,hh⟩=>iP ?_ hh) (fun a w hh=>⟨0,hL,iB [] hh⟩)
 rw [lN.eq_2] at hF
 refine go ?_ ?_
 refine aJ hF rfl (fun h6 hF=>?_) (fun h6 hF=>?_)
 ·refine go ?_ ?_
  refine aV ?_
  obtain⟨v7,h8,hF⟩:=a9 hF
  refine go ?_ ?_
  refine aN rfl tyZ44q (fun b9=>?_)
  obtain⟨v10,h11,hF⟩:=a9 hF
  refine go ?_ ?_
  refine aN rfl tyZ44q (fun b12=>?_)
  obtain⟨v13,h14,hF⟩:=a9 hF
  refine go ?_ ?_
  refine aS (aBK (pre:=fun x:Rat×Rat=>[.va (eQ x.1),.va (eQ x.2)]) (post:=fun r:Bool=>.vc (pB r)) (x:=(v7,v10)) (r:=v13) rfl h14 rfl) ⟨rfl,rfl,rfl,trivial⟩ ?_
  refine go ?_ ?_
  refine aJ hF rfl (fun h15 hF=>?_) (fun h15 hF=>?_)
  ·exact cF
  obtain⟨v16,h17,hF⟩:=a9 hF
  refine go ?_ ?_
  exact aL (fun a w hh=>⟨v16,hF,iB [] hh⟩)
 refine dG ?_
 obtain rfl:=p6 hF
 exact p8 Jj5 ⟨hRl4,rfl,rfl⟩ []
def m6 (K:Nat) (a1:aA) (a3:aF) (v6:Int) (v8:Rat) (x16:Int):Option Bool:=
 (vN a3.n).bind fun v18=>bif(decide (v18<0)) then(some false) else(bif(decide (v6<0)) then(some false) else(bif(decide (0<v6)) then((vN a3.n).bind fun v23=>bif(decide (0<v23)) then(some false) else(bif((a1.t.length:Int)==0) then((vN a3.f).bind fun v27=>some (v27==0)) else(bif(decide (0<x16)) then((aA4 v8).bind fun v32=>(vW a3.f v32).bind fun v34=>some v34) else(bif(decide (x16<0)) then((vW a3.f v8).bind fun v37=>some v37) else((aFQ a3.f v8).bind fun v41=>bif(decide (v41≤0)) then((aA4 a3.f).bind fun v44=>(aFQ v44 v8).bind fun v46=>some (decide (v46≤0))) else(some false)))))) else(bif((a1.t.length:Int)==0) then((vN a3.f).bind fun v49=>some (v49==0)) else(bif(decide (0<x16)) then((aA4 v8).bind fun v54=>(vW a3.f v54).bind fun v56=>some v56) else(bif(decide (x16<0)) then((vW a3.f v8).bind fun v59=>some v59) else((aFQ a3.f v8).bind fun v63=>bif(decide (v63≤0)) then((aA4 a3.f).bind fun v66=>(aFQ v66 v8).bind fun v68=>some (decide (v68≤0))) else(some false)))))))
def sO (K:Nat) (a0:aD) (a1:aA) (a2:List Rat) (a3:aF):Option Bool:=
 (gB K a1.j a2).bind fun v4=>(vN v4).bind fun v6=>(wI a1.mu a3.n).bind fun v8=>(gB K a1.t a2).bind fun v11=>(vN v11).bind fun v13=>(kE K a0 a1).bind fun v70=>bif(v70 != 0) then(m6 K a1 a3 v6 v8 v70) else(m6 K a1 a3 v6 v8 v13)
theorem aAd {K:Nat} {a0:aD} {a1:aA} {a2:List Rat} {a3:aF} {r:Bool} (hF:sO K a0 a1 a2 a3=some r):Ct Tryz.prog 80 [.va (aD.enc a0),.va (aA.enc a1),.vc (pS cQ a2),.va (aF.enc a3)] (.vc (pB r)):=by
 unfold sO at hF
 refine aI Tryz.func80 rfl (by kernel_rfl) Tryz.ntmps80 rfl (fun w0 M0=>?_)
 refine aO (aW (cT rfl rfl trivial (fun b1=>?_)))
 refine cT rfl rfl trivial (fun b2=>?_)
 refine cT rfl rfl trivial (fun b3=>?_)
 obtain⟨v4,h5,hF⟩:=bC hF jY
 obtain⟨v6,h7,hF⟩:=bC hF jO
 obtain⟨v8,h9,hF⟩:=bC hF mB
 refine go ?_ ?_
 refine aN rfl tyZ44q (fun b10=>?_)
 refine oI (t_s 0 rfl rfl rfl tyA44.s) zU2 ?_
 refine bQ (aU (aO (aW (aS (nO (off:=0) (k:=9) rfl tyF51_6) zU1 ?_))))
 refine aS (fV 2 1 rfl rfl rfl rfl (.one tyO49)) zU1 ?_
 refine nC ?_
 obtain⟨v11,h12,hF⟩:=bC hF jY
 refine aS (bP rfl h12 rfl) zU2 ?_
 obtain⟨v13,h14,hF⟩:=bC hF jO
 refine aS (bP rfl h14 rfl) zU1 ?_
 refine yM ?_
 refine bQ (aU (aO (uQ (fun H E=>∃(x16:Int),m6 K a1 a3 v6 v8 x16=some r∧H=[⟨some b10,1,44,4,1,(eQ v8)⟩,⟨some b3,1,58,8,1,(aF.enc a3)⟩,⟨some b2,1,51,18,1,(aA.enc a1)⟩]∧E=[(5,.vc (pP (some b2) 0)),(7,.vc (pP (some b3) 0)),(9,.vc (pI .i64 v6)),(10,.vc (pP (some b10) 0)),(11,.vc (pI .i64 x16))]) ?_ (fun Jj17=>?_))))
 ·rintro _ _ ⟨x16,hF,rfl,rfl⟩
  unfold m6 at hF
  refine aO (aV ?_)
  obtain⟨v18,h19,hF⟩:=bC hF jO
  refine go ?_ ?_
  refine eH hF (fun h20 hF=>?_) (fun h20 hF=>?_)
  ·refine go ?_ ?_
   refine kV rfl ?_
   exact cF
  refine go ?_ ?_
  refine eH hF (fun h21 hF=>?_) (fun h21 hF=>?_)
  ·refine go ?_ ?_
   refine kV rfl ?_
   exact cF
  refine go ?_ ?_
  refine eH hF (fun h22 hF=>?_) (fun h22 hF=>?_)
  ·obtain⟨v23,h24,hF⟩:=bC hF jO
   refine go ?_ ?_
   refine aJ hF rfl (fun h25 hF=>?_) (fun h25 hF=>?_)
   ·exact cF
   refine go ?_ ?_
   refine aJ hF rfl (fun h26 hF=>?_) (fun h26 hF=>?_)
   ·obtain⟨v27,h28,hF⟩:=bC hF jO
    exact cF
   refine go ?_ ?_
   refine aJ hF rfl (fun h29 hF=>?_) (fun h29 hF=>?_)
   ·refine aO ?_
    obtain⟨v32,h33,hF⟩:=bC hF pG
    obtain⟨v34,h35,hF⟩:=bC hF lI
    refine dr [0,1,0,4,15,31] 6 0 ?_ (fun bs31 G30=>?_)
    refine bQ (aU ?_)
    exact cF
   refine go ?_ ?_
   refine aJ hF rfl (fun h36 hF=>?_) (fun h36 hF=>?_)
   ·obtain⟨v37,h38,hF⟩:=bC hF lI
    exact cF
   obtain⟨v41,h42,hF⟩:=bC hF rX
   refine go ?_ ?_
   rcases Bool.eq_false_or_eq_true (decide (v41≤0)) with h43|h43
   ·have hF:=t6 h43 hF
    obtain⟨v44,h45,hF⟩:=bC hF pG
    obtain⟨v46,h47,hF⟩:=bC hF rX
    refine drb [0,1,0,7,15,31,63,127,255,63,1023,2047,4095,8191] 14 0 ?_ (fun bs40 G39=>?_)
    refine bQ (aU ?_)
    exact cF
   have hF:=uP h43 hF
   refine drb [0,1,0,7,15,31,63,127,255,63,1023,2047,4095,8191] 14 0 ?_ (fun bs40 G39=>?_)
   refine bQ (aU ?_)
   exact cF
  refine go ?_ ?_
  refine tZ rfl ?_
  refine go ?_ ?_
  refine aJ hF rfl (fun h48 hF=>?_) (fun h48 hF=>?_)
  ·obtain⟨v49,h50,hF⟩:=bC hF jO
   exact cF
  refine go ?_ ?_
  refine aJ hF rfl (fun h51 hF=>?_) (fun h51 hF=>?_)
  ·refine aO ?_
   obtain⟨v54,h55,hF⟩:=bC hF pG
   obtain⟨v56,h57,hF⟩:=bC hF lI
   refine dr [0,1,0,4,15,31] 6 0 ?_ (fun bs53 G52=>?_)
   refine bQ (aU ?_)
   exact cF
  refine go ?_ ?_
  refine aJ hF rfl (fun h58 hF=>?_) (fun h58 hF=>?_)
  ·obtain⟨v59,h60,hF⟩:=bC hF lI
   exact cF
  obtain⟨v63,h64,hF⟩:=bC hF rX
  refine go ?_ ?_
  rcases Bool.eq_false_or_eq_true (decide (v63≤0)) with h65|h65
  ·have hF:=t6 h65 hF
   obtain⟨v66,h67,hF⟩:=bC hF pG
   obtain⟨v68,h69,hF⟩:=bC hF rX
   refine drb [0,1,0,7,15,31,63,127,255,63,1023,2047,4095,8191] 14 0 ?_ (fun bs62 G61=>?_)
   refine bQ (aU ?_)
   exact cF
  have hF:=uP h65 hF
  refine drb [0,1,0,7,15,31,63,127,255,63,1023,2047,4095,8191] 14 0 ?_ (fun bs62 G61=>?_)
  refine bQ (aU ?_)
  exact cF
 obtain⟨v70,h71,hF⟩:=bC hF sT
 refine go ?_ ?_
 refine aJ hF rfl (fun h72 hF=>?_) (fun h72 hF=>?_)
 ·refine aW (nC ?_)
  refine yM ?_
  refine bQ ?_
  exact p8 Jj17 ⟨v70,hF,rfl,rfl⟩ [0,1,2]
 refine iS ?_
 exact p8 Jj17 ⟨v13,hF,rfl,rfl⟩ [0,1,2]
def uR (K:Nat):Option Int:=
 some 0
def rP (K:Nat) (a0:List aG) (a1:List Rat) (a2:List Rat) (a3:List aA) (a4:List Rat) (a5:List aF):Nat→Int→Option (LR Int Unit)
 |0,_=>none
 |k+1,x19=>bif(decide (x19<(a3.length:Int))) then((bK a3 x19).bind fun v23=>(bK a5 x19).bind fun v28=>(sO K (⟨a0,a1,a2,a3⟩:aD) v23 a4 v28).bind fun v30=>bif(!v30) then(some (.ret 18)) else((aP (x19+1)).bind fun v33=>rP K a0 a1 a2 a3 a4 a5 k v33)) else(some (.go ()))
def xS (K:Nat) (a0:List aG) (a1:List Rat) (a2:List Rat) (a3:List aA) (a4:List Rat) (a5:List aF):Option Int:=
 (mC K (⟨a0,a1,a2,a3⟩:aD)).bind fun v2=>bif(!v2) then(some 1) else(bif((a4.length:Int) != (a0.length:Int)) then(some 18) else(bif((a5.length:Int) != (a3.length:Int)) then(some 18) else((qL K a4).bind fun v7=>bif(!v7) then(some 18) else((nV K a5 (tF)).bind fun v10=>bif v10 then(some 18) else((bE K (⟨a0,a1,a2,a3⟩:aD) a1 a5).bind fun v13=>(qD K a4 v13 (fun x=>vW x.1 x.2)).bind fun v15=>bif(!v15) then(some 18) else((rP K a0 a1 a2 a3 a4 a5 K 0).bind fun o=>match o with| .ret r=>some r| .go _=>uR K))))))
theorem aDz {K:Nat} {a0:List aG} {a1:List Rat} {a2:List Rat} {a3:List aA} {a4:List Rat} {a5:List aF} {r:Int} (hF:xS K a0 a1 a2 a3 a4 a5=some r):Ct Tryz.prog 19 [.vc (pS aG.cod a0),.vc (pS cQ a1),.vc (pS cQ a2),.vc (pS aA.cod a3),.vc (pS cQ a4),.vc (pS aF.cod a5)] (.vc (pI .i64 r)):=by
 unfold xS at hF
 refine aI Tryz.func19 rfl (by kernel_rfl) Tryz.ntmps19 rfl (fun w0 M0=>?_)
 refine go ?_ ?_
 refine aS (fF (is:=[0,1,2,3]) (xs:=[.tmp 16,.tmp 17,.tmp 18,.tmp 19]) (ps:=[.vc (pS aG.cod a0),.vc (pS cQ a1),.vc (pS cQ a2),.vc (pS aA.cod a3)]) rfl tyB113q rfl rfl ⟨trivial,trivial,trivial,trivial,trivial⟩ rfl) ⟨rfl,rfl,rfl,rfl,trivial⟩ ?_
 refine aN rfl tyZ113q (fun b1=>?_)
 refine go ?_ ?_
 refine aV ?_
 obtain⟨v2,h3,hF⟩:=bC hF vU
 refine go ?_ ?_
 refine aJ hF rfl (fun h4 hF=>?_) (fun h4 hF=>?_)
 ·exact cF
 refine go ?_ ?_
 refine eH hF (fun h5 hF=>?_) (fun h5 hF=>?_)
 ·refine go ?_ ?_
  refine kV rfl ?_
  exact cF
 refine go ?_ ?_
 refine eH hF (fun h6 hF=>?_) (fun h6 hF=>?_)
 ·refine go ?_ ?_
  refine kV rfl ?_
  exact cF
 obtain⟨v7,h8,hF⟩:=bC hF xO
 refine go ?_ ?_
 refine aJ hF rfl (fun h9 hF=>?_) (fun h9 hF=>?_)
 ·exact cF
 obtain⟨v10,h11,hF⟩:=bC hF wC
 refine go ?_ ?_
 refine aS (bP rfl h11 rfl) ⟨rfl,(aM1 (P:=Tryz.prog) (φ:=(tF)) (pre:=fun x:aF=>[.va (aF.enc x)]) (post:=fun r:Bool=>.vc (pB r)) (fun x r h=>aCh h)),trivial⟩ ?_
 refine go ?_ ?_
 refine aJ hF rfl (fun h12 hF=>?_) (fun h12 hF=>?_)
 ·exact cF
 obtain⟨v13,h14,hF⟩:=bC hF cM
 obtain⟨v15,h16,hF⟩:=bC hF yP
 refine go ?_ ?_
 refine aS (bP rfl h16 rfl) ⟨rfl,rfl,(aM1 (P:=Tryz.prog) (φ:=(fun x=>vW x.1 x.2)) (pre:=fun x:Rat×Rat=>[.va (eQ x.1),.va (eQ x.2)]) (post:=fun r:Bool=>.vc (pB r)) (fun x r h=>lI h)),trivial⟩ ?_
 refine go ?_ ?_
 refine aJ hF rfl (fun h17 hF=>?_) (fun h17 hF=>?_)
 ·exact cF
 refine go ?_ ?_
 refine aV (cC (fun H E=>uR K=some r∧H=[]∧E=[]) ?_ (fun Jj21=>?_))
 ·rintro _ _ ⟨hF,rfl,rfl⟩
  unfold uR at hF
  exact cF
 obtain⟨ol20,hL,hRl20⟩:=a9 hF
 refine iN (fun k a w=>∃(x19:Int),rP K a0 a1 a2 a3 a4 a5 k x19=some ol20∧hs _ [⟨some b1,1,113,4,1,([pS aG.cod a0]++[pS cQ a1]++[pS cQ a2]++[pS aA.cod a3])⟩] [(4,.vc (pS cQ a4)),(5,.vc (pS aF.cod a5)),(13,.vc (pP (some b1) 0)),(54,.vc (pS aA.cod a3)),(55,.vc (pI .i64 (a3.length:Int))),(56,.vc (pI .i64 x19))] a w) K (fun a w ⟨_,hF,_⟩=>by cases hF) (fun k a w ⟨x19,hF,hh⟩=>iP ?_ hh) (fun a w hh=>⟨0,hL,iB [0] hh⟩)
 rw [rP.eq_2] at hF
 refine go ?_ ?_
 refine aJ hF rfl (fun h22 hF=>?_) (fun h22 hF=>?_)
 ·refine go ?_ ?_
  refine aV ?_
  obtain⟨v23,h24,hF⟩:=a9 hF
  refine go ?_ ?_
  refine aN rfl tyZ51q (fun b25=>?_)
  obtain⟨v28,h29,hF⟩:=a9 hF
  obtain⟨v30,h31,hF⟩:=bC hF aAd
  refine go ?_ ?_
  refine dr [0,0,0,0,0,24,56,127,255] 9 0 ?_ (fun bs27 G26=>?_)
  refine bQ (aU (aJ hF rfl (fun h32 hF=>?_) (fun h32 hF=>?_)))
  ·exact cF
  obtain⟨v33,h34,hF⟩:=a9 hF
  refine go ?_ ?_
  exact aL (fun a w hh=>⟨v33,hF,iB [1] hh⟩)
 refine dG ?_
 obtain rfl:=p6 hF
 exact p8 Jj21 ⟨hRl20,rfl,rfl⟩ []
def uW (K:Nat) (x26:List Rat):Option (List Rat):=
 some x26
def lX (K:Nat) (a1:List aE) (a2:Rat):Nat→(List Rat)→Int→Option (List Rat)
 |0,_,_=>none
 |k+1,x19,x25=>bif(decide (x25<(a1.length:Int))) then((bK a1 x25).bind fun v37=>(bK a1 x25).bind fun v39=>(bK x19 v39.dof).bind fun v41=>(bK a1 x25).bind fun v43=>(wI v43.k a2).bind fun v45=>(aBx v41 v45).bind fun v47=>(bK x19 v37.dof).bind fun v49=>(nL x19 v37.dof v47).bind fun x51=>(aP (x25+1)).bind fun v54=>lX K a1 a2 k x51 v54) else(some x19)
def rO (K:Nat) (a0:List Rat) (a1:List aE) (a2:Rat):Option (List Rat):=
 (qV ([]:List Rat) a0).bind fun x5=>(lX K a1 a2 K x5 0).bind fun x26=>uW K x26
def uZ (K:Nat) (x10:List Rat):Option (List Rat):=
 some x10
def lU (K:Nat) (a1:List aA) (a2:List aF):Nat→(List Rat)→Int→Option (List Rat)
 |0,_,_=>none
 |k+1,x8,x9=>bif(decide (x9<(a1.length:Int))) then((bK a1 x9).bind fun v16=>(bK a2 x9).bind fun v18=>(rO K x8 v16.j v18.n).bind fun v20=>(bK a1 x9).bind fun v22=>(bK a2 x9).bind fun v24=>(rO K v20 v22.t v24.f).bind fun v26=>(aP (x9+1)).bind fun v28=>lU K a1 a2 k v26 v28) else(some x8)
def xA (K:Nat) (a0:Int) (a1:List aA) (a2:List aF):Option (List Rat):=
 (vC a0 0).bind fun x1=>(lU K a1 a2 K x1 0).bind fun x10=>uZ K x10
def pJ (K:Nat) (x19:List Rat):Option (List Rat):=
 some x19
def fQ (K:Nat) (a0:List aG) (a1:List Rat) (v1:List Rat):Nat→(List Rat)→Int→Option (List Rat)
 |0,_,_=>none
 |k+1,x12,x18=>bif(decide (x18<(a0.length:Int))) then((bK a0 x18).bind fun v30=>(bK a1 x18).bind fun v32=>(bK v1 x18).bind fun v34=>(aBx v32 v34).bind fun v36=>(wI v30.inv v36).bind fun v38=>(qV x12 [v38]).bind fun x40=>(aP (x18+1)).bind fun v47=>fQ K a0 a1 v1 k x40 v47) else(some x12)
def kQ (K:Nat) (a0:List aG) (a1:List Rat) (a2:List aA) (a3:List aF):Option (List Rat):=
 (xA K (a0.length:Int) a2 a3).bind fun v1=>(fQ K a0 a1 v1 K ([]:List Rat) 0).bind fun x19=>pJ K x19
def uU (K:Nat) (x7:Rat):Option Rat:=
 some x7
def gR (K:Nat) (a0:List aE) (a1:List Rat):Nat→Rat→Int→Option Rat
 |0,_,_=>none
 |k+1,x5,x6=>bif(decide (x6<(a0.length:Int))) then((bK a0 x6).bind fun v11=>bif(decide (0≤v11.dof)) then((bK a0 x6).bind fun v14=>bif(decide (v14.dof<(a1.length:Int))) then((bK a0 x6).bind fun v19=>(bK a0 x6).bind fun v21=>(bK a1 (max v21.dof 0)).bind fun v23=>(wI v19.k v23).bind fun v25=>(aBx x5 v25).bind fun v27=>(aP (x6+1)).bind fun v29=>gR K a0 a1 k v27 v29) else((aP (x6+1)).bind fun v31=>gR K a0 a1 k x5 v31)) else((aP (x6+1)).bind fun v33=>gR K a0 a1 k x5 v33)) else(some x5)
def iH (K:Nat) (a0:List aE) (a1:List Rat):Option Rat:=
 (gR K a0 a1 K 0 0).bind fun x7=>uU K x7
def u6 (K:Nat):Option Bool:=
 some true
def lW (K:Nat) (a0:List Rat):Nat→Int→Option (LR Bool Unit)
 |0,_=>none
 |k+1,x2=>bif(decide (x2<(a0.length:Int))) then((bK a0 x2).bind fun v6=>(aAG v6).bind fun v8=>bif(!v8) then(some (.ret false)) else((aP (x2+1)).bind fun v11=>lW K a0 k v11)) else(some (.go ()))
def qJ (K:Nat) (a0:List Rat):Option Bool:=
 (lW K a0 K 0).bind fun o=>match o with| .ret r=>some r| .go _=>u6 K
def uF (K:Nat):Option Bool:=
 some true
def iV (K:Nat) (a0:List aE) (a1:Int):Nat→Int→Option (LR Bool Unit)
 |0,_=>none
 |k+1,x2=>bif(decide (x2<(a0.length:Int))) then((bK a0 x2).bind fun v8=>(aAG v8.k).bind fun v10=>bif(!v10) then(some (.ret false)) else((bK a0 x2).bind fun v13=>bif(decide (v13.dof<0)) then(some (.ret false)) else((bK a0 x2).bind fun v16=>bif(decide (a1≤v16.dof)) then(some (.ret false)) else(bif(decide (0<x2)) then((bK a0 x2).bind fun v20=>(aP (x2-1)).bind fun v22=>(bK a0 (max v22 0)).bind fun v24=>bif(decide (v20.dof≤v24.dof)) then(some (.ret false)) else((aP (x2+1)).bind fun v27=>iV K a0 a1 k v27)) else((aP (x2+1)).bind fun v29=>iV K a0 a1 k v29))))) else(some (.go ()))
def pW (K:Nat) (a0:List aE) (a1:Int):Option Bool:=
 (iV K a0 a1 K 0).bind fun o=>match o with| .ret r=>some r| .go _=>uF K
def s0 (K:Nat):Option Bool:=
 some true
def jT (K:Nat) (a0:List aG) (a3:List aA):Nat→Int→Option (LR Bool Unit)
 |0,_=>none
 |k+1,x15=>bif(decide (x15<(a3.length:Int))) then((bK a3 x15).bind fun v19=>(pW K v19.j (a0.length:Int)).bind fun v21=>bif(!v21) then(some (.ret false)) else((bK a3 x15).bind fun v24=>(pW K v24.t (a0.length:Int)).bind fun v26=>bif(!v26) then(some (.ret false)) else((bK a3 x15).bind fun v29=>(aAG v29.mu).bind fun v31=>bif(!v31) then(some (.ret false)) else((bK a3 x15).bind fun v34=>(vN v34.mu).bind fun v36=>bif(decide (v36<0)) then(some (.ret false)) else((aP (x15+1)).bind fun v39=>jT K a0 a3 k v39))))) else(some (.go ()))
def sW (K:Nat) (a0:List aG) (a3:List aA):Option Bool:=
 (jT K a0 a3 K 0).bind fun o=>match o with| .ret r=>some r| .go _=>s0 K
def jW (K:Nat) (a0:List aG):Nat→Int→Option (LR Bool Unit)
 |0,_=>none
 |k+1,x11=>bif(decide (x11<(a0.length:Int))) then((bK a0 x11).bind fun v42=>(aAG v42.inv).bind fun v44=>bif(!v44) then(some (.ret false)) else((bK a0 x11).bind fun v47=>(vN v47.inv).bind fun v49=>bif(decide (v49≤0)) then(some (.ret false)) else((aP (x11+1)).bind fun v52=>jW K a0 k v52))) else(some (.go ()))
def vM (K:Nat) (a0:List aG) (a1:List Rat) (a2:List Rat) (a3:List aA):Option Bool:=
 bif(decide (12<(a0.length:Int))) then(some false) else(bif((a1.length:Int) != (a0.length:Int)) then(some false) else(bif((a2.length:Int) != (a0.length:Int)) then(some false) else((qJ K a1).bind fun v4=>bif(!v4) then(some false) else((qJ K a2).bind fun v7=>bif(!v7) then(some false) else((jW K a0 K 0).bind fun o=>match o with| .ret r=>some r| .go _=>sW K a0 a3)))))
def vQ (K:Nat):Option Bool:=
 some true
def mN (K:Nat) (a2:List Rat) (a3:List aA):Nat→Int→Option (LR Bool Unit)
 |0,_=>none
 |k+1,x5=>bif(decide (x5<(a3.length:Int))) then((bK a3 x5).bind fun v9=>(iH K v9.j a2).bind fun v11=>(vN v11).bind fun v13=>bif(v13 != 0) then(some (.ret false)) else((aP (x5+1)).bind fun v16=>mN K a2 a3 k v16)) else(some (.go ()))
def rN (K:Nat) (a0:List aG) (a1:List Rat) (a2:List Rat) (a3:List aA):Option Bool:=
 (vM K a0 a1 a2 a3).bind fun v1=>bif(!v1) then(some false) else((mN K a2 a3 K 0).bind fun o=>match o with| .ret r=>some r| .go _=>vQ K)
def qE (K:Nat) (a0:aA) (a1:List Rat):Option Int:=
 (iH K a0.t a1).bind fun v2=>(vN v2).bind fun v4=>some v4
def tI (K:Nat) (c0:List Rat) (c1:List Rat) (a0:aA):Option Bool:=
 (gB K a0.t c0).bind fun v2=>(gB K a0.t c1).bind fun v7=>(aBx v2 v7).bind fun v9=>(wI v2 v9).bind fun v11=>(vN v11).bind fun v13=>some (decide (v13<0))
theorem aCa {K:Nat} {c0:List Rat} {c1:List Rat} {a0:aA} {r:Bool} (hF:tI K c0 c1 a0=some r):Ct Tryz.prog 91 [.va (aA.enc a0),.vc (pM ((vZ cQ).e c0)),.vc (pM ((vZ cQ).e c1))] (.vc (pB r)):=by
 unfold tI at hF
 refine aI Tryz.func91 rfl (by kernel_rfl) Tryz.ntmps91 rfl (fun w0 M0=>?_)
 refine aO (aW (cT rfl rfl trivial (fun b1=>?_)))
 obtain⟨v2,h3,hF⟩:=bC hF jY
 refine go ?_ ?_
 refine aN rfl tyZ44q (fun b4=>?_)
 obtain⟨v7,h8,hF⟩:=bC hF jY
 obtain⟨v9,h10,hF⟩:=bC hF u9
 obtain⟨v11,h12,hF⟩:=bC hF mB
 obtain⟨v13,h14,hF⟩:=bC hF jO
 refine go ?_ ?_
 refine dr [0,0,0,4,0,28,62,127,255,511,1023] 11 0 ?_ (fun bs6 G5=>?_)
 refine bQ (aU ?_)
 exact cF
def xQ (K:Nat) (a0:List Rat) (a1:List Rat) (a2:List aA):Option Bool:=
 (fC K a2 (tI K a0 a1)).bind fun v3=>some (!v3)
theorem aCX {K:Nat} {a0:List Rat} {a1:List Rat} {a2:List aA} {r:Bool} (hF:xQ K a0 a1 a2=some r):Ct Tryz.prog 27 [.vc (pS cQ a0),.vc (pS cQ a1),.vc (pS aA.cod a2)] (.vc (pB r)):=by
 unfold xQ at hF
 refine aI Tryz.func27 rfl (by kernel_rfl) Tryz.ntmps27 rfl (fun w0 M0=>?_)
 refine aO (aW (cT rfl rfl trivial (fun b1=>?_)))
 refine cT rfl rfl trivial (fun b2=>?_)
 refine aS (bS (.inr rfl)) ⟨k_B _,trivial⟩ ?_
 refine bQ (aU (aO (aW (nC ?_))))
 refine aIp 1 [(3,0)] rfl zU1 rfl ?_
 refine aIp 0 [(4,0)] rfl zU1 rfl ?_
 refine aS (aN9 (φ:=(tI K a0 a1)) (pre:=fun x:aA=>[.va (aA.enc x)]) (post:=fun r:Bool=>.vc (pB r)) (xs:=[.tmp 3,.tmp 4]) (cs:=[pM ((vZ cQ).e a0),pM ((vZ cQ).e a1)]) rfl rfl (fun x r h=>aCa h)) zU2 ?_
 obtain⟨v3,h4,hF⟩:=bC hF rZ
 exact cF
def lF (a0:Int) (a1:Int) (a2:Int) (a3:Int):Option aK:=
 (zC 1 2).bind fun v2=>(zC 1 1).bind fun v5=>(zC 1 2).bind fun v10=>(zC a0 a2).bind fun v14=>(zC a1 1).bind fun v16=>(zC a3 1).bind fun v18=>some (⟨[(⟨v2,0,false,0,0⟩:aG),(⟨v2,0,false,0,0⟩:aG)],[v14,v16],[v18,0],[(⟨0,0,0,0,0,[(⟨1,v5⟩:aE)],[(⟨0,v5⟩:aE)],v10,0⟩:aA)]⟩:aK)
theorem o8 {a0:Int} {a1:Int} {a2:Int} {a3:Int} {r:aK} (hF:lF a0 a1 a2 a3=some r):Ct Tryz.prog 88 [.vc (pI .i64 a0),.vc (pI .i64 a1),.vc (pI .i64 a2),.vc (pI .i64 a3)] (.va (aK.enc r)):=by
 unfold lF at hF
 refine aI Tryz.func88 rfl (by kernel_rfl) Tryz.ntmps88 rfl (fun w0 M0=>?_)
 refine aO (aW (aN rfl tyZ27q (fun b1=>?_)))
 obtain⟨v2,h3,hF⟩:=bC hF bU
 refine go ?_ ?_
 refine aS (fF (is:=[0]) (xs:=[.tmp 12]) (ps:=[.va (eQ v2)]) rfl tyB108q rfl rfl ⟨trivial,trivial⟩ rfl) zU1 ?_
 refine aN rfl tyZ108q (fun b4=>?_)
 obtain⟨v5,h6,hF⟩:=bC hF bU
 refine go ?_ ?_
 refine aN rfl tyZ44q (fun b7=>?_)
 obtain⟨v10,h11,hF⟩:=bC hF bU
 refine go ?_ ?_
 refine jV [0,1,3,0,8,24,0,127,0,511] 9 1 [.v (.va (eQ v5)),.v (.va ([pI .i64 1]++(eQ v5))),.v (.vc (pS aE.cod [(⟨1,v5⟩:aE)])),.v (.va (eQ v5)),.v (.va ([pI .i64 0]++(eQ v5))),.v (.vc (pS aE.cod [(⟨0,v5⟩:aE)])),.v (.va (eQ v10)),.v (.va ([pI .i64 0]++[pI .i64 0]++[pI .i64 0]++[pI .i64 0]++(eQ 0)++[pS aE.cod [(⟨1,v5⟩:aE)]]++[pS aE.cod [(⟨0,v5⟩:aE)]]++(eQ v10)++(eQ 0))),.a 51 ([pI .i64 0]++[pI .i64 0]++[pI .i64 0]++[pI .i64 0]++(eQ 0)++[pS aE.cod ([]:List aE)]++[pS aE.cod ([]:List aE)]++(eQ 0)++(eQ 0))] bI ⟨d0 (fV 0 4 rfl rfl rfl rfl (.agg tyA44)) zU1,d0 (fF (is:=[0,1]) (xs:=[.const (.int .i64 (1)),.tmp 15]) (ps:=[.vc (pI .i64 1),.va (eQ v5)]) rfl tyB92q rfl rfl ⟨trivial,trivial,trivial⟩ rfl) ⟨kG _ _,rfl,trivial⟩,d0 (r7 (C:=aE.cod) (xs:=[.tmp 16]) (ps:=[.va ([pI .i64 1]++(eQ v5))]) (zs:=[(⟨1,v5⟩:aE)]) rfl tyS49 rfl ⟨⟨trivial,rfl⟩,trivial⟩ rfl) zU1,d0 (fV 0 4 rfl rfl rfl rfl (.agg tyA44)) zU1,d0 (fF (is:=[0,1]) (xs:=[.const (.int .i64 (0)),.tmp 18]) (ps:=[.vc (pI .i64 0),.va (eQ v5)]) rfl tyB92q rfl rfl ⟨trivial,trivial,trivial⟩ rfl) ⟨kG _ _,rfl,trivial⟩,d0 (r7 (C:=aE.cod) (xs:=[.tmp 19]) (ps:=[.va ([pI .i64 0]++(eQ v5))]) (zs:=[(⟨0,v5⟩:aE)]) rfl tyS49 rfl ⟨⟨trivial,rfl⟩,trivial⟩ rfl) zU1,d0 (bP rfl h11 rfl) ⟨kG _ _,kG _ _,trivial⟩,d0 (fF (is:=[5,6,7]) (xs:=[.tmp 17,.tmp 20,.tmp 21]) (ps:=[.vc (pS aE.cod [(⟨1,v5⟩:aE)]),.vc (pS aE.cod [(⟨0,v5⟩:aE)]),.va (eQ v10)]) rfl tyB51q rfl rfl ⟨trivial,trivial,trivial,trivial⟩ rfl) ⟨rfl,rfl,rfl,trivial⟩,⟨rfl,.alc tyZ51q⟩,trivial⟩ (fun bs9 G8=>?_)
 obtain⟨v14,h15,hF⟩:=bC hF bU
 obtain⟨v16,h17,hF⟩:=bC hF bU
 obtain⟨v18,h19,hF⟩:=bC hF bU
 refine go ?_ ?_
 refine jV [0,0,3,0,0,24,0,120,248,0,760,0,3832,0,8192,32767,65535] 16 1 [.v (.va ((eQ v2)++(eQ 0)++[pB false]++(eQ 0)++(eQ 0))),.v (.va ((eQ v2)++(eQ 0)++[pB false]++(eQ 0)++(eQ 0))),.v (.vc (pS aG.cod [(⟨v2,0,false,0,0⟩:aG),(⟨v2,0,false,0,0⟩:aG)])),.v (.vc (pI .i64 a0)),.v (.vc (pI .i64 a2)),.v (.va (eQ v14)),.v (.vc (pI .i64 a1)),.v (.va (eQ v16)),.v (.vc (pS cQ [v14,v16])),.v (.vc (pI .i64 a3)),.v (.va (eQ v18)),.v (.va (eQ 0)),.v (.vc (pS cQ [v18,0])),.v (.va ([pI .i64 0]++[pI .i64 0]++[pI .i64 0]++[pI .i64 0]++(eQ 0)++[pS aE.cod [(⟨1,v5⟩:aE)]]++[pS aE.cod [(⟨0,v5⟩:aE)]]++(eQ v10)++(eQ 0))),.v (.vc (pS aA.cod [(⟨0,0,0,0,0,[(⟨1,v5⟩:aE)],[(⟨0,v5⟩:aE)],v10,0⟩:aA)])),.v (.va ([pS aG.cod [(⟨v2,0,false,0,0⟩:aG),(⟨v2,0,false,0,0⟩:aG)]]++[pS cQ [v14,v16]]++[pS cQ [v18,0]]++[pS aA.cod [(⟨0,0,0,0,0,[(⟨1,v5⟩:aE)],[(⟨0,v5⟩:aE)],v10,0⟩:aA)]]))] bI ⟨d0 (fV 2 17 rfl rfl rfl rfl (.agg tyA108)) zU1,d0 (fV 2 17 rfl rfl rfl rfl (.agg tyA108)) zU1,d0 (r7 (C:=aG.cod) (xs:=[.tmp 23,.tmp 24]) (ps:=[.va ((eQ v2)++(eQ 0)++[pB false]++(eQ 0)++(eQ 0)),.va ((eQ v2)++(eQ 0)++[pB false]++(eQ 0)++(eQ 0))]) (zs:=[(⟨v2,0,false,0,0⟩:aG),(⟨v2,0,false,0,0⟩:aG)]) rfl tyS23 rfl ⟨⟨trivial,rfl⟩,⟨trivial,rfl⟩,trivial⟩ rfl) zU2,d0 (bS (.inl rfl)) zU1,d0 (bS (.inl rfl)) zU1,d0 (bP rfl h15 rfl) zU2,d0 (bS (.inl rfl)) zU1,d0 (bP rfl h17 rfl) ⟨rfl,kG _ _,trivial⟩,d0 (r7 (C:=cQ) (xs:=[.tmp 28,.tmp 30]) (ps:=[.va (eQ v14),.va (eQ v16)]) (zs:=[v14,v16]) rfl tyS24 rfl ⟨⟨trivial,rfl⟩,⟨trivial,rfl⟩,trivial⟩ rfl) zU2,d0 (bS (.inl rfl)) zU1,d0 (bP rfl h19 rfl) ⟨rfl,kG _ _,trivial⟩,d0 (fF (is:=[]) (xs:=[]) (ps:=[]) rfl tyB44q rfl rfl trivial rfl) trivial,d0 (r7 (C:=cQ) (xs:=[.tmp 33,.tmp 34]) (ps:=[.va (eQ v18),.va (eQ 0)]) (zs:=[v18,0]) rfl tyS24 rfl ⟨⟨trivial,rfl⟩,⟨trivial,rfl⟩,trivial⟩ rfl) zU2,d0 (fV 0 18 rfl rfl rfl rfl (.agg tyA51)) zU1,d0 (r7 (C:=aA.cod) (xs:=[.tmp 36]) (ps:=[.va ([pI .i64 0]++[pI .i64 0]++[pI .i64 0]++[pI .i64 0]++(eQ 0)++[pS aE.cod [(⟨1,v5⟩:aE)]]++[pS aE.cod [(⟨0,v5⟩:aE)]]++(eQ v10)++(eQ 0))]) (zs:=[(⟨0,0,0,0,0,[(⟨1,v5⟩:aE)],[(⟨0,v5⟩:aE)],v10,0⟩:aA)]) rfl tyS25 rfl ⟨⟨trivial,rfl⟩,trivial⟩ rfl) zU1,d0 (fF (is:=[0,1,2,3]) (xs:=[.tmp 25,.tmp 31,.tmp 35,.tmp 37]) (ps:=[.vc (pS aG.cod [(⟨v2,0,false,0,0⟩:aG),(⟨v2,0,false,0,0⟩:aG)]),.vc (pS cQ [v14,v16]),.vc (pS cQ [v18,0]),.vc (pS aA.cod [(⟨0,0,0,0,0,[(⟨1,v5⟩:aE)],[(⟨0,v5⟩:aE)],v10,0⟩:aA)])]) rfl tyB27q rfl rfl ⟨trivial,trivial,trivial,trivial,trivial⟩ rfl) ⟨rfl,rfl,rfl,rfl,trivial⟩,trivial⟩ (fun bs13 G12=>?_)
 exact cF
def lD (K:Nat) (a0:aK) (a1:Rat) (a2:Rat) (a3:Rat) (a4:Rat):Option Bool:=
 (mI K a0.dofs a0.load a0.v a0.rows).bind fun v6=>bif(v6.2.2 != 0) then(some false) else(bif((v6.1.length:Int) != 2) then(some false) else(bif((v6.2.1.length:Int) != 1) then(some false) else((bK v6.1 0).bind fun v13=>(vW v13 a1).bind fun v15=>bif v15 then((bK v6.1 1).bind fun v18=>(vW v18 a2).bind fun v20=>bif v20 then((bK v6.2.1 0).bind fun v23=>(vW v23.n a3).bind fun v25=>bif v25 then((bK v6.2.1 0).bind fun v28=>(vW v28.f a4).bind fun v30=>some v30) else(some false)) else(some false)) else(some false))))
theorem oV {K:Nat} {a0:aK} {a1:Rat} {a2:Rat} {a3:Rat} {a4:Rat} {r:Bool} (hF:lD K a0 a1 a2 a3 a4=some r):Ct Tryz.prog 89 [.va (aK.enc a0),.va (eQ a1),.va (eQ a2),.va (eQ a3),.va (eQ a4)] (.vc (pB r)):=by
 unfold lD at hF
 refine aI Tryz.func89 rfl (by kernel_rfl) Tryz.ntmps89 rfl (fun w0 M0=>?_)
 refine aO (aW (cT rfl rfl trivial (fun b1=>?_)))
 refine cT rfl rfl trivial (fun b2=>?_)
 refine cT rfl rfl trivial (fun b3=>?_)
 refine cT rfl rfl trivial (fun b4=>?_)
 refine cT rfl rfl trivial (fun b5=>?_)
 obtain⟨v6,h7,hF⟩:=bC hF uM
 refine go ?_ ?_
 refine eH hF (fun h8 hF=>?_) (fun h8 hF=>?_)
 ·refine go ?_ ?_
  refine kV rfl ?_
  exact cF
 refine go ?_ ?_
 refine eH hF (fun h9 hF=>?_) (fun h9 hF=>?_)
 ·refine go ?_ ?_
  refine kV rfl ?_
  exact cF
 refine go ?_ ?_
 refine aJ hF rfl (fun h10 hF=>?_) (fun h10 hF=>?_)
 ·exact cF
 obtain⟨v13,h14,hF⟩:=a9 hF
 obtain⟨v15,h16,hF⟩:=bC hF lI
 refine go ?_ ?_
 rcases Bool.eq_false_or_eq_true v15 with h17|h17
 ·have hF:=t6 h17 hF
  obtain⟨v18,h19,hF⟩:=a9 hF
  obtain⟨v20,h21,hF⟩:=bC hF lI
  rcases Bool.eq_false_or_eq_true v20 with h22|h22
  ·have hF:=t6 h22 hF
   obtain⟨v23,h24,hF⟩:=a9 hF
   obtain⟨v25,h26,hF⟩:=bC hF lI
   rcases Bool.eq_false_or_eq_true v25 with h27|h27
   ·have hF:=t6 h27 hF
    have hF:=rS h24 hF
    obtain⟨v30,h31,hF⟩:=bC hF lI
    refine drb (0::1::3::0::15::31::63::127::255::63::1023::2047::4095::8191::16383::32767::65535::8191::262143::524287::1048575::2097151::4194303::8388607::16777215::2097151::67108863::134217727::268435455::[]) 29 0 ?_ (fun bs12 G11=>?_)
    refine bQ (aU ?_)
    exact cF
   have hF:=uP h27 hF
   refine drb (0::1::3::0::15::31::63::127::255::63::1023::2047::4095::8191::16383::32767::65535::8191::262143::524287::1048575::2097151::4194303::8388607::16777215::2097151::67108863::134217727::268435455::[]) 29 0 ?_ (fun bs12 G11=>?_)
   refine bQ (aU ?_)
   exact cF
  have hF:=uP h22 hF
  refine drb (0::1::3::0::15::31::63::127::255::63::1023::2047::4095::8191::16383::32767::65535::8191::262143::524287::1048575::2097151::4194303::8388607::16777215::2097151::67108863::134217727::268435455::[]) 29 0 ?_ (fun bs12 G11=>?_)
  refine bQ (aU ?_)
  exact cF
 have hF:=uP h17 hF
 refine drb (0::1::3::0::15::31::63::127::255::63::1023::2047::4095::8191::16383::32767::65535::8191::262143::524287::1048575::2097151::4194303::8388607::16777215::2097151::67108863::134217727::268435455::[]) 29 0 ?_ (fun bs12 G11=>?_)
 refine bQ (aU ?_)
 exact cF
def pR (K:Nat):Option Bool:=
 (zC 1 1).bind fun v2=>(zC (-1) 2).bind fun v5=>(lF 0 (-1) 1 1).bind fun v8=>(mI K v8.dofs v8.load v8.v v8.rows).bind fun v11=>(lF 1 (-1) 4 0).bind fun v15=>(zC (-1) 4).bind fun v17=>(lD K v15 0 0 v2 v17).bind fun v19=>bif v19 then((lF 1 (-1) 1 0).bind fun v22=>(zC 1 4).bind fun v24=>(lD K v22 v24 0 v2 v5).bind fun v26=>bif v26 then((lF 0 1 1 0).bind fun v29=>(zC 1 2).bind fun v31=>(lD K v29 0 v31 0 0).bind fun v33=>bif v33 then((zC (-1) 4).bind fun v36=>(lD K v8 v36 0 v2 v5).bind fun v38=>bif v38 then(bif(v11.2.2==0) then((xQ K v8.v v11.1 v8.rows).bind fun v42=>bif v42 then((xS K v8.dofs v8.load v8.v v8.rows v11.1 v11.2.1).bind fun v45=>some (v45==0)) else(some false)) else(some false)) else(some false)) else(some false)) else(some false)) else(some false)
theorem aAf {K:Nat} {r:Bool} (hF:pR K=some r):Ct Tryz.prog 23 [] (.vc (pB r)):=by
 unfold pR at hF
 refine aI Tryz.func23 rfl (by kernel_rfl) Tryz.ntmps23 rfl (fun w0 M0=>?_)
 refine go ?_ ?_
 refine aN rfl tyZ44q (fun b1=>?_)
 obtain⟨v2,h3,hF⟩:=bC hF bU
 refine go ?_ ?_
 refine aN rfl tyZ44q (fun b4=>?_)
 obtain⟨v5,h6,hF⟩:=bC hF bU
 refine go ?_ ?_
 refine aN rfl tyZ44q (fun b7=>?_)
 obtain⟨v8,h9,hF⟩:=bC hF o8
 refine go ?_ ?_
 refine aN rfl tyZ27q (fun b10=>?_)
 obtain⟨v11,h12,hF⟩:=bC hF uM
 obtain⟨v15,h16,hF⟩:=bC hF o8
 obtain⟨v17,h18,hF⟩:=bC hF bU
 obtain⟨v19,h20,hF⟩:=bC hF oV
 refine go ?_ ?_
 rcases Bool.eq_false_or_eq_true v19 with h21|h21
 ·have hF:=t6 h21 hF
  obtain⟨v22,h23,hF⟩:=bC hF o8
  obtain⟨v24,h25,hF⟩:=bC hF bU
  obtain⟨v26,h27,hF⟩:=bC hF oV
  rcases Bool.eq_false_or_eq_true v26 with h28|h28
  ·have hF:=t6 h28 hF
   obtain⟨v29,h30,hF⟩:=bC hF o8
   obtain⟨v31,h32,hF⟩:=bC hF bU
   obtain⟨v33,h34,hF⟩:=bC hF oV
   rcases Bool.eq_false_or_eq_true v33 with h35|h35
   ·have hF:=t6 h35 hF
    obtain⟨v36,h37,hF⟩:=bC hF bU
    obtain⟨v38,h39,hF⟩:=bC hF oV
    refine jV (0::0::0::0::1::31::63::127::255::127::127::127::4095::8191::16383::32767::32767::65535::32767::32767::1048575::2097151::4194303::8388607::8388607::8388607::8388607::8388607::268435455::536870911::1073741823::[]) 31 0 (.v (.va (aK.enc v15))::.v (.va (eQ 0))::.v (.va (eQ 0))::.v (.va (eQ v2))::.v (.va (eQ v17))::.v (.vc (pB v19))::.v (.vc (pB true))::.v (.va (aK.enc v22))::.v (.va (eQ v24))::.v (.va (eQ 0))::.v (.va (eQ v2))::.v (.va (eQ v5))::.v (.vc (pB v26))::.v (.vc (pB v26))::.v (.vc (pB true))::.v (.va (aK.enc v29))::.v (.va (eQ 0))::.v (.va (eQ v31))::.v (.va (eQ 0))::.v (.va (eQ 0))::.v (.vc (pB v33))::.v (.vc (pB v33))::.v (.vc (pB true))::.v (.va (aK.enc v8))::.v (.va (eQ v36))::.v (.va (eQ 0))::.v (.va (eQ v2))::.v (.va (eQ v5))::.v (.vc (pB v38))::.v (.vc (pB v38))::.v (.vc (pB v38))::[]) bI ⟨d0 (bP rfl h16 rfl) ⟨kG _ _,kG _ _,kG _ _,kG _ _,trivial⟩,d0 (fV 3 4 rfl rfl rfl rfl (.agg tyA44)) zU1,d0 (fV 3 4 rfl rfl rfl rfl (.agg tyA44)) zU1,d0 (fV 2 4 rfl rfl rfl rfl (.agg tyA44)) zU1,d0 (bP rfl h18 rfl) ⟨kG _ _,kG _ _,trivial⟩,d0 (bP rfl h20 rfl) ⟨rfl,rfl,rfl,rfl,rfl,trivial⟩,d0 (kP (bS (.inl rfl)) h21) zU1,g0 (bP rfl h23 rfl) ⟨kG _ _,kG _ _,kG _ _,kG _ _,trivial⟩,g0 (bP rfl h25 rfl) ⟨kG _ _,kG _ _,trivial⟩,g0 (fV 3 4 rfl rfl rfl rfl (.agg tyA44)) zU1,g0 (fV 2 4 rfl rfl rfl rfl (.agg tyA44)) zU1,g0 (fV 1 4 rfl rfl rfl rfl (.agg tyA44)) zU1,g0 (bP rfl h27 rfl) ⟨rfl,rfl,rfl,rfl,rfl,trivial⟩,d0 (vH rfl) zU2,d0 (kP (bS (.inl rfl)) h28) zU1,g0 (bP rfl h30 rfl) ⟨kG _ _,kG _ _,kG _ _,kG _ _,trivial⟩,g0 (fV 3 4 rfl rfl rfl rfl (.agg tyA44)) zU1,g0 (bP rfl h32 rfl) ⟨kG _ _,kG _ _,trivial⟩,g0 (fV 3 4 rfl rfl rfl rfl (.agg tyA44)) zU1,g0 (fV 3 4 rfl rfl rfl rfl (.agg tyA44)) zU1,g0 (bP rfl h34 rfl) ⟨rfl,rfl,rfl,rfl,rfl,trivial⟩,d0 (vH rfl) zU2,d0 (kP (bS (.inl rfl)) h35) zU1,g0 (fV 0 4 rfl rfl rfl rfl (.agg tyA27)) zU1,g0 (bP rfl h37 rfl) ⟨kG _ _,kG _ _,trivial⟩,g0 (fV 3 4 rfl rfl rfl rfl (.agg tyA44)) zU1,g0 (fV 2 4 rfl rfl rfl rfl (.agg tyA44)) zU1,g0 (fV 1 4 rfl rfl rfl rfl (.agg tyA44)) zU1,g0 (bP rfl h39 rfl) ⟨rfl,rfl,rfl,rfl,rfl,trivial⟩,d0 (vH rfl) zU2,d0 (bS (.inr rfl)) zU1,trivial⟩ (fun bs14 G13=>?_)
    refine go ?_ ?_
    refine eH hF (fun h40 hF=>?_) (fun h40 hF=>?_)
    ·refine go ?_ ?_
     refine eH hF (fun h41 hF=>?_) (fun h41 hF=>?_)
     ·obtain⟨v42,h43,hF⟩:=bC hF aCX
      refine go ?_ ?_
      refine eH hF (fun h44 hF=>?_) (fun h44 hF=>?_)
      ·obtain⟨v45,h46,hF⟩:=bC hF aDz
       exact cF
      exact cF
     exact cF
    exact cF
   have hF:=uP h35 hF
   refine jV (0::0::0::0::1::31::63::127::255::127::127::127::4095::8191::16383::32767::32767::65535::32767::32767::1048575::2097151::4194303::8388607::8388607::8388607::8388607::8388607::268435455::536870911::1073741823::[]) 31 0 (.v (.va (aK.enc v15))::.v (.va (eQ 0))::.v (.va (eQ 0))::.v (.va (eQ v2))::.v (.va (eQ v17))::.v (.vc (pB v19))::.v (.vc (pB true))::.v (.va (aK.enc v22))::.v (.va (eQ v24))::.v (.va (eQ 0))::.v (.va (eQ v2))::.v (.va (eQ v5))::.v (.vc (pB v26))::.v (.vc (pB v26))::.v (.vc (pB true))::.v (.va (aK.enc v29))::.v (.va (eQ 0))::.v (.va (eQ v31))::.v (.va (eQ 0))::.v (.va (eQ 0))::.v (.vc (pB v33))::.v (.vc (pB v33))::.v (.vc (pB false))::.v .un::.v .un::.v .un::.v .un::.v .un::.v .un::.v (.vc (pB false))::.v (.vc (pB false))::[]) bI ⟨d0 (bP rfl h16 rfl) ⟨kG _ _,kG _ _,kG _ _,kG _ _,trivial⟩,d0 (fV 3 4 rfl rfl rfl rfl (.agg tyA44)) zU1,d0 (fV 3 4 rfl rfl rfl rfl (.agg tyA44)) zU1,d0 (fV 2 4 rfl rfl rfl rfl (.agg tyA44)) zU1,d0 (bP rfl h18 rfl) ⟨kG _ _,kG _ _,trivial⟩,d0 (bP rfl h20 rfl) ⟨rfl,rfl,rfl,rfl,rfl,trivial⟩,d0 (kP (bS (.inl rfl)) h21) zU1,g0 (bP rfl h23 rfl) ⟨kG _ _,kG _ _,kG _ _,kG _ _,trivial⟩,g0 (bP rfl h25 rfl) ⟨kG _ _,kG _ _,trivial⟩,g0 (fV 3 4 rfl rfl rfl rfl (.agg tyA44)) zU1,g0 (fV 2 4 rfl rfl rfl rfl (.agg tyA44)) zU1,g0 (fV 1 4 rfl rfl rfl rfl (.agg tyA44)) zU1,g0 (bP rfl h27 rfl) ⟨rfl,rfl,rfl,rfl,rfl,trivial⟩,d0 (vH rfl) zU2,d0 (kP (bS (.inl rfl)) h28) zU1,g0 (bP rfl h30 rfl) ⟨kG _ _,kG _ _,kG _ _,kG _ _,trivial⟩,g0 (fV 3 4 rfl rfl rfl rfl (.agg tyA44)) zU1,g0 (bP rfl h32 rfl) ⟨kG _ _,kG _ _,trivial⟩,g0 (fV 3 4 rfl rfl rfl rfl (.agg tyA44)) zU1,g0 (fV 3 4 rfl rfl rfl rfl (.agg tyA44)) zU1,g0 (bP rfl h34 rfl) ⟨rfl,rfl,rfl,rfl,rfl,trivial⟩,d0 (vH rfl) zU2,d0 (kP (bS (.inl rfl)) h35) zU1,⟨rfl,.skipN⟩,⟨rfl,.skipN⟩,⟨rfl,.skipN⟩,⟨rfl,.skipN⟩,⟨rfl,.skipN⟩,⟨rfl,.skipN⟩,d0 (wE rfl) ⟨rfl,k_B _,trivial⟩,d0 (bS (.inr rfl)) zU1,trivial⟩ (fun bs14 G13=>?_)
   exact cF
  have hF:=uP h28 hF
  refine jV (0::0::0::0::1::31::63::127::255::127::127::127::4095::8191::16383::32767::32767::65535::32767::32767::1048575::2097151::4194303::8388607::8388607::8388607::8388607::8388607::268435455::536870911::1073741823::[]) 31 0 (.v (.va (aK.enc v15))::.v (.va (eQ 0))::.v (.va (eQ 0))::.v (.va (eQ v2))::.v (.va (eQ v17))::.v (.vc (pB v19))::.v (.vc (pB true))::.v (.va (aK.enc v22))::.v (.va (eQ v24))::.v (.va (eQ 0))::.v (.va (eQ v2))::.v (.va (eQ v5))::.v (.vc (pB v26))::.v (.vc (pB v26))::.v (.vc (pB false))::.v .un::.v .un::.v .un::.v .un::.v .un::.v .un::.v (.vc (pB false))::.v (.vc (pB false))::.v .un::.v .un::.v .un::.v .un::.v .un::.v .un::.v (.vc (pB false))::.v (.vc (pB false))::[]) bI ⟨d0 (bP rfl h16 rfl) ⟨kG _ _,kG _ _,kG _ _,kG _ _,trivial⟩,d0 (fV 3 4 rfl rfl rfl rfl (.agg tyA44)) zU1,d0 (fV 3 4 rfl rfl rfl rfl (.agg tyA44)) zU1,d0 (fV 2 4 rfl rfl rfl rfl (.agg tyA44)) zU1,d0 (bP rfl h18 rfl) ⟨kG _ _,kG _ _,trivial⟩,d0 (bP rfl h20 rfl) ⟨rfl,rfl,rfl,rfl,rfl,trivial⟩,d0 (kP (bS (.inl rfl)) h21) zU1,g0 (bP rfl h23 rfl) ⟨kG _ _,kG _ _,kG _ _,kG _ _,trivial⟩,g0 (bP rfl h25 rfl) ⟨kG _ _,kG _ _,trivial⟩,g0 (fV 3 4 rfl rfl rfl rfl (.agg tyA44)) zU1,g0 (fV 2 4 rfl rfl rfl rfl (.agg tyA44)) zU1,g0 (fV 1 4 rfl rfl rfl rfl (.agg tyA44)) zU1,g0 (bP rfl h27 rfl) ⟨rfl,rfl,rfl,rfl,rfl,trivial⟩,d0 (vH rfl) zU2,d0 (kP (bS (.inl rfl)) h28) zU1,⟨rfl,.skipN⟩,⟨rfl,.skipN⟩,⟨rfl,.skipN⟩,⟨rfl,.skipN⟩,⟨rfl,.skipN⟩,⟨rfl,.skipN⟩,d0 (wE rfl) ⟨rfl,k_B _,trivial⟩,d0 (bS (.inl rfl)) zU1,⟨rfl,.skipN⟩,⟨rfl,.skipN⟩,⟨rfl,.skipN⟩,⟨rfl,.skipN⟩,⟨rfl,.skipN⟩,⟨rfl,.skipN⟩,d0 (wE rfl) ⟨rfl,k_B _,trivial⟩,d0 (bS (.inr rfl)) zU1,trivial⟩ (fun bs14 G13=>?_)
  exact cF
 have hF:=uP h21 hF
 refine jV (0::0::0::0::1::31::63::127::255::127::127::127::4095::8191::16383::32767::32767::65535::32767::32767::1048575::2097151::4194303::8388607::8388607::8388607::8388607::8388607::268435455::536870911::1073741823::[]) 31 0 (.v (.va (aK.enc v15))::.v (.va (eQ 0))::.v (.va (eQ 0))::.v (.va (eQ v2))::.v (.va (eQ v17))::.v (.vc (pB v19))::.v (.vc (pB false))::.v .un::.v .un::.v .un::.v .un::.v .un::.v .un::.v (.vc (pB false))::.v (.vc (pB false))::.v .un::.v .un::.v .un::.v .un::.v .un::.v .un::.v (.vc (pB false))::.v (.vc (pB false))::.v .un::.v .un::.v .un::.v .un::.v .un::.v .un::.v (.vc (pB false))::.v (.vc (pB false))::[]) bI ⟨d0 (bP rfl h16 rfl) ⟨kG _ _,kG _ _,kG _ _,kG _ _,trivial⟩,d0 (fV 3 4 rfl rfl rfl rfl (.agg tyA44)) zU1,d0 (fV 3 4 rfl rfl rfl rfl (.agg tyA44)) zU1,d0 (fV 2 4 rfl rfl rfl rfl (.agg tyA44)) zU1,d0 (bP rfl h18 rfl) ⟨kG _ _,kG _ _,trivial⟩,d0 (bP rfl h20 rfl) ⟨rfl,rfl,rfl,rfl,rfl,trivial⟩,d0 (kP (bS (.inl rfl)) h21) zU1,⟨rfl,.skipN⟩,⟨rfl,.skipN⟩,⟨rfl,.skipN⟩,⟨rfl,.skipN⟩,⟨rfl,.skipN⟩,⟨rfl,.skipN⟩,d0 (wE rfl) ⟨rfl,k_B _,trivial⟩,d0 (bS (.inl rfl)) zU1,⟨rfl,.skipN⟩,⟨rfl,.skipN⟩,⟨rfl,.skipN⟩,⟨rfl,.skipN⟩,⟨rfl,.skipN⟩,⟨rfl,.skipN⟩,d0 (wE rfl) ⟨rfl,k_B _,trivial⟩,d0 (bS (.inl rfl)) zU1,⟨rfl,.skipN⟩,⟨rfl,.skipN⟩,⟨rfl,.skipN⟩,⟨rfl,.skipN⟩,⟨rfl,.skipN⟩,⟨rfl,.skipN⟩,d0 (wE rfl) ⟨rfl,k_B _,trivial⟩,d0 (bS (.inr rfl)) zU1,trivial⟩ (fun bs14 G13=>?_)
 exact cF
end Go.Proofs.YtcjdedkdoagifaaGreat
set_option linter.unusedVariables false
set_option maxRecDepth 100000
namespace Go.Proofs.YtcjdedkdoagifaaGreat
def jL (K:Nat):Option Bool:=
 (pR K).bind fun v56=>some v56
def dK (K:Nat) (v14:Rat) (v41:(List Rat)×(List aF)×Int) (v43:(List Rat)×(List aF)×Int):Nat→Int→Option (LR Bool Unit)
 |0,_=>none
 |k+1,x53=>bif(decide (x53<(v41.2.1.length:Int))) then((bK v41.2.1 x53).bind fun v61=>(wI v61.n v14).bind fun v63=>(bK v43.2.1 x53).bind fun v65=>(vW v63 v65.n).bind fun v67=>bif(!v67) then(some (.ret false)) else((bK v41.2.1 x53).bind fun v70=>(wI v70.f v14).bind fun v72=>(bK v43.2.1 x53).bind fun v74=>(vW v72 v74.f).bind fun v76=>bif(!v76) then(some (.ret false)) else((aP (x53+1)).bind fun v79=>dK K v14 v41 v43 k v79))) else(some (.go ()))
def jJ (K:Nat) (v14:Rat) (v41:(List Rat)×(List aF)×Int) (v43:(List Rat)×(List aF)×Int):Option Bool:=
 (dK K v14 v41 v43 K 0).bind fun o=>match o with| .ret r=>some r| .go _=>jL K
def dQ (K:Nat) (v14:Rat) (v41:(List Rat)×(List aF)×Int) (v43:(List Rat)×(List aF)×Int):Nat→Int→Option (LR Bool Unit)
 |0,_=>none
 |k+1,x49=>bif(decide (x49<(v41.1.length:Int))) then((bK v41.1 x49).bind fun v84=>(wI v84 v14).bind fun v86=>(bK v43.1 x49).bind fun v88=>(vW v86 v88).bind fun v90=>bif(!v90) then(some (.ret false)) else((aP (x49+1)).bind fun v93=>dQ K v14 v41 v43 k v93)) else(some (.go ()))
def jK (K:Nat) (v1:aK) (v14:Rat) (x33:List Rat):Option Bool:=
 (mI K v1.dofs v1.load v1.v v1.rows).bind fun v41=>(mI K v1.dofs x33 v1.v v1.rows).bind fun v43=>bif(v41.2.2 != v43.2.2) then(some false) else(bif((v41.1.length:Int) != (v43.1.length:Int)) then(some false) else(bif((v41.2.1.length:Int) != (v43.2.1.length:Int)) then(some false) else((dQ K v14 v41 v43 K 0).bind fun o=>match o with| .ret r=>some r| .go _=>jJ K v14 v41 v43)))
def dL (K:Nat) (v1:aK) (v14:Rat):Nat→(List Rat)→Int→Option (List Rat)
 |0,_,_=>none
 |k+1,x26,x32=>bif(decide (x32<(v1.load.length:Int))) then((bK v1.load x32).bind fun v98=>(wI v98 v14).bind fun v100=>(qV x26 [v100]).bind fun x102=>(aP (x32+1)).bind fun v109=>dL K v1 v14 k x102 v109) else(some x26)
def iX (K:Nat) (a0:List Int) (a1:Bool) (a2:Int):Option Bool:=
 (kB K a0 a1).bind fun v1=>(iE a2 9).bind fun v4=>(aP (1+v4)).bind fun v6=>(vL a2 9).bind fun v8=>(iE v8 7).bind fun v10=>(aP (1+v10)).bind fun v12=>(zC v6 v12).bind fun v14=>(dL K v1 v14 K ([]:List Rat) 0).bind fun x33=>jK K v1 v14 x33
theorem wH {K:Nat} {a0:List Int} {a1:Bool} {a2:Int} {r:Bool} (hF:iX K a0 a1 a2=some r):Ct Tryz.prog 6 [.vc (pS cI a0),.vc (pB a1),.vc (pI .i64 a2)] (.vc (pB r)):=by
 unfold iX at hF
 refine aI Tryz.func6 rfl (by kernel_rfl) Tryz.ntmps6 rfl (fun w0 M0=>?_)
 obtain⟨v1,h2,hF⟩:=bC hF aAC
 refine go ?_ ?_
 refine aN rfl tyZ27q (fun b3=>?_)
 obtain⟨v4,h5,hF⟩:=bC hF rG
 obtain⟨v6,h7,v8,h9,hF⟩:=uS hF
 obtain⟨v10,h11,hF⟩:=bC hF rG
 obtain⟨v12,h13,hF⟩:=a9 hF
 obtain⟨v14,h15,hF⟩:=bC hF bU
 refine go ?_ ?_
 refine aN rfl tyZ44q (fun b16=>?_)
 refine oI (t_s 0 rfl rfl rfl tyA44.s) zU2 ?_
 refine bQ (aU (aO (aW (wL cQ 44 rfl ?_))))
 refine go ?_ ?_
 refine aV (cC (fun H E=>∃(x33:List Rat),∃(b34:Option Nat),∃(c35:Nat),∃(n36:Nat),jK K v1 v14 x33=some r∧x33.length=n36∧H=[hO cQ b34 c35 44 n36 x33,⟨some b16,1,44,4,1,(eQ v14)⟩,⟨some b3,1,27,4,1,(aK.enc v1)⟩]∧E=[(7,.vc (pP (some b3) 0)),(8,.vc (pP (some b16) 0)),(9,.vc (pO b34 n36 c35))]) ?_ (fun Jj40=>?_))
 ·rintro _ _ ⟨x33,b34,c35,n36,hF,q37,rfl,rfl⟩
  unfold jK at hF
  refine aU (aO (aW (aS (nO (off:=0) (k:=0) rfl tyF27_0) zU1 ?_)))
  refine aS (fV 2 1 rfl rfl rfl rfl (.one tyO23)) zU1 ?_
  refine aS (nO (off:=0) (k:=1) rfl tyF27_1) zU1 ?_
  refine aS (fV 2 1 rfl rfl rfl rfl (.one tyO24)) zU1 ?_
  refine aS (nO (off:=0) (k:=2) rfl tyF27_2) zU1 ?_
  refine aS (fV 2 1 rfl rfl rfl rfl (.one tyO24)) zU1 ?_
  refine aS (nO (off:=0) (k:=3) rfl tyF27_3) zU1 ?_
  refine aS (fV 2 1 rfl rfl rfl rfl (.one tyO25)) zU1 ?_
  obtain⟨v41,h42,hF⟩:=bC hF uM
  refine aS (bP rfl h42 rfl) ⟨rfl,rfl,rfl,rfl,trivial⟩ ?_
  refine nC ?_
  refine aS (aFt rfl) zU1 ?_
  refine aS (aFS rfl) zU1 ?_
  refine aS (aEX rfl) zU1 ?_
  refine yM ?_
  refine yM ?_
  refine yM ?_
  refine bQ (aU (aO (aW (aS (nO (off:=0) (k:=0) rfl tyF27_0) zU1 ?_))))
  refine aS (fV 2 1 rfl rfl rfl rfl (.one tyO23)) zU1 ?_
  refine nC ?_
  refine aS (nO (off:=0) (k:=2) rfl tyF27_2) zU1 ?_
  refine aS (fV 2 1 rfl rfl rfl rfl (.one tyO24)) zU1 ?_
  refine aS (nO (off:=0) (k:=3) rfl tyF27_3) zU1 ?_
  refine aS (fV 2 1 rfl rfl rfl rfl (.one tyO25)) zU1 ?_
  refine aAQ 0 [9,63] rfl q37 zU2 rfl ?_
  obtain⟨v43,h44,hF⟩:=bC hF uM
  refine go ?_ ?_
  refine eH hF (fun h45 hF=>?_) (fun h45 hF=>?_)
  ·refine go ?_ ?_
   refine kV rfl ?_
   exact cF
  refine go ?_ ?_
  refine eH hF (fun h46 hF=>?_) (fun h46 hF=>?_)
  ·refine go ?_ ?_
   refine kV rfl ?_
   exact cF
  refine go ?_ ?_
  refine aJ hF rfl (fun h47 hF=>?_) (fun h47 hF=>?_)
  ·exact cF
  refine go ?_ ?_
  refine aV (cC (fun H E=>jJ K v14 v41 v43=some r∧H=[⟨some b16,1,44,4,1,(eQ v14)⟩]∧E=[(8,.vc (pP (some b16) 0)),(12,.vc (pS aF.cod v41.2.1)),(15,.vc (pS aF.cod v43.2.1))]) ?_ (fun Jj51=>?_))
  ·rintro _ _ ⟨hF,rfl,rfl⟩
   unfold jJ at hF
   refine go ?_ ?_
   refine aV (cC (fun H E=>jL K=some r∧H=[]∧E=[]) ?_ (fun Jj55=>?_))
   ·rintro _ _ ⟨hF,rfl,rfl⟩
    unfold jL at hF
    obtain⟨v56,h57,hF⟩:=bC hF aAf
    exact cF
   obtain⟨ol54,hL,hRl54⟩:=a9 hF
   refine iN (fun k a w=>∃(x53:Int),dK K v14 v41 v43 k x53=some ol54∧hs _ [⟨some b16,1,44,4,1,(eQ v14)⟩] [(8,.vc (pP (some b16) 0)),(12,.vc (pS aF.cod v41.2.1)),(15,.vc (pS aF.cod v43.2.1)),(18,.vc (pI .i64 x53))] a w) K (fun a w ⟨_,hF,_⟩=>by cases hF) (fun k a w ⟨x53,hF,hh⟩=>iP ?_ hh) (fun a w hh=>⟨0,hL,iB [0] hh⟩)
   rw [dK.eq_2] at hF
   refine go ?_ ?_
   refine aJ hF rfl (fun h58 hF=>?_) (fun h58 hF=>?_)
   ·refine go ?_ ?_
    refine aV (aO ?_)
    obtain⟨v61,h62,hF⟩:=a9 hF
    obtain⟨v63,h64,hF⟩:=bC hF mB
    obtain⟨v65,h66,hF⟩:=a9 hF
    obtain⟨v67,h68,hF⟩:=bC hF lI
    rcases Bool.eq_false_or_eq_true (!v67) with h69|h69
    ·have hF:=t6 h69 hF
     refine drb (0::0::3::7::15::0::63::0::0::384::896::1920::4095::8191::16383::32767::32767::131071::262143::524287::32767::2097151::32767::32767::12615679::29392895::62947327::134217727::268435455::536870911::[]) 30 0 ?_ (fun bs60 G59=>?_)
     refine bQ (aU (kV rfl ?_))
     exact cF
    have hF:=uP h69 hF
    have hF:=rS h62 hF
    obtain⟨v72,h73,hF⟩:=bC hF mB
    have hF:=rS h66 hF
    obtain⟨v76,h77,hF⟩:=bC hF lI
    refine drb (0::0::3::7::15::0::63::0::0::384::896::1920::4095::8191::16383::32767::32767::131071::262143::524287::32767::2097151::32767::32767::12615679::29392895::62947327::134217727::268435455::536870911::[]) 30 0 ?_ (fun bs60 G59=>?_)
    refine bQ (aU (aJ hF rfl (fun h78 hF=>?_) (fun h78 hF=>?_)))
    ·exact cF
    obtain⟨v79,h80,hF⟩:=a9 hF
    refine go ?_ ?_
    exact aL (fun a w hh=>⟨v79,hF,iB [0] hh⟩)
   refine dG ?_
   obtain rfl:=p6 hF
   exact p8 Jj55 ⟨hRl54,rfl,rfl⟩ []
  obtain⟨ol50,hL,hRl50⟩:=a9 hF
  refine iN (fun k a w=>∃(x49:Int),dQ K v14 v41 v43 k x49=some ol50∧hs _ [⟨some b16,1,44,4,1,(eQ v14)⟩] [(8,.vc (pP (some b16) 0)),(11,.vc (pS cQ v41.1)),(12,.vc (pS aF.cod v41.2.1)),(14,.vc (pS cQ v43.1)),(15,.vc (pS aF.cod v43.2.1)),(17,.vc (pI .i64 x49))] a w) K (fun a w ⟨_,hF,_⟩=>by cases hF) (fun k a w ⟨x49,hF,hh⟩=>iP ?_ hh) (fun a w hh=>⟨0,hL,iB [0] hh⟩)
  rw [dQ.eq_2] at hF
  refine go ?_ ?_
  refine aJ hF rfl (fun h81 hF=>?_) (fun h81 hF=>?_)
  ·refine go ?_ ?_
   refine aV (aO ?_)
   obtain⟨v84,h85,hF⟩:=a9 hF
   obtain⟨v86,h87,hF⟩:=bC hF mB
   obtain⟨v88,h89,hF⟩:=a9 hF
   obtain⟨v90,h91,hF⟩:=bC hF lI
   refine dr [0,0,3,7,0,31,0,0,192,448,1023,2047] 12 0 ?_ (fun bs83 G82=>?_)
   refine bQ (aU (aJ hF rfl (fun h92 hF=>?_) (fun h92 hF=>?_)))
   ·exact cF
   obtain⟨v93,h94,hF⟩:=a9 hF
   refine go ?_ ?_
   exact aL (fun a w hh=>⟨v93,hF,iB [0] hh⟩)
  refine dG ?_
  obtain rfl:=p6 hF
  exact p8 Jj51 ⟨hRl50,rfl,rfl⟩ [0]
 obtain⟨x33',hL,hRl39⟩:=a9 hF
 refine iN (fun k a w=>∃(x26:List Rat),∃(x32:Int),∃(b27:Option Nat),∃(c28:Nat),∃(n29:Nat),dL K v1 v14 k x26 x32=some x33'∧x26.length=n29∧hs _ [hO cQ b27 c28 44 n29 x26,⟨some b16,1,44,4,1,(eQ v14)⟩,⟨some b3,1,27,4,1,(aK.enc v1)⟩] [(7,.vc (pP (some b3) 0)),(8,.vc (pP (some b16) 0)),(9,.vc (pO b27 n29 c28)),(10,.vc (pI .i64 x32))] a w) K (fun a w ⟨_,_,_,_,_,hF,_,_⟩=>by cases hF) (fun k a w ⟨x26,x32,b27,c28,n29,hF,q30,hh⟩=>iP ?_ hh) (fun a w hh=>⟨([]:List Rat),0,none,0,0,hL,rfl,iB [0,1,2] hh⟩)
 rw [dL.eq_2] at hF
 refine go ?_ ?_
 refine aJ hF rfl (fun h95 hF=>?_) (fun h95 hF=>?_)
 ·refine go ?_ ?_
  refine aV ?_
  obtain⟨v98,h99,hF⟩:=a9 hF
  obtain⟨v100,h101,hF⟩:=bC hF mB
  refine jV [0,0,2,0,14,30,0,126,254,511,1023] 9 2 [.v (.vc (pO b27 n29 c28)),.v (.vc (pP (some b3) 1)),.v (.vc (pS cQ v1.load)),.v (.vc (pI .i64 x32)),.v (.vc (pM (cQ.e v98))),.v (.va (eQ v98)),.v (.va (eQ v14)),.v (.va (eQ v100)),.v (.vc (pS cQ [v100]))] bI ⟨d0 (bS (.inl rfl)) zU1,d0 (nO (off:=0) (k:=1) rfl tyF27_1) zU1,d0 (fV 2 1 rfl rfl rfl rfl (.one tyO24)) zU1,d0 (bS (.inl rfl)) zU1,d0 (aJC rfl tyS24 h99) zU2,d0 (aD3 4 rfl rfl (.agg tyA44)) zU1,d0 (fV 1 4 rfl rfl rfl rfl (.agg tyA44)) zU1,d0 (bP rfl h101 rfl) zU2,d0 (r7 (C:=cQ) (xs:=[.tmp 44]) (ps:=[.va (eQ v100)]) (zs:=[v100]) rfl tyS24 rfl ⟨⟨trivial,rfl⟩,trivial⟩ rfl) zU1,trivial⟩ (fun bs97 G96=>?_)
  obtain⟨x102,h103,hF⟩:=a9 hF
  refine qB 0 rfl tyS24 rfl rfl q30 rfl rfl h103 (fun b104 c105 H106 e107=>?_)
  cases e107
  obtain⟨v109,h110,hF⟩:=a9 hF
  refine go ?_ ?_
  exact aL (fun a w hh=>⟨x102,v109,b104,c105,(n29+[v100].length),hF,(gV h103 q30),iB [0,1,2] hh⟩)
 refine dG ?_
 obtain rfl:=p6 hF
 exact p8 Jj40 ⟨x26,b27,c28,n29,hRl39,q30,rfl,rfl⟩ [0,1,2]
def r5 (K:Nat) (x17:List aQ):Option (List aQ):=
 some x17
def eK (K:Nat) (a0:List Rat) (a1:List aA):Nat→(List aQ)→Int→Option (List aQ)
 |0,_,_=>none
 |k+1,x10,x16=>bif(decide (x16<(a1.length:Int))) then((qV x10 [(⟨x16,0⟩:aQ)]).bind fun x26=>(bK a1 x16).bind fun v33=>bif(decide (0<(v33.t.length:Int))) then((bK a1 x16).bind fun v36=>(qE K v36 a0).bind fun v38=>bif(v38==0) then((qV x26 [(⟨x16,1⟩:aQ),(⟨x16,2⟩:aQ),(⟨x16,3⟩:aQ)]).bind fun x41=>(aP (x16+1)).bind fun v48=>eK K a0 a1 k x41 v48) else((aP (x16+1)).bind fun v50=>eK K a0 a1 k x26 v50)) else((aP (x16+1)).bind fun v52=>eK K a0 a1 k x26 v52)) else(some x10)
def iR (K:Nat) (a0:List Rat) (a1:List aA):Option (List aQ):=
 (eK K a0 a1 K ([]:List aQ) 0).bind fun x17=>r5 K x17
def sS (K:Nat) (a0:aA) (a1:List Rat) (a2:List Rat):Option aF:=
 (qE K a0 a1).bind fun v3=>bif((a0.t.length:Int)==0) then((bK a2 0).bind fun v6=>some (⟨v6,0⟩:aF)) else(bif(v3 != 0) then((bK a2 0).bind fun v11=>(aP (-v3)).bind fun v13=>(zC v13 1).bind fun v15=>(bK a2 0).bind fun v17=>(wI a0.mu v17).bind fun v19=>(wI v15 v19).bind fun v21=>some (⟨v11,v21⟩:aF)) else((bK a2 0).bind fun v25=>(bK a2 1).bind fun v27=>(bK a2 2).bind fun v29=>(aDW v27 v29).bind fun v31=>some (⟨v25,v31⟩:aF)))
def s8 (K:Nat) (x19:List aF):Option (List aF):=
 some x19
def s6 (K:Nat) (a0:List Rat) (a1:List aA) (x12:List aF) (x18:Int) (recl25:(List aF)→Int→Option (List aF)) (x47:List Rat):Option (List aF):=
 (bK a1 x18).bind fun v55=>(sS K v55 a0 x47).bind fun v57=>(qV x12 [v57]).bind fun x59=>(aP (x18+1)).bind fun v66=>recl25 x59 v66
def gM (K:Nat) (a2:List Rat) (v3:List aQ) (x18:Int):Nat→(List Rat)→Int→Option (List Rat)
 |0,_,_=>none
 |k+1,x40,x46=>bif(decide (x46<(v3.length:Int))) then((bK v3 x46).bind fun v69=>bif(v69.row==x18) then((bK v3 x46).bind fun v74=>(bK a2 x46).bind fun v76=>(bK x40 v74.kind).bind fun v78=>(nL x40 v74.kind v76).bind fun x80=>(aP (x46+1)).bind fun v83=>gM K a2 v3 x18 k x80 v83) else((aP (x46+1)).bind fun v85=>gM K a2 v3 x18 k x40 v85)) else(some x40)
def jS (K:Nat) (a0:List Rat) (a1:List aA) (a2:List Rat) (v3:List aQ):Nat→(List aF)→Int→Option (List aF)
 |0,_,_=>none
 |k+1,x12,x18=>bif(decide (x18<(a1.length:Int))) then((vC 4 0).bind fun x28=>(gM K a2 v3 x18 K x28 0).bind fun x47=>s6 K a0 a1 x12 x18 (jS K a0 a1 a2 v3 k) x47) else(some x12)
def oU (K:Nat) (a0:List Rat) (a1:List aA) (a2:List Rat):Option (List aF):=
 (iR K a0 a1).bind fun v3=>(jS K a0 a1 a2 v3 K ([]:List aF) 0).bind fun x19=>s8 K x19
def s5 (K:Nat) (x23:List Rat):Option (List Rat):=
 some x23
def eG (K:Nat) (a3:List aA) (a4:List Rat) (v3:List Rat) (v5:List aQ):Nat→(List Rat)→Int→Option (List Rat)
 |0,_,_=>none
 |k+1,x16,x22=>bif(decide (x22<(v5.length:Int))) then((bK v5 x22).bind fun v32=>(bK a3 v32.row).bind fun v34=>(bK v5 x22).bind fun v37=>bif(v37.kind==0) then((iH K v34.j v3).bind fun v40=>(qV x16 [v40]).bind fun x42=>(aP (x22+1)).bind fun v49=>eG K a3 a4 v3 v5 k x42 v49) else(bif(v37.kind==1) then((iH K v34.t v3).bind fun v54=>(aP (x22+2)).bind fun v56=>(bK a4 v56).bind fun v58=>(aBx v54 v58).bind fun v60=>(qV x16 [v60]).bind fun x62=>(aP (x22+1)).bind fun v69=>eG K a3 a4 v3 v5 k x62 v69) else(bif(v37.kind==2) then((aP (x22+1)).bind fun v74=>(bK a4 v74).bind fun v76=>(iH K v34.t v3).bind fun v78=>(aDW v76 v78).bind fun v80=>(qV x16 [v80]).bind fun x82=>(aP (x22+1)).bind fun v89=>eG K a3 a4 v3 v5 k x82 v89) else((aP (x22-3)).bind fun v93=>(bK a4 v93).bind fun v95=>(wI v34.mu v95).bind fun v97=>(aP (x22-2)).bind fun v99=>(bK a4 v99).bind fun v101=>(aP (x22-1)).bind fun v103=>(bK a4 v103).bind fun v105=>(aBx v101 v105).bind fun v107=>(aDW v97 v107).bind fun v109=>(qV x16 [v109]).bind fun x111=>(aP (x22+1)).bind fun v118=>eG K a3 a4 v3 v5 k x111 v118)))) else(some x16)
def mO (K:Nat) (a0:List aG) (a1:List Rat) (a2:List Rat) (a3:List aA) (a4:List Rat):Option (List Rat):=
 (oU K a2 a3 a4).bind fun v1=>(kQ K a0 a1 a3 v1).bind fun v3=>(iR K a2 a3).bind fun v5=>(eG K a3 a4 v3 v5 K ([]:List Rat) 0).bind fun x23=>s5 K x23
def tN (a0:List (List Rat)):Option Int:=
 bif((a0.length:Int)==0) then(some 0) else((bK a0 0).bind fun v2=>some (v2.length:Int))
def uK (K:Nat) (x17:List (List Rat)):Option (List (List Rat)):=
 some x17
def uG (K:Nat) (x10:List (List Rat)) (x16:Int) (recl23:(List (List Rat))→Int→Option (List (List Rat))) (x44:List Rat):Option (List (List Rat)):=
 (qV x10 [x44]).bind fun x52=>(aP (x16+1)).bind fun v59=>recl23 x52 v59
def k8 (K:Nat) (a0:List (List Rat)) (x16:Int):Nat→(List Rat)→Int→Option (List Rat)
 |0,_,_=>none
 |k+1,x37,x43=>bif(decide (x43<(a0.length:Int))) then((bK a0 x43).bind fun v62=>(bK v62 x16).bind fun v64=>(qV x37 [v64]).bind fun x66=>(aP (x43+1)).bind fun v73=>k8 K a0 x16 k x66 v73) else(some x37)
def kT (K:Nat) (a0:List (List Rat)):Nat→(List (List Rat))→Int→Option (List (List Rat))
 |0,_,_=>none
 |k+1,x10,x16=>(tN a0).bind fun v25=>bif(decide (x16<v25)) then((k8 K a0 x16 K ([]:List Rat) 0).bind fun x44=>uG K x10 x16 (kT K a0 k) x44) else(some x10)
def tR (K:Nat) (a0:List (List Rat)):Option (List (List Rat)):=
 (kT K a0 K ([]:List (List Rat)) 0).bind fun x17=>uK K x17
def sM (K:Nat) (v11:List Rat) (x29:List (List Rat)):Option ((List (List Rat))×(List Rat)):=
 (tR K x29).bind fun v37=>some (v37,v11)
def sJ (K:Nat) (x22:List (List Rat)) (x28:Int) (recl35:(List (List Rat))→Int→Option (List (List Rat))) (x70:List Rat):Option (List (List Rat)):=
 (qV x22 [x70]).bind fun x78=>(aP (x28+1)).bind fun v85=>recl35 x78 v85
def jB (K:Nat) (v4:List aQ) (v11:List Rat) (v52:List Rat):Nat→(List Rat)→Int→Option (List Rat)
 |0,_,_=>none
 |k+1,x63,x69=>bif(decide (x69<(v4.length:Int))) then((bK v52 x69).bind fun v90=>(bK v11 x69).bind fun v92=>(aDW v90 v92).bind fun v94=>(qV x63 [v94]).bind fun x96=>(aP (x69+1)).bind fun v103=>jB K v4 v11 v52 k x96 v103) else(some x63)
def iW (K:Nat) (a0:List aG) (a1:List Rat) (a2:List Rat) (a3:List aA) (v4:List aQ) (v11:List Rat):Nat→(List (List Rat))→Int→Option (List (List Rat))
 |0,_,_=>none
 |k+1,x22,x28=>bif(decide (x28<(v4.length:Int))) then((vC (v4.length:Int) 0).bind fun x40=>(zC 1 1).bind fun v45=>(bK x40 x28).bind fun v47=>(nL x40 x28 v45).bind fun x49=>(mO K a0 a1 a2 a3 x49).bind fun v52=>(jB K v4 v11 v52 K ([]:List Rat) 0).bind fun x70=>sJ K x22 x28 (iW K a0 a1 a2 a3 v4 v11 k) x70) else(some x22)
def rE (K:Nat) (a0:List aG) (a1:List Rat) (a2:List Rat) (a3:List aA):Option ((List (List Rat))×(List Rat)):=
 (rN K a0 a1 a2 a3).bind fun v1=>bif(!v1) then(some ([],[])) else((iR K a2 a3).bind fun v4=>(vC (v4.length:Int) 0).bind fun x6=>(mO K a0 a1 a2 a3 x6).bind fun v11=>(iW K a0 a1 a2 a3 v4 v11 K ([]:List (List Rat)) 0).bind fun x29=>sM K v11 x29)
def uX (K:Nat):Option Bool:=
 some true
def l6 (K:Nat) (a0:List Rat):Nat→Int→Option (LR Bool Unit)
 |0,_=>none
 |k+1,x2=>bif(decide (x2<(a0.length:Int))) then((bK a0 x2).bind fun v6=>(aAG v6).bind fun v8=>bif(!v8) then(some (.ret false)) else((aP (x2+1)).bind fun v11=>l6 K a0 k v11)) else(some (.go ()))
def qG (K:Nat) (a0:List Rat):Option Bool:=
 (l6 K a0 K 0).bind fun o=>match o with| .ret r=>some r| .go _=>uX K
def uB (K:Nat):Option Bool:=
 some true
def kX (K:Nat) (a0:List (List Rat)) (a1:List Rat):Nat→Int→Option (LR Bool Unit)
 |0,_=>none
 |k+1,x7=>bif(decide (x7<(a0.length:Int))) then((bK a0 x7).bind fun v11=>bif((v11.length:Int) != (a1.length:Int)) then(some (.ret false)) else((bK a0 x7).bind fun v14=>(qG K v14).bind fun v16=>bif(!v16) then(some (.ret false)) else((aP (x7+1)).bind fun v19=>kX K a0 a1 k v19))) else(some (.go ()))
def sQ (K:Nat) (a0:List (List Rat)) (a1:List Rat):Option Bool:=
 bif((a0.length:Int) != (a1.length:Int)) then(some false) else(bif(decide (32<(a1.length:Int))) then(some false) else((qG K a1).bind fun v3=>bif(!v3) then(some false) else((kX K a0 a1 K 0).bind fun o=>match o with| .ret r=>some r| .go _=>uB K)))
def sK (K:Nat):Option Bool:=
 some false
def jA (K:Nat) (a0:List Rat):Nat→Int→Option (LR Bool Unit)
 |0,_=>none
 |k+1,x2=>bif(decide (x2<(a0.length:Int))) then((bK a0 x2).bind fun v6=>(vN v6).bind fun v8=>bif(decide (v8<0)) then(some (.ret true)) else((aP (x2+1)).bind fun v11=>jA K a0 k v11)) else(some (.go ()))
def qQ (K:Nat) (a0:List Rat):Option Bool:=
 (jA K a0 K 0).bind fun o=>match o with| .ret r=>some r| .go _=>sK K
def tX (K:Nat):Option Bool:=
 some false
def hU (K:Nat) (a0:List Rat) (a1:List Rat):Nat→Int→Option (LR Bool Unit)
 |0,_=>none
 |k+1,x2=>bif(decide (x2<(a0.length:Int))) then(bif(decide (x2<(a1.length:Int))) then((bK a0 x2).bind fun v9=>(bK a1 x2).bind fun v11=>(aFQ v9 v11).bind fun v13=>bif(v13 != 0) then(some (.ret (decide (v13<0)))) else((aP (x2+1)).bind fun v16=>hU K a0 a1 k v16)) else(some (.go ()))) else(some (.go ()))
def mP (K:Nat) (a0:List Rat) (a1:List Rat):Option Bool:=
 (hU K a0 a1 K 0).bind fun o=>match o with| .ret r=>some r| .go _=>tX K
def uV (K:Nat) (x29:List Rat):Option (List Rat):=
 some x29
def l4 (K:Nat) (a0:List Rat) (a1:Int) (a2:Rat):Nat→(List Rat)→Int→Option (List Rat)
 |0,_,_=>none
 |k+1,x22,x28=>bif(decide (x28<a1)) then((bK a0 x28).bind fun v40=>(aFf v40 a2).bind fun v42=>(qV x22 [v42]).bind fun x44=>(aP (x28+1)).bind fun v51=>l4 K a0 a1 a2 k x44 v51) else(some x22)
def mV (K:Nat) (a0:List Rat) (a1:Int) (a2:Rat):Option (List Rat):=
 (aP (2*a1)).bind fun v4=>(aP (v4+1)).bind fun v6=>(bK a0 v6).bind fun v8=>(aFf v8 a2).bind fun v10=>(l4 K a0 a1 a2 K [v10] 0).bind fun x29=>uV K x29
def t5 (K:Nat) (x41:List (List Rat)):Option (List (List Rat)):=
 some x41
def tU (K:Nat) (x34:List (List Rat)) (x40:Int) (recl47:(List (List Rat))→Int→Option (List (List Rat))) (x76:List Rat):Option (List (List Rat)):=
 (qV x34 [x76]).bind fun x84=>(aP (x40+1)).bind fun v91=>recl47 x84 v91
def kN (K:Nat) (a0:List (List Rat)) (a2:Int) (x17:List Rat) (x40:Int):Nat→(List Rat)→Int→Option (List Rat)
 |0,_,_=>none
 |k+1,x69,x75=>bif(decide (x75<(x17.length:Int))) then((bK a0 x40).bind fun v96=>(bK v96 x75).bind fun v98=>(bK a0 x40).bind fun v100=>(bK v100 a2).bind fun v102=>(bK x17 x75).bind fun v104=>(wI v102 v104).bind fun v106=>(aDW v98 v106).bind fun v108=>(qV x69 [v108]).bind fun x110=>(aP (x75+1)).bind fun v117=>kN K a0 a2 x17 x40 k x110 v117) else(some x69)
def fW (K:Nat) (a0:List (List Rat)) (a1:Int) (a2:Int) (x17:List Rat):Nat→(List (List Rat))→Int→Option (List (List Rat))
 |0,_,_=>none
 |k+1,x34,x40=>bif(decide (x40<(a0.length:Int))) then(bif(x40==a1) then((qV x34 [x17]).bind fun x51=>(aP (x40+1)).bind fun v58=>fW K a0 a1 a2 x17 k x51 v58) else((kN K a0 a2 x17 x40 K ([]:List Rat) 0).bind fun x76=>tU K x34 x40 (fW K a0 a1 a2 x17 k) x76)) else(some x34)
def tT (K:Nat) (a0:List (List Rat)) (a1:Int) (a2:Int) (x17:List Rat):Option (List (List Rat)):=
 (fW K a0 a1 a2 x17 K ([]:List (List Rat)) 0).bind fun x41=>t5 K x41
def kJ (K:Nat) (a0:List (List Rat)) (a1:Int) (a2:Int):Nat→(List Rat)→Int→Option (List Rat)
 |0,_,_=>none
 |k+1,x10,x16=>(bK a0 a1).bind fun v119=>bif(decide (x16<(v119.length:Int))) then((bK a0 a1).bind fun v124=>(bK v124 x16).bind fun v126=>(bK a0 a1).bind fun v128=>(bK v128 a2).bind fun v130=>(aFf v126 v130).bind fun v132=>(qV x10 [v132]).bind fun x134=>(aP (x16+1)).bind fun v141=>kJ K a0 a1 a2 k x134 v141) else(some x10)
def sN (K:Nat) (a0:List (List Rat)) (a1:Int) (a2:Int):Option (List (List Rat)):=
 (kJ K a0 a1 a2 K ([]:List Rat) 0).bind fun x17=>tT K a0 a1 a2 x17
def xY (K:Nat):Option (aM×Int):=
 none
def s9 (K:Nat) (v95:Int) (x155:List Rat) (x161:List Rat):Option (LR (aM×Int) Unit):=
 some (.ret ((⟨x161,x155,v95⟩:aM),0))
def fO (K:Nat) (a1:List Rat) (v93:List (List Rat)) (x101:List Int):Nat→(List Rat)→(List Rat)→Int→Option ((List Rat)×(List Rat))
 |0,_,_,_=>none
 |k+1,x142,x148,x154=>bif(decide (x154<(a1.length:Int))) then((bK x101 x154).bind fun v170=>bif(decide (v170<(a1.length:Int))) then((bK x101 x154).bind fun v175=>(bK v93 x154).bind fun v177=>(aP (2*(a1.length:Int))).bind fun v179=>(aP (v179+1)).bind fun v181=>(bK v177 v181).bind fun v183=>(bK x142 v175).bind fun v185=>(nL x142 v175 v183).bind fun x187=>(aP (x154+1)).bind fun v190=>fO K a1 v93 x101 k x187 x148 v190) else((bK x101 x154).bind fun v194=>(aP (v194-(a1.length:Int))).bind fun v196=>(bK v93 x154).bind fun v198=>(aP (2*(a1.length:Int))).bind fun v200=>(aP (v200+1)).bind fun v202=>(bK v198 v202).bind fun v204=>(bK x148 v196).bind fun v206=>(nL x148 v196 v204).bind fun x208=>(aP (x154+1)).bind fun v211=>fO K a1 v93 x101 k x142 x208 v211)) else(some (x142,x148))
def tB (K:Nat) (v93:List (List Rat)) (v95:Int) (x101:List Int) (v217:Int) (recl90:(List Int)→(List (List Rat))→Int→Int→Int→Option (LR (aM×Int) Unit)) (x223:Int):Option (LR (aM×Int) Unit):=
 bif(decide (x223<0)) then(some (.ret ((⟨([]:List Rat),([]:List Rat),0⟩:aM),15))) else(recl90 x101 v93 x223 v217 v95)
def eF (K:Nat) (a1:List Rat) (v93:List (List Rat)) (v217:Int):Nat→Int→Int→Option Int
 |0,_,_=>none
 |k+1,x221,x222=>bif(decide (x222<(a1.length:Int))) then((bK v93 x222).bind fun v228=>(bK v228 v217).bind fun v230=>(vN v230).bind fun v232=>bif(decide (v232≤0)) then((aP (x222+1)).bind fun v235=>eF K a1 v93 v217 k x221 v235) else(bif(decide (x221<0)) then((aP (x222+1)).bind fun v240=>eF K a1 v93 v217 k x222 v240) else((bK v93 x222).bind fun v242=>(bK v93 x222).bind fun v244=>(bK v244 v217).bind fun v246=>(mV K v242 (a1.length:Int) v246).bind fun v248=>(bK v93 x221).bind fun v250=>(bK v93 x221).bind fun v252=>(bK v252 v217).bind fun v254=>(mV K v250 (a1.length:Int) v254).bind fun v256=>(mP K v248 v256).bind fun v258=>bif v258 then((aP (x222+1)).bind fun v261=>eF K a1 v93 v217 k x222 v261) else((aP (x222+1)).bind fun v263=>eF K a1 v93 v217 k x221 v263)))) else(some x221)
def kL (K:Nat) (a1:List Rat) (a2:Int):Nat→(List Int)→(List (List Rat))→Int→Int→Int→Option (LR (aM×Int) Unit)
 |0,_,_,_,_,_=>none
 |k+1,x80,x86,x87,x88,x89=>bif(x89==a2) then(some (.ret ((⟨([]:List Rat),([]:List Rat),0⟩:aM),16))) else((sN K x86 x87 x88).bind fun v93=>(aP (x89+1)).bind fun v95=>(bK x80 x87).bind fun v97=>(bK x80 x87).bind fun v99=>(nL x80 x87 x88).bind fun x101=>(aP (2*(a1.length:Int))).bind fun v104=>bif(v97==v104) then((vC (a1.length:Int) 0).bind fun x109=>(vC (a1.length:Int) 0).bind fun x113=>(fO K a1 v93 x101 K x113 x109 0).bind fun(x155,x161)=>s9 K v95 x155 x161) else((aP (v97+(a1.length:Int))).bind fun v213=>(aP (2*(a1.length:Int))).bind fun v215=>(u8 v213 v215).bind fun v217=>(eF K a1 v93 v217 K (-1) 0).bind fun x223=>tB K v93 v95 x101 v217 (kL K a1 a2 k) x223))
def tY (K:Nat) (a1:List Rat) (a2:Int) (x47:List Int) (x53:List (List Rat)) (x65:Int):Option (aM×Int):=
 (aP (2*(a1.length:Int))).bind fun v68=>(kL K a1 a2 K x47 x53 x65 v68 0).bind fun o=>match o with| .ret r=>some r| .go _=>xY K
def gZ (K:Nat) (a1:List Rat) (v14:Rat) (x53:List (List Rat)):Nat→Int→Int→Option Int
 |0,_,_=>none
 |k+1,x63,x64=>bif(decide (x64<(a1.length:Int))) then((bK x53 x64).bind fun v268=>(mV K v268 (a1.length:Int) v14).bind fun v270=>(bK x53 x63).bind fun v272=>(mV K v272 (a1.length:Int) v14).bind fun v274=>(mP K v270 v274).bind fun v276=>bif v276 then((aP (x64+1)).bind fun v279=>gZ K a1 v14 x53 k x64 v279) else((aP (x64+1)).bind fun v281=>gZ K a1 v14 x53 k x63 v281)) else(some x63)
def t0 (K:Nat) (a1:List Rat) (a2:Int) (v14:Rat) (x47:List Int) (x53:List (List Rat)):Option (aM×Int):=
 (gZ K a1 v14 x53 K 0 1).bind fun x65=>tY K a1 a2 x47 x53 x65
def sY (K:Nat) (a1:List Rat) (x34:List Int) (x40:List (List Rat)) (x46:Int) (recl59:(List Int)→(List (List Rat))→Int→Option ((List Int)×(List (List Rat)))) (x312:List Rat):Option ((List Int)×(List (List Rat))):=
 (aP (2*(a1.length:Int))).bind fun v320=>(zC (-1) 1).bind fun v322=>(bK x312 v320).bind fun v324=>(nL x312 v320 v322).bind fun x326=>(aP (2*(a1.length:Int))).bind fun v329=>(aP (v329+1)).bind fun v331=>(bK a1 x46).bind fun v333=>(bK x326 v331).bind fun v335=>(nL x326 v331 v333).bind fun x337=>(qV x40 [x337]).bind fun x340=>(qV x34 [x46]).bind fun x347=>(aP (x46+1)).bind fun v354=>recl59 x347 x340 v354
def jX (K:Nat) (a0:List (List Rat)) (a1:List Rat) (x46:Int):Nat→(List Rat)→Int→Option (List Rat)
 |0,_,_=>none
 |k+1,x305,x311=>bif(decide (x311<(a1.length:Int))) then((aP ((a1.length:Int)+x311)).bind fun v357=>(bK a0 x46).bind fun v359=>(bK v359 x311).bind fun v361=>(aA4 v361).bind fun v363=>(bK x305 v357).bind fun v365=>(nL x305 v357 v363).bind fun x367=>(aP (x311+1)).bind fun v370=>jX K a0 a1 x46 k x367 v370) else(some x305)
def kI (K:Nat) (a0:List (List Rat)) (a1:List Rat) (v14:Rat):Nat→(List Int)→(List (List Rat))→Int→Option ((List Int)×(List (List Rat)))
 |0,_,_,_=>none
 |k+1,x34,x40,x46=>bif(decide (x46<(a1.length:Int))) then((aP (2*(a1.length:Int))).bind fun v284=>(aP (v284+2)).bind fun v286=>(vC v286 0).bind fun x288=>(bK x288 x46).bind fun v293=>(nL x288 x46 v14).bind fun x295=>(jX K a0 a1 x46 K x295 0).bind fun x312=>sY K a1 x34 x40 x46 (kI K a0 a1 v14 k) x312) else(some (x34,x40))
def pL (K:Nat) (a0:List (List Rat)) (a1:List Rat) (a2:Int):Option (aM×Int):=
 (sQ K a0 a1).bind fun v2=>bif(!v2) then(some ((⟨([]:List Rat),([]:List Rat),0⟩:aM),1)) else(bif(decide (a2<0)) then(some ((⟨([]:List Rat),([]:List Rat),0⟩:aM),1)) else((qQ K a1).bind fun v6=>bif(!v6) then((vC (a1.length:Int) 0).bind fun x9=>some ((⟨x9,a1,0⟩:aM),0)) else((zC 1 1).bind fun v14=>(kI K a0 a1 v14 K ([]:List Int) ([]:List (List Rat)) 0).bind fun(x47,x53)=>t0 K a1 a2 v14 x47 x53)))
def sR (K:Nat) (a0:List aG) (a1:List Rat) (a2:List Rat) (a3:List aA):Option ((List Rat)×(List aF)×Int):=
 (rN K a0 a1 a2 a3).bind fun v1=>bif(!v1) then(some ([],[],1)) else((iR K a2 a3).bind fun v4=>bif(decide (32<(v4.length:Int))) then(some ([],[],4)) else((rE K a0 a1 a2 a3).bind fun v7=>(pL K v7.1 v7.2 4096).bind fun v9=>bif(v9.2 != 0) then(some ([],[],v9.2)) else((oU K a2 a3 v9.1.z).bind fun v13=>(kQ K a0 a1 a3 v13).bind fun v15=>some (v15,v13,0))))
end Go.Proofs.YtcjdedkdoagifaaGreat
set_option linter.unusedVariables false
set_option maxRecDepth 100000
namespace Go.Proofs.YtcjdedkdoagifaaGreat
end Go.Proofs.YtcjdedkdoagifaaGreat
set_option linter.unusedVariables false
namespace Go.Proofs.YtcjdedkdoagifaaGreat
theorem aBY {x m:Int} (hx:-9223372036854775808≤x∧x≤9223372036854775807) (hm:0<m):∃r,iE x m=some r∧0≤r∧r<m:=by
 unfold iE
 by_cases h:x<0
 ·refine⟨(-(x+1))%m,?_,Int.emod_nonneg _ (by omega),Int.emod_lt_of_pos _ hm⟩
  rw [dT h,bW,kD (by omega),oB,kD (by omega),oB,mM (by omega) hm,oB]
 ·refine⟨x%m,?_,Int.emod_nonneg _ (by omega),Int.emod_lt_of_pos _ hm⟩
  rw [dF h,bN,mM (by omega) hm,oB]
theorem aAN {l:List Int} (hl:aGp l) (i:Int) {m:Int} (hm:0<m):∃r,bG l i m=some r∧0≤r∧r<m:=by
 unfold bG
 by_cases h:i<0
 ·exact⟨0,by rw [dT h,bW],by omega,hm⟩
 ·rw [dF h,bN]
  by_cases h2:(l.length:Int)≤i
  ·exact⟨0,by rw [dT h2,bW],by omega,hm⟩
  ·rw [dF h2,bN]
   obtain⟨n,rfl⟩:∃n:Nat,i=n:=⟨i.toNat,by omega⟩
   obtain⟨x,hx,_,hr⟩:=rdM (xs:=l) (i:=n) (by omega)
   obtain⟨r,h3,h4,h5⟩:=aBY (hl x hx) hm
   exact⟨r,by rw [hr,oB,h3,oB],h4,h5⟩
theorem aB6 {a m:Int} (h:0≤a) (hm:0<m):0≤a%m∧a%m<m:=⟨Int.emod_nonneg _ (by omega),Int.emod_lt_of_pos _ hm⟩
def u7 (k:Nat) (xs:List Rat):Prop:=∀x∈xs,Bd k x
theorem u7.snoc {k:Nat} {xs:List Rat} {x:Rat} (h:u7 k xs) (hx:Bd k x):u7 k (xs++[x]):=fun y hy=>by
 rcases List.mem_append.1 hy with h1|h1
 ·exact h y h1
 ·rw [List.mem_singleton.1 h1];exact hx
theorem apS {α:Type} {xs:List α} {x:α} (h:xs.length≤60000000000):qV xs [x]=some (xs++[x]):=aAj (by simp;omega)
theorem aOC {p q:Int} (hp:p≠0) (hq:q≠0):(p:Rat)/q≠0:=by
 rw [←Rat.divInt_eq_div]
 intro h
 have:=congrArg Rat.num h
 rw [Rat.num_divInt] at this
 have e:(0:Rat).num=0:=rfl
 rw [e] at this
 obtain⟨c,hc⟩:=Int.gcd_dvd_right (a:=q) (b:=p)
 have hg:0<Int.gcd q p:=Int.gcd_pos_of_ne_zero_left p hq
 have h2:q.sign*p/((Int.gcd q p:Nat):Int)=q.sign*c:=by
  conv=>lhs;rw [hc]
  rw [←Int.mul_assoc,Int.mul_comm q.sign,Int.mul_assoc]
  have:((q.gcd (((q.gcd p:Nat):Int)*c):Nat):Int)=((q.gcd p:Nat):Int):=by rw [←hc]
  rw [this]
  exact Int.mul_ediv_cancel_left _ (by omega)
 rw [h2] at this
 rcases Int.mul_eq_zero.1 this with h3|h3
 ·exact hq (Int.sign_eq_zero_iff_zero.1 h3)
 ·subst h3;rw [Int.mul_zero] at hc;exact hp hc
theorem rdD {α:Type} {xs:List α} {i:Nat} (d:α) (h:i<xs.length):bK xs (i:Int)=some (xs.getD i d):=by
 rw [rdG (x:=xs.getD i d)]
 simp [List.getD_eq_getElem?_getD,h]
def qK (l:List Rat) (i:Nat):Rat:=l.getD i 0
theorem aDU {l:List Rat} {i:Nat} (h:i<l.length):bK l (i:Int)=some (qK l i):=rdD _ h
theorem tP {l:List Rat} {i:Nat} (h:i<l.length):qK l i∈l:=by
 have:qK l i=l[i]:=by unfold qK;simp [List.getD_eq_getElem?_getD,h]
 rw [this];exact List.getElem_mem h
theorem aOS:((1:Int):Rat)/((1:Int):Rat)=1:=by decide+kernel
def mp {α:Type} (g:Nat→α) (n:Nat):List α:=(List.range n).map g
theorem zH {α:Type} (g:Nat→α):mp g 0=[]:=rfl
theorem aCA {α:Type} (g:Nat→α) (n:Nat):mp g (n+1)=mp g n++[g n]:=by unfold mp;rw [List.range_succ,List.map_append];rfl
theorem cB {α:Type} (g:Nat→α) (n:Nat):(mp g n).length=n:=by simp [mp]
theorem z5 {α:Type} {g:Nat→α} {n i:Nat} (h:i<n):(mp g n)[i]?=some (g i):=by simp [mp,h]
theorem aAT {g:Nat→Rat} {n i:Nat} (h:i<n):qK (mp g n) i=g i:=by
 unfold qK mp
 simp [List.getD_eq_getElem?_getD,h]
theorem z6 {g:Nat→Rat} {n k:Nat} (h:∀i,i<n→Bd k (g i)):u7 k (mp g n):=fun x hx=>by
 obtain⟨i,hi,rfl⟩:=List.mem_map.1 hx
 exact h i (List.mem_range.1 hi)
theorem apM {α:Type} {g:Nat→α} {i:Nat} (h:i≤1000000):qV (mp g i) [g i]=some (mp g (i+1)):=by rw [aCA];exact apS (by rw [cB];omega)
theorem bV {α:Type} {f g:Nat→α} {n:Nat} (h:∀i,i<n→f i=g i):mp f n=mp g n:=by
 unfold mp
 exact List.map_congr_left fun i hi=>h i (List.mem_range.1 hi)
def jI {α:Type} (f:Nat→α) (i:Nat) (v:α) (j:Nat):α:=if j=i then v else f j
theorem bD {α:Type} {f:Nat→α} {i:Nat} {v:α}:jI f i v i=v:=if_pos rfl
theorem cZ {α:Type} {f:Nat→α} {i j:Nat} {v:α} (h:j≠i):jI f i v j=f j:=if_neg h
theorem aMh {α:Type} {f:Nat→α} {n i:Nat} {v:α}:(mp f n).set i v=mp (jI f i v) n:=by
 apply List.ext_getElem?
 intro j
 by_cases hj:j<n
 ·rw [List.getElem?_set,z5 hj,cB,z5 hj]
  by_cases he:i=j
  ·subst he;rw [if_pos rfl,if_pos hj,bD]
  ·rw [if_neg he,cZ (by omega)]
 ·rw [List.getElem?_eq_none (by simp [mp];omega),List.getElem?_eq_none (by simp [mp];omega)]
theorem dW {α:Type} {f:Nat→α} {n i:Nat} (h:i<n):bK (mp f n) (i:Int)=some (f i):=rdG (z5 h)
theorem rF {α:Type} {f:Nat→α} {n i:Nat} {v:α} (h:i<n):nL (mp f n) (i:Int) v=some (mp (jI f i v) n):=by
 rw [stG (by rw [cB];exact h),aMh]
theorem aLL {α:Type} (z:α):∀n,List.replicate n z=mp (fun _=>z) n
 |0=>rfl
 |n+1=>by rw [aCA,←aLL z n,List.replicate_succ']
theorem aAx {α:Type} {n:Nat} {z:α} (h:n≤68719476736):vC (n:Int) z=some (mp (fun _=>z) n):=by rw [yZ h,aLL]
theorem aKD (l:List Rat):l=mp (qK l) l.length:=by
 apply List.ext_getElem?
 intro j
 by_cases hj:j<l.length
 ·rw [z5 hj];simp [qK,hj]
 ·rw [List.getElem?_eq_none (by omega),List.getElem?_eq_none (by simp [mp];omega)]
theorem mF {i:Nat} (h:i≤1000000000):aP ((i:Int)+1)=some ((i+1:Nat):Int):=zG (m:=0) (n:=i+1) (by omega) (by omega)
theorem aFo {a:Rat}:a.num.sign=0↔a=0:=by rw [Int.sign_eq_zero_iff_zero,Rat.num_eq_zero]
def sm (f:Nat→Rat):Nat→Rat
 |0=>0
 |n+1=>sm f n+f n
end Go.Proofs.YtcjdedkdoagifaaGreat
set_option linter.unusedVariables false
namespace Go.Proofs.YtcjdedkdoagifaaGreat
/-- A matrix of h rows and w columns. -/
def mx (g:Nat→Nat→Rat) (h w:Nat):List (List Rat):=mp (fun i=>mp (g i) w) h
theorem aLQ {g g':Nat→Nat→Rat} {h w:Nat} (e:∀i c,i<h→c<w→g i c=g' i c):mx g h w=mx g' h w:=
 bV fun i hi=>bV fun c hc=>e i c hi hc
theorem aO9 {g:Nat→Nat→Rat} {h w i:Nat} {f:Nat→Rat}:mp (jI (fun i=>mp (g i) w) i (mp f w)) h=mx (jI g i f) h w:=by
 refine bV fun j _=>?_
 unfold jI
 split<;>rfl
theorem aA2 {g:Nat→Nat→Rat} {h w i:Nat} (hi:i<h):bK (mx g h w) (i:Int)=some (mp (g i) w):=dW hi
theorem tS {g:Nat→Nat→Rat} {h w:Nat}:(mx g h w).length=h:=cB _ _
def Bdx (h w b:Nat) (g:Nat→Nat→Rat):Prop:=∀i c,i<h→c<w→Bd b (g i c)
theorem Bdx.mono {h w b b':Nat} {g:Nat→Nat→Rat} (hg:Bdx h w b g) (hb:b≤b'):Bdx h w b' g:=fun i c hi hc=>(hg i c hi hc).mono hb
def piv (g:Nat→Nat→Rat) (k:Nat):Nat→Nat→Nat
 |0,i=>i
 |t+1,i=>if g i k=0 then piv g k t (i+1) else i
theorem aHw {g:Nat→Nat→Rat} {k:Nat}:∀(t i:Nat),i≤piv g k t i∧piv g k t i≤i+t
 |0,i=>⟨Nat.le_refl _,Nat.le_refl _⟩
 |t+1,i=>by
  have h:=aHw (g:=g) (k:=k) t (i+1)
  unfold piv
  split<;>omega
theorem aN2 {g:Nat→Nat→Rat} {k:Nat}:∀(t i j:Nat),i≤j→j<piv g k t i→g j k=0
 |0,i,j,h1,h2=>by simp only [piv] at h2;omega
 |t+1,i,j,h1,h2=>by
  unfold piv at h2
  split at h2
  ·rename_i hz
   by_cases he:j=i
   ·rw [he];exact hz
   ·exact aN2 t (i+1) j (by omega) h2
  ·omega
theorem aMj {g:Nat→Nat→Rat} {k:Nat}:∀(t i:Nat),piv g k t i<i+t→g (piv g k t i) k≠0
 |0,i,h=>by simp only [piv] at h;omega
 |t+1,i,h=>by
  unfold piv at h ⊢
  split at h
  ·rename_i hz
   rw [if_pos hz]
   exact aMj t (i+1) (by omega)
  ·rename_i hz
   rw [if_neg hz];exact hz
def yD (g:Nat→Nat→Rat) (n at0 i:Nat):Nat→Rat:=g (if i=n then at0 else if i=at0 then n else i)
def pr (g:Nat→Nat→Rat) (at0 k c:Nat):Rat:=g at0 c/g at0 k
def stp (g:Nat→Nat→Rat) (n at0 k i c:Nat):Rat:=if i=n then pr g at0 k c else yD g n at0 i c-yD g n at0 i k*pr g at0 k c
structure RS where
 ps:List Nat
 g:Nat→Nat→Rat
 d:Rat
def aFe (h k:Nat) (s:RS):RS:=
 if piv s.g k (h-s.ps.length) s.ps.length=h then s
 else⟨s.ps++[k],stp s.g s.ps.length (piv s.g k (h-s.ps.length) s.ps.length) k,(if piv s.g k (h-s.ps.length) s.ps.length=s.ps.length then s.d else -s.d)*s.g (piv s.g k (h-s.ps.length) s.ps.length) k⟩
def red (g:Nat→Nat→Rat) (h:Nat):Nat→RS
 |0=>⟨[],g,1⟩
 |k+1=>aFe h k (red g h k)
theorem aFA {h n at0 i:Nat} (hn:n<h) (ha:at0<h) (hi:i<h):(if i=n then at0 else if i=at0 then n else i)<h:=by split;exact ha;split;exact hn;exact hi
end Go.Proofs.YtcjdedkdoagifaaGreat
set_option linter.unusedVariables false
namespace Go.Proofs.YtcjdedkdoagifaaGreat
/-- The rows that the list of indices names, in a pool of rows. -/
structure Rep (ι:Nat→Nat) (pool:List (List Rat)) (g:Nat→Nat→Rat) (h w:Nat):Prop where
 inj:∀i j,i<h→j<h→ι i=ι j→i=j
 lt:∀i,i<h→ι i<pool.length
 el:∀i,i<h→pool.getD (ι i) []=mp (g i) w
theorem Rep.set {ι:Nat→Nat} {pool:List (List Rat)} {g:Nat→Nat→Rat} {h w i:Nat} (r:Rep ι pool g h w) (hi:i<h) (f:Nat→Rat):Rep ι (pool.set (ι i) (mp f w)) (jI g i f) h w:=by
 refine⟨r.inj,fun j hj=>by rw [List.length_set];exact r.lt j hj,fun j hj=>?_⟩
 rw [List.getD_eq_getElem?_getD,List.getElem?_set]
 by_cases he:j=i
 ·subst he
  rw [if_pos rfl,if_pos (r.lt j hj),bD];rfl
 ·rw [if_neg (fun h=>he (r.inj j i hj hi h.symm)),←List.getD_eq_getElem?_getD,r.el j hj,cZ he]
theorem Rep.congr {ι:Nat→Nat} {pool:List (List Rat)} {g g':Nat→Nat→Rat} {h w:Nat} (r:Rep ι pool g h w) (e:∀i c,i<h→c<w→g i c=g' i c):Rep ι pool g' h w:=
 ⟨r.inj,r.lt,fun i hi=>by rw [r.el i hi];exact bV fun c hc=>e i c hi hc⟩
theorem Rep.sel {ι:Nat→Nat} {pool:List (List Rat)} {g:Nat→Nat→Rat} {h w:Nat} (r:Rep ι pool g h w):aD0 pool (mp ι h)=mx g h w:=by
 unfold aD0 mx
 apply List.ext_getElem?
 intro j
 by_cases hj:j<h
 ·rw [List.getElem?_map,z5 hj,z5 hj,←r.el j hj];rfl
 ·rw [List.getElem?_map,List.getElem?_eq_none (by simp [mp];omega),List.getElem?_eq_none (by simp [mp];omega)];rfl
theorem Rep.swap {ι:Nat→Nat} {pool:List (List Rat)} {g:Nat→Nat→Rat} {h w n a:Nat} (r:Rep ι pool g h w) (hn:n<h) (ha:a<h) (hne:n≠a):Rep (jI (jI ι n (ι a)) a (ι n)) pool (yD g n a) h w:=by
 have key:∀i,jI (jI ι n (ι a)) a (ι n) i=ι (if i=n then a else if i=a then n else i):=fun i=>by
  unfold jI
  by_cases h1:i=n
  ·rw [if_pos h1,if_neg (by omega),if_pos h1]
  ·rw [if_neg h1]
   by_cases h2:i=a
   ·rw [if_pos h2,if_pos h2,if_neg h1]
   ·rw [if_neg h2,if_neg h1,if_neg h2]
 refine⟨fun i j hi hj e=>?_,fun i hi=>?_,fun i hi=>?_⟩
 ·rw [key,key] at e
  have:=r.inj _ _ (aFA hn ha hi) (aFA hn ha hj) e
  split at this<;>split at this<;>(try split at this)<;>(try split at this)<;>omega
 ·rw [key];exact r.lt _ (aFA hn ha hi)
 ·rw [key];exact r.el _ (aFA hn ha hi)
def mid (f e:Nat→Rat) (c j:Nat):Rat:=if j<c then f j else e j
theorem aMx {α:Type} {g:Nat→α} {i:Nat} {x y:α}:jI (jI g i x) i y=jI g i y:=by
 funext j
 unfold jI
 split<;>rfl
end Go.Proofs.YtcjdedkdoagifaaGreat
set_option linter.unusedVariables false
namespace Go.Proofs.YtcjdedkdoagifaaGreat
/-- A list of numbers read by index. -/
def pat (ps:List Nat) (i:Nat):Nat:=ps.getD i 0
def Cok (h w:Nat):Prop:=h=0→w=0
theorem aGP {g:Nat→Nat→Rat} {h w:Nat} (hc:Cok h w):tN (mx g h w)=some (w:Int):=by
 by_cases h0:h=0
 ·subst h0
  rw [hc rfl];rfl
 ·have r0:=aA2 (g:=g) (w:=w) (show 0<h by omega)
  simp only [Int.natCast_zero] at r0
  simp only [tN,tS,qF (show¬(h:Int)=0 by omega),bN,r0,oB,cB]
end Go.Proofs.YtcjdedkdoagifaaGreat
set_option linter.unusedVariables false
namespace Go.Proofs.YtcjdedkdoagifaaGreat
theorem aFF (f g:Nat→Rat) (a:Rat):∀n,sm (fun c=>f c-a*g c) n=sm f n-a*sm g n
 |0=>by simp only [sm];grind
 |n+1=>by
  have ih:=aFF f g a n
  simp only [sm]
  rw [ih];grind
theorem aGr (f:Nat→Rat) (a:Rat):∀n,sm (fun c=>f c*a) n=sm f n*a
 |0=>by simp only [sm];grind
 |n+1=>by
  have ih:=aGr f a n
  simp only [sm]
  rw [ih];grind
theorem iY {f g:Nat→Rat}:∀{n:Nat},(∀i,i<n→f i=g i)→sm f n=sm g n
 |0,_=>rfl
 |n+1,h=>by
  simp only [sm]
  rw [iY fun i hi=>h i (by omega),h n (by omega)]
theorem aE5 {f:Nat→Rat} {n:Nat} (h:∀i,i<n→f i=0):sm f n=0:=by
 rw [iY (g:=fun _=>0) h]
 induction n with
 |zero=>rfl
 |succ n ih=>simp only [sm];rw [ih fun i hi=>h i (by omega)];grind
theorem aLZ {f:Nat→Rat} {n p:Nat} (hp:p<n) (h:∀i,i<n→i≠p→f i=0):sm f n=f p:=by
 induction n with
 |zero=>omega
 |succ n ih=>
  simp only [sm]
  by_cases he:p=n
  ·rw [aE5 fun i hi=>h i (by omega) (by omega),he];grind
  ·rw [ih (by omega) fun i hi hne=>h i (by omega) hne,h n (by omega) (by omega)];grind
theorem aHR (f g:Nat→Rat):∀n,sm (fun c=>f c+g c) n=sm f n+sm g n
 |0=>by simp only [sm];grind
 |n+1=>by
  have ih:=aHR f g n
  simp only [sm]
  rw [ih];grind
structure RJ (h k:Nat) (s:RS):Prop where
 ph:s.ps.length≤h
 pk:∀i,i<s.ps.length→pat s.ps i<k
 z:∀i c,s.ps.length≤i→i<h→c<k→s.g i c=0
 one:∀i i',i<s.ps.length→i'<h→s.g i' (pat s.ps i)=if i'=i then 1 else 0
 lead:∀i c,i<s.ps.length→c<pat s.ps i→s.g i c=0
 inc:∀i j,i<j→j<s.ps.length→pat s.ps i<pat s.ps j
 gap:∀c,c<k→c∉s.ps→∀i,i<s.ps.length→c<pat s.ps i→s.g i c=0
theorem aAp {ps:List Nat} {k i:Nat} (h:i<ps.length):pat (ps++[k]) i=pat ps i:=by
 unfold pat
 rw [List.getD_eq_getElem?_getD,List.getD_eq_getElem?_getD,List.getElem?_append_left h]
theorem aCy {ps:List Nat} {k:Nat}:pat (ps++[k]) ps.length=k:=by
 unfold pat
 rw [List.getD_eq_getElem?_getD,List.getElem?_append_right (Nat.le_refl _),Nat.sub_self];rfl
theorem aLe {h k:Nat} {s:RS} (hs:RJ h k s):RJ h (k+1) (aFe h k s):=by
 have hp:=aHw (g:=s.g) (k:=k) (h-s.ps.length) s.ps.length
 have hph:=hs.ph
 unfold aFe
 split
 ·rename_i hat
  refine⟨hs.ph,fun i hi=>Nat.lt_succ_of_lt (hs.pk i hi),fun i c hi hh hc=>?_,hs.one,hs.lead,hs.inc,fun c _ _ i hi hlt=>hs.lead i c hi hlt⟩
  by_cases he:c=k
  ·subst he;exact aN2 (h-s.ps.length) s.ps.length i hi (by omega)
  ·exact hs.z i c hi hh (by omega)
 ·rename_i hat
  have hlt:piv s.g k (h-s.ps.length) s.ps.length<h:=by omega
  have hne:=aMj (g:=s.g) (k:=k) (h-s.ps.length) s.ps.length (by omega)
  generalize ha:piv s.g k (h-s.ps.length) s.ps.length=at0 at *
  have hz:∀c,c<k→s.g at0 c=0:=fun c hc=>hs.z at0 c hp.1 hlt hc
  have hpr:∀c,c<k→pr s.g at0 k c=0:=fun c hc=>by unfold pr;rw [hz c hc,Rat.div_def,Rat.zero_mul]
  have hprk:pr s.g at0 k k=1:=by unfold pr;rw [Rat.div_def,Rat.mul_inv_cancel _ hne]
  have hswz:∀i c,s.ps.length<i→i<h→c<k→yD s.g s.ps.length at0 i c=0:=fun i c hi hih hc=>by
   unfold yD
   rw [if_neg (by omega)]
   split
   ·exact hs.z _ c (Nat.le_refl _) (by omega) hc
   ·exact hs.z _ c (by omega) hih hc
  have hsw:∀i c,i<s.ps.length→yD s.g s.ps.length at0 i c=s.g i c:=fun i c hi=>by
   unfold yD
   rw [if_neg (by omega),if_neg (by omega)]
  have hlead:∀i c,i<s.ps.length+1→c<pat (s.ps++[k]) i→stp s.g s.ps.length at0 k i c=0:=fun i c hi hc=>by
   by_cases he:i=s.ps.length
   ·subst he
    rw [aCy] at hc
    unfold stp
    rw [if_pos rfl];exact hpr c hc
   ·have hi':i<s.ps.length:=by omega
    rw [aAp hi'] at hc
    unfold stp
    rw [if_neg he,hsw i c hi',hsw i k hi',hs.lead i c hi' hc,hpr c (by have:=hs.pk i hi';omega)]
    grind
  refine⟨by simp only [List.length_append,List.length_singleton];omega,fun i hi=>?_,fun i c hi hh hc=>?_,fun i i' hi hi'=>?_,fun i c hi hc=>hlead i c (by simpa using hi) hc,fun i j hij hj=>?_,fun c _ _ i hi hlt=>hlead i c (by simpa using hi) hlt⟩
  ·simp only [List.length_append,List.length_singleton] at hi
   by_cases he:i=s.ps.length
   ·subst he;simp only [aCy];omega
   ·simp only [aAp (show i<s.ps.length by omega)]
    have:=hs.pk i (by omega);omega
  ·simp only [List.length_append,List.length_singleton] at hi
   show stp s.g s.ps.length at0 k i c=0
   unfold stp
   rw [if_neg (by omega)]
   by_cases he:c=k
   ·subst he
    rw [hprk,Rat.mul_one,Rat.sub_self]
   ·rw [hswz i c (by omega) hh (by omega),hpr c (by omega)]
    grind
  ·simp only [List.length_append,List.length_singleton] at hi
   show stp s.g s.ps.length at0 k i' (pat (s.ps++[k]) i)=_
   unfold stp
   by_cases he:i=s.ps.length
   ·subst he
    rw [aCy]
    by_cases e2:i'=s.ps.length
    ·rw [if_pos e2,if_pos e2,hprk]
    ·rw [if_neg e2,if_neg e2,hprk,Rat.mul_one,Rat.sub_self]
   ·have hi2:i<s.ps.length:=by omega
    rw [aAp hi2,hpr _ (hs.pk i hi2)]
    by_cases e2:i'=s.ps.length
    ·rw [if_pos e2,if_neg (by omega)]
    ·rw [if_neg e2]
     by_cases e3:i'<s.ps.length
     ·rw [hsw i' _ e3,hs.one i i' hi2 (by omega)]
      grind
     ·rw [hswz i' _ (by omega) hi' (hs.pk i hi2),if_neg (by omega)]
      grind
  ·simp only [List.length_append,List.length_singleton] at hj
   by_cases he:j=s.ps.length
   ·subst he
    simp only [aCy,aAp (show i<s.ps.length by omega)]
    exact hs.pk i (by omega)
   ·simp only [aAp (show i<s.ps.length by omega),aAp (show j<s.ps.length by omega)]
    exact hs.inc i j hij (by omega)
theorem aIR {g:Nat→Nat→Rat} {h:Nat}:∀k,RJ h k (red g h k)
 |0=>⟨Nat.zero_le _,fun i hi=>absurd hi (by simp [red]),fun i c _ _ hc=>absurd hc (by omega),fun i i' hi _=>absurd hi (by simp [red]),fun i c hi _=>absurd hi (by simp [red]),fun i j _ hj=>absurd hj (by simp [red]),fun c hc=>absurd hc (by omega)⟩
 |k+1=>aLe (aIR k)
end Go.Proofs.YtcjdedkdoagifaaGreat
set_option linter.unusedVariables false
namespace Go.Proofs.YtcjdedkdoagifaaGreat
theorem aId (F:Nat→Nat→Rat) (m:Nat):∀n,sm (fun i=>sm (F i) m) n=sm (fun j=>sm (fun i=>F i j) n) m
 |0=>by
  simp only [sm]
  exact(aE5 fun i _=>rfl).symm
 |n+1=>by
  simp only [sm]
  rw [aId F m n,aHR]
theorem aBl (f:Nat→Rat) (a:Rat) (n:Nat):sm (fun c=>a*f c) n=a*sm f n:=by
 rw [Rat.mul_comm,←aGr]
 exact iY fun i _=>Rat.mul_comm _ _
theorem aFH (f:Nat→Rat) (n:Nat):sm (fun c=>-(f c)) n=-(sm f n):=by
 have:=aBl f (-1) n
 rw [iY (g:=fun c=>-1*f c) fun i _=>by grind,this];grind
def skp (k c:Nat):Nat:=if c<k then c else c+1
theorem aKr (F:Nat→Rat) {k:Nat}:∀{n:Nat},k≤n→sm (fun l=>F (skp k l)) n=sm (fun m=>if m=k then 0 else F m) (n+1)
 |0,h=>by
  have:k=0:=by omega
  subst this
  simp only [sm];grind
 |n+1,h=>by
  by_cases hk:k≤n
  ·have ih:=aKr F hk
   rw [sm,ih,sm,sm,sm]
   have e1:skp k n=n+1:=by unfold skp;rw [if_neg (by omega)]
   rw [e1,if_neg (show¬n+1=k by omega)]
  ·have:k=n+1:=by omega
   subst this
   rw [sm.eq_2 _ (n+1),if_pos rfl]
   rw [iY (g:=F) fun i hi=>by unfold skp;rw [if_pos hi],iY (g:=F) fun i hi=>if_neg (by omega)]
   grind
def sgn (k:Nat):Rat:=if k%2=0 then 1 else -1
def mnr (g:Nat→Nat→Rat) (k i c:Nat):Rat:=g (i+1) (skp k c)
def dt:Nat→(Nat→Nat→Rat)→Rat
 |0,_=>1
 |n+1,g=>sm (fun k=>sgn k*(g 0 k*dt n (mnr g k))) (n+1)
theorem aKI {k c n:Nat} (hc:c<n):skp k c<n+1:=by unfold skp;split<;>omega
theorem tD:∀{n:Nat} {g g':Nat→Nat→Rat},(∀i c,i<n→c<n→g i c=g' i c)→dt n g=dt n g'
 |0,_,_,_=>rfl
 |n+1,g,g',h=>by
  simp only [dt]
  refine iY fun k hk=>?_
  rw [h 0 k (by omega) hk,tD (g:=mnr g k) (g':=mnr g' k) fun i c hi hc=>h (i+1) _ (by omega) (aKI hc)]
theorem aLR {g:Nat→Nat→Rat} {f:Nat→Rat} {k:Nat}:mnr (jI g 0 f) k=mnr g k:=by
 funext i c
 unfold mnr
 rw [cZ (by omega)]
theorem aMB {g:Nat→Nat→Rat} {f:Nat→Rat} {k j:Nat}:mnr (jI g (j+1) f) k=jI (mnr g k) j (fun c=>f (skp k c)):=by
 funext i c
 unfold mnr
 by_cases h:i=j
 ·subst h;rw [bD,bD]
 ·rw [cZ (by omega),cZ h]
theorem aHP {u v:Nat→Rat} {a:Rat}:∀{n:Nat} {g:Nat→Nat→Rat} {i:Nat},i<n→dt n (jI g i (fun c=>u c-a*v c))=dt n (jI g i u)-a*dt n (jI g i v)
 |0,_,_,h=>by omega
 |n+1,g,0,_=>by
  simp only [dt,aLR,bD]
  rw [←aFF]
  exact iY fun k _=>by grind
 |n+1,g,j+1,h=>by
  simp only [dt,aMB,cZ (show 0≠j+1 by omega)]
  rw [←aFF]
  refine iY fun k _=>?_
  rw [aHP (u:=fun c=>u (skp k c)) (v:=fun c=>v (skp k c)) (a:=a) (show j<n by omega)]
  grind
theorem aBJ (k:Nat):sgn (k+1)=-(sgn k):=by
 unfold sgn
 by_cases h:k%2=0
 ·rw [if_pos h,if_neg (by omega)]
 ·rw [if_neg h,if_pos (by omega)];grind
theorem aFa (k:Nat):∀l,sgn (k+l)=sgn k*sgn l
 |0=>by
  have:sgn 0=1:=rfl
  rw [this,Nat.add_zero];grind
 |l+1=>by
  rw [←Nat.add_assoc,aBJ,aFa k l,aBJ];grind
def aKb (k m c:Nat):Nat:=if c<min k m then c else if c+1<max k m then c+1 else c+2
theorem aNi (k l c:Nat):skp k (skp l c)=aKb k (skp k l) c:=by
 unfold aKb skp
 by_cases h1:l<k
 ·rw [if_pos h1]
  repeat' split
  all_goals omega
 ·rw [if_neg h1]
  repeat' split
  all_goals omega
theorem aJY (k m c:Nat):aKb k m c=aKb m k c:=by
 unfold aKb;rw [Nat.min_comm,Nat.max_comm]
def eps (k m:Nat):Rat:=if k<m then sgn (k+m+1) else sgn (k+m)
theorem aLY {k m:Nat} (h:m≠k):eps k m=-(eps m k):=by
 unfold eps
 by_cases h1:k<m
 ·rw [if_pos h1,if_neg (by omega),aBJ,Nat.add_comm]
 ·rw [if_neg h1,if_pos (by omega),aBJ,Nat.add_comm];grind
theorem aMM (k l:Nat):sgn k*sgn l=eps k (skp k l):=by
 unfold eps skp
 by_cases h:l<k
 ·rw [if_pos h,if_neg (by omega),aFa]
 ·rw [if_neg h,if_pos (by omega)]
  rw [show k+(l+1)+1=k+l+2 by omega,show sgn (k+l+2)=sgn (k+l) by unfold sgn;rw [show(k+l+2)%2=(k+l)%2 by omega],aFa]
def aHq (g:Nat→Nat→Rat) (k m i c:Nat):Rat:=g (i+2) (aKb k m c)
theorem aK3 {n:Nat} {g:Nat→Nat→Rat}:dt (n+2) g=sm (fun k=>sm (fun m=>if m=k then 0 else eps k m*(g 0 k*(g 1 m*dt n (aHq g k m)))) (n+2)) (n+2):=by
 rw [dt]
 refine iY fun k hk=>?_
 rw [←aKr (fun m=>eps k m*(g 0 k*(g 1 m*dt n (aHq g k m)))) (show k≤n+1 by omega),dt,←aBl,←aBl]
 refine iY fun l _=>?_
 rw [←aMM,show dt n (mnr (mnr g k) l)=dt n (aHq g k (skp k l)) from congrArg (dt n) (by
  funext i c
  unfold mnr aHq
  rw [aNi])]
 unfold mnr
 grind
theorem aJP {n:Nat} {g:Nat→Nat→Rat}:dt (n+2) (yD g 0 1)=-(dt (n+2) g):=by
 rw [aK3,aK3,aId,←aFH]
 refine iY fun k _=>?_
 rw [←aFH]
 refine iY fun m _=>?_
 by_cases h:k=m
 ·rw [if_pos h,if_pos h.symm];grind
 ·rw [if_neg h,if_neg (fun e=>h e.symm),aLY (by exact fun e=>h e)]
  have e:aHq (yD g 0 1) m k=aHq g k m:=by
   funext i c
   unfold aHq yD
   rw [if_neg (by omega),if_neg (by omega),aJY]
  rw [e]
  have e1:yD g 0 1 0=g 1:=by unfold yD;rw [if_pos rfl]
  have e2:yD g 0 1 1=g 0:=by unfold yD;rw [if_neg (by omega),if_pos rfl]
  rw [e1,e2]
  grind
theorem aMX {g:Nat→Nat→Rat} {a b k:Nat}:mnr (yD g (a+1) (b+1)) k=yD (mnr g k) a b:=by
 funext i c
 unfold mnr yD
 congr 1
 by_cases h1:i=a
 ·rw [if_pos (by omega),if_pos h1]
 ·rw [if_neg (by omega),if_neg h1]
  by_cases h2:i=b
  ·rw [if_pos (by omega),if_pos h2]
  ·rw [if_neg (by omega),if_neg h2]
theorem aFx:∀{n:Nat} {g:Nat→Nat→Rat} {i:Nat},i+1<n→dt n (yD g i (i+1))=-(dt n g)
 |0,_,_,h=>by omega
 |1,_,_,h=>by omega
 |n+2,g,0,_=>aJP
 |n+2,g,i+1,h=>by
  rw [dt,dt,←aFH]
  refine iY fun k _=>?_
  rw [aMX,aFx (show i+1<n+1 by omega)]
  have e1:yD g (i+1) (i+1+1) 0=g 0:=by unfold yD;rw [if_neg (by omega),if_neg (by omega)]
  rw [e1];grind
theorem aHC {n:Nat}:∀(t:Nat) {g:Nat→Nat→Rat} {i:Nat},i+t+1<n→dt n (yD g i (i+t+1))=-(dt n g)
 |0,g,i,h=>aFx h
 |t+1,g,i,h=>by
  have e:yD g i (i+(t+1)+1)=yD (yD (yD g (i+t+1) (i+t+1+1)) i (i+t+1)) (i+t+1) (i+t+1+1):=by
   funext j
   unfold yD
   congr 1
   repeat' split
   all_goals omega
  rw [e,aFx (by omega),aHC t (by omega),aFx (by omega)];grind
theorem aLJ {g:Nat→Nat→Rat} {a b:Nat}:yD g a b=yD g b a:=by
 funext j
 unfold yD
 congr 1
 repeat' split
 all_goals omega
structure Alt (h:Nat) (D:(Nat→Nat→Rat)→Rat):Prop where
 cong:∀g g':Nat→Nat→Rat,(∀i,i<h→g i=g' i)→D g=D g'
 lin:∀(g:Nat→Nat→Rat) (u v:Nat→Rat) (a:Rat) (i:Nat),i<h→D (jI g i (fun c=>u c-a*v c))=D (jI g i u)-a*D (jI g i v)
 swap:∀(g:Nat→Nat→Rat) (i j:Nat),i<h→j<h→i≠j→D (yD g i j)=-(D g)
theorem aDi (n:Nat):Alt n (dt n):=⟨fun g g' h=>tD fun i c hi _=>by rw [h i hi],fun g u v a i hi=>aHP hi,fun g i j hi hj hne=>by
 by_cases h:i<j
 ·obtain⟨t,rfl⟩:∃t,j=i+t+1:=⟨j-i-1,by omega⟩
  exact aHC t hj
 ·obtain⟨t,rfl⟩:∃t,i=j+t+1:=⟨i-j-1,by omega⟩
  rw [aLJ]
  exact aHC t hi⟩
theorem Alt.zero {h:Nat} {D:(Nat→Nat→Rat)→Rat} (a:Alt h D) {g:Nat→Nat→Rat} {i:Nat} (hi:i<h) (hz:g i=fun _=>0):D g=0:=by
 have:=a.lin g (g i) (g i) 1 i hi
 have e:(fun c=>g i c-1*g i c)=g i:=by funext c;rw [hz];grind
 have e2:jI g i (g i)=g:=by
  funext j
  unfold jI
  split
  ·rename_i h;rw [h]
  ·rfl
 rw [e,e2] at this
 grind
theorem aKo {α:Type} {g:Nat→α} {i:Nat}:jI g i (g i)=g:=by
 funext j
 unfold jI
 split
 ·rename_i h;rw [h]
 ·rfl
theorem Alt.scale {h:Nat} {D:(Nat→Nat→Rat)→Rat} (a:Alt h D) {g:Nat→Nat→Rat} {u:Nat→Rat} {b:Rat} {i:Nat} (hi:i<h):D (jI g i (fun c=>b*u c))=b*D (jI g i u):=by
 have h1:=a.lin g (fun _=>0) u (-b) i hi
 have h2:D (jI g i (fun _=>0))=0:=a.zero hi bD
 rw [h2] at h1
 have e:(fun c=>(0:Rat)- -b*u c)=fun c=>b*u c:=by funext c;grind
 rw [e] at h1
 rw [h1];grind
theorem Alt.same {h:Nat} {D:(Nat→Nat→Rat)→Rat} (a:Alt h D) {g:Nat→Nat→Rat} {i j:Nat} (hi:i<h) (hj:j<h) (hne:i≠j) (he:g i=g j):D g=0:=by
 have h1:=a.swap g i j hi hj hne
 have e:yD g i j=g:=by
  funext l
  unfold yD
  split
  ·rename_i h;rw [h,he]
  ·split
   ·rename_i h;rw [h,he]
   ·rfl
 rw [e] at h1
 grind
theorem Alt.add {h:Nat} {D:(Nat→Nat→Rat)→Rat} (a:Alt h D) {g:Nat→Nat→Rat} {b:Rat} {i j:Nat} (hi:i<h) (hj:j<h) (hne:i≠j):D (jI g i (fun c=>g i c-b*g j c))=D g:=by
 rw [a.lin g (g i) (g j) b i hi,aKo,a.same (g:=jI g i (g j)) hi hj hne (by rw [bD,cZ (fun e=>hne e.symm)])]
 grind
def elm (g:Nat→Nat→Rat) (n k j i c:Nat):Rat:=if i<j∧i≠n then g i c-g i k*g n c else g i c
theorem Alt.elm0 {h:Nat} {D:(Nat→Nat→Rat)→Rat} (a:Alt h D) {g:Nat→Nat→Rat} {n k:Nat} (hn:n<h):∀j,j≤h→D (elm g n k j)=D g
 |0,_=>a.cong _ _ fun i _=>by
  funext c
  exact if_neg (by omega)
 |j+1,hj=>by
  refine Eq.trans ?_ (Alt.elm0 (k:=k) a hn j (by omega))
  by_cases he:j=n
  ·refine a.cong _ _ fun i _=>?_
   funext c
   unfold elm
   by_cases h1:i<j
   ·rw [if_pos ⟨by omega,by omega⟩,if_pos ⟨h1,by omega⟩]
   ·rw [if_neg (by omega),if_neg (by omega)]
  ·refine Eq.trans ?_ (a.add (g:=elm g n k j) (b:=g j k) (show j<h by omega) hn he)
   refine a.cong _ _ fun i _=>?_
   funext c
   by_cases h1:i=j
   ·subst h1
    rw [bD]
    unfold elm
    rw [if_pos ⟨by omega,he⟩,if_neg (by omega),if_neg (by omega)]
   ·rw [cZ h1]
    unfold elm
    by_cases h2:i<j∧i≠n
    ·rw [if_pos ⟨by omega,h2.2⟩,if_pos h2]
    ·rw [if_neg (by omega),if_neg h2]
theorem Alt.stp0 {h:Nat} {D:(Nat→Nat→Rat)→Rat} (a:Alt h D) {g:Nat→Nat→Rat} {n at0 k:Nat} (hn:n<h) (ha:at0<h) (hne:g at0 k≠0):D g=(if at0=n then 1 else -1)*g at0 k*D (stp g n at0 k):=by
 have e1:D (yD g n at0)=(if at0=n then 1 else -1)*D g:=by
  by_cases h1:at0=n
  ·rw [if_pos h1]
   have:yD g n at0=g:=by
    funext i
    unfold yD
    split
    ·rw [h1];congr 1;omega
    ·split
     ·congr 1;omega
     ·rfl
   rw [this];grind
  ·rw [if_neg h1,a.swap g n at0 hn ha (fun e=>h1 e.symm)];grind
 have e2:D (yD g n at0)=g at0 k*D (jI (yD g n at0) n (pr g at0 k)):=by
  rw [←a.scale hn]
  congr 1
  funext i
  by_cases h1:i=n
  ·subst h1
   rw [bD]
   funext c
   unfold yD pr
   rw [if_pos rfl,Rat.div_def,Rat.mul_comm (g at0 c),←Rat.mul_assoc,Rat.mul_inv_cancel _ hne,Rat.one_mul]
  ·rw [cZ h1]
 have e3:D (stp g n at0 k)=D (jI (yD g n at0) n (pr g at0 k)):=by
  rw [←a.elm0 (g:=jI (yD g n at0) n (pr g at0 k)) (n:=n) (k:=k) hn h (Nat.le_refl _)]
  refine a.cong _ _ fun i hi=>?_
  funext c
  unfold stp elm
  by_cases h1:i=n
  ·subst h1
   rw [if_pos rfl,if_neg (by omega),bD]
  ·rw [if_neg h1,if_pos ⟨hi,h1⟩,cZ h1,bD]
 rw [e3]
 have e4:D g=(if at0=n then 1 else -1)*D (yD g n at0):=by
  rw [e1]
  split<;>grind
 rw [e4,e2];grind
theorem Alt.red0 {h:Nat} {D:(Nat→Nat→Rat)→Rat} (a:Alt h D) {g:Nat→Nat→Rat}:∀k,D g=(red g h k).d*D (red g h k).g
 |0=>by simp only [red];grind
 |k+1=>by
  refine(Alt.red0 a k).trans ?_
  have hl:=(aIR (g:=g) (h:=h) k).ph
  simp only [red]
  generalize red g h k=s at *
  unfold aFe
  split
  ·rfl
  ·rename_i hat
   have hp:=aHw (g:=s.g) (k:=k) (h-s.ps.length) s.ps.length
   have hlt:piv s.g k (h-s.ps.length) s.ps.length<h:=by omega
   have hne:=aMj (g:=s.g) (k:=k) (h-s.ps.length) s.ps.length (by omega)
   rw [a.stp0 (g:=s.g) (n:=s.ps.length) (at0:=piv s.g k (h-s.ps.length) s.ps.length) (k:=k) (by omega) hlt hne]
   simp only
   split<;>grind
end Go.Proofs.YtcjdedkdoagifaaGreat
set_option linter.unusedVariables false
namespace Go.Proofs.YtcjdedkdoagifaaGreat
/-- What a machine's integer is. -/
def I64 (x:Int):Prop:=-9223372036854775808≤x∧x≤9223372036854775807
theorem aM7 {x y:Int} (hx:I64 x) (hy:2≤y):∃v,vL x y=some v∧I64 v:=by
 have h1:(x.tdiv y).natAbs≤x.natAbs:=by
  rw [Int.natAbs_tdiv];exact Nat.div_le_self _ _
 have h2:I64 (x.tdiv y):=by
  have h0:(x.tdiv y).natAbs=x.natAbs/y.natAbs:=Int.natAbs_tdiv x y
  have h3:x.natAbs/y.natAbs≤x.natAbs/2:=Nat.div_le_div_left (by omega) (by omega)
  unfold I64 at *
  omega
 refine⟨x.tdiv y,?_,h2⟩
 unfold vL
 rw [if_neg (by omega)]
 exact kD h2
end Go.Proofs.YtcjdedkdoagifaaGreat
set_option linter.unusedVariables false
namespace Go.Proofs.YtcjdedkdoagifaaGreat
end Go.Proofs.YtcjdedkdoagifaaGreat
set_option linter.unusedVariables false
namespace Go.Proofs.YtcjdedkdoagifaaGreat
/-- A matrix times a vector. -/
def aGO (g:Nat→Nat→Rat) (v:Nat→Rat) (w i:Nat):Rat:=sm (fun c=>g i c*v c) w
end Go.Proofs.YtcjdedkdoagifaaGreat
set_option linter.unusedVariables false
namespace Go.Proofs.YtcjdedkdoagifaaGreat
/-- A vector and the right side. -/
def ext (x:Nat→Rat) (w c:Nat):Rat:=if c<w then x c else -1
end Go.Proofs.YtcjdedkdoagifaaGreat
set_option linter.unusedVariables false
namespace Go.Proofs.YtcjdedkdoagifaaGreat
/-- A turned matrix. -/
def tr (g:Nat→Nat→Rat) (i k:Nat):Rat:=g k i
theorem aEh {g:Nat→Nat→Rat} {h w c:Nat} (hh:h≤100) (hc:c<w) (K:Nat):∀(t i k:Nat),i+t=h→t<k→k8 K (mx g h w) (c:Int) k (mp (tr g c) i) (i:Int)=some (mp (tr g c) h)
 |0,i,k,hi,hk=>by
  obtain⟨k',rfl,_⟩:=aZ hk
  have:i=h:=by omega
  subst this
  simp only [k8,tS,dF (show¬(i:Int)<(i:Int) by omega),bN]
 |t+1,i,k,hi,hk=>by
  obtain⟨k',rfl,_⟩:=aZ hk
  have hl:i<h:=by omega
  have e4:qV (mp (tr g c) i) [g i c]=some (mp (tr g c) (i+1)):=apM (g:=tr g c) (by omega)
  simp only [k8,tS,dT (show(i:Int)<(h:Int) by omega),bW,aA2 (g:=g) (w:=w) hl,oB,dW (f:=g i) hc,e4,mF (i:=i) (by omega)]
  exact aEh hh hc K t (i+1) k' (by omega) (by omega)
theorem aEj {g:Nat→Nat→Rat} {h w:Nat} (hc:Cok h w) (hh:h≤100) (hw:w≤100) {K:Nat} (hK:h<K):∀(t i k:Nat),i+t=w→t<k→kT K (mx g h w) k (mx (tr g) i h) (i:Int)=some (mx (tr g) w h)
 |0,i,k,hi,hk=>by
  obtain⟨k',rfl,_⟩:=aZ hk
  have:i=w:=by omega
  subst this
  simp only [kT,aGP hc,oB,dF (show¬(i:Int)<(i:Int) by omega),bN]
 |t+1,i,k,hi,hk=>by
  obtain⟨k',rfl,_⟩:=aZ hk
  have h50:=aEh (g:=g) hh (show i<w by omega) K h 0 K (by omega) hK
  simp only [Int.natCast_zero,zH] at h50
  have e4:qV (mx (tr g) i h) [mp (tr g i) h]=some (mx (tr g) (i+1) h):=apM (g:=fun i=>mp (tr g i) h) (by omega)
  simp only [kT,aGP hc,dT (show(i:Int)<(w:Int) by omega),bW,oB,h50,uG,e4,mF (i:=i) (by omega)]
  exact aEj hc hh hw hK t (i+1) k' (by omega) (by omega)
theorem aMl {g:Nat→Nat→Rat} {h w:Nat} (hc:Cok h w) (hh:h≤100) (hw:w≤100) {K:Nat} (hK:w+h<K):tR K (mx g h w)=some (mx (tr g) w h):=by
 have:=aEj (g:=g) hc hh hw (K:=K) (by omega) w 0 K (by omega) (by omega)
 have e:mx (tr g) 0 h=[]:=rfl
 rw [e] at this
 simp only [Int.natCast_zero] at this
 simp only [tR,this,oB,uK]
def xP (g q:Nat→Nat→Rat) (w i j:Nat):Rat:=aGO (tr q) (g i) w j
end Go.Proofs.YtcjdedkdoagifaaGreat
set_option linter.unusedVariables false
namespace Go.Proofs.YtcjdedkdoagifaaGreat
theorem aQk:sgn 0=1:=rfl
def wO (i c:Nat):Rat:=if i=c then 1 else 0
theorem aCG:∀n,dt n wO=1
 |0=>rfl
 |n+1=>by
  rw [dt,aLZ (p:=0) (by omega) fun k _ hk=>by unfold wO;rw [if_neg (fun e=>hk e.symm)];grind]
  have e:dt n (mnr wO 0)=dt n wO:=tD fun i c _ _=>by
   unfold mnr wO skp
   rw [if_neg (Nat.not_lt_zero c)]
   by_cases h:i=c
   ·rw [if_pos h,if_pos (by omega)]
   ·rw [if_neg h,if_neg (by omega)]
  rw [e,aCG n,aQk]
  unfold wO
  rw [if_pos rfl];grind
theorem aLc {h k:Nat} {s:RS} (hs:RJ h k s):∀i,i<s.ps.length→i≤pat s.ps i
 |0,_=>Nat.zero_le _
 |i+1,hi=>by
  have:=aLc hs i (by omega)
  have:=hs.inc i (i+1) (by omega) hi
  omega
theorem aG2 {h k:Nat} {s:RS} (hs:RJ h k s):∀t i,i+t+1=s.ps.length→pat s.ps i+t<k
 |0,i,hi=>hs.pk i (by omega)
 |t+1,i,hi=>by
  have:=aG2 hs t (i+1) (by omega)
  have:=hs.inc i (i+1) (by omega) (by omega)
  omega
theorem aKF {h k:Nat} {s:RS} (hs:RJ h k s) (hf:s.ps.length=k) {i:Nat} (hi:i<k):pat s.ps i=i:=by
 have h1:=aLc hs i (by omega)
 have h2:=aG2 hs (k-1-i) i (by omega)
 omega
theorem aBS {h k:Nat} {s:RS} (hs:RJ h k s) (hf:s.ps.length=k) {i c:Nat} (hi:i<h) (hc:c<k):s.g i c=if i=c then 1 else 0:=by
 have:=hs.one c i (by omega) hi
 rw [aKF hs hf hc] at this
 exact this
def aOO (g:Nat→Nat→Rat) (n:Nat):Rat:=if(red g n n).ps.length=n then(red g n n).d else 0
theorem aO4 {g:Nat→Nat→Rat} {n:Nat}:dt n g=aOO g n:=by
 have hJ:=aIR (g:=g) (h:=n) n
 unfold aOO
 rw [(aDi n).red0 (g:=g) n]
 split
 ·rename_i hf
  rw [tD (g':=wO) fun i c hi hc=>aBS hJ hf hi hc,aCG];grind
 ·rename_i hf
  have hlt:(red g n n).ps.length<n:=by have:=hJ.ph;omega
  rw [tD (g':=fun i c=>if c<n then(red g n n).g i c else 0) fun i c hi hc=>by rw [if_pos hc],(aDi n).zero (i:=n-1) (by omega) ?_]
  ·grind
  ·funext c
   split
   ·rename_i hc
    exact hJ.z (n-1) c (by omega) (by omega) hc
   ·rfl
theorem aLx (q:Nat→Nat→Rat) (n w:Nat):Alt n fun g=>dt n (xP g q w):=by
 have eu:∀(g:Nat→Nat→Rat) (f:Nat→Rat) (i:Nat),xP (jI g i f) q w=jI (xP g q w) i (fun j=>aGO (tr q) f w j):=by
  intro g f i
  funext j c
  unfold xP
  by_cases h:j=i
  ·subst h;rw [bD,bD]
  ·rw [cZ h,cZ h]
 refine⟨fun g g' h=>tD fun i c hi _=>?_,fun g u v a i hi=>?_,fun g i j hi hj hne=>?_⟩
 ·unfold xP;rw [h i hi]
 ·show dt n _=dt n _-a*dt n _
  rw [eu,eu,eu,←aHP hi]
  congr 2
  funext j
  unfold aGO
  rw [←aFF]
  exact iY fun c _=>by grind
 ·exact(aDi n).swap (xP g q w) i j hi hj hne
theorem aLr {g q:Nat→Nat→Rat} {n:Nat}:dt n (xP g q n)=dt n g*dt n q:=by
 have hJ:=aIR (g:=g) (h:=n) n
 have hm:dt n (xP g q n)=(red g n n).d*dt n (xP (red g n n).g q n):=(aLx q n n).red0 (g:=g) n
 rw [hm,aO4 (g:=g)]
 unfold aOO
 split
 ·rename_i hf
  rw [tD (g:=xP (red g n n).g q n) (g':=q) fun i c hi hc=>?_]
  unfold xP aGO tr
  rw [aLZ (p:=i) hi fun j hj hne=>by rw [aBS hJ hf hi hj,if_neg (fun e=>hne e.symm)];grind]
  rw [aBS hJ hf hi hi,if_pos rfl];grind
 ·rename_i hf
  have hlt:(red g n n).ps.length<n:=by have:=hJ.ph;omega
  rw [(aDi n).zero (g:=xP (red g n n).g q n) (i:=n-1) (by omega) (by
   funext c
   unfold xP aGO
   exact aE5 fun j hj=>by rw [hJ.z (n-1) j (by omega) (by omega) hj];grind)]
  grind
end Go.Proofs.YtcjdedkdoagifaaGreat
set_option linter.unusedVariables false
namespace Go.Proofs.YtcjdedkdoagifaaGreat
/-- The unit matrix with one column replaced. -/
def aGh (i:Nat) (x:Nat→Rat) (r c:Nat):Rat:=if c=i then x r else if r=c then 1 else 0
theorem aM4 {n i:Nat} (hi:i<n) (x:Nat→Rat):dt n (aGh i x)=x i:=by
 have a:=aDi n
 have e1:aGh i x=jI (aGh i x) i (fun c=>x i*wO i c):=by
  funext r c
  by_cases h:r=i
  ·subst h
   rw [bD]
   unfold aGh wO
   by_cases h2:c=r
   ·rw [if_pos h2,if_pos h2.symm,Rat.mul_one]
   ·rw [if_neg h2,if_neg (show¬r=c from fun e=>h2 e.symm),Rat.mul_zero]
  ·rw [cZ h]
 have e2:dt n (jI (aGh i x) i (wO i))=1:=by
  rw [←a.elm0 (g:=jI (aGh i x) i (wO i)) (n:=i) (k:=i) hi n (Nat.le_refl n),←aCG n]
  refine tD fun r c hr hc=>?_
  unfold elm
  by_cases h:r=i
  ·subst h
   rw [if_neg (fun h2=>h2.2 rfl),bD]
  ·rw [if_pos ⟨hr,h⟩,cZ h,bD]
   unfold aGh wO
   rw [if_pos rfl]
   by_cases h2:c=i
   ·rw [if_pos h2,if_pos h2.symm,Rat.mul_one,Rat.sub_self,if_neg (by omega)]
   ·rw [if_neg h2,if_neg (show¬i=c from fun e=>h2 e.symm),Rat.mul_zero,Rat.sub_eq_add_neg,Rat.neg_zero,Rat.add_zero]
 rw [e1,a.scale hi,e2,Rat.mul_one]
def aHG (Z:Nat→Nat→Rat) (b:Nat→Nat) (r j:Nat):Rat:=Z r (b j)
def aEW (Z:Nat→Nat→Rat) (b:Nat→Nat) (i k:Nat) (r j:Nat):Rat:=if j=i then Z r k else Z r (b j)
theorem aPa {n w:Nat} {E Z T:Nat→Nat→Rat} {b:Nat→Nat} (hT:∀i c,i<n→c<w→T i c=xP E Z n i c) (hb:∀j,j<n→b j<w) (hu:∀i j,i<n→j<n→T i (b j)=if i=j then 1 else 0) {i k:Nat} (hi:i<n) (hk:k<w):dt n (aHG Z b)≠0∧T i k=dt n (aEW Z b i k)/dt n (aHG Z b):=by
 have h1:dt n E*dt n (aHG Z b)=1:=by
  rw [←aLr,←aCG n]
  refine tD fun r c hr hc=>?_
  show xP E Z n r (b c)=_
  rw [←hT r (b c) hr (hb c hc),hu r c hr hc];rfl
 have h2:dt n E*dt n (aEW Z b i k)=T i k:=by
  rw [←aLr,←aM4 hi (fun r=>T r k)]
  refine tD fun r c hr hc=>?_
  unfold aGh
  by_cases h:c=i
  ·rw [if_pos h]
   show _=T r k
   rw [hT r k hr hk]
   unfold xP aGO tr aEW
   simp [h]
  ·rw [if_neg h,←hu r c hr hc,hT r (b c) hr (hb c hc)]
   unfold xP aGO tr aEW
   simp [h]
 have hne:dt n (aHG Z b)≠0:=fun e=>by rw [e,Rat.mul_zero] at h1;exact absurd h1 (by decide)
 refine⟨hne,?_⟩
 rw [←h2,Rat.div_def]
 have:dt n E=(dt n (aHG Z b))⁻¹:=by
  have h3:=congrArg (·*(dt n (aHG Z b))⁻¹) h1
  simp only [Rat.mul_assoc,Rat.mul_inv_cancel _ hne,Rat.mul_one,Rat.one_mul] at h3
  exact h3
 rw [this,Rat.mul_comm]
def isZ (M:Nat) (x:Rat):Prop:=∃q:Int,x=(q:Rat)∧q.natAbs≤M
def fM (M:Nat):Nat→Nat
 |0=>1
 |n+1=>(n+1)*(M*fM M n)
theorem isZ.mono {M N:Nat} {x:Rat} (h:isZ M x) (hn:M≤N):isZ N x:=by
 obtain⟨q,h1,h2⟩:=h
 exact⟨q,h1,by omega⟩
theorem isZ.add {M N:Nat} {x y:Rat} (h:isZ M x) (k:isZ N y):isZ (M+N) (x+y):=by
 obtain⟨q,h1,h2⟩:=h
 obtain⟨p,k1,k2⟩:=k
 exact⟨q+p,by rw [h1,k1,Rat.intCast_add],by omega⟩
theorem isZ.mul {M N:Nat} {x y:Rat} (h:isZ M x) (k:isZ N y):isZ (M*N) (x*y):=by
 obtain⟨q,h1,h2⟩:=h
 obtain⟨p,k1,k2⟩:=k
 exact⟨q*p,by rw [h1,k1,Rat.intCast_mul],by rw [Int.natAbs_mul];exact Nat.mul_le_mul h2 k2⟩
theorem isZ.zero:isZ 0 0:=⟨0,rfl,Nat.le_refl _⟩
theorem aP2 (k:Nat):isZ 1 (sgn k):=by
 unfold sgn
 split
 ·exact⟨1,rfl,by decide⟩
 ·exact⟨-1,rfl,by decide⟩
theorem aPS {f:Nat→Rat} {M:Nat}:∀n,(∀i,i<n→isZ M (f i))→isZ (n*M) (sm f n)
 |0,_=>by rw [Nat.zero_mul];exact isZ.zero
 |n+1,h=>by
  have:=(aPS n fun i hi=>h i (by omega)).add (h n (by omega))
  rw [Nat.succ_mul];exact this
theorem aO5 {M:Nat}:∀(n:Nat) (g:Nat→Nat→Rat),(∀i c,i<n→c<n→isZ M (g i c))→isZ (fM M n) (dt n g)
 |0,g,h=>⟨1,rfl,Nat.le_refl _⟩
 |n+1,g,h=>aPS (n+1) fun k hk=>by
  have h1:=aO5 n (mnr g k) fun i c hi hc=>h (i+1) (skp k c) (by omega) (aKI hc)
  have h2:=(aP2 k).mul ((h 0 k (by omega) hk).mul h1)
  rw [Nat.one_mul] at h2
  first|exact h2|(rw [Rat.mul_assoc];exact h2)
theorem aJ5 {n w M k:Nat} {E Z T:Nat→Nat→Rat} {b:Nat→Nat} (hT:∀i c,i<n→c<w→T i c=xP E Z n i c) (hb:∀j,j<n→b j<w) (hu:∀i j,i<n→j<n→T i (b j)=if i=j then 1 else 0) (hZ:∀i c,i<n→c<w→isZ M (Z i c)) (hM:fM M n<2^k):Bdx n w k T:=fun i c hi hc=>by
 obtain⟨h1,h2⟩:=aPa hT hb hu hi hc
 obtain⟨p,p1,p2⟩:=aO5 n (aEW Z b i c) fun r j hr hj=>by
  unfold aEW
  split
  ·exact hZ r c hr hc
  ·exact hZ r (b j) hr (hb j hj)
 obtain⟨q,q1,q2⟩:=aO5 n (aHG Z b) fun r j hr hj=>hZ r (b j) hr (hb j hj)
 rw [h2,p1,q1]
 refine Bd.of (fun e=>h1 (by rw [q1,e];rfl)) (Nat.lt_of_le_of_lt p2 hM) (Nat.lt_of_le_of_lt q2 hM)
end Go.Proofs.YtcjdedkdoagifaaGreat
set_option linter.unusedVariables false
namespace Go.Proofs.YtcjdedkdoagifaaGreat
/-- A tableau: its rows are combinations of those of Z, and the columns of the basic variables are those of the unit matrix. -/
structure TI (n w:Nat) (Z T:Nat→Nat→Rat) (b:Nat→Nat):Prop where
 ex:∃E:Nat→Nat→Rat,∀i c,i<n→c<w→T i c=xP E Z n i c
 lt:∀j,j<n→b j<w
 un:∀i j,i<n→j<n→T i (b j)=if i=j then 1 else 0
def wD (T:Nat→Nat→Rat) (r c i k:Nat):Rat:=if i=r then T r k/T r c else T i k-T i c*(T r k/T r c)
theorem aAr {E Z:Nat→Nat→Rat} {n i k:Nat}:xP E Z n i k=sm (fun j=>Z j k*E i j) n:=by
 unfold xP aGO tr
 first|rfl|(refine iY fun j _=>?_;first|rfl|exact Rat.mul_comm _ _)
theorem TI.pivot {n w:Nat} {Z T:Nat→Nat→Rat} {b:Nat→Nat} (h:TI n w Z T b) {r c:Nat} (hr:r<n) (hc:c<w) (hp:T r c≠0):TI n w Z (wD T r c) (jI b r c):=by
 obtain⟨⟨E,hE⟩,hb,hu⟩:=h
 refine⟨⟨fun i j=>if i=r then E r j/T r c else E i j-T i c*(E r j/T r c),fun i k hi hk=>?_⟩,fun j hj=>?_,fun i j hi hj=>?_⟩
 ·rw [aAr]
  have e1:T r k/T r c=sm (fun j=>Z j k*(E r j/T r c)) n:=by
   rw [hE r k hr hk,aAr,Rat.div_def,Rat.mul_comm,←aBl]
   refine iY fun j _=>?_
   rw [Rat.div_def,Rat.mul_comm,Rat.mul_assoc]
  unfold wD
  by_cases e:i=r
  ·rw [if_pos e,e1]
   exact iY fun j _=>by rw [if_pos e]
  ·rw [if_neg e,hE i k hi hk,aAr,e1,←aBl,Rat.sub_eq_add_neg,←aFH,←aHR]
   refine iY fun j _=>?_
   rw [if_neg e,Rat.sub_eq_add_neg,Rat.mul_add,Rat.mul_neg,←Rat.mul_assoc,←Rat.mul_assoc,Rat.mul_comm (T i c)]
 ·by_cases e:j=r
  ·rw [e,bD];exact hc
  ·rw [cZ e];exact hb j hj
 ·unfold wD
  by_cases e:j=r
  ·rw [e,bD,Rat.div_def,Rat.mul_inv_cancel _ hp]
   by_cases e2:i=r
   ·rw [if_pos e2,if_pos e2]
   ·rw [if_neg e2,if_neg e2,Rat.mul_one,Rat.sub_self]
  ·have h0:T r (b j)=0:=by rw [hu r j hr hj,if_neg fun h=>e h.symm]
   rw [cZ e,h0,Rat.div_def,Rat.zero_mul]
   by_cases e2:i=r
   ·rw [if_pos e2,if_neg (by omega)]
   ·rw [if_neg e2,Rat.mul_zero,Rat.sub_eq_add_neg,Rat.neg_zero,Rat.add_zero]
    exact hu i j hi hj
theorem TI.start {n w:Nat} {Z:Nat→Nat→Rat} (hw:n≤w) (hz:∀i j,i<n→j<n→Z i j=if i=j then 1 else 0):TI n w Z Z (fun j=>j):=
 ⟨⟨wO,fun i c hi hc=>by
  rw [aAr]
  have:sm (fun j=>Z j c*wO i j) n=sm (fun j=>if j=i then Z i c else 0) n:=iY fun j _=>by
   unfold wO
   by_cases e:j=i
   ·rw [if_pos e,e,if_pos rfl,Rat.mul_one]
   ·rw [if_neg e,if_neg (fun h=>e h.symm),Rat.mul_zero]
  rw [this]
  have key:∀m,m≤n→sm (fun j=>if j=i then Z i c else 0) m=if i<m then Z i c else 0:=by
   intro m
   induction m with
   |zero=>intro _;rw [if_neg (by omega)];rfl
   |succ m ih=>
    intro hm
    show sm _ m+(if m=i then Z i c else 0)=_
    rw [ih (by omega)]
    by_cases e:m=i
    ·rw [if_pos e,if_neg (by omega),if_pos (by omega),Rat.zero_add]
    ·rw [if_neg e,Rat.add_zero]
     by_cases e2:i<m
     ·rw [if_pos e2,if_pos (by omega)]
     ·rw [if_neg e2,if_neg (by omega)]
  rw [key n (Nat.le_refl n),if_pos hi]⟩,fun j hj=>by omega,fun i j hi hj=>hz i j hi hj⟩
theorem aNI {M:Nat}:∀n,n≤64→fM M n≤(64*M)^n
 |0,_=>Nat.le_refl _
 |n+1,h=>by
  show(n+1)*(M*fM M n)≤_
  rw [Nat.pow_succ,Nat.mul_comm ((64*M)^n),←Nat.mul_assoc]
  exact Nat.mul_le_mul (Nat.mul_le_mul_right M h) (aNI n (by omega))
theorem TI.scale {n w:Nat} {Z T:Nat→Nat→Rat} {b:Nat→Nat} (h:TI n w Z T b) {D:Rat} (hD:D≠0):TI n w (fun i c=>Z i c*D) T b:=by
 obtain⟨⟨E,hE⟩,hb,hu⟩:=h
 refine⟨⟨fun i j=>E i j/D,fun i c hi hc=>?_⟩,hb,hu⟩
 rw [hE i c hi hc,aAr,aAr]
 refine iY fun j _=>?_
 rw [Rat.div_def,Rat.mul_comm (E i j),Rat.mul_assoc,←Rat.mul_assoc D,Rat.mul_inv_cancel _ hD,Rat.one_mul]
theorem TI.bd {n w M k:Nat} {Z T:Nat→Nat→Rat} {b:Nat→Nat} {D:Rat} (h:TI n w Z T b) (hD:D≠0) (hZ:∀i c,i<n→c<w→isZ M (Z i c*D)) (hn:n≤64) (hM:(64*M)^n<2^k):Bdx n w k T:=by
 obtain⟨⟨E,hE⟩,hb,hu⟩:=h.scale hD
 exact aJ5 hE hb hu hZ (Nat.lt_of_le_of_lt (aNI n hn) hM)
end Go.Proofs.YtcjdedkdoagifaaGreat
set_option linter.unusedVariables false
namespace Go.Proofs.YtcjdedkdoagifaaGreat
/-- A degree of freedom with small numbers. -/
def aNl (d:aG):Prop:=Bd 8 d.inv∧d.inv≠0∧Bd 8 d.load
def dof (d:List aG) (i:Nat):aG:=d.getD i ⟨0,0,false,0,0⟩
def aPo (d:List aG):Prop:=∀x∈d,aNl x
end Go.Proofs.YtcjdedkdoagifaaGreat
set_option linter.unusedVariables false
namespace Go.Proofs.YtcjdedkdoagifaaGreat
/-- Terms that are few and small. -/
def TB (l:List aE):Prop:=l.length≤12∧∀t∈l,Bd 8 t.k
def RB (r:aA):Prop:=TB r.j∧TB r.t
def RsB (l:List aA):Prop:=∀r∈l,RB r
theorem TB.nil:TB []:=⟨by simp,fun t h=>absurd h List.not_mem_nil⟩
theorem RsB.nil:RsB []:=fun t h=>absurd h List.not_mem_nil
theorem RsB.snoc {l:List aA} {r:aA} (h:RsB l) (hr:RB r):RsB (l++[r]):=fun x hx=>by
 rcases List.mem_append.1 hx with h1|h1
 ·exact h x h1
 ·rw [List.mem_singleton.1 h1];exact hr
def RC (r:aA):Prop:=RB r∧Bd 8 r.mu
def RsC (l:List aA):Prop:=∀r∈l,RC r
theorem RsC.snoc {l:List aA} {r:aA} (h:RsC l) (hr:RC r):RsC (l++[r]):=fun x hx=>by
 rcases List.mem_append.1 hx with h1|h1
 ·exact h x h1
 ·rw [List.mem_singleton.1 h1];exact hr
structure aOW (s:aK):Prop where
 n1:1≤s.dofs.length
 n4:s.dofs.length≤4
 dofs:aPo s.dofs
 ll:s.load.length=s.dofs.length
 vl:s.v.length=s.dofs.length
 load:u7 8 s.load
 v:u7 8 s.v
 rows:RsB s.rows
 rl:s.rows.length≤4
 mus:RsC s.rows
theorem tab7 {m:Int} (h0:0≤m) (h1:m<7):∃x,bK [0,1,(-1),0,2,(-1),1] m=some x∧-2≤x∧x≤2:=by
 have:m=0∨m=1∨m=2∨m=3∨m=4∨m=5∨m=6:=by omega
 rcases this with rfl|rfl|rfl|rfl|rfl|rfl|rfl<;>exact⟨_,rfl,by omega,by omega⟩
end Go.Proofs.YtcjdedkdoagifaaGreat
set_option linter.unusedVariables false
namespace Go.Proofs.YtcjdedkdoagifaaGreat
/-- What a term adds to a rate. -/
def trm (a:List Rat) (t:aE):Rat:=bif decide (0≤t.dof∧t.dof<(a.length:Int)) then t.k*qK a t.dof.toNat else 0
def rtf (a:List Rat):List aE→Rat→Rat
 |[],x=>x
 |t::l,x=>rtf a l (x+trm a t)
def rt (l:List aE) (a:List Rat):Rat:=rtf a l 0
theorem aHu {a:List Rat} {B:Nat} {t:aE} (ha:u7 B a) (ht:Bd 8 t.k):Bd (8+B) (trm a t):=by
 unfold trm
 by_cases h:0≤t.dof∧t.dof<(a.length:Int)
 ·rw [decide_eq_true h]
  exact(ht.mul (ha _ (tP (by omega)))).mono (by omega)
 ·rw [decide_eq_false h]
  exact Bd.zero.mono (by omega)
theorem aLh {a:List Rat} {B:Nat} (ha:u7 B a):∀(l:List aE) (x:Rat) (n:Nat),(∀t∈l,Bd 8 t.k)→Bd n x→Bd (n+(B+9)*l.length) (rtf a l x)
 |[],x,n,_,hx=>hx.mono (by simp)
 |t::l,x,n,hl,hx=>(aLh ha l (x+trm a t) (n+(8+B)+1) (fun t h=>hl t (List.mem_cons_of_mem _ h)) (hx.add (aHu ha (hl t List.mem_cons_self)))).mono (by simp only [List.length_cons,Nat.mul_succ];omega)
theorem z7 {a:List Rat} {B:Nat} {l:List aE} (ha:u7 B a) (hl:TB l):Bd (1+(B+9)*12) (rt l a):=(aLh ha l 0 1 hl.2 Bd.zero).mono (by have:=Nat.mul_le_mul_left (B+9) hl.1;omega)
theorem aJg {a:List Rat} {l:List aE} (ha:u7 64 a) (hl:TB l):Bd 1000 (rt l a):=(z7 ha hl).mono (by omega)
theorem aEt {l:List aE} {i:Nat} (h:i<l.length):∃x,x∈l∧l.drop i=x::l.drop (i+1)∧bK l (i:Int)=some x:=
 ⟨l[i],List.getElem_mem h,List.drop_eq_getElem_cons h,rdG (List.getElem?_eq_getElem h)⟩
theorem aCz {a:List Rat} {t:aE} (x:Rat) (h:¬(0≤t.dof∧t.dof<(a.length:Int))):x+trm a t=x:=by
 unfold trm;rw [decide_eq_false h];exact Rat.add_zero x
theorem aII {a:List Rat} {B:Nat} {l:List aE} (ha:u7 B a) (hl:TB l) (K:Nat):∀(t i k n:Nat) (x:Rat),i+t=l.length→t<k→Bd n x→n+(B+9)*t≤1073741824→k9 K l a k x (i:Int)=some (rtf a (l.drop i) x)
 |0,i,k,n,x,hi,hk,hx,hn=>by
  obtain⟨k',rfl,_⟩:=aZ hk
  rw [List.drop_eq_nil_of_le (by omega)]
  simp only [k9,dF (show¬(i:Int)<(l.length:Int) by omega),bN];rfl
 |t+1,i,k,n,x,hi,hk,hx,hn=>by
  have h12:=hl.1
  obtain⟨k',rfl,_⟩:=aZ hk
  obtain⟨y,h1,h2,h3⟩:=aEt (l:=l) (i:=i) (by omega)
  have hB:(B+9)*(t+1)=(B+9)*t+(B+9):=Nat.mul_succ _ _
  have ih:=aII ha hl K t (i+1) k' (n+(8+B)+1) (x+trm a y) (by omega) (by omega) (hx.add (aHu ha (hl.2 y h1))) (by omega)
  rw [h2]
  show _=some (rtf a (l.drop (i+1)) (x+trm a y))
  simp only [k9,dT (show(i:Int)<(l.length:Int) by omega),bW,h3,oB]
  by_cases h0:0≤y.dof
  ·simp only [dT h0,bW]
   by_cases h4:y.dof<(a.length:Int)
   ·have e:y.dof=((y.dof.toNat:Nat):Int):=by omega
    have hr:bK a y.dof=some (qK a y.dof.toNat):=by
     have:=aDU (l:=a) (i:=y.dof.toNat) (by omega)
     rwa [←e] at this
    have hv:=ha _ (tP (l:=a) (i:=y.dof.toNat) (by omega))
    have ht:trm a y=y.k*qK a y.dof.toNat:=by unfold trm;rw [decide_eq_true ⟨h0,h4⟩];rfl
    rw [ht] at ih ⊢
    simp only [dT h4,bW,hr,oB,oH (hl.2 y h1) hv (by omega) (by omega),vG hx ((hl.2 y h1).mul hv) (by omega) (by omega),mF (i:=i) (by omega)]
    exact ih
   ·rw [aCz x (fun h=>h4 h.2)] at ih ⊢
    simp only [dF h4,bN,mF (i:=i) (by omega),oB]
    exact ih
  ·rw [aCz x (fun h=>h0 h.1)] at ih ⊢
   simp only [dF h0,bN,mF (i:=i) (by omega),oB]
   exact ih
theorem wR {a:List Rat} {B:Nat} {l:List aE} (ha:u7 B a) (hB:B≤80000000) (hl:TB l) {K:Nat} (hK:13≤K):gB K l a=some (rt l a):=by
 have h:=hl.1
 have h2:=Nat.mul_le_mul_left (B+9) h
 have:=aII ha hl K l.length 0 K 1 0 (by omega) (by omega) Bd.zero (by omega)
 simp only [Int.natCast_zero,List.drop_zero] at this
 simp only [gB,this,oB,uA];rfl
theorem aJo {a:List Rat} {l:List aE} (ha:u7 64 a) (hl:TB l) {K:Nat} (hK:13≤K):gB K l a=some (rt l a):=wR ha (by omega) hl hK
theorem aGZ {a:List Rat} {B:Nat} {l:List aE} (ha:u7 B a) (hl:TB l) (K:Nat):∀(t i k n:Nat) (x:Rat),i+t=l.length→t<k→Bd n x→n+(B+9)*t≤1073741824→gR K l a k x (i:Int)=some (rtf a (l.drop i) x)
 |0,i,k,n,x,hi,hk,hx,hn=>by
  obtain⟨k',rfl,_⟩:=aZ hk
  rw [List.drop_eq_nil_of_le (by omega)]
  simp only [gR,dF (show¬(i:Int)<(l.length:Int) by omega),bN];rfl
 |t+1,i,k,n,x,hi,hk,hx,hn=>by
  have h12:=hl.1
  obtain⟨k',rfl,_⟩:=aZ hk
  obtain⟨y,h1,h2,h3⟩:=aEt (l:=l) (i:=i) (by omega)
  have hB:(B+9)*(t+1)=(B+9)*t+(B+9):=Nat.mul_succ _ _
  have ih:=aGZ ha hl K t (i+1) k' (n+(8+B)+1) (x+trm a y) (by omega) (by omega) (hx.add (aHu ha (hl.2 y h1))) (by omega)
  rw [h2]
  show _=some (rtf a (l.drop (i+1)) (x+trm a y))
  simp only [gR,dT (show(i:Int)<(l.length:Int) by omega),bW,h3,oB]
  by_cases h0:0≤y.dof
  ·simp only [dT h0,bW]
   by_cases h4:y.dof<(a.length:Int)
   ·have e:max y.dof 0=((y.dof.toNat:Nat):Int):=by omega
    have hr:bK a (max y.dof 0)=some (qK a y.dof.toNat):=by
     rw [e];exact aDU (l:=a) (i:=y.dof.toNat) (by omega)
    have hv:=ha _ (tP (l:=a) (i:=y.dof.toNat) (by omega))
    have ht:trm a y=y.k*qK a y.dof.toNat:=by unfold trm;rw [decide_eq_true ⟨h0,h4⟩];rfl
    rw [ht] at ih ⊢
    simp only [dT h4,bW,hr,oB,oH (hl.2 y h1) hv (by omega) (by omega),vG hx ((hl.2 y h1).mul hv) (by omega) (by omega),mF (i:=i) (by omega)]
    exact ih
   ·rw [aCz x (fun h=>h4 h.2)] at ih ⊢
    simp only [dF h4,bN,mF (i:=i) (by omega),oB]
    exact ih
  ·rw [aCz x (fun h=>h0 h.1)] at ih ⊢
   simp only [dF h0,bN,mF (i:=i) (by omega),oB]
   exact ih
theorem aAo {a:List Rat} {B:Nat} {l:List aE} (ha:u7 B a) (hB:B≤80000000) (hl:TB l) {K:Nat} (hK:13≤K):iH K l a=some (rt l a):=by
 have h:=hl.1
 have h2:=Nat.mul_le_mul_left (B+9) h
 have:=aGZ ha hl K l.length 0 K 1 0 (by omega) (by omega) Bd.zero (by omega)
 simp only [Int.natCast_zero,List.drop_zero] at this
 simp only [iH,this,oB,uU];rfl
theorem aGG {a:List Rat} {l:List aE} (ha:u7 64 a) (hl:TB l) {K:Nat} (hK:13≤K):iH K l a=some (rt l a):=aAo ha (by omega) hl hK
theorem aB2 {l:List aA} {i:Nat} (h:i<l.length):∃x,x∈l∧l.drop i=x::l.drop (i+1)∧bK l (i:Int)=some x:=
 ⟨l[i],List.getElem_mem h,List.drop_eq_getElem_cons h,rdG (List.getElem?_eq_getElem h)⟩
theorem aQ9 {l:List aA} {f:aA→Option Bool} {b:aA→Bool} (hf:∀r∈l,f r=some (b r)) (hl:l.length≤1000) (K:Nat):∀(t i k:Nat),i+t=l.length→t<k→
  (l.drop i).any b=false∧d6 K l f k (i:Int)=some (.go ())∨(l.drop i).any b=true∧∃j:Nat,d6 K l f k (i:Int)=some (.ret (j:Int))
 |0,i,k,hi,hk=>by
  obtain⟨k',rfl,_⟩:=aZ hk
  refine .inl ⟨by rw [List.drop_eq_nil_of_le (by omega)];rfl,?_⟩
  simp only [d6,dF (show¬(i:Int)<(l.length:Int) by omega),bN]
 |t+1,i,k,hi,hk=>by
  obtain⟨k',rfl,_⟩:=aZ hk
  obtain⟨x,h1,h2,h3⟩:=aB2 (l:=l) (i:=i) (by omega)
  rw [h2]
  simp only [d6,dT (show(i:Int)<(l.length:Int) by omega),bW,h3,oB,hf x h1,List.any_cons]
  cases b x
  ·simp only [bN,Bool.false_or,mF (i:=i) (by omega),oB]
   exact aQ9 hf hl K t (i+1) k' (by omega) (by omega)
  ·exact .inr ⟨rfl,i,by simp only [bW]⟩
theorem aJ9 {l:List aA} {f:aA→Option Bool} {b:aA→Bool} (hf:∀r∈l,f r=some (b r)) (hl:l.length≤1000) {K:Nat} (hK:l.length<K):fC K l f=some (l.any b):=by
 have:=aQ9 hf hl K l.length 0 K (by omega) hK
 simp only [Int.natCast_zero,List.drop_zero] at this
 rcases this with⟨h1,h2⟩|⟨h1,y,h2⟩
 ·simp only [fC,kY,h2,oB,lS,h1];rfl
 ·simp only [fC,kY,h2,oB,h1,dT (show(0:Int)≤(y:Int) by omega)]
theorem aMZ (K:Nat):pR (K+40)=some true:=by kernel_rfl
end Go.Proofs.YtcjdedkdoagifaaGreat
set_option linter.unusedVariables false
namespace Go.Proofs.YtcjdedkdoagifaaGreat
def t8 (l:List aE) (i:Nat):aE:=l.getD i ⟨0,0⟩
theorem aC7 {l:List aE} {i:Nat} (h:i<l.length):bK l (i:Int)=some (t8 l i):=rdD _ h
theorem wJ {l:List aE} {i:Nat} (h:i<l.length):t8 l i∈l:=by
 unfold t8
 simp only [List.getD_eq_getElem?_getD,List.getElem?_eq_getElem h,Option.getD_some]
 exact List.getElem_mem h
def tk (n:Nat) (l:List aE) (i:Nat):Bool:=decide (0≤(t8 l i).dof∧(t8 l i).dof<(n:Int)∧(0<i→(t8 l (i-1)).dof<(t8 l i).dof))
def tks (n:Nat) (l:List aE):Nat→Nat→Bool
 |0,_=>true
 |t+1,i=>tk n l i&&tks n l t (i+1)
def tOk (n:Nat) (l:List aE):Bool:=tks n l l.length 0
theorem vI {m:Nat} {a:Rat} (ha:Bd m a) (hm:m≤1073741824):aAG a=some true:=by unfold aAG;rw [ha.qs hm];rfl
theorem aG4 {n:Nat} {l:List aE} (hl:TB l) (K:Nat):∀(t i k:Nat),i+t=l.length→t<k→kH K l (n:Int) k (i:Int)=some (bif tks n l t i then .go () else .ret false)
 |0,i,k,hi,hk=>by
  obtain⟨k',rfl,_⟩:=aZ hk
  simp only [kH,dF (show¬(i:Int)<(l.length:Int) by omega),bN,tks,bW]
 |t+1,i,k,hi,hk=>by
  have h12:=hl.1
  obtain⟨k',rfl,_⟩:=aZ hk
  have hb:=vI (hl.2 _ (wJ (l:=l) (i:=i) (by omega))) (by omega)
  have ih:=aG4 (n:=n) hl K t (i+1) k' (by omega) (by omega)
  simp only [kH,dT (show(i:Int)<(l.length:Int) by omega),bW,aC7 (l:=l) (i:=i) (by omega),oB,hb,Bool.not_true,bN,tks,mF (i:=i) (by omega)]
  by_cases h0:(t8 l i).dof<0
  ·have e:tk n l i=false:=decide_eq_false (by omega)
   simp only [dT h0,bW,e,Bool.false_and,bN]
  ·simp only [dF h0,bN]
   by_cases h1:(n:Int)≤(t8 l i).dof
   ·have e:tk n l i=false:=decide_eq_false (by omega)
    simp only [dT h1,bW,e,Bool.false_and,bN]
   ·simp only [dF h1,bN]
    by_cases h2:0<i
    ·have e1:aP ((i:Int)-1)=some ((i-1:Nat):Int):=by rw [kD (by omega)];congr 1;omega
     simp only [dT (show(0:Int)<(i:Int) by omega),bW,e1,oB,aC7 (l:=l) (i:=i-1) (by omega)]
     by_cases h3:(t8 l i).dof≤(t8 l (i-1)).dof
     ·have e:tk n l i=false:=decide_eq_false (by omega)
      simp only [dT h3,bW,e,Bool.false_and,bN]
     ·have e:tk n l i=true:=decide_eq_true (by omega)
      simp only [dF h3,bN,e,Bool.true_and]
      exact ih
    ·have e:tk n l i=true:=decide_eq_true (by omega)
     simp only [dF (show¬(0:Int)<(i:Int) by omega),bN,e,Bool.true_and]
     exact ih
theorem aGx {n:Nat} {l:List aE} (hl:TB l) {K:Nat} (hK:13≤K):rA K l (n:Int)=some (tOk n l):=by
 have h:=hl.1
 have:=aG4 (n:=n) hl K l.length 0 K (by omega) (by omega)
 simp only [Int.natCast_zero] at this
 simp only [rA,this,oB,sD,tOk]
 cases tks n l l.length 0<;>rfl
theorem aEi {n:Nat} {l:List aE} (hl:TB l) (K:Nat):∀(t i k:Nat),i+t=l.length→t<k→iV K l (n:Int) k (i:Int)=some (bif tks n l t i then .go () else .ret false)
 |0,i,k,hi,hk=>by
  obtain⟨k',rfl,_⟩:=aZ hk
  simp only [iV,dF (show¬(i:Int)<(l.length:Int) by omega),bN,tks,bW]
 |t+1,i,k,hi,hk=>by
  have h12:=hl.1
  obtain⟨k',rfl,_⟩:=aZ hk
  have hb:=vI (hl.2 _ (wJ (l:=l) (i:=i) (by omega))) (by omega)
  have ih:=aEi (n:=n) hl K t (i+1) k' (by omega) (by omega)
  simp only [iV,dT (show(i:Int)<(l.length:Int) by omega),bW,aC7 (l:=l) (i:=i) (by omega),oB,hb,Bool.not_true,bN,tks,mF (i:=i) (by omega)]
  by_cases h0:(t8 l i).dof<0
  ·have e:tk n l i=false:=decide_eq_false (by omega)
   simp only [dT h0,bW,e,Bool.false_and,bN]
  ·simp only [dF h0,bN]
   by_cases h1:(n:Int)≤(t8 l i).dof
   ·have e:tk n l i=false:=decide_eq_false (by omega)
    simp only [dT h1,bW,e,Bool.false_and,bN]
   ·simp only [dF h1,bN]
    by_cases h2:0<i
    ·have e1:aP ((i:Int)-1)=some ((i-1:Nat):Int):=by rw [kD (by omega)];congr 1;omega
     have e2:max (((i-1:Nat):Int)) 0=((i-1:Nat):Int):=by omega
     simp only [dT (show(0:Int)<(i:Int) by omega),bW,e1,oB,e2,aC7 (l:=l) (i:=i-1) (by omega)]
     by_cases h3:(t8 l i).dof≤(t8 l (i-1)).dof
     ·have e:tk n l i=false:=decide_eq_false (by omega)
      simp only [dT h3,bW,e,Bool.false_and,bN]
     ·have e:tk n l i=true:=decide_eq_true (by omega)
      simp only [dF h3,bN,e,Bool.true_and]
      exact ih
    ·have e:tk n l i=true:=decide_eq_true (by omega)
     simp only [dF (show¬(0:Int)<(i:Int) by omega),bN,e,Bool.true_and]
     exact ih
theorem aEn {n:Nat} {l:List aE} (hl:TB l) {K:Nat} (hK:13≤K):pW K l (n:Int)=some (tOk n l):=by
 have h:=hl.1
 have:=aEi (n:=n) hl K l.length 0 K (by omega) (by omega)
 simp only [Int.natCast_zero] at this
 simp only [pW,this,oB,uF,tOk]
 cases tks n l l.length 0<;>rfl
theorem aIh {l:List Rat} (hl:u7 64 l) (hn:l.length≤1000) (K:Nat):∀(t i k:Nat),i+t=l.length→t<k→fB K l p5 k (i:Int)=some (.go ())
 |0,i,k,hi,hk=>by
  obtain⟨k',rfl,_⟩:=aZ hk
  simp only [fB,dF (show¬(i:Int)<(l.length:Int) by omega),bN]
 |t+1,i,k,hi,hk=>by
  obtain⟨k',rfl,_⟩:=aZ hk
  simp only [fB,dT (show(i:Int)<(l.length:Int) by omega),bW,aDU (l:=l) (i:=i) (by omega),oB,p5,vI (hl _ (tP (l:=l) (i:=i) (by omega))) (by omega),Bool.not_true,bN,mF (i:=i) (by omega)]
  exact aIh hl hn K t (i+1) k' (by omega) (by omega)
theorem aH6 {l:List Rat} (hl:u7 64 l) (hn:l.length≤1000) {K:Nat} (hK:l.length<K):qL K l=some true:=by
 have:=aIh hl hn K l.length 0 K (by omega) (by omega)
 simp only [Int.natCast_zero] at this
 simp only [qL,lQ,nN,this,oB,lP];rfl
theorem aF5 {l:List Rat} (hl:u7 64 l) (hn:l.length≤1000) (K:Nat):∀(t i k:Nat),i+t=l.length→t<k→lW K l k (i:Int)=some (.go ())
 |0,i,k,hi,hk=>by
  obtain⟨k',rfl,_⟩:=aZ hk
  simp only [lW,dF (show¬(i:Int)<(l.length:Int) by omega),bN]
 |t+1,i,k,hi,hk=>by
  obtain⟨k',rfl,_⟩:=aZ hk
  simp only [lW,dT (show(i:Int)<(l.length:Int) by omega),bW,aDU (l:=l) (i:=i) (by omega),oB,vI (hl _ (tP (l:=l) (i:=i) (by omega))) (by omega),Bool.not_true,bN,mF (i:=i) (by omega)]
  exact aF5 hl hn K t (i+1) k' (by omega) (by omega)
theorem aG9 {l:List Rat} (hl:u7 64 l) (hn:l.length≤1000) {K:Nat} (hK:l.length<K):qJ K l=some true:=by
 have:=aF5 hl hn K l.length 0 K (by omega) (by omega)
 simp only [Int.natCast_zero] at this
 simp only [qJ,this,oB,u6]
structure SB (d:List aG) (f v:List Rat) (l:List aA):Prop where
 sd:∀x∈d,Bd 8 x.inv
 dl:d.length≤100
 sf:u7 64 f
 fl:f.length≤100
 sv:u7 64 v
 vl:v.length≤100
 sl:RsC l
 ll:l.length≤100
def aB0 (x:aG):Bool:=decide (0<x.inv.num.sign)
def zL (n:Nat) (v:List Rat) (r:aA):Bool:=tOk n r.j&&tOk n r.t&&decide (0≤r.mu.num.sign)
def qW (v:List Rat) (r:aA):Bool:=decide ((rt r.j v).num.sign=0)
def aAX (d:List aG) (f v:List Rat) (l:List aA):Bool:=decide (d.length≤12∧f.length=d.length∧v.length=d.length)&&d.all aB0&&l.all fun r=>zL d.length v r&&qW v r
theorem aEd {l:List aG} {i:Nat} (h:i<l.length):∃x,x∈l∧l.drop i=x::l.drop (i+1)∧bK l (i:Int)=some x:=
 ⟨l[i],List.getElem_mem h,List.drop_eq_getElem_cons h,rdG (List.getElem?_eq_getElem h)⟩
theorem aF3 {a0:aD} (hd:∀x∈a0.dofs,Bd 8 x.inv) (hl:a0.dofs.length≤100) (K:Nat):∀(t i k:Nat),i+t=a0.dofs.length→t<k→gH K a0 k (i:Int)=some (bif(a0.dofs.drop i).all aB0 then .go () else .ret false)
 |0,i,k,hi,hk=>by
  obtain⟨k',rfl,_⟩:=aZ hk
  rw [List.drop_eq_nil_of_le (by omega)]
  simp only [gH,dF (show¬(i:Int)<(a0.dofs.length:Int) by omega),bN];rfl
 |t+1,i,k,hi,hk=>by
  obtain⟨k',rfl,_⟩:=aZ hk
  obtain⟨x,h1,h2,h3⟩:=aEd (l:=a0.dofs) (i:=i) (by omega)
  have hb:=hd x h1
  rw [h2,List.all_cons]
  simp only [gH,dT (show(i:Int)<(a0.dofs.length:Int) by omega),bW,h3,oB,vI hb (by omega),Bool.not_true,bN,mY hb (by omega)]
  by_cases h:x.inv.num.sign≤0
  ·have e:aB0 x=false:=decide_eq_false (by omega)
   simp only [dT h,bW,e,Bool.false_and,bN]
  ·have e:aB0 x=true:=decide_eq_true (by omega)
   simp only [dF h,bN,e,Bool.true_and,mF (i:=i) (by omega),oB]
   exact aF3 hd hl K t (i+1) k' (by omega) (by omega)
theorem aEm {d:List aG} (hd:∀x∈d,Bd 8 x.inv) (hl:d.length≤100) (K:Nat):∀(t i k:Nat),i+t=d.length→t<k→jW K d k (i:Int)=some (bif(d.drop i).all aB0 then .go () else .ret false)
 |0,i,k,hi,hk=>by
  obtain⟨k',rfl,_⟩:=aZ hk
  rw [List.drop_eq_nil_of_le (by omega)]
  simp only [jW,dF (show¬(i:Int)<(d.length:Int) by omega),bN];rfl
 |t+1,i,k,hi,hk=>by
  obtain⟨k',rfl,_⟩:=aZ hk
  obtain⟨x,h1,h2,h3⟩:=aEd (l:=d) (i:=i) (by omega)
  have hb:=hd x h1
  rw [h2,List.all_cons]
  simp only [jW,dT (show(i:Int)<(d.length:Int) by omega),bW,h3,oB,vI hb (by omega),Bool.not_true,bN,mY hb (by omega)]
  by_cases h:x.inv.num.sign≤0
  ·have e:aB0 x=false:=decide_eq_false (by omega)
   simp only [dT h,bW,e,Bool.false_and,bN]
  ·have e:aB0 x=true:=decide_eq_true (by omega)
   simp only [dF h,bN,e,Bool.true_and,mF (i:=i) (by omega),oB]
   exact aEm hd hl K t (i+1) k' (by omega) (by omega)
theorem aKE {a0:aD} {n:Nat} {r:aA} (hv:u7 64 a0.v) (hr:RC r) {K:Nat} (hK:13≤K):kO K (n:Int) a0 r=some (!(zL n a0.v r&&qW a0.v r)):=by
 simp only [kO,aGx hr.1.1 hK,aGx hr.1.2 hK,oB,vI hr.2 (by omega),Bool.not_true,bN,mY hr.2 (by omega),aJo hv hr.1.1 hK,mY (aJg hv hr.1.1) (by omega),zL,qW]
 cases tOk n r.j
 ·rfl
 ·cases tOk n r.t
  ·rfl
  ·by_cases h:r.mu.num.sign<0
   ·simp only [Bool.not_true,bN,dT h,bW,dF (show¬0≤r.mu.num.sign by omega)];rfl
   ·simp only [Bool.not_true,bN,dF h,dT (show 0≤r.mu.num.sign by omega),Bool.true_and]
    by_cases h2:(rt r.j a0.v).num.sign=0
    ·rw [dT h2,nF h2];rfl
    ·rw [dF h2,nT h2];rfl
theorem aJn {d:List aG} {f v:List Rat} {l:List aA} (h:SB d f v l) {K:Nat} (hK:200≤K):mC K ⟨d,f,v,l⟩=some (aAX d f v l):=by
 have hdl:=h.dl
 have hfl:=h.fl
 have hvl:=h.vl
 have hll:=h.ll
 have e1:=aF3 (a0:=⟨d,f,v,l⟩) h.sd h.dl K d.length 0 K (by simp) (by omega)
 have e2:=aJ9 (l:=l) (b:=fun r=>!(zL d.length v r&&qW v r)) (fun r hr=>aKE (a0:=⟨d,f,v,l⟩) (n:=d.length) h.sv (h.sl r hr) (K:=K) (by omega)) (by omega) (show l.length<K by omega)
 simp only [Int.natCast_zero,List.drop_zero] at e1
 have e3:(!l.any fun r=>!(zL d.length v r&&qW v r))=l.all fun r=>zL d.length v r&&qW v r:=by
  rw [List.not_any_eq_all_not];congr;funext r;rw [Bool.not_not]
 simp only [mC,aH6 h.sf (by omega) (show f.length<K by omega),aH6 h.sv (by omega) (show v.length<K by omega),e1,nJ,e2,oB,Bool.not_true,bN,e3,aAX]
 by_cases h1:d.length≤12
 ·by_cases h2:f.length=d.length
  ·by_cases h3:v.length=d.length
   ·simp only [dF (show¬(12:Int)<(d.length:Int) by omega),nF (show(f.length:Int)=(d.length:Int) by omega),nF (show(v.length:Int)=(d.length:Int) by omega),bN,decide_eq_true (show d.length≤12∧f.length=d.length∧v.length=d.length from⟨h1,h2,h3⟩),Bool.true_and]
    cases d.all aB0<;>rfl
   ·simp only [dF (show¬(12:Int)<(d.length:Int) by omega),nF (show(f.length:Int)=(d.length:Int) by omega),nT (show(v.length:Int)≠(d.length:Int) by omega),bN,bW,decide_eq_false (show¬(d.length≤12∧f.length=d.length∧v.length=d.length) from fun h=>h3 h.2.2),Bool.false_and]
  ·simp only [dF (show¬(12:Int)<(d.length:Int) by omega),nT (show(f.length:Int)≠(d.length:Int) by omega),bN,bW,decide_eq_false (show¬(d.length≤12∧f.length=d.length∧v.length=d.length) from fun h=>h2 h.2.1),Bool.false_and]
 ·simp only [dT (show(12:Int)<(d.length:Int) by omega),bW,decide_eq_false (show¬(d.length≤12∧f.length=d.length∧v.length=d.length) from fun h=>h1 h.1),Bool.false_and]
theorem aEl {d:List aG} {v:List Rat} {l:List aA} (hl:RsC l) (hn:l.length≤100) {K:Nat} (hK:13≤K):∀(t i k:Nat),i+t=l.length→t<k→jT K d l k (i:Int)=some (bif(l.drop i).all (zL d.length v) then .go () else .ret false)
 |0,i,k,hi,hk=>by
  obtain⟨k',rfl,_⟩:=aZ hk
  rw [List.drop_eq_nil_of_le (by omega)]
  simp only [jT,dF (show¬(i:Int)<(l.length:Int) by omega),bN];rfl
 |t+1,i,k,hi,hk=>by
  obtain⟨k',rfl,_⟩:=aZ hk
  obtain⟨r,h1,h2,h3⟩:=aB2 (l:=l) (i:=i) (by omega)
  have hr:=hl r h1
  have ih:=aEl (d:=d) (v:=v) hl hn hK t (i+1) k' (by omega) (by omega)
  rw [h2,List.all_cons]
  simp only [jT,dT (show(i:Int)<(l.length:Int) by omega),bW,h3,oB,aEn hr.1.1 hK,aEn hr.1.2 hK,vI hr.2 (by omega),Bool.not_true,bN,mY hr.2 (by omega)]
  unfold zL at ih ⊢
  cases tOk d.length r.j
  ·rfl
  ·cases tOk d.length r.t
   ·rfl
   ·by_cases h:r.mu.num.sign<0
    ·simp only [Bool.not_true,bN,dT h,bW,dF (show¬0≤r.mu.num.sign by omega)];rfl
    ·simp only [Bool.not_true,bN,dF h,dT (show 0≤r.mu.num.sign by omega),Bool.true_and,mF (i:=i) (by omega),oB]
     exact ih
theorem aEN {v:List Rat} {l:List aA} (hv:u7 64 v) (hl:RsC l) (hn:l.length≤100) {K:Nat} (hK:13≤K):∀(t i k:Nat),i+t=l.length→t<k→mN K v l k (i:Int)=some (bif(l.drop i).all (qW v) then .go () else .ret false)
 |0,i,k,hi,hk=>by
  obtain⟨k',rfl,_⟩:=aZ hk
  rw [List.drop_eq_nil_of_le (by omega)]
  simp only [mN,dF (show¬(i:Int)<(l.length:Int) by omega),bN];rfl
 |t+1,i,k,hi,hk=>by
  obtain⟨k',rfl,_⟩:=aZ hk
  obtain⟨r,h1,h2,h3⟩:=aB2 (l:=l) (i:=i) (by omega)
  have hr:=hl r h1
  rw [h2,List.all_cons]
  simp only [mN,dT (show(i:Int)<(l.length:Int) by omega),bW,h3,oB,aGG hv hr.1.1 hK,mY (aJg hv hr.1.1) (by omega)]
  by_cases h:(rt r.j v).num.sign=0
  ·have e:qW v r=true:=decide_eq_true h
   simp only [nF h,bN,e,Bool.true_and,mF (i:=i) (by omega),oB]
   exact aEN hv hl hn hK t (i+1) k' (by omega) (by omega)
  ·have e:qW v r=false:=decide_eq_false h
   simp only [nT h,bW,e,Bool.false_and,bN]
theorem aGg {α:Type} {p q:α→Bool}:∀l:List α,(l.all fun x=>p x&&q x)=(l.all p&&l.all q)
 |[]=>rfl
 |x::l=>by
  rw [List.all_cons,List.all_cons,List.all_cons,aGg l]
  cases p x<;>cases q x<;>cases l.all p<;>rfl
theorem aHj {d:List aG} {f v:List Rat} {l:List aA} (h:SB d f v l) {K:Nat} (hK:200≤K):rN K d f v l=some (aAX d f v l):=by
 have hdl:=h.dl
 have hfl:=h.fl
 have hvl:=h.vl
 have hll:=h.ll
 have e1:=aEm (d:=d) h.sd h.dl K d.length 0 K (by simp) (by omega)
 have e2:=aEl (d:=d) (v:=v) h.sl h.ll (K:=K) (by omega) l.length 0 K (by omega) (by omega)
 have e3:=aEN h.sv h.sl h.ll (K:=K) (by omega) l.length 0 K (by omega) (by omega)
 simp only [Int.natCast_zero,List.drop_zero] at e1 e2 e3
 simp only [rN,vM,aG9 h.sf (by omega) (show f.length<K by omega),aG9 h.sv (by omega) (show v.length<K by omega),e1,sW,e2,s0,e3,vQ,oB,Bool.not_true,bN,aAX,aGg (p:=zL d.length v) (q:=qW v)]
 by_cases h1:d.length≤12
 ·by_cases h2:f.length=d.length
  ·by_cases h3:v.length=d.length
   ·simp only [dF (show¬(12:Int)<(d.length:Int) by omega),nF (show(f.length:Int)=(d.length:Int) by omega),nF (show(v.length:Int)=(d.length:Int) by omega),bN,decide_eq_true (show d.length≤12∧f.length=d.length∧v.length=d.length from⟨h1,h2,h3⟩),Bool.true_and]
    cases d.all aB0
    ·rfl
    ·cases l.all (zL d.length v)
     ·rfl
     ·cases l.all (qW v)<;>rfl
   ·simp only [dF (show¬(12:Int)<(d.length:Int) by omega),nF (show(f.length:Int)=(d.length:Int) by omega),nT (show(v.length:Int)≠(d.length:Int) by omega),bN,bW,decide_eq_false (show¬(d.length≤12∧f.length=d.length∧v.length=d.length) from fun h=>h3 h.2.2),Bool.false_and,oB,Bool.not_false]
  ·simp only [dF (show¬(12:Int)<(d.length:Int) by omega),nT (show(f.length:Int)≠(d.length:Int) by omega),bN,bW,decide_eq_false (show¬(d.length≤12∧f.length=d.length∧v.length=d.length) from fun h=>h2 h.2.1),Bool.false_and,oB,Bool.not_false]
 ·simp only [dT (show(12:Int)<(d.length:Int) by omega),bW,decide_eq_false (show¬(d.length≤12∧f.length=d.length∧v.length=d.length) from fun h=>h1 h.1),Bool.false_and,oB,Bool.not_false]
end Go.Proofs.YtcjdedkdoagifaaGreat
set_option linter.unusedVariables false
namespace Go.Proofs.YtcjdedkdoagifaaGreat
/-- What the terms say of a degree of freedom. -/
def cf:List aE→Nat→Rat
 |[],_=>0
 |t::l,i=>(if t.dof=(i:Int) then t.k else 0)+cf l i
def InT (n:Nat) (l:List aE):Prop:=∀t∈l,0≤t.dof∧t.dof<(n:Int)
theorem aLo {n:Nat} {l:List aE}:∀(t i:Nat),tks n l t i=true→∀j,i≤j→j<i+t→tk n l j=true
 |0,i,h,j,h1,h2=>by omega
 |t+1,i,h,j,h1,h2=>by
  have h3:(tk n l i&&tks n l t (i+1))=true:=h
  rw [Bool.and_eq_true] at h3
  by_cases e:j=i
  ·rw [e];exact h3.1
  ·exact aLo t (i+1) h3.2 j (by omega) (by omega)
theorem aLn {n:Nat} {l:List aE} (h:tOk n l=true):InT n l:=fun t ht=>by
 obtain⟨i,hi,rfl⟩:=List.getElem_of_mem ht
 have:=of_decide_eq_true (aLo l.length 0 h i (by omega) (by omega))
 have e:t8 l i=l[i]:=by unfold t8;simp [List.getD_eq_getElem?_getD,hi]
 rw [e] at this
 exact⟨this.1,this.2.1⟩
theorem aQD {A B t:Nat} (h:A+(B+9)*(t+1)≤1073741824):A+(8+B)+1+(B+9)*t≤1073741824∧A≤1073741824∧B≤1073741824:=by
 rw [Nat.mul_succ] at h;omega
theorem aPC {g:Nat→Rat} {n A B e:Nat} {v:Rat} (hg:∀j,j<n→Bd A (g j)) (hAB:A≤B) (hv:Bd B v):∀j,j<n→Bd B (jI g e v j):=fun j hj=>by
 by_cases h:j=e
 ·rw [h,bD];exact hv
 ·rw [cZ h];exact(hg j hj).mono hAB
theorem aMt {g:Nat→Rat} {n e:Nat} {y:aE} {l:List aE} {c:Rat} (he:y.dof=(e:Int)):mp (fun j=>jI g e (g e+y.k*c) j+cf l j*c) n=mp (fun j=>g j+cf (y::l) j*c) n:=bV fun j _=>by
 show _=g j+((if y.dof=(j:Int) then y.k else 0)+cf l j)*c
 by_cases h:j=e
 ·subst h;rw [bD,if_pos he,Rat.add_mul,Rat.add_assoc]
 ·rw [cZ h,if_neg (by omega),Rat.zero_add]
theorem aM5 {n C:Nat} {l:List aE} {c:Rat} (hl:∀t∈l,Bd 8 t.k) (hi:InT n l) (hc:Bd C c) (Fl:Nat→List Rat→Int→Option (List Rat)) (h0:∀k x,Fl (k+1) x (l.length:Int)=some x)
  (h1:∀k (g:Nat→Rat) (i A:Nat),i<l.length→(∀j,j<n→Bd A (g j))→A≤1073741824→C≤1073741824→∀(e:Nat),(t8 l i).dof=(e:Int)→e<n→Fl (k+1) (mp g n) (i:Int)=Fl k (mp (jI g e (g e+(t8 l i).k*c)) n) ((i+1:Nat):Int)):
  ∀(t i k A:Nat) (g:Nat→Rat),i+t=l.length→t<k→(∀j,j<n→Bd A (g j))→A+(C+9)*t≤1073741824→Fl k (mp g n) (i:Int)=some (mp (fun j=>g j+cf (l.drop i) j*c) n)∧∀j,j<n→Bd (A+(C+9)*t) (g j+cf (l.drop i) j*c)
 |0,i,k,A,g,hi',hk,hg,hA=>by
  obtain⟨k',rfl,_⟩:=aZ hk
  have e:i=l.length:=by omega
  subst e
  have e2:∀j,g j+cf (l.drop l.length) j*c=g j:=fun j=>by rw [List.drop_eq_nil_of_le (Nat.le_refl _)];show g j+0*c=g j;rw [Rat.zero_mul,Rat.add_zero]
  refine⟨?_,fun j hj=>by rw [e2];exact(hg j hj).mono (by omega)⟩
  rw [h0,bV (g:=g) fun j _=>e2 j]
 |t+1,i,k,A,g,hi',hk,hg,hA=>by
  obtain⟨k',rfl,_⟩:=aZ hk
  have hil:i<l.length:=by omega
  obtain⟨b1,b2,b3⟩:=aQD hA
  obtain⟨m1,m2⟩:=hi _ (wJ hil)
  have he:(t8 l i).dof=(((t8 l i).dof.toNat:Nat):Int):=by omega
  have hv:=(hg _ (show(t8 l i).dof.toNat<n by omega)).add ((hl _ (wJ hil)).mul hc)
  have ih:=aM5 hl hi hc Fl h0 h1 t (i+1) k' (A+(8+C)+1) (jI g (t8 l i).dof.toNat (g (t8 l i).dof.toNat+(t8 l i).k*c)) (by omega) (by omega) (aPC hg (by omega) hv) b1
  have ed:l.drop i=t8 l i::l.drop (i+1):=by
   rw [List.drop_eq_getElem_cons hil];unfold t8;simp [List.getD_eq_getElem?_getD,hil]
  have e3:=aMt (n:=n) (g:=g) (l:=l.drop (i+1)) (c:=c) he
  rw [h1 k' g i A hil hg b2 b3 _ he (by omega),ih.1,ed,e3]
  refine⟨rfl,fun j hj=>?_⟩
  have e4:=congrArg (fun x=>qK x j) e3
  simp only [aAT hj] at e4
  rw [←e4]
  exact(ih.2 j hj).mono (by rw [Nat.mul_succ];omega)
theorem aL6 {n C:Nat} {l:List aE} {c:Rat} (hl:TB l) (hi:InT n l) (hc:Bd C c) {A:Nat} {g:Nat→Rat} (hg:∀j,j<n→Bd A (g j)) (hA:A+(C+9)*12≤1073741824) (hn:n≤1000) {K:Nat} (hK:13≤K):
  rO K (mp g n) l c=some (mp (fun j=>g j+cf l j*c) n)∧∀j,j<n→Bd (A+(C+9)*12) (g j+cf l j*c):=by
 have h12:=hl.1
 have hm:=Nat.mul_le_mul_left (C+9) h12
 have key:=aM5 (n:=n) hl.2 hi hc (fun k x i=>lX K l c k x i) (fun k x=>by
  simp only [lX,dF (show¬(l.length:Int)<(l.length:Int) by omega),bN]) (fun k g i A hil hg h1 h2 e he hen=>by
  have hk:=hl.2 _ (wJ hil)
  simp only [lX,dT (show(i:Int)<(l.length:Int) by omega),bW,aC7 hil,oB,he,dW (f:=g) hen,oH hk hc (by omega) h2,vG (hg e hen) (hk.mul hc) h1 (by omega),rF (f:=g) hen,mF (i:=i) (by omega)]) l.length 0 K A g (by omega) (by omega) hg (by omega)
 simp only [Int.natCast_zero,List.drop_zero] at key
 have ha:qV ([]:List Rat) (mp g n)=some (mp g n):=by rw [aAj (by simp [mp];omega)];rfl
 refine⟨?_,fun j hj=>(key.2 j hj).mono (by omega)⟩
 simp only [rO,ha,oB,key.1,uW]
def lH (l:List aA) (i:Nat):aA:=l.getD i ⟨0,0,0,0,0,[],[],0,0⟩
theorem aBo {l:List aA} {i:Nat} (h:i<l.length):bK l (i:Int)=some (lH l i):=rdD _ h
theorem pN {l:List aA} {i:Nat} (h:i<l.length):lH l i∈l:=by
 unfold lH
 simp only [List.getD_eq_getElem?_getD,List.getElem?_eq_getElem h,Option.getD_some]
 exact List.getElem_mem h
def rcq (l:List aA) (p:Nat→aF) (r j:Nat):Rat:=cf (lH l r).j j*(p r).n+cf (lH l r).t j*(p r).f
def sF (l:List aA) (p:Nat→aF) (m j:Nat):Rat:=sm (fun r=>rcq l p r j) m
def InR (n:Nat) (l:List aA):Prop:=∀r∈l,InT n r.j∧InT n r.t
def PB' (C m:Nat) (p:Nat→aF):Prop:=∀r,r<m→Bd C (p r).n∧Bd C (p r).f
theorem aNo {A C t:Nat} (h:A+(C+9)*24*(t+1)≤1073741824):A+(C+9)*12≤1073741824∧A+(C+9)*12+(C+9)*12≤1073741824∧A+(C+9)*12+(C+9)*12+(C+9)*24*t≤1073741824:=by
 rw [Nat.mul_succ ((C+9)*24) t] at h
 generalize(C+9)*24*t=x at *
 omega
theorem aIZ {g:Nat→Rat} {l:List aA} {p:Nat→aF} {i n:Nat} (f:Nat→Rat) (hg:g=fun j=>f j+sF l p i j):mp (fun j=>g j+cf (lH l i).j j*(p i).n+cf (lH l i).t j*(p i).f) n=mp (fun j=>f j+sF l p (i+1) j) n:=bV fun j _=>by
 subst hg
 show f j+sF l p i j+_+_=f j+(sF l p i j+rcq l p i j)
 unfold rcq
 rw [Rat.add_assoc,Rat.add_assoc]
theorem aCB {n C:Nat} {l:List aA} {p:Nat→aF} (hl:RsB l) (hr:InR n l) (hp:PB' C l.length p) (f:Nat→Rat) (hn:n≤1000) (hll:l.length≤1000) {K:Nat} (hK:13≤K):
  ∀(t i k A:Nat),i+t=l.length→t<k→(∀j,j<n→Bd A (f j+sF l p i j))→A+(C+9)*24*t≤1073741824→lU K l (mp p l.length) k (mp (fun j=>f j+sF l p i j) n) (i:Int)=some (mp (fun j=>f j+sF l p l.length j) n)∧∀j,j<n→Bd (A+(C+9)*24*t) (f j+sF l p l.length j)
 |0,i,k,A,hi',hk,hg,hA=>by
  obtain⟨k',rfl,_⟩:=aZ hk
  have e:i=l.length:=by omega
  subst e
  exact⟨by simp only [lU,dF (show¬(l.length:Int)<(l.length:Int) by omega),bN],fun j hj=>(hg j hj).mono (by omega)⟩
 |t+1,i,k,A,hi',hk,hg,hA=>by
  obtain⟨k',rfl,_⟩:=aZ hk
  have hil:i<l.length:=by omega
  obtain⟨b1,b2,b3⟩:=aNo hA
  have hm:=pN hil
  obtain⟨p1,p2⟩:=hp i hil
  obtain⟨e1,f1⟩:=aL6 (hl _ hm).1 (hr _ hm).1 p1 hg b1 hn hK
  obtain⟨e2,f2⟩:=aL6 (hl _ hm).2 (hr _ hm).2 p2 f1 b2 hn hK
  have e3:=aIZ (n:=n) (l:=l) (p:=p) (i:=i) f rfl
  have f3:∀j,j<n→Bd (A+(C+9)*12+(C+9)*12) (f j+sF l p (i+1) j):=fun j hj=>by
   have:=congrArg (fun x=>qK x j) e3
   simp only [aAT hj] at this
   rw [←this];exact f2 j hj
  obtain⟨i1,i2⟩:=aCB hl hr hp f hn hll hK t (i+1) k' _ (by omega) (by omega) f3 b3
  have hms:(C+9)*24*(t+1)=(C+9)*24*t+(C+9)*24:=Nat.mul_succ _ _
  refine⟨?_,fun j hj=>(i2 j hj).mono (by omega)⟩
  simp only [lU,dT (show(i:Int)<(l.length:Int) by omega),bW,aBo hil,dW (f:=p) hil,oB,e1,e2,e3,mF (i:=i) (by omega)]
  exact i1
def aAe (d:List aG) (i:Nat):aG:=d.getD i ⟨0,0,false,0,0⟩
theorem aMd {d:List aG} {i:Nat} (h:i<d.length):bK d (i:Int)=some (aAe d i):=rdD _ h
theorem aBG {d:List aG} {i:Nat} (h:i<d.length):aAe d i∈d:=by
 unfold aAe
 simp only [List.getD_eq_getElem?_getD,List.getElem?_eq_getElem h,Option.getD_some]
 exact List.getElem_mem h
def acc (d:List aG) (f:Nat→Rat) (l:List aA) (p:Nat→aF) (j:Nat):Rat:=(f j+sF l p l.length j)*(aAe d j).inv
def aHB (A C m:Nat):Nat:=A+(C+9)*24*m+8
theorem aI4 {d:List aG} {f s:Nat→Rat} {A B:Nat} (hd:∀x∈d,Bd 8 x.inv) (hn:d.length≤1000) (hf:∀j,j<d.length→Bd A (f j)) (hs:∀j,j<d.length→Bd B (s j)) (hA:A≤500000000) (hB:B≤500000000) (K:Nat):
  ∀(t i k:Nat),i+t=d.length→t<k→fQ K d (mp f d.length) (mp s d.length) k (mp (fun j=>(aAe d j).inv*(f j+s j)) i) (i:Int)=some (mp (fun j=>(aAe d j).inv*(f j+s j)) d.length)
 |0,i,k,hi,hk=>by
  obtain⟨k',rfl,_⟩:=aZ hk
  have e:i=d.length:=by omega
  subst e
  simp only [fQ,dF (show¬(d.length:Int)<(d.length:Int) by omega),bN]
 |t+1,i,k,hi,hk=>by
  obtain⟨k',rfl,_⟩:=aZ hk
  have hil:i<d.length:=by omega
  have hv:=hd _ (aBG hil)
  simp only [fQ,dT (show(i:Int)<(d.length:Int) by omega),bW,aMd hil,dW (f:=f) hil,dW (f:=s) hil,oB,vG (hf i hil) (hs i hil) (by omega) (by omega),oH hv ((hf i hil).add (hs i hil)) (by omega) (by omega),apM (g:=fun j=>(aAe d j).inv*(f j+s j)) (i:=i) (by omega),mF (i:=i) (by omega)]
  exact aI4 hd hn hf hs hA hB K t (i+1) k' (by omega) (by omega)
theorem aIl {d:List aG} {f:Nat→Rat} {l:List aA} {p:Nat→aF} {A C:Nat} (hd:∀x∈d,Bd 8 x.inv) (hn:d.length≤1000) (hf:∀j,j<d.length→Bd A (f j)) (hl:RsB l) (hr:InR d.length l) (hll:l.length≤1000) (hp:PB' C l.length p) (hA:A≤400000000) (hC:(C+9)*24*l.length≤400000000) {K:Nat} (hK:2000≤K):
  kQ K d (mp f d.length) l (mp p l.length)=some (mp (acc d f l p) d.length):=by
 have z:mp (fun j=>(0:Rat)+sF l p 0 j) d.length=mp (fun _=>(0:Rat)) d.length:=bV fun j _=>by show(0:Rat)+0=0;exact Rat.add_zero 0
 obtain⟨s1,s2⟩:=aCB (p:=p) hl hr hp (fun _=>(0:Rat)) hn hll (show 13≤K by omega) l.length 0 K 1 (by omega) (by omega) (fun j hj=>by show Bd 1 ((0:Rat)+0);rw [Rat.add_zero];exact Bd.zero) (by omega)
 rw [z] at s1
 have s3:∀j,j<d.length→Bd 400000001 ((0:Rat)+sF l p l.length j):=fun j hj=>(s2 j hj).mono (by omega)
 have a1:=aI4 hd hn hf s3 (by omega) (by omega) K d.length 0 K (by omega) (by omega)
 simp only [Int.natCast_zero,zH] at s1 a1
 have e:mp (fun j=>(aAe d j).inv*(f j+((0:Rat)+sF l p l.length j))) d.length=mp (acc d f l p) d.length:=bV fun j _=>by rw [Rat.zero_add,Rat.mul_comm];rfl
 simp only [kQ,xA,aAx (z:=(0:Rat)) (n:=d.length) (by omega),oB,s1,uZ,a1,pJ,e]
theorem aDc {d:List aG} {f:Nat→Rat} {l:List aA} {p:Nat→aF} {A C:Nat} (hd:∀x∈d,Bd 8 x.inv) (hf:∀j,j<d.length→Bd A (f j)) (hl:RsB l) (hr:InR d.length l) (hp:PB' C l.length p) (hn:d.length≤1000) (hll:l.length≤1000) (hA:A≤400000000) (hC:(C+9)*24*l.length≤400000000):u7 (aHB A C l.length) (mp (acc d f l p) d.length):=z6 fun j hj=>by
 obtain⟨_,s2⟩:=aCB (p:=p) hl hr hp f hn hll (K:=1013) (by omega) l.length 0 (l.length+1) A (by omega) (by omega) (fun j hj=>by show Bd A (f j+0);rw [Rat.add_zero];exact hf j hj) (by omega)
 exact(s2 j hj).mul (hd _ (aBG hj))
theorem aKM {n C:Nat} {a2:List aF} {r:Nat} {v72:aA} {q:aF} (hq:bK a2 (r:Int)=some q) (hl:TB v72.j) (hi:InT n v72.j) (hc:Bd C q.n) {A:Nat} {g:Nat→Rat} (hg:∀j,j<n→Bd A (g j)) (hA:A+(C+9)*12≤1073741824) {K:Nat} (hK:13≤K):
  cL K a2 (r:Int) v72 K (mp g n) 0=some (mp (fun j=>g j+cf v72.j j*q.n) n)∧∀j,j<n→Bd (A+(C+9)*12) (g j+cf v72.j j*q.n):=by
 have h12:=hl.1
 have hm:=Nat.mul_le_mul_left (C+9) h12
 have key:=aM5 (n:=n) hl.2 hi hc (fun k x i=>cL K a2 (r:Int) v72 k x i) (fun k x=>by
  simp only [cL,dF (show¬(v72.j.length:Int)<(v72.j.length:Int) by omega),bN]) (fun k g i A hil hg h1 h2 e he hen=>by
  have hk:=hl.2 _ (wJ hil)
  simp only [cL,dT (show(i:Int)<(v72.j.length:Int) by omega),bW,aC7 hil,oB,he,dW (f:=g) hen,hq,oH hk hc (by omega) h2,vG (hg e hen) (hk.mul hc) h1 (by omega),rF (f:=g) hen,mF (i:=i) (by omega)]) v72.j.length 0 K A g (by omega) (by omega) hg (by omega)
 simp only [Int.natCast_zero,List.drop_zero] at key
 exact⟨key.1,fun j hj=>(key.2 j hj).mono (by omega)⟩
theorem aKa {n C:Nat} {a2:List aF} {r:Nat} {v72:aA} {q:aF} (hq:bK a2 (r:Int)=some q) (hl:TB v72.t) (hi:InT n v72.t) (hc:Bd C q.f) {A:Nat} {g:Nat→Rat} (hg:∀j,j<n→Bd A (g j)) (hA:A+(C+9)*12≤1073741824) {K:Nat} (hK:13≤K):
  cG K a2 (r:Int) v72 K (mp g n) 0=some (mp (fun j=>g j+cf v72.t j*q.f) n)∧∀j,j<n→Bd (A+(C+9)*12) (g j+cf v72.t j*q.f):=by
 have h12:=hl.1
 have hm:=Nat.mul_le_mul_left (C+9) h12
 have key:=aM5 (n:=n) hl.2 hi hc (fun k x i=>cG K a2 (r:Int) v72 k x i) (fun k x=>by
  simp only [cG,dF (show¬(v72.t.length:Int)<(v72.t.length:Int) by omega),bN]) (fun k g i A hil hg h1 h2 e he hen=>by
  have hk:=hl.2 _ (wJ hil)
  simp only [cG,dT (show(i:Int)<(v72.t.length:Int) by omega),bW,aC7 hil,oB,he,dW (f:=g) hen,hq,oH hk hc (by omega) h2,vG (hg e hen) (hk.mul hc) h1 (by omega),rF (f:=g) hen,mF (i:=i) (by omega)]) v72.t.length 0 K A g (by omega) (by omega) hg (by omega)
 simp only [Int.natCast_zero,List.drop_zero] at key
 exact⟨key.1,fun j hj=>(key.2 j hj).mono (by omega)⟩
theorem aF8 {a0:aD} {n C:Nat} {p:Nat→aF} (hl:RsB a0.rows) (hr:InR n a0.rows) (hp:PB' C a0.rows.length p) (f:Nat→Rat) (hn:n≤1000) (hll:a0.rows.length≤1000) {K:Nat} (hK:13≤K):
  ∀(t i k A:Nat),i+t=a0.rows.length→t<k→(∀j,j<n→Bd A (f j+sF a0.rows p i j))→A+(C+9)*24*t≤1073741824→bX K a0 (mp p a0.rows.length) k (mp (fun j=>f j+sF a0.rows p i j) n) (i:Int)=some (mp (fun j=>f j+sF a0.rows p a0.rows.length j) n)
 |0,i,k,A,hi',hk,hg,hA=>by
  obtain⟨k',rfl,_⟩:=aZ hk
  have e:i=a0.rows.length:=by omega
  subst e
  simp only [bX,dF (show¬(a0.rows.length:Int)<(a0.rows.length:Int) by omega),bN]
 |t+1,i,k,A,hi',hk,hg,hA=>by
  obtain⟨k',rfl,_⟩:=aZ hk
  have hil:i<a0.rows.length:=by omega
  obtain⟨b1,b2,b3⟩:=aNo hA
  have hm:=pN hil
  obtain⟨p1,p2⟩:=hp i hil
  have hq:=dW (f:=p) hil
  obtain⟨e1,f1⟩:=aKM hq (hl _ hm).1 (hr _ hm).1 p1 hg b1 hK
  obtain⟨e2,f2⟩:=aKa hq (hl _ hm).2 (hr _ hm).2 p2 f1 b2 hK
  have e3:=aIZ (n:=n) (l:=a0.rows) (p:=p) (i:=i) f rfl
  have f3:∀j,j<n→Bd (A+(C+9)*12+(C+9)*12) (f j+sF a0.rows p (i+1) j):=fun j hj=>by
   have:=congrArg (fun x=>qK x j) e3
   simp only [aAT hj] at this
   rw [←this];exact f2 j hj
  simp only [bX,dT (show(i:Int)<(a0.rows.length:Int) by omega),bW,aBo hil,oB,e1,iD,e2,e3,gX,mF (i:=i) (by omega)]
  exact aF8 hl hr hp f hn hll hK t (i+1) k' _ (by omega) (by omega) f3 b3
theorem aGo {a0:aD} {B:Nat} (hd:∀x∈a0.dofs,Bd 8 x.inv) (hn:a0.dofs.length≤1000) (hB:B≤1000000000) (h:Nat→Rat) (hh:∀j,j<a0.dofs.length→Bd B (h j)) (K:Nat):
  ∀(t i k:Nat),i+t=a0.dofs.length→t<k→dC K a0 k (mp (fun j=>if j<i then h j*(aAe a0.dofs j).inv else h j) a0.dofs.length) (i:Int)=some (mp (fun j=>h j*(aAe a0.dofs j).inv) a0.dofs.length)
 |0,i,k,hi,hk=>by
  obtain⟨k',rfl,_⟩:=aZ hk
  have e:i=a0.dofs.length:=by omega
  subst e
  simp only [dC,dF (show¬(a0.dofs.length:Int)<(a0.dofs.length:Int) by omega),bN]
  exact congrArg some (bV fun j hj=>if_pos hj)
 |t+1,i,k,hi,hk=>by
  obtain⟨k',rfl,_⟩:=aZ hk
  have hil:i<a0.dofs.length:=by omega
  have e1:(fun j=>if j<i then h j*(aAe a0.dofs j).inv else h j) i=h i:=if_neg (by omega)
  have e2:mp (jI (fun j=>if j<i then h j*(aAe a0.dofs j).inv else h j) i (h i*(aAe a0.dofs i).inv)) a0.dofs.length=mp (fun j=>if j<i+1 then h j*(aAe a0.dofs j).inv else h j) a0.dofs.length:=bV fun j hj=>by
   by_cases e:j=i
   ·subst e;rw [bD,if_pos (by omega)]
   ·rw [cZ e]
    by_cases hlt:j<i
    ·rw [if_pos hlt,if_pos (by omega)]
    ·rw [if_neg hlt,if_neg (by omega)]
  simp only [dC,dT (show(i:Int)<(a0.dofs.length:Int) by omega),bW,aMd hil,dW (f:=fun j=>if j<i then h j*(aAe a0.dofs j).inv else h j) hil,e1,oB,oH (hh i hil) (hd _ (aBG hil)) (by omega) (by omega),rF (f:=fun j=>if j<i then h j*(aAe a0.dofs j).inv else h j) hil,e2,mF (i:=i) (by omega)]
  exact aGo hd hn hB h hh K t (i+1) k' (by omega) (by omega)
theorem aLi {x:List Rat} (hn:x.length≤60000000000):nW x=some x:=by
 unfold nW
 first|(rw [aAj (by simp;omega)];rfl)|(simp [aAj (show([]:List Rat).length+x.length≤60000000000 by simp;omega)])
theorem aFE {d:List aG} {f0 v0:List Rat} {f:Nat→Rat} {l:List aA} {p:Nat→aF} {A C:Nat} (hd:∀x∈d,Bd 8 x.inv) (hn:d.length≤1000) (hf:∀j,j<d.length→Bd A (f j)) (hl:RsB l) (hr:InR d.length l) (hll:l.length≤1000) (hp:PB' C l.length p) (hA:A≤400000000) (hC:(C+9)*24*l.length≤400000000) {K:Nat} (hK:2000≤K):
  bE K ⟨d,f0,v0,l⟩ (mp f d.length) (mp p l.length)=some (mp (acc d f l p) d.length):=by
 have z:mp (fun j=>f j+sF l p 0 j) d.length=mp f d.length:=bV fun j _=>Rat.add_zero _
 have hz:∀j,j<d.length→Bd A (f j+sF l p 0 j):=fun j hj=>by show Bd A (f j+0);rw [Rat.add_zero];exact hf j hj
 have s1:=aF8 (a0:=⟨d,f0,v0,l⟩) (p:=p) hl hr hp f hn hll (show 13≤K by omega) l.length 0 K A (by simp) (by omega) hz (by omega)
 obtain⟨_,s2⟩:=aCB (p:=p) hl hr hp f hn hll (K:=1013) (by omega) l.length 0 (l.length+1) A (by omega) (by omega) hz (by omega)
 have s3:=aGo (a0:=⟨d,f0,v0,l⟩) (B:=900000000) hd hn (by omega) (fun j=>f j+sF l p l.length j) (fun j hj=>(s2 j hj).mono (by omega)) K d.length 0 K (by simp) (by omega)
 simp only at s1 s3
 rw [z] at s1
 have e0:mp (fun j=>if j<0 then(f j+sF l p l.length j)*(aAe d j).inv else f j+sF l p l.length j) d.length=mp (fun j=>f j+sF l p l.length j) d.length:=bV fun j _=>if_neg (by omega)
 rw [e0] at s3
 simp only [Int.natCast_zero] at s1 s3
 have hc:=aLi (x:=mp f d.length) (by rw [cB];omega)
 simp only [bE,hc,oB,s1,iA,s3,iC]
 rfl
end Go.Proofs.YtcjdedkdoagifaaGreat
set_option linter.unusedVariables false
namespace Go.Proofs.YtcjdedkdoagifaaGreat
/-- Whether a row sticks. -/
def zK (v:List Rat) (r:aA):Bool:=decide (0<r.t.length)&&decide ((rt r.t v).num.sign=0)
def blk (v:List Rat) (l:List aA) (i:Nat):List (Nat×Nat):=(i,0)::(bif zK v (lH l i) then [(i,1),(i,2),(i,3)] else [])
def w8 (v:List Rat) (l:List aA):Nat→List (Nat×Nat)
 |0=>[]
 |i+1=>w8 v l i++blk v l i
def off (v:List Rat) (l:List aA):Nat→Nat
 |0=>0
 |i+1=>off v l i+(bif zK v (lH l i) then 4 else 1)
theorem xG {v:List Rat} {l:List aA}:∀m,(w8 v l m).length=off v l m
 |0=>rfl
 |m+1=>by
  show(w8 v l m++blk v l m).length=off v l m+_
  rw [List.length_append,xG m]
  unfold blk
  cases zK v (lH l m)<;>rfl
theorem qR {v:List Rat} {l:List aA}:∀m,off v l m≤4*m
 |0=>Nat.le_refl _
 |m+1=>by
  have:=qR (v:=v) (l:=l) m
  show off v l m+_≤_
  cases zK v (lH l m)
  ·show off v l m+1≤_;omega
  ·show off v l m+4≤_;omega
def vq (v:List Rat) (l:List aA) (r q:Nat):Prop:=q=0∨(zK v (lH l r)=true∧q≤3)
theorem aGj {v:List Rat} {l:List aA} {r q:Nat} (h:vq v l r q):off v l r+q<off v l (r+1):=by
 show _<off v l r+(bif zK v (lH l r) then 4 else 1)
 rcases h with h|⟨h,h2⟩
 ·rw [h];cases zK v (lH l r)<;>simp
 ·rw [h];show _<off v l r+4;omega
theorem aL7 {v:List Rat} {l:List aA} {r m:Nat} (h:r≤m):off v l r≤off v l m:=by
 induction m with
 |zero=>
  have:r=0:=by omega
  rw [this];exact Nat.le_refl _
 |succ m ih=>
  by_cases e:r=m+1
  ·rw [e];exact Nat.le_refl _
  ·have h1:=ih (by omega)
   have h2:=aGj (v:=v) (l:=l) (r:=m) (q:=0) (.inl rfl)
   omega
theorem sU {v:List Rat} {l:List aA} {r m q:Nat} (h:r<m) (hq:vq v l r q):off v l r+q<off v l m:=Nat.lt_of_lt_of_le (aGj hq) (aL7 h)
theorem aCx {v:List Rat} {l:List aA} {r q:Nat} (hq:vq v l r q):∀m,r<m→(w8 v l m)[off v l r+q]?=some (r,q)
 |0,h=>by omega
 |m+1,h=>by
  show(w8 v l m++blk v l m)[off v l r+q]?=some (r,q)
  by_cases e:r=m
  ·subst e
   rw [List.getElem?_append_right (by rw [xG];omega),xG,Nat.add_sub_cancel_left]
   unfold blk
   rcases hq with hq|⟨h1,h2⟩
   ·rw [hq];rfl
   ·rw [h1]
    have:q=0∨q=1∨q=2∨q=3:=by omega
    rcases this with rfl|rfl|rfl|rfl<;>rfl
  ·rw [List.getElem?_append_left (by rw [xG];exact sU (by omega) hq)]
   exact aCx hq m (by omega)
theorem sP {v:List Rat} {l:List aA}:∀m k,k<off v l m→∃r q,r<m∧vq v l r q∧k=off v l r+q
 |0,k,h=>by exact absurd h (Nat.not_lt_zero _)
 |m+1,k,h=>by
  by_cases e:k<off v l m
  ·obtain⟨r,q,h1,h2,h3⟩:=sP m k e
   exact⟨r,q,by omega,h2,h3⟩
  ·have h':k<off v l m+(bif zK v (lH l m) then 4 else 1):=h
   refine⟨m,k-off v l m,by omega,?_,by omega⟩
   cases hs:zK v (lH l m)
   ·rw [hs] at h';have:k<off v l m+1:=h';exact .inl (by omega)
   ·rw [hs] at h';have:k<off v l m+4:=h';exact .inr ⟨hs,by omega⟩
theorem aCC {v:List Rat} {l:List aA} {r q r' q':Nat} (h:vq v l r q) (h':vq v l r' q') (e:off v l r+q=off v l r'+q'):r=r'∧q=q':=by
 have key:r=r':=by
  rcases Nat.lt_trichotomy r r' with h1|h1|h1
  ·have:=sU h1 h;omega
  ·exact h1
  ·have:=sU h1 h';omega
 subst key
 exact⟨rfl,by omega⟩
def pu (x:Nat×Nat):aC:=⟨(x.1:Int),(x.2:Int)⟩
def ru (x:Nat×Nat):aQ:=⟨(x.1:Int),(x.2:Int)⟩
theorem aJk {d:List aG} {f v:List Rat} {l:List aA} {r:aA} (hv:u7 64 v) (hr:RB r) {K:Nat} (hK:13≤K):kE K ⟨d,f,v,l⟩ r=some (rt r.t v).num.sign:=by
 simp only [kE,aJo hv hr.2 hK,oB,mY (aJg hv hr.2) (by omega)]
theorem aGW {v:List Rat} {r:aA} (hv:u7 64 v) (hr:RB r) {K:Nat} (hK:13≤K):qE K r v=some (rt r.t v).num.sign:=by
 simp only [qE,aGG hv hr.2 hK,oB,mY (aJg hv hr.2) (by omega)]
theorem apA {α:Type} {xs ys:List α} (h:xs.length+ys.length≤60000000000):qV xs ys=some (xs++ys):=aAj (by omega)
theorem aBs {d:List aG} {f v:List Rat} {l:List aA} (hv:u7 64 v) (hl:RsB l) (hn:l.length≤1000) {K:Nat} (hK:13≤K):∀(t i k:Nat),i+t=l.length→t<k→cW K ⟨d,f,v,l⟩ k ((w8 v l i).map pu) (i:Int)=some ((w8 v l l.length).map pu)
 |0,i,k,hi,hk=>by
  obtain⟨k',rfl,_⟩:=aZ hk
  have e:i=l.length:=by omega
  subst e
  simp only [cW,dF (show¬(l.length:Int)<(l.length:Int) by omega),bN]
 |t+1,i,k,hi,hk=>by
  obtain⟨k',rfl,_⟩:=aZ hk
  have hil:i<l.length:=by omega
  have hr:=hl _ (pN hil)
  have h4:=qR (v:=v) (l:=l) i
  have hlen:((w8 v l i).map pu).length=off v l i:=by rw [List.length_map,xG]
  have ih:=aBs (d:=d) (f:=f) hv hl hn hK t (i+1) k' (by omega) (by omega)
  have e1:qV ((w8 v l i).map pu) [(⟨(i:Int),0⟩:aC)]=some ((w8 v l i).map pu++[(⟨(i:Int),0⟩:aC)]):=apA (by rw [hlen];simp;omega)
  have e2:qV ((w8 v l i).map pu++[(⟨(i:Int),0⟩:aC)]) [(⟨(i:Int),1⟩:aC),⟨(i:Int),2⟩,⟨(i:Int),3⟩]=some ((w8 v l i).map pu++[(⟨(i:Int),0⟩:aC)]++[(⟨(i:Int),1⟩:aC),⟨(i:Int),2⟩,⟨(i:Int),3⟩]):=apA (by rw [List.length_append,hlen];simp;omega)
  have e3:(w8 v l (i+1)).map pu=(w8 v l i).map pu++(blk v l i).map pu:=List.map_append
  rw [e3] at ih
  simp only [cW,dT (show(i:Int)<(l.length:Int) by omega),bW,aBo hil,oB,e1]
  unfold blk zK at ih
  by_cases h0:0<(lH l i).t.length
  ·simp only [dT (show(0:Int)<((lH l i).t.length:Int) by omega),bW,aJk hv hr hK,oB]
   by_cases h1:(rt (lH l i).t v).num.sign=0
   ·simp only [qT h1,bW,e2,oB,mF (i:=i) (by omega)]
    rw [decide_eq_true h0,decide_eq_true h1] at ih
    rw [List.append_assoc]
    exact ih
   ·simp only [qF h1,bN,mF (i:=i) (by omega),oB]
    rw [decide_eq_false h1,Bool.and_false] at ih
    exact ih
  ·simp only [dF (show¬(0:Int)<((lH l i).t.length:Int) by omega),bN,mF (i:=i) (by omega),oB]
   rw [decide_eq_false h0,Bool.false_and] at ih
   exact ih
theorem aCk {d:List aG} {f v:List Rat} {l:List aA} (hv:u7 64 v) (hl:RsB l) (hn:l.length≤1000) {K:Nat} (hK:2000≤K):iQ K ⟨d,f,v,l⟩=some ((w8 v l l.length).map pu):=by
 have:=aBs (d:=d) (f:=f) hv hl hn (show 13≤K by omega) l.length 0 K (by omega) (by omega)
 simp only [Int.natCast_zero] at this
 simp only [iQ,show([]:List aC)=(w8 v l 0).map pu from rfl,this,oB,lB]
theorem aAS {v:List Rat} {l:List aA} (hv:u7 64 v) (hl:RsB l) (hn:l.length≤1000) {K:Nat} (hK:13≤K):∀(t i k:Nat),i+t=l.length→t<k→eK K v l k ((w8 v l i).map ru) (i:Int)=some ((w8 v l l.length).map ru)
 |0,i,k,hi,hk=>by
  obtain⟨k',rfl,_⟩:=aZ hk
  have e:i=l.length:=by omega
  subst e
  simp only [eK,dF (show¬(l.length:Int)<(l.length:Int) by omega),bN]
 |t+1,i,k,hi,hk=>by
  obtain⟨k',rfl,_⟩:=aZ hk
  have hil:i<l.length:=by omega
  have hr:=hl _ (pN hil)
  have h4:=qR (v:=v) (l:=l) i
  have hlen:((w8 v l i).map ru).length=off v l i:=by rw [List.length_map,xG]
  have ih:=aAS hv hl hn hK t (i+1) k' (by omega) (by omega)
  have e1:qV ((w8 v l i).map ru) [(⟨(i:Int),0⟩:aQ)]=some ((w8 v l i).map ru++[(⟨(i:Int),0⟩:aQ)]):=apA (by rw [hlen];simp;omega)
  have e2:qV ((w8 v l i).map ru++[(⟨(i:Int),0⟩:aQ)]) [(⟨(i:Int),1⟩:aQ),⟨(i:Int),2⟩,⟨(i:Int),3⟩]=some ((w8 v l i).map ru++[(⟨(i:Int),0⟩:aQ)]++[(⟨(i:Int),1⟩:aQ),⟨(i:Int),2⟩,⟨(i:Int),3⟩]):=apA (by rw [List.length_append,hlen];simp;omega)
  have e3:(w8 v l (i+1)).map ru=(w8 v l i).map ru++(blk v l i).map ru:=List.map_append
  rw [e3] at ih
  simp only [eK,dT (show(i:Int)<(l.length:Int) by omega),bW,aBo hil,oB,e1]
  unfold blk zK at ih
  by_cases h0:0<(lH l i).t.length
  ·simp only [dT (show(0:Int)<((lH l i).t.length:Int) by omega),bW,aGW hv hr hK,oB]
   by_cases h1:(rt (lH l i).t v).num.sign=0
   ·simp only [qT h1,bW,e2,oB,mF (i:=i) (by omega)]
    rw [decide_eq_true h0,decide_eq_true h1] at ih
    rw [List.append_assoc]
    exact ih
   ·simp only [qF h1,bN,mF (i:=i) (by omega),oB]
    rw [decide_eq_false h1,Bool.and_false] at ih
    exact ih
  ·simp only [dF (show¬(0:Int)<((lH l i).t.length:Int) by omega),bN,mF (i:=i) (by omega),oB]
   rw [decide_eq_false h0,Bool.false_and] at ih
   exact ih
theorem wB {v:List Rat} {l:List aA} (hv:u7 64 v) (hl:RsB l) (hn:l.length≤1000) {K:Nat} (hK:2000≤K):iR K v l=some ((w8 v l l.length).map ru):=by
 have:=aAS hv hl hn (show 13≤K by omega) l.length 0 K (by omega) (by omega)
 simp only [Int.natCast_zero] at this
 simp only [iR,show([]:List aQ)=(w8 v l 0).map ru from rfl,this,oB,r5]
theorem rdU {v:List Rat} {l:List aA} {m r q:Nat} (hq:vq v l r q) (hr:r<m):bK ((w8 v l m).map pu) ((off v l r+q:Nat):Int)=some ⟨(r:Int),(q:Int)⟩:=rdG (by rw [List.getElem?_map,aCx hq m hr];rfl)
theorem aPM {v:List Rat} {l:List aA} {m r q:Nat} (hq:vq v l r q) (hr:r<m):bK ((w8 v l m).map ru) ((off v l r+q:Nat):Int)=some ⟨(r:Int),(q:Int)⟩:=rdG (by rw [List.getElem?_map,aCx hq m hr];rfl)
theorem sI {v:List Rat} {l:List aA} {m:Nat}:((w8 v l m).map pu).length=off v l m:=by rw [List.length_map,xG]
theorem zT {v:List Rat} {l:List aA} {m:Nat}:((w8 v l m).map ru).length=off v l m:=by rw [List.length_map,xG]
end Go.Proofs.YtcjdedkdoagifaaGreat
set_option linter.unusedVariables false
namespace Go.Proofs.YtcjdedkdoagifaaGreat
instance vqDec {v:List Rat} {l:List aA} {r q:Nat}:Decidable (vq v l r q):=by unfold vq;infer_instance
theorem vq3 {v:List Rat} {l:List aA} {r q:Nat} (h:vq v l r q):q≤3:=by
 rcases h with h|h
 ·omega
 ·exact h.2
def ow (v:List Rat) (l:List aA) (z:Nat→Rat) (i k q:Nat):Rat:=if vq v l i q∧off v l i+q<k then z (off v l i+q) else 0
theorem aLy {v:List Rat} {l:List aA} {z:Nat→Rat} {i k r q0:Nat} (hq:vq v l r q0) (hk:k=off v l r+q0):(r=i→mp (jI (ow v l z i k) q0 (z k)) 4=mp (ow v l z i (k+1)) 4)∧(r≠i→mp (ow v l z i k) 4=mp (ow v l z i (k+1)) 4):=by
 refine⟨fun e=>bV fun q _=>?_,fun e=>bV fun q _=>?_⟩
 ·subst e
  by_cases h:q=q0
  ·subst h
   rw [bD]
   unfold ow
   rw [if_pos ⟨hq,by omega⟩,←hk]
  ·rw [cZ h]
   unfold ow
   by_cases h2:vq v l r q∧off v l r+q<k
   ·rw [if_pos h2,if_pos ⟨h2.1,by omega⟩]
   ·rw [if_neg h2,if_neg fun h3=>h2 ⟨h3.1,by omega⟩]
 ·unfold ow
  by_cases h2:vq v l i q∧off v l i+q<k
  ·rw [if_pos h2,if_pos ⟨h2.1,by omega⟩]
  ·rw [if_neg h2,if_neg fun h3=>?_]
   have:off v l i+q=off v l r+q0:=by
    have:=h3.2
    by_cases e2:off v l i+q<k
    ·exact absurd ⟨h3.1,e2⟩ h2
    ·omega
   exact e (aCC h3.1 hq this).1.symm
theorem aJc {v:List Rat} {l:List aA} {m:Nat} {z:Nat→Rat} (hm:m≤1000) (i:Nat) (K:Nat):∀(t k fu:Nat),k+t=off v l m→t<fu→gM K (mp z (off v l m)) ((w8 v l m).map ru) (i:Int) fu (mp (ow v l z i k) 4) (k:Int)=some (mp (ow v l z i (off v l m)) 4)
 |0,k,fu,hi,hk=>by
  obtain⟨k',rfl,_⟩:=aZ hk
  have e:k=off v l m:=by omega
  subst e
  simp only [gM,zT,dF (show¬(off v l m:Int)<(off v l m:Int) by omega),bN]
 |t+1,k,fu,hi,hk=>by
  obtain⟨k',rfl,_⟩:=aZ hk
  have hkl:k<off v l m:=by omega
  have h4:=qR (v:=v) (l:=l) m
  obtain⟨r,q,h1,h2,h3⟩:=sP m k hkl
  have hq3:=vq3 h2
  have hu:=aPM (m:=m) h2 h1
  rw [←h3] at hu
  obtain⟨s1,s2⟩:=aLy (z:=z) (i:=i) h2 h3
  have ih:=aJc (v:=v) (l:=l) (z:=z) hm i K t (k+1) k' (by omega) (by omega)
  simp only [gM,zT,dT (show(k:Int)<(off v l m:Int) by omega),bW,hu,oB]
  by_cases e:r=i
  ·simp only [qT (show(r:Int)=(i:Int) by omega),bW,dW (f:=z) hkl,dW (f:=ow v l z i k) (n:=4) (i:=q) (by omega),oB,rF (f:=ow v l z i k) (n:=4) (i:=q) (by omega),s1 e,mF (i:=k) (by omega)]
   exact ih
  ·simp only [qF (show(r:Int)≠(i:Int) by omega),bN,mF (i:=k) (by omega),oB,s2 e]
   exact ih
def pz (v:List Rat) (l:List aA) (z:Nat→Rat) (i:Nat):aF:=
 if(lH l i).t.length=0 then⟨z (off v l i),0⟩
 else if(rt (lH l i).t v).num.sign≠0 then⟨z (off v l i),(((-(rt (lH l i).t v).num.sign:Int):Rat)/((1:Int):Rat))*((lH l i).mu*z (off v l i))⟩
 else⟨z (off v l i),z (off v l i+1)-z (off v l i+2)⟩
theorem aI1 (x:Rat):-1≤x.num.sign∧x.num.sign≤1:=by
 rcases Int.lt_trichotomy x.num 0 with h|h|h
 ·rw [Int.sign_eq_neg_one_of_neg h];omega
 ·rw [h];decide
 ·rw [Int.sign_eq_one_of_pos h];omega
theorem qsg (x:Rat):zC (-x.num.sign) 1=some (((-x.num.sign:Int):Rat)/((1:Int):Rat))∧Bd 2 (((-x.num.sign:Int):Rat)/((1:Int):Rat)):=by
 have:=aI1 x
 obtain⟨r,h1,h2,h3⟩:=aBa (k:=2) (p:=-x.num.sign) (q:=1) (by omega) (by omega) (by decide) (by omega)
 rw [←h2];exact⟨h1,h3⟩
theorem aET {v:List Rat} {l:List aA} {z:Nat→Rat} {C:Nat} (hz:∀k,k<off v l l.length→Bd C (z k)) (hl:RsC l):PB' (2*C+11) l.length (pz v l z):=fun i hi=>by
 have h0:=hz _ (sU (v:=v) (l:=l) (r:=i) (q:=0) hi (.inl rfl))
 rw [Nat.add_zero] at h0
 have hm:=(hl _ (pN hi)).2
 unfold pz
 split
 ·exact⟨h0.mono (by omega),Bd.zero.mono (by omega)⟩
 ·rename_i ht
  split
  ·exact⟨h0.mono (by omega),((qsg _).2.mul (hm.mul h0)).mono (by omega)⟩
  ·rename_i hs
   have hst:zK v (lH l i)=true:=by
    unfold zK
    rw [decide_eq_true (show 0<(lH l i).t.length by omega),decide_eq_true (show(rt (lH l i).t v).num.sign=0 from Decidable.of_not_not hs)];rfl
   exact⟨h0.mono (by omega),((hz _ (sU (q:=1) hi (.inr ⟨hst,by omega⟩))).sub (hz _ (sU (q:=2) hi (.inr ⟨hst,by omega⟩)))).mono (by omega)⟩
theorem aDs {v:List Rat} {l:List aA} {z:Nat→Rat} {C:Nat} (hv:u7 64 v) (hl:RsC l) (hz:∀k,k<off v l l.length→Bd C (z k)) (hC:C≤500000000) (hn:l.length≤1000) {K:Nat} (hK:5000≤K):∀(t i k:Nat),i+t=l.length→t<k→jS K v l (mp z (off v l l.length)) ((w8 v l l.length).map ru) k (mp (pz v l z) i) (i:Int)=some (mp (pz v l z) l.length)
 |0,i,k,hi,hk=>by
  obtain⟨k',rfl,_⟩:=aZ hk
  have e:i=l.length:=by omega
  subst e
  simp only [jS,dF (show¬(l.length:Int)<(l.length:Int) by omega),bN]
 |t+1,i,k,hi,hk=>by
  obtain⟨k',rfl,_⟩:=aZ hk
  have hil:i<l.length:=by omega
  have h4:=qR (v:=v) (l:=l) l.length
  have hr:=hl _ (pN hil)
  have ih:=aDs hv hl hz hC hn hK t (i+1) k' (by omega) (by omega)
  have e0:mp (ow v l z i 0) 4=mp (fun _=>(0:Rat)) 4:=bV fun q _=>if_neg (by omega)
  have e1:=aJc (v:=v) (l:=l) (m:=l.length) (z:=z) hn i K (off v l l.length) 0 K (by omega) (by omega)
  rw [e0] at e1
  simp only [Int.natCast_zero] at e1
  have hmk:vC 4 (0:Rat)=some (mp (fun _=>(0:Rat)) 4):=aAx (n:=4) (by omega)
  have l0:=sU (v:=v) (l:=l) (m:=l.length) (r:=i) (q:=0) hil (.inl rfl)
  have o0:ow v l z i (off v l l.length) 0=z (off v l i):=by unfold ow;rw [if_pos ⟨.inl rfl,l0⟩,Nat.add_zero]
  rw [Nat.add_zero] at l0
  have r0:bK (mp (ow v l z i (off v l l.length)) 4) 0=some (z (off v l i)):=by rw [←o0];exact dW (i:=0) (by omega)
  have hF:sS K (lH l i) v (mp (ow v l z i (off v l l.length)) 4)=some (pz v l z i):=by
   simp only [sS,aGW hv hr.1 (show 13≤K by omega),oB,r0]
   unfold pz
   by_cases ht:(lH l i).t.length=0
   ·simp only [qT (show((lH l i).t.length:Int)=0 by omega),bW,if_pos ht]
   ·simp only [qF (show((lH l i).t.length:Int)≠0 by omega),bN,if_neg ht]
    by_cases hs:(rt (lH l i).t v).num.sign=0
    ·have hst:zK v (lH l i)=true:=by
      unfold zK;rw [decide_eq_true (show 0<(lH l i).t.length by omega),decide_eq_true hs];rfl
     have l1:=sU (v:=v) (l:=l) (m:=l.length) (r:=i) (q:=1) hil (.inr ⟨hst,by omega⟩)
     have l2:=sU (v:=v) (l:=l) (m:=l.length) (r:=i) (q:=2) hil (.inr ⟨hst,by omega⟩)
     have r1:bK (mp (ow v l z i (off v l l.length)) 4) 1=some (z (off v l i+1)):=by
      have:ow v l z i (off v l l.length) 1=z (off v l i+1):=if_pos ⟨.inr ⟨hst,by omega⟩,l1⟩
      rw [←this];exact dW (i:=1) (by omega)
     have r2:bK (mp (ow v l z i (off v l l.length)) 4) 2=some (z (off v l i+2)):=by
      have:ow v l z i (off v l l.length) 2=z (off v l i+2):=if_pos ⟨.inr ⟨hst,by omega⟩,l2⟩
      rw [←this];exact dW (i:=2) (by omega)
     simp only [nF hs,bN,r1,r2,oB,zB (hz _ l1) (hz _ l2) (by omega) (by omega),if_neg (show¬((rt (lH l i).t v).num.sign≠0) from fun h=>h hs)]
    ·have hb:=aI1 (rt (lH l i).t v)
     have hz0:=hz _ l0
     simp only [nT hs,bW,kD (show -9223372036854775808≤-(rt (lH l i).t v).num.sign∧_ by omega),oB,(qsg _).1,oH hr.2 hz0 (by omega) (by omega),oH (qsg (rt (lH l i).t v)).2 (hr.2.mul hz0) (by omega) (by omega),if_pos hs]
  simp only [jS,dT (show(i:Int)<(l.length:Int) by omega),bW,hmk,oB,e1,s6,aBo hil,hF,apM (g:=pz v l z) (i:=i) (by omega),mF (i:=i) (by omega)]
  exact ih
theorem aEE {v:List Rat} {l:List aA} {z:Nat→Rat} {C:Nat} (hv:u7 64 v) (hl:RsC l) (hz:∀k,k<off v l l.length→Bd C (z k)) (hC:C≤500000000) (hn:l.length≤1000) {K:Nat} (hK:5000≤K):oU K v l (mp z (off v l l.length))=some (mp (pz v l z) l.length):=by
 have:=aDs hv hl hz hC hn hK l.length 0 K (by omega) (by omega)
 simp only [Int.natCast_zero,zH] at this
 simp only [oU,wB hv (fun r h=>(hl r h).1) hn (show 2000≤K by omega),oB,this,s8]
def uk (v:List Rat) (l:List aA) (k:Nat):Nat×Nat:=(w8 v l l.length).getD k (0,0)
theorem aH4 {v:List Rat} {l:List aA} {r q:Nat} (hq:vq v l r q) (hr:r<l.length):uk v l (off v l r+q)=(r,q):=by
 unfold uk
 rw [List.getD_eq_getElem?_getD,aCx hq _ hr];rfl
def rv (v:List Rat) (l:List aA) (a:List Rat) (k:Nat):Rat:=
 if(uk v l k).2=0 then rt (lH l (uk v l k).1).j a
 else if(uk v l k).2=1 then rt (lH l (uk v l k).1).t a
 else if(uk v l k).2=2 then -(rt (lH l (uk v l k).1).t a)
 else 0
def zv (v:List Rat) (l:List aA) (z:Nat→Rat) (k:Nat):Rat:=
 if(uk v l k).2=0 then 0
 else if(uk v l k).2=1 then z (k+2)
 else if(uk v l k).2=2 then z (k+1)
 else(lH l (uk v l k).1).mu*z (k-3)-(z (k-2)+z (k-1))
def vl (v:List Rat) (l:List aA) (a:List Rat) (z:Nat→Rat) (k:Nat):Rat:=rv v l a k+zv v l z k
theorem aCZ {v a:List Rat} {l:List aA} {z:Nat→Rat} {C B:Nat} (hl:RsC l) (ha:u7 B a) (hB:B≤10000000) (hz:∀k,k<off v l l.length→Bd C (z k)) (hC:C≤100000000) (hn:l.length≤1000) {K:Nat} (hK:13≤K):∀(t k fu:Nat),k+t=off v l l.length→t<fu→eG K l (mp z (off v l l.length)) a ((w8 v l l.length).map ru) fu (mp (vl v l a z) k) (k:Int)=some (mp (vl v l a z) (off v l l.length))
 |0,k,fu,hi,hk=>by
  obtain⟨k',rfl,_⟩:=aZ hk
  have e:k=off v l l.length:=by omega
  subst e
  simp only [eG,zT,dF (show¬(off v l l.length:Int)<(off v l l.length:Int) by omega),bN]
 |t+1,k,fu,hi,hk=>by
  obtain⟨k',rfl,_⟩:=aZ hk
  have hkl:k<off v l l.length:=by omega
  have h4:=qR (v:=v) (l:=l) l.length
  obtain⟨r,q,h1,h2,h3⟩:=sP l.length k hkl
  have hq3:=vq3 h2
  have hu:=aPM (m:=l.length) h2 h1
  rw [←h3] at hu
  have huk:=aH4 h2 h1
  rw [←h3] at huk
  have hr:=hl _ (pN h1)
  have ih:=aCZ hl ha hB hz hC hn hK t (k+1) k' (by omega) (by omega)
  have bj:=z7 ha hr.1.1
  have bt:=z7 ha hr.1.2
  have ap:=apM (g:=vl v l a z) (i:=k) (by omega)
  simp only [eG,zT,dT (show(k:Int)<(off v l l.length:Int) by omega),bW,hu,oB,aBo h1]
  have hcase:q=0∨q=1∨q=2∨q=3:=by omega
  rcases hcase with rfl|rfl|rfl|rfl
  ·have e:vl v l a z k=rt (lH l r).j a:=by unfold vl rv zv;rw [huk];exact Rat.add_zero _
   rw [e] at ap
   simp only [qT (show((0:Nat):Int)=0 from rfl),bW,aAo ha (by omega) hr.1.1 hK,oB,ap,mF (i:=k) (by omega)]
   exact ih
  ·have hst:zK v (lH l r)=true:=by rcases h2 with h|h;omega;exact h.1
   have l3:=sU (v:=v) (l:=l) (m:=l.length) (r:=r) (q:=3) h1 (.inr ⟨hst,by omega⟩)
   have e:vl v l a z k=rt (lH l r).t a+z (k+2):=by unfold vl rv zv;rw [huk];rfl
   rw [e] at ap
   have c2:aP ((k:Int)+2)=some ((k+2:Nat):Int):=by rw [kD (by omega)];rfl
   simp only [qF (show((1:Nat):Int)≠0 by omega),qT (show((1:Nat):Int)=1 from rfl),bN,bW,aAo ha (by omega) hr.1.2 hK,oB,c2,dW (f:=z) (n:=off v l l.length) (i:=k+2) (by omega),vG bt (hz (k+2) (by omega)) (by omega) (by omega),ap,mF (i:=k) (by omega)]
   exact ih
  ·have hst:zK v (lH l r)=true:=by rcases h2 with h|h;omega;exact h.1
   have l3:=sU (v:=v) (l:=l) (m:=l.length) (r:=r) (q:=3) h1 (.inr ⟨hst,by omega⟩)
   have e:vl v l a z k=z (k+1)-rt (lH l r).t a:=by
    unfold vl rv zv;rw [huk]
    show -(rt (lH l r).t a)+z (k+1)=_
    rw [Rat.add_comm,Rat.sub_eq_add_neg]
   rw [e] at ap
   simp only [qF (show((2:Nat):Int)≠0 by omega),qF (show((2:Nat):Int)≠1 by omega),qT (show((2:Nat):Int)=2 from rfl),bN,bW,mF (i:=k) (by omega),oB,dW (f:=z) (n:=off v l l.length) (i:=k+1) (by omega),aAo ha (by omega) hr.1.2 hK,zB (hz (k+1) (by omega)) bt (by omega) (by omega),ap]
   exact ih
  ·have e:vl v l a z k=(lH l r).mu*z (k-3)-(z (k-2)+z (k-1)):=by unfold vl rv zv;rw [huk];exact Rat.zero_add _
   rw [e] at ap
   have c1:aP ((k:Int)-3)=some ((k-3:Nat):Int):=by rw [kD (by omega)];congr 1;omega
   have c2:aP ((k:Int)-2)=some ((k-2:Nat):Int):=by rw [kD (by omega)];congr 1;omega
   have c3:aP ((k:Int)-1)=some ((k-1:Nat):Int):=by rw [kD (by omega)];congr 1;omega
   have z1:=hz (k-3) (by omega)
   have z2:=hz (k-2) (by omega)
   have z3:=hz (k-1) (by omega)
   simp only [qF (show((3:Nat):Int)≠0 by omega),qF (show((3:Nat):Int)≠1 by omega),qF (show((3:Nat):Int)≠2 by omega),bN,c1,c2,c3,oB,dW (f:=z) (n:=off v l l.length) (i:=k-3) (by omega),dW (f:=z) (n:=off v l l.length) (i:=k-2) (by omega),dW (f:=z) (n:=off v l l.length) (i:=k-1) (by omega),oH hr.2 z1 (by omega) (by omega),vG z2 z3 (by omega) (by omega),zB (hr.2.mul z1) (z2.add z3) (by omega) (by omega),ap,mF (i:=k) (by omega)]
   exact ih
theorem aPO {v a:List Rat} {l:List aA} {z:Nat→Rat} {C B:Nat} (hl:RsC l) (ha:u7 B a) (hz:∀k,k<off v l l.length→Bd C (z k)) {k:Nat} (hk:k<off v l l.length):Bd (1+(B+9)*12+(3*C+20)) (vl v l a z k):=by
 obtain⟨r,q,h1,h2,h3⟩:=sP l.length k hk
 have hq3:=vq3 h2
 have huk:=aH4 h2 h1
 rw [←h3] at huk
 have hr:=hl _ (pN h1)
 have bj:=z7 ha hr.1.1
 have bt:=z7 ha hr.1.2
 have hC:∀k,k<off v l l.length→Bd (3*C+19) (z k):=fun k hk=>(hz k hk).mono (by omega)
 have b1:Bd (1+(B+9)*12) (rv v l a k):=by
  unfold rv;rw [huk]
  split
  ·exact bj
  ·split
   ·exact bt
   ·split
    ·exact bt.neg
    ·exact Bd.zero.mono (by omega)
 have b2:Bd (3*C+19) (zv v l z k):=by
  unfold zv;rw [huk]
  have hcase:q=0∨q=1∨q=2∨q=3:=by omega
  rcases hcase with rfl|rfl|rfl|rfl
  ·exact Bd.zero.mono (by omega)
  ·have hst:zK v (lH l r)=true:=by rcases h2 with h|h;omega;exact h.1
   have l3:=sU (v:=v) (l:=l) (m:=l.length) (r:=r) (q:=3) h1 (.inr ⟨hst,by omega⟩)
   exact hC _ (by omega)
  ·have hst:zK v (lH l r)=true:=by rcases h2 with h|h;omega;exact h.1
   have l3:=sU (v:=v) (l:=l) (m:=l.length) (r:=r) (q:=3) h1 (.inr ⟨hst,by omega⟩)
   exact hC _ (by omega)
  ·exact((hr.2.mul (hz (k-3) (by omega))).sub ((hz (k-2) (by omega)).add (hz (k-1) (by omega)))).mono (by omega)
 exact(b1.add b2).mono (by omega)
end Go.Proofs.YtcjdedkdoagifaaGreat
set_option linter.unusedVariables false
namespace Go.Proofs.YtcjdedkdoagifaaGreat
theorem aJT {d:List aG} {f:Nat→Rat} {v:List Rat} {l:List aA} {z:Nat→Rat} {A C:Nat} (hd:∀x∈d,Bd 8 x.inv) (hn:d.length≤100) (hf:∀j,j<d.length→Bd A (f j)) (hv:u7 64 v) (hl:RsC l) (hr:InR d.length l) (hll:l.length≤100) (hz:∀k,k<off v l l.length→Bd C (z k)) (hA:A≤1000000) (hC:(2*C+20)*24*l.length≤5000000) (hC2:C≤100000000) {K:Nat} (hK:5000≤K):
  mO K d (mp f d.length) v l (mp z (off v l l.length))=some (mp (vl v l (mp (acc d f l (pz v l z)) d.length) z) (off v l l.length)):=by
 have hp:=aET hz hl
 have hrb:RsB l:=fun r h=>(hl r h).1
 have hcl:(2*C+11+9)*24*l.length≤5000000:=hC
 have e1:=aEE hv hl hz (by omega) (by omega) hK
 have e2:=aIl (p:=pz v l z) hd (show d.length≤1000 by omega) hf hrb hr (by omega) hp (by omega) (by omega) (show 2000≤K by omega)
 have hb:=aDc (p:=pz v l z) hd hf hrb hr hp (by omega) (by omega) (by omega) (by omega)
 have e3:=aCZ (z:=z) hl hb (by unfold aHB;omega) hz hC2 (show l.length≤1000 by omega) (show 13≤K by omega) (off v l l.length) 0 K (by omega) (by have:=qR (v:=v) (l:=l) l.length;omega)
 simp only [Int.natCast_zero,zH] at e3
 simp only [mO,e1,oB,e2,wB hv hrb (show l.length≤1000 by omega) (show 2000≤K by omega),e3,s5]
theorem aMQ {f g:Nat→Rat} {n:Nat} (t:aE):trm (mp (fun j=>f j+g j) n) t=trm (mp f n) t+trm (mp g n) t:=by
 unfold trm
 rw [cB,cB,cB]
 by_cases h:0≤t.dof∧t.dof<(n:Int)
 ·rw [decide_eq_true h]
  show t.k*qK _ _=t.k*qK _ _+t.k*qK _ _
  rw [aAT (by omega),aAT (by omega),aAT (by omega),Rat.mul_add]
 ·rw [decide_eq_false h];exact(Rat.add_zero 0).symm
theorem add4 (x y a b:Rat):x+y+(a+b)=x+a+(y+b):=by
 rw [Rat.add_assoc,←Rat.add_assoc y,Rat.add_comm y a,Rat.add_assoc a,←Rat.add_assoc]
theorem aI3 {f g:Nat→Rat} {n:Nat}:∀(l:List aE) (x y:Rat),rtf (mp (fun j=>f j+g j) n) l (x+y)=rtf (mp f n) l x+rtf (mp g n) l y
 |[],x,y=>rfl
 |t::l,x,y=>by
  show rtf _ l (x+y+trm _ t)=rtf _ l (x+trm _ t)+rtf _ l (y+trm _ t)
  rw [aMQ,←aI3 l,add4]
theorem aHK {f g:Nat→Rat} {n:Nat} (l:List aE):rt l (mp (fun j=>f j+g j) n)=rt l (mp f n)+rt l (mp g n):=by
 have:=aI3 (f:=f) (g:=g) (n:=n) l 0 0
 rwa [Rat.add_zero] at this
theorem aPs {v:List Rat} {l:List aA} {f g:Nat→Rat} {n k:Nat}:rv v l (mp (fun j=>f j+g j) n) k=rv v l (mp f n) k+rv v l (mp g n) k:=by
 unfold rv
 split
 ·exact aHK _
 ·split
  ·exact aHK _
  ·split
   ·rw [aHK,Rat.neg_add]
   ·exact(Rat.add_zero 0).symm
theorem aDI {n:Nat}:∀(l:List aE) (x:Rat),rtf (mp (fun _=>(0:Rat)) n) l x=x
 |[],x=>rfl
 |t::l,x=>by
  show rtf _ l (x+trm _ t)=x
  have:trm (mp (fun _=>(0:Rat)) n) t=0:=by
   unfold trm
   rw [cB]
   by_cases h:0≤t.dof∧t.dof<(n:Int)
   ·rw [decide_eq_true h];show t.k*qK _ _=0;rw [aAT (by omega),Rat.mul_zero]
   ·rw [decide_eq_false h];rfl
  rw [this,Rat.add_zero]
  exact aDI l x
theorem aMy {v:List Rat} {l:List aA} {n k:Nat}:rv v l (mp (fun _=>(0:Rat)) n) k=0:=by
 unfold rv rt
 rw [aDI,aDI]
 split
 ·rfl
 ·split
  ·rfl
  ·split<;>rfl
def p0:Nat→aF:=fun _=>⟨0,0⟩
def z0:Nat→Rat:=fun _=>0
theorem aBV {l:List aA} {j:Nat}:∀m,sF l p0 m j=0
 |0=>rfl
 |m+1=>by
  show sF l p0 m j+rcq l p0 m j=0
  rw [aBV m]
  unfold rcq
  show(0:Rat)+(cf _ _*0+cf _ _*0)=0
  rw [Rat.mul_zero,Rat.mul_zero,Rat.add_zero,Rat.add_zero]
theorem aJB {d:List aG} {f:Nat→Rat} {l:List aA} {p:Nat→aF}:acc d f l p=fun j=>acc d f l p0 j+acc d z0 l p j:=by
 funext j
 unfold acc z0
 rw [aBV,Rat.add_zero,Rat.zero_add,←Rat.add_mul]
theorem aCY {l:List aA} {p q:Nat→aF} {j:Nat}:∀m,(∀r,r<m→p r=q r)→sF l p m j=sF l q m j
 |0,_=>rfl
 |m+1,h=>by
  show sF l p m j+rcq l p m j=sF l q m j+rcq l q m j
  rw [aCY m fun r hr=>h r (by omega)]
  unfold rcq
  rw [h m (by omega)]
theorem aED {d:List aG} {f:Nat→Rat} {l:List aA} {p q:Nat→aF} (h:∀r,r<l.length→p r=q r):acc d f l p=acc d f l q:=by
 funext j
 unfold acc
 rw [aCY _ h]
theorem aLG {d:List aG} {l:List aA}:acc d z0 l p0=fun _=>0:=by
 funext j
 unfold acc z0
 rw [aBV,Rat.add_zero,Rat.zero_mul]
theorem aIe {v:List Rat} {l:List aA} {i:Nat}:pz v l z0 i=⟨0,0⟩:=by
 unfold pz z0
 split
 ·rfl
 ·split
  ·rw [Rat.mul_zero,Rat.mul_zero]
  ·rw [Rat.sub_self]
theorem aMO {v:List Rat} {l:List aA} {k:Nat}:zv v l z0 k=0:=by
 unfold zv z0
 split
 ·rfl
 ·split
  ·rfl
  ·split
   ·rfl
   ·rw [Rat.mul_zero,Rat.add_zero,Rat.sub_self]
def ek (k:Nat):Nat→Rat:=jI z0 k 1
def Mf (d:List aG) (v:List Rat) (l:List aA) (i k:Nat):Rat:=rv v l (mp (acc d z0 l (pz v l (ek k))) d.length) i+zv v l (ek k) i
def qf (d:List aG) (f:Nat→Rat) (v:List Rat) (l:List aA) (i:Nat):Rat:=rv v l (mp (acc d f l p0) d.length) i
theorem aFJ {d:List aG} {f:Nat→Rat} {v:List Rat} {l:List aA} {n i:Nat}:vl v l (mp (acc d f l (pz v l z0)) d.length) z0 i=qf d f v l i:=by
 unfold vl qf
 rw [aMO,Rat.add_zero,aED (q:=p0) fun r _=>aIe]
theorem aLf {d:List aG} {f:Nat→Rat} {v:List Rat} {l:List aA} {k i:Nat}:vl v l (mp (acc d f l (pz v l (ek k))) d.length) (ek k) i-qf d f v l i=Mf d v l i k:=by
 unfold vl qf Mf
 rw [aJB,aPs]
 generalize rv v l (mp (acc d f l p0) d.length) i=a
 generalize rv v l (mp (acc d z0 l (pz v l (ek k))) d.length) i=b
 generalize zv v l (ek k) i=c
 rw [Rat.add_assoc,Rat.sub_eq_add_neg,Rat.add_comm a,Rat.add_assoc,Rat.add_neg_cancel,Rat.add_zero]
theorem aJl {k j:Nat}:Bd 1 (ek k j):=by
 unfold ek jI z0
 split
 ·constructor<;>decide
 ·exact Bd.zero
structure ScB (d:List aG) (f v:List Rat) (l:List aA):Prop where
 sb:SB d f v l
 n8:d.length≤12
 m8:l.length≤8
 ir:InR d.length l
 fl:f.length=d.length
theorem aID {d:List aG} {f v:List Rat} {l:List aA} (h:SB d f v l) (hm:l.length≤8) (hf:aAX d f v l=true):ScB d f v l:=by
 unfold aAX at hf
 rw [Bool.and_eq_true,Bool.and_eq_true] at hf
 have h1:=of_decide_eq_true hf.1.1
 refine⟨h,h1.1,hm,fun r hr=>?_,h1.2.1⟩
 have h2:=List.all_eq_true.1 hf.2 r hr
 unfold zL at h2
 rw [Bool.and_eq_true,Bool.and_eq_true,Bool.and_eq_true] at h2
 exact⟨aLn h2.1.1.1,aLn h2.1.1.2⟩
theorem ScB.fbd {d:List aG} {f v:List Rat} {l:List aA} (h:ScB d f v l):∀j,j<d.length→Bd 64 (qK f j):=fun j hj=>h.sb.sf _ (tP (by rw [h.fl];exact hj))
theorem ScB.fmp {d:List aG} {f v:List Rat} {l:List aA} (h:ScB d f v l):f=mp (qK f) d.length:=by rw [←h.fl];exact aKD f
theorem bd8 {C m:Nat} (hC:C≤1) (hm:m≤8):(2*C+20)*24*m≤5000000:=Nat.le_trans (Nat.mul_le_mul (Nat.mul_le_mul_right 24 (show 2*C+20≤22 by omega)) hm) (by decide)
theorem ScB.vals {d:List aG} {f v:List Rat} {l:List aA} (h:ScB d f v l) {z:Nat→Rat} (hz:∀k,Bd 1 (z k)) {K:Nat} (hK:5000≤K):mO K d f v l (mp z (off v l l.length))=some (mp (vl v l (mp (acc d (qK f) l (pz v l z)) d.length) z) (off v l l.length)):=by
 have h8:=h.m8
 have hn:=h.n8
 have:=aJT (z:=z) h.sb.sd (by omega) h.fbd h.sb.sv h.sb.sl h.ir (by omega) (fun k _=>hz k) (by omega) (bd8 (Nat.le_refl 1) h8) (by omega) hK
 rwa [←h.fmp] at this
theorem ScB.vbd {d:List aG} {f v:List Rat} {l:List aA} (h:ScB d f v l) {z:Nat→Rat} (hz:∀k,Bd 1 (z k)) {k:Nat} (hk:k<off v l l.length):Bd 100000 (vl v l (mp (acc d (qK f) l (pz v l z)) d.length) z k):=by
 have h8:=h.m8
 have hn:=h.n8
 have hp:=aET (l:=l) (v:=v) (z:=z) (C:=1) (fun k _=>hz k) h.sb.sl
 have hb:=aDc (p:=pz v l z) h.sb.sd h.fbd (fun r hr=>(h.sb.sl r hr).1) h.ir hp (by omega) (by omega) (by omega) (Nat.le_trans (bd8 (C:=1) (Nat.le_refl 1) h8) (by decide))
 exact(aPO h.sb.sl hb (fun k _=>hz k) hk).mono (by unfold aHB;omega)
theorem aLm {v:List Rat} {l:List aA} {w q:Nat→Rat} {m:Nat} (hm:m≤100) (hw:∀i,i<off v l m→Bd 100000 (w i)) (hq:∀i,i<off v l m→Bd 100000 (q i)) (K:Nat):∀(t i k:Nat),i+t=off v l m→t<k→jB K ((w8 v l m).map ru) (mp q (off v l m)) (mp w (off v l m)) k (mp (fun i=>w i-q i) i) (i:Int)=some (mp (fun i=>w i-q i) (off v l m))
 |0,i,k,hi,hk=>by
  obtain⟨k',rfl,_⟩:=aZ hk
  have e:i=off v l m:=by omega
  subst e
  simp only [jB,zT,dF (show¬(off v l m:Int)<(off v l m:Int) by omega),bN]
 |t+1,i,k,hi,hk=>by
  obtain⟨k',rfl,_⟩:=aZ hk
  have hil:i<off v l m:=by omega
  have h4:=qR (v:=v) (l:=l) m
  simp only [jB,zT,dT (show(i:Int)<(off v l m:Int) by omega),bW,dW (f:=w) hil,dW (f:=q) hil,oB,zB (hw i hil) (hq i hil) (by omega) (by omega),apM (g:=fun i=>w i-q i) (i:=i) (by omega),mF (i:=i) (by omega)]
  exact aLm hm hw hq K t (i+1) k' (by omega) (by omega)
theorem aHa:zC 1 1=some 1:=by rw [aHl (by omega) (by omega),aOS]
theorem aK9 {d:List aG} {f v:List Rat} {l:List aA} (h:ScB d f v l) {K:Nat} (hK:5000≤K):∀(t i k:Nat),i+t=off v l l.length→t<k→iW K d f v l ((w8 v l l.length).map ru) (mp (qf d (qK f) v l) (off v l l.length)) k (mx (tr (Mf d v l)) i (off v l l.length)) (i:Int)=some (mx (tr (Mf d v l)) (off v l l.length) (off v l l.length))
 |0,i,k,hi,hk=>by
  obtain⟨k',rfl,_⟩:=aZ hk
  have e:i=off v l l.length:=by omega
  rw [e]
  simp only [iW,zT,dF (show¬(off v l l.length:Int)<(off v l l.length:Int) by omega),bN]
 |t+1,i,k,hi,hk=>by
  obtain⟨k',rfl,_⟩:=aZ hk
  have hil:i<off v l l.length:=by omega
  have h8:=h.m8
  have h4:=qR (v:=v) (l:=l) l.length
  have e1:nL (mp (fun _=>(0:Rat)) (off v l l.length)) (i:Int) 1=some (mp (ek i) (off v l l.length)):=rF (f:=z0) hil
  have e2:=aLm (v:=v) (l:=l) (m:=l.length) (w:=vl v l (mp (acc d (qK f) l (pz v l (ek i))) d.length) (ek i)) (q:=qf d (qK f) v l) (by omega) (fun j hj=>h.vbd (fun _=>aJl) hj) (fun j hj=>by rw [←aFJ (n:=0)];exact h.vbd (z:=z0) (fun _=>Bd.zero) hj) K (off v l l.length) 0 K (by omega) (by omega)
  simp only [Int.natCast_zero,zH] at e2
  have e3:mp (fun j=>vl v l (mp (acc d (qK f) l (pz v l (ek i))) d.length) (ek i) j-qf d (qK f) v l j) (off v l l.length)=mp (tr (Mf d v l) i) (off v l l.length):=bV fun j _=>aLf
  rw [e3] at e2
  have e4:qV (mx (tr (Mf d v l)) i (off v l l.length)) [mp (tr (Mf d v l) i) (off v l l.length)]=some (mx (tr (Mf d v l)) (i+1) (off v l l.length)):=apM (g:=fun i=>mp (tr (Mf d v l) i) (off v l l.length)) (by omega)
  simp only [iW,zT,dT (show(i:Int)<(off v l l.length:Int) by omega),bW,aAx (z:=(0:Rat)) (n:=off v l l.length) (by omega),aHa,dW (f:=fun _=>(0:Rat)) hil,oB,e1,h.vals (z:=ek i) (fun _=>aJl) hK,e2,sJ,e4,mF (i:=i) (by omega)]
  exact aK9 h hK t (i+1) k' (by omega) (by omega)
theorem aPN (g:Nat→Nat→Rat):tr (tr g)=g:=rfl
theorem aHe {d:List aG} {f v:List Rat} {l:List aA} (h:ScB d f v l) (hf:aAX d f v l=true) {K:Nat} (hK:5000≤K):rE K d f v l=some (mx (Mf d v l) (off v l l.length) (off v l l.length),mp (qf d (qK f) v l) (off v l l.length)):=by
 have h8:=h.m8
 have h4:=qR (v:=v) (l:=l) l.length
 have e1:=h.vals (z:=z0) (fun _=>Bd.zero) hK
 have e2:mp (vl v l (mp (acc d (qK f) l (pz v l z0)) d.length) z0) (off v l l.length)=mp (qf d (qK f) v l) (off v l l.length):=bV fun j _=>aFJ (n:=0)
 have e3:mp (fun _=>(0:Rat)) (off v l l.length)=mp z0 (off v l l.length):=rfl
 have e4:=aK9 h hK (off v l l.length) 0 K (by omega) (by omega)
 have e5:mx (tr (Mf d v l)) 0 (off v l l.length)=[]:=rfl
 rw [e5] at e4
 simp only [Int.natCast_zero] at e4
 have e6:=aMl (g:=tr (Mf d v l)) (h:=off v l l.length) (w:=off v l l.length) (fun h=>h) (by omega) (by omega) (K:=K) (by omega)
 simp only [rE,aHj h.sb (show 200≤K by omega),hf,oB,Bool.not_true,bN,wB h.sb.sv (fun r hr=>(h.sb.sl r hr).1) (show l.length≤1000 by omega) (show 2000≤K by omega),zT,aAx (z:=(0:Rat)) (n:=off v l l.length) (by omega),e3,e1,e2,e4,sM,e6,aPN]
end Go.Proofs.YtcjdedkdoagifaaGreat
