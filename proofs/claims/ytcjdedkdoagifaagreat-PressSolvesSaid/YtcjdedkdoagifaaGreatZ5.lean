/- Texts of the proof, part 5: Q2 Q3 QZ LB MA MB MC. -/
import Derived.Test.YtcjdedkdoagifaaGreatZ4
set_option linter.unusedVariables false
set_option maxRecDepth 100000
namespace Go.Proofs.YtcjdedkdoagifaaGreat
def mD (K:Nat) (v98:List Rat) (x134:List Nat) (x140:List (List Rat)):Option ((List (List Rat))×(List Rat)):=
 some ((aFJ x140 x134),v98)
def d7 (K:Nat) (a0:aG) (v2:List aE) (x121:List Nat) (x127:List (List Rat)) (x133:Int) (v152:aE) (v164:aA) (recl146:(List Nat)→(List (List Rat))→Int→Option ((List Nat)×(List (List Rat)))) (x174:List aI):Option ((List Nat)×(List (List Rat))):=
 (aY (x133+3)).bind fun v183=>bif(decide (v183<(v2.length:Int))) then((aY (x133+3)).bind fun v186=>(bU v2 v186).bind fun v188=>bif(v188.row==v152.row&&v188.kind==3) then((aY (x133+3)).bind fun v193=>(bU x121 v193).bind fun v195=>(bU (x127.getD v195 []) x133).bind fun v197=>(p9 (x127.getD v195 []) x133 v164.mu).bind fun x199=>(xI (a0.dofs.length:Int) 0).bind fun x204=>(bO K a0 x204 x174).bind fun v206=>(cM K v206 x133 v2 a0 x121 (x127.set v195 x199)).bind fun v208=>(aY (x133+1)).bind fun v221=>recl146 v208.1 v208.2 v221) else((xI (a0.dofs.length:Int) 0).bind fun x225=>(bO K a0 x225 x174).bind fun v227=>(cM K v227 x133 v2 a0 x121 x127).bind fun v229=>(aY (x133+1)).bind fun v242=>recl146 v229.1 v229.2 v242)) else((xI (a0.dofs.length:Int) 0).bind fun x246=>(bO K a0 x246 x174).bind fun v248=>(cM K v248 x133 v2 a0 x121 x127).bind fun v250=>(aY (x133+1)).bind fun v263=>recl146 v250.1 v250.2 v263)
def bD (K:Nat) (a0:aG) (v2:List aE) (x91:List aI) (v105:Rat):Nat→(List Nat)→(List (List Rat))→Int→Option ((List Nat)×(List (List Rat)))
 |0,_,_,_=>none
 |k+1,x121,x127,x133=>bif(decide (x133<(v2.length:Int))) then((bU v2 x133).bind fun v152=>(pY x91).bind fun v156=>(bU a0.rows v152.row).bind fun v164=>bif(v152.kind==0) then((bU v156 v152.row).bind fun v168=>(p9 v156 v152.row (⟨v105,v168.f⟩:aI)).bind fun x170=>bif(decide (0<(v164.t.length:Int))) then((lF K a0 v164 v105).bind fun v268=>(bU x170 v152.row).bind fun v270=>(p9 x170 v152.row (⟨v270.n,v268⟩:aI)).bind fun x272=>d7 K a0 v2 x121 x127 x133 v152 v164 (bD K a0 v2 x91 v105 k) x272) else(d7 K a0 v2 x121 x127 x133 v152 v164 (bD K a0 v2 x91 v105 k) x170)) else(bif(v152.kind==1) then((bU v156 v152.row).bind fun v276=>(p9 v156 v152.row (⟨v276.n,v105⟩:aI)).bind fun x278=>(aY (x133+3)).bind fun v283=>(aY (v283-1)).bind fun v285=>(bU x121 v285).bind fun v287=>(aB0 v105).bind fun v289=>(bU (x127.getD v287 []) x133).bind fun v291=>(p9 (x127.getD v287 []) x133 v289).bind fun x293=>(xI (a0.dofs.length:Int) 0).bind fun x298=>(bO K a0 x298 x278).bind fun v300=>(cM K v300 x133 v2 a0 x121 (x127.set v287 x293)).bind fun v302=>(aY (x133+1)).bind fun v315=>bD K a0 v2 x91 v105 k v302.1 v302.2 v315) else(bif(v152.kind==2) then((aB0 v105).bind fun v320=>(bU v156 v152.row).bind fun v322=>(p9 v156 v152.row (⟨v322.n,v320⟩:aI)).bind fun x324=>(aY (x133+3)).bind fun v329=>(aY (v329-2)).bind fun v331=>(bU x121 v331).bind fun v333=>(aB0 v105).bind fun v335=>(bU (x127.getD v333 []) x133).bind fun v337=>(p9 (x127.getD v333 []) x133 v335).bind fun x339=>(xI (a0.dofs.length:Int) 0).bind fun x344=>(bO K a0 x344 x324).bind fun v346=>(cM K v346 x133 v2 a0 x121 (x127.set v333 x339)).bind fun v348=>(aY (x133+1)).bind fun v361=>bD K a0 v2 x91 v105 k v348.1 v348.2 v361) else(bif(v152.kind==3) then((aY (x133+1)).bind fun v366=>(aY (v366-3)).bind fun v368=>(bU x121 v368).bind fun v370=>(aY (x133+2)).bind fun v372=>(aY (v372-3)).bind fun v374=>(bU x121 v374).bind fun v376=>(bU (x127.getD v370 []) x133).bind fun v378=>(p9 (x127.getD v370 []) x133 v105).bind fun x380=>(bU ((x127.set v370 x380).getD v376 []) x133).bind fun v383=>(p9 ((x127.set v370 x380).getD v376 []) x133 v105).bind fun x386=>(aY (x133+1)).bind fun v389=>bD K a0 v2 x91 v105 k x121 ((x127.set v370 x380).set v376 x386) v389) else((xI (a0.dofs.length:Int) 0).bind fun x393=>(bO K a0 x393 v156).bind fun v395=>(cM K v395 x133 v2 a0 x121 x127).bind fun v397=>(aY (x133+1)).bind fun v410=>bD K a0 v2 x91 v105 k v397.1 v397.2 v410))))) else(some (x121,x127))
def nK (K:Nat) (a0:aG) (v2:List aE) (x13:List Rat) (x77:List Nat) (x83:List (List Rat)):Option ((List (List Rat))×(List Rat)):=
 (xI (a0.rows.length:Int) (⟨0,0⟩:aI)).bind fun x91=>(bO K a0 a0.load x91).bind fun v96=>(l8 K v96 v2 a0 x13).bind fun v98=>(qof 1 1).bind fun v105=>(bD K a0 v2 x91 v105 K x77 x83 0).bind fun(x134,x140)=>mD K v98 x134 x140
def gB (K:Nat) (v2:List aE) (x10:List Nat):Nat→(List Nat)→(List (List Rat))→Int→Option ((List Nat)×(List (List Rat)))
 |0,_,_,_=>none
 |k+1,x64,x70,x76=>bif(decide (x76<(x10.length:Int))) then((xI (v2.length:Int) 0).bind fun x415=>(bU x64 x76).bind fun v419=>(p9 x64 x76 x70.length).bind fun x423=>(aY (x76+1)).bind fun v427=>gB K v2 x10 k x423 (x70++[x415]) v427) else(some (x64,x70))
def lH (K:Nat) (a0:aG):Option ((List (List Rat))×(List Rat)):=
 (kN K a0).bind fun v2=>(xI (v2.length:Int) (0:Nat)).bind fun x10=>(xI (v2.length:Int) 0).bind fun x13=>(gB K v2 x10 K x10 [([]:List Rat)] 0).bind fun(x77,x83)=>nK K a0 v2 x13 x77 x83
theorem wR {K:Nat} {a0:aG} {r:(List (List Rat))×(List Rat)} (hF:lH K a0=some r):Ct Tryz.prog 71 [.va (aG.enc a0)] (.t2 (.vc (pS (mZ cQ) r.1)) (.vc (pS cQ r.2))):=by
 unfold lH at hF
 refine aJ Tryz.func71 rfl (by kernel_rfl) Tryz.ntmps71 rfl (fun w0 M0=>?_)
 refine aO (aT (cB rfl rfl trivial (fun b1=>?_)))
 refine aU (bA (.inr rfl)) ⟨cR (mZ cQ),trivial⟩ ?_
 refine aU (bA (.inr rfl)) ⟨cR cQ,trivial⟩ ?_
 obtain⟨v2,h3,hF⟩:=aZ hF wJ
 refine go ?_ ?_
 refine aS rfl tyZ114q (fun b4=>?_)
 refine go ?_ ?_
 refine aU (aGS (xs:=[.tmp 4,.tmp 1]) (cs:=[pP (some b4) 0,pP (some b1) 0]) rfl rfl) zU2 ?_
 refine zI ?_
 refine bC (aQ (aO (aN1 cQ 44 ?_)))
 obtain⟨x10,h11,hF⟩:=aV hF
 obtain⟨x13,h14,hF⟩:=aV hF
 refine oG (HsM [(0,fun G7=>([⟨some b4,1,114,1,1,[pS aE.cod v2]⟩,⟨some b1,1,113,4,1,(aG.enc a0)⟩]++jW cQ 44 [(none,0,0)] [([]:List Rat)])),(1,fun G7=>([hO (cH [(none,0,0)]) ((G7 2).1) x10.length 24 x10.length x10,⟨some b4,1,114,1,1,[pS aE.cod v2]⟩,⟨some b1,1,113,4,1,(aG.enc a0)⟩]++jW cQ 44 [(none,0,0)] [([]:List Rat)])),(2,fun G7=>([hO cQ ((G7 5).1) x13.length 44 x13.length x13,⟨some b4,1,114,1,1,[pS aE.cod v2]⟩,⟨some b1,1,113,4,1,(aG.enc a0)⟩]++jW cQ 44 [(none,0,0)] [([]:List Rat)])),(3,fun G7=>([hO cQ ((G7 5).1) x13.length 44 x13.length x13,hO (cH [(none,0,0)]) ((G7 2).1) x10.length 24 x10.length x10,⟨some b4,1,114,1,1,[pS aE.cod v2]⟩,⟨some b1,1,113,4,1,(aG.enc a0)⟩]++jW cQ 44 [(none,0,0)] [([]:List Rat)])),(4,fun G7=>([⟨some ((G7 6).1.getD 0),1,62,1,1,[pS (mZ cQ) ([]:List (List Rat))]⟩,⟨some b4,1,114,1,1,[pS aE.cod v2]⟩,⟨some b1,1,113,4,1,(aG.enc a0)⟩]++jW cQ 44 [(none,0,0)] [([]:List Rat)])),(5,fun G7=>([⟨some ((G7 6).1.getD 0),1,62,1,1,[pS (mZ cQ) ([]:List (List Rat))]⟩,hO (cH [(none,0,0)]) ((G7 2).1) x10.length 24 x10.length x10,⟨some b4,1,114,1,1,[pS aE.cod v2]⟩,⟨some b1,1,113,4,1,(aG.enc a0)⟩]++jW cQ 44 [(none,0,0)] [([]:List Rat)])),(6,fun G7=>([⟨some ((G7 6).1.getD 0),1,62,1,1,[pS (mZ cQ) ([]:List (List Rat))]⟩,hO cQ ((G7 5).1) x13.length 44 x13.length x13,⟨some b4,1,114,1,1,[pS aE.cod v2]⟩,⟨some b1,1,113,4,1,(aG.enc a0)⟩]++jW cQ 44 [(none,0,0)] [([]:List Rat)])),(7,fun G7=>([⟨some ((G7 6).1.getD 0),1,62,1,1,[pS (mZ cQ) ([]:List (List Rat))]⟩,hO cQ ((G7 5).1) x13.length 44 x13.length x13,hO (cH [(none,0,0)]) ((G7 2).1) x10.length 24 x10.length x10,⟨some b4,1,114,1,1,[pS aE.cod v2]⟩,⟨some b1,1,113,4,1,(aG.enc a0)⟩]++jW cQ 44 [(none,0,0)] [([]:List Rat)])),(8,fun G7=>([⟨some ((G7 7).1.getD 0),1,24,1,1,[pS cQ ([]:List Rat)]⟩,⟨some b4,1,114,1,1,[pS aE.cod v2]⟩,⟨some b1,1,113,4,1,(aG.enc a0)⟩]++jW cQ 44 [(none,0,0)] [([]:List Rat)])),(9,fun G7=>([⟨some ((G7 7).1.getD 0),1,24,1,1,[pS cQ ([]:List Rat)]⟩,hO (cH [(none,0,0)]) ((G7 2).1) x10.length 24 x10.length x10,⟨some b4,1,114,1,1,[pS aE.cod v2]⟩,⟨some b1,1,113,4,1,(aG.enc a0)⟩]++jW cQ 44 [(none,0,0)] [([]:List Rat)])),(10,fun G7=>([⟨some ((G7 7).1.getD 0),1,24,1,1,[pS cQ ([]:List Rat)]⟩,hO cQ ((G7 5).1) x13.length 44 x13.length x13,⟨some b4,1,114,1,1,[pS aE.cod v2]⟩,⟨some b1,1,113,4,1,(aG.enc a0)⟩]++jW cQ 44 [(none,0,0)] [([]:List Rat)])),(11,fun G7=>([⟨some ((G7 7).1.getD 0),1,24,1,1,[pS cQ ([]:List Rat)]⟩,hO cQ ((G7 5).1) x13.length 44 x13.length x13,hO (cH [(none,0,0)]) ((G7 2).1) x10.length 24 x10.length x10,⟨some b4,1,114,1,1,[pS aE.cod v2]⟩,⟨some b1,1,113,4,1,(aG.enc a0)⟩]++jW cQ 44 [(none,0,0)] [([]:List Rat)])),(12,fun G7=>([⟨some ((G7 7).1.getD 0),1,24,1,1,[pS cQ ([]:List Rat)]⟩,⟨some ((G7 6).1.getD 0),1,62,1,1,[pS (mZ cQ) ([]:List (List Rat))]⟩,⟨some b4,1,114,1,1,[pS aE.cod v2]⟩,⟨some b1,1,113,4,1,(aG.enc a0)⟩]++jW cQ 44 [(none,0,0)] [([]:List Rat)])),(13,fun G7=>([⟨some ((G7 7).1.getD 0),1,24,1,1,[pS cQ ([]:List Rat)]⟩,⟨some ((G7 6).1.getD 0),1,62,1,1,[pS (mZ cQ) ([]:List (List Rat))]⟩,hO (cH [(none,0,0)]) ((G7 2).1) x10.length 24 x10.length x10,⟨some b4,1,114,1,1,[pS aE.cod v2]⟩,⟨some b1,1,113,4,1,(aG.enc a0)⟩]++jW cQ 44 [(none,0,0)] [([]:List Rat)])),(14,fun G7=>([⟨some ((G7 7).1.getD 0),1,24,1,1,[pS cQ ([]:List Rat)]⟩,⟨some ((G7 6).1.getD 0),1,62,1,1,[pS (mZ cQ) ([]:List (List Rat))]⟩,hO cQ ((G7 5).1) x13.length 44 x13.length x13,⟨some b4,1,114,1,1,[pS aE.cod v2]⟩,⟨some b1,1,113,4,1,(aG.enc a0)⟩]++jW cQ 44 [(none,0,0)] [([]:List Rat)])),(15,fun G7=>([⟨some ((G7 7).1.getD 0),1,24,1,1,[pS cQ ([]:List Rat)]⟩,⟨some ((G7 6).1.getD 0),1,62,1,1,[pS (mZ cQ) ([]:List (List Rat))]⟩,hO cQ ((G7 5).1) x13.length 44 x13.length x13,hO (cH [(none,0,0)]) ((G7 2).1) x10.length 24 x10.length x10,⟨some b4,1,114,1,1,[pS aE.cod v2]⟩,⟨some b1,1,113,4,1,(aG.enc a0)⟩]++jW cQ 44 [(none,0,0)] [([]:List Rat)])),(29,fun G7=>([⟨some ((G7 7).1.getD 0),1,24,1,1,[pS cQ ([]:List Rat)]⟩,⟨some ((G7 6).1.getD 0),1,62,1,1,[pO ((G7 2).1) x10.length x10.length]⟩,hO (cH [(none,0,0)]) ((G7 2).1) x10.length 24 x10.length x10,⟨some b4,1,114,1,1,[pS aE.cod v2]⟩,⟨some b1,1,113,4,1,(aG.enc a0)⟩]++jW cQ 44 [(none,0,0)] [([]:List Rat)])),(31,fun G7=>([⟨some ((G7 7).1.getD 0),1,24,1,1,[pS cQ ([]:List Rat)]⟩,⟨some ((G7 6).1.getD 0),1,62,1,1,[pO ((G7 2).1) x10.length x10.length]⟩,hO cQ ((G7 5).1) x13.length 44 x13.length x13,hO (cH [(none,0,0)]) ((G7 2).1) x10.length 24 x10.length x10,⟨some b4,1,114,1,1,[pS aE.cod v2]⟩,⟨some b1,1,113,4,1,(aG.enc a0)⟩]++jW cQ 44 [(none,0,0)] [([]:List Rat)]))]) [2,5,6,7,8] [0,1,3,0,8,24,0,0,199,511] 9 1 [.v (.vc (pS aE.cod v2)),.v (.vc (pI .i64 (v2.length:Int))),.g (fun b _=>.vc (pO b x10.length x10.length)),.v (.vc (pS aE.cod v2)),.v (.vc (pI .i64 (v2.length:Int))),.g (fun b _=>.vc (pO b x13.length x13.length)),.g (fun b _=>.vc (pP (some (b.getD 0)) 0)),.g (fun b _=>.vc (pP (some (b.getD 0)) 0)),.g (fun _ _=>.any)] a9 ⟨⟨rfl,.run (L:=[0,2,4,6,8,10,12,14]) ⟨fun G7 A=>eW 0 1 rfl rfl rfl rfl (.one tyO114),fun G7 A=>eW 1 1 rfl rfl rfl rfl (.one tyO114),fun G7 A=>eW 1 1 rfl rfl rfl rfl (.one tyO114),fun G7 A=>eW 2 1 rfl rfl rfl rfl (.one tyO114),fun G7 A=>eW 1 1 rfl rfl rfl rfl (.one tyO114),fun G7 A=>eW 2 1 rfl rfl rfl rfl (.one tyO114),fun G7 A=>eW 2 1 rfl rfl rfl rfl (.one tyO114),fun G7 A=>eW 3 1 rfl rfl rfl rfl (.one tyO114),trivial⟩ (fun G7=>zU1)⟩,⟨rfl,.run (L:=[0,2,4,6,8,10,12,14]) ⟨fun G7 A=>vQ rfl tyS114,fun G7 A=>vQ rfl tyS114,fun G7 A=>vQ rfl tyS114,fun G7 A=>vQ rfl tyS114,fun G7 A=>vQ rfl tyS114,fun G7 A=>vQ rfl tyS114,fun G7 A=>vQ rfl tyS114,fun G7 A=>vQ rfl tyS114,trivial⟩ (fun G7=>zU1)⟩,⟨rfl,.hvy [0,2,4,6,8,10,12,14] ⟨fun G7 A=>iF (C:=cH [(none,0,0)]) (z:=0) rfl tyS62 rfl tyZ24_oq h11,fun G7 A=>tG (R:=jW cQ 44 [(none,0,0)] [([]:List Rat)]) [1,0,2,3] (iF (C:=cH [(none,0,0)]) (z:=0) rfl tyS62 rfl tyZ24_oq h11) (fun b_ c_=>⟨[hO (cH [(none,0,0)]) (b_) x10.length 24 x10.length x10,hO cQ ((G7 5).1) x13.length 44 x13.length x13,⟨some b4,1,114,1,1,[pS aE.cod v2]⟩,⟨some b1,1,113,4,1,(aG.enc a0)⟩],_,rfl,rfl,rfl⟩),fun G7 A=>tG (R:=jW cQ 44 [(none,0,0)] [([]:List Rat)]) [1,0,2,3] (iF (C:=cH [(none,0,0)]) (z:=0) rfl tyS62 rfl tyZ24_oq h11) (fun b_ c_=>⟨[hO (cH [(none,0,0)]) (b_) x10.length 24 x10.length x10,⟨some ((G7 6).1.getD 0),1,62,1,1,[pS (mZ cQ) ([]:List (List Rat))]⟩,⟨some b4,1,114,1,1,[pS aE.cod v2]⟩,⟨some b1,1,113,4,1,(aG.enc a0)⟩],_,rfl,rfl,rfl⟩),fun G7 A=>tG (R:=jW cQ 44 [(none,0,0)] [([]:List Rat)]) [1,2,0,3,4] (iF (C:=cH [(none,0,0)]) (z:=0) rfl tyS62 rfl tyZ24_oq h11) (fun b_ c_=>⟨[hO (cH [(none,0,0)]) (b_) x10.length 24 x10.length x10,⟨some ((G7 6).1.getD 0),1,62,1,1,[pS (mZ cQ) ([]:List (List Rat))]⟩,hO cQ ((G7 5).1) x13.length 44 x13.length x13,⟨some b4,1,114,1,1,[pS aE.cod v2]⟩,⟨some b1,1,113,4,1,(aG.enc a0)⟩],_,rfl,rfl,rfl⟩),fun G7 A=>tG (R:=jW cQ 44 [(none,0,0)] [([]:List Rat)]) [1,0,2,3] (iF (C:=cH [(none,0,0)]) (z:=0) rfl tyS62 rfl tyZ24_oq h11) (fun b_ c_=>⟨[hO (cH [(none,0,0)]) (b_) x10.length 24 x10.length x10,⟨some ((G7 7).1.getD 0),1,24,1,1,[pS cQ ([]:List Rat)]⟩,⟨some b4,1,114,1,1,[pS aE.cod v2]⟩,⟨some b1,1,113,4,1,(aG.enc a0)⟩],_,rfl,rfl,rfl⟩),fun G7 A=>tG (R:=jW cQ 44 [(none,0,0)] [([]:List Rat)]) [1,2,0,3,4] (iF (C:=cH [(none,0,0)]) (z:=0) rfl tyS62 rfl tyZ24_oq h11) (fun b_ c_=>⟨[hO (cH [(none,0,0)]) (b_) x10.length 24 x10.length x10,⟨some ((G7 7).1.getD 0),1,24,1,1,[pS cQ ([]:List Rat)]⟩,hO cQ ((G7 5).1) x13.length 44 x13.length x13,⟨some b4,1,114,1,1,[pS aE.cod v2]⟩,⟨some b1,1,113,4,1,(aG.enc a0)⟩],_,rfl,rfl,rfl⟩),fun G7 A=>tG (R:=jW cQ 44 [(none,0,0)] [([]:List Rat)]) [1,2,0,3,4] (iF (C:=cH [(none,0,0)]) (z:=0) rfl tyS62 rfl tyZ24_oq h11) (fun b_ c_=>⟨[hO (cH [(none,0,0)]) (b_) x10.length 24 x10.length x10,⟨some ((G7 7).1.getD 0),1,24,1,1,[pS cQ ([]:List Rat)]⟩,⟨some ((G7 6).1.getD 0),1,62,1,1,[pS (mZ cQ) ([]:List (List Rat))]⟩,⟨some b4,1,114,1,1,[pS aE.cod v2]⟩,⟨some b1,1,113,4,1,(aG.enc a0)⟩],_,rfl,rfl,rfl⟩),fun G7 A=>tG (R:=jW cQ 44 [(none,0,0)] [([]:List Rat)]) [1,2,3,0,4,5] (iF (C:=cH [(none,0,0)]) (z:=0) rfl tyS62 rfl tyZ24_oq h11) (fun b_ c_=>⟨[hO (cH [(none,0,0)]) (b_) x10.length 24 x10.length x10,⟨some ((G7 7).1.getD 0),1,24,1,1,[pS cQ ([]:List Rat)]⟩,⟨some ((G7 6).1.getD 0),1,62,1,1,[pS (mZ cQ) ([]:List (List Rat))]⟩,hO cQ ((G7 5).1) x13.length 44 x13.length x13,⟨some b4,1,114,1,1,[pS aE.cod v2]⟩,⟨some b1,1,113,4,1,(aG.enc a0)⟩],_,rfl,rfl,rfl⟩),trivial⟩ (fun G7=>zU1)⟩,⟨rfl,.run (L:=[0,1,4,5,8,9,12,13,29]) ⟨fun G7 A=>eW 0 1 rfl rfl rfl rfl (.one tyO114),fun G7 A=>eW 1 1 rfl rfl rfl rfl (.one tyO114),fun G7 A=>eW 1 1 rfl rfl rfl rfl (.one tyO114),fun G7 A=>eW 2 1 rfl rfl rfl rfl (.one tyO114),fun G7 A=>eW 1 1 rfl rfl rfl rfl (.one tyO114),fun G7 A=>eW 2 1 rfl rfl rfl rfl (.one tyO114),fun G7 A=>eW 2 1 rfl rfl rfl rfl (.one tyO114),fun G7 A=>eW 3 1 rfl rfl rfl rfl (.one tyO114),fun G7 A=>eW 3 1 rfl rfl rfl rfl (.one tyO114),trivial⟩ (fun G7=>zU1)⟩,⟨rfl,.run (L:=[0,1,4,5,8,9,12,13,29]) ⟨fun G7 A=>vQ rfl tyS114,fun G7 A=>vQ rfl tyS114,fun G7 A=>vQ rfl tyS114,fun G7 A=>vQ rfl tyS114,fun G7 A=>vQ rfl tyS114,fun G7 A=>vQ rfl tyS114,fun G7 A=>vQ rfl tyS114,fun G7 A=>vQ rfl tyS114,fun G7 A=>vQ rfl tyS114,trivial⟩ (fun G7=>zU1)⟩,⟨rfl,.hvy [0,1,4,5,8,9,12,13,29] ⟨fun G7 A=>iF (C:=cQ) rfl tyS24 rfl tyZ44q h14,fun G7 A=>iF (C:=cQ) rfl tyS24 rfl tyZ44q h14,fun G7 A=>tG (R:=jW cQ 44 [(none,0,0)] [([]:List Rat)]) [1,0,2,3] (iF (C:=cQ) rfl tyS24 rfl tyZ44q h14) (fun b_ c_=>⟨[hO cQ (b_) x13.length 44 x13.length x13,⟨some ((G7 6).1.getD 0),1,62,1,1,[pS (mZ cQ) ([]:List (List Rat))]⟩,⟨some b4,1,114,1,1,[pS aE.cod v2]⟩,⟨some b1,1,113,4,1,(aG.enc a0)⟩],_,rfl,rfl,rfl⟩),fun G7 A=>tG (R:=jW cQ 44 [(none,0,0)] [([]:List Rat)]) [1,0,2,3,4] (iF (C:=cQ) rfl tyS24 rfl tyZ44q h14) (fun b_ c_=>⟨[hO cQ (b_) x13.length 44 x13.length x13,⟨some ((G7 6).1.getD 0),1,62,1,1,[pS (mZ cQ) ([]:List (List Rat))]⟩,hO (cH [(none,0,0)]) ((G7 2).1) x10.length 24 x10.length x10,⟨some b4,1,114,1,1,[pS aE.cod v2]⟩,⟨some b1,1,113,4,1,(aG.enc a0)⟩],_,rfl,rfl,rfl⟩),fun G7 A=>tG (R:=jW cQ 44 [(none,0,0)] [([]:List Rat)]) [1,0,2,3] (iF (C:=cQ) rfl tyS24 rfl tyZ44q h14) (fun b_ c_=>⟨[hO cQ (b_) x13.length 44 x13.length x13,⟨some ((G7 7).1.getD 0),1,24,1,1,[pS cQ ([]:List Rat)]⟩,⟨some b4,1,114,1,1,[pS aE.cod v2]⟩,⟨some b1,1,113,4,1,(aG.enc a0)⟩],_,rfl,rfl,rfl⟩),fun G7 A=>tG (R:=jW cQ 44 [(none,0,0)] [([]:List Rat)]) [1,0,2,3,4] (iF (C:=cQ) rfl tyS24 rfl tyZ44q h14) (fun b_ c_=>⟨[hO cQ (b_) x13.length 44 x13.length x13,⟨some ((G7 7).1.getD 0),1,24,1,1,[pS cQ ([]:List Rat)]⟩,hO (cH [(none,0,0)]) ((G7 2).1) x10.length 24 x10.length x10,⟨some b4,1,114,1,1,[pS aE.cod v2]⟩,⟨some b1,1,113,4,1,(aG.enc a0)⟩],_,rfl,rfl,rfl⟩),fun G7 A=>tG (R:=jW cQ 44 [(none,0,0)] [([]:List Rat)]) [1,2,0,3,4] (iF (C:=cQ) rfl tyS24 rfl tyZ44q h14) (fun b_ c_=>⟨[hO cQ (b_) x13.length 44 x13.length x13,⟨some ((G7 7).1.getD 0),1,24,1,1,[pS cQ ([]:List Rat)]⟩,⟨some ((G7 6).1.getD 0),1,62,1,1,[pS (mZ cQ) ([]:List (List Rat))]⟩,⟨some b4,1,114,1,1,[pS aE.cod v2]⟩,⟨some b1,1,113,4,1,(aG.enc a0)⟩],_,rfl,rfl,rfl⟩),fun G7 A=>tG (R:=jW cQ 44 [(none,0,0)] [([]:List Rat)]) [1,2,0,3,4,5] (iF (C:=cQ) rfl tyS24 rfl tyZ44q h14) (fun b_ c_=>⟨[hO cQ (b_) x13.length 44 x13.length x13,⟨some ((G7 7).1.getD 0),1,24,1,1,[pS cQ ([]:List Rat)]⟩,⟨some ((G7 6).1.getD 0),1,62,1,1,[pS (mZ cQ) ([]:List (List Rat))]⟩,hO (cH [(none,0,0)]) ((G7 2).1) x10.length 24 x10.length x10,⟨some b4,1,114,1,1,[pS aE.cod v2]⟩,⟨some b1,1,113,4,1,(aG.enc a0)⟩],_,rfl,rfl,rfl⟩),fun G7 A=>tG (R:=jW cQ 44 [(none,0,0)] [([]:List Rat)]) [1,2,0,3,4,5] (iF (C:=cQ) rfl tyS24 rfl tyZ44q h14) (fun b_ c_=>⟨[hO cQ (b_) x13.length 44 x13.length x13,⟨some ((G7 7).1.getD 0),1,24,1,1,[pS cQ ([]:List Rat)]⟩,⟨some ((G7 6).1.getD 0),1,62,1,1,[pO ((G7 2).1) x10.length x10.length]⟩,hO (cH [(none,0,0)]) ((G7 2).1) x10.length 24 x10.length x10,⟨some b4,1,114,1,1,[pS aE.cod v2]⟩,⟨some b1,1,113,4,1,(aG.enc a0)⟩],_,rfl,rfl,rfl⟩),trivial⟩ (fun G7=>zU1)⟩,⟨rfl,.hvy (ins:=fun _=>[]) [0,1,2,3,8,9,10,11] ⟨fun G7 A=>pV (T:=62) (zs:=[pS (mZ cQ) ([]:List (List Rat))]) rfl tyZ62q,fun G7 A=>pV (T:=62) (zs:=[pS (mZ cQ) ([]:List (List Rat))]) rfl tyZ62q,fun G7 A=>pV (T:=62) (zs:=[pS (mZ cQ) ([]:List (List Rat))]) rfl tyZ62q,fun G7 A=>pV (T:=62) (zs:=[pS (mZ cQ) ([]:List (List Rat))]) rfl tyZ62q,fun G7 A=>tG (R:=jW cQ 44 [(none,0,0)] [([]:List Rat)]) [1,0,2,3] (pV (T:=62) (zs:=[pS (mZ cQ) ([]:List (List Rat))]) rfl tyZ62q) (fun b_ c_=>⟨[⟨some (b_.getD 0),1,62,1,1,[pS (mZ cQ) ([]:List (List Rat))]⟩,⟨some ((G7 7).1.getD 0),1,24,1,1,[pS cQ ([]:List Rat)]⟩,⟨some b4,1,114,1,1,[pS aE.cod v2]⟩,⟨some b1,1,113,4,1,(aG.enc a0)⟩],_,rfl,rfl,rfl⟩),fun G7 A=>tG (R:=jW cQ 44 [(none,0,0)] [([]:List Rat)]) [1,0,2,3,4] (pV (T:=62) (zs:=[pS (mZ cQ) ([]:List (List Rat))]) rfl tyZ62q) (fun b_ c_=>⟨[⟨some (b_.getD 0),1,62,1,1,[pS (mZ cQ) ([]:List (List Rat))]⟩,⟨some ((G7 7).1.getD 0),1,24,1,1,[pS cQ ([]:List Rat)]⟩,hO (cH [(none,0,0)]) ((G7 2).1) x10.length 24 x10.length x10,⟨some b4,1,114,1,1,[pS aE.cod v2]⟩,⟨some b1,1,113,4,1,(aG.enc a0)⟩],_,rfl,rfl,rfl⟩),fun G7 A=>tG (R:=jW cQ 44 [(none,0,0)] [([]:List Rat)]) [1,0,2,3,4] (pV (T:=62) (zs:=[pS (mZ cQ) ([]:List (List Rat))]) rfl tyZ62q) (fun b_ c_=>⟨[⟨some (b_.getD 0),1,62,1,1,[pS (mZ cQ) ([]:List (List Rat))]⟩,⟨some ((G7 7).1.getD 0),1,24,1,1,[pS cQ ([]:List Rat)]⟩,hO cQ ((G7 5).1) x13.length 44 x13.length x13,⟨some b4,1,114,1,1,[pS aE.cod v2]⟩,⟨some b1,1,113,4,1,(aG.enc a0)⟩],_,rfl,rfl,rfl⟩),fun G7 A=>tG (R:=jW cQ 44 [(none,0,0)] [([]:List Rat)]) [1,0,2,3,4,5] (pV (T:=62) (zs:=[pS (mZ cQ) ([]:List (List Rat))]) rfl tyZ62q) (fun b_ c_=>⟨[⟨some (b_.getD 0),1,62,1,1,[pS (mZ cQ) ([]:List (List Rat))]⟩,⟨some ((G7 7).1.getD 0),1,24,1,1,[pS cQ ([]:List Rat)]⟩,hO cQ ((G7 5).1) x13.length 44 x13.length x13,hO (cH [(none,0,0)]) ((G7 2).1) x10.length 24 x10.length x10,⟨some b4,1,114,1,1,[pS aE.cod v2]⟩,⟨some b1,1,113,4,1,(aG.enc a0)⟩],_,rfl,rfl,rfl⟩),trivial⟩ (fun G7=>trivial)⟩,⟨rfl,.hvy (ins:=fun _=>[]) [0,1,2,3,4,5,6,7] ⟨fun G7 A=>pV (T:=24) (zs:=[pS cQ ([]:List Rat)]) rfl tyZ24q,fun G7 A=>pV (T:=24) (zs:=[pS cQ ([]:List Rat)]) rfl tyZ24q,fun G7 A=>pV (T:=24) (zs:=[pS cQ ([]:List Rat)]) rfl tyZ24q,fun G7 A=>pV (T:=24) (zs:=[pS cQ ([]:List Rat)]) rfl tyZ24q,fun G7 A=>pV (T:=24) (zs:=[pS cQ ([]:List Rat)]) rfl tyZ24q,fun G7 A=>pV (T:=24) (zs:=[pS cQ ([]:List Rat)]) rfl tyZ24q,fun G7 A=>pV (T:=24) (zs:=[pS cQ ([]:List Rat)]) rfl tyZ24q,fun G7 A=>pV (T:=24) (zs:=[pS cQ ([]:List Rat)]) rfl tyZ24q,trivial⟩ (fun G7=>trivial)⟩,⟨rfl,.hvy [13,15] ⟨fun G7 A=>aRi (t_s 1 rfl rfl rfl tyO62.s),fun G7 A=>aRi (t_s 1 rfl rfl rfl tyO62.s),trivial⟩ (fun G7=>zU2)⟩,trivial⟩ (fun bs8 G7=>?_)
 refine go ?_ ?_
 refine aP (bH (fun H E=>∃(x77:List Nat),∃(x83:List (List Rat)),∃(b78:Option Nat),∃(c79:Nat),∃(n80:Nat),∃(g84:List xO),∃(N85:Nat),nK K a0 v2 x13 x77 x83=some r∧x77.length=n80∧x83.length=N85∧mW g84 x83∧(∀k∈x77,k<N85)∧H=([⟨some ((G7 7).1.getD 0),1,24,1,1,[pO ((G7 5).1) x13.length x13.length]⟩,⟨some ((G7 6).1.getD 0),1,62,1,1,[pO b78 n80 c79]⟩,hO cQ ((G7 5).1) x13.length 44 x13.length x13,hO (cH g84) b78 c79 24 n80 x77,⟨some b4,1,114,1,1,[pS aE.cod v2]⟩,⟨some b1,1,113,4,1,(aG.enc a0)⟩]++jW cQ 44 g84 x83)∧E=[(1,.vc (pP (some b1) 0)),(4,.vc (pP (some b4) 0)),(5,.vc (pF 156 [pP (some b4) 0,pP (some b1) 0])),(6,.vc (pP (some ((G7 6).1.getD 0)) 0)),(7,.vc (pP (some ((G7 7).1.getD 0)) 0))]) ?_ (fun Jj90=>?_))
 ·rintro _ _ ⟨x77,x83,b78,c79,n80,g84,N85,hF,q81,q86,q87,q88,rfl,rfl⟩
  unfold nK at hF
  obtain⟨x91,h92,hF⟩:=aV hF
  refine go ?_ ?_
  refine s7 (C:=aI.cod) (z:=(⟨0,0⟩:aI)) rfl tyS29 rfl tyZ58q rfl h92 (fun b93=>?_)
  refine zI ?_
  refine bC (aQ (aO (aT (fY ?_))))
  refine aU (eW 6 4 rfl rfl rfl rfl (.agg tyA113)) zU1 ?_
  refine aU (kQ (off:=0) (k:=1) rfl tyF113_1) zU1 ?_
  refine aU (eW 6 1 rfl rfl rfl rfl (.one tyO24)) zU1 ?_
  refine fY ?_
  refine xB 0 [9,39,44] rfl rfl ⟨rfl,rfl,rfl,trivial⟩ rfl ?_
  obtain⟨v96,h97,hF⟩:=aZ hF cX
  refine aU (bF rfl h97 rfl) ⟨rfl,rfl,rfl,trivial⟩ ?_
  refine aU (aGS (xs:=[.tmp 7]) (cs:=[pP (some ((G7 7).1.getD 0)) 0]) rfl rfl) zU1 ?_
  obtain⟨v98,h99,hF⟩:=aV hF
  refine aMd (f:=156) (cs:=[pP (some b4) 0,pP (some b1) 0]) (pre:=[.vc (pS cQ v96),.vc (pF 157 [pP (some ((G7 7).1.getD 0)) 0])]) (xs:=[.tmp 45,.tmp 46]) 6 [0,4,5,2] [1,3] rfl (yE h99 rfl) ⟨rfl,rfl,rfl,trivial⟩ rfl rfl rfl (by decide) ?_
  rintro _ _ ⟨b100,c101,n102,q103,rfl,rfl⟩
  obtain⟨v105,h106,hF⟩:=aZ hF aAj
  refine go ?_ ?_
  refine aS rfl tyZ44q (fun b107=>?_)
  refine go ?_ ?_
  refine aP (bH (fun H E=>∃(x134:List Nat),∃(x140:List (List Rat)),∃(b135:Option Nat),∃(c136:Nat),∃(n137:Nat),∃(g141:List xO),∃(N142:Nat),mD K v98 x134 x140=some r∧x134.length=n137∧x140.length=N142∧mW g141 x140∧(∀k∈x134,k<N142)∧H=([⟨some ((G7 7).1.getD 0),1,24,1,1,[pO b100 n102 c101]⟩,hO cQ b100 c101 44 n102 v98,⟨some ((G7 6).1.getD 0),1,62,1,1,[pO b135 n137 c136]⟩,hO (cH g141) b135 c136 24 n137 x134]++jW cQ 44 g141 x140)∧E=[(6,.vc (pP (some ((G7 6).1.getD 0)) 0)),(7,.vc (pP (some ((G7 7).1.getD 0)) 0))]) ?_ (fun Jj147=>?_))
  ·rintro _ _ ⟨x134,x140,b135,c136,n137,g141,N142,hF,q138,q143,q144,q145,rfl,rfl⟩
   unfold mD at hF
   refine aQ (aO (dr [0,0,1,7] 4 0 ?_ (fun bs149 G148=>?_)))
   refine bC (aQ (qY (rC (aRY 3 4 rfl rfl q144 (aHt q143 q145) ?_))))
   refine vR 3 [2,180] rfl ((aNi _ _).trans q138) zU2 rfl ?_
   refine vR 1 [3,181] rfl q103 zU2 rfl ?_
   obtain rfl:=l7 hF
   exact oE (.inl rfl) Tryz.results71 (.tmp rfl (.tmp rfl .nil)) rfl rfl
  obtain⟨⟨x134',x140'⟩,hL,hRl146⟩:=aV hF
  refine eM (fun k a w=>∃(x121:List Nat),∃(x127:List (List Rat)),∃(x133:Int),∃(b122:Option Nat),∃(c123:Nat),∃(n124:Nat),∃(g128:List xO),∃(N129:Nat),bD K a0 v2 x91 v105 k x121 x127 x133=some (x134',x140')∧x121.length=n124∧x127.length=N129∧mW g128 x127∧(∀k∈x121,k<N129)∧hs _ ([⟨some b107,1,44,4,1,(eQ v105)⟩,⟨some ((G7 7).1.getD 0),1,24,1,1,[pO b100 n102 c101]⟩,⟨some b4,1,114,1,1,[pS aE.cod v2]⟩,⟨some b1,1,113,4,1,(aG.enc a0)⟩,hO cQ b100 c101 44 n102 v98,⟨some ((G7 6).1.getD 0),1,62,1,1,[pO b122 n124 c123]⟩,hO (cH g128) b122 c123 24 n124 x121]++jW cQ 44 g128 x127) [(1,.vc (pP (some b1) 0)),(4,.vc (pP (some b4) 0)),(5,.vc (pF 156 [pP (some b4) 0,pP (some b1) 0])),(6,.vc (pP (some ((G7 6).1.getD 0)) 0)),(7,.vc (pP (some ((G7 7).1.getD 0)) 0)),(9,.vc (pS aI.cod x91)),(10,.vc (pP (some b107) 0)),(49,.vc (pS aE.cod v2)),(50,.vc (pI .i64 (v2.length:Int))),(51,.vc (pI .i64 x133))] a w) K (fun a w ⟨_,_,_,_,_,_,_,_,hF,_,_,_,_,_⟩=>by cases hF) (fun k a w ⟨x121,x127,x133,b122,c123,n124,g128,N129,hF,q125,q130,q131,q132,hh⟩=>eK ?_ hh) (fun a w hh=>⟨x77,x83,0,b78,c79,n80,g84,N85,hL,q81,q86,q87,q88,cT 7 [0,1,2,3,4,5,6] rfl rfl (by decide) (by exact⟨rfl,rfl,rfl,rfl,rfl,rfl,rfl,rfl,rfl,rfl,trivial⟩) hh⟩)
  rw [bD.eq_2] at hF
  refine go ?_ ?_
  refine aK hF rfl (fun h151 hF=>?_) (fun h151 hF=>?_)
  ·refine go ?_ ?_
   refine aP ?_
   obtain⟨v152,h153,hF⟩:=aV hF
   refine go ?_ ?_
   refine aS rfl tyZ3q (fun b154=>?_)
   refine aS rfl tyZ118q (fun b155=>?_)
   obtain⟨v156,h157,hF⟩:=aV hF
   refine go ?_ ?_
   refine aOr rfl (aA6 h157) zU1 ?_
   rintro _ _ ⟨b159,c160,n161,q162,rfl,rfl⟩
   obtain⟨v164,h165,hF⟩:=aV hF
   refine go ?_ ?_
   refine aS rfl tyZ51q (fun b166=>?_)
   refine go ?_ ?_
   refine aP (go ?_ ?_)
   refine aK hF rfl (fun h167 hF=>?_) (fun h167 hF=>?_)
   ·refine aO (aT (fY ?_))
    refine aU (kQ (off:=0) (k:=0) rfl tyF118_0) zU1 ?_
    refine aU (eW 2 1 rfl rfl rfl rfl (.one tyO3)) zU1 ?_
    refine aU (eW 4 4 rfl rfl rfl rfl (.agg tyA44)) zU1 ?_
    obtain⟨v168,h169,hF⟩:=aV hF
    refine aU (l5 (C:=aI.cod) 1 rfl tyS29 rfl q162 (a8 h169).1 (a8 h169).2.1) zU2 ?_
    refine aU (aM3 (off:=0) (k:=0) rfl tyF58_0) zU1 ?_
    obtain⟨x170,h171,hF⟩:=aV hF
    refine l6 (xD 1 rfl rfl h169 h171 tyA44.s) zU2 ?_
    refine bC (aQ (aO (wQ (fun H E=>∃(x174:List aI),d7 K a0 v2 x121 x127 x133 v152 v164 (bD K a0 v2 x91 v105 k) x174=some (x134',x140')∧x174.length=n161∧H=([⟨some b166,1,51,18,1,(aA.enc v164)⟩,hO aI.cod b159 c160 58 n161 x174,⟨some b155,1,118,2,1,(aE.enc v152)⟩,⟨some b154,1,3,1,1,[pI .i64 x133]⟩,⟨some b107,1,44,4,1,(eQ v105)⟩,⟨some ((G7 7).1.getD 0),1,24,1,1,[pO b100 n102 c101]⟩,⟨some b4,1,114,1,1,[pS aE.cod v2]⟩,⟨some b1,1,113,4,1,(aG.enc a0)⟩,hO cQ b100 c101 44 n102 v98,⟨some ((G7 6).1.getD 0),1,62,1,1,[pO b122 n124 c123]⟩,hO (cH g128) b122 c123 24 n124 x121]++jW cQ 44 g128 x127)∧E=[(1,.vc (pP (some b1) 0)),(4,.vc (pP (some b4) 0)),(5,.vc (pF 156 [pP (some b4) 0,pP (some b1) 0])),(6,.vc (pP (some ((G7 6).1.getD 0)) 0)),(7,.vc (pP (some ((G7 7).1.getD 0)) 0)),(9,.vc (pS aI.cod x91)),(10,.vc (pP (some b107) 0)),(11,.vc (pP (some b154) 0)),(12,.vc (pP (some b155) 0)),(13,.vc (pO b159 n161 c160)),(14,.vc (pP (some b166) 0)),(49,.vc (pS aE.cod v2)),(50,.vc (pI .i64 (v2.length:Int))),(51,.vc (pI .i64 x133))]) ?_ (fun Jj180=>?_))))
    ·rintro _ _ ⟨x174,hF,q178,rfl,rfl⟩
     unfold d7 at hF
     refine aO ?_
     obtain⟨v183,h184,hF⟩:=aV hF
     rcases Bool.eq_false_or_eq_true (decide (v183<(v2.length:Int))) with h185|h185
     ·have hF:=tD h185 hF
      have hF:=nP h184 hF
      obtain⟨v188,h189,hF⟩:=aV hF
      refine hY [0,1,0,4,15,31,63,63,191,511,1023,63,2111,6207,16383,32767] 16 0 [.v (.vc (pI .i64 x133)),.v (.vc (pI .i64 v183)),.v (.vc (pS aE.cod v2)),.v (.vc (pI .i64 (v2.length:Int))),.v (.vc (pB (decide (v183<(v2.length:Int))))),.v (.vc (pB true)),.v (.vc (pS aE.cod v2)),.v (.vc (pI .i64 x133)),.v (.vc (pI .i64 v183)),.v (.vc (pM (aE.cod.e v188))),.v (.va (aE.enc v188)),.v (.vc (pP (some b155) 0)),.v (.vc (pI .i64 v152.row)),.v (.va ([pI .i64 v152.row]++[pI .i64 3])),.v (.vc (pB (v188.row==v152.row&&v188.kind==3))),.v (.vc (pB (v188.row==v152.row&&v188.kind==3)))] a9 ⟨d0 (eW 3 1 rfl rfl rfl rfl (.one tyO3)) zU1,d0 (wZ rfl h184) ⟨rfl,jC _ _,trivial⟩,d0 (eW 6 1 rfl rfl rfl rfl (.one tyO114)) zU1,d0 (vQ rfl tyS114) zU1,d0 (aK2 rfl) zU2,d0 (lY (bA (.inl rfl)) h185) zU1,g0 (eW 6 1 rfl rfl rfl rfl (.one tyO114)) zU1,g0 (eW 3 1 rfl rfl rfl rfl (.one tyO3)) zU1,g0 (wZ rfl h184) ⟨rfl,jC _ _,trivial⟩,g0 (vJ rfl tyS114 h189) zU2,g0 (uO 2 rfl rfl (.agg tyA118)) zU1,g0 (kQ (off:=0) (k:=0) rfl tyF118_0) zU1,g0 (eW 2 1 rfl rfl rfl rfl (.one tyO3)) zU1,g0 (cA (is:=[0,1]) (xs:=[.tmp 99,.const (.int .i64 (3))]) (ps:=[.vc (pI .i64 v152.row),.vc (pI .i64 3)]) rfl tyB118q rfl rfl ⟨trivial,trivial,trivial⟩ rfl) ⟨rfl,jC _ _,trivial⟩,g0 (aRR rfl tyQ118) zU2,d0 (xN rfl) zU2,trivial⟩ (fun bs182 G181=>?_)
      refine bC (aQ (aK hF rfl (fun h190 hF=>?_) (fun h190 hF=>?_)))
      ·have hF:=nP h184 hF
       obtain⟨v195,h196,hF⟩:=aV hF
       obtain⟨v197,h198,hF⟩:=aV hF
       refine hY [0,0,2,7,15,0,0,64,255,511] 9 1 [.v (.vc (pO b122 n124 c123)),.v (.vc (pI .i64 x133)),.v (.vc (pI .i64 v183)),.v (.vc (pE b122 v183 (cH g128).n 0)),.v (.vc (pO (kX g128 v195).1 (kX g128 v195).2.1 (kX g128 v195).2.2)),.v (.vc (pI .i64 x133)),.v (.vc (pP (some b166) 10)),.v (.va (eQ v164.mu)),.v (.vc (pE (kX g128 v195).1 x133 cQ.n 0))] a9 ⟨d0 (eW 9 1 rfl rfl rfl rfl (.one tyO62)) zU1,d0 (eW 3 1 rfl rfl rfl rfl (.one tyO3)) zU1,d0 (wZ rfl h184) ⟨rfl,jC _ _,trivial⟩,d0 (l5 (C:=(cH g128)) 10 rfl tyS62 rfl q125 (a8 h196).1 (a8 h196).2.1) zU2,d0 (sQ (C:=(cH g128)) (k:=1) 10 rfl rfl h196 rfl (.one tyO24) rfl) zU1,d0 (eW 3 1 rfl rfl rfl rfl (.one tyO3)) zU1,d0 (kQ (off:=0) (k:=10) rfl tyF51_7) zU1,d0 (eW 0 4 rfl rfl rfl rfl (.agg tyA44)) zU1,d0 (l5 (11+v195) rfl tyS24 (lZ 11 rfl q131 q130 (q132 _ (bM h196))) (nJ q131 q130 (q132 _ (bM h196))) (a8 h198).1 (a8 h198).2.1) zU2,trivial⟩ (fun bs192 G191=>?_)
       obtain⟨x199,h200,hF⟩:=aV hF
       refine l6 (xD (H':=([⟨some b166,1,51,18,1,(aA.enc v164)⟩,hO aI.cod b159 c160 58 n161 x174,⟨some b155,1,118,2,1,(aE.enc v152)⟩,⟨some b154,1,3,1,1,[pI .i64 x133]⟩,⟨some b107,1,44,4,1,(eQ v105)⟩,⟨some ((G7 7).1.getD 0),1,24,1,1,[pO b100 n102 c101]⟩,⟨some b4,1,114,1,1,[pS aE.cod v2]⟩,⟨some b1,1,113,4,1,(aG.enc a0)⟩,hO cQ b100 c101 44 n102 v98,⟨some ((G7 6).1.getD 0),1,62,1,1,[pO b122 n124 c123]⟩,hO (cH g128) b122 c123 24 n124 x121]++jW cQ 44 g128 (x127.set v195 x199))) (11+v195) rfl (aC1 11 rfl q131 q130 (q132 _ (bM h196))) h198 h200 tyA44.s (hH:=stN 11 rfl q131 q130 (q132 _ (bM h196)))) zU2 ?_
       refine bC (uB (aQ (aCP 1 [13] rfl q178 zU1 rfl ?_)))
       refine aFT 2 [(11,0)] rfl zU1 rfl ?_
       obtain⟨x204,h205,hF⟩:=aV hF
       obtain⟨v206,h207,hF⟩:=aZ hF cX
       refine hY [0,0,0,4,12,28,0,126,0,511] 9 1 [.v (.vc (pF 156 [pP (some b4) 0,pP (some b1) 0])),.v (.va (aG.enc a0)),.v (.vc (pP (some b1) 0)),.v (.vc (pS aF.cod a0.dofs)),.v (.vc (pI .i64 (a0.dofs.length:Int))),.v (.vc (pS cQ x204)),.v (.vc (pS aI.cod x174)),.v (.vc (pS cQ v206)),.v (.vc (pF 159 [pP (some ((G7 6).1.getD 0)) 0,pM (cI.e x133)]))] a9 ⟨d0 (bA (.inl rfl)) zU1,d0 (eW 5 4 rfl rfl rfl rfl (.agg tyA113)) zU1,d0 (kQ (off:=0) (k:=0) rfl tyF113_0) zU1,d0 (eW 5 1 rfl rfl rfl rfl (.one tyO23)) zU1,d0 (vQ rfl tyS23) zU1,d0 (aDR 0 (iF (C:=cQ) rfl tyS24 rfl tyZ44q h205) (fun _ _=>rfl) rfl (fun _ _=>rfl)) zU1,d0 (bA (.inl rfl)) zU1,d0 (bF rfl h207 rfl) ⟨rfl,rfl,rfl,trivial⟩,d0 (aGS (xs:=[.tmp 6,.tmp 11]) (cs:=[pP (some ((G7 6).1.getD 0)) 0,pM (cI.e x133)]) rfl rfl) zU2,trivial⟩ (fun bs203 G202=>?_)
       obtain⟨v208,h209,hF⟩:=aV hF
       refine wN (f:=156) (cs:=[pP (some b4) 0,pP (some b1) 0]) (pre:=[.vc (pS cQ v206),.vc (pF 159 [pP (some ((G7 6).1.getD 0)) 0,pM (cI.e x133)])]) (xs:=[.tmp 176,.tmp 177]) 9 [7,4,5,8] [0,1,2,3,6] rfl (gF h209 q125 (vU q130) (yT q131 q130 (q132 _ (bM h196)) (bI h200 rfl)) q132) ⟨rfl,rfl,rfl,trivial⟩ rfl rfl rfl (by decide) ?_
       rintro _ _ ⟨b210,c211,n212,g215,N216,q213,q217,q218,q219,rfl,rfl⟩
       refine uI (rZ [⟨some ((G7 6).1.getD 0),1,62,1,1,[pO b210 n212 c211]⟩,⟨some b4,1,114,1,1,[pS aE.cod v2]⟩,⟨some b1,1,113,4,1,(aG.enc a0)⟩,hO (cH g215) b210 c211 24 n212 v208.1] (jW cQ 44 g215 v208.2) [⟨some b166,1,51,18,1,(aA.enc v164)⟩,⟨some b155,1,118,2,1,(aE.enc v152)⟩,⟨some b107,1,44,4,1,(eQ v105)⟩,⟨some ((G7 7).1.getD 0),1,24,1,1,[pO b100 n102 c101]⟩,hO cQ b100 c101 44 n102 v98]) ?_
       obtain⟨v221,h222,hF⟩:=aV hF
       refine go ?_ ?_
       exact aN (fun a w hh=>⟨v208.1,v208.2,v221,b210,c211,n212,g215,N216,hF,q213,q217,q218,q219,cT 9 [6,7,1,2,8,0,3] rfl rfl (by decide) (by exact⟨rfl,rfl,rfl,rfl,rfl,rfl,rfl,rfl,rfl,rfl,trivial⟩) hh⟩)
      refine jD (uB (aQ (aCP 1 [13] rfl q178 zU1 rfl ?_)))
      refine aFT 2 [(11,0)] rfl zU1 rfl ?_
      obtain⟨x225,h226,hF⟩:=aV hF
      obtain⟨v227,h228,hF⟩:=aZ hF cX
      refine hY [0,0,0,4,12,28,0,126,0,511] 9 1 [.v (.vc (pF 156 [pP (some b4) 0,pP (some b1) 0])),.v (.va (aG.enc a0)),.v (.vc (pP (some b1) 0)),.v (.vc (pS aF.cod a0.dofs)),.v (.vc (pI .i64 (a0.dofs.length:Int))),.v (.vc (pS cQ x225)),.v (.vc (pS aI.cod x174)),.v (.vc (pS cQ v227)),.v (.vc (pF 159 [pP (some ((G7 6).1.getD 0)) 0,pM (cI.e x133)]))] a9 ⟨d0 (bA (.inl rfl)) zU1,d0 (eW 5 4 rfl rfl rfl rfl (.agg tyA113)) zU1,d0 (kQ (off:=0) (k:=0) rfl tyF113_0) zU1,d0 (eW 5 1 rfl rfl rfl rfl (.one tyO23)) zU1,d0 (vQ rfl tyS23) zU1,d0 (aDR 0 (iF (C:=cQ) rfl tyS24 rfl tyZ44q h226) (fun _ _=>rfl) rfl (fun _ _=>rfl)) zU1,d0 (bA (.inl rfl)) zU1,d0 (bF rfl h228 rfl) ⟨rfl,rfl,rfl,trivial⟩,d0 (aGS (xs:=[.tmp 6,.tmp 11]) (cs:=[pP (some ((G7 6).1.getD 0)) 0,pM (cI.e x133)]) rfl rfl) zU2,trivial⟩ (fun bs224 G223=>?_)
      obtain⟨v229,h230,hF⟩:=aV hF
      refine wN (f:=156) (cs:=[pP (some b4) 0,pP (some b1) 0]) (pre:=[.vc (pS cQ v227),.vc (pF 159 [pP (some ((G7 6).1.getD 0)) 0,pM (cI.e x133)])]) (xs:=[.tmp 176,.tmp 177]) 9 [7,4,5,8] [0,1,2,3,6] rfl (gF h230 q125 q130 q131 q132) ⟨rfl,rfl,rfl,trivial⟩ rfl rfl rfl (by decide) ?_
      rintro _ _ ⟨b231,c232,n233,g236,N237,q234,q238,q239,q240,rfl,rfl⟩
      refine uI (rZ [⟨some ((G7 6).1.getD 0),1,62,1,1,[pO b231 n233 c232]⟩,⟨some b4,1,114,1,1,[pS aE.cod v2]⟩,⟨some b1,1,113,4,1,(aG.enc a0)⟩,hO (cH g236) b231 c232 24 n233 v229.1] (jW cQ 44 g236 v229.2) [⟨some b166,1,51,18,1,(aA.enc v164)⟩,⟨some b155,1,118,2,1,(aE.enc v152)⟩,⟨some b107,1,44,4,1,(eQ v105)⟩,⟨some ((G7 7).1.getD 0),1,24,1,1,[pO b100 n102 c101]⟩,hO cQ b100 c101 44 n102 v98]) ?_
      obtain⟨v242,h243,hF⟩:=aV hF
      refine go ?_ ?_
      exact aN (fun a w hh=>⟨v229.1,v229.2,v242,b231,c232,n233,g236,N237,hF,q234,q238,q239,q240,cT 9 [6,7,1,2,8,0,3] rfl rfl (by decide) (by exact⟨rfl,rfl,rfl,rfl,rfl,rfl,rfl,rfl,rfl,rfl,trivial⟩) hh⟩)
     have hF:=tE h185 hF
     refine drb [0,1,0,4,15,31,63,63,191,511,1023,63,2111,6207,16383,32767] 16 0 ?_ (fun bs182 G181=>?_)
     refine bC (aQ (tW rfl ?_))
     refine jD (uB (aQ (aCP 1 [13] rfl q178 zU1 rfl ?_)))
     refine aFT 2 [(11,0)] rfl zU1 rfl ?_
     obtain⟨x246,h247,hF⟩:=aV hF
     obtain⟨v248,h249,hF⟩:=aZ hF cX
     refine hY [0,0,0,4,12,28,0,126,0,511] 9 1 [.v (.vc (pF 156 [pP (some b4) 0,pP (some b1) 0])),.v (.va (aG.enc a0)),.v (.vc (pP (some b1) 0)),.v (.vc (pS aF.cod a0.dofs)),.v (.vc (pI .i64 (a0.dofs.length:Int))),.v (.vc (pS cQ x246)),.v (.vc (pS aI.cod x174)),.v (.vc (pS cQ v248)),.v (.vc (pF 159 [pP (some ((G7 6).1.getD 0)) 0,pM (cI.e x133)]))] a9 ⟨d0 (bA (.inl rfl)) zU1,d0 (eW 5 4 rfl rfl rfl rfl (.agg tyA113)) zU1,d0 (kQ (off:=0) (k:=0) rfl tyF113_0) zU1,d0 (eW 5 1 rfl rfl rfl rfl (.one tyO23)) zU1,d0 (vQ rfl tyS23) zU1,d0 (aDR 0 (iF (C:=cQ) rfl tyS24 rfl tyZ44q h247) (fun _ _=>rfl) rfl (fun _ _=>rfl)) zU1,d0 (bA (.inl rfl)) zU1,d0 (bF rfl h249 rfl) ⟨rfl,rfl,rfl,trivial⟩,d0 (aGS (xs:=[.tmp 6,.tmp 11]) (cs:=[pP (some ((G7 6).1.getD 0)) 0,pM (cI.e x133)]) rfl rfl) zU2,trivial⟩ (fun bs245 G244=>?_)
     obtain⟨v250,h251,hF⟩:=aV hF
     refine wN (f:=156) (cs:=[pP (some b4) 0,pP (some b1) 0]) (pre:=[.vc (pS cQ v248),.vc (pF 159 [pP (some ((G7 6).1.getD 0)) 0,pM (cI.e x133)])]) (xs:=[.tmp 176,.tmp 177]) 9 [7,4,5,8] [0,1,2,3,6] rfl (gF h251 q125 q130 q131 q132) ⟨rfl,rfl,rfl,trivial⟩ rfl rfl rfl (by decide) ?_
     rintro _ _ ⟨b252,c253,n254,g257,N258,q255,q259,q260,q261,rfl,rfl⟩
     refine uI (rZ [⟨some ((G7 6).1.getD 0),1,62,1,1,[pO b252 n254 c253]⟩,⟨some b4,1,114,1,1,[pS aE.cod v2]⟩,⟨some b1,1,113,4,1,(aG.enc a0)⟩,hO (cH g257) b252 c253 24 n254 v250.1] (jW cQ 44 g257 v250.2) [⟨some b166,1,51,18,1,(aA.enc v164)⟩,⟨some b155,1,118,2,1,(aE.enc v152)⟩,⟨some b107,1,44,4,1,(eQ v105)⟩,⟨some ((G7 7).1.getD 0),1,24,1,1,[pO b100 n102 c101]⟩,hO cQ b100 c101 44 n102 v98]) ?_
     obtain⟨v263,h264,hF⟩:=aV hF
     refine go ?_ ?_
     exact aN (fun a w hh=>⟨v250.1,v250.2,v263,b252,c253,n254,g257,N258,hF,q255,q259,q260,q261,cT 9 [6,7,1,2,8,0,3] rfl rfl (by decide) (by exact⟨rfl,rfl,rfl,rfl,rfl,rfl,rfl,rfl,rfl,rfl,trivial⟩) hh⟩)
    refine go ?_ ?_
    refine aK hF rfl (fun h265 hF=>?_) (fun h265 hF=>?_)
    ·obtain⟨v268,h269,hF⟩:=aZ hF w5
     obtain⟨v270,h271,hF⟩:=aV hF
     refine dr [0,0,2,0,0,0,56,127,255,511] 9 1 ?_ (fun bs267 G266=>?_)
     obtain⟨x272,h273,hF⟩:=aV hF
     refine l6 (xD 1 rfl rfl h271 h273 tyA44.s) zU2 ?_
     refine bC ?_
     exact rG Jj180 ⟨x272,hF,(bI h273 (bI h171 q162)),rfl,rfl⟩ 11 [0,1,2,3,4,5,6,7,8,9,10] rfl rfl ⟨rfl,rfl,rfl,rfl,rfl,rfl,rfl,rfl,rfl,rfl,rfl,rfl,rfl,rfl,trivial⟩
    refine jD ?_
    exact rG Jj180 ⟨x170,hF,(bI h171 q162),rfl,rfl⟩ 11 [0,1,2,3,4,5,6,7,8,9,10] rfl rfl ⟨rfl,rfl,rfl,rfl,rfl,rfl,rfl,rfl,rfl,rfl,rfl,rfl,rfl,rfl,trivial⟩
   refine go ?_ ?_
   refine aK hF rfl (fun h275 hF=>?_) (fun h275 hF=>?_)
   ·obtain⟨v276,h277,x278,h279,v283,h284,v285,h286,hF⟩:=bn4 hF
    obtain⟨v287,h288,hF⟩:=aV hF
    obtain⟨v289,h290,hF⟩:=aZ hF sP
    obtain⟨v291,h292,hF⟩:=aV hF
    refine go ?_ ?_
    refine hY [0,0,2,6,15,31,0,0,128,511,1023] 10 1 [.v (.vc (pO b122 n124 c123)),.v (.vc (pI .i64 x133)),.v (.vc (pI .i64 v283)),.v (.vc (pI .i64 v285)),.v (.vc (pE b122 v285 (cH g128).n 0)),.v (.vc (pO (kX g128 v287).1 (kX g128 v287).2.1 (kX g128 v287).2.2)),.v (.vc (pI .i64 x133)),.v (.va (eQ v105)),.v (.va (eQ v289)),.v (.vc (pE (kX g128 v287).1 x133 cQ.n 0))] a9 ⟨d0 (eW 9 1 rfl rfl rfl rfl (.one tyO62)) zU1,d0 (eW 3 1 rfl rfl rfl rfl (.one tyO3)) zU1,d0 (wZ rfl h284) ⟨rfl,jC _ _,trivial⟩,d0 (yA rfl h286) ⟨rfl,jC _ _,trivial⟩,d0 (l5 (C:=(cH g128)) 10 rfl tyS62 rfl q125 (a8 h288).1 (a8 h288).2.1) zU2,d0 (sQ (C:=(cH g128)) (k:=1) 10 rfl rfl h288 rfl (.one tyO24) rfl) zU1,d0 (eW 3 1 rfl rfl rfl rfl (.one tyO3)) zU1,d0 (eW 4 4 rfl rfl rfl rfl (.agg tyA44)) zU1,d0 (bF rfl h290 rfl) zU1,d0 (l5 (11+v287) rfl tyS24 (lZ 11 rfl q131 q130 (q132 _ (bM h288))) (nJ q131 q130 (q132 _ (bM h288))) (a8 h292).1 (a8 h292).2.1) zU2,trivial⟩ (fun bs282 G281=>?_)
    obtain⟨x293,h294,hF⟩:=aV hF
    refine l6 (xD (H':=([⟨some b166,1,51,18,1,(aA.enc v164)⟩,hO aI.cod b159 c160 58 n161 x278,⟨some b155,1,118,2,1,(aE.enc v152)⟩,⟨some b154,1,3,1,1,[pI .i64 x133]⟩,⟨some b107,1,44,4,1,(eQ v105)⟩,⟨some ((G7 7).1.getD 0),1,24,1,1,[pO b100 n102 c101]⟩,⟨some b4,1,114,1,1,[pS aE.cod v2]⟩,⟨some b1,1,113,4,1,(aG.enc a0)⟩,hO cQ b100 c101 44 n102 v98,⟨some ((G7 6).1.getD 0),1,62,1,1,[pO b122 n124 c123]⟩,hO (cH g128) b122 c123 24 n124 x121]++jW cQ 44 g128 (x127.set v287 x293))) (11+v287) rfl (aC1 11 rfl q131 q130 (q132 _ (bM h288))) h292 h294 tyA44.s (hH:=stN 11 rfl q131 q130 (q132 _ (bM h288)))) zU2 ?_
    refine bC (uB (aQ (aCP 1 [13,57,114] rfl (bI h279 q162) ⟨rfl,rfl,rfl,trivial⟩ rfl ?_)))
    refine aFT 2 [(11,0)] rfl zU1 rfl ?_
    obtain⟨x298,h299,hF⟩:=aV hF
    obtain⟨v300,h301,hF⟩:=aZ hF cX
    refine hY [0,0,0,4,12,28,0,126,0,511] 9 1 [.v (.vc (pF 156 [pP (some b4) 0,pP (some b1) 0])),.v (.va (aG.enc a0)),.v (.vc (pP (some b1) 0)),.v (.vc (pS aF.cod a0.dofs)),.v (.vc (pI .i64 (a0.dofs.length:Int))),.v (.vc (pS cQ x298)),.v (.vc (pS aI.cod x278)),.v (.vc (pS cQ v300)),.v (.vc (pF 159 [pP (some ((G7 6).1.getD 0)) 0,pM (cI.e x133)]))] a9 ⟨d0 (bA (.inl rfl)) zU1,d0 (eW 5 4 rfl rfl rfl rfl (.agg tyA113)) zU1,d0 (kQ (off:=0) (k:=0) rfl tyF113_0) zU1,d0 (eW 5 1 rfl rfl rfl rfl (.one tyO23)) zU1,d0 (vQ rfl tyS23) zU1,d0 (aDR 0 (iF (C:=cQ) rfl tyS24 rfl tyZ44q h299) (fun _ _=>rfl) rfl (fun _ _=>rfl)) zU1,d0 (bA (.inl rfl)) zU1,d0 (bF rfl h301 rfl) ⟨rfl,rfl,rfl,trivial⟩,d0 (aGS (xs:=[.tmp 6,.tmp 11]) (cs:=[pP (some ((G7 6).1.getD 0)) 0,pM (cI.e x133)]) rfl rfl) zU2,trivial⟩ (fun bs297 G296=>?_)
    obtain⟨v302,h303,hF⟩:=aV hF
    refine wN (f:=156) (cs:=[pP (some b4) 0,pP (some b1) 0]) (pre:=[.vc (pS cQ v300),.vc (pF 159 [pP (some ((G7 6).1.getD 0)) 0,pM (cI.e x133)])]) (xs:=[.tmp 176,.tmp 177]) 9 [7,4,5,8] [0,1,2,3,6] rfl (gF h303 q125 (vU q130) (yT q131 q130 (q132 _ (bM h288)) (bI h294 rfl)) q132) ⟨rfl,rfl,rfl,trivial⟩ rfl rfl rfl (by decide) ?_
    rintro _ _ ⟨b304,c305,n306,g309,N310,q307,q311,q312,q313,rfl,rfl⟩
    refine uI (rZ [⟨some ((G7 6).1.getD 0),1,62,1,1,[pO b304 n306 c305]⟩,⟨some b4,1,114,1,1,[pS aE.cod v2]⟩,⟨some b1,1,113,4,1,(aG.enc a0)⟩,hO (cH g309) b304 c305 24 n306 v302.1] (jW cQ 44 g309 v302.2) [⟨some b166,1,51,18,1,(aA.enc v164)⟩,⟨some b155,1,118,2,1,(aE.enc v152)⟩,⟨some b107,1,44,4,1,(eQ v105)⟩,⟨some ((G7 7).1.getD 0),1,24,1,1,[pO b100 n102 c101]⟩,hO cQ b100 c101 44 n102 v98]) ?_
    obtain⟨v315,h316,hF⟩:=aV hF
    refine go ?_ ?_
    exact aN (fun a w hh=>⟨v302.1,v302.2,v315,b304,c305,n306,g309,N310,hF,q307,q311,q312,q313,cT 9 [6,7,1,2,8,0,3] rfl rfl (by decide) (by exact⟨rfl,rfl,rfl,rfl,rfl,rfl,rfl,rfl,rfl,rfl,trivial⟩) hh⟩)
   refine go ?_ ?_
   refine aK hF rfl (fun h317 hF=>?_) (fun h317 hF=>?_)
   ·refine aO ?_
    obtain⟨v320,h321,hF⟩:=aZ hF sP
    obtain⟨v322,h323,hF⟩:=aV hF
    refine dr [0,0,2,0,8,31,63,127] 7 1 ?_ (fun bs319 G318=>?_)
    obtain⟨x324,h325,v329,h330,v331,h332,v333,h334,hF⟩:=bn4 hF
    obtain⟨v335,h336,hF⟩:=aZ hF sP
    obtain⟨v337,h338,hF⟩:=aV hF
    refine go ?_ ?_
    refine hY [0,0,2,6,15,31,0,0,128,511,1023] 10 1 [.v (.vc (pO b122 n124 c123)),.v (.vc (pI .i64 x133)),.v (.vc (pI .i64 v329)),.v (.vc (pI .i64 v331)),.v (.vc (pE b122 v331 (cH g128).n 0)),.v (.vc (pO (kX g128 v333).1 (kX g128 v333).2.1 (kX g128 v333).2.2)),.v (.vc (pI .i64 x133)),.v (.va (eQ v105)),.v (.va (eQ v335)),.v (.vc (pE (kX g128 v333).1 x133 cQ.n 0))] a9 ⟨d0 (eW 9 1 rfl rfl rfl rfl (.one tyO62)) zU1,d0 (eW 3 1 rfl rfl rfl rfl (.one tyO3)) zU1,d0 (wZ rfl h330) ⟨rfl,jC _ _,trivial⟩,d0 (yA rfl h332) ⟨rfl,jC _ _,trivial⟩,d0 (l5 (C:=(cH g128)) 10 rfl tyS62 rfl q125 (a8 h334).1 (a8 h334).2.1) zU2,d0 (sQ (C:=(cH g128)) (k:=1) 10 rfl rfl h334 rfl (.one tyO24) rfl) zU1,d0 (eW 3 1 rfl rfl rfl rfl (.one tyO3)) zU1,d0 (eW 4 4 rfl rfl rfl rfl (.agg tyA44)) zU1,d0 (bF rfl h336 rfl) zU1,d0 (l5 (11+v333) rfl tyS24 (lZ 11 rfl q131 q130 (q132 _ (bM h334))) (nJ q131 q130 (q132 _ (bM h334))) (a8 h338).1 (a8 h338).2.1) zU2,trivial⟩ (fun bs328 G327=>?_)
    obtain⟨x339,h340,hF⟩:=aV hF
    refine l6 (xD (H':=([⟨some b166,1,51,18,1,(aA.enc v164)⟩,hO aI.cod b159 c160 58 n161 x324,⟨some b155,1,118,2,1,(aE.enc v152)⟩,⟨some b154,1,3,1,1,[pI .i64 x133]⟩,⟨some b107,1,44,4,1,(eQ v105)⟩,⟨some ((G7 7).1.getD 0),1,24,1,1,[pO b100 n102 c101]⟩,⟨some b4,1,114,1,1,[pS aE.cod v2]⟩,⟨some b1,1,113,4,1,(aG.enc a0)⟩,hO cQ b100 c101 44 n102 v98,⟨some ((G7 6).1.getD 0),1,62,1,1,[pO b122 n124 c123]⟩,hO (cH g128) b122 c123 24 n124 x121]++jW cQ 44 g128 (x127.set v333 x339))) (11+v333) rfl (aC1 11 rfl q131 q130 (q132 _ (bM h334))) h338 h340 tyA44.s (hH:=stN 11 rfl q131 q130 (q132 _ (bM h334)))) zU2 ?_
    refine bC (uB (aQ (aCP 1 [13,57,132] rfl (bI h325 q162) ⟨rfl,rfl,rfl,trivial⟩ rfl ?_)))
    refine aFT 2 [(11,0)] rfl zU1 rfl ?_
    obtain⟨x344,h345,hF⟩:=aV hF
    obtain⟨v346,h347,hF⟩:=aZ hF cX
    refine hY [0,0,0,4,12,28,0,126,0,511] 9 1 [.v (.vc (pF 156 [pP (some b4) 0,pP (some b1) 0])),.v (.va (aG.enc a0)),.v (.vc (pP (some b1) 0)),.v (.vc (pS aF.cod a0.dofs)),.v (.vc (pI .i64 (a0.dofs.length:Int))),.v (.vc (pS cQ x344)),.v (.vc (pS aI.cod x324)),.v (.vc (pS cQ v346)),.v (.vc (pF 159 [pP (some ((G7 6).1.getD 0)) 0,pM (cI.e x133)]))] a9 ⟨d0 (bA (.inl rfl)) zU1,d0 (eW 5 4 rfl rfl rfl rfl (.agg tyA113)) zU1,d0 (kQ (off:=0) (k:=0) rfl tyF113_0) zU1,d0 (eW 5 1 rfl rfl rfl rfl (.one tyO23)) zU1,d0 (vQ rfl tyS23) zU1,d0 (aDR 0 (iF (C:=cQ) rfl tyS24 rfl tyZ44q h345) (fun _ _=>rfl) rfl (fun _ _=>rfl)) zU1,d0 (bA (.inl rfl)) zU1,d0 (bF rfl h347 rfl) ⟨rfl,rfl,rfl,trivial⟩,d0 (aGS (xs:=[.tmp 6,.tmp 11]) (cs:=[pP (some ((G7 6).1.getD 0)) 0,pM (cI.e x133)]) rfl rfl) zU2,trivial⟩ (fun bs343 G342=>?_)
    obtain⟨v348,h349,hF⟩:=aV hF
    refine wN (f:=156) (cs:=[pP (some b4) 0,pP (some b1) 0]) (pre:=[.vc (pS cQ v346),.vc (pF 159 [pP (some ((G7 6).1.getD 0)) 0,pM (cI.e x133)])]) (xs:=[.tmp 176,.tmp 177]) 9 [7,4,5,8] [0,1,2,3,6] rfl (gF h349 q125 (vU q130) (yT q131 q130 (q132 _ (bM h334)) (bI h340 rfl)) q132) ⟨rfl,rfl,rfl,trivial⟩ rfl rfl rfl (by decide) ?_
    rintro _ _ ⟨b350,c351,n352,g355,N356,q353,q357,q358,q359,rfl,rfl⟩
    refine uI (rZ [⟨some ((G7 6).1.getD 0),1,62,1,1,[pO b350 n352 c351]⟩,⟨some b4,1,114,1,1,[pS aE.cod v2]⟩,⟨some b1,1,113,4,1,(aG.enc a0)⟩,hO (cH g355) b350 c351 24 n352 v348.1] (jW cQ 44 g355 v348.2) [⟨some b166,1,51,18,1,(aA.enc v164)⟩,⟨some b155,1,118,2,1,(aE.enc v152)⟩,⟨some b107,1,44,4,1,(eQ v105)⟩,⟨some ((G7 7).1.getD 0),1,24,1,1,[pO b100 n102 c101]⟩,hO cQ b100 c101 44 n102 v98]) ?_
    obtain⟨v361,h362,hF⟩:=aV hF
    refine go ?_ ?_
    exact aN (fun a w hh=>⟨v348.1,v348.2,v361,b350,c351,n352,g355,N356,hF,q353,q357,q358,q359,cT 9 [6,7,1,2,8,0,3] rfl rfl (by decide) (by exact⟨rfl,rfl,rfl,rfl,rfl,rfl,rfl,rfl,rfl,rfl,trivial⟩) hh⟩)
   refine go ?_ ?_
   refine aK hF rfl (fun h363 hF=>?_) (fun h363 hF=>?_)
   ·refine aO ?_
    obtain⟨v366,h367,hF⟩:=aV hF
    obtain⟨v368,h369,hF⟩:=aV hF
    obtain⟨v370,h371,hF⟩:=aV hF
    obtain⟨v372,h373,hF⟩:=aV hF
    obtain⟨v374,h375,hF⟩:=aV hF
    obtain⟨v376,h377,hF⟩:=aV hF
    obtain⟨v378,h379,hF⟩:=aV hF
    obtain⟨x380,h381,hF⟩:=aV hF
    obtain⟨v383,h384,hF⟩:=aV hF
    refine oG (HsM [(0,fun G364=>([⟨some b166,1,51,18,1,(aA.enc v164)⟩,hO aI.cod b159 c160 58 n161 v156,⟨some b155,1,118,2,1,(aE.enc v152)⟩,⟨some b154,1,3,1,1,[pI .i64 x133]⟩,⟨some b107,1,44,4,1,(eQ v105)⟩,⟨some ((G7 7).1.getD 0),1,24,1,1,[pO b100 n102 c101]⟩,⟨some b4,1,114,1,1,[pS aE.cod v2]⟩,⟨some b1,1,113,4,1,(aG.enc a0)⟩,hO cQ b100 c101 44 n102 v98,⟨some ((G7 6).1.getD 0),1,62,1,1,[pO b122 n124 c123]⟩,hO (cH g128) b122 c123 24 n124 x121]++jW cQ 44 g128 x127)),(1,fun G364=>([⟨some b166,1,51,18,1,(aA.enc v164)⟩,hO aI.cod b159 c160 58 n161 v156,⟨some b155,1,118,2,1,(aE.enc v152)⟩,⟨some b154,1,3,1,1,[pI .i64 x133]⟩,⟨some b107,1,44,4,1,(eQ v105)⟩,⟨some ((G7 7).1.getD 0),1,24,1,1,[pO b100 n102 c101]⟩,⟨some b4,1,114,1,1,[pS aE.cod v2]⟩,⟨some b1,1,113,4,1,(aG.enc a0)⟩,hO cQ b100 c101 44 n102 v98,⟨some ((G7 6).1.getD 0),1,62,1,1,[pO b122 n124 c123]⟩,hO (cH g128) b122 c123 24 n124 x121]++jW cQ 44 g128 (x127.set v370 x380)))]) [17] [0,0,2,6,15,31,0,0,0,256,768,1920,3968,0,0,0,24575,90111,262143,524287] 19 1 [.v (.vc (pO b122 n124 c123)),.v (.vc (pI .i64 x133)),.v (.vc (pI .i64 v366)),.v (.vc (pI .i64 v368)),.v (.vc (pE b122 v368 (cH g128).n 0)),.v (.vc (pO (kX g128 v370).1 (kX g128 v370).2.1 (kX g128 v370).2.2)),.v (.vc (pI .i64 x133)),.v (.vc (pO b122 n124 c123)),.v (.vc (pI .i64 x133)),.v (.vc (pI .i64 v372)),.v (.vc (pI .i64 v374)),.v (.vc (pE b122 v374 (cH g128).n 0)),.v (.vc (pO (kX g128 v376).1 (kX g128 v376).2.1 (kX g128 v376).2.2)),.v (.vc (pI .i64 x133)),.v (.va (eQ v105)),.v (.va (eQ v105)),.v (.vc (pE (kX g128 v370).1 x133 cQ.n 0)),.g (fun _ _=>.any),.v (.vc (pE (kX g128 v376).1 x133 cQ.n 0))] a9 ⟨d1 0 (eW 9 1 rfl rfl rfl rfl (.one tyO62)) zU1,d1 0 (eW 3 1 rfl rfl rfl rfl (.one tyO3)) zU1,d1 0 (wZ rfl h367) ⟨rfl,jC _ _,trivial⟩,d1 0 (yA rfl h369) ⟨rfl,jC _ _,trivial⟩,d1 0 (l5 (C:=(cH g128)) 10 rfl tyS62 rfl q125 (a8 h371).1 (a8 h371).2.1) zU2,d1 0 (sQ (C:=(cH g128)) (k:=1) 10 rfl rfl h371 rfl (.one tyO24) rfl) zU1,d1 0 (eW 3 1 rfl rfl rfl rfl (.one tyO3)) zU1,d1 0 (eW 9 1 rfl rfl rfl rfl (.one tyO62)) zU1,d1 0 (eW 3 1 rfl rfl rfl rfl (.one tyO3)) zU1,d1 0 (wZ rfl h373) ⟨rfl,jC _ _,trivial⟩,d1 0 (yA rfl h375) ⟨rfl,jC _ _,trivial⟩,d1 0 (l5 (C:=(cH g128)) 10 rfl tyS62 rfl q125 (a8 h377).1 (a8 h377).2.1) zU2,d1 0 (sQ (C:=(cH g128)) (k:=1) 10 rfl rfl h377 rfl (.one tyO24) rfl) zU1,⟨rfl,.run (L:=[0,1]) ⟨fun G364 A=>eW 3 1 rfl rfl rfl rfl (.one tyO3),fun G364 A=>eW 3 1 rfl rfl rfl rfl (.one tyO3),trivial⟩ (fun G364=>zU1)⟩,d1 0 (eW 4 4 rfl rfl rfl rfl (.agg tyA44)) zU1,⟨rfl,.run (L:=[0,1]) ⟨fun G364 A=>eW 4 4 rfl rfl rfl rfl (.agg tyA44),fun G364 A=>eW 4 4 rfl rfl rfl rfl (.agg tyA44),trivial⟩ (fun G364=>zU1)⟩,d1 0 (l5 (11+v370) rfl tyS24 (lZ 11 rfl q131 q130 (q132 _ (bM h371))) (nJ q131 q130 (q132 _ (bM h371))) (a8 h379).1 (a8 h379).2.1) zU2,⟨rfl,.hvy [0] ⟨fun G364 A=>aCS (xD (H':=([⟨some b166,1,51,18,1,(aA.enc v164)⟩,hO aI.cod b159 c160 58 n161 v156,⟨some b155,1,118,2,1,(aE.enc v152)⟩,⟨some b154,1,3,1,1,[pI .i64 x133]⟩,⟨some b107,1,44,4,1,(eQ v105)⟩,⟨some ((G7 7).1.getD 0),1,24,1,1,[pO b100 n102 c101]⟩,⟨some b4,1,114,1,1,[pS aE.cod v2]⟩,⟨some b1,1,113,4,1,(aG.enc a0)⟩,hO cQ b100 c101 44 n102 v98,⟨some ((G7 6).1.getD 0),1,62,1,1,[pO b122 n124 c123]⟩,hO (cH g128) b122 c123 24 n124 x121]++jW cQ 44 g128 (x127.set v370 x380))++A) (11+v370) rfl (lZ 11 rfl q131 q130 (q132 _ (bM h371))) h379 h381 tyA44.s (hH:=stNA 11 rfl q131 q130 (q132 _ (bM h371)))),trivial⟩ (fun G364=>zU2)⟩,d1 1 (l5 (11+v376) rfl tyS24 (lZ 11 rfl (yT q131 q130 (q132 _ (bM h371)) (bI h381 rfl)) (vU q130) (q132 _ (bM h377))) (nJ (yT q131 q130 (q132 _ (bM h371)) (bI h381 rfl)) (vU q130) (q132 _ (bM h377))) (a8 h384).1 (a8 h384).2.1) zU2,trivial⟩ (fun bs365 G364=>?_)
    obtain⟨x386,h387,hF⟩:=aV hF
    refine l6 (xD (H':=([⟨some b166,1,51,18,1,(aA.enc v164)⟩,hO aI.cod b159 c160 58 n161 v156,⟨some b155,1,118,2,1,(aE.enc v152)⟩,⟨some b154,1,3,1,1,[pI .i64 x133]⟩,⟨some b107,1,44,4,1,(eQ v105)⟩,⟨some ((G7 7).1.getD 0),1,24,1,1,[pO b100 n102 c101]⟩,⟨some b4,1,114,1,1,[pS aE.cod v2]⟩,⟨some b1,1,113,4,1,(aG.enc a0)⟩,hO cQ b100 c101 44 n102 v98,⟨some ((G7 6).1.getD 0),1,62,1,1,[pO b122 n124 c123]⟩,hO (cH g128) b122 c123 24 n124 x121]++jW cQ 44 g128 ((x127.set v370 x380).set v376 x386))) (11+v376) rfl (aC1 11 rfl (yT q131 q130 (q132 _ (bM h371)) (bI h381 rfl)) (vU q130) (q132 _ (bM h377))) h384 h387 tyA44.s (hH:=stN 11 rfl (yT q131 q130 (q132 _ (bM h371)) (bI h381 rfl)) (vU q130) (q132 _ (bM h377)))) zU2 ?_
    refine bC (aQ (bY ?_))
    have hF:=nP h367 hF
    refine go ?_ ?_
    exact aN (fun a w hh=>⟨x121,((x127.set v370 x380).set v376 x386),v366,b122,c123,n124,g128,N129,hF,q125,(vU (vU q130)),(yT (yT q131 q130 (q132 _ (bM h371)) (bI h381 rfl)) (vU q130) (q132 _ (bM h377)) (bI h387 rfl)),q132,cT 11 [4,5,6,7,8,9,10] rfl rfl (by decide) (by exact⟨rfl,rfl,rfl,rfl,rfl,rfl,rfl,rfl,rfl,rfl,trivial⟩) hh⟩)
   refine jD (uB (aQ (aCP 1 [13,57] rfl q162 zU2 rfl ?_)))
   refine aFT 2 [(11,0)] rfl zU1 rfl ?_
   obtain⟨x393,h394,hF⟩:=aV hF
   obtain⟨v395,h396,hF⟩:=aZ hF cX
   refine hY [0,0,0,4,12,28,0,126,0,511] 9 1 [.v (.vc (pF 156 [pP (some b4) 0,pP (some b1) 0])),.v (.va (aG.enc a0)),.v (.vc (pP (some b1) 0)),.v (.vc (pS aF.cod a0.dofs)),.v (.vc (pI .i64 (a0.dofs.length:Int))),.v (.vc (pS cQ x393)),.v (.vc (pS aI.cod v156)),.v (.vc (pS cQ v395)),.v (.vc (pF 159 [pP (some ((G7 6).1.getD 0)) 0,pM (cI.e x133)]))] a9 ⟨d0 (bA (.inl rfl)) zU1,d0 (eW 5 4 rfl rfl rfl rfl (.agg tyA113)) zU1,d0 (kQ (off:=0) (k:=0) rfl tyF113_0) zU1,d0 (eW 5 1 rfl rfl rfl rfl (.one tyO23)) zU1,d0 (vQ rfl tyS23) zU1,d0 (aDR 0 (iF (C:=cQ) rfl tyS24 rfl tyZ44q h394) (fun _ _=>rfl) rfl (fun _ _=>rfl)) zU1,d0 (bA (.inl rfl)) zU1,d0 (bF rfl h396 rfl) ⟨rfl,rfl,rfl,trivial⟩,d0 (aGS (xs:=[.tmp 6,.tmp 11]) (cs:=[pP (some ((G7 6).1.getD 0)) 0,pM (cI.e x133)]) rfl rfl) zU2,trivial⟩ (fun bs392 G391=>?_)
   obtain⟨v397,h398,hF⟩:=aV hF
   refine wN (f:=156) (cs:=[pP (some b4) 0,pP (some b1) 0]) (pre:=[.vc (pS cQ v395),.vc (pF 159 [pP (some ((G7 6).1.getD 0)) 0,pM (cI.e x133)])]) (xs:=[.tmp 176,.tmp 177]) 9 [7,4,5,8] [0,1,2,3,6] rfl (gF h398 q125 q130 q131 q132) ⟨rfl,rfl,rfl,trivial⟩ rfl rfl rfl (by decide) ?_
   rintro _ _ ⟨b399,c400,n401,g404,N405,q402,q406,q407,q408,rfl,rfl⟩
   refine uI (rZ [⟨some ((G7 6).1.getD 0),1,62,1,1,[pO b399 n401 c400]⟩,⟨some b4,1,114,1,1,[pS aE.cod v2]⟩,⟨some b1,1,113,4,1,(aG.enc a0)⟩,hO (cH g404) b399 c400 24 n401 v397.1] (jW cQ 44 g404 v397.2) [⟨some b166,1,51,18,1,(aA.enc v164)⟩,⟨some b155,1,118,2,1,(aE.enc v152)⟩,⟨some b107,1,44,4,1,(eQ v105)⟩,⟨some ((G7 7).1.getD 0),1,24,1,1,[pO b100 n102 c101]⟩,hO cQ b100 c101 44 n102 v98]) ?_
   obtain⟨v410,h411,hF⟩:=aV hF
   refine go ?_ ?_
   exact aN (fun a w hh=>⟨v397.1,v397.2,v410,b399,c400,n401,g404,N405,hF,q402,q406,q407,q408,cT 9 [6,7,1,2,8,0,3] rfl rfl (by decide) (by exact⟨rfl,rfl,rfl,rfl,rfl,rfl,rfl,rfl,rfl,rfl,trivial⟩) hh⟩)
  refine bY ?_
  obtain⟨rfl,rfl⟩:=sm2 hF
  exact rG Jj147 ⟨x121,x127,b122,c123,n124,g128,N129,hRl146,q125,q130,q131,q132,rfl,rfl⟩ 7 [1,4,5,6] rfl rfl zU2
 obtain⟨⟨x77',x83'⟩,hL,hRl89⟩:=aV hF
 refine eM (fun k a w=>∃(x64:List Nat),∃(x70:List (List Rat)),∃(x76:Int),∃(b65:Option Nat),∃(c66:Nat),∃(n67:Nat),∃(g71:List xO),∃(N72:Nat),gB K v2 x10 k x64 x70 x76=some (x77',x83')∧x64.length=n67∧x70.length=N72∧mW g71 x70∧(∀k∈x64,k<N72)∧hs _ ([⟨some ((G7 7).1.getD 0),1,24,1,1,[pO ((G7 5).1) x13.length x13.length]⟩,⟨some ((G7 6).1.getD 0),1,62,1,1,[pO b65 n67 c66]⟩,hO cQ ((G7 5).1) x13.length 44 x13.length x13,hO (cH g71) b65 c66 24 n67 x64,⟨some b4,1,114,1,1,[pS aE.cod v2]⟩,⟨some b1,1,113,4,1,(aG.enc a0)⟩]++jW cQ 44 g71 x70) [(1,.vc (pP (some b1) 0)),(4,.vc (pP (some b4) 0)),(5,.vc (pF 156 [pP (some b4) 0,pP (some b1) 0])),(6,.vc (pP (some ((G7 6).1.getD 0)) 0)),(7,.vc (pP (some ((G7 7).1.getD 0)) 0)),(25,.vc (pI .i64 (x10.length:Int))),(26,.vc (pI .i64 x76))] a w) K (fun a w ⟨_,_,_,_,_,_,_,_,hF,_,_,_,_,_⟩=>by cases hF) (fun k a w ⟨x64,x70,x76,b65,c66,n67,g71,N72,hF,q68,q73,q74,q75,hh⟩=>eK ?_ hh) (fun a w hh=>⟨x10,[([]:List Rat)],0,((G7 2).1),x10.length,x10.length,[(none,0,0)],1,hL,rfl,rfl,aLg,(aQo h11),cT 6 [0,1,2,3,4,5] rfl rfl (by decide) (by exact⟨rfl,rfl,rfl,rfl,rfl,rfl,rfl,trivial⟩) hh⟩)
 rw [gB.eq_2] at hF
 refine go ?_ ?_
 refine aK hF rfl (fun h412 hF=>?_) (fun h412 hF=>?_)
 ·refine go ?_ ?_
  refine aP ?_
  have hF:=nP h14 hF
  obtain⟨v419,h420,hF⟩:=aV hF
  refine go ?_ ?_
  refine oG (HsM [(0,fun G413=>([⟨some ((G7 7).1.getD 0),1,24,1,1,[pO ((G7 5).1) x13.length x13.length]⟩,⟨some ((G7 6).1.getD 0),1,62,1,1,[pO b65 n67 c66]⟩,hO cQ ((G7 5).1) x13.length 44 x13.length x13,hO (cH g71) b65 c66 24 n67 x64,⟨some b4,1,114,1,1,[pS aE.cod v2]⟩,⟨some b1,1,113,4,1,(aG.enc a0)⟩]++jW cQ 44 g71 x70)),(1,fun G413=>([hO cQ ((G413 4).1) x13.length 44 x13.length x13,⟨some ((G7 7).1.getD 0),1,24,1,1,[pO ((G7 5).1) x13.length x13.length]⟩,⟨some ((G7 6).1.getD 0),1,62,1,1,[pO b65 n67 c66]⟩,hO cQ ((G7 5).1) x13.length 44 x13.length x13,hO (cH g71) b65 c66 24 n67 x64,⟨some b4,1,114,1,1,[pS aE.cod v2]⟩,⟨some b1,1,113,4,1,(aG.enc a0)⟩]++jW cQ 44 g71 x70))]) [4] [0,0,0,4,12,31,63] 6 1 [.v (.vc (pO b65 n67 c66)),.v (.vc (pI .i64 x76)),.v (.vc (pS aE.cod v2)),.v (.vc (pI .i64 (v2.length:Int))),.g (fun b _=>.vc (pO b x13.length x13.length)),.v (.vc (pE b65 x76 (cH g71).n 0))] a9 ⟨⟨rfl,.run (L:=[0,1]) ⟨fun G413 A=>eW 1 1 rfl rfl rfl rfl (.one tyO62),fun G413 A=>eW 2 1 rfl rfl rfl rfl (.one tyO62),trivial⟩ (fun G413=>zU1)⟩,⟨rfl,.run (L:=[0,1]) ⟨fun G413 A=>bA (.inl rfl),fun G413 A=>bA (.inl rfl),trivial⟩ (fun G413=>zU1)⟩,d1 0 (eW 4 1 rfl rfl rfl rfl (.one tyO114)) zU1,d1 0 (vQ rfl tyS114) zU1,⟨rfl,.hvy [0] ⟨fun G413 A=>iF (C:=cQ) rfl tyS24 rfl tyZ44q h14,trivial⟩ (fun G413=>zU1)⟩,d1 1 (l5 (C:=(cH g71)) 4 rfl tyS62 rfl q68 (a8 h420).1 (a8 h420).2.1) zU2,trivial⟩ (fun bs414 G413=>?_)
  obtain⟨x423,h424,hF⟩:=aV hF
  refine aOZ (show([hO cQ ((G413 4).1) x13.length 44 x13.length x13,⟨some ((G7 7).1.getD 0),1,24,1,1,[pO ((G7 5).1) x13.length x13.length]⟩,⟨some ((G7 6).1.getD 0),1,62,1,1,[pO b65 n67 c66]⟩,hO cQ ((G7 5).1) x13.length 44 x13.length x13,hO (cH (g71++[((G413 4).1,x13.length,x13.length)])) b65 c66 24 n67 x64,⟨some b4,1,114,1,1,[pS aE.cod v2]⟩,⟨some b1,1,113,4,1,(aG.enc a0)⟩]++jW cQ 44 g71 x70)=([hO cQ ((G413 4).1) x13.length 44 x13.length x13,⟨some ((G7 7).1.getD 0),1,24,1,1,[pO ((G7 5).1) x13.length x13.length]⟩,⟨some ((G7 6).1.getD 0),1,62,1,1,[pO b65 n67 c66]⟩,hO cQ ((G7 5).1) x13.length 44 x13.length x13,hO (cH g71) b65 c66 24 n67 x64,⟨some b4,1,114,1,1,[pS aE.cod v2]⟩,⟨some b1,1,113,4,1,(aG.enc a0)⟩]++jW cQ 44 g71 x70) from by rw [aI3 (N:=x70.length) ((G413 4).1,x13.length,x13.length) q74.1 (aHt q73 q75)]) ?_
  refine l6 (xD (C:=cH (g71++[((G413 4).1,x13.length,x13.length)])) (z':=x70.length) 4 rfl rfl h420 h424 tyO24.s (hq:=aH6 ((G413 4).1,x13.length,x13.length) q74.1)) zU2 ?_
  refine aEA (g:=((G413 4).1,x13.length,x13.length)) 0 7 rfl rfl rfl q74 ?_
  obtain⟨v427,h428,hF⟩:=aV hF
  refine go ?_ ?_
  exact aN (fun a w hh=>⟨x423,(x70++[x13]),v427,b65,c66,n67,(g71++[((G413 4).1,x13.length,x13.length)]),(N72+1),hF,(bI h424 q68),(aEL q73),(aAI q74 rfl),(uH q75 h424 q73),cT 6 [0,1,2,3,4,5] rfl rfl (by decide) (by exact⟨rfl,rfl,rfl,rfl,rfl,rfl,rfl,trivial⟩) hh⟩)
 refine bY ?_
 obtain⟨rfl,rfl⟩:=sm2 hF
 exact rG Jj90 ⟨x64,x70,b65,c66,n67,g71,N72,hRl89,q68,q73,q74,q75,rfl,rfl⟩ 6 [0,1,2,3,4,5] rfl rfl ⟨rfl,rfl,rfl,rfl,rfl,trivial⟩
def uJ (K:Nat) (a0:List aF) (a1:List Rat) (a2:List Rat) (a3:List aA) (x33:List aI):Option ((List Rat)×(List aI)×Int):=
 (bO K (⟨a0,a1,a2,a3⟩:aG) a1 x33).bind fun v41=>some (v41,x33,0)
def dH (K:Nat) (a0:List aF) (a1:List Rat) (a2:List Rat) (a3:List aA) (v5:List aE) (v10:aX×Int):Nat→(List aI)→Int→Option (List aI)
 |0,_,_=>none
 |k+1,x26,x32=>bif(decide (x32<(v5.length:Int))) then((bU v5 x32).bind fun v44=>(bU x26 v44.row).bind fun v47=>bif(v44.kind==0) then((bU v10.1.z x32).bind fun v50=>(p9 x26 v44.row (⟨v50,v47.f⟩:aI)).bind fun x52=>(bU a3 v44.row).bind fun v55=>bif(decide (0<(v55.t.length:Int))) then((bU x52 v44.row).bind fun v61=>(lF K (⟨a0,a1,a2,a3⟩:aG) v55 v61.n).bind fun v63=>(bU x52 v44.row).bind fun v65=>(p9 x52 v44.row (⟨v65.n,v63⟩:aI)).bind fun x67=>(aY (x32+1)).bind fun v70=>dH K a0 a1 a2 a3 v5 v10 k x67 v70) else((aY (x32+1)).bind fun v72=>dH K a0 a1 a2 a3 v5 v10 k x52 v72)) else(bif(v44.kind==1) then((bU v10.1.z x32).bind fun v77=>(aCu v47.f v77).bind fun v79=>(p9 x26 v44.row (⟨v47.n,v79⟩:aI)).bind fun x81=>(aY (x32+1)).bind fun v84=>dH K a0 a1 a2 a3 v5 v10 k x81 v84) else(bif(v44.kind==2) then((bU v10.1.z x32).bind fun v89=>(aEK v47.f v89).bind fun v91=>(p9 x26 v44.row (⟨v47.n,v91⟩:aI)).bind fun x93=>(aY (x32+1)).bind fun v96=>dH K a0 a1 a2 a3 v5 v10 k x93 v96) else((aY (x32+1)).bind fun v98=>dH K a0 a1 a2 a3 v5 v10 k x26 v98)))) else(some x26)
def fX (K:Nat) (a0:List aF) (a1:List Rat) (a2:List Rat) (a3:List aA):Option ((List Rat)×(List aI)×Int):=
 (lP K (⟨a0,a1,a2,a3⟩:aG)).bind fun v2=>bif(!v2) then(some ([],[],1)) else((kN K (⟨a0,a1,a2,a3⟩:aG)).bind fun v5=>bif(decide (32<(v5.length:Int))) then(some ([],[],4)) else((lH K (⟨a0,a1,a2,a3⟩:aG)).bind fun v8=>(lS K v8.1 v8.2 4096).bind fun v10=>bif(v10.2 != 0) then(some ([],[],v10.2)) else((xI (a3.length:Int) (⟨0,0⟩:aI)).bind fun x14=>(dH K a0 a1 a2 a3 v5 v10 K x14 0).bind fun x33=>uJ K a0 a1 a2 a3 x33)))
theorem qU {K:Nat} {a0:List aF} {a1:List Rat} {a2:List Rat} {a3:List aA} {r:(List Rat)×(List aI)×Int} (hF:fX K a0 a1 a2 a3=some r):Ct Tryz.prog 17 [.vc (pS aF.cod a0),.vc (pS cQ a1),.vc (pS cQ a2),.vc (pS aA.cod a3)] (.t3 (.vc (pS cQ r.1)) (.vc (pS aI.cod r.2.1)) (.vc (pI .i64 r.2.2))):=by
 unfold fX at hF
 refine aJ Tryz.func17 rfl (by kernel_rfl) Tryz.ntmps17 rfl (fun w0 M0=>?_)
 refine aO (aT (aU (bA (.inr rfl)) ⟨cR cQ,trivial⟩ ?_))
 refine aU (bA (.inr rfl)) ⟨cR aI.cod,trivial⟩ ?_
 refine go ?_ ?_
 refine aU (cA (is:=[0,1,2,3]) (xs:=[.tmp 22,.tmp 23,.tmp 24,.tmp 25]) (ps:=[.vc (pS aF.cod a0),.vc (pS cQ a1),.vc (pS cQ a2),.vc (pS aA.cod a3)]) rfl tyB113q rfl rfl ⟨trivial,trivial,trivial,trivial,trivial⟩ rfl) ⟨rfl,rfl,rfl,rfl,trivial⟩ ?_
 refine aS rfl tyZ113q (fun b1=>?_)
 obtain⟨v2,h3,hF⟩:=aZ hF vF
 refine go ?_ ?_
 refine aK hF rfl (fun h4 hF=>?_) (fun h4 hF=>?_)
 ·refine aO (aT (aU (bA (.inr rfl)) ⟨cR cQ,trivial⟩ ?_))
  refine aU (bA (.inr rfl)) ⟨cR aI.cod,trivial⟩ ?_
  exact bN
 obtain⟨v5,h6,hF⟩:=aZ hF wJ
 refine go ?_ ?_
 refine aK hF rfl (fun h7 hF=>?_) (fun h7 hF=>?_)
 ·refine aO (aT (aU (bA (.inr rfl)) ⟨cR cQ,trivial⟩ ?_))
  refine aU (bA (.inr rfl)) ⟨cR aI.cod,trivial⟩ ?_
  exact bN
 obtain⟨v8,h9,hF⟩:=aZ hF wR
 obtain⟨v10,h11,hF⟩:=aZ hF yL
 refine go ?_ ?_
 refine aS rfl tyZ68q (fun b12=>?_)
 refine go ?_ ?_
 refine aK hF rfl (fun h13 hF=>?_) (fun h13 hF=>?_)
 ·refine go ?_ ?_
  refine aU (bA (.inr rfl)) ⟨cR cQ,trivial⟩ ?_
  refine aU (bA (.inr rfl)) ⟨cR aI.cod,trivial⟩ ?_
  exact bN
 obtain⟨x14,h15,hF⟩:=aV hF
 refine go ?_ ?_
 refine s7 (C:=aI.cod) (z:=(⟨0,0⟩:aI)) rfl tyS29 rfl tyZ58q rfl h15 (fun b16=>?_)
 refine go ?_ ?_
 refine aP (bH (fun H E=>∃(x33:List aI),uJ K a0 a1 a2 a3 x33=some r∧x33.length=x14.length∧H=[hO aI.cod b16 x14.length 58 x14.length x33,⟨some b1,1,113,4,1,([pS aF.cod a0]++[pS cQ a1]++[pS cQ a2]++[pS aA.cod a3])⟩]∧E=[(1,.vc (pS cQ a1)),(11,.vc (pP (some b1) 0)),(17,.vc (pO b16 x14.length x14.length))]) ?_ (fun Jj40=>?_))
 ·rintro _ _ ⟨x33,hF,q37,rfl,rfl⟩
  unfold uJ at hF
  refine aQ (aO (aT (aU (eW 1 4 rfl rfl rfl rfl (.agg tyA113)) zU1 ?_)))
  refine fY ?_
  refine fY ?_
  refine xB 0 [17,127] rfl q37 zU2 rfl ?_
  obtain⟨v41,h42,hF⟩:=aZ hF cX
  exact bN
 obtain⟨x33',hL,hRl39⟩:=aV hF
 refine eM (fun k a w=>∃(x26:List aI),∃(x32:Int),dH K a0 a1 a2 a3 v5 v10 k x26 x32=some x33'∧x26.length=x14.length∧hs _ [hO aI.cod b16 x14.length 58 x14.length x26,⟨some b12,1,68,3,1,(aX.enc v10.1)⟩,⟨some b1,1,113,4,1,([pS aF.cod a0]++[pS cQ a1]++[pS cQ a2]++[pS aA.cod a3])⟩] [(1,.vc (pS cQ a1)),(3,.vc (pS aA.cod a3)),(11,.vc (pP (some b1) 0)),(15,.vc (pP (some b12) 0)),(17,.vc (pO b16 x14.length x14.length)),(52,.vc (pS aE.cod v5)),(53,.vc (pI .i64 (v5.length:Int))),(54,.vc (pI .i64 x32))] a w) K (fun a w ⟨_,_,hF,_,_⟩=>by cases hF) (fun k a w ⟨x26,x32,hF,q30,hh⟩=>eK ?_ hh) (fun a w hh=>⟨x14,0,hL,rfl,dS [0,1,2] hh⟩)
 rw [dH.eq_2] at hF
 refine go ?_ ?_
 refine aK hF rfl (fun h43 hF=>?_) (fun h43 hF=>?_)
 ·refine go ?_ ?_
  refine aP ?_
  obtain⟨v44,h45,hF⟩:=aV hF
  refine go ?_ ?_
  refine aS rfl tyZ118q (fun b46=>?_)
  obtain⟨v47,h48,hF⟩:=aV hF
  refine go ?_ ?_
  refine aP (go ?_ ?_)
  refine aK hF rfl (fun h49 hF=>?_) (fun h49 hF=>?_)
  ·obtain⟨v50,h51,x52,h53,v55,h56,hF⟩:=bn3 hF
   refine go ?_ ?_
   refine aS rfl tyZ51q (fun b57=>?_)
   refine go ?_ ?_
   refine aK hF rfl (fun h58 hF=>?_) (fun h58 hF=>?_)
   ·obtain⟨v61,h62,hF⟩:=aV hF
    obtain⟨v63,h64,hF⟩:=aZ hF w5
    refine dr [0,0,0,0,8,24,56,126,255,511,1023] 10 1 ?_ (fun bs60 G59=>?_)
    have hF:=nP h62 hF
    obtain⟨x67,h68,v70,h71,hF⟩:=vB hF
    refine go ?_ ?_
    exact aN (fun a w hh=>⟨x67,v70,hF,(bI h68 (bI h53 q30)),dS [2,3,4] hh⟩)
   obtain⟨v72,h73,hF⟩:=aV hF
   refine go ?_ ?_
   exact aN (fun a w hh=>⟨x52,v72,hF,(bI h53 q30),dS [2,3,4] hh⟩)
  refine go ?_ ?_
  refine aK hF rfl (fun h74 hF=>?_) (fun h74 hF=>?_)
  ·obtain⟨v77,h78,hF⟩:=aV hF
   obtain⟨v79,h80,hF⟩:=aZ hF xG
   refine dr [0,0,2,6,14,0,32,0,224,480,1022,2047,4095,8191] 13 1 ?_ (fun bs76 G75=>?_)
   obtain⟨x81,h82,v84,h85,hF⟩:=vB hF
   refine go ?_ ?_
   exact aN (fun a w hh=>⟨x81,v84,hF,(bI h82 q30),dS [1,2,3] hh⟩)
  refine go ?_ ?_
  refine aK hF rfl (fun h86 hF=>?_) (fun h86 hF=>?_)
  ·obtain⟨v89,h90,hF⟩:=aV hF
   obtain⟨v91,h92,hF⟩:=aZ hF aE1
   refine dr [0,0,2,6,14,0,32,0,224,480,1022,2047,4095,8191] 13 1 ?_ (fun bs88 G87=>?_)
   obtain⟨x93,h94,v96,h97,hF⟩:=vB hF
   refine go ?_ ?_
   exact aN (fun a w hh=>⟨x93,v96,hF,(bI h94 q30),dS [1,2,3] hh⟩)
  obtain⟨v98,h99,hF⟩:=aV hF
  refine go ?_ ?_
  exact aN (fun a w hh=>⟨x26,v98,hF,q30,dS [1,2,3] hh⟩)
 refine bY ?_
 obtain rfl:=l7 hF
 exact m5 Jj40 ⟨x26,hRl39,q30,rfl,rfl⟩ [0,2]
def mR (a0:aH) (a1:Int):Option aH:=
 (qof 1 1).bind fun v3=>(fD a1 8).bind fun v6=>bif(v6==0) then((oT ([]:List Rat) a0.load).bind fun x13=>(oT x13 [v3]).bind fun x19=>some (⟨a0.dofs,x19,a0.v,a0.rows⟩:aH)) else(bif(v6==1) then((aY ((a0.dofs.length:Int)-1)).bind fun v27=>(slL a0.v 0 v27).bind fun x29=>some (⟨a0.dofs,a0.load,x29,a0.rows⟩:aH)) else(bif(v6==2) then((oT ([]:List aA) a0.rows).bind fun x36=>(oT x36 [(⟨0,0,0,0,0,[(⟨(a0.dofs.length:Int),v3⟩:aC)],([]:List aC),0,0⟩:aA)]).bind fun x42=>some (⟨a0.dofs,a0.load,a0.v,x42⟩:aH)) else(bif(v6==3) then((oT ([]:List aA) a0.rows).bind fun x54=>(oT x54 [(⟨0,0,0,0,0,([]:List aC),[(⟨0,v3⟩:aC),(⟨0,v3⟩:aC)],0,0⟩:aA)]).bind fun x60=>some (⟨a0.dofs,a0.load,a0.v,x60⟩:aH)) else(bif(v6==4) then((oT ([]:List aA) a0.rows).bind fun x71=>(qof (-1) 3).bind fun v78=>(oT x71 [(⟨0,0,0,0,0,([]:List aC),([]:List aC),v78,0⟩:aA)]).bind fun x80=>some (⟨a0.dofs,a0.load,a0.v,x80⟩:aH)) else(bif(v6==5) then((aY ((a0.dofs.length:Int)-1)).bind fun v91=>(slL a0.dofs 0 v91).bind fun x93=>(oT ([]:List aF) x93).bind fun x95=>(oT x95 [(⟨0,0,false,0,0⟩:aF)]).bind fun x102=>some (⟨x102,a0.load,a0.v,a0.rows⟩:aH)) else(bif(v6==6) then((aY ((a0.dofs.length:Int)-1)).bind fun v114=>(slL a0.v 0 v114).bind fun x116=>(oT ([]:List Rat) x116).bind fun x118=>(oT x118 [v3]).bind fun x124=>(oT ([]:List aA) a0.rows).bind fun x135=>(aY ((a0.dofs.length:Int)-1)).bind fun v138=>(oT x135 [(⟨0,0,0,0,0,[(⟨v138,v3⟩:aC)],([]:List aC),0,0⟩:aA)]).bind fun x143=>some (⟨a0.dofs,a0.load,x124,x143⟩:aH)) else(bif(v6==7) then((oT ([]:List aA) a0.rows).bind fun x155=>(oT x155 [(⟨0,0,0,0,0,[(⟨(-1),v3⟩:aC)],([]:List aC),0,0⟩:aA)]).bind fun x161=>some (⟨a0.dofs,a0.load,a0.v,x161⟩:aH)) else(some a0))))))))
theorem x0 {a0:aH} {a1:Int} {r:aH} (hF:mR a0 a1=some r):Ct Tryz.prog 18 [.va (aH.enc a0),.vc (pI .i64 a1)] (.va (aH.enc r)):=by
 unfold mR at hF
 refine aJ Tryz.func18 rfl (by kernel_rfl) Tryz.ntmps18 rfl (fun w0 M0=>?_)
 refine aO (aT (cB rfl rfl trivial (fun b1=>?_)))
 refine aS rfl tyZ27q (fun b2=>?_)
 obtain⟨v3,h4,hF⟩:=aZ hF bP
 refine go ?_ ?_
 refine aS rfl tyZ44q (fun b5=>?_)
 obtain⟨v6,h7,hF⟩:=aZ hF rN
 refine go ?_ ?_
 refine aP (go ?_ ?_)
 refine aK hF rfl (fun h8 hF=>?_) (fun h8 hF=>?_)
 ·obtain⟨x13,h14,hF⟩:=aV hF
  refine oG (HsM [(0,fun G9=>[⟨some b5,1,44,4,1,(eQ v3)⟩,⟨some b2,1,27,4,1,([pS aF.cod ([]:List aF)]++[pS cQ ([]:List Rat)]++[pS cQ ([]:List Rat)]++[pS aA.cod ([]:List aA)])⟩,⟨some b1,1,27,4,1,(aH.enc a0)⟩]),(1,fun G9=>[hO cQ ((G9 0).1) 0 44 0 ([]:List Rat),⟨some b5,1,44,4,1,(eQ v3)⟩,⟨some b2,1,27,4,1,([pS aF.cod ([]:List aF)]++[pS cQ ([]:List Rat)]++[pS cQ ([]:List Rat)]++[pS aA.cod ([]:List aA)])⟩,⟨some b1,1,27,4,1,(aH.enc a0)⟩]),(3,fun G9=>[hO cQ ((G9 3).1) ((G9 3).2) 44 (0+a0.load.length) x13,⟨some b5,1,44,4,1,(eQ v3)⟩,⟨some b2,1,27,4,1,([pS aF.cod ([]:List aF)]++[pS cQ ([]:List Rat)]++[pS cQ ([]:List Rat)]++[pS aA.cod ([]:List aA)])⟩,⟨some b1,1,27,4,1,(aH.enc a0)⟩])]) [0,3] [0,0,2,7,0,16,63,127,255] 6 3 [.g (fun b _=>.vc (pO b 0 0)),.v (.vc (pP (some b1) 1)),.v (.vc (pS cQ a0.load)),.g (fun b c=>.vc (pO b (0+a0.load.length) c)),.v (.va (eQ v3)),.v (.vc (pS cQ [v3]))] a9 ⟨⟨rfl,.hvy (ins:=fun _=>[]) [0] ⟨fun G9 A=>yK (C:=cQ) (xs:=[]) (ps:=[]) (zs:=([]:List Rat)) rfl tyS24 rfl trivial rfl,trivial⟩ (fun G9=>trivial)⟩,⟨rfl,.run (L:=[0,1]) ⟨fun G9 A=>kQ (off:=0) (k:=1) rfl tyF27_1,fun G9 A=>kQ (off:=0) (k:=1) rfl tyF27_1,trivial⟩ (fun G9=>zU1)⟩,⟨rfl,.run (L:=[0,1]) ⟨fun G9 A=>eW 2 1 rfl rfl rfl rfl (.one tyO24),fun G9 A=>eW 3 1 rfl rfl rfl rfl (.one tyO24),trivial⟩ (fun G9=>zU1)⟩,⟨rfl,.hvy [1] ⟨fun G9 A=>aCt 0 rfl tyS24 rfl rfl rfl h14,trivial⟩ (fun G9=>zU2)⟩,⟨rfl,.run (L:=[0,1,3]) ⟨fun G9 A=>eW 0 4 rfl rfl rfl rfl (.agg tyA44),fun G9 A=>eW 1 4 rfl rfl rfl rfl (.agg tyA44),fun G9 A=>eW 1 4 rfl rfl rfl rfl (.agg tyA44),trivial⟩ (fun G9=>zU1)⟩,⟨rfl,.run (L:=[0,1,3]) ⟨fun G9 A=>hU (C:=cQ) (xs:=[.tmp 19]) (ps:=[.va (eQ v3)]) (zs:=[v3]) rfl tyS24 rfl ⟨⟨trivial,rfl⟩,trivial⟩ rfl,fun G9 A=>hU (C:=cQ) (xs:=[.tmp 19]) (ps:=[.va (eQ v3)]) (zs:=[v3]) rfl tyS24 rfl ⟨⟨trivial,rfl⟩,trivial⟩ rfl,fun G9 A=>hU (C:=cQ) (xs:=[.tmp 19]) (ps:=[.va (eQ v3)]) (zs:=[v3]) rfl tyS24 rfl ⟨⟨trivial,rfl⟩,trivial⟩ rfl,trivial⟩ (fun G9=>zU1)⟩,trivial⟩ (fun bs10 G9=>?_)
  obtain⟨x19,h20,hF⟩:=aV hF
  refine gJ 0 rfl tyS24 rfl rfl (bK h14 rfl) rfl rfl h20 (fun b21 c22 H23 e24=>?_)
  cases e24
  refine aU (kQ (off:=0) (k:=1) rfl tyF27_1) zU1 ?_
  refine l6 (t_s 3 rfl rfl rfl tyO24.s) zU2 ?_
  refine bC (uB (aQ (aO (aT (wK 0 3 1 rfl (bK h20 (bK h14 rfl)) rfl rfl rfl rfl rfl ?_)))))
  exact bN
 refine go ?_ ?_
 refine aK hF rfl (fun h26 hF=>?_) (fun h26 hF=>?_)
 ·obtain⟨v27,h28,x29,h30,hF⟩:=vB hF
  exact bN
 refine go ?_ ?_
 refine aK hF rfl (fun h31 hF=>?_) (fun h31 hF=>?_)
 ·obtain⟨x36,h37,hF⟩:=aV hF
  refine oG (HsM [(0,fun G32=>[⟨some b5,1,44,4,1,(eQ v3)⟩,⟨some b2,1,27,4,1,([pS aF.cod ([]:List aF)]++[pS cQ ([]:List Rat)]++[pS cQ ([]:List Rat)]++[pS aA.cod ([]:List aA)])⟩,⟨some b1,1,27,4,1,(aH.enc a0)⟩]),(1,fun G32=>[hO aA.cod ((G32 0).1) 0 51 0 ([]:List aA),⟨some b5,1,44,4,1,(eQ v3)⟩,⟨some b2,1,27,4,1,([pS aF.cod ([]:List aF)]++[pS cQ ([]:List Rat)]++[pS cQ ([]:List Rat)]++[pS aA.cod ([]:List aA)])⟩,⟨some b1,1,27,4,1,(aH.enc a0)⟩]),(3,fun G32=>[hO aA.cod ((G32 3).1) ((G32 3).2) 51 (0+a0.rows.length) x36,⟨some b5,1,44,4,1,(eQ v3)⟩,⟨some b2,1,27,4,1,([pS aF.cod ([]:List aF)]++[pS cQ ([]:List Rat)]++[pS cQ ([]:List Rat)]++[pS aA.cod ([]:List aA)])⟩,⟨some b1,1,27,4,1,(aH.enc a0)⟩])]) [0,3] [0,0,2,7,0,0,48,112,240,496,1023,2047,4095] 10 3 [.g (fun b _=>.vc (pO b 0 0)),.v (.vc (pP (some b1) 3)),.v (.vc (pS aA.cod a0.rows)),.g (fun b c=>.vc (pO b (0+a0.rows.length) c)),.v (.vc (pI .i64 (a0.dofs.length:Int))),.v (.va (eQ v3)),.v (.va ([pI .i64 (a0.dofs.length:Int)]++(eQ v3))),.v (.vc (pS aC.cod [(⟨(a0.dofs.length:Int),v3⟩:aC)])),.v (.va ([pI .i64 0]++[pI .i64 0]++[pI .i64 0]++[pI .i64 0]++(eQ 0)++[pS aC.cod [(⟨(a0.dofs.length:Int),v3⟩:aC)]]++[pS aC.cod ([]:List aC)]++(eQ 0)++(eQ 0))),.v (.vc (pS aA.cod [(⟨0,0,0,0,0,[(⟨(a0.dofs.length:Int),v3⟩:aC)],([]:List aC),0,0⟩:aA)]))] a9 ⟨⟨rfl,.hvy (ins:=fun _=>[]) [0] ⟨fun G32 A=>yK (C:=aA.cod) (xs:=[]) (ps:=[]) (zs:=([]:List aA)) rfl tyS25 rfl trivial rfl,trivial⟩ (fun G32=>trivial)⟩,⟨rfl,.run (L:=[0,1]) ⟨fun G32 A=>kQ (off:=0) (k:=3) rfl tyF27_3,fun G32 A=>kQ (off:=0) (k:=3) rfl tyF27_3,trivial⟩ (fun G32=>zU1)⟩,⟨rfl,.run (L:=[0,1]) ⟨fun G32 A=>eW 2 1 rfl rfl rfl rfl (.one tyO25),fun G32 A=>eW 3 1 rfl rfl rfl rfl (.one tyO25),trivial⟩ (fun G32=>zU1)⟩,⟨rfl,.hvy [1] ⟨fun G32 A=>aCt 0 rfl tyS25 rfl rfl rfl h37,trivial⟩ (fun G32=>zU2)⟩,⟨rfl,.run (L:=[0,1,3]) ⟨fun G32 A=>bA (.inl rfl),fun G32 A=>bA (.inl rfl),fun G32 A=>bA (.inl rfl),trivial⟩ (fun G32=>zU1)⟩,⟨rfl,.run (L:=[0,1,3]) ⟨fun G32 A=>eW 0 4 rfl rfl rfl rfl (.agg tyA44),fun G32 A=>eW 1 4 rfl rfl rfl rfl (.agg tyA44),fun G32 A=>eW 1 4 rfl rfl rfl rfl (.agg tyA44),trivial⟩ (fun G32=>zU1)⟩,⟨rfl,.run (L:=[0,1,3]) ⟨fun G32 A=>cA (is:=[0,1]) (xs:=[.tmp 37,.tmp 38]) (ps:=[.vc (pI .i64 (a0.dofs.length:Int)),.va (eQ v3)]) rfl tyB92q rfl rfl ⟨trivial,trivial,trivial⟩ rfl,fun G32 A=>cA (is:=[0,1]) (xs:=[.tmp 37,.tmp 38]) (ps:=[.vc (pI .i64 (a0.dofs.length:Int)),.va (eQ v3)]) rfl tyB92q rfl rfl ⟨trivial,trivial,trivial⟩ rfl,fun G32 A=>cA (is:=[0,1]) (xs:=[.tmp 37,.tmp 38]) (ps:=[.vc (pI .i64 (a0.dofs.length:Int)),.va (eQ v3)]) rfl tyB92q rfl rfl ⟨trivial,trivial,trivial⟩ rfl,trivial⟩ (fun G32=>zU2)⟩,⟨rfl,.run (L:=[0,1,3]) ⟨fun G32 A=>hU (C:=aC.cod) (xs:=[.tmp 39]) (ps:=[.va ([pI .i64 (a0.dofs.length:Int)]++(eQ v3))]) (zs:=[(⟨(a0.dofs.length:Int),v3⟩:aC)]) rfl tyS49 rfl ⟨⟨trivial,rfl⟩,trivial⟩ rfl,fun G32 A=>hU (C:=aC.cod) (xs:=[.tmp 39]) (ps:=[.va ([pI .i64 (a0.dofs.length:Int)]++(eQ v3))]) (zs:=[(⟨(a0.dofs.length:Int),v3⟩:aC)]) rfl tyS49 rfl ⟨⟨trivial,rfl⟩,trivial⟩ rfl,fun G32 A=>hU (C:=aC.cod) (xs:=[.tmp 39]) (ps:=[.va ([pI .i64 (a0.dofs.length:Int)]++(eQ v3))]) (zs:=[(⟨(a0.dofs.length:Int),v3⟩:aC)]) rfl tyS49 rfl ⟨⟨trivial,rfl⟩,trivial⟩ rfl,trivial⟩ (fun G32=>zU1)⟩,⟨rfl,.run (L:=[0,1,3]) ⟨fun G32 A=>cA (is:=[5]) (xs:=[.tmp 40]) (ps:=[.vc (pS aC.cod [(⟨(a0.dofs.length:Int),v3⟩:aC)])]) rfl tyB51q rfl rfl ⟨trivial,trivial⟩ rfl,fun G32 A=>cA (is:=[5]) (xs:=[.tmp 40]) (ps:=[.vc (pS aC.cod [(⟨(a0.dofs.length:Int),v3⟩:aC)])]) rfl tyB51q rfl rfl ⟨trivial,trivial⟩ rfl,fun G32 A=>cA (is:=[5]) (xs:=[.tmp 40]) (ps:=[.vc (pS aC.cod [(⟨(a0.dofs.length:Int),v3⟩:aC)])]) rfl tyB51q rfl rfl ⟨trivial,trivial⟩ rfl,trivial⟩ (fun G32=>zU1)⟩,⟨rfl,.run (L:=[0,1,3]) ⟨fun G32 A=>hU (C:=aA.cod) (xs:=[.tmp 41]) (ps:=[.va ([pI .i64 0]++[pI .i64 0]++[pI .i64 0]++[pI .i64 0]++(eQ 0)++[pS aC.cod [(⟨(a0.dofs.length:Int),v3⟩:aC)]]++[pS aC.cod ([]:List aC)]++(eQ 0)++(eQ 0))]) (zs:=[(⟨0,0,0,0,0,[(⟨(a0.dofs.length:Int),v3⟩:aC)],([]:List aC),0,0⟩:aA)]) rfl tyS25 rfl ⟨⟨trivial,rfl⟩,trivial⟩ rfl,fun G32 A=>hU (C:=aA.cod) (xs:=[.tmp 41]) (ps:=[.va ([pI .i64 0]++[pI .i64 0]++[pI .i64 0]++[pI .i64 0]++(eQ 0)++[pS aC.cod [(⟨(a0.dofs.length:Int),v3⟩:aC)]]++[pS aC.cod ([]:List aC)]++(eQ 0)++(eQ 0))]) (zs:=[(⟨0,0,0,0,0,[(⟨(a0.dofs.length:Int),v3⟩:aC)],([]:List aC),0,0⟩:aA)]) rfl tyS25 rfl ⟨⟨trivial,rfl⟩,trivial⟩ rfl,fun G32 A=>hU (C:=aA.cod) (xs:=[.tmp 41]) (ps:=[.va ([pI .i64 0]++[pI .i64 0]++[pI .i64 0]++[pI .i64 0]++(eQ 0)++[pS aC.cod [(⟨(a0.dofs.length:Int),v3⟩:aC)]]++[pS aC.cod ([]:List aC)]++(eQ 0)++(eQ 0))]) (zs:=[(⟨0,0,0,0,0,[(⟨(a0.dofs.length:Int),v3⟩:aC)],([]:List aC),0,0⟩:aA)]) rfl tyS25 rfl ⟨⟨trivial,rfl⟩,trivial⟩ rfl,trivial⟩ (fun G32=>zU1)⟩,trivial⟩ (fun bs33 G32=>?_)
  obtain⟨x42,h43,hF⟩:=aV hF
  refine gJ 0 rfl tyS25 rfl rfl (bK h37 rfl) rfl rfl h43 (fun b44 c45 H46 e47=>?_)
  cases e47
  refine aU (kQ (off:=0) (k:=3) rfl tyF27_3) zU1 ?_
  refine l6 (t_s 3 rfl rfl rfl tyO25.s) zU2 ?_
  refine bC (uB (aQ (aO (aT (wK 0 3 3 rfl (bK h43 (bK h37 rfl)) rfl rfl rfl rfl rfl ?_)))))
  exact bN
 refine go ?_ ?_
 refine aK hF rfl (fun h49 hF=>?_) (fun h49 hF=>?_)
 ·obtain⟨x54,h55,hF⟩:=aV hF
  refine oG (HsM [(0,fun G50=>[⟨some b5,1,44,4,1,(eQ v3)⟩,⟨some b2,1,27,4,1,([pS aF.cod ([]:List aF)]++[pS cQ ([]:List Rat)]++[pS cQ ([]:List Rat)]++[pS aA.cod ([]:List aA)])⟩,⟨some b1,1,27,4,1,(aH.enc a0)⟩]),(1,fun G50=>[hO aA.cod ((G50 0).1) 0 51 0 ([]:List aA),⟨some b5,1,44,4,1,(eQ v3)⟩,⟨some b2,1,27,4,1,([pS aF.cod ([]:List aF)]++[pS cQ ([]:List Rat)]++[pS cQ ([]:List Rat)]++[pS aA.cod ([]:List aA)])⟩,⟨some b1,1,27,4,1,(aH.enc a0)⟩]),(3,fun G50=>[hO aA.cod ((G50 3).1) ((G50 3).2) 51 (0+a0.rows.length) x54,⟨some b5,1,44,4,1,(eQ v3)⟩,⟨some b2,1,27,4,1,([pS aF.cod ([]:List aF)]++[pS cQ ([]:List Rat)]++[pS cQ ([]:List Rat)]++[pS aA.cod ([]:List aA)])⟩,⟨some b1,1,27,4,1,(aH.enc a0)⟩])]) [0,3] [0,0,2,7,0,16,0,64,240,496,1008,2047,4095,8191] 11 3 [.g (fun b _=>.vc (pO b 0 0)),.v (.vc (pP (some b1) 3)),.v (.vc (pS aA.cod a0.rows)),.g (fun b c=>.vc (pO b (0+a0.rows.length) c)),.v (.va (eQ v3)),.v (.va ([pI .i64 0]++(eQ v3))),.v (.va (eQ v3)),.v (.va ([pI .i64 0]++(eQ v3))),.v (.vc (pS aC.cod [(⟨0,v3⟩:aC),(⟨0,v3⟩:aC)])),.v (.va ([pI .i64 0]++[pI .i64 0]++[pI .i64 0]++[pI .i64 0]++(eQ 0)++[pS aC.cod ([]:List aC)]++[pS aC.cod [(⟨0,v3⟩:aC),(⟨0,v3⟩:aC)]]++(eQ 0)++(eQ 0))),.v (.vc (pS aA.cod [(⟨0,0,0,0,0,([]:List aC),[(⟨0,v3⟩:aC),(⟨0,v3⟩:aC)],0,0⟩:aA)]))] a9 ⟨⟨rfl,.hvy (ins:=fun _=>[]) [0] ⟨fun G50 A=>yK (C:=aA.cod) (xs:=[]) (ps:=[]) (zs:=([]:List aA)) rfl tyS25 rfl trivial rfl,trivial⟩ (fun G50=>trivial)⟩,⟨rfl,.run (L:=[0,1]) ⟨fun G50 A=>kQ (off:=0) (k:=3) rfl tyF27_3,fun G50 A=>kQ (off:=0) (k:=3) rfl tyF27_3,trivial⟩ (fun G50=>zU1)⟩,⟨rfl,.run (L:=[0,1]) ⟨fun G50 A=>eW 2 1 rfl rfl rfl rfl (.one tyO25),fun G50 A=>eW 3 1 rfl rfl rfl rfl (.one tyO25),trivial⟩ (fun G50=>zU1)⟩,⟨rfl,.hvy [1] ⟨fun G50 A=>aCt 0 rfl tyS25 rfl rfl rfl h55,trivial⟩ (fun G50=>zU2)⟩,⟨rfl,.run (L:=[0,1,3]) ⟨fun G50 A=>eW 0 4 rfl rfl rfl rfl (.agg tyA44),fun G50 A=>eW 1 4 rfl rfl rfl rfl (.agg tyA44),fun G50 A=>eW 1 4 rfl rfl rfl rfl (.agg tyA44),trivial⟩ (fun G50=>zU1)⟩,⟨rfl,.run (L:=[0,1,3]) ⟨fun G50 A=>cA (is:=[0,1]) (xs:=[.const (.int .i64 (0)),.tmp 51]) (ps:=[.vc (pI .i64 0),.va (eQ v3)]) rfl tyB92q rfl rfl ⟨trivial,trivial,trivial⟩ rfl,fun G50 A=>cA (is:=[0,1]) (xs:=[.const (.int .i64 (0)),.tmp 51]) (ps:=[.vc (pI .i64 0),.va (eQ v3)]) rfl tyB92q rfl rfl ⟨trivial,trivial,trivial⟩ rfl,fun G50 A=>cA (is:=[0,1]) (xs:=[.const (.int .i64 (0)),.tmp 51]) (ps:=[.vc (pI .i64 0),.va (eQ v3)]) rfl tyB92q rfl rfl ⟨trivial,trivial,trivial⟩ rfl,trivial⟩ (fun G50=>⟨jC _ _,rfl,trivial⟩)⟩,⟨rfl,.run (L:=[0,1,3]) ⟨fun G50 A=>eW 0 4 rfl rfl rfl rfl (.agg tyA44),fun G50 A=>eW 1 4 rfl rfl rfl rfl (.agg tyA44),fun G50 A=>eW 1 4 rfl rfl rfl rfl (.agg tyA44),trivial⟩ (fun G50=>zU1)⟩,⟨rfl,.run (L:=[0,1,3]) ⟨fun G50 A=>cA (is:=[0,1]) (xs:=[.const (.int .i64 (0)),.tmp 53]) (ps:=[.vc (pI .i64 0),.va (eQ v3)]) rfl tyB92q rfl rfl ⟨trivial,trivial,trivial⟩ rfl,fun G50 A=>cA (is:=[0,1]) (xs:=[.const (.int .i64 (0)),.tmp 53]) (ps:=[.vc (pI .i64 0),.va (eQ v3)]) rfl tyB92q rfl rfl ⟨trivial,trivial,trivial⟩ rfl,fun G50 A=>cA (is:=[0,1]) (xs:=[.const (.int .i64 (0)),.tmp 53]) (ps:=[.vc (pI .i64 0),.va (eQ v3)]) rfl tyB92q rfl rfl ⟨trivial,trivial,trivial⟩ rfl,trivial⟩ (fun G50=>⟨jC _ _,rfl,trivial⟩)⟩,⟨rfl,.run (L:=[0,1,3]) ⟨fun G50 A=>hU (C:=aC.cod) (xs:=[.tmp 52,.tmp 54]) (ps:=[.va ([pI .i64 0]++(eQ v3)),.va ([pI .i64 0]++(eQ v3))]) (zs:=[(⟨0,v3⟩:aC),(⟨0,v3⟩:aC)]) rfl tyS49 rfl ⟨⟨trivial,rfl⟩,⟨trivial,rfl⟩,trivial⟩ rfl,fun G50 A=>hU (C:=aC.cod) (xs:=[.tmp 52,.tmp 54]) (ps:=[.va ([pI .i64 0]++(eQ v3)),.va ([pI .i64 0]++(eQ v3))]) (zs:=[(⟨0,v3⟩:aC),(⟨0,v3⟩:aC)]) rfl tyS49 rfl ⟨⟨trivial,rfl⟩,⟨trivial,rfl⟩,trivial⟩ rfl,fun G50 A=>hU (C:=aC.cod) (xs:=[.tmp 52,.tmp 54]) (ps:=[.va ([pI .i64 0]++(eQ v3)),.va ([pI .i64 0]++(eQ v3))]) (zs:=[(⟨0,v3⟩:aC),(⟨0,v3⟩:aC)]) rfl tyS49 rfl ⟨⟨trivial,rfl⟩,⟨trivial,rfl⟩,trivial⟩ rfl,trivial⟩ (fun G50=>zU2)⟩,⟨rfl,.run (L:=[0,1,3]) ⟨fun G50 A=>cA (is:=[6]) (xs:=[.tmp 55]) (ps:=[.vc (pS aC.cod [(⟨0,v3⟩:aC),(⟨0,v3⟩:aC)])]) rfl tyB51q rfl rfl ⟨trivial,trivial⟩ rfl,fun G50 A=>cA (is:=[6]) (xs:=[.tmp 55]) (ps:=[.vc (pS aC.cod [(⟨0,v3⟩:aC),(⟨0,v3⟩:aC)])]) rfl tyB51q rfl rfl ⟨trivial,trivial⟩ rfl,fun G50 A=>cA (is:=[6]) (xs:=[.tmp 55]) (ps:=[.vc (pS aC.cod [(⟨0,v3⟩:aC),(⟨0,v3⟩:aC)])]) rfl tyB51q rfl rfl ⟨trivial,trivial⟩ rfl,trivial⟩ (fun G50=>zU1)⟩,⟨rfl,.run (L:=[0,1,3]) ⟨fun G50 A=>hU (C:=aA.cod) (xs:=[.tmp 56]) (ps:=[.va ([pI .i64 0]++[pI .i64 0]++[pI .i64 0]++[pI .i64 0]++(eQ 0)++[pS aC.cod ([]:List aC)]++[pS aC.cod [(⟨0,v3⟩:aC),(⟨0,v3⟩:aC)]]++(eQ 0)++(eQ 0))]) (zs:=[(⟨0,0,0,0,0,([]:List aC),[(⟨0,v3⟩:aC),(⟨0,v3⟩:aC)],0,0⟩:aA)]) rfl tyS25 rfl ⟨⟨trivial,rfl⟩,trivial⟩ rfl,fun G50 A=>hU (C:=aA.cod) (xs:=[.tmp 56]) (ps:=[.va ([pI .i64 0]++[pI .i64 0]++[pI .i64 0]++[pI .i64 0]++(eQ 0)++[pS aC.cod ([]:List aC)]++[pS aC.cod [(⟨0,v3⟩:aC),(⟨0,v3⟩:aC)]]++(eQ 0)++(eQ 0))]) (zs:=[(⟨0,0,0,0,0,([]:List aC),[(⟨0,v3⟩:aC),(⟨0,v3⟩:aC)],0,0⟩:aA)]) rfl tyS25 rfl ⟨⟨trivial,rfl⟩,trivial⟩ rfl,fun G50 A=>hU (C:=aA.cod) (xs:=[.tmp 56]) (ps:=[.va ([pI .i64 0]++[pI .i64 0]++[pI .i64 0]++[pI .i64 0]++(eQ 0)++[pS aC.cod ([]:List aC)]++[pS aC.cod [(⟨0,v3⟩:aC),(⟨0,v3⟩:aC)]]++(eQ 0)++(eQ 0))]) (zs:=[(⟨0,0,0,0,0,([]:List aC),[(⟨0,v3⟩:aC),(⟨0,v3⟩:aC)],0,0⟩:aA)]) rfl tyS25 rfl ⟨⟨trivial,rfl⟩,trivial⟩ rfl,trivial⟩ (fun G50=>zU1)⟩,trivial⟩ (fun bs51 G50=>?_)
  obtain⟨x60,h61,hF⟩:=aV hF
  refine gJ 0 rfl tyS25 rfl rfl (bK h55 rfl) rfl rfl h61 (fun b62 c63 H64 e65=>?_)
  cases e65
  refine aU (kQ (off:=0) (k:=3) rfl tyF27_3) zU1 ?_
  refine l6 (t_s 3 rfl rfl rfl tyO25.s) zU2 ?_
  refine bC (uB (aQ (aO (aT (wK 0 3 3 rfl (bK h61 (bK h55 rfl)) rfl rfl rfl rfl rfl ?_)))))
  exact bN
 refine go ?_ ?_
 refine aK hF rfl (fun h67 hF=>?_) (fun h67 hF=>?_)
 ·refine aT (aDZ (yK (C:=aA.cod) (xs:=[]) (ps:=[]) (zs:=([]:List aA)) rfl tyS25 rfl trivial rfl) trivial (fun b68 _=>?_))
  refine aU (kQ (off:=0) (k:=3) rfl tyF27_3) zU1 ?_
  refine aU (eW 3 1 rfl rfl rfl rfl (.one tyO25)) zU1 ?_
  obtain⟨x71,h72,hF⟩:=aV hF
  refine gJ 0 rfl tyS25 rfl rfl rfl rfl rfl h72 (fun b73 c74 H75 e76=>?_)
  cases e76
  obtain⟨v78,h79,hF⟩:=aZ hF bP
  refine aU (bF rfl h79 rfl) ⟨jC _ _,jC _ _,trivial⟩ ?_
  refine aU (cA (is:=[7]) (xs:=[.tmp 66]) (ps:=[.va (eQ v78)]) rfl tyB51q rfl rfl ⟨trivial,trivial⟩ rfl) zU1 ?_
  refine aU (hU (C:=aA.cod) (xs:=[.tmp 67]) (ps:=[.va ([pI .i64 0]++[pI .i64 0]++[pI .i64 0]++[pI .i64 0]++(eQ 0)++[pS aC.cod ([]:List aC)]++[pS aC.cod ([]:List aC)]++(eQ v78)++(eQ 0))]) (zs:=[(⟨0,0,0,0,0,([]:List aC),([]:List aC),v78,0⟩:aA)]) rfl tyS25 rfl ⟨⟨trivial,rfl⟩,trivial⟩ rfl) zU1 ?_
  obtain⟨x80,h81,hF⟩:=aV hF
  refine gJ 0 rfl tyS25 rfl rfl (bK h72 rfl) rfl rfl h81 (fun b82 c83 H84 e85=>?_)
  cases e85
  refine aU (kQ (off:=0) (k:=3) rfl tyF27_3) zU1 ?_
  refine l6 (t_s 3 rfl rfl rfl tyO25.s) zU2 ?_
  refine bC (uB (aQ (aO (aT (wK 0 3 3 rfl (bK h81 (bK h72 rfl)) rfl rfl rfl rfl rfl ?_)))))
  exact bN
 refine go ?_ ?_
 refine aK hF rfl (fun h87 hF=>?_) (fun h87 hF=>?_)
 ·refine aT (aDZ (yK (C:=aF.cod) (xs:=[]) (ps:=[]) (zs:=([]:List aF)) rfl tyS23 rfl trivial rfl) trivial (fun b88 _=>?_))
  obtain⟨v91,h92,x93,h94,x95,h96,hF⟩:=bn3 hF
  refine go ?_ ?_
  refine gJ 0 rfl tyS23 rfl rfl rfl rfl rfl h96 (fun b97 c98 H99 e100=>?_)
  cases e100
  refine aU (cA (is:=[]) (xs:=[]) (ps:=[]) rfl tyB108q rfl rfl trivial rfl) trivial ?_
  refine aU (hU (C:=aF.cod) (xs:=[.tmp 80]) (ps:=[.va ((eQ 0)++(eQ 0)++[pB false]++(eQ 0)++(eQ 0))]) (zs:=[(⟨0,0,false,0,0⟩:aF)]) rfl tyS23 rfl ⟨⟨trivial,rfl⟩,trivial⟩ rfl) zU1 ?_
  obtain⟨x102,h103,hF⟩:=aV hF
  refine gJ 0 rfl tyS23 rfl rfl (bK h96 rfl) rfl rfl h103 (fun b104 c105 H106 e107=>?_)
  cases e107
  refine aU (kQ (off:=0) (k:=0) rfl tyF27_0) zU1 ?_
  refine l6 (t_s 3 rfl rfl rfl tyO23.s) zU2 ?_
  refine bC (uB (aQ (aO (aT (wK 0 3 0 rfl (bK h103 (bK h96 rfl)) rfl rfl rfl rfl rfl ?_)))))
  exact bN
 refine go ?_ ?_
 refine aK hF rfl (fun h109 hF=>?_) (fun h109 hF=>?_)
 ·refine aO ?_
  obtain⟨v114,h115,hF⟩:=aV hF
  obtain⟨x116,h117,hF⟩:=aV hF
  obtain⟨x118,h119,hF⟩:=aV hF
  refine oG (HsM [(0,fun G110=>[⟨some b5,1,44,4,1,(eQ v3)⟩,⟨some b2,1,27,4,1,([pS aF.cod ([]:List aF)]++[pS cQ ([]:List Rat)]++[pS cQ ([]:List Rat)]++[pS aA.cod ([]:List aA)])⟩,⟨some b1,1,27,4,1,(aH.enc a0)⟩]),(1,fun G110=>[hO cQ ((G110 0).1) 0 44 0 ([]:List Rat),⟨some b5,1,44,4,1,(eQ v3)⟩,⟨some b2,1,27,4,1,([pS aF.cod ([]:List aF)]++[pS cQ ([]:List Rat)]++[pS cQ ([]:List Rat)]++[pS aA.cod ([]:List aA)])⟩,⟨some b1,1,27,4,1,(aH.enc a0)⟩]),(3,fun G110=>[hO cQ ((G110 6).1) ((G110 6).2) 44 (0+x116.length) x118,⟨some b5,1,44,4,1,(eQ v3)⟩,⟨some b2,1,27,4,1,([pS aF.cod ([]:List aF)]++[pS cQ ([]:List Rat)]++[pS cQ ([]:List Rat)]++[pS aA.cod ([]:List aA)])⟩,⟨some b1,1,27,4,1,(aH.enc a0)⟩])]) [0,6] [0,0,2,0,8,30,63,0,128,511,1023,2047] 9 3 [.g (fun b _=>.vc (pO b 0 0)),.v (.vc (pP (some b1) 2)),.v (.vc (pS cQ a0.v)),.v (.vc (pI .i64 (a0.dofs.length:Int))),.v (.vc (pI .i64 v114)),.v (.vc (pS cQ x116)),.g (fun b c=>.vc (pO b (0+x116.length) c)),.v (.va (eQ v3)),.v (.vc (pS cQ [v3]))] a9 ⟨⟨rfl,.hvy (ins:=fun _=>[]) [0] ⟨fun G110 A=>yK (C:=cQ) (xs:=[]) (ps:=[]) (zs:=([]:List Rat)) rfl tyS24 rfl trivial rfl,trivial⟩ (fun G110=>trivial)⟩,⟨rfl,.run (L:=[0,1]) ⟨fun G110 A=>kQ (off:=0) (k:=2) rfl tyF27_2,fun G110 A=>kQ (off:=0) (k:=2) rfl tyF27_2,trivial⟩ (fun G110=>zU1)⟩,⟨rfl,.run (L:=[0,1]) ⟨fun G110 A=>eW 2 1 rfl rfl rfl rfl (.one tyO24),fun G110 A=>eW 3 1 rfl rfl rfl rfl (.one tyO24),trivial⟩ (fun G110=>zU1)⟩,⟨rfl,.run (L:=[0,1]) ⟨fun G110 A=>bA (.inl rfl),fun G110 A=>bA (.inl rfl),trivial⟩ (fun G110=>zU1)⟩,⟨rfl,.run (L:=[0,1]) ⟨fun G110 A=>yA rfl h115,fun G110 A=>yA rfl h115,trivial⟩ (fun G110=>⟨rfl,jC _ _,trivial⟩)⟩,⟨rfl,.run (L:=[0,1]) ⟨fun G110 A=>aDw rfl tyS24 h117,fun G110 A=>aDw rfl tyS24 h117,trivial⟩ (fun G110=>zU2)⟩,⟨rfl,.hvy [1] ⟨fun G110 A=>aCt 0 rfl tyS24 rfl rfl rfl h119,trivial⟩ (fun G110=>zU2)⟩,⟨rfl,.run (L:=[0,1,3]) ⟨fun G110 A=>eW 0 4 rfl rfl rfl rfl (.agg tyA44),fun G110 A=>eW 1 4 rfl rfl rfl rfl (.agg tyA44),fun G110 A=>eW 1 4 rfl rfl rfl rfl (.agg tyA44),trivial⟩ (fun G110=>zU1)⟩,⟨rfl,.run (L:=[0,1,3]) ⟨fun G110 A=>hU (C:=cQ) (xs:=[.tmp 93]) (ps:=[.va (eQ v3)]) (zs:=[v3]) rfl tyS24 rfl ⟨⟨trivial,rfl⟩,trivial⟩ rfl,fun G110 A=>hU (C:=cQ) (xs:=[.tmp 93]) (ps:=[.va (eQ v3)]) (zs:=[v3]) rfl tyS24 rfl ⟨⟨trivial,rfl⟩,trivial⟩ rfl,fun G110 A=>hU (C:=cQ) (xs:=[.tmp 93]) (ps:=[.va (eQ v3)]) (zs:=[v3]) rfl tyS24 rfl ⟨⟨trivial,rfl⟩,trivial⟩ rfl,trivial⟩ (fun G110=>zU1)⟩,trivial⟩ (fun bs111 G110=>?_)
  obtain⟨x124,h125,hF⟩:=aV hF
  refine gJ 0 rfl tyS24 rfl rfl (bK h119 rfl) rfl rfl h125 (fun b126 c127 H128 e129=>?_)
  cases e129
  obtain⟨x135,h136,hF⟩:=aV hF
  have hF:=nP h115 hF
  refine go ?_ ?_
  refine oG (HsM [(0,fun G131=>[hO cQ b126 c127 44 ((0+x116.length)+[v3].length) x124,⟨some b5,1,44,4,1,(eQ v3)⟩,⟨some b2,1,27,4,1,([pS aF.cod ([]:List aF)]++[pS cQ ([]:List Rat)]++[pS cQ ([]:List Rat)]++[pS aA.cod ([]:List aA)])⟩,⟨some b1,1,27,4,1,([pS aF.cod a0.dofs]++[pS cQ a0.load]++[pO b126 ((0+x116.length)+[v3].length) c127]++[pS aA.cod a0.rows])⟩]),(1,fun G131=>[hO aA.cod ((G131 0).1) 0 51 0 ([]:List aA),hO cQ b126 c127 44 ((0+x116.length)+[v3].length) x124,⟨some b5,1,44,4,1,(eQ v3)⟩,⟨some b2,1,27,4,1,([pS aF.cod ([]:List aF)]++[pS cQ ([]:List Rat)]++[pS cQ ([]:List Rat)]++[pS aA.cod ([]:List aA)])⟩,⟨some b1,1,27,4,1,([pS aF.cod a0.dofs]++[pS cQ a0.load]++[pO b126 ((0+x116.length)+[v3].length) c127]++[pS aA.cod a0.rows])⟩]),(3,fun G131=>[hO aA.cod ((G131 3).1) ((G131 3).2) 51 (0+a0.rows.length) x135,hO cQ b126 c127 44 ((0+x116.length)+[v3].length) x124,⟨some b5,1,44,4,1,(eQ v3)⟩,⟨some b2,1,27,4,1,([pS aF.cod ([]:List aF)]++[pS cQ ([]:List Rat)]++[pS cQ ([]:List Rat)]++[pS aA.cod ([]:List aA)])⟩,⟨some b1,1,27,4,1,([pS aF.cod a0.dofs]++[pS cQ a0.load]++[pO b126 ((0+x116.length)+[v3].length) c127]++[pS aA.cod a0.rows])⟩])]) [0,3] [0,0,2,7,0,16,0,112,240,496,1008,2047,4095,8191] 11 3 [.g (fun b _=>.vc (pO b 0 0)),.v (.vc (pP (some b1) 3)),.v (.vc (pS aA.cod a0.rows)),.g (fun b c=>.vc (pO b (0+a0.rows.length) c)),.v (.vc (pI .i64 (a0.dofs.length:Int))),.v (.vc (pI .i64 v114)),.v (.va (eQ v3)),.v (.va ([pI .i64 v114]++(eQ v3))),.v (.vc (pS aC.cod [(⟨v114,v3⟩:aC)])),.v (.va ([pI .i64 0]++[pI .i64 0]++[pI .i64 0]++[pI .i64 0]++(eQ 0)++[pS aC.cod [(⟨v114,v3⟩:aC)]]++[pS aC.cod ([]:List aC)]++(eQ 0)++(eQ 0))),.v (.vc (pS aA.cod [(⟨0,0,0,0,0,[(⟨v114,v3⟩:aC)],([]:List aC),0,0⟩:aA)]))] a9 ⟨⟨rfl,.hvy (ins:=fun _=>[]) [0] ⟨fun G131 A=>yK (C:=aA.cod) (xs:=[]) (ps:=[]) (zs:=([]:List aA)) rfl tyS25 rfl trivial rfl,trivial⟩ (fun G131=>trivial)⟩,⟨rfl,.run (L:=[0,1]) ⟨fun G131 A=>kQ (off:=0) (k:=3) rfl tyF27_3,fun G131 A=>kQ (off:=0) (k:=3) rfl tyF27_3,trivial⟩ (fun G131=>zU1)⟩,⟨rfl,.run (L:=[0,1]) ⟨fun G131 A=>eW 3 1 rfl rfl rfl rfl (.one tyO25),fun G131 A=>eW 4 1 rfl rfl rfl rfl (.one tyO25),trivial⟩ (fun G131=>zU1)⟩,⟨rfl,.hvy [1] ⟨fun G131 A=>aCt 0 rfl tyS25 rfl rfl rfl h136,trivial⟩ (fun G131=>zU2)⟩,⟨rfl,.run (L:=[0,1,3]) ⟨fun G131 A=>bA (.inl rfl),fun G131 A=>bA (.inl rfl),fun G131 A=>bA (.inl rfl),trivial⟩ (fun G131=>zU1)⟩,⟨rfl,.run (L:=[0,1,3]) ⟨fun G131 A=>yA rfl h115,fun G131 A=>yA rfl h115,fun G131 A=>yA rfl h115,trivial⟩ (fun G131=>⟨rfl,jC _ _,trivial⟩)⟩,⟨rfl,.run (L:=[0,1,3]) ⟨fun G131 A=>eW 1 4 rfl rfl rfl rfl (.agg tyA44),fun G131 A=>eW 2 4 rfl rfl rfl rfl (.agg tyA44),fun G131 A=>eW 2 4 rfl rfl rfl rfl (.agg tyA44),trivial⟩ (fun G131=>zU1)⟩,⟨rfl,.run (L:=[0,1,3]) ⟨fun G131 A=>cA (is:=[0,1]) (xs:=[.tmp 102,.tmp 103]) (ps:=[.vc (pI .i64 v114),.va (eQ v3)]) rfl tyB92q rfl rfl ⟨trivial,trivial,trivial⟩ rfl,fun G131 A=>cA (is:=[0,1]) (xs:=[.tmp 102,.tmp 103]) (ps:=[.vc (pI .i64 v114),.va (eQ v3)]) rfl tyB92q rfl rfl ⟨trivial,trivial,trivial⟩ rfl,fun G131 A=>cA (is:=[0,1]) (xs:=[.tmp 102,.tmp 103]) (ps:=[.vc (pI .i64 v114),.va (eQ v3)]) rfl tyB92q rfl rfl ⟨trivial,trivial,trivial⟩ rfl,trivial⟩ (fun G131=>zU2)⟩,⟨rfl,.run (L:=[0,1,3]) ⟨fun G131 A=>hU (C:=aC.cod) (xs:=[.tmp 104]) (ps:=[.va ([pI .i64 v114]++(eQ v3))]) (zs:=[(⟨v114,v3⟩:aC)]) rfl tyS49 rfl ⟨⟨trivial,rfl⟩,trivial⟩ rfl,fun G131 A=>hU (C:=aC.cod) (xs:=[.tmp 104]) (ps:=[.va ([pI .i64 v114]++(eQ v3))]) (zs:=[(⟨v114,v3⟩:aC)]) rfl tyS49 rfl ⟨⟨trivial,rfl⟩,trivial⟩ rfl,fun G131 A=>hU (C:=aC.cod) (xs:=[.tmp 104]) (ps:=[.va ([pI .i64 v114]++(eQ v3))]) (zs:=[(⟨v114,v3⟩:aC)]) rfl tyS49 rfl ⟨⟨trivial,rfl⟩,trivial⟩ rfl,trivial⟩ (fun G131=>zU1)⟩,⟨rfl,.run (L:=[0,1,3]) ⟨fun G131 A=>cA (is:=[5]) (xs:=[.tmp 105]) (ps:=[.vc (pS aC.cod [(⟨v114,v3⟩:aC)])]) rfl tyB51q rfl rfl ⟨trivial,trivial⟩ rfl,fun G131 A=>cA (is:=[5]) (xs:=[.tmp 105]) (ps:=[.vc (pS aC.cod [(⟨v114,v3⟩:aC)])]) rfl tyB51q rfl rfl ⟨trivial,trivial⟩ rfl,fun G131 A=>cA (is:=[5]) (xs:=[.tmp 105]) (ps:=[.vc (pS aC.cod [(⟨v114,v3⟩:aC)])]) rfl tyB51q rfl rfl ⟨trivial,trivial⟩ rfl,trivial⟩ (fun G131=>zU1)⟩,⟨rfl,.run (L:=[0,1,3]) ⟨fun G131 A=>hU (C:=aA.cod) (xs:=[.tmp 106]) (ps:=[.va ([pI .i64 0]++[pI .i64 0]++[pI .i64 0]++[pI .i64 0]++(eQ 0)++[pS aC.cod [(⟨v114,v3⟩:aC)]]++[pS aC.cod ([]:List aC)]++(eQ 0)++(eQ 0))]) (zs:=[(⟨0,0,0,0,0,[(⟨v114,v3⟩:aC)],([]:List aC),0,0⟩:aA)]) rfl tyS25 rfl ⟨⟨trivial,rfl⟩,trivial⟩ rfl,fun G131 A=>hU (C:=aA.cod) (xs:=[.tmp 106]) (ps:=[.va ([pI .i64 0]++[pI .i64 0]++[pI .i64 0]++[pI .i64 0]++(eQ 0)++[pS aC.cod [(⟨v114,v3⟩:aC)]]++[pS aC.cod ([]:List aC)]++(eQ 0)++(eQ 0))]) (zs:=[(⟨0,0,0,0,0,[(⟨v114,v3⟩:aC)],([]:List aC),0,0⟩:aA)]) rfl tyS25 rfl ⟨⟨trivial,rfl⟩,trivial⟩ rfl,fun G131 A=>hU (C:=aA.cod) (xs:=[.tmp 106]) (ps:=[.va ([pI .i64 0]++[pI .i64 0]++[pI .i64 0]++[pI .i64 0]++(eQ 0)++[pS aC.cod [(⟨v114,v3⟩:aC)]]++[pS aC.cod ([]:List aC)]++(eQ 0)++(eQ 0))]) (zs:=[(⟨0,0,0,0,0,[(⟨v114,v3⟩:aC)],([]:List aC),0,0⟩:aA)]) rfl tyS25 rfl ⟨⟨trivial,rfl⟩,trivial⟩ rfl,trivial⟩ (fun G131=>zU1)⟩,trivial⟩ (fun bs132 G131=>?_)
  obtain⟨x143,h144,hF⟩:=aV hF
  refine gJ 0 rfl tyS25 rfl rfl (bK h136 rfl) rfl rfl h144 (fun b145 c146 H147 e148=>?_)
  cases e148
  refine aU (kQ (off:=0) (k:=3) rfl tyF27_3) zU1 ?_
  refine l6 (t_s 4 rfl rfl rfl tyO25.s) zU2 ?_
  refine bC (uB (aQ (aO (aT (wK 1 4 2 rfl (bK h125 (bK h119 rfl)) rfl rfl rfl rfl rfl ?_)))))
  refine wK 0 3 3 rfl (bK h144 (bK h136 rfl)) rfl rfl rfl rfl rfl ?_
  exact bN
 refine go ?_ ?_
 refine aK hF rfl (fun h150 hF=>?_) (fun h150 hF=>?_)
 ·obtain⟨x155,h156,hF⟩:=aV hF
  refine oG (HsM [(0,fun G151=>[⟨some b5,1,44,4,1,(eQ v3)⟩,⟨some b2,1,27,4,1,([pS aF.cod ([]:List aF)]++[pS cQ ([]:List Rat)]++[pS cQ ([]:List Rat)]++[pS aA.cod ([]:List aA)])⟩,⟨some b1,1,27,4,1,(aH.enc a0)⟩]),(1,fun G151=>[hO aA.cod ((G151 0).1) 0 51 0 ([]:List aA),⟨some b5,1,44,4,1,(eQ v3)⟩,⟨some b2,1,27,4,1,([pS aF.cod ([]:List aF)]++[pS cQ ([]:List Rat)]++[pS cQ ([]:List Rat)]++[pS aA.cod ([]:List aA)])⟩,⟨some b1,1,27,4,1,(aH.enc a0)⟩]),(3,fun G151=>[hO aA.cod ((G151 3).1) ((G151 3).2) 51 (0+a0.rows.length) x155,⟨some b5,1,44,4,1,(eQ v3)⟩,⟨some b2,1,27,4,1,([pS aF.cod ([]:List aF)]++[pS cQ ([]:List Rat)]++[pS cQ ([]:List Rat)]++[pS aA.cod ([]:List aA)])⟩,⟨some b1,1,27,4,1,(aH.enc a0)⟩])]) [0,3] [0,0,2,7,0,16,48,112,240,511,1023,2047] 9 3 [.g (fun b _=>.vc (pO b 0 0)),.v (.vc (pP (some b1) 3)),.v (.vc (pS aA.cod a0.rows)),.g (fun b c=>.vc (pO b (0+a0.rows.length) c)),.v (.va (eQ v3)),.v (.va ([pI .i64 (-1)]++(eQ v3))),.v (.vc (pS aC.cod [(⟨(-1),v3⟩:aC)])),.v (.va ([pI .i64 0]++[pI .i64 0]++[pI .i64 0]++[pI .i64 0]++(eQ 0)++[pS aC.cod [(⟨(-1),v3⟩:aC)]]++[pS aC.cod ([]:List aC)]++(eQ 0)++(eQ 0))),.v (.vc (pS aA.cod [(⟨0,0,0,0,0,[(⟨(-1),v3⟩:aC)],([]:List aC),0,0⟩:aA)]))] a9 ⟨⟨rfl,.hvy (ins:=fun _=>[]) [0] ⟨fun G151 A=>yK (C:=aA.cod) (xs:=[]) (ps:=[]) (zs:=([]:List aA)) rfl tyS25 rfl trivial rfl,trivial⟩ (fun G151=>trivial)⟩,⟨rfl,.run (L:=[0,1]) ⟨fun G151 A=>kQ (off:=0) (k:=3) rfl tyF27_3,fun G151 A=>kQ (off:=0) (k:=3) rfl tyF27_3,trivial⟩ (fun G151=>zU1)⟩,⟨rfl,.run (L:=[0,1]) ⟨fun G151 A=>eW 2 1 rfl rfl rfl rfl (.one tyO25),fun G151 A=>eW 3 1 rfl rfl rfl rfl (.one tyO25),trivial⟩ (fun G151=>zU1)⟩,⟨rfl,.hvy [1] ⟨fun G151 A=>aCt 0 rfl tyS25 rfl rfl rfl h156,trivial⟩ (fun G151=>zU2)⟩,⟨rfl,.run (L:=[0,1,3]) ⟨fun G151 A=>eW 0 4 rfl rfl rfl rfl (.agg tyA44),fun G151 A=>eW 1 4 rfl rfl rfl rfl (.agg tyA44),fun G151 A=>eW 1 4 rfl rfl rfl rfl (.agg tyA44),trivial⟩ (fun G151=>zU1)⟩,⟨rfl,.run (L:=[0,1,3]) ⟨fun G151 A=>cA (is:=[0,1]) (xs:=[.const (.int .i64 (-1)),.tmp 116]) (ps:=[.vc (pI .i64 (-1)),.va (eQ v3)]) rfl tyB92q rfl rfl ⟨trivial,trivial,trivial⟩ rfl,fun G151 A=>cA (is:=[0,1]) (xs:=[.const (.int .i64 (-1)),.tmp 116]) (ps:=[.vc (pI .i64 (-1)),.va (eQ v3)]) rfl tyB92q rfl rfl ⟨trivial,trivial,trivial⟩ rfl,fun G151 A=>cA (is:=[0,1]) (xs:=[.const (.int .i64 (-1)),.tmp 116]) (ps:=[.vc (pI .i64 (-1)),.va (eQ v3)]) rfl tyB92q rfl rfl ⟨trivial,trivial,trivial⟩ rfl,trivial⟩ (fun G151=>⟨jC _ _,rfl,trivial⟩)⟩,⟨rfl,.run (L:=[0,1,3]) ⟨fun G151 A=>hU (C:=aC.cod) (xs:=[.tmp 117]) (ps:=[.va ([pI .i64 (-1)]++(eQ v3))]) (zs:=[(⟨(-1),v3⟩:aC)]) rfl tyS49 rfl ⟨⟨trivial,rfl⟩,trivial⟩ rfl,fun G151 A=>hU (C:=aC.cod) (xs:=[.tmp 117]) (ps:=[.va ([pI .i64 (-1)]++(eQ v3))]) (zs:=[(⟨(-1),v3⟩:aC)]) rfl tyS49 rfl ⟨⟨trivial,rfl⟩,trivial⟩ rfl,fun G151 A=>hU (C:=aC.cod) (xs:=[.tmp 117]) (ps:=[.va ([pI .i64 (-1)]++(eQ v3))]) (zs:=[(⟨(-1),v3⟩:aC)]) rfl tyS49 rfl ⟨⟨trivial,rfl⟩,trivial⟩ rfl,trivial⟩ (fun G151=>zU1)⟩,⟨rfl,.run (L:=[0,1,3]) ⟨fun G151 A=>cA (is:=[5]) (xs:=[.tmp 118]) (ps:=[.vc (pS aC.cod [(⟨(-1),v3⟩:aC)])]) rfl tyB51q rfl rfl ⟨trivial,trivial⟩ rfl,fun G151 A=>cA (is:=[5]) (xs:=[.tmp 118]) (ps:=[.vc (pS aC.cod [(⟨(-1),v3⟩:aC)])]) rfl tyB51q rfl rfl ⟨trivial,trivial⟩ rfl,fun G151 A=>cA (is:=[5]) (xs:=[.tmp 118]) (ps:=[.vc (pS aC.cod [(⟨(-1),v3⟩:aC)])]) rfl tyB51q rfl rfl ⟨trivial,trivial⟩ rfl,trivial⟩ (fun G151=>zU1)⟩,⟨rfl,.run (L:=[0,1,3]) ⟨fun G151 A=>hU (C:=aA.cod) (xs:=[.tmp 119]) (ps:=[.va ([pI .i64 0]++[pI .i64 0]++[pI .i64 0]++[pI .i64 0]++(eQ 0)++[pS aC.cod [(⟨(-1),v3⟩:aC)]]++[pS aC.cod ([]:List aC)]++(eQ 0)++(eQ 0))]) (zs:=[(⟨0,0,0,0,0,[(⟨(-1),v3⟩:aC)],([]:List aC),0,0⟩:aA)]) rfl tyS25 rfl ⟨⟨trivial,rfl⟩,trivial⟩ rfl,fun G151 A=>hU (C:=aA.cod) (xs:=[.tmp 119]) (ps:=[.va ([pI .i64 0]++[pI .i64 0]++[pI .i64 0]++[pI .i64 0]++(eQ 0)++[pS aC.cod [(⟨(-1),v3⟩:aC)]]++[pS aC.cod ([]:List aC)]++(eQ 0)++(eQ 0))]) (zs:=[(⟨0,0,0,0,0,[(⟨(-1),v3⟩:aC)],([]:List aC),0,0⟩:aA)]) rfl tyS25 rfl ⟨⟨trivial,rfl⟩,trivial⟩ rfl,fun G151 A=>hU (C:=aA.cod) (xs:=[.tmp 119]) (ps:=[.va ([pI .i64 0]++[pI .i64 0]++[pI .i64 0]++[pI .i64 0]++(eQ 0)++[pS aC.cod [(⟨(-1),v3⟩:aC)]]++[pS aC.cod ([]:List aC)]++(eQ 0)++(eQ 0))]) (zs:=[(⟨0,0,0,0,0,[(⟨(-1),v3⟩:aC)],([]:List aC),0,0⟩:aA)]) rfl tyS25 rfl ⟨⟨trivial,rfl⟩,trivial⟩ rfl,trivial⟩ (fun G151=>zU1)⟩,trivial⟩ (fun bs152 G151=>?_)
  obtain⟨x161,h162,hF⟩:=aV hF
  refine gJ 0 rfl tyS25 rfl rfl (bK h156 rfl) rfl rfl h162 (fun b163 c164 H165 e166=>?_)
  cases e166
  refine aU (kQ (off:=0) (k:=3) rfl tyF27_3) zU1 ?_
  refine l6 (t_s 3 rfl rfl rfl tyO25.s) zU2 ?_
  refine bC (uB (aQ (aO (aT (wK 0 3 3 rfl (bK h162 (bK h156 rfl)) rfl rfl rfl rfl rfl ?_)))))
  exact bN
 exact bN
def rB (K:Nat):Option Int:=
 some (-1)
def mC (K:Nat) (a0:List aI) (a1:(aI→Option Bool)):Nat→Int→Option (LR Int Unit)
 |0,_=>none
 |k+1,x2=>bif(decide (x2<(a0.length:Int))) then((bU a0 x2).bind fun v6=>(a1 v6).bind fun v8=>bif v8 then(some (.ret x2)) else((aY (x2+1)).bind fun v11=>mC K a0 a1 k v11)) else(some (.go ()))
def s5 (K:Nat) (a0:List aI) (a1:(aI→Option Bool)):Option Int:=
 (mC K a0 a1 K 0).bind fun o=>match o with| .ret r=>some r| .go _=>rB K
theorem z7 {K:Nat} {a0:List aI} {a1:(aI→Option Bool)} {r:Int} (hF:s5 K a0 a1=some r):Ct Tryz.prog 163 [.vc (pS aI.cod a0),.vc (pFn Tryz.prog (fun x:aI=>[.va (aI.enc x)]) (fun r:Bool=>.vc (pB r)) a1)] (.vc (pI .i64 r)):=by
 unfold s5 at hF
 refine aJ Tryz.func163 rfl (by kernel_rfl) Tryz.ntmps163 rfl (fun w0 M0=>?_)
 refine go ?_ ?_
 refine aP (bH (fun H E=>rB K=some r∧H=[]∧E=[]) ?_ (fun Jj4=>?_))
 ·rintro _ _ ⟨hF,rfl,rfl⟩
  unfold rB at hF
  exact bN
 obtain⟨ol3,hL,hRl3⟩:=aV hF
 refine eM (fun k a w=>∃(x2:Int),mC K a0 a1 k x2=some ol3∧hs _ [] [(0,.vc (pS aI.cod a0)),(1,.vc (pFn Tryz.prog (fun x:aI=>[.va (aI.enc x)]) (fun r:Bool=>.vc (pB r)) a1)),(7,.vc (pI .i64 (a0.length:Int))),(8,.vc (pI .i64 x2))] a w) K (fun a w ⟨_,hF,_⟩=>by cases hF) (fun k a w ⟨x2,hF,hh⟩=>eK ?_ hh) (fun a w hh=>⟨0,hL,dS [] hh⟩)
 rw [mC.eq_2] at hF
 refine go ?_ ?_
 refine aK hF rfl (fun h5 hF=>?_) (fun h5 hF=>?_)
 ·refine go ?_ ?_
  refine aP ?_
  obtain⟨v6,h7,v8,h9,hF⟩:=vB hF
  refine go ?_ ?_
  refine aU (aCH (pre:=fun x:aI=>[.va (aI.enc x)]) (post:=fun r:Bool=>.vc (pB r)) (x:=v6) (r:=v8) rfl h9 rfl) zU2 ?_
  refine bC (aQ (aK hF rfl (fun h10 hF=>?_) (fun h10 hF=>?_)))
  ·exact bN
  obtain⟨v11,h12,hF⟩:=aV hF
  refine go ?_ ?_
  exact aN (fun a w hh=>⟨v11,hF,dS [] hh⟩)
 refine bY ?_
 obtain rfl:=l7 hF
 exact m5 Jj4 ⟨hRl3,rfl,rfl⟩ []
def qP (K:Nat) (a0:List aI) (a1:(aI→Option Bool)):Option Bool:=
 (s5 K a0 a1).bind fun v1=>some (decide (0≤v1))
theorem yN {K:Nat} {a0:List aI} {a1:(aI→Option Bool)} {r:Bool} (hF:qP K a0 a1=some r):Ct Tryz.prog 76 [.vc (pS aI.cod a0),.vc (pFn Tryz.prog (fun x:aI=>[.va (aI.enc x)]) (fun r:Bool=>.vc (pB r)) a1)] (.vc (pB r)):=by
 unfold qP at hF
 refine aJ Tryz.func76 rfl (by kernel_rfl) Tryz.ntmps76 rfl (fun w0 M0=>?_)
 obtain⟨v1,h2,hF⟩:=aZ hF z7
 exact bN
def vT (a0:aI):Option Bool:=
 (aBv a0.n).bind fun v2=>bif(!v2) then(some true) else((aBv a0.f).bind fun v5=>some (!v5))
theorem aDO {a0:aI} {r:Bool} (hF:vT a0=some r):Ct Tryz.prog 77 [.va (aI.enc a0)] (.vc (pB r)):=by
 unfold vT at hF
 refine aJ Tryz.func77 rfl (by kernel_rfl) Tryz.ntmps77 rfl (fun w0 M0=>?_)
 refine aO (aT (cB rfl rfl trivial (fun b1=>?_)))
 obtain⟨v2,h3,hF⟩:=aZ hF r6
 refine go ?_ ?_
 refine cU hF (fun h4 hF=>?_) (fun h4 hF=>?_)
 ·exact bN
 obtain⟨v5,h6,hF⟩:=aZ hF r6
 exact bN
def rS (K:Nat):Option Bool:=
 some true
def nD (K:Nat) (a0:List Rat) (a1:List Rat) (a2:(Rat×Rat→Option Bool)):Nat→Int→Option (LR Bool Unit)
 |0,_=>none
 |k+1,x3=>bif(decide (x3<(a0.length:Int))) then((bU a0 x3).bind fun v7=>(bU a1 x3).bind fun v10=>(a2 (v7,v10)).bind fun v13=>bif(!v13) then(some (.ret false)) else((aY (x3+1)).bind fun v16=>nD K a0 a1 a2 k v16)) else(some (.go ()))
def tH (K:Nat) (a0:List Rat) (a1:List Rat) (a2:(Rat×Rat→Option Bool)):Option Bool:=
 bif((a0.length:Int) != (a1.length:Int)) then(some false) else((nD K a0 a1 a2 K 0).bind fun o=>match o with| .ret r=>some r| .go _=>rS K)
theorem aAv {K:Nat} {a0:List Rat} {a1:List Rat} {a2:(Rat×Rat→Option Bool)} {r:Bool} (hF:tH K a0 a1 a2=some r):Ct Tryz.prog 79 [.vc (pS cQ a0),.vc (pS cQ a1),.vc (pFn Tryz.prog (fun x:Rat×Rat=>[.va (eQ x.1),.va (eQ x.2)]) (fun r:Bool=>.vc (pB r)) a2)] (.vc (pB r)):=by
 unfold tH at hF
 refine aJ Tryz.func79 rfl (by kernel_rfl) Tryz.ntmps79 rfl (fun w0 M0=>?_)
 refine go ?_ ?_
 refine aK hF rfl (fun h1 hF=>?_) (fun h1 hF=>?_)
 ·exact bN
 refine go ?_ ?_
 refine aP (bH (fun H E=>rS K=some r∧H=[]∧E=[]) ?_ (fun Jj5=>?_))
 ·rintro _ _ ⟨hF,rfl,rfl⟩
  unfold rS at hF
  exact bN
 obtain⟨ol4,hL,hRl4⟩:=aV hF
 refine eM (fun k a w=>∃(x3:Int),nD K a0 a1 a2 k x3=some ol4∧hs _ [] [(1,.vc (pS cQ a1)),(2,.vc (pFn Tryz.prog (fun x:Rat×Rat=>[.va (eQ x.1),.va (eQ x.2)]) (fun r:Bool=>.vc (pB r)) a2)),(15,.vc (pS cQ a0)),(16,.vc (pI .i64 (a0.length:Int))),(17,.vc (pI .i64 x3))] a w) K (fun a w ⟨_,hF,_⟩=>by cases hF) (fun k a w ⟨x3,hF,hh⟩=>eK ?_ hh) (fun a w hh=>⟨0,hL,dS [] hh⟩)
 rw [nD.eq_2] at hF
 refine go ?_ ?_
 refine aK hF rfl (fun h6 hF=>?_) (fun h6 hF=>?_)
 ·refine go ?_ ?_
  refine aP ?_
  obtain⟨v7,h8,hF⟩:=aV hF
  refine go ?_ ?_
  refine aS rfl tyZ44q (fun b9=>?_)
  obtain⟨v10,h11,hF⟩:=aV hF
  refine go ?_ ?_
  refine aS rfl tyZ44q (fun b12=>?_)
  obtain⟨v13,h14,hF⟩:=aV hF
  refine go ?_ ?_
  refine aU (aCH (pre:=fun x:Rat×Rat=>[.va (eQ x.1),.va (eQ x.2)]) (post:=fun r:Bool=>.vc (pB r)) (x:=(v7,v10)) (r:=v13) rfl h14 rfl) ⟨rfl,rfl,rfl,trivial⟩ ?_
  refine go ?_ ?_
  refine aK hF rfl (fun h15 hF=>?_) (fun h15 hF=>?_)
  ·exact bN
  obtain⟨v16,h17,hF⟩:=aV hF
  refine go ?_ ?_
  exact aN (fun a w hh=>⟨v16,hF,dS [] hh⟩)
 refine bY ?_
 obtain rfl:=l7 hF
 exact m5 Jj5 ⟨hRl4,rfl,rfl⟩ []
def pL (K:Nat) (a1:aA) (a3:aI) (v6:Int) (v8:Rat) (x16:Int):Option Bool:=
 (xV a3.n).bind fun v18=>bif(decide (v18<0)) then(some false) else(bif(decide (v6<0)) then(some false) else(bif(decide (0<v6)) then((xV a3.n).bind fun v23=>bif(decide (0<v23)) then(some false) else(bif((a1.t.length:Int)==0) then((xV a3.f).bind fun v27=>some (v27==0)) else(bif(decide (0<x16)) then((aB0 v8).bind fun v32=>(xU a3.f v32).bind fun v34=>some v34) else(bif(decide (x16<0)) then((xU a3.f v8).bind fun v37=>some v37) else((aFI a3.f v8).bind fun v41=>bif(decide (v41≤0)) then((aB0 a3.f).bind fun v44=>(aFI v44 v8).bind fun v46=>some (decide (v46≤0))) else(some false)))))) else(bif((a1.t.length:Int)==0) then((xV a3.f).bind fun v49=>some (v49==0)) else(bif(decide (0<x16)) then((aB0 v8).bind fun v54=>(xU a3.f v54).bind fun v56=>some v56) else(bif(decide (x16<0)) then((xU a3.f v8).bind fun v59=>some v59) else((aFI a3.f v8).bind fun v63=>bif(decide (v63≤0)) then((aB0 a3.f).bind fun v66=>(aFI v66 v8).bind fun v68=>some (decide (v68≤0))) else(some false)))))))
def vC (K:Nat) (a0:aG) (a1:aA) (a2:List Rat) (a3:aI):Option Bool:=
 (iS K a1.j a2).bind fun v4=>(xV v4).bind fun v6=>(aAg a1.mu a3.n).bind fun v8=>(iS K a1.t a2).bind fun v11=>(xV v11).bind fun v13=>(lR K a0 a1).bind fun v70=>bif(v70 != 0) then(pL K a1 a3 v6 v8 v70) else(pL K a1 a3 v6 v8 v13)
theorem aBE {K:Nat} {a0:aG} {a1:aA} {a2:List Rat} {a3:aI} {r:Bool} (hF:vC K a0 a1 a2 a3=some r):Ct Tryz.prog 80 [.va (aG.enc a0),.va (aA.enc a1),.vc (pS cQ a2),.va (aI.enc a3)] (.vc (pB r)):=by
 unfold vC at hF
 refine aJ Tryz.func80 rfl (by kernel_rfl) Tryz.ntmps80 rfl (fun w0 M0=>?_)
 refine aO (aT (cB rfl rfl trivial (fun b1=>?_)))
 refine cB rfl rfl trivial (fun b2=>?_)
 refine cB rfl rfl trivial (fun b3=>?_)
 obtain⟨v4,h5,hF⟩:=aZ hF lM
 obtain⟨v6,h7,hF⟩:=aZ hF lD
 obtain⟨v8,h9,hF⟩:=aZ hF tQ
 refine go ?_ ?_
 refine aS rfl tyZ44q (fun b10=>?_)
 refine l6 (t_s 0 rfl rfl rfl tyA44.s) zU2 ?_
 refine bC (aQ (aO (aT (aU (kQ (off:=0) (k:=9) rfl tyF51_6) zU1 ?_))))
 refine aU (eW 2 1 rfl rfl rfl rfl (.one tyO49)) zU1 ?_
 refine fY ?_
 obtain⟨v11,h12,hF⟩:=aZ hF lM
 refine aU (bF rfl h12 rfl) zU2 ?_
 obtain⟨v13,h14,hF⟩:=aZ hF lD
 refine aU (bF rfl h14 rfl) zU1 ?_
 refine zI ?_
 refine bC (aQ (aO (wQ (fun H E=>∃(x16:Int),pL K a1 a3 v6 v8 x16=some r∧H=[⟨some b10,1,44,4,1,(eQ v8)⟩,⟨some b3,1,58,8,1,(aI.enc a3)⟩,⟨some b2,1,51,18,1,(aA.enc a1)⟩]∧E=[(5,.vc (pP (some b2) 0)),(7,.vc (pP (some b3) 0)),(9,.vc (pI .i64 v6)),(10,.vc (pP (some b10) 0)),(11,.vc (pI .i64 x16))]) ?_ (fun Jj17=>?_))))
 ·rintro _ _ ⟨x16,hF,rfl,rfl⟩
  unfold pL at hF
  refine aO (aP ?_)
  obtain⟨v18,h19,hF⟩:=aZ hF lD
  refine go ?_ ?_
  refine cU hF (fun h20 hF=>?_) (fun h20 hF=>?_)
  ·refine go ?_ ?_
   refine gH rfl ?_
   exact bN
  refine go ?_ ?_
  refine cU hF (fun h21 hF=>?_) (fun h21 hF=>?_)
  ·refine go ?_ ?_
   refine gH rfl ?_
   exact bN
  refine go ?_ ?_
  refine cU hF (fun h22 hF=>?_) (fun h22 hF=>?_)
  ·obtain⟨v23,h24,hF⟩:=aZ hF lD
   refine go ?_ ?_
   refine aK hF rfl (fun h25 hF=>?_) (fun h25 hF=>?_)
   ·exact bN
   refine go ?_ ?_
   refine aK hF rfl (fun h26 hF=>?_) (fun h26 hF=>?_)
   ·obtain⟨v27,h28,hF⟩:=aZ hF lD
    exact bN
   refine go ?_ ?_
   refine aK hF rfl (fun h29 hF=>?_) (fun h29 hF=>?_)
   ·refine aO ?_
    obtain⟨v32,h33,hF⟩:=aZ hF sP
    obtain⟨v34,h35,hF⟩:=aZ hF sJ
    refine dr [0,1,0,4,15,31] 6 0 ?_ (fun bs31 G30=>?_)
    refine bC (aQ ?_)
    exact bN
   refine go ?_ ?_
   refine aK hF rfl (fun h36 hF=>?_) (fun h36 hF=>?_)
   ·obtain⟨v37,h38,hF⟩:=aZ hF sJ
    exact bN
   obtain⟨v41,h42,hF⟩:=aZ hF uY
   refine go ?_ ?_
   rcases Bool.eq_false_or_eq_true (decide (v41≤0)) with h43|h43
   ·have hF:=tD h43 hF
    obtain⟨v44,h45,hF⟩:=aZ hF sP
    obtain⟨v46,h47,hF⟩:=aZ hF uY
    refine drb [0,1,0,7,15,31,63,127,255,63,1023,2047,4095,8191] 14 0 ?_ (fun bs40 G39=>?_)
    refine bC (aQ ?_)
    exact bN
   have hF:=tE h43 hF
   refine drb [0,1,0,7,15,31,63,127,255,63,1023,2047,4095,8191] 14 0 ?_ (fun bs40 G39=>?_)
   refine bC (aQ ?_)
   exact bN
  refine go ?_ ?_
  refine tW rfl ?_
  refine go ?_ ?_
  refine aK hF rfl (fun h48 hF=>?_) (fun h48 hF=>?_)
  ·obtain⟨v49,h50,hF⟩:=aZ hF lD
   exact bN
  refine go ?_ ?_
  refine aK hF rfl (fun h51 hF=>?_) (fun h51 hF=>?_)
  ·refine aO ?_
   obtain⟨v54,h55,hF⟩:=aZ hF sP
   obtain⟨v56,h57,hF⟩:=aZ hF sJ
   refine dr [0,1,0,4,15,31] 6 0 ?_ (fun bs53 G52=>?_)
   refine bC (aQ ?_)
   exact bN
  refine go ?_ ?_
  refine aK hF rfl (fun h58 hF=>?_) (fun h58 hF=>?_)
  ·obtain⟨v59,h60,hF⟩:=aZ hF sJ
   exact bN
  obtain⟨v63,h64,hF⟩:=aZ hF uY
  refine go ?_ ?_
  rcases Bool.eq_false_or_eq_true (decide (v63≤0)) with h65|h65
  ·have hF:=tD h65 hF
   obtain⟨v66,h67,hF⟩:=aZ hF sP
   obtain⟨v68,h69,hF⟩:=aZ hF uY
   refine drb [0,1,0,7,15,31,63,127,255,63,1023,2047,4095,8191] 14 0 ?_ (fun bs62 G61=>?_)
   refine bC (aQ ?_)
   exact bN
  have hF:=tE h65 hF
  refine drb [0,1,0,7,15,31,63,127,255,63,1023,2047,4095,8191] 14 0 ?_ (fun bs62 G61=>?_)
  refine bC (aQ ?_)
  exact bN
 obtain⟨v70,h71,hF⟩:=aZ hF vE
 refine go ?_ ?_
 refine aK hF rfl (fun h72 hF=>?_) (fun h72 hF=>?_)
 ·refine aT (fY ?_)
  refine zI ?_
  refine bC ?_
  exact m5 Jj17 ⟨v70,hF,rfl,rfl⟩ [0,1,2]
 refine jD ?_
 exact m5 Jj17 ⟨v13,hF,rfl,rfl⟩ [0,1,2]
def wW (K:Nat):Option Int:=
 some 0
def uN (K:Nat) (a0:List aF) (a1:List Rat) (a2:List Rat) (a3:List aA) (a4:List Rat) (a5:List aI):Nat→Int→Option (LR Int Unit)
 |0,_=>none
 |k+1,x19=>bif(decide (x19<(a3.length:Int))) then((bU a3 x19).bind fun v23=>(bU a5 x19).bind fun v28=>(vC K (⟨a0,a1,a2,a3⟩:aG) v23 a4 v28).bind fun v30=>bif(!v30) then(some (.ret 18)) else((aY (x19+1)).bind fun v33=>uN K a0 a1 a2 a3 a4 a5 k v33)) else(some (.go ()))
def zZ (K:Nat) (a0:List aF) (a1:List Rat) (a2:List Rat) (a3:List aA) (a4:List Rat) (a5:List aI):Option Int:=
 (lP K (⟨a0,a1,a2,a3⟩:aG)).bind fun v2=>bif(!v2) then(some 1) else(bif((a4.length:Int) != (a0.length:Int)) then(some 18) else(bif((a5.length:Int) != (a3.length:Int)) then(some 18) else((tI K a4).bind fun v7=>bif(!v7) then(some 18) else((qP K a5 (vT)).bind fun v10=>bif v10 then(some 18) else((bO K (⟨a0,a1,a2,a3⟩:aG) a1 a5).bind fun v13=>(tH K a4 v13 (fun x=>xU x.1 x.2)).bind fun v15=>bif(!v15) then(some 18) else((uN K a0 a1 a2 a3 a4 a5 K 0).bind fun o=>match o with| .ret r=>some r| .go _=>wW K))))))
theorem aFv {K:Nat} {a0:List aF} {a1:List Rat} {a2:List Rat} {a3:List aA} {a4:List Rat} {a5:List aI} {r:Int} (hF:zZ K a0 a1 a2 a3 a4 a5=some r):Ct Tryz.prog 19 [.vc (pS aF.cod a0),.vc (pS cQ a1),.vc (pS cQ a2),.vc (pS aA.cod a3),.vc (pS cQ a4),.vc (pS aI.cod a5)] (.vc (pI .i64 r)):=by
 unfold zZ at hF
 refine aJ Tryz.func19 rfl (by kernel_rfl) Tryz.ntmps19 rfl (fun w0 M0=>?_)
 refine go ?_ ?_
 refine aU (cA (is:=[0,1,2,3]) (xs:=[.tmp 16,.tmp 17,.tmp 18,.tmp 19]) (ps:=[.vc (pS aF.cod a0),.vc (pS cQ a1),.vc (pS cQ a2),.vc (pS aA.cod a3)]) rfl tyB113q rfl rfl ⟨trivial,trivial,trivial,trivial,trivial⟩ rfl) ⟨rfl,rfl,rfl,rfl,trivial⟩ ?_
 refine aS rfl tyZ113q (fun b1=>?_)
 refine go ?_ ?_
 refine aP ?_
 obtain⟨v2,h3,hF⟩:=aZ hF vF
 refine go ?_ ?_
 refine aK hF rfl (fun h4 hF=>?_) (fun h4 hF=>?_)
 ·exact bN
 refine go ?_ ?_
 refine cU hF (fun h5 hF=>?_) (fun h5 hF=>?_)
 ·refine go ?_ ?_
  refine gH rfl ?_
  exact bN
 refine go ?_ ?_
 refine cU hF (fun h6 hF=>?_) (fun h6 hF=>?_)
 ·refine go ?_ ?_
  refine gH rfl ?_
  exact bN
 obtain⟨v7,h8,hF⟩:=aZ hF z5
 refine go ?_ ?_
 refine aK hF rfl (fun h9 hF=>?_) (fun h9 hF=>?_)
 ·exact bN
 obtain⟨v10,h11,hF⟩:=aZ hF yN
 refine go ?_ ?_
 refine aU (bF rfl h11 rfl) ⟨rfl,(aOa (P:=Tryz.prog) (φ:=(vT)) (pre:=fun x:aI=>[.va (aI.enc x)]) (post:=fun r:Bool=>.vc (pB r)) (fun x r h=>aDO h)),trivial⟩ ?_
 refine go ?_ ?_
 refine aK hF rfl (fun h12 hF=>?_) (fun h12 hF=>?_)
 ·exact bN
 obtain⟨v13,h14,hF⟩:=aZ hF cX
 obtain⟨v15,h16,hF⟩:=aZ hF aAv
 refine go ?_ ?_
 refine aU (bF rfl h16 rfl) ⟨rfl,rfl,(aOa (P:=Tryz.prog) (φ:=(fun x=>xU x.1 x.2)) (pre:=fun x:Rat×Rat=>[.va (eQ x.1),.va (eQ x.2)]) (post:=fun r:Bool=>.vc (pB r)) (fun x r h=>sJ h)),trivial⟩ ?_
 refine go ?_ ?_
 refine aK hF rfl (fun h17 hF=>?_) (fun h17 hF=>?_)
 ·exact bN
 refine go ?_ ?_
 refine aP (bH (fun H E=>wW K=some r∧H=[]∧E=[]) ?_ (fun Jj21=>?_))
 ·rintro _ _ ⟨hF,rfl,rfl⟩
  unfold wW at hF
  exact bN
 obtain⟨ol20,hL,hRl20⟩:=aV hF
 refine eM (fun k a w=>∃(x19:Int),uN K a0 a1 a2 a3 a4 a5 k x19=some ol20∧hs _ [⟨some b1,1,113,4,1,([pS aF.cod a0]++[pS cQ a1]++[pS cQ a2]++[pS aA.cod a3])⟩] [(4,.vc (pS cQ a4)),(5,.vc (pS aI.cod a5)),(13,.vc (pP (some b1) 0)),(54,.vc (pS aA.cod a3)),(55,.vc (pI .i64 (a3.length:Int))),(56,.vc (pI .i64 x19))] a w) K (fun a w ⟨_,hF,_⟩=>by cases hF) (fun k a w ⟨x19,hF,hh⟩=>eK ?_ hh) (fun a w hh=>⟨0,hL,dS [0] hh⟩)
 rw [uN.eq_2] at hF
 refine go ?_ ?_
 refine aK hF rfl (fun h22 hF=>?_) (fun h22 hF=>?_)
 ·refine go ?_ ?_
  refine aP ?_
  obtain⟨v23,h24,hF⟩:=aV hF
  refine go ?_ ?_
  refine aS rfl tyZ51q (fun b25=>?_)
  obtain⟨v28,h29,hF⟩:=aV hF
  obtain⟨v30,h31,hF⟩:=aZ hF aBE
  refine go ?_ ?_
  refine dr [0,0,0,0,0,24,56,127,255] 9 0 ?_ (fun bs27 G26=>?_)
  refine bC (aQ (aK hF rfl (fun h32 hF=>?_) (fun h32 hF=>?_)))
  ·exact bN
  obtain⟨v33,h34,hF⟩:=aV hF
  refine go ?_ ?_
  exact aN (fun a w hh=>⟨v33,hF,dS [1] hh⟩)
 refine bY ?_
 obtain rfl:=l7 hF
 exact m5 Jj21 ⟨hRl20,rfl,rfl⟩ []
def rO (K:Nat) (x26:List Rat):Option (List Rat):=
 some x26
def jN (K:Nat) (a1:List aC) (a2:Rat):Nat→(List Rat)→Int→Option (List Rat)
 |0,_,_=>none
 |k+1,x19,x25=>bif(decide (x25<(a1.length:Int))) then((bU a1 x25).bind fun v37=>(bU a1 x25).bind fun v39=>(bU x19 v39.dof).bind fun v41=>(bU a1 x25).bind fun v43=>(aAg v43.k a2).bind fun v45=>(aCu v41 v45).bind fun v47=>(bU x19 v37.dof).bind fun v49=>(p9 x19 v37.dof v47).bind fun x51=>(aY (x25+1)).bind fun v54=>jN K a1 a2 k x51 v54) else(some x19)
def oU (K:Nat) (a0:List Rat) (a1:List aC) (a2:Rat):Option (List Rat):=
 (oT ([]:List Rat) a0).bind fun x5=>(jN K a1 a2 K x5 0).bind fun x26=>rO K x26
theorem y8 {K:Nat} {a0:List Rat} {a1:List aC} {a2:Rat} {r:List Rat} (hF:oU K a0 a1 a2=some r):Ct Tryz.prog 174 [.vc (pS cQ a0),.vc (pS aC.cod a1),.va (eQ a2)] (.vc (pS cQ r)):=by
 unfold oU at hF
 refine aJ Tryz.func174 rfl (by kernel_rfl) Tryz.ntmps174 rfl (fun w0 M0=>?_)
 refine aO (aT (cB rfl rfl trivial (fun b1=>?_)))
 refine aU (bA (.inr rfl)) ⟨cR cQ,trivial⟩ ?_
 refine go ?_ ?_
 refine aDZ (yK (C:=cQ) (xs:=[]) (ps:=[]) (zs:=([]:List Rat)) rfl tyS24 rfl trivial rfl) trivial (fun b2 _=>?_)
 refine fY ?_
 obtain⟨x5,h6,hF⟩:=aV hF
 refine gJ 0 rfl tyS24 rfl rfl rfl rfl rfl h6 (fun b7 c8 H9 e10=>?_)
 cases e10
 refine go ?_ ?_
 refine aP (bH (fun H E=>∃(x26:List Rat),rO K x26=some r∧x26.length=(0+a0.length)∧H=[hO cQ b7 c8 44 (0+a0.length) x26]∧E=[(7,.vc (pO b7 (0+a0.length) c8))]) ?_ (fun Jj33=>?_))
 ·rintro _ _ ⟨x26,hF,q30,rfl,rfl⟩
  unfold rO at hF
  refine go ?_ ?_
  refine qY (rC (vR 0 [6,7,41] rfl q30 ⟨rfl,rfl,rfl,trivial⟩ rfl ?_))
  obtain rfl:=l7 hF
  exact oE (.inl rfl) Tryz.results174 (.tmp rfl .nil) rfl rfl
 obtain⟨x26',hL,hRl32⟩:=aV hF
 refine eM (fun k a w=>∃(x19:List Rat),∃(x25:Int),jN K a1 a2 k x19 x25=some x26'∧x19.length=(0+a0.length)∧hs _ [hO cQ b7 c8 44 (0+a0.length) x19,⟨some b1,1,44,4,1,(eQ a2)⟩] [(1,.vc (pS aC.cod a1)),(5,.vc (pP (some b1) 0)),(7,.vc (pO b7 (0+a0.length) c8)),(8,.vc (pI .i64 x25))] a w) K (fun a w ⟨_,_,hF,_,_⟩=>by cases hF) (fun k a w ⟨x19,x25,hF,q23,hh⟩=>eK ?_ hh) (fun a w hh=>⟨x5,0,hL,(bK h6 rfl),dS [0,1] hh⟩)
 rw [jN.eq_2] at hF
 refine go ?_ ?_
 refine aK hF rfl (fun h34 hF=>?_) (fun h34 hF=>?_)
 ·refine go ?_ ?_
  refine aP ?_
  obtain⟨v37,h38,hF⟩:=aV hF
  have hF:=nP h38 hF
  obtain⟨v41,h42,hF⟩:=aV hF
  have hF:=nP h38 hF
  obtain⟨v45,h46,hF⟩:=aZ hF lT
  obtain⟨v47,h48,hF⟩:=aZ hF qQ
  have hF:=nP h42 hF
  refine dr [0,0,0,6,14,30,0,0,0,384,896,1920,4032,8128,0,0,49152,114688,245760,0,1032192,2097088,4194303,8388607] 23 1 ?_ (fun bs36 G35=>?_)
  obtain⟨x51,h52,v54,h55,hF⟩:=vB hF
  refine go ?_ ?_
  exact aN (fun a w hh=>⟨x51,v54,hF,(bI h52 q23),dS [0,1] hh⟩)
 refine bY ?_
 obtain rfl:=l7 hF
 exact m5 Jj33 ⟨x19,hRl32,q23,rfl,rfl⟩ [0]
def rI (K:Nat) (x10:List Rat):Option (List Rat):=
 some x10
def jR (K:Nat) (a1:List aA) (a2:List aI):Nat→(List Rat)→Int→Option (List Rat)
 |0,_,_=>none
 |k+1,x8,x9=>bif(decide (x9<(a1.length:Int))) then((bU a1 x9).bind fun v16=>(bU a2 x9).bind fun v18=>(oU K x8 v16.j v18.n).bind fun v20=>(bU a1 x9).bind fun v22=>(bU a2 x9).bind fun v24=>(oU K v20 v22.t v24.f).bind fun v26=>(aY (x9+1)).bind fun v28=>jR K a1 a2 k v26 v28) else(some x8)
def uK (K:Nat) (a0:Int) (a1:List aA) (a2:List aI):Option (List Rat):=
 (xI a0 0).bind fun x1=>(jR K a1 a2 K x1 0).bind fun x10=>rI K x10
theorem aCm {K:Nat} {a0:Int} {a1:List aA} {a2:List aI} {r:List Rat} (hF:uK K a0 a1 a2=some r):Ct Tryz.prog 85 [.vc (pI .i64 a0),.vc (pS aA.cod a1),.vc (pS aI.cod a2)] (.vc (pS cQ r)):=by
 unfold uK at hF
 refine aJ Tryz.func85 rfl (by kernel_rfl) Tryz.ntmps85 rfl (fun w0 M0=>?_)
 refine aO (aT (aU (bA (.inr rfl)) ⟨cR cQ,trivial⟩ ?_))
 obtain⟨x1,h2,hF⟩:=aV hF
 refine go ?_ ?_
 refine s7 (C:=cQ) rfl tyS24 rfl tyZ44q rfl h2 (fun b3=>?_)
 refine go ?_ ?_
 refine aP (aCP 0 [7,10] rfl rfl zU2 rfl ?_)
 refine bH (fun H E=>∃(x10:List Rat),rI K x10=some r∧H=[]∧E=[(7,.vc (pS cQ x10))]) ?_ (fun Jj12=>?_)
 ·rintro _ _ ⟨x10,hF,rfl,rfl⟩
  unfold rI at hF
  exact bN
 obtain⟨x10',hL,hRl11⟩:=aV hF
 refine eM (fun k a w=>∃(x8:List Rat),∃(x9:Int),jR K a1 a2 k x8 x9=some x10'∧hs _ [] [(1,.vc (pS aA.cod a1)),(2,.vc (pS aI.cod a2)),(7,.vc (pS cQ x8)),(8,.vc (pI .i64 x9))] a w) K (fun a w ⟨_,_,hF,_⟩=>by cases hF) (fun k a w ⟨x8,x9,hF,hh⟩=>eK ?_ hh) (fun a w hh=>⟨x1,0,hL,dS [] hh⟩)
 rw [jR.eq_2] at hF
 refine go ?_ ?_
 refine aK hF rfl (fun h13 hF=>?_) (fun h13 hF=>?_)
 ·refine go ?_ ?_
  refine aP ?_
  obtain⟨v16,h17,hF⟩:=aV hF
  obtain⟨v18,h19,hF⟩:=aV hF
  obtain⟨v20,h21,hF⟩:=aZ hF y8
  have hF:=nP h17 hF
  have hF:=nP h19 hF
  obtain⟨v26,h27,hF⟩:=aZ hF y8
  refine dr [0,0,0,6,14,30,0,0,192,448,960,2047,0,0,12288,28672,61440,0,0,393216,917504,1966080,4194303,8388607] 24 0 ?_ (fun bs15 G14=>?_)
  obtain⟨v28,h29,hF⟩:=aV hF
  refine go ?_ ?_
  exact aN (fun a w hh=>⟨v26,v28,hF,dS [] hh⟩)
 refine bY ?_
 obtain rfl:=l7 hF
 exact m5 Jj12 ⟨x8,hRl11,rfl,rfl⟩ []
def jZ (K:Nat) (x19:List Rat):Option (List Rat):=
 some x19
def dN (K:Nat) (a0:List aF) (a1:List Rat) (v1:List Rat):Nat→(List Rat)→Int→Option (List Rat)
 |0,_,_=>none
 |k+1,x12,x18=>bif(decide (x18<(a0.length:Int))) then((bU a0 x18).bind fun v30=>(bU a1 x18).bind fun v32=>(bU v1 x18).bind fun v34=>(aCu v32 v34).bind fun v36=>(aAg v30.inv v36).bind fun v38=>(oT x12 [v38]).bind fun x40=>(aY (x18+1)).bind fun v47=>dN K a0 a1 v1 k x40 v47) else(some x12)
def eY (K:Nat) (a0:List aF) (a1:List Rat) (a2:List aA) (a3:List aI):Option (List Rat):=
 (uK K (a0.length:Int) a2 a3).bind fun v1=>(dN K a0 a1 v1 K ([]:List Rat) 0).bind fun x19=>jZ K x19
theorem pR {K:Nat} {a0:List aF} {a1:List Rat} {a2:List aA} {a3:List aI} {r:List Rat} (hF:eY K a0 a1 a2 a3=some r):Ct Tryz.prog 22 [.vc (pS aF.cod a0),.vc (pS cQ a1),.vc (pS aA.cod a2),.vc (pS aI.cod a3)] (.vc (pS cQ r)):=by
 unfold eY at hF
 refine aJ Tryz.func22 rfl (by kernel_rfl) Tryz.ntmps22 rfl (fun w0 M0=>?_)
 refine aO (aT (aU (bA (.inr rfl)) ⟨cR cQ,trivial⟩ ?_))
 refine bC (aQ (aO (aT (fY ?_))))
 refine aU (vQ rfl tyS23) zU1 ?_
 refine fY ?_
 refine fY ?_
 obtain⟨v1,h2,hF⟩:=aZ hF aCm
 refine aU (bF rfl h2 rfl) ⟨rfl,rfl,rfl,trivial⟩ ?_
 refine zI ?_
 refine bC (aQ (aO (aT (rA cQ 44 rfl ?_))))
 refine go ?_ ?_
 refine aP (bH (fun H E=>∃(x19:List Rat),∃(b20:Option Nat),∃(c21:Nat),∃(n22:Nat),jZ K x19=some r∧x19.length=n22∧H=[hO cQ b20 c21 44 n22 x19]∧E=[(10,.vc (pO b20 n22 c21))]) ?_ (fun Jj26=>?_))
 ·rintro _ _ ⟨x19,b20,c21,n22,hF,q23,rfl,rfl⟩
  unfold jZ at hF
  refine go ?_ ?_
  refine qY (rC (vR 0 [8,10,41] rfl q23 ⟨rfl,rfl,rfl,trivial⟩ rfl ?_))
  obtain rfl:=l7 hF
  exact oE (.inl rfl) Tryz.results22 (.tmp rfl .nil) rfl rfl
 obtain⟨x19',hL,hRl25⟩:=aV hF
 refine eM (fun k a w=>∃(x12:List Rat),∃(x18:Int),∃(b13:Option Nat),∃(c14:Nat),∃(n15:Nat),dN K a0 a1 v1 k x12 x18=some x19'∧x12.length=n15∧hs _ [hO cQ b13 c14 44 n15 x12] [(0,.vc (pS aF.cod a0)),(1,.vc (pS cQ a1)),(9,.vc (pS cQ v1)),(10,.vc (pO b13 n15 c14)),(11,.vc (pI .i64 x18))] a w) K (fun a w ⟨_,_,_,_,_,hF,_,_⟩=>by cases hF) (fun k a w ⟨x12,x18,b13,c14,n15,hF,q16,hh⟩=>eK ?_ hh) (fun a w hh=>⟨([]:List Rat),0,none,0,0,hL,rfl,dS [0] hh⟩)
 rw [dN.eq_2] at hF
 refine go ?_ ?_
 refine aK hF rfl (fun h27 hF=>?_) (fun h27 hF=>?_)
 ·refine go ?_ ?_
  refine aP ?_
  obtain⟨v30,h31,hF⟩:=aV hF
  obtain⟨v32,h33,hF⟩:=aV hF
  obtain⟨v34,h35,hF⟩:=aV hF
  obtain⟨v36,h37,hF⟩:=aZ hF qQ
  obtain⟨v38,h39,hF⟩:=aZ hF lT
  refine hY [0,0,0,6,14,30,0,0,192,448,0,0,3072,7168,16320,32766,65534,131071,262143] 17 2 [.v (.vc (pO b13 n15 c14)),.v (.vc (pS aF.cod a0)),.v (.vc (pI .i64 x18)),.v (.vc (pM (aF.cod.e v30))),.v (.vc (pM (aF.cod.e v30))),.v (.va (eQ v30.inv)),.v (.vc (pS cQ a1)),.v (.vc (pI .i64 x18)),.v (.vc (pM (cQ.e v32))),.v (.va (eQ v32)),.v (.vc (pS cQ v1)),.v (.vc (pI .i64 x18)),.v (.vc (pM (cQ.e v34))),.v (.va (eQ v34)),.v (.va (eQ v36)),.v (.va (eQ v38)),.v (.vc (pS cQ [v38]))] a9 ⟨d0 (bA (.inl rfl)) zU1,d0 (bA (.inl rfl)) zU1,d0 (bA (.inl rfl)) zU1,d0 (vJ rfl tyS23 h31) zU2,d0 (aMh (ps:=(aF.cod.e v30)) (k:=0) rfl tyF108_0) zU1,d0 (uO 4 rfl rfl (.agg tyA44)) zU1,d0 (bA (.inl rfl)) zU1,d0 (bA (.inl rfl)) zU1,d0 (vJ rfl tyS24 h33) zU2,d0 (uO 4 rfl rfl (.agg tyA44)) zU1,d0 (bA (.inl rfl)) zU1,d0 (bA (.inl rfl)) zU1,d0 (vJ rfl tyS24 h35) zU2,d0 (uO 4 rfl rfl (.agg tyA44)) zU1,d0 (bF rfl h37 rfl) zU2,d0 (bF rfl h39 rfl) zU2,d0 (hU (C:=cQ) (xs:=[.tmp 38]) (ps:=[.va (eQ v38)]) (zs:=[v38]) rfl tyS24 rfl ⟨⟨trivial,rfl⟩,trivial⟩ rfl) zU1,trivial⟩ (fun bs29 G28=>?_)
  obtain⟨x40,h41,hF⟩:=aV hF
  refine gJ 0 rfl tyS24 rfl rfl q16 rfl rfl h41 (fun b42 c43 H44 e45=>?_)
  cases e45
  obtain⟨v47,h48,hF⟩:=aV hF
  refine go ?_ ?_
  exact aN (fun a w hh=>⟨x40,v47,b42,c43,(n15+[v38].length),hF,(bK h41 q16),dS [0] hh⟩)
 refine bY ?_
 obtain rfl:=l7 hF
 exact m5 Jj26 ⟨x12,b13,c14,n15,hRl25,q16,rfl,rfl⟩ [0]
def oL (K:Nat):Option Bool:=
 some true
def gS (K:Nat) (a0:List Rat) (a1:List Rat):Nat→Int→Option (LR Bool Unit)
 |0,_=>none
 |k+1,x3=>bif(decide (x3<(a0.length:Int))) then((bU a0 x3).bind fun v9=>(bU a1 x3).bind fun v11=>(xU v9 v11).bind fun v13=>bif(!v13) then(some (.ret false)) else((aY (x3+1)).bind fun v16=>gS K a0 a1 k v16)) else(some (.go ()))
def jO (K:Nat) (a0:List Rat) (a1:List Rat):Option Bool:=
 bif((a0.length:Int) != (a1.length:Int)) then(some false) else((gS K a0 a1 K 0).bind fun o=>match o with| .ret r=>some r| .go _=>oL K)
theorem wY {K:Nat} {a0:List Rat} {a1:List Rat} {r:Bool} (hF:jO K a0 a1=some r):Ct Tryz.prog 29 [.vc (pS cQ a0),.vc (pS cQ a1)] (.vc (pB r)):=by
 unfold jO at hF
 refine aJ Tryz.func29 rfl (by kernel_rfl) Tryz.ntmps29 rfl (fun w0 M0=>?_)
 refine go ?_ ?_
 refine aK hF rfl (fun h1 hF=>?_) (fun h1 hF=>?_)
 ·exact bN
 refine go ?_ ?_
 refine aP (bH (fun H E=>oL K=some r∧H=[]∧E=[]) ?_ (fun Jj5=>?_))
 ·rintro _ _ ⟨hF,rfl,rfl⟩
  unfold oL at hF
  exact bN
 obtain⟨ol4,hL,hRl4⟩:=aV hF
 refine eM (fun k a w=>∃(x3:Int),gS K a0 a1 k x3=some ol4∧hs _ [] [(0,.vc (pS cQ a0)),(1,.vc (pS cQ a1)),(5,.vc (pI .i64 x3))] a w) K (fun a w ⟨_,hF,_⟩=>by cases hF) (fun k a w ⟨x3,hF,hh⟩=>eK ?_ hh) (fun a w hh=>⟨0,hL,dS [] hh⟩)
 rw [gS.eq_2] at hF
 refine go ?_ ?_
 refine aK hF rfl (fun h6 hF=>?_) (fun h6 hF=>?_)
 ·refine go ?_ ?_
  refine aP (aO ?_)
  obtain⟨v9,h10,hF⟩:=aV hF
  obtain⟨v11,h12,hF⟩:=aV hF
  obtain⟨v13,h14,hF⟩:=aZ hF vH
  refine dr [0,0,3,7,0,0,48,112,255,511] 10 0 ?_ (fun bs8 G7=>?_)
  refine bC (aQ (aK hF rfl (fun h15 hF=>?_) (fun h15 hF=>?_)))
  ·exact bN
  obtain⟨v16,h17,hF⟩:=aV hF
  refine go ?_ ?_
  exact aN (fun a w hh=>⟨v16,hF,dS [] hh⟩)
 refine bY ?_
 obtain rfl:=l7 hF
 exact m5 Jj5 ⟨hRl4,rfl,rfl⟩ []
def rF (K:Nat) (x7:Rat):Option Rat:=
 some x7
def fL (K:Nat) (a0:List aC) (a1:List Rat):Nat→Rat→Int→Option Rat
 |0,_,_=>none
 |k+1,x5,x6=>bif(decide (x6<(a0.length:Int))) then((bU a0 x6).bind fun v11=>bif(decide (0≤v11.dof)) then((bU a0 x6).bind fun v14=>bif(decide (v14.dof<(a1.length:Int))) then((bU a0 x6).bind fun v19=>(bU a0 x6).bind fun v21=>(bU a1 (max v21.dof 0)).bind fun v23=>(aAg v19.k v23).bind fun v25=>(aCu x5 v25).bind fun v27=>(aY (x6+1)).bind fun v29=>fL K a0 a1 k v27 v29) else((aY (x6+1)).bind fun v31=>fL K a0 a1 k x5 v31)) else((aY (x6+1)).bind fun v33=>fL K a0 a1 k x5 v33)) else(some x5)
def gT (K:Nat) (a0:List aC) (a1:List Rat):Option Rat:=
 (fL K a0 a1 K 0 0).bind fun x7=>rF K x7
theorem p7 {K:Nat} {a0:List aC} {a1:List Rat} {r:Rat} (hF:gT K a0 a1=some r):Ct Tryz.prog 92 [.vc (pS aC.cod a0),.vc (pS cQ a1)] (.va (eQ r)):=by
 unfold gT at hF
 refine aJ Tryz.func92 rfl (by kernel_rfl) Tryz.ntmps92 rfl (fun w0 M0=>?_)
 refine aO (aT (aS rfl tyZ44q (fun b1=>?_)))
 refine go ?_ ?_
 refine aS rfl tyZ44q (fun b2=>?_)
 refine go ?_ ?_
 refine aP (bH (fun H E=>∃(x7:Rat),rF K x7=some r∧H=[⟨some b2,1,44,4,1,(eQ x7)⟩,⟨some b1,1,44,4,1,(eQ 0)⟩]∧E=[(4,.vc (pP (some b1) 0)),(5,.vc (pP (some b2) 0))]) ?_ (fun Jj9=>?_))
 ·rintro _ _ ⟨x7,hF,rfl,rfl⟩
  unfold rF at hF
  exact bN
 obtain⟨x7',hL,hRl8⟩:=aV hF
 refine eM (fun k a w=>∃(x5:Rat),∃(x6:Int),fL K a0 a1 k x5 x6=some x7'∧hs _ [⟨some b2,1,44,4,1,(eQ x5)⟩,⟨some b1,1,44,4,1,(eQ 0)⟩] [(0,.vc (pS aC.cod a0)),(1,.vc (pS cQ a1)),(4,.vc (pP (some b1) 0)),(5,.vc (pP (some b2) 0)),(6,.vc (pI .i64 x6))] a w) K (fun a w ⟨_,_,hF,_⟩=>by cases hF) (fun k a w ⟨x5,x6,hF,hh⟩=>eK ?_ hh) (fun a w hh=>⟨0,0,hL,dS [0,1] hh⟩)
 rw [fL.eq_2] at hF
 refine go ?_ ?_
 refine aK hF rfl (fun h10 hF=>?_) (fun h10 hF=>?_)
 ·refine go ?_ ?_
  refine aP ?_
  obtain⟨v11,h12,hF⟩:=aV hF
  refine go ?_ ?_
  refine cU hF (fun h13 hF=>?_) (fun h13 hF=>?_)
  ·have hF:=nP h12 hF
   refine go ?_ ?_
   refine aK hF rfl (fun h16 hF=>?_) (fun h16 hF=>?_)
   ·have hF:=nP h12 hF
    have hF:=nP h12 hF
    obtain⟨v23,h24,hF⟩:=aV hF
    obtain⟨v25,h26,hF⟩:=aZ hF lT
    obtain⟨v27,h28,hF⟩:=aZ hF qQ
    refine dr [0,0,0,6,14,30,0,0,0,384,896,1920,3968,8128,16320,32766,65535,131071] 17 1 ?_ (fun bs18 G17=>?_)
    obtain⟨v29,h30,hF⟩:=aV hF
    refine go ?_ ?_
    exact aN (fun a w hh=>⟨v27,v29,hF,dS [0,1] hh⟩)
   obtain⟨v31,h32,hF⟩:=aV hF
   refine go ?_ ?_
   exact aN (fun a w hh=>⟨x5,v31,hF,dS [0,1] hh⟩)
  refine go ?_ ?_
  refine tW rfl ?_
  obtain⟨v33,h34,hF⟩:=aV hF
  refine go ?_ ?_
  exact aN (fun a w hh=>⟨x5,v33,hF,dS [0,1] hh⟩)
 refine bY ?_
 obtain rfl:=l7 hF
 exact m5 Jj9 ⟨x5,hRl8,rfl,rfl⟩ [0,1]
def rL (K:Nat):Option Bool:=
 some true
def jM (K:Nat) (a0:List Rat):Nat→Int→Option (LR Bool Unit)
 |0,_=>none
 |k+1,x2=>bif(decide (x2<(a0.length:Int))) then((bU a0 x2).bind fun v6=>(aBv v6).bind fun v8=>bif(!v8) then(some (.ret false)) else((aY (x2+1)).bind fun v11=>jM K a0 k v11)) else(some (.go ()))
def nV (K:Nat) (a0:List Rat):Option Bool:=
 (jM K a0 K 0).bind fun o=>match o with| .ret r=>some r| .go _=>rL K
theorem yH {K:Nat} {a0:List Rat} {r:Bool} (hF:nV K a0=some r):Ct Tryz.prog 82 [.vc (pS cQ a0)] (.vc (pB r)):=by
 unfold nV at hF
 refine aJ Tryz.func82 rfl (by kernel_rfl) Tryz.ntmps82 rfl (fun w0 M0=>?_)
 refine go ?_ ?_
 refine aP (bH (fun H E=>rL K=some r∧H=[]∧E=[]) ?_ (fun Jj4=>?_))
 ·rintro _ _ ⟨hF,rfl,rfl⟩
  unfold rL at hF
  exact bN
 obtain⟨ol3,hL,hRl3⟩:=aV hF
 refine eM (fun k a w=>∃(x2:Int),jM K a0 k x2=some ol3∧hs _ [] [(0,.vc (pS cQ a0)),(3,.vc (pI .i64 x2))] a w) K (fun a w ⟨_,hF,_⟩=>by cases hF) (fun k a w ⟨x2,hF,hh⟩=>eK ?_ hh) (fun a w hh=>⟨0,hL,dS [] hh⟩)
 rw [jM.eq_2] at hF
 refine go ?_ ?_
 refine aK hF rfl (fun h5 hF=>?_) (fun h5 hF=>?_)
 ·refine go ?_ ?_
  refine aP ?_
  obtain⟨v6,h7,hF⟩:=aV hF
  obtain⟨v8,h9,hF⟩:=aZ hF oR
  refine go ?_ ?_
  refine aK hF rfl (fun h10 hF=>?_) (fun h10 hF=>?_)
  ·exact bN
  obtain⟨v11,h12,hF⟩:=aV hF
  refine go ?_ ?_
  exact aN (fun a w hh=>⟨v11,hF,dS [] hh⟩)
 refine bY ?_
 obtain rfl:=l7 hF
 exact m5 Jj4 ⟨hRl3,rfl,rfl⟩ []
def qB (K:Nat):Option Bool:=
 some true
def gL (K:Nat) (a0:List aC) (a1:Int):Nat→Int→Option (LR Bool Unit)
 |0,_=>none
 |k+1,x2=>bif(decide (x2<(a0.length:Int))) then((bU a0 x2).bind fun v8=>(aBv v8.k).bind fun v10=>bif(!v10) then(some (.ret false)) else((bU a0 x2).bind fun v13=>bif(decide (v13.dof<0)) then(some (.ret false)) else((bU a0 x2).bind fun v16=>bif(decide (a1≤v16.dof)) then(some (.ret false)) else(bif(decide (0<x2)) then((bU a0 x2).bind fun v20=>(aY (x2-1)).bind fun v22=>(bU a0 (max v22 0)).bind fun v24=>bif(decide (v20.dof≤v24.dof)) then(some (.ret false)) else((aY (x2+1)).bind fun v27=>gL K a0 a1 k v27)) else((aY (x2+1)).bind fun v29=>gL K a0 a1 k v29))))) else(some (.go ()))
def mV (K:Nat) (a0:List aC) (a1:Int):Option Bool:=
 (gL K a0 a1 K 0).bind fun o=>match o with| .ret r=>some r| .go _=>qB K
theorem xS {K:Nat} {a0:List aC} {a1:Int} {r:Bool} (hF:mV K a0 a1=some r):Ct Tryz.prog 227 [.vc (pS aC.cod a0),.vc (pI .i64 a1)] (.vc (pB r)):=by
 unfold mV at hF
 refine aJ Tryz.func227 rfl (by kernel_rfl) Tryz.ntmps227 rfl (fun w0 M0=>?_)
 refine go ?_ ?_
 refine aP (bH (fun H E=>qB K=some r∧H=[]∧E=[]) ?_ (fun Jj4=>?_))
 ·rintro _ _ ⟨hF,rfl,rfl⟩
  unfold qB at hF
  exact bN
 obtain⟨ol3,hL,hRl3⟩:=aV hF
 refine eM (fun k a w=>∃(x2:Int),gL K a0 a1 k x2=some ol3∧hs _ [] [(0,.vc (pS aC.cod a0)),(1,.vc (pI .i64 a1)),(5,.vc (pI .i64 x2))] a w) K (fun a w ⟨_,hF,_⟩=>by cases hF) (fun k a w ⟨x2,hF,hh⟩=>eK ?_ hh) (fun a w hh=>⟨0,hL,dS [] hh⟩)
 rw [gL.eq_2] at hF
 refine go ?_ ?_
 refine aK hF rfl (fun h5 hF=>?_) (fun h5 hF=>?_)
 ·refine go ?_ ?_
  refine aP (aO ?_)
  obtain⟨v8,h9,hF⟩:=aV hF
  obtain⟨v10,h11,hF⟩:=aZ hF oR
  rcases Bool.eq_false_or_eq_true (!v10) with h12|h12
  ·have hF:=tD h12 hF
   refine drb (0::0::3::7::15::31::63::127::255::255::1023::2047::4095::8191::16383::32767::65535::65535::262143::524287::1048575::65535::4194303::8388607::16777215::33554431::67108863::134217727::268435455::268435455::1073741823::2147483647::4294967295::268435455::268435455::17448304639::51808043007::129117454335::266556407807::541434314751::1099511627775::2199023255551::4398046511103::[]) 43 0 ?_ (fun bs7 G6=>?_)
   refine bC (aQ (gH rfl ?_))
   exact bN
  have hF:=tE h12 hF
  have hF:=nP h9 hF
  rcases Bool.eq_false_or_eq_true (decide (v8.dof<0)) with h15|h15
  ·have hF:=tD h15 hF
   refine drb (0::0::3::7::15::31::63::127::255::255::1023::2047::4095::8191::16383::32767::65535::65535::262143::524287::1048575::65535::4194303::8388607::16777215::33554431::67108863::134217727::268435455::268435455::1073741823::2147483647::4294967295::268435455::268435455::17448304639::51808043007::129117454335::266556407807::541434314751::1099511627775::2199023255551::4398046511103::[]) 43 0 ?_ (fun bs7 G6=>?_)
   refine bC (aQ (gH rfl ?_))
   exact bN
  have hF:=tE h15 hF
  have hF:=nP h9 hF
  rcases Bool.eq_false_or_eq_true (decide (a1≤v8.dof)) with h18|h18
  ·have hF:=tD h18 hF
   refine drb (0::0::3::7::15::31::63::127::255::255::1023::2047::4095::8191::16383::32767::65535::65535::262143::524287::1048575::65535::4194303::8388607::16777215::33554431::67108863::134217727::268435455::268435455::1073741823::2147483647::4294967295::268435455::268435455::17448304639::51808043007::129117454335::266556407807::541434314751::1099511627775::2199023255551::4398046511103::[]) 43 0 ?_ (fun bs7 G6=>?_)
   refine bC (aQ (gH rfl ?_))
   exact bN
  have hF:=tE h18 hF
  rcases Bool.eq_false_or_eq_true (decide (0<x2)) with h19|h19
  ·have hF:=tD h19 hF
   have hF:=nP h9 hF
   obtain⟨v22,h23,hF⟩:=aV hF
   obtain⟨v24,h25,hF⟩:=aV hF
   refine drb (0::0::3::7::15::31::63::127::255::255::1023::2047::4095::8191::16383::32767::65535::65535::262143::524287::1048575::65535::4194303::8388607::16777215::33554431::67108863::134217727::268435455::268435455::1073741823::2147483647::4294967295::268435455::268435455::17448304639::51808043007::129117454335::266556407807::541434314751::1099511627775::2199023255551::4398046511103::[]) 43 0 ?_ (fun bs7 G6=>?_)
   refine bC (aQ (aK hF rfl (fun h26 hF=>?_) (fun h26 hF=>?_)))
   ·exact bN
   obtain⟨v27,h28,hF⟩:=aV hF
   refine go ?_ ?_
   exact aN (fun a w hh=>⟨v27,hF,dS [] hh⟩)
  have hF:=tE h19 hF
  refine drb (0::0::3::7::15::31::63::127::255::255::1023::2047::4095::8191::16383::32767::65535::65535::262143::524287::1048575::65535::4194303::8388607::16777215::33554431::67108863::134217727::268435455::268435455::1073741823::2147483647::4294967295::268435455::268435455::17448304639::51808043007::129117454335::266556407807::541434314751::1099511627775::2199023255551::4398046511103::[]) 43 0 ?_ (fun bs7 G6=>?_)
  refine bC (aQ (tW rfl ?_))
  obtain⟨v29,h30,hF⟩:=aV hF
  refine go ?_ ?_
  exact aN (fun a w hh=>⟨v29,hF,dS [] hh⟩)
 refine bY ?_
 obtain rfl:=l7 hF
 exact m5 Jj4 ⟨hRl3,rfl,rfl⟩ []
def n9 (K:Nat):Option Bool:=
 some true
def gW (K:Nat) (a0:List aF) (a3:List aA):Nat→Int→Option (LR Bool Unit)
 |0,_=>none
 |k+1,x15=>bif(decide (x15<(a3.length:Int))) then((bU a3 x15).bind fun v19=>(mV K v19.j (a0.length:Int)).bind fun v21=>bif(!v21) then(some (.ret false)) else((bU a3 x15).bind fun v24=>(mV K v24.t (a0.length:Int)).bind fun v26=>bif(!v26) then(some (.ret false)) else((bU a3 x15).bind fun v29=>(aBv v29.mu).bind fun v31=>bif(!v31) then(some (.ret false)) else((bU a3 x15).bind fun v34=>(xV v34.mu).bind fun v36=>bif(decide (v36<0)) then(some (.ret false)) else((aY (x15+1)).bind fun v39=>gW K a0 a3 k v39))))) else(some (.go ()))
def oA (K:Nat) (a0:List aF) (a3:List aA):Option Bool:=
 (gW K a0 a3 K 0).bind fun o=>match o with| .ret r=>some r| .go _=>n9 K
def gZ (K:Nat) (a0:List aF):Nat→Int→Option (LR Bool Unit)
 |0,_=>none
 |k+1,x11=>bif(decide (x11<(a0.length:Int))) then((bU a0 x11).bind fun v42=>(aBv v42.inv).bind fun v44=>bif(!v44) then(some (.ret false)) else((bU a0 x11).bind fun v47=>(xV v47.inv).bind fun v49=>bif(decide (v49≤0)) then(some (.ret false)) else((aY (x11+1)).bind fun v52=>gZ K a0 k v52))) else(some (.go ()))
def r9 (K:Nat) (a0:List aF) (a1:List Rat) (a2:List Rat) (a3:List aA):Option Bool:=
 bif(decide (12<(a0.length:Int))) then(some false) else(bif((a1.length:Int) != (a0.length:Int)) then(some false) else(bif((a2.length:Int) != (a0.length:Int)) then(some false) else((nV K a1).bind fun v4=>bif(!v4) then(some false) else((nV K a2).bind fun v7=>bif(!v7) then(some false) else((gZ K a0 K 0).bind fun o=>match o with| .ret r=>some r| .go _=>oA K a0 a3)))))
theorem aA4 {K:Nat} {a0:List aF} {a1:List Rat} {a2:List Rat} {a3:List aA} {r:Bool} (hF:r9 K a0 a1 a2 a3=some r):Ct Tryz.prog 167 [.vc (pS aF.cod a0),.vc (pS cQ a1),.vc (pS cQ a2),.vc (pS aA.cod a3)] (.vc (pB r)):=by
 unfold r9 at hF
 refine aJ Tryz.func167 rfl (by kernel_rfl) Tryz.ntmps167 rfl (fun w0 M0=>?_)
 refine go ?_ ?_
 refine cU hF (fun h1 hF=>?_) (fun h1 hF=>?_)
 ·refine go ?_ ?_
  refine gH rfl ?_
  exact bN
 refine go ?_ ?_
 refine cU hF (fun h2 hF=>?_) (fun h2 hF=>?_)
 ·refine go ?_ ?_
  refine gH rfl ?_
  exact bN
 refine go ?_ ?_
 refine cU hF (fun h3 hF=>?_) (fun h3 hF=>?_)
 ·refine go ?_ ?_
  refine gH rfl ?_
  exact bN
 obtain⟨v4,h5,hF⟩:=aZ hF yH
 refine go ?_ ?_
 refine cU hF (fun h6 hF=>?_) (fun h6 hF=>?_)
 ·refine go ?_ ?_
  refine gH rfl ?_
  exact bN
 obtain⟨v7,h8,hF⟩:=aZ hF yH
 refine go ?_ ?_
 refine aK hF rfl (fun h9 hF=>?_) (fun h9 hF=>?_)
 ·exact bN
 refine go ?_ ?_
 refine aP (bH (fun H E=>oA K a0 a3=some r∧H=[]∧E=[(0,.vc (pS aF.cod a0)),(3,.vc (pS aA.cod a3))]) ?_ (fun Jj13=>?_))
 ·rintro _ _ ⟨hF,rfl,rfl⟩
  unfold oA at hF
  refine go ?_ ?_
  refine aP (bH (fun H E=>n9 K=some r∧H=[]∧E=[]) ?_ (fun Jj17=>?_))
  ·rintro _ _ ⟨hF,rfl,rfl⟩
   unfold n9 at hF
   exact bN
  obtain⟨ol16,hL,hRl16⟩:=aV hF
  refine eM (fun k a w=>∃(x15:Int),gW K a0 a3 k x15=some ol16∧hs _ [] [(0,.vc (pS aF.cod a0)),(3,.vc (pS aA.cod a3)),(10,.vc (pI .i64 x15))] a w) K (fun a w ⟨_,hF,_⟩=>by cases hF) (fun k a w ⟨x15,hF,hh⟩=>eK ?_ hh) (fun a w hh=>⟨0,hL,dS [] hh⟩)
  rw [gW.eq_2] at hF
  refine go ?_ ?_
  refine aK hF rfl (fun h18 hF=>?_) (fun h18 hF=>?_)
  ·refine go ?_ ?_
   refine aP ?_
   obtain⟨v19,h20,hF⟩:=aV hF
   obtain⟨v21,h22,hF⟩:=aZ hF xS
   refine go ?_ ?_
   refine cU hF (fun h23 hF=>?_) (fun h23 hF=>?_)
   ·refine go ?_ ?_
    refine gH rfl ?_
    exact bN
   have hF:=nP h20 hF
   obtain⟨v26,h27,hF⟩:=aZ hF xS
   refine go ?_ ?_
   refine cU hF (fun h28 hF=>?_) (fun h28 hF=>?_)
   ·refine go ?_ ?_
    refine gH rfl ?_
    exact bN
   have hF:=nP h20 hF
   obtain⟨v31,h32,hF⟩:=aZ hF oR
   refine go ?_ ?_
   refine aK hF rfl (fun h33 hF=>?_) (fun h33 hF=>?_)
   ·exact bN
   have hF:=nP h20 hF
   obtain⟨v36,h37,hF⟩:=aZ hF jJ
   refine go ?_ ?_
   refine aK hF rfl (fun h38 hF=>?_) (fun h38 hF=>?_)
   ·exact bN
   obtain⟨v39,h40,hF⟩:=aV hF
   refine go ?_ ?_
   exact aN (fun a w hh=>⟨v39,hF,dS [] hh⟩)
  refine bY ?_
  obtain rfl:=l7 hF
  exact m5 Jj17 ⟨hRl16,rfl,rfl⟩ []
 obtain⟨ol12,hL,hRl12⟩:=aV hF
 refine eM (fun k a w=>∃(x11:Int),gZ K a0 k x11=some ol12∧hs _ [] [(0,.vc (pS aF.cod a0)),(3,.vc (pS aA.cod a3)),(9,.vc (pI .i64 x11))] a w) K (fun a w ⟨_,hF,_⟩=>by cases hF) (fun k a w ⟨x11,hF,hh⟩=>eK ?_ hh) (fun a w hh=>⟨0,hL,dS [] hh⟩)
 rw [gZ.eq_2] at hF
 refine go ?_ ?_
 refine aK hF rfl (fun h41 hF=>?_) (fun h41 hF=>?_)
 ·refine go ?_ ?_
  refine aP ?_
  obtain⟨v42,h43,hF⟩:=aV hF
  obtain⟨v44,h45,hF⟩:=aZ hF oR
  refine go ?_ ?_
  refine aK hF rfl (fun h46 hF=>?_) (fun h46 hF=>?_)
  ·exact bN
  have hF:=nP h43 hF
  obtain⟨v49,h50,hF⟩:=aZ hF jJ
  refine go ?_ ?_
  refine aK hF rfl (fun h51 hF=>?_) (fun h51 hF=>?_)
  ·exact bN
  obtain⟨v52,h53,hF⟩:=aV hF
  refine go ?_ ?_
  exact aN (fun a w hh=>⟨v52,hF,dS [] hh⟩)
 refine bY ?_
 obtain rfl:=l7 hF
 exact m5 Jj13 ⟨hRl12,rfl,rfl⟩ []
def sH (K:Nat):Option Bool:=
 some true
def kL (K:Nat) (a2:List Rat) (a3:List aA):Nat→Int→Option (LR Bool Unit)
 |0,_=>none
 |k+1,x5=>bif(decide (x5<(a3.length:Int))) then((bU a3 x5).bind fun v9=>(gT K v9.j a2).bind fun v11=>(xV v11).bind fun v13=>bif(v13 != 0) then(some (.ret false)) else((aY (x5+1)).bind fun v16=>kL K a2 a3 k v16)) else(some (.go ()))
def o6 (K:Nat) (a0:List aF) (a1:List Rat) (a2:List Rat) (a3:List aA):Option Bool:=
 (r9 K a0 a1 a2 a3).bind fun v1=>bif(!v1) then(some false) else((kL K a2 a3 K 0).bind fun o=>match o with| .ret r=>some r| .go _=>sH K)
theorem y5 {K:Nat} {a0:List aF} {a1:List Rat} {a2:List Rat} {a3:List aA} {r:Bool} (hF:o6 K a0 a1 a2 a3=some r):Ct Tryz.prog 81 [.vc (pS aF.cod a0),.vc (pS cQ a1),.vc (pS cQ a2),.vc (pS aA.cod a3)] (.vc (pB r)):=by
 unfold o6 at hF
 refine aJ Tryz.func81 rfl (by kernel_rfl) Tryz.ntmps81 rfl (fun w0 M0=>?_)
 obtain⟨v1,h2,hF⟩:=aZ hF aA4
 refine go ?_ ?_
 refine aK hF rfl (fun h3 hF=>?_) (fun h3 hF=>?_)
 ·exact bN
 refine go ?_ ?_
 refine aP (bH (fun H E=>sH K=some r∧H=[]∧E=[]) ?_ (fun Jj7=>?_))
 ·rintro _ _ ⟨hF,rfl,rfl⟩
  unfold sH at hF
  exact bN
 obtain⟨ol6,hL,hRl6⟩:=aV hF
 refine eM (fun k a w=>∃(x5:Int),kL K a2 a3 k x5=some ol6∧hs _ [] [(2,.vc (pS cQ a2)),(3,.vc (pS aA.cod a3)),(9,.vc (pI .i64 x5))] a w) K (fun a w ⟨_,hF,_⟩=>by cases hF) (fun k a w ⟨x5,hF,hh⟩=>eK ?_ hh) (fun a w hh=>⟨0,hL,dS [] hh⟩)
 rw [kL.eq_2] at hF
 refine go ?_ ?_
 refine aK hF rfl (fun h8 hF=>?_) (fun h8 hF=>?_)
 ·refine go ?_ ?_
  refine aP ?_
  obtain⟨v9,h10,hF⟩:=aV hF
  obtain⟨v11,h12,hF⟩:=aZ hF p7
  obtain⟨v13,h14,hF⟩:=aZ hF jJ
  refine go ?_ ?_
  refine aK hF rfl (fun h15 hF=>?_) (fun h15 hF=>?_)
  ·exact bN
  obtain⟨v16,h17,hF⟩:=aV hF
  refine go ?_ ?_
  exact aN (fun a w hh=>⟨v16,hF,dS [] hh⟩)
 refine bY ?_
 obtain rfl:=l7 hF
 exact m5 Jj7 ⟨hRl6,rfl,rfl⟩ []
def nY (K:Nat) (a0:aA) (a1:List Rat):Option Int:=
 (gT K a0.t a1).bind fun v2=>(xV v2).bind fun v4=>some v4
theorem yI {K:Nat} {a0:aA} {a1:List Rat} {r:Int} (hF:nY K a0 a1=some r):Ct Tryz.prog 171 [.va (aA.enc a0),.vc (pS cQ a1)] (.vc (pI .i64 r)):=by
 unfold nY at hF
 refine aJ Tryz.func171 rfl (by kernel_rfl) Tryz.ntmps171 rfl (fun w0 M0=>?_)
 refine aO (aT (cB rfl rfl trivial (fun b1=>?_)))
 obtain⟨v2,h3,hF⟩:=aZ hF p7
 obtain⟨v4,h5,hF⟩:=aZ hF jJ
 exact bN
def vS (K:Nat) (c0:List Rat) (c1:List Rat) (a0:aA):Option Bool:=
 (iS K a0.t c0).bind fun v2=>(iS K a0.t c1).bind fun v7=>(aCu v2 v7).bind fun v9=>(aAg v2 v9).bind fun v11=>(xV v11).bind fun v13=>some (decide (v13<0))
theorem aDH {K:Nat} {c0:List Rat} {c1:List Rat} {a0:aA} {r:Bool} (hF:vS K c0 c1 a0=some r):Ct Tryz.prog 91 [.va (aA.enc a0),.vc (pM ((mZ cQ).e c0)),.vc (pM ((mZ cQ).e c1))] (.vc (pB r)):=by
 unfold vS at hF
 refine aJ Tryz.func91 rfl (by kernel_rfl) Tryz.ntmps91 rfl (fun w0 M0=>?_)
 refine aO (aT (cB rfl rfl trivial (fun b1=>?_)))
 obtain⟨v2,h3,hF⟩:=aZ hF lM
 refine go ?_ ?_
 refine aS rfl tyZ44q (fun b4=>?_)
 obtain⟨v7,h8,hF⟩:=aZ hF lM
 obtain⟨v9,h10,hF⟩:=aZ hF xG
 obtain⟨v11,h12,hF⟩:=aZ hF tQ
 obtain⟨v13,h14,hF⟩:=aZ hF lD
 refine go ?_ ?_
 refine dr [0,0,0,4,0,28,62,127,255,511,1023] 11 0 ?_ (fun bs6 G5=>?_)
 refine bC (aQ ?_)
 exact bN
def z8 (K:Nat) (a0:List Rat) (a1:List Rat) (a2:List aA):Option Bool:=
 (gA K a2 (vS K a0 a1)).bind fun v3=>some (!v3)
theorem aFf {K:Nat} {a0:List Rat} {a1:List Rat} {a2:List aA} {r:Bool} (hF:z8 K a0 a1 a2=some r):Ct Tryz.prog 27 [.vc (pS cQ a0),.vc (pS cQ a1),.vc (pS aA.cod a2)] (.vc (pB r)):=by
 unfold z8 at hF
 refine aJ Tryz.func27 rfl (by kernel_rfl) Tryz.ntmps27 rfl (fun w0 M0=>?_)
 refine aO (aT (cB rfl rfl trivial (fun b1=>?_)))
 refine cB rfl rfl trivial (fun b2=>?_)
 refine aU (bA (.inr rfl)) ⟨k_B _,trivial⟩ ?_
 refine bC (aQ (aO (aT (fY ?_))))
 refine aKq 1 [(3,0)] rfl zU1 rfl ?_
 refine aKq 0 [(4,0)] rfl zU1 rfl ?_
 refine aU (aOR (φ:=(vS K a0 a1)) (pre:=fun x:aA=>[.va (aA.enc x)]) (post:=fun r:Bool=>.vc (pB r)) (xs:=[.tmp 3,.tmp 4]) (cs:=[pM ((mZ cQ).e a0),pM ((mZ cQ).e a1)]) rfl rfl (fun x r h=>aDH h)) zU2 ?_
 obtain⟨v3,h4,hF⟩:=aZ hF uR
 exact bN
def mU (a0:Int) (a1:Int) (a2:Int) (a3:Int):Option aH:=
 (qof 1 2).bind fun v2=>(qof 1 1).bind fun v5=>(qof 1 2).bind fun v10=>(qof a0 a2).bind fun v14=>(qof a1 1).bind fun v16=>(qof a3 1).bind fun v18=>some (⟨[(⟨v2,0,false,0,0⟩:aF),(⟨v2,0,false,0,0⟩:aF)],[v14,v16],[v18,0],[(⟨0,0,0,0,0,[(⟨1,v5⟩:aC)],[(⟨0,v5⟩:aC)],v10,0⟩:aA)]⟩:aH)
theorem sI {a0:Int} {a1:Int} {a2:Int} {a3:Int} {r:aH} (hF:mU a0 a1 a2 a3=some r):Ct Tryz.prog 88 [.vc (pI .i64 a0),.vc (pI .i64 a1),.vc (pI .i64 a2),.vc (pI .i64 a3)] (.va (aH.enc r)):=by
 unfold mU at hF
 refine aJ Tryz.func88 rfl (by kernel_rfl) Tryz.ntmps88 rfl (fun w0 M0=>?_)
 refine aO (aT (aS rfl tyZ27q (fun b1=>?_)))
 obtain⟨v2,h3,hF⟩:=aZ hF bP
 refine go ?_ ?_
 refine aU (cA (is:=[0]) (xs:=[.tmp 12]) (ps:=[.va (eQ v2)]) rfl tyB108q rfl rfl ⟨trivial,trivial⟩ rfl) zU1 ?_
 refine aS rfl tyZ108q (fun b4=>?_)
 obtain⟨v5,h6,hF⟩:=aZ hF bP
 refine go ?_ ?_
 refine aS rfl tyZ44q (fun b7=>?_)
 obtain⟨v10,h11,hF⟩:=aZ hF bP
 refine go ?_ ?_
 refine hY [0,1,3,0,8,24,0,127,0,511] 9 1 [.v (.va (eQ v5)),.v (.va ([pI .i64 1]++(eQ v5))),.v (.vc (pS aC.cod [(⟨1,v5⟩:aC)])),.v (.va (eQ v5)),.v (.va ([pI .i64 0]++(eQ v5))),.v (.vc (pS aC.cod [(⟨0,v5⟩:aC)])),.v (.va (eQ v10)),.v (.va ([pI .i64 0]++[pI .i64 0]++[pI .i64 0]++[pI .i64 0]++(eQ 0)++[pS aC.cod [(⟨1,v5⟩:aC)]]++[pS aC.cod [(⟨0,v5⟩:aC)]]++(eQ v10)++(eQ 0))),.a 51 ([pI .i64 0]++[pI .i64 0]++[pI .i64 0]++[pI .i64 0]++(eQ 0)++[pS aC.cod ([]:List aC)]++[pS aC.cod ([]:List aC)]++(eQ 0)++(eQ 0))] a9 ⟨d0 (eW 0 4 rfl rfl rfl rfl (.agg tyA44)) zU1,d0 (cA (is:=[0,1]) (xs:=[.const (.int .i64 (1)),.tmp 15]) (ps:=[.vc (pI .i64 1),.va (eQ v5)]) rfl tyB92q rfl rfl ⟨trivial,trivial,trivial⟩ rfl) ⟨jC _ _,rfl,trivial⟩,d0 (hU (C:=aC.cod) (xs:=[.tmp 16]) (ps:=[.va ([pI .i64 1]++(eQ v5))]) (zs:=[(⟨1,v5⟩:aC)]) rfl tyS49 rfl ⟨⟨trivial,rfl⟩,trivial⟩ rfl) zU1,d0 (eW 0 4 rfl rfl rfl rfl (.agg tyA44)) zU1,d0 (cA (is:=[0,1]) (xs:=[.const (.int .i64 (0)),.tmp 18]) (ps:=[.vc (pI .i64 0),.va (eQ v5)]) rfl tyB92q rfl rfl ⟨trivial,trivial,trivial⟩ rfl) ⟨jC _ _,rfl,trivial⟩,d0 (hU (C:=aC.cod) (xs:=[.tmp 19]) (ps:=[.va ([pI .i64 0]++(eQ v5))]) (zs:=[(⟨0,v5⟩:aC)]) rfl tyS49 rfl ⟨⟨trivial,rfl⟩,trivial⟩ rfl) zU1,d0 (bF rfl h11 rfl) ⟨jC _ _,jC _ _,trivial⟩,d0 (cA (is:=[5,6,7]) (xs:=[.tmp 17,.tmp 20,.tmp 21]) (ps:=[.vc (pS aC.cod [(⟨1,v5⟩:aC)]),.vc (pS aC.cod [(⟨0,v5⟩:aC)]),.va (eQ v10)]) rfl tyB51q rfl rfl ⟨trivial,trivial,trivial,trivial⟩ rfl) ⟨rfl,rfl,rfl,trivial⟩,⟨rfl,.alc tyZ51q⟩,trivial⟩ (fun bs9 G8=>?_)
 obtain⟨v14,h15,hF⟩:=aZ hF bP
 obtain⟨v16,h17,hF⟩:=aZ hF bP
 obtain⟨v18,h19,hF⟩:=aZ hF bP
 refine go ?_ ?_
 refine hY [0,0,3,0,0,24,0,120,248,0,760,0,3832,0,8192,32767,65535] 16 1 [.v (.va ((eQ v2)++(eQ 0)++[pB false]++(eQ 0)++(eQ 0))),.v (.va ((eQ v2)++(eQ 0)++[pB false]++(eQ 0)++(eQ 0))),.v (.vc (pS aF.cod [(⟨v2,0,false,0,0⟩:aF),(⟨v2,0,false,0,0⟩:aF)])),.v (.vc (pI .i64 a0)),.v (.vc (pI .i64 a2)),.v (.va (eQ v14)),.v (.vc (pI .i64 a1)),.v (.va (eQ v16)),.v (.vc (pS cQ [v14,v16])),.v (.vc (pI .i64 a3)),.v (.va (eQ v18)),.v (.va (eQ 0)),.v (.vc (pS cQ [v18,0])),.v (.va ([pI .i64 0]++[pI .i64 0]++[pI .i64 0]++[pI .i64 0]++(eQ 0)++[pS aC.cod [(⟨1,v5⟩:aC)]]++[pS aC.cod [(⟨0,v5⟩:aC)]]++(eQ v10)++(eQ 0))),.v (.vc (pS aA.cod [(⟨0,0,0,0,0,[(⟨1,v5⟩:aC)],[(⟨0,v5⟩:aC)],v10,0⟩:aA)])),.v (.va ([pS aF.cod [(⟨v2,0,false,0,0⟩:aF),(⟨v2,0,false,0,0⟩:aF)]]++[pS cQ [v14,v16]]++[pS cQ [v18,0]]++[pS aA.cod [(⟨0,0,0,0,0,[(⟨1,v5⟩:aC)],[(⟨0,v5⟩:aC)],v10,0⟩:aA)]]))] a9 ⟨d0 (eW 2 17 rfl rfl rfl rfl (.agg tyA108)) zU1,d0 (eW 2 17 rfl rfl rfl rfl (.agg tyA108)) zU1,d0 (hU (C:=aF.cod) (xs:=[.tmp 23,.tmp 24]) (ps:=[.va ((eQ v2)++(eQ 0)++[pB false]++(eQ 0)++(eQ 0)),.va ((eQ v2)++(eQ 0)++[pB false]++(eQ 0)++(eQ 0))]) (zs:=[(⟨v2,0,false,0,0⟩:aF),(⟨v2,0,false,0,0⟩:aF)]) rfl tyS23 rfl ⟨⟨trivial,rfl⟩,⟨trivial,rfl⟩,trivial⟩ rfl) zU2,d0 (bA (.inl rfl)) zU1,d0 (bA (.inl rfl)) zU1,d0 (bF rfl h15 rfl) zU2,d0 (bA (.inl rfl)) zU1,d0 (bF rfl h17 rfl) ⟨rfl,jC _ _,trivial⟩,d0 (hU (C:=cQ) (xs:=[.tmp 28,.tmp 30]) (ps:=[.va (eQ v14),.va (eQ v16)]) (zs:=[v14,v16]) rfl tyS24 rfl ⟨⟨trivial,rfl⟩,⟨trivial,rfl⟩,trivial⟩ rfl) zU2,d0 (bA (.inl rfl)) zU1,d0 (bF rfl h19 rfl) ⟨rfl,jC _ _,trivial⟩,d0 (cA (is:=[]) (xs:=[]) (ps:=[]) rfl tyB44q rfl rfl trivial rfl) trivial,d0 (hU (C:=cQ) (xs:=[.tmp 33,.tmp 34]) (ps:=[.va (eQ v18),.va (eQ 0)]) (zs:=[v18,0]) rfl tyS24 rfl ⟨⟨trivial,rfl⟩,⟨trivial,rfl⟩,trivial⟩ rfl) zU2,d0 (eW 0 18 rfl rfl rfl rfl (.agg tyA51)) zU1,d0 (hU (C:=aA.cod) (xs:=[.tmp 36]) (ps:=[.va ([pI .i64 0]++[pI .i64 0]++[pI .i64 0]++[pI .i64 0]++(eQ 0)++[pS aC.cod [(⟨1,v5⟩:aC)]]++[pS aC.cod [(⟨0,v5⟩:aC)]]++(eQ v10)++(eQ 0))]) (zs:=[(⟨0,0,0,0,0,[(⟨1,v5⟩:aC)],[(⟨0,v5⟩:aC)],v10,0⟩:aA)]) rfl tyS25 rfl ⟨⟨trivial,rfl⟩,trivial⟩ rfl) zU1,d0 (cA (is:=[0,1,2,3]) (xs:=[.tmp 25,.tmp 31,.tmp 35,.tmp 37]) (ps:=[.vc (pS aF.cod [(⟨v2,0,false,0,0⟩:aF),(⟨v2,0,false,0,0⟩:aF)]),.vc (pS cQ [v14,v16]),.vc (pS cQ [v18,0]),.vc (pS aA.cod [(⟨0,0,0,0,0,[(⟨1,v5⟩:aC)],[(⟨0,v5⟩:aC)],v10,0⟩:aA)])]) rfl tyB27q rfl rfl ⟨trivial,trivial,trivial,trivial,trivial⟩ rfl) ⟨rfl,rfl,rfl,rfl,trivial⟩,trivial⟩ (fun bs13 G12=>?_)
 exact bN
def mQ (K:Nat) (a0:aH) (a1:Rat) (a2:Rat) (a3:Rat) (a4:Rat):Option Bool:=
 (fX K a0.dofs a0.load a0.v a0.rows).bind fun v6=>bif(v6.2.2 != 0) then(some false) else(bif((v6.1.length:Int) != 2) then(some false) else(bif((v6.2.1.length:Int) != 1) then(some false) else((bU v6.1 0).bind fun v13=>(xU v13 a1).bind fun v15=>bif v15 then((bU v6.1 1).bind fun v18=>(xU v18 a2).bind fun v20=>bif v20 then((bU v6.2.1 0).bind fun v23=>(xU v23.n a3).bind fun v25=>bif v25 then((bU v6.2.1 0).bind fun v28=>(xU v28.f a4).bind fun v30=>some v30) else(some false)) else(some false)) else(some false))))
theorem sA {K:Nat} {a0:aH} {a1:Rat} {a2:Rat} {a3:Rat} {a4:Rat} {r:Bool} (hF:mQ K a0 a1 a2 a3 a4=some r):Ct Tryz.prog 89 [.va (aH.enc a0),.va (eQ a1),.va (eQ a2),.va (eQ a3),.va (eQ a4)] (.vc (pB r)):=by
 unfold mQ at hF
 refine aJ Tryz.func89 rfl (by kernel_rfl) Tryz.ntmps89 rfl (fun w0 M0=>?_)
 refine aO (aT (cB rfl rfl trivial (fun b1=>?_)))
 refine cB rfl rfl trivial (fun b2=>?_)
 refine cB rfl rfl trivial (fun b3=>?_)
 refine cB rfl rfl trivial (fun b4=>?_)
 refine cB rfl rfl trivial (fun b5=>?_)
 obtain⟨v6,h7,hF⟩:=aZ hF qU
 refine go ?_ ?_
 refine cU hF (fun h8 hF=>?_) (fun h8 hF=>?_)
 ·refine go ?_ ?_
  refine gH rfl ?_
  exact bN
 refine go ?_ ?_
 refine cU hF (fun h9 hF=>?_) (fun h9 hF=>?_)
 ·refine go ?_ ?_
  refine gH rfl ?_
  exact bN
 refine go ?_ ?_
 refine aK hF rfl (fun h10 hF=>?_) (fun h10 hF=>?_)
 ·exact bN
 obtain⟨v13,h14,hF⟩:=aV hF
 obtain⟨v15,h16,hF⟩:=aZ hF sJ
 refine go ?_ ?_
 rcases Bool.eq_false_or_eq_true v15 with h17|h17
 ·have hF:=tD h17 hF
  obtain⟨v18,h19,hF⟩:=aV hF
  obtain⟨v20,h21,hF⟩:=aZ hF sJ
  rcases Bool.eq_false_or_eq_true v20 with h22|h22
  ·have hF:=tD h22 hF
   obtain⟨v23,h24,hF⟩:=aV hF
   obtain⟨v25,h26,hF⟩:=aZ hF sJ
   rcases Bool.eq_false_or_eq_true v25 with h27|h27
   ·have hF:=tD h27 hF
    have hF:=nP h24 hF
    obtain⟨v30,h31,hF⟩:=aZ hF sJ
    refine drb (0::1::3::0::15::31::63::127::255::63::1023::2047::4095::8191::16383::32767::65535::8191::262143::524287::1048575::2097151::4194303::8388607::16777215::2097151::67108863::134217727::268435455::[]) 29 0 ?_ (fun bs12 G11=>?_)
    refine bC (aQ ?_)
    exact bN
   have hF:=tE h27 hF
   refine drb (0::1::3::0::15::31::63::127::255::63::1023::2047::4095::8191::16383::32767::65535::8191::262143::524287::1048575::2097151::4194303::8388607::16777215::2097151::67108863::134217727::268435455::[]) 29 0 ?_ (fun bs12 G11=>?_)
   refine bC (aQ ?_)
   exact bN
  have hF:=tE h22 hF
  refine drb (0::1::3::0::15::31::63::127::255::63::1023::2047::4095::8191::16383::32767::65535::8191::262143::524287::1048575::2097151::4194303::8388607::16777215::2097151::67108863::134217727::268435455::[]) 29 0 ?_ (fun bs12 G11=>?_)
  refine bC (aQ ?_)
  exact bN
 have hF:=tE h17 hF
 refine drb (0::1::3::0::15::31::63::127::255::63::1023::2047::4095::8191::16383::32767::65535::8191::262143::524287::1048575::2097151::4194303::8388607::16777215::2097151::67108863::134217727::268435455::[]) 29 0 ?_ (fun bs12 G11=>?_)
 refine bC (aQ ?_)
 exact bN
def pU (K:Nat):Option Bool:=
 (qof 1 1).bind fun v2=>(qof (-1) 2).bind fun v5=>(mU 0 (-1) 1 1).bind fun v8=>(fX K v8.dofs v8.load v8.v v8.rows).bind fun v11=>(mU 1 (-1) 4 0).bind fun v15=>(qof (-1) 4).bind fun v17=>(mQ K v15 0 0 v2 v17).bind fun v19=>bif v19 then((mU 1 (-1) 1 0).bind fun v22=>(qof 1 4).bind fun v24=>(mQ K v22 v24 0 v2 v5).bind fun v26=>bif v26 then((mU 0 1 1 0).bind fun v29=>(qof 1 2).bind fun v31=>(mQ K v29 0 v31 0 0).bind fun v33=>bif v33 then((qof (-1) 4).bind fun v36=>(mQ K v8 v36 0 v2 v5).bind fun v38=>bif v38 then(bif(v11.2.2==0) then((z8 K v8.v v11.1 v8.rows).bind fun v42=>bif v42 then((zZ K v8.dofs v8.load v8.v v8.rows v11.1 v11.2.1).bind fun v45=>some (v45==0)) else(some false)) else(some false)) else(some false)) else(some false)) else(some false)) else(some false)
theorem xW {K:Nat} {r:Bool} (hF:pU K=some r):Ct Tryz.prog 23 [] (.vc (pB r)):=by
 unfold pU at hF
 refine aJ Tryz.func23 rfl (by kernel_rfl) Tryz.ntmps23 rfl (fun w0 M0=>?_)
 refine go ?_ ?_
 refine aS rfl tyZ44q (fun b1=>?_)
 obtain⟨v2,h3,hF⟩:=aZ hF bP
 refine go ?_ ?_
 refine aS rfl tyZ44q (fun b4=>?_)
 obtain⟨v5,h6,hF⟩:=aZ hF bP
 refine go ?_ ?_
 refine aS rfl tyZ44q (fun b7=>?_)
 obtain⟨v8,h9,hF⟩:=aZ hF sI
 refine go ?_ ?_
 refine aS rfl tyZ27q (fun b10=>?_)
 obtain⟨v11,h12,hF⟩:=aZ hF qU
 obtain⟨v15,h16,hF⟩:=aZ hF sI
 obtain⟨v17,h18,hF⟩:=aZ hF bP
 obtain⟨v19,h20,hF⟩:=aZ hF sA
 refine go ?_ ?_
 rcases Bool.eq_false_or_eq_true v19 with h21|h21
 ·have hF:=tD h21 hF
  obtain⟨v22,h23,hF⟩:=aZ hF sI
  obtain⟨v24,h25,hF⟩:=aZ hF bP
  obtain⟨v26,h27,hF⟩:=aZ hF sA
  rcases Bool.eq_false_or_eq_true v26 with h28|h28
  ·have hF:=tD h28 hF
   obtain⟨v29,h30,hF⟩:=aZ hF sI
   obtain⟨v31,h32,hF⟩:=aZ hF bP
   obtain⟨v33,h34,hF⟩:=aZ hF sA
   rcases Bool.eq_false_or_eq_true v33 with h35|h35
   ·have hF:=tD h35 hF
    obtain⟨v36,h37,hF⟩:=aZ hF bP
    obtain⟨v38,h39,hF⟩:=aZ hF sA
    refine hY (0::0::0::0::1::31::63::127::255::127::127::127::4095::8191::16383::32767::32767::65535::32767::32767::1048575::2097151::4194303::8388607::8388607::8388607::8388607::8388607::268435455::536870911::1073741823::[]) 31 0 (.v (.va (aH.enc v15))::.v (.va (eQ 0))::.v (.va (eQ 0))::.v (.va (eQ v2))::.v (.va (eQ v17))::.v (.vc (pB v19))::.v (.vc (pB true))::.v (.va (aH.enc v22))::.v (.va (eQ v24))::.v (.va (eQ 0))::.v (.va (eQ v2))::.v (.va (eQ v5))::.v (.vc (pB v26))::.v (.vc (pB v26))::.v (.vc (pB true))::.v (.va (aH.enc v29))::.v (.va (eQ 0))::.v (.va (eQ v31))::.v (.va (eQ 0))::.v (.va (eQ 0))::.v (.vc (pB v33))::.v (.vc (pB v33))::.v (.vc (pB true))::.v (.va (aH.enc v8))::.v (.va (eQ v36))::.v (.va (eQ 0))::.v (.va (eQ v2))::.v (.va (eQ v5))::.v (.vc (pB v38))::.v (.vc (pB v38))::.v (.vc (pB v38))::[]) a9 ⟨d0 (bF rfl h16 rfl) ⟨jC _ _,jC _ _,jC _ _,jC _ _,trivial⟩,d0 (eW 3 4 rfl rfl rfl rfl (.agg tyA44)) zU1,d0 (eW 3 4 rfl rfl rfl rfl (.agg tyA44)) zU1,d0 (eW 2 4 rfl rfl rfl rfl (.agg tyA44)) zU1,d0 (bF rfl h18 rfl) ⟨jC _ _,jC _ _,trivial⟩,d0 (bF rfl h20 rfl) ⟨rfl,rfl,rfl,rfl,rfl,trivial⟩,d0 (lY (bA (.inl rfl)) h21) zU1,g0 (bF rfl h23 rfl) ⟨jC _ _,jC _ _,jC _ _,jC _ _,trivial⟩,g0 (bF rfl h25 rfl) ⟨jC _ _,jC _ _,trivial⟩,g0 (eW 3 4 rfl rfl rfl rfl (.agg tyA44)) zU1,g0 (eW 2 4 rfl rfl rfl rfl (.agg tyA44)) zU1,g0 (eW 1 4 rfl rfl rfl rfl (.agg tyA44)) zU1,g0 (bF rfl h27 rfl) ⟨rfl,rfl,rfl,rfl,rfl,trivial⟩,d0 (xN rfl) zU2,d0 (lY (bA (.inl rfl)) h28) zU1,g0 (bF rfl h30 rfl) ⟨jC _ _,jC _ _,jC _ _,jC _ _,trivial⟩,g0 (eW 3 4 rfl rfl rfl rfl (.agg tyA44)) zU1,g0 (bF rfl h32 rfl) ⟨jC _ _,jC _ _,trivial⟩,g0 (eW 3 4 rfl rfl rfl rfl (.agg tyA44)) zU1,g0 (eW 3 4 rfl rfl rfl rfl (.agg tyA44)) zU1,g0 (bF rfl h34 rfl) ⟨rfl,rfl,rfl,rfl,rfl,trivial⟩,d0 (xN rfl) zU2,d0 (lY (bA (.inl rfl)) h35) zU1,g0 (eW 0 4 rfl rfl rfl rfl (.agg tyA27)) zU1,g0 (bF rfl h37 rfl) ⟨jC _ _,jC _ _,trivial⟩,g0 (eW 3 4 rfl rfl rfl rfl (.agg tyA44)) zU1,g0 (eW 2 4 rfl rfl rfl rfl (.agg tyA44)) zU1,g0 (eW 1 4 rfl rfl rfl rfl (.agg tyA44)) zU1,g0 (bF rfl h39 rfl) ⟨rfl,rfl,rfl,rfl,rfl,trivial⟩,d0 (xN rfl) zU2,d0 (bA (.inr rfl)) zU1,trivial⟩ (fun bs14 G13=>?_)
    refine go ?_ ?_
    refine cU hF (fun h40 hF=>?_) (fun h40 hF=>?_)
    ·refine go ?_ ?_
     refine cU hF (fun h41 hF=>?_) (fun h41 hF=>?_)
     ·obtain⟨v42,h43,hF⟩:=aZ hF aFf
      refine go ?_ ?_
      refine cU hF (fun h44 hF=>?_) (fun h44 hF=>?_)
      ·obtain⟨v45,h46,hF⟩:=aZ hF aFv
       exact bN
      exact bN
     exact bN
    exact bN
   have hF:=tE h35 hF
   refine hY (0::0::0::0::1::31::63::127::255::127::127::127::4095::8191::16383::32767::32767::65535::32767::32767::1048575::2097151::4194303::8388607::8388607::8388607::8388607::8388607::268435455::536870911::1073741823::[]) 31 0 (.v (.va (aH.enc v15))::.v (.va (eQ 0))::.v (.va (eQ 0))::.v (.va (eQ v2))::.v (.va (eQ v17))::.v (.vc (pB v19))::.v (.vc (pB true))::.v (.va (aH.enc v22))::.v (.va (eQ v24))::.v (.va (eQ 0))::.v (.va (eQ v2))::.v (.va (eQ v5))::.v (.vc (pB v26))::.v (.vc (pB v26))::.v (.vc (pB true))::.v (.va (aH.enc v29))::.v (.va (eQ 0))::.v (.va (eQ v31))::.v (.va (eQ 0))::.v (.va (eQ 0))::.v (.vc (pB v33))::.v (.vc (pB v33))::.v (.vc (pB false))::.v .un::.v .un::.v .un::.v .un::.v .un::.v .un::.v (.vc (pB false))::.v (.vc (pB false))::[]) a9 ⟨d0 (bF rfl h16 rfl) ⟨jC _ _,jC _ _,jC _ _,jC _ _,trivial⟩,d0 (eW 3 4 rfl rfl rfl rfl (.agg tyA44)) zU1,d0 (eW 3 4 rfl rfl rfl rfl (.agg tyA44)) zU1,d0 (eW 2 4 rfl rfl rfl rfl (.agg tyA44)) zU1,d0 (bF rfl h18 rfl) ⟨jC _ _,jC _ _,trivial⟩,d0 (bF rfl h20 rfl) ⟨rfl,rfl,rfl,rfl,rfl,trivial⟩,d0 (lY (bA (.inl rfl)) h21) zU1,g0 (bF rfl h23 rfl) ⟨jC _ _,jC _ _,jC _ _,jC _ _,trivial⟩,g0 (bF rfl h25 rfl) ⟨jC _ _,jC _ _,trivial⟩,g0 (eW 3 4 rfl rfl rfl rfl (.agg tyA44)) zU1,g0 (eW 2 4 rfl rfl rfl rfl (.agg tyA44)) zU1,g0 (eW 1 4 rfl rfl rfl rfl (.agg tyA44)) zU1,g0 (bF rfl h27 rfl) ⟨rfl,rfl,rfl,rfl,rfl,trivial⟩,d0 (xN rfl) zU2,d0 (lY (bA (.inl rfl)) h28) zU1,g0 (bF rfl h30 rfl) ⟨jC _ _,jC _ _,jC _ _,jC _ _,trivial⟩,g0 (eW 3 4 rfl rfl rfl rfl (.agg tyA44)) zU1,g0 (bF rfl h32 rfl) ⟨jC _ _,jC _ _,trivial⟩,g0 (eW 3 4 rfl rfl rfl rfl (.agg tyA44)) zU1,g0 (eW 3 4 rfl rfl rfl rfl (.agg tyA44)) zU1,g0 (bF rfl h34 rfl) ⟨rfl,rfl,rfl,rfl,rfl,trivial⟩,d0 (xN rfl) zU2,d0 (lY (bA (.inl rfl)) h35) zU1,⟨rfl,.skipN⟩,⟨rfl,.skipN⟩,⟨rfl,.skipN⟩,⟨rfl,.skipN⟩,⟨rfl,.skipN⟩,⟨rfl,.skipN⟩,d0 (yQ rfl) ⟨rfl,k_B _,trivial⟩,d0 (bA (.inr rfl)) zU1,trivial⟩ (fun bs14 G13=>?_)
   exact bN
  have hF:=tE h28 hF
  refine hY (0::0::0::0::1::31::63::127::255::127::127::127::4095::8191::16383::32767::32767::65535::32767::32767::1048575::2097151::4194303::8388607::8388607::8388607::8388607::8388607::268435455::536870911::1073741823::[]) 31 0 (.v (.va (aH.enc v15))::.v (.va (eQ 0))::.v (.va (eQ 0))::.v (.va (eQ v2))::.v (.va (eQ v17))::.v (.vc (pB v19))::.v (.vc (pB true))::.v (.va (aH.enc v22))::.v (.va (eQ v24))::.v (.va (eQ 0))::.v (.va (eQ v2))::.v (.va (eQ v5))::.v (.vc (pB v26))::.v (.vc (pB v26))::.v (.vc (pB false))::.v .un::.v .un::.v .un::.v .un::.v .un::.v .un::.v (.vc (pB false))::.v (.vc (pB false))::.v .un::.v .un::.v .un::.v .un::.v .un::.v .un::.v (.vc (pB false))::.v (.vc (pB false))::[]) a9 ⟨d0 (bF rfl h16 rfl) ⟨jC _ _,jC _ _,jC _ _,jC _ _,trivial⟩,d0 (eW 3 4 rfl rfl rfl rfl (.agg tyA44)) zU1,d0 (eW 3 4 rfl rfl rfl rfl (.agg tyA44)) zU1,d0 (eW 2 4 rfl rfl rfl rfl (.agg tyA44)) zU1,d0 (bF rfl h18 rfl) ⟨jC _ _,jC _ _,trivial⟩,d0 (bF rfl h20 rfl) ⟨rfl,rfl,rfl,rfl,rfl,trivial⟩,d0 (lY (bA (.inl rfl)) h21) zU1,g0 (bF rfl h23 rfl) ⟨jC _ _,jC _ _,jC _ _,jC _ _,trivial⟩,g0 (bF rfl h25 rfl) ⟨jC _ _,jC _ _,trivial⟩,g0 (eW 3 4 rfl rfl rfl rfl (.agg tyA44)) zU1,g0 (eW 2 4 rfl rfl rfl rfl (.agg tyA44)) zU1,g0 (eW 1 4 rfl rfl rfl rfl (.agg tyA44)) zU1,g0 (bF rfl h27 rfl) ⟨rfl,rfl,rfl,rfl,rfl,trivial⟩,d0 (xN rfl) zU2,d0 (lY (bA (.inl rfl)) h28) zU1,⟨rfl,.skipN⟩,⟨rfl,.skipN⟩,⟨rfl,.skipN⟩,⟨rfl,.skipN⟩,⟨rfl,.skipN⟩,⟨rfl,.skipN⟩,d0 (yQ rfl) ⟨rfl,k_B _,trivial⟩,d0 (bA (.inl rfl)) zU1,⟨rfl,.skipN⟩,⟨rfl,.skipN⟩,⟨rfl,.skipN⟩,⟨rfl,.skipN⟩,⟨rfl,.skipN⟩,⟨rfl,.skipN⟩,d0 (yQ rfl) ⟨rfl,k_B _,trivial⟩,d0 (bA (.inr rfl)) zU1,trivial⟩ (fun bs14 G13=>?_)
  exact bN
 have hF:=tE h21 hF
 refine hY (0::0::0::0::1::31::63::127::255::127::127::127::4095::8191::16383::32767::32767::65535::32767::32767::1048575::2097151::4194303::8388607::8388607::8388607::8388607::8388607::268435455::536870911::1073741823::[]) 31 0 (.v (.va (aH.enc v15))::.v (.va (eQ 0))::.v (.va (eQ 0))::.v (.va (eQ v2))::.v (.va (eQ v17))::.v (.vc (pB v19))::.v (.vc (pB false))::.v .un::.v .un::.v .un::.v .un::.v .un::.v .un::.v (.vc (pB false))::.v (.vc (pB false))::.v .un::.v .un::.v .un::.v .un::.v .un::.v .un::.v (.vc (pB false))::.v (.vc (pB false))::.v .un::.v .un::.v .un::.v .un::.v .un::.v .un::.v (.vc (pB false))::.v (.vc (pB false))::[]) a9 ⟨d0 (bF rfl h16 rfl) ⟨jC _ _,jC _ _,jC _ _,jC _ _,trivial⟩,d0 (eW 3 4 rfl rfl rfl rfl (.agg tyA44)) zU1,d0 (eW 3 4 rfl rfl rfl rfl (.agg tyA44)) zU1,d0 (eW 2 4 rfl rfl rfl rfl (.agg tyA44)) zU1,d0 (bF rfl h18 rfl) ⟨jC _ _,jC _ _,trivial⟩,d0 (bF rfl h20 rfl) ⟨rfl,rfl,rfl,rfl,rfl,trivial⟩,d0 (lY (bA (.inl rfl)) h21) zU1,⟨rfl,.skipN⟩,⟨rfl,.skipN⟩,⟨rfl,.skipN⟩,⟨rfl,.skipN⟩,⟨rfl,.skipN⟩,⟨rfl,.skipN⟩,d0 (yQ rfl) ⟨rfl,k_B _,trivial⟩,d0 (bA (.inl rfl)) zU1,⟨rfl,.skipN⟩,⟨rfl,.skipN⟩,⟨rfl,.skipN⟩,⟨rfl,.skipN⟩,⟨rfl,.skipN⟩,⟨rfl,.skipN⟩,d0 (yQ rfl) ⟨rfl,k_B _,trivial⟩,d0 (bA (.inl rfl)) zU1,⟨rfl,.skipN⟩,⟨rfl,.skipN⟩,⟨rfl,.skipN⟩,⟨rfl,.skipN⟩,⟨rfl,.skipN⟩,⟨rfl,.skipN⟩,d0 (yQ rfl) ⟨rfl,k_B _,trivial⟩,d0 (bA (.inr rfl)) zU1,trivial⟩ (fun bs14 G13=>?_)
 exact bN
end Go.Proofs.YtcjdedkdoagifaaGreat
set_option linter.unusedVariables false
set_option maxRecDepth 100000
namespace Go.Proofs.YtcjdedkdoagifaaGreat
def tV (K:Nat) (a0:List aF) (a1:List Rat) (a2:List Rat) (a3:List aA):Option ((List (List Rat))×(List Rat)):=
 (lP K (⟨a0,a1,a2,a3⟩:aG)).bind fun v2=>bif(!v2) then(some ([],[])) else((lH K (⟨a0,a1,a2,a3⟩:aG)).bind fun v5=>some (v5.1,v5.2))
theorem aDG {K:Nat} {a0:List aF} {a1:List Rat} {a2:List Rat} {a3:List aA} {r:(List (List Rat))×(List Rat)} (hF:tV K a0 a1 a2 a3=some r):Ct Tryz.prog 36 [.vc (pS aF.cod a0),.vc (pS cQ a1),.vc (pS cQ a2),.vc (pS aA.cod a3)] (.t2 (.vc (pS (mZ cQ) r.1)) (.vc (pS cQ r.2))):=by
 unfold tV at hF
 refine aJ Tryz.func36 rfl (by kernel_rfl) Tryz.ntmps36 rfl (fun w0 M0=>?_)
 refine aO (aT (aU (bA (.inr rfl)) ⟨cR (mZ cQ),trivial⟩ ?_))
 refine aU (bA (.inr rfl)) ⟨cR cQ,trivial⟩ ?_
 refine go ?_ ?_
 refine aU (cA (is:=[0,1,2,3]) (xs:=[.tmp 11,.tmp 12,.tmp 13,.tmp 14]) (ps:=[.vc (pS aF.cod a0),.vc (pS cQ a1),.vc (pS cQ a2),.vc (pS aA.cod a3)]) rfl tyB113q rfl rfl ⟨trivial,trivial,trivial,trivial,trivial⟩ rfl) ⟨rfl,rfl,rfl,rfl,trivial⟩ ?_
 refine aS rfl tyZ113q (fun b1=>?_)
 obtain⟨v2,h3,hF⟩:=aZ hF vF
 refine go ?_ ?_
 refine aK hF rfl (fun h4 hF=>?_) (fun h4 hF=>?_)
 ·refine aO (aT (aU (bA (.inr rfl)) ⟨cR (mZ cQ),trivial⟩ ?_))
  refine aU (bA (.inr rfl)) ⟨cR cQ,trivial⟩ ?_
  refine bC (aQ ?_)
  exact bN
 obtain⟨v5,h6,hF⟩:=aZ hF wR
 exact bN
def mE (K:Nat) (x17:List aL):Option (List aL):=
 some x17
def dL (K:Nat) (a0:List Rat) (a1:List aA):Nat→(List aL)→Int→Option (List aL)
 |0,_,_=>none
 |k+1,x10,x16=>bif(decide (x16<(a1.length:Int))) then((oT x10 [(⟨x16,0⟩:aL)]).bind fun x26=>(bU a1 x16).bind fun v33=>bif(decide (0<(v33.t.length:Int))) then((bU a1 x16).bind fun v36=>(nY K v36 a0).bind fun v38=>bif(v38==0) then((oT x26 [(⟨x16,1⟩:aL),(⟨x16,2⟩:aL),(⟨x16,3⟩:aL)]).bind fun x41=>(aY (x16+1)).bind fun v48=>dL K a0 a1 k x41 v48) else((aY (x16+1)).bind fun v50=>dL K a0 a1 k x26 v50)) else((aY (x16+1)).bind fun v52=>dL K a0 a1 k x26 v52)) else(some x10)
def gK (K:Nat) (a0:List Rat) (a1:List aA):Option (List aL):=
 (dL K a0 a1 K ([]:List aL) 0).bind fun x17=>mE K x17
theorem o5 {K:Nat} {a0:List Rat} {a1:List aA} {r:List aL} (hF:gK K a0 a1=some r):Ct Tryz.prog 103 [.vc (pS cQ a0),.vc (pS aA.cod a1)] (.vc (pS aL.cod r)):=by
 unfold gK at hF
 refine aJ Tryz.func103 rfl (by kernel_rfl) Tryz.ntmps103 rfl (fun w0 M0=>?_)
 refine aO (aT (aU (bA (.inr rfl)) ⟨cR aL.cod,trivial⟩ ?_))
 refine bC (aQ (aO (aT (rA aL.cod 154 rfl ?_))))
 refine go ?_ ?_
 refine aP (bH (fun H E=>∃(x17:List aL),∃(b18:Option Nat),∃(c19:Nat),∃(n20:Nat),mE K x17=some r∧x17.length=n20∧H=[hO aL.cod b18 c19 154 n20 x17]∧E=[(5,.vc (pO b18 n20 c19))]) ?_ (fun Jj24=>?_))
 ·rintro _ _ ⟨x17,b18,c19,n20,hF,q21,rfl,rfl⟩
  unfold mE at hF
  refine go ?_ ?_
  refine qY (rC (vR 0 [4,5,43] rfl q21 ⟨rfl,rfl,rfl,trivial⟩ rfl ?_))
  obtain rfl:=l7 hF
  exact oE (.inl rfl) Tryz.results103 (.tmp rfl .nil) rfl rfl
 obtain⟨x17',hL,hRl23⟩:=aV hF
 refine eM (fun k a w=>∃(x10:List aL),∃(x16:Int),∃(b11:Option Nat),∃(c12:Nat),∃(n13:Nat),dL K a0 a1 k x10 x16=some x17'∧x10.length=n13∧hs _ [hO aL.cod b11 c12 154 n13 x10] [(0,.vc (pS cQ a0)),(1,.vc (pS aA.cod a1)),(5,.vc (pO b11 n13 c12)),(6,.vc (pI .i64 x16))] a w) K (fun a w ⟨_,_,_,_,_,hF,_,_⟩=>by cases hF) (fun k a w ⟨x10,x16,b11,c12,n13,hF,q14,hh⟩=>eK ?_ hh) (fun a w hh=>⟨([]:List aL),0,none,0,0,hL,rfl,dS [0] hh⟩)
 rw [dL.eq_2] at hF
 refine go ?_ ?_
 refine aK hF rfl (fun h25 hF=>?_) (fun h25 hF=>?_)
 ·refine go ?_ ?_
  refine aP (go ?_ ?_)
  refine aU (cA (is:=[0,1]) (xs:=[.tmp 14,.const (.int .i64 (0))]) (ps:=[.vc (pI .i64 x16),.vc (pI .i64 0)]) rfl tyB154q rfl rfl ⟨trivial,trivial,trivial⟩ rfl) ⟨rfl,jC _ _,trivial⟩ ?_
  refine aU (hU (C:=aL.cod) (xs:=[.tmp 15]) (ps:=[.va ([pI .i64 x16]++[pI .i64 0])]) (zs:=[(⟨x16,0⟩:aL)]) rfl tyS142 rfl ⟨⟨trivial,rfl⟩,trivial⟩ rfl) zU1 ?_
  obtain⟨x26,h27,hF⟩:=aV hF
  refine gJ 0 rfl tyS142 rfl rfl q14 rfl rfl h27 (fun b28 c29 H30 e31=>?_)
  cases e31
  obtain⟨v33,h34,hF⟩:=aV hF
  refine go ?_ ?_
  refine cU hF (fun h35 hF=>?_) (fun h35 hF=>?_)
  ·have hF:=nP h34 hF
   obtain⟨v38,h39,hF⟩:=aZ hF yI
   refine go ?_ ?_
   refine aK hF rfl (fun h40 hF=>?_) (fun h40 hF=>?_)
   ·refine go ?_ ?_
    refine aU (cA (is:=[0,1]) (xs:=[.tmp 35,.const (.int .i64 (1))]) (ps:=[.vc (pI .i64 x16),.vc (pI .i64 1)]) rfl tyB154q rfl rfl ⟨trivial,trivial,trivial⟩ rfl) ⟨rfl,jC _ _,trivial⟩ ?_
    refine fY ?_
    refine aU (cA (is:=[0,1]) (xs:=[.tmp 37,.const (.int .i64 (2))]) (ps:=[.vc (pI .i64 x16),.vc (pI .i64 2)]) rfl tyB154q rfl rfl ⟨trivial,trivial,trivial⟩ rfl) ⟨rfl,jC _ _,trivial⟩ ?_
    refine fY ?_
    refine aU (cA (is:=[0,1]) (xs:=[.tmp 39,.const (.int .i64 (3))]) (ps:=[.vc (pI .i64 x16),.vc (pI .i64 3)]) rfl tyB154q rfl rfl ⟨trivial,trivial,trivial⟩ rfl) ⟨rfl,jC _ _,trivial⟩ ?_
    refine aU (hU (C:=aL.cod) (xs:=[.tmp 36,.tmp 38,.tmp 40]) (ps:=[.va ([pI .i64 x16]++[pI .i64 1]),.va ([pI .i64 x16]++[pI .i64 2]),.va ([pI .i64 x16]++[pI .i64 3])]) (zs:=[(⟨x16,1⟩:aL),(⟨x16,2⟩:aL),(⟨x16,3⟩:aL)]) rfl tyS142 rfl ⟨⟨trivial,rfl⟩,⟨trivial,rfl⟩,⟨trivial,rfl⟩,trivial⟩ rfl) ⟨rfl,rfl,rfl,trivial⟩ ?_
    obtain⟨x41,h42,hF⟩:=aV hF
    refine gJ 0 rfl tyS142 rfl rfl (bK h27 q14) rfl rfl h42 (fun b43 c44 H45 e46=>?_)
    cases e46
    obtain⟨v48,h49,hF⟩:=aV hF
    refine go ?_ ?_
    exact aN (fun a w hh=>⟨x41,v48,b43,c44,((n13+[(⟨x16,0⟩:aL)].length)+[(⟨x16,1⟩:aL),(⟨x16,2⟩:aL),(⟨x16,3⟩:aL)].length),hF,(bK h42 (bK h27 q14)),dS [0] hh⟩)
   obtain⟨v50,h51,hF⟩:=aV hF
   refine go ?_ ?_
   exact aN (fun a w hh=>⟨x26,v50,b28,c29,(n13+[(⟨x16,0⟩:aL)].length),hF,(bK h27 q14),dS [0] hh⟩)
  refine go ?_ ?_
  refine tW rfl ?_
  obtain⟨v52,h53,hF⟩:=aV hF
  refine go ?_ ?_
  exact aN (fun a w hh=>⟨x26,v52,b28,c29,(n13+[(⟨x16,0⟩:aL)].length),hF,(bK h27 q14),dS [0] hh⟩)
 refine bY ?_
 obtain rfl:=l7 hF
 exact m5 Jj24 ⟨x10,b11,c12,n13,hRl23,q14,rfl,rfl⟩ [0]
def pW (K:Nat) (a0:aA) (a1:List Rat) (a2:List Rat):Option aI:=
 (nY K a0 a1).bind fun v3=>bif((a0.t.length:Int)==0) then((bU a2 0).bind fun v6=>some (⟨v6,0⟩:aI)) else(bif(v3 != 0) then((bU a2 0).bind fun v11=>(aY (-v3)).bind fun v13=>(qof v13 1).bind fun v15=>(bU a2 0).bind fun v17=>(aAg a0.mu v17).bind fun v19=>(aAg v15 v19).bind fun v21=>some (⟨v11,v21⟩:aI)) else((bU a2 0).bind fun v25=>(bU a2 1).bind fun v27=>(bU a2 2).bind fun v29=>(aEK v27 v29).bind fun v31=>some (⟨v25,v31⟩:aI)))
theorem aBp {K:Nat} {a0:aA} {a1:List Rat} {a2:List Rat} {r:aI} (hF:pW K a0 a1 a2=some r):Ct Tryz.prog 115 [.va (aA.enc a0),.vc (pS cQ a1),.vc (pS cQ a2)] (.va (aI.enc r)):=by
 unfold pW at hF
 refine aJ Tryz.func115 rfl (by kernel_rfl) Tryz.ntmps115 rfl (fun w0 M0=>?_)
 refine aO (aT (cB rfl rfl trivial (fun b1=>?_)))
 refine aS rfl tyZ58q (fun b2=>?_)
 obtain⟨v3,h4,hF⟩:=aZ hF yI
 refine go ?_ ?_
 refine aK hF rfl (fun h5 hF=>?_) (fun h5 hF=>?_)
 ·obtain⟨v6,h7,hF⟩:=aV hF
  refine go ?_ ?_
  refine aU (cA (is:=[0]) (xs:=[.tmp 17]) (ps:=[.va (eQ v6)]) rfl tyB58q rfl rfl ⟨trivial,trivial⟩ rfl) zU1 ?_
  exact bN
 refine go ?_ ?_
 refine aK hF rfl (fun h8 hF=>?_) (fun h8 hF=>?_)
 ·refine aO ?_
  obtain⟨v11,h12,hF⟩:=aV hF
  obtain⟨v13,h14,hF⟩:=aV hF
  obtain⟨v15,h16,hF⟩:=aZ hF bP
  have hF:=nP h12 hF
  obtain⟨v19,h20,hF⟩:=aZ hF lT
  obtain⟨v21,h22,hF⟩:=aZ hF lT
  refine hY [0,1,3,0,8,24,0,64,0,256,768,2040,4088,8191,16383] 14 1 [.v (.vc (pS cQ a2)),.v (.vc (pM (cQ.e v11))),.v (.va (eQ v11)),.v (.vc (pI .i64 v3)),.v (.vc (pI .i64 v13)),.v (.va (eQ v15)),.v (.vc (pP (some b1) 10)),.v (.va (eQ a0.mu)),.v (.vc (pS cQ a2)),.v (.vc (pM (cQ.e v11))),.v (.va (eQ v11)),.v (.va (eQ v19)),.v (.va (eQ v21)),.v (.va ((eQ v11)++(eQ v21)))] a9 ⟨d0 (bA (.inl rfl)) zU1,d0 (vJ rfl tyS24 h12) ⟨rfl,jC _ _,trivial⟩,d0 (uO 4 rfl rfl (.agg tyA44)) zU1,d0 (bA (.inl rfl)) zU1,d0 (aM5 rfl h14) zU1,d0 (bF rfl h16 rfl) ⟨rfl,jC _ _,trivial⟩,d0 (kQ (off:=0) (k:=10) rfl tyF51_7) zU1,d0 (eW 1 4 rfl rfl rfl rfl (.agg tyA44)) zU1,d0 (bA (.inl rfl)) zU1,d0 (vJ rfl tyS24 h12) ⟨rfl,jC _ _,trivial⟩,d0 (uO 4 rfl rfl (.agg tyA44)) zU1,d0 (bF rfl h20 rfl) zU2,d0 (bF rfl h22 rfl) zU2,d0 (cA (is:=[0,1]) (xs:=[.tmp 23,.tmp 33]) (ps:=[.va (eQ v11),.va (eQ v21)]) rfl tyB58q rfl rfl ⟨trivial,trivial,trivial⟩ rfl) zU2,trivial⟩ (fun bs10 G9=>?_)
  exact bN
 obtain⟨v25,h26,v27,h28,v29,h30,hF⟩:=bn3 hF
 obtain⟨v31,h32,hF⟩:=aZ hF q9
 refine go ?_ ?_
 refine hY [0,1,3,0,8,24,0,64,192,504,1023,2047] 11 1 [.v (.vc (pS cQ a2)),.v (.vc (pM (cQ.e v25))),.v (.va (eQ v25)),.v (.vc (pS cQ a2)),.v (.vc (pM (cQ.e v27))),.v (.va (eQ v27)),.v (.vc (pS cQ a2)),.v (.vc (pM (cQ.e v29))),.v (.va (eQ v29)),.v (.va (eQ v31)),.v (.va ((eQ v25)++(eQ v31)))] a9 ⟨d0 (bA (.inl rfl)) zU1,d0 (vJ rfl tyS24 h26) ⟨rfl,jC _ _,trivial⟩,d0 (uO 4 rfl rfl (.agg tyA44)) zU1,d0 (bA (.inl rfl)) zU1,d0 (vJ rfl tyS24 h28) ⟨rfl,jC _ _,trivial⟩,d0 (uO 4 rfl rfl (.agg tyA44)) zU1,d0 (bA (.inl rfl)) zU1,d0 (vJ rfl tyS24 h30) ⟨rfl,jC _ _,trivial⟩,d0 (uO 4 rfl rfl (.agg tyA44)) zU1,d0 (bF rfl h32 rfl) zU2,d0 (cA (is:=[0,1]) (xs:=[.tmp 37,.tmp 44]) (ps:=[.va (eQ v25),.va (eQ v31)]) rfl tyB58q rfl rfl ⟨trivial,trivial,trivial⟩ rfl) zU2,trivial⟩ (fun bs24 G23=>?_)
 exact bN
def oJ (K:Nat) (x19:List aI):Option (List aI):=
 some x19
def oM (K:Nat) (a0:List Rat) (a1:List aA) (x12:List aI) (x18:Int) (recl25:(List aI)→Int→Option (List aI)) (x47:List Rat):Option (List aI):=
 (bU a1 x18).bind fun v55=>(pW K v55 a0 x47).bind fun v57=>(oT x12 [v57]).bind fun x59=>(aY (x18+1)).bind fun v66=>recl25 x59 v66
def fB (K:Nat) (a2:List Rat) (v3:List aL) (x18:Int):Nat→(List Rat)→Int→Option (List Rat)
 |0,_,_=>none
 |k+1,x40,x46=>bif(decide (x46<(v3.length:Int))) then((bU v3 x46).bind fun v69=>bif(v69.row==x18) then((bU v3 x46).bind fun v74=>(bU a2 x46).bind fun v76=>(bU x40 v74.kind).bind fun v78=>(p9 x40 v74.kind v76).bind fun x80=>(aY (x46+1)).bind fun v83=>fB K a2 v3 x18 k x80 v83) else((aY (x46+1)).bind fun v85=>fB K a2 v3 x18 k x40 v85)) else(some x40)
def fC (K:Nat) (a0:List Rat) (a1:List aA) (a2:List Rat) (v3:List aL):Nat→(List aI)→Int→Option (List aI)
 |0,_,_=>none
 |k+1,x12,x18=>bif(decide (x18<(a1.length:Int))) then((xI 4 0).bind fun x28=>(fB K a2 v3 x18 K x28 0).bind fun x47=>oM K a0 a1 x12 x18 (fC K a0 a1 a2 v3 k) x47) else(some x12)
def kJ (K:Nat) (a0:List Rat) (a1:List aA) (a2:List Rat):Option (List aI):=
 (gK K a0 a1).bind fun v3=>(fC K a0 a1 a2 v3 K ([]:List aI) 0).bind fun x19=>oJ K x19
theorem uA {K:Nat} {a0:List Rat} {a1:List aA} {a2:List Rat} {r:List aI} (hF:kJ K a0 a1 a2=some r):Ct Tryz.prog 42 [.vc (pS cQ a0),.vc (pS aA.cod a1),.vc (pS cQ a2)] (.vc (pS aI.cod r)):=by
 unfold kJ at hF
 refine aJ Tryz.func42 rfl (by kernel_rfl) Tryz.ntmps42 rfl (fun w0 M0=>?_)
 refine aO (aT (aU (bA (.inr rfl)) ⟨cR aI.cod,trivial⟩ ?_))
 refine bC (aQ (aO (aT (rA aI.cod 58 rfl ?_))))
 obtain⟨v3,h4,hF⟩:=aZ hF o5
 refine go ?_ ?_
 refine aP (bH (fun H E=>∃(x19:List aI),∃(b20:Option Nat),∃(c21:Nat),∃(n22:Nat),oJ K x19=some r∧x19.length=n22∧H=[hO aI.cod b20 c21 58 n22 x19]∧E=[(7,.vc (pO b20 n22 c21))]) ?_ (fun Jj26=>?_))
 ·rintro _ _ ⟨x19,b20,c21,n22,hF,q23,rfl,rfl⟩
  unfold oJ at hF
  refine go ?_ ?_
  refine qY (rC (vR 0 [6,7,56] rfl q23 ⟨rfl,rfl,rfl,trivial⟩ rfl ?_))
  obtain rfl:=l7 hF
  exact oE (.inl rfl) Tryz.results42 (.tmp rfl .nil) rfl rfl
 obtain⟨x19',hL,hRl25⟩:=aV hF
 refine eM (fun k a w=>∃(x12:List aI),∃(x18:Int),∃(b13:Option Nat),∃(c14:Nat),∃(n15:Nat),fC K a0 a1 a2 v3 k x12 x18=some x19'∧x12.length=n15∧hs _ [hO aI.cod b13 c14 58 n15 x12] [(0,.vc (pS cQ a0)),(1,.vc (pS aA.cod a1)),(2,.vc (pS cQ a2)),(7,.vc (pO b13 n15 c14)),(8,.vc (pS aL.cod v3)),(9,.vc (pI .i64 x18))] a w) K (fun a w ⟨_,_,_,_,_,hF,_,_⟩=>by cases hF) (fun k a w ⟨x12,x18,b13,c14,n15,hF,q16,hh⟩=>eK ?_ hh) (fun a w hh=>⟨([]:List aI),0,none,0,0,hL,rfl,dS [0] hh⟩)
 rw [fC.eq_2] at hF
 refine go ?_ ?_
 refine aK hF rfl (fun h27 hF=>?_) (fun h27 hF=>?_)
 ·refine go ?_ ?_
  refine aP (aO (aT ?_))
  obtain⟨x28,h29,hF⟩:=aV hF
  refine s7 (C:=cQ) rfl tyS24 rfl tyZ44q (jC _ _) h29 (fun b30=>?_)
  refine go ?_ ?_
  refine aP (bH (fun H E=>∃(x47:List Rat),oM K a0 a1 x12 x18 (fC K a0 a1 a2 v3 k) x47=some x19'∧x47.length=x28.length∧H=[hO cQ b30 x28.length 44 x28.length x47,hO aI.cod b13 c14 58 n15 x12]∧E=[(0,.vc (pS cQ a0)),(1,.vc (pS aA.cod a1)),(2,.vc (pS cQ a2)),(7,.vc (pO b13 n15 c14)),(8,.vc (pS aL.cod v3)),(9,.vc (pI .i64 x18)),(10,.vc (pO b30 x28.length x28.length))]) ?_ (fun Jj54=>?_))
  ·rintro _ _ ⟨x47,hF,q51,rfl,rfl⟩
   unfold oM at hF
   refine aQ (aT (fY ?_))
   refine fY ?_
   refine fY ?_
   obtain⟨v55,h56,hF⟩:=aV hF
   refine aU (vJ rfl tyS25 h56) zU2 ?_
   refine aU (uO 18 rfl rfl (.agg tyA51)) zU1 ?_
   refine fY ?_
   refine fY ?_
   refine xB 0 [10,52] rfl q51 zU2 rfl ?_
   obtain⟨v57,h58,hF⟩:=aZ hF aBp
   refine aU (bF rfl h58 rfl) ⟨rfl,rfl,rfl,trivial⟩ ?_
   refine aU (hU (C:=aI.cod) (xs:=[.tmp 53]) (ps:=[.va (aI.enc v57)]) (zs:=[v57]) rfl tyS29 rfl ⟨⟨trivial,rfl⟩,trivial⟩ rfl) zU1 ?_
   obtain⟨x59,h60,hF⟩:=aV hF
   refine gJ 0 rfl tyS29 rfl rfl q16 rfl rfl h60 (fun b61 c62 H63 e64=>?_)
   cases e64
   obtain⟨v66,h67,hF⟩:=aV hF
   refine go ?_ ?_
   exact aN (fun a w hh=>⟨x59,v66,b61,c62,(n15+[v57].length),hF,(bK h60 q16),dS [0] hh⟩)
  obtain⟨x47',hL,hRl53⟩:=aV hF
  refine eM (fun k a w=>∃(x40:List Rat),∃(x46:Int),fB K a2 v3 x18 k x40 x46=some x47'∧x40.length=x28.length∧hs _ [hO cQ b30 x28.length 44 x28.length x40,hO aI.cod b13 c14 58 n15 x12] [(0,.vc (pS cQ a0)),(1,.vc (pS aA.cod a1)),(2,.vc (pS cQ a2)),(7,.vc (pO b13 n15 c14)),(8,.vc (pS aL.cod v3)),(9,.vc (pI .i64 x18)),(10,.vc (pO b30 x28.length x28.length)),(11,.vc (pI .i64 x46))] a w) K (fun a w ⟨_,_,hF,_,_⟩=>by cases hF) (fun k a w ⟨x40,x46,hF,q44,hh⟩=>eK ?_ hh) (fun a w hh=>⟨x28,0,hL,rfl,dS [0,1] hh⟩)
  rw [fB.eq_2] at hF
  refine go ?_ ?_
  refine aK hF rfl (fun h68 hF=>?_) (fun h68 hF=>?_)
  ·refine go ?_ ?_
   refine aP ?_
   obtain⟨v69,h70,hF⟩:=aV hF
   refine go ?_ ?_
   refine aK hF rfl (fun h71 hF=>?_) (fun h71 hF=>?_)
   ·have hF:=nP h70 hF
    obtain⟨v76,h77,hF⟩:=aV hF
    obtain⟨v78,h79,hF⟩:=aV hF
    refine dr [0,0,0,6,14,30,0,0,192,448,1023,2047] 11 1 ?_ (fun bs73 G72=>?_)
    obtain⟨x80,h81,v83,h84,hF⟩:=vB hF
    refine go ?_ ?_
    exact aN (fun a w hh=>⟨x80,v83,hF,(bI h81 q44),dS [0,1] hh⟩)
   obtain⟨v85,h86,hF⟩:=aV hF
   refine go ?_ ?_
   exact aN (fun a w hh=>⟨x40,v85,hF,q44,dS [0,1] hh⟩)
  refine bY ?_
  obtain rfl:=l7 hF
  exact m5 Jj54 ⟨x40,hRl53,q44,rfl,rfl⟩ [0,1]
 refine bY ?_
 obtain rfl:=l7 hF
 exact m5 Jj26 ⟨x12,b13,c14,n15,hRl25,q16,rfl,rfl⟩ [0]
def oN (K:Nat) (x23:List Rat):Option (List Rat):=
 some x23
def dG (K:Nat) (a3:List aA) (a4:List Rat) (v3:List Rat) (v5:List aL):Nat→(List Rat)→Int→Option (List Rat)
 |0,_,_=>none
 |k+1,x16,x22=>bif(decide (x22<(v5.length:Int))) then((bU v5 x22).bind fun v32=>(bU a3 v32.row).bind fun v34=>(bU v5 x22).bind fun v37=>bif(v37.kind==0) then((gT K v34.j v3).bind fun v40=>(oT x16 [v40]).bind fun x42=>(aY (x22+1)).bind fun v49=>dG K a3 a4 v3 v5 k x42 v49) else(bif(v37.kind==1) then((gT K v34.t v3).bind fun v54=>(aY (x22+2)).bind fun v56=>(bU a4 v56).bind fun v58=>(aCu v54 v58).bind fun v60=>(oT x16 [v60]).bind fun x62=>(aY (x22+1)).bind fun v69=>dG K a3 a4 v3 v5 k x62 v69) else(bif(v37.kind==2) then((aY (x22+1)).bind fun v74=>(bU a4 v74).bind fun v76=>(gT K v34.t v3).bind fun v78=>(aEK v76 v78).bind fun v80=>(oT x16 [v80]).bind fun x82=>(aY (x22+1)).bind fun v89=>dG K a3 a4 v3 v5 k x82 v89) else((aY (x22-3)).bind fun v93=>(bU a4 v93).bind fun v95=>(aAg v34.mu v95).bind fun v97=>(aY (x22-2)).bind fun v99=>(bU a4 v99).bind fun v101=>(aY (x22-1)).bind fun v103=>(bU a4 v103).bind fun v105=>(aCu v101 v105).bind fun v107=>(aEK v97 v107).bind fun v109=>(oT x16 [v109]).bind fun x111=>(aY (x22+1)).bind fun v118=>dG K a3 a4 v3 v5 k x111 v118)))) else(some x16)
def kK (K:Nat) (a0:List aF) (a1:List Rat) (a2:List Rat) (a3:List aA) (a4:List Rat):Option (List Rat):=
 (kJ K a2 a3 a4).bind fun v1=>(eY K a0 a1 a3 v1).bind fun v3=>(gK K a2 a3).bind fun v5=>(dG K a3 a4 v3 v5 K ([]:List Rat) 0).bind fun x23=>oN K x23
theorem xA {K:Nat} {a0:List aF} {a1:List Rat} {a2:List Rat} {a3:List aA} {a4:List Rat} {r:List Rat} (hF:kK K a0 a1 a2 a3 a4=some r):Ct Tryz.prog 104 [.vc (pS aF.cod a0),.vc (pS cQ a1),.vc (pS cQ a2),.vc (pS aA.cod a3),.vc (pS cQ a4)] (.vc (pS cQ r)):=by
 unfold kK at hF
 refine aJ Tryz.func104 rfl (by kernel_rfl) Tryz.ntmps104 rfl (fun w0 M0=>?_)
 refine aO (aT (aU (bA (.inr rfl)) ⟨cR cQ,trivial⟩ ?_))
 refine bC (aQ (aO (aT (fY ?_))))
 refine fY ?_
 refine fY ?_
 refine fY ?_
 refine fY ?_
 refine fY ?_
 obtain⟨v1,h2,hF⟩:=aZ hF uA
 refine aU (bF rfl h2 rfl) ⟨rfl,rfl,rfl,trivial⟩ ?_
 obtain⟨v3,h4,hF⟩:=aZ hF pR
 refine aU (bF rfl h4 rfl) ⟨rfl,rfl,rfl,rfl,trivial⟩ ?_
 refine zI ?_
 refine bC (aQ (aO (aT (fY ?_))))
 refine fY ?_
 obtain⟨v5,h6,hF⟩:=aZ hF o5
 refine aU (bF rfl h6 rfl) zU2 ?_
 refine zI ?_
 refine bC (aQ (aO (aT (rA cQ 44 rfl ?_))))
 refine go ?_ ?_
 refine aP (bH (fun H E=>∃(x23:List Rat),∃(b24:Option Nat),∃(c25:Nat),∃(n26:Nat),oN K x23=some r∧x23.length=n26∧H=[hO cQ b24 c25 44 n26 x23]∧E=[(13,.vc (pO b24 n26 c25))]) ?_ (fun Jj30=>?_))
 ·rintro _ _ ⟨x23,b24,c25,n26,hF,q27,rfl,rfl⟩
  unfold oN at hF
  refine go ?_ ?_
  refine qY (rC (vR 0 [10,13,108] rfl q27 ⟨rfl,rfl,rfl,trivial⟩ rfl ?_))
  obtain rfl:=l7 hF
  exact oE (.inl rfl) Tryz.results104 (.tmp rfl .nil) rfl rfl
 obtain⟨x23',hL,hRl29⟩:=aV hF
 refine eM (fun k a w=>∃(x16:List Rat),∃(x22:Int),∃(b17:Option Nat),∃(c18:Nat),∃(n19:Nat),dG K a3 a4 v3 v5 k x16 x22=some x23'∧x16.length=n19∧hs _ [hO cQ b17 c18 44 n19 x16] [(3,.vc (pS aA.cod a3)),(4,.vc (pS cQ a4)),(11,.vc (pS cQ v3)),(12,.vc (pS aL.cod v5)),(13,.vc (pO b17 n19 c18)),(14,.vc (pI .i64 x22))] a w) K (fun a w ⟨_,_,_,_,_,hF,_,_⟩=>by cases hF) (fun k a w ⟨x16,x22,b17,c18,n19,hF,q20,hh⟩=>eK ?_ hh) (fun a w hh=>⟨([]:List Rat),0,none,0,0,hL,rfl,dS [0] hh⟩)
 rw [dG.eq_2] at hF
 refine go ?_ ?_
 refine aK hF rfl (fun h31 hF=>?_) (fun h31 hF=>?_)
 ·refine go ?_ ?_
  refine aP ?_
  obtain⟨v32,h33,v34,h35,hF⟩:=vB hF
  refine go ?_ ?_
  refine aS rfl tyZ51q (fun b36=>?_)
  have hF:=nP h33 hF
  refine go ?_ ?_
  refine aP (go ?_ ?_)
  refine aK hF rfl (fun h39 hF=>?_) (fun h39 hF=>?_)
  ·obtain⟨v40,h41,hF⟩:=aZ hF p7
   refine go ?_ ?_
   refine aU (hU (C:=cQ) (xs:=[.tmp 75]) (ps:=[.va (eQ v40)]) (zs:=[v40]) rfl tyS24 rfl ⟨⟨trivial,rfl⟩,trivial⟩ rfl) zU1 ?_
   obtain⟨x42,h43,hF⟩:=aV hF
   refine gJ 1 rfl tyS24 rfl rfl q20 rfl rfl h43 (fun b44 c45 H46 e47=>?_)
   cases e47
   obtain⟨v49,h50,hF⟩:=aV hF
   refine go ?_ ?_
   exact aN (fun a w hh=>⟨x42,v49,b44,c45,(n19+[v40].length),hF,(bK h43 q20),dS [1] hh⟩)
  refine go ?_ ?_
  refine aK hF rfl (fun h51 hF=>?_) (fun h51 hF=>?_)
  ·obtain⟨v54,h55,hF⟩:=aZ hF p7
   obtain⟨v56,h57,hF⟩:=aV hF
   obtain⟨v58,h59,hF⟩:=aV hF
   obtain⟨v60,h61,hF⟩:=aZ hF qQ
   refine hY [0,0,2,0,14,0,0,64,224,480,1022,2046,4095,8191] 12 2 [.v (.vc (pO b17 n19 c18)),.v (.vc (pP (some b36) 9)),.v (.vc (pS aC.cod v34.t)),.v (.vc (pS cQ v3)),.v (.va (eQ v54)),.v (.vc (pS cQ a4)),.v (.vc (pI .i64 x22)),.v (.vc (pI .i64 v56)),.v (.vc (pM (cQ.e v58))),.v (.va (eQ v58)),.v (.va (eQ v60)),.v (.vc (pS cQ [v60]))] a9 ⟨d0 (bA (.inl rfl)) zU1,d0 (kQ (off:=0) (k:=9) rfl tyF51_6) zU1,d0 (eW 0 1 rfl rfl rfl rfl (.one tyO49)) zU1,d0 (bA (.inl rfl)) zU1,d0 (bF rfl h55 rfl) zU2,d0 (bA (.inl rfl)) zU1,d0 (bA (.inl rfl)) zU1,d0 (wZ rfl h57) ⟨rfl,jC _ _,trivial⟩,d0 (vJ rfl tyS24 h59) zU2,d0 (uO 4 rfl rfl (.agg tyA44)) zU1,d0 (bF rfl h61 rfl) zU2,d0 (hU (C:=cQ) (xs:=[.tmp 90]) (ps:=[.va (eQ v60)]) (zs:=[v60]) rfl tyS24 rfl ⟨⟨trivial,rfl⟩,trivial⟩ rfl) zU1,trivial⟩ (fun bs53 G52=>?_)
   obtain⟨x62,h63,hF⟩:=aV hF
   refine gJ 1 rfl tyS24 rfl rfl q20 rfl rfl h63 (fun b64 c65 H66 e67=>?_)
   cases e67
   obtain⟨v69,h70,hF⟩:=aV hF
   refine go ?_ ?_
   exact aN (fun a w hh=>⟨x62,v69,b64,c65,(n19+[v60].length),hF,(bK h63 q20),dS [1] hh⟩)
  refine go ?_ ?_
  refine aK hF rfl (fun h71 hF=>?_) (fun h71 hF=>?_)
  ·obtain⟨v74,h75,hF⟩:=aV hF
   obtain⟨v76,h77,hF⟩:=aV hF
   obtain⟨v78,h79,hF⟩:=aZ hF p7
   obtain⟨v80,h81,hF⟩:=aZ hF q9
   refine hY [0,0,0,4,14,30,0,64,0,448,1022,2046,4095,8191] 12 2 [.v (.vc (pO b17 n19 c18)),.v (.vc (pS cQ a4)),.v (.vc (pI .i64 x22)),.v (.vc (pI .i64 v74)),.v (.vc (pM (cQ.e v76))),.v (.va (eQ v76)),.v (.vc (pP (some b36) 9)),.v (.vc (pS aC.cod v34.t)),.v (.vc (pS cQ v3)),.v (.va (eQ v78)),.v (.va (eQ v80)),.v (.vc (pS cQ [v80]))] a9 ⟨d0 (bA (.inl rfl)) zU1,d0 (bA (.inl rfl)) zU1,d0 (bA (.inl rfl)) zU1,d0 (wZ rfl h75) ⟨rfl,jC _ _,trivial⟩,d0 (vJ rfl tyS24 h77) zU2,d0 (uO 4 rfl rfl (.agg tyA44)) zU1,d0 (kQ (off:=0) (k:=9) rfl tyF51_6) zU1,d0 (eW 0 1 rfl rfl rfl rfl (.one tyO49)) zU1,d0 (bA (.inl rfl)) zU1,d0 (bF rfl h79 rfl) zU2,d0 (bF rfl h81 rfl) zU2,d0 (hU (C:=cQ) (xs:=[.tmp 105]) (ps:=[.va (eQ v80)]) (zs:=[v80]) rfl tyS24 rfl ⟨⟨trivial,rfl⟩,trivial⟩ rfl) zU1,trivial⟩ (fun bs73 G72=>?_)
   obtain⟨x82,h83,hF⟩:=aV hF
   refine gJ 1 rfl tyS24 rfl rfl q20 rfl rfl h83 (fun b84 c85 H86 e87=>?_)
   cases e87
   have hF:=nP h75 hF
   refine go ?_ ?_
   exact aN (fun a w hh=>⟨x82,v74,b84,c85,(n19+[v80].length),hF,(bK h83 q20),dS [1] hh⟩)
  obtain⟨v93,h94,hF⟩:=aV hF
  obtain⟨v95,h96,hF⟩:=aV hF
  obtain⟨v97,h98,hF⟩:=aZ hF lT
  obtain⟨v99,h100,hF⟩:=aV hF
  obtain⟨v101,h102,hF⟩:=aV hF
  obtain⟨v103,h104,hF⟩:=aV hF
  obtain⟨v105,h106,hF⟩:=aV hF
  obtain⟨v107,h108,hF⟩:=aZ hF qQ
  obtain⟨v109,h110,hF⟩:=aZ hF q9
  refine hY [0,0,2,0,0,16,56,120,254,0,0,1024,3584,7680,0,0,32768,114688,245760,524286,1048574,2097150,4194303,8388607] 22 2 [.v (.vc (pO b17 n19 c18)),.v (.vc (pP (some b36) 10)),.v (.va (eQ v34.mu)),.v (.vc (pS cQ a4)),.v (.vc (pI .i64 x22)),.v (.vc (pI .i64 v93)),.v (.vc (pM (cQ.e v95))),.v (.va (eQ v95)),.v (.va (eQ v97)),.v (.vc (pS cQ a4)),.v (.vc (pI .i64 x22)),.v (.vc (pI .i64 v99)),.v (.vc (pM (cQ.e v101))),.v (.va (eQ v101)),.v (.vc (pS cQ a4)),.v (.vc (pI .i64 x22)),.v (.vc (pI .i64 v103)),.v (.vc (pM (cQ.e v105))),.v (.va (eQ v105)),.v (.va (eQ v107)),.v (.va (eQ v109)),.v (.vc (pS cQ [v109]))] a9 ⟨d0 (bA (.inl rfl)) zU1,d0 (kQ (off:=0) (k:=10) rfl tyF51_7) zU1,d0 (eW 0 4 rfl rfl rfl rfl (.agg tyA44)) zU1,d0 (bA (.inl rfl)) zU1,d0 (bA (.inl rfl)) zU1,d0 (yA rfl h94) ⟨rfl,jC _ _,trivial⟩,d0 (vJ rfl tyS24 h96) zU2,d0 (uO 4 rfl rfl (.agg tyA44)) zU1,d0 (bF rfl h98 rfl) zU2,d0 (bA (.inl rfl)) zU1,d0 (bA (.inl rfl)) zU1,d0 (yA rfl h100) ⟨rfl,jC _ _,trivial⟩,d0 (vJ rfl tyS24 h102) zU2,d0 (uO 4 rfl rfl (.agg tyA44)) zU1,d0 (bA (.inl rfl)) zU1,d0 (bA (.inl rfl)) zU1,d0 (yA rfl h104) ⟨rfl,jC _ _,trivial⟩,d0 (vJ rfl tyS24 h106) zU2,d0 (uO 4 rfl rfl (.agg tyA44)) zU1,d0 (bF rfl h108 rfl) zU2,d0 (bF rfl h110 rfl) zU2,d0 (hU (C:=cQ) (xs:=[.tmp 66]) (ps:=[.va (eQ v109)]) (zs:=[v109]) rfl tyS24 rfl ⟨⟨trivial,rfl⟩,trivial⟩ rfl) zU1,trivial⟩ (fun bs92 G91=>?_)
  obtain⟨x111,h112,hF⟩:=aV hF
  refine gJ 1 rfl tyS24 rfl rfl q20 rfl rfl h112 (fun b113 c114 H115 e116=>?_)
  cases e116
  obtain⟨v118,h119,hF⟩:=aV hF
  refine go ?_ ?_
  exact aN (fun a w hh=>⟨x111,v118,b113,c114,(n19+[v109].length),hF,(bK h112 q20),dS [1] hh⟩)
 refine bY ?_
 obtain rfl:=l7 hF
 exact m5 Jj30 ⟨x16,b17,c18,n19,hRl29,q20,rfl,rfl⟩ [0]
def qO (a0:List (List Rat)):Option Int:=
 bif((a0.length:Int)==0) then(some 0) else((bU a0 0).bind fun v2=>some (v2.length:Int))
theorem aBT {a0:List (List Rat)} {r:Int} (hF:qO a0=some r):Ct Tryz.prog 190 [.vc (pS (mZ cQ) a0)] (.vc (pI .i64 r)):=by
 unfold qO at hF
 refine aJ Tryz.func190 rfl (by kernel_rfl) Tryz.ntmps190 rfl (fun w0 M0=>?_)
 refine go ?_ ?_
 refine aK hF rfl (fun h1 hF=>?_) (fun h1 hF=>?_)
 ·exact bN
 obtain⟨v2,h3,hF⟩:=aV hF
 exact bN
def qI (K:Nat) (x17:List (List Rat)):Option (List (List Rat)):=
 some x17
def qJ (K:Nat) (x10:List (List Rat)) (x16:Int) (recl23:(List (List Rat))→Int→Option (List (List Rat))) (x44:List Rat):Option (List (List Rat)):=
 (oT x10 [x44]).bind fun x52=>(aY (x16+1)).bind fun v59=>recl23 x52 v59
def iX (K:Nat) (a0:List (List Rat)) (x16:Int):Nat→(List Rat)→Int→Option (List Rat)
 |0,_,_=>none
 |k+1,x37,x43=>bif(decide (x43<(a0.length:Int))) then((bU a0 x43).bind fun v62=>(bU v62 x16).bind fun v64=>(oT x37 [v64]).bind fun x66=>(aY (x43+1)).bind fun v73=>iX K a0 x16 k x66 v73) else(some x37)
def gI (K:Nat) (a0:List (List Rat)):Nat→(List (List Rat))→Int→Option (List (List Rat))
 |0,_,_=>none
 |k+1,x10,x16=>(qO a0).bind fun v25=>bif(decide (x16<v25)) then((iX K a0 x16 K ([]:List Rat) 0).bind fun x44=>qJ K x10 x16 (gI K a0 k) x44) else(some x10)
def qV (K:Nat) (a0:List (List Rat)):Option (List (List Rat)):=
 (gI K a0 K ([]:List (List Rat)) 0).bind fun x17=>qI K x17
theorem aB4 {K:Nat} {a0:List (List Rat)} {r:List (List Rat)} (hF:qV K a0=some r):Ct Tryz.prog 106 [.vc (pS (mZ cQ) a0)] (.vc (pS (mZ cQ) r)):=by
 unfold qV at hF
 refine aJ Tryz.func106 rfl (by kernel_rfl) Tryz.ntmps106 rfl (fun w0 M0=>?_)
 refine aO (aT (aU (bA (.inr rfl)) ⟨cR (mZ cQ),trivial⟩ ?_))
 refine bC (aQ (aO (aT (rA (mZ cQ) 24 rfl ?_))))
 refine go ?_ ?_
 refine aP (bH (fun H E=>∃(x17:List (List Rat)),∃(b18:Option Nat),∃(c19:Nat),∃(n20:Nat),qI K x17=some r∧x17.length=n20∧H=[hO (mZ cQ) b18 c19 24 n20 x17]∧E=[(3,.vc (pO b18 n20 c19))]) ?_ (fun Jj24=>?_))
 ·rintro _ _ ⟨x17,b18,c19,n20,hF,q21,rfl,rfl⟩
  unfold qI at hF
  refine go ?_ ?_
  refine qY (rC (vR 0 [2,3,33] rfl q21 ⟨rfl,rfl,rfl,trivial⟩ rfl ?_))
  obtain rfl:=l7 hF
  exact oE (.inl rfl) Tryz.results106 (.tmp rfl .nil) rfl rfl
 obtain⟨x17',hL,hRl23⟩:=aV hF
 refine eM (fun k a w=>∃(x10:List (List Rat)),∃(x16:Int),∃(b11:Option Nat),∃(c12:Nat),∃(n13:Nat),gI K a0 k x10 x16=some x17'∧x10.length=n13∧hs _ [hO (mZ cQ) b11 c12 24 n13 x10] [(0,.vc (pS (mZ cQ) a0)),(3,.vc (pO b11 n13 c12)),(4,.vc (pI .i64 x16))] a w) K (fun a w ⟨_,_,_,_,_,hF,_,_⟩=>by cases hF) (fun k a w ⟨x10,x16,b11,c12,n13,hF,q14,hh⟩=>eK ?_ hh) (fun a w hh=>⟨([]:List (List Rat)),0,none,0,0,hL,rfl,dS [0] hh⟩)
 rw [gI.eq_2] at hF
 obtain⟨v25,h26,hF⟩:=aZ hF aBT
 refine go ?_ ?_
 refine aK hF rfl (fun h27 hF=>?_) (fun h27 hF=>?_)
 ·refine go ?_ ?_
  refine aP (aO (aT (rA cQ 44 rfl ?_)))
  refine go ?_ ?_
  refine aP (bH (fun H E=>∃(x44:List Rat),∃(b45:Option Nat),∃(c46:Nat),∃(n47:Nat),qJ K x10 x16 (gI K a0 k) x44=some x17'∧x44.length=n47∧H=[hO cQ b45 c46 44 n47 x44,hO (mZ cQ) b11 c12 24 n13 x10]∧E=[(0,.vc (pS (mZ cQ) a0)),(3,.vc (pO b11 n13 c12)),(4,.vc (pI .i64 x16)),(5,.vc (pO b45 n47 c46))]) ?_ (fun Jj51=>?_))
  ·rintro _ _ ⟨x44,b45,c46,n47,hF,q48,rfl,rfl⟩
   unfold qJ at hF
   refine aQ (aT (fY ?_))
   refine fY ?_
   refine xB 0 [5,30] rfl q48 zU2 rfl ?_
   refine aU (hU (C:=(mZ cQ)) (xs:=[.tmp 30]) (ps:=[.vc (pS cQ x44)]) (zs:=[x44]) rfl tyS62 rfl ⟨⟨trivial,rfl⟩,trivial⟩ rfl) zU1 ?_
   obtain⟨x52,h53,hF⟩:=aV hF
   refine gJ 0 rfl tyS62 rfl rfl q14 rfl rfl h53 (fun b54 c55 H56 e57=>?_)
   cases e57
   obtain⟨v59,h60,hF⟩:=aV hF
   refine go ?_ ?_
   exact aN (fun a w hh=>⟨x52,v59,b54,c55,(n13+[x44].length),hF,(bK h53 q14),dS [0] hh⟩)
  obtain⟨x44',hL,hRl50⟩:=aV hF
  refine eM (fun k a w=>∃(x37:List Rat),∃(x43:Int),∃(b38:Option Nat),∃(c39:Nat),∃(n40:Nat),iX K a0 x16 k x37 x43=some x44'∧x37.length=n40∧hs _ [hO cQ b38 c39 44 n40 x37,hO (mZ cQ) b11 c12 24 n13 x10] [(0,.vc (pS (mZ cQ) a0)),(3,.vc (pO b11 n13 c12)),(4,.vc (pI .i64 x16)),(5,.vc (pO b38 n40 c39)),(6,.vc (pI .i64 x43))] a w) K (fun a w ⟨_,_,_,_,_,hF,_,_⟩=>by cases hF) (fun k a w ⟨x37,x43,b38,c39,n40,hF,q41,hh⟩=>eK ?_ hh) (fun a w hh=>⟨([]:List Rat),0,none,0,0,hL,rfl,dS [0,1] hh⟩)
  rw [iX.eq_2] at hF
  refine go ?_ ?_
  refine aK hF rfl (fun h61 hF=>?_) (fun h61 hF=>?_)
  ·refine go ?_ ?_
   refine aP ?_
   obtain⟨v62,h63,v64,h65,hF⟩:=vB hF
   refine go ?_ ?_
   refine aU (hU (C:=cQ) (xs:=[.tmp 26]) (ps:=[.va (eQ v64)]) (zs:=[v64]) rfl tyS24 rfl ⟨⟨trivial,rfl⟩,trivial⟩ rfl) zU1 ?_
   obtain⟨x66,h67,hF⟩:=aV hF
   refine gJ 0 rfl tyS24 rfl rfl q41 rfl rfl h67 (fun b68 c69 H70 e71=>?_)
   cases e71
   obtain⟨v73,h74,hF⟩:=aV hF
   refine go ?_ ?_
   exact aN (fun a w hh=>⟨x66,v73,b68,c69,(n40+[v64].length),hF,(bK h67 q41),dS [0,1] hh⟩)
  refine bY ?_
  obtain rfl:=l7 hF
  exact m5 Jj51 ⟨x37,b38,c39,n40,hRl50,q41,rfl,rfl⟩ [0,1]
 refine bY ?_
 obtain rfl:=l7 hF
 exact m5 Jj24 ⟨x10,b11,c12,n13,hRl23,q14,rfl,rfl⟩ [0]
def nG (K:Nat) (v11:List Rat) (x29:List (List Rat)):Option ((List (List Rat))×(List Rat)):=
 (qV K x29).bind fun v37=>some (v37,v11)
def nA (K:Nat) (x22:List (List Rat)) (x28:Int) (recl35:(List (List Rat))→Int→Option (List (List Rat))) (x70:List Rat):Option (List (List Rat)):=
 (oT x22 [x70]).bind fun x78=>(aY (x28+1)).bind fun v85=>recl35 x78 v85
def gC (K:Nat) (v4:List aL) (v11:List Rat) (v52:List Rat):Nat→(List Rat)→Int→Option (List Rat)
 |0,_,_=>none
 |k+1,x63,x69=>bif(decide (x69<(v4.length:Int))) then((bU v52 x69).bind fun v90=>(bU v11 x69).bind fun v92=>(aEK v90 v92).bind fun v94=>(oT x63 [v94]).bind fun x96=>(aY (x69+1)).bind fun v103=>gC K v4 v11 v52 k x96 v103) else(some x63)
def eO (K:Nat) (a0:List aF) (a1:List Rat) (a2:List Rat) (a3:List aA) (v4:List aL) (v11:List Rat):Nat→(List (List Rat))→Int→Option (List (List Rat))
 |0,_,_=>none
 |k+1,x22,x28=>bif(decide (x28<(v4.length:Int))) then((xI (v4.length:Int) 0).bind fun x40=>(qof 1 1).bind fun v45=>(bU x40 x28).bind fun v47=>(p9 x40 x28 v45).bind fun x49=>(kK K a0 a1 a2 a3 x49).bind fun v52=>(gC K v4 v11 v52 K ([]:List Rat) 0).bind fun x70=>nA K x22 x28 (eO K a0 a1 a2 a3 v4 v11 k) x70) else(some x22)
def nM (K:Nat) (a0:List aF) (a1:List Rat) (a2:List Rat) (a3:List aA):Option ((List (List Rat))×(List Rat)):=
 (o6 K a0 a1 a2 a3).bind fun v1=>bif(!v1) then(some ([],[])) else((gK K a2 a3).bind fun v4=>(xI (v4.length:Int) 0).bind fun x6=>(kK K a0 a1 a2 a3 x6).bind fun v11=>(eO K a0 a1 a2 a3 v4 v11 K ([]:List (List Rat)) 0).bind fun x29=>nG K v11 x29)
theorem aAX {K:Nat} {a0:List aF} {a1:List Rat} {a2:List Rat} {a3:List aA} {r:(List (List Rat))×(List Rat)} (hF:nM K a0 a1 a2 a3=some r):Ct Tryz.prog 37 [.vc (pS aF.cod a0),.vc (pS cQ a1),.vc (pS cQ a2),.vc (pS aA.cod a3)] (.t2 (.vc (pS (mZ cQ) r.1)) (.vc (pS cQ r.2))):=by
 unfold nM at hF
 refine aJ Tryz.func37 rfl (by kernel_rfl) Tryz.ntmps37 rfl (fun w0 M0=>?_)
 refine aO (aT (aU (bA (.inr rfl)) ⟨cR (mZ cQ),trivial⟩ ?_))
 refine aU (bA (.inr rfl)) ⟨cR cQ,trivial⟩ ?_
 obtain⟨v1,h2,hF⟩:=aZ hF y5
 refine go ?_ ?_
 refine aK hF rfl (fun h3 hF=>?_) (fun h3 hF=>?_)
 ·refine aO (aT (aU (bA (.inr rfl)) ⟨cR (mZ cQ),trivial⟩ ?_))
  refine aU (bA (.inr rfl)) ⟨cR cQ,trivial⟩ ?_
  refine bC (aQ ?_)
  exact bN
 obtain⟨v4,h5,hF⟩:=aZ hF o5
 obtain⟨x6,h7,hF⟩:=aV hF
 refine go ?_ ?_
 refine s7 (C:=cQ) rfl tyS24 rfl tyZ44q rfl h7 (fun b8=>?_)
 refine xB 0 [33] rfl rfl zU1 rfl ?_
 obtain⟨v11,h12,hF⟩:=aZ hF xA
 refine aU (bF rfl h12 rfl) ⟨rfl,rfl,rfl,rfl,rfl,trivial⟩ ?_
 refine zI ?_
 refine bC (aQ (aO (aT (rA (mZ cQ) 24 rfl ?_))))
 refine go ?_ ?_
 refine aP (bH (fun H E=>∃(x29:List (List Rat)),∃(b30:Option Nat),∃(c31:Nat),∃(n32:Nat),nG K v11 x29=some r∧x29.length=n32∧H=[hO (mZ cQ) b30 c31 24 n32 x29]∧E=[(11,.vc (pS cQ v11)),(12,.vc (pO b30 n32 c31))]) ?_ (fun Jj36=>?_))
 ·rintro _ _ ⟨x29,b30,c31,n32,hF,q33,rfl,rfl⟩
  unfold nG at hF
  refine aQ (aO (aT (fY ?_)))
  refine xB 0 [12,73] rfl q33 zU2 rfl ?_
  obtain⟨v37,h38,hF⟩:=aZ hF aB4
  exact bN
 obtain⟨x29',hL,hRl35⟩:=aV hF
 refine eM (fun k a w=>∃(x22:List (List Rat)),∃(x28:Int),∃(b23:Option Nat),∃(c24:Nat),∃(n25:Nat),eO K a0 a1 a2 a3 v4 v11 k x22 x28=some x29'∧x22.length=n25∧hs _ [hO (mZ cQ) b23 c24 24 n25 x22] [(0,.vc (pS aF.cod a0)),(1,.vc (pS cQ a1)),(2,.vc (pS cQ a2)),(3,.vc (pS aA.cod a3)),(10,.vc (pI .i64 (v4.length:Int))),(11,.vc (pS cQ v11)),(12,.vc (pO b23 n25 c24)),(13,.vc (pI .i64 x28))] a w) K (fun a w ⟨_,_,_,_,_,hF,_,_⟩=>by cases hF) (fun k a w ⟨x22,x28,b23,c24,n25,hF,q26,hh⟩=>eK ?_ hh) (fun a w hh=>⟨([]:List (List Rat)),0,none,0,0,hL,rfl,dS [0] hh⟩)
 rw [eO.eq_2] at hF
 refine go ?_ ?_
 refine aK hF rfl (fun h39 hF=>?_) (fun h39 hF=>?_)
 ·refine go ?_ ?_
  refine aP ?_
  have hF:=nP h7 hF
  refine go ?_ ?_
  refine s7 (C:=cQ) rfl tyS24 rfl tyZ44q rfl h7 (fun b42=>?_)
  refine zI ?_
  refine bC (aQ (aO (aT (fY ?_))))
  refine fY ?_
  obtain⟨v45,h46,hF⟩:=aZ hF bP
  refine aU (bF rfl h46 rfl) ⟨jC _ _,jC _ _,trivial⟩ ?_
  obtain⟨v47,h48,hF⟩:=aV hF
  refine aU (l5 (C:=cQ) 0 rfl tyS24 rfl rfl (a8 h48).1 (a8 h48).2.1) zU2 ?_
  obtain⟨x49,h50,hF⟩:=aV hF
  refine l6 (xD 0 rfl rfl h48 h50 tyA44.s) zU2 ?_
  refine bC (aQ (aO (aT (fY ?_))))
  refine fY ?_
  refine fY ?_
  refine fY ?_
  refine fY ?_
  refine xB 0 [14,41,42,50] rfl (bI h50 rfl) ⟨rfl,rfl,rfl,rfl,trivial⟩ rfl ?_
  obtain⟨v52,h53,hF⟩:=aZ hF xA
  refine aU (bF rfl h53 rfl) ⟨rfl,rfl,rfl,rfl,rfl,trivial⟩ ?_
  refine zI ?_
  refine bC (aQ (aO (aT (rA cQ 44 rfl ?_))))
  refine go ?_ ?_
  refine aP (bH (fun H E=>∃(x70:List Rat),∃(b71:Option Nat),∃(c72:Nat),∃(n73:Nat),nA K x22 x28 (eO K a0 a1 a2 a3 v4 v11 k) x70=some x29'∧x70.length=n73∧H=[hO cQ b71 c72 44 n73 x70,hO (mZ cQ) b23 c24 24 n25 x22]∧E=[(0,.vc (pS aF.cod a0)),(1,.vc (pS cQ a1)),(2,.vc (pS cQ a2)),(3,.vc (pS aA.cod a3)),(10,.vc (pI .i64 (v4.length:Int))),(11,.vc (pS cQ v11)),(12,.vc (pO b23 n25 c24)),(13,.vc (pI .i64 x28)),(16,.vc (pO b71 n73 c72))]) ?_ (fun Jj77=>?_))
  ·rintro _ _ ⟨x70,b71,c72,n73,hF,q74,rfl,rfl⟩
   unfold nA at hF
   refine aQ (aT (fY ?_))
   refine fY ?_
   refine xB 0 [16,70] rfl q74 zU2 rfl ?_
   refine aU (hU (C:=(mZ cQ)) (xs:=[.tmp 70]) (ps:=[.vc (pS cQ x70)]) (zs:=[x70]) rfl tyS62 rfl ⟨⟨trivial,rfl⟩,trivial⟩ rfl) zU1 ?_
   obtain⟨x78,h79,hF⟩:=aV hF
   refine gJ 0 rfl tyS62 rfl rfl q26 rfl rfl h79 (fun b80 c81 H82 e83=>?_)
   cases e83
   obtain⟨v85,h86,hF⟩:=aV hF
   refine go ?_ ?_
   exact aN (fun a w hh=>⟨x78,v85,b80,c81,(n25+[x70].length),hF,(bK h79 q26),dS [0] hh⟩)
  obtain⟨x70',hL,hRl76⟩:=aV hF
  refine eM (fun k a w=>∃(x63:List Rat),∃(x69:Int),∃(b64:Option Nat),∃(c65:Nat),∃(n66:Nat),gC K v4 v11 v52 k x63 x69=some x70'∧x63.length=n66∧hs _ [hO cQ b64 c65 44 n66 x63,hO (mZ cQ) b23 c24 24 n25 x22] [(0,.vc (pS aF.cod a0)),(1,.vc (pS cQ a1)),(2,.vc (pS cQ a2)),(3,.vc (pS aA.cod a3)),(10,.vc (pI .i64 (v4.length:Int))),(11,.vc (pS cQ v11)),(12,.vc (pO b23 n25 c24)),(13,.vc (pI .i64 x28)),(15,.vc (pS cQ v52)),(16,.vc (pO b64 n66 c65)),(17,.vc (pI .i64 x69))] a w) K (fun a w ⟨_,_,_,_,_,hF,_,_⟩=>by cases hF) (fun k a w ⟨x63,x69,b64,c65,n66,hF,q67,hh⟩=>eK ?_ hh) (fun a w hh=>⟨([]:List Rat),0,none,0,0,hL,rfl,dS [0,1] hh⟩)
  rw [gC.eq_2] at hF
  refine go ?_ ?_
  refine aK hF rfl (fun h87 hF=>?_) (fun h87 hF=>?_)
  ·refine go ?_ ?_
   refine aP ?_
   obtain⟨v90,h91,hF⟩:=aV hF
   obtain⟨v92,h93,hF⟩:=aV hF
   obtain⟨v94,h95,hF⟩:=aZ hF q9
   refine hY [0,0,0,6,14,0,0,96,224,510,1022,2047,4095] 11 2 [.v (.vc (pO b64 n66 c65)),.v (.vc (pS cQ v52)),.v (.vc (pI .i64 x69)),.v (.vc (pM (cQ.e v90))),.v (.va (eQ v90)),.v (.vc (pS cQ v11)),.v (.vc (pI .i64 x69)),.v (.vc (pM (cQ.e v92))),.v (.va (eQ v92)),.v (.va (eQ v94)),.v (.vc (pS cQ [v94]))] a9 ⟨d0 (bA (.inl rfl)) zU1,d0 (bA (.inl rfl)) zU1,d0 (bA (.inl rfl)) zU1,d0 (vJ rfl tyS24 h91) zU2,d0 (uO 4 rfl rfl (.agg tyA44)) zU1,d0 (bA (.inl rfl)) zU1,d0 (bA (.inl rfl)) zU1,d0 (vJ rfl tyS24 h93) zU2,d0 (uO 4 rfl rfl (.agg tyA44)) zU1,d0 (bF rfl h95 rfl) zU2,d0 (hU (C:=cQ) (xs:=[.tmp 66]) (ps:=[.va (eQ v94)]) (zs:=[v94]) rfl tyS24 rfl ⟨⟨trivial,rfl⟩,trivial⟩ rfl) zU1,trivial⟩ (fun bs89 G88=>?_)
   obtain⟨x96,h97,hF⟩:=aV hF
   refine gJ 0 rfl tyS24 rfl rfl q67 rfl rfl h97 (fun b98 c99 H100 e101=>?_)
   cases e101
   obtain⟨v103,h104,hF⟩:=aV hF
   refine go ?_ ?_
   exact aN (fun a w hh=>⟨x96,v103,b98,c99,(n66+[v94].length),hF,(bK h97 q67),dS [0,1] hh⟩)
  refine bY ?_
  obtain rfl:=l7 hF
  exact m5 Jj77 ⟨x63,b64,c65,n66,hRl76,q67,rfl,rfl⟩ [0,1]
 refine bY ?_
 obtain rfl:=l7 hF
 exact m5 Jj36 ⟨x22,b23,c24,n25,hRl35,q26,rfl,rfl⟩ [0]
def rK (K:Nat):Option Bool:=
 some true
def jS (K:Nat) (a0:List Rat):Nat→Int→Option (LR Bool Unit)
 |0,_=>none
 |k+1,x2=>bif(decide (x2<(a0.length:Int))) then((bU a0 x2).bind fun v6=>(aBv v6).bind fun v8=>bif(!v8) then(some (.ret false)) else((aY (x2+1)).bind fun v11=>jS K a0 k v11)) else(some (.go ()))
def nR (K:Nat) (a0:List Rat):Option Bool:=
 (jS K a0 K 0).bind fun o=>match o with| .ret r=>some r| .go _=>rK K
theorem yF {K:Nat} {a0:List Rat} {r:Bool} (hF:nR K a0=some r):Ct Tryz.prog 234 [.vc (pS cQ a0)] (.vc (pB r)):=by
 unfold nR at hF
 refine aJ Tryz.func234 rfl (by kernel_rfl) Tryz.ntmps234 rfl (fun w0 M0=>?_)
 refine go ?_ ?_
 refine aP (bH (fun H E=>rK K=some r∧H=[]∧E=[]) ?_ (fun Jj4=>?_))
 ·rintro _ _ ⟨hF,rfl,rfl⟩
  unfold rK at hF
  exact bN
 obtain⟨ol3,hL,hRl3⟩:=aV hF
 refine eM (fun k a w=>∃(x2:Int),jS K a0 k x2=some ol3∧hs _ [] [(0,.vc (pS cQ a0)),(3,.vc (pI .i64 x2))] a w) K (fun a w ⟨_,hF,_⟩=>by cases hF) (fun k a w ⟨x2,hF,hh⟩=>eK ?_ hh) (fun a w hh=>⟨0,hL,dS [] hh⟩)
 rw [jS.eq_2] at hF
 refine go ?_ ?_
 refine aK hF rfl (fun h5 hF=>?_) (fun h5 hF=>?_)
 ·refine go ?_ ?_
  refine aP ?_
  obtain⟨v6,h7,hF⟩:=aV hF
  obtain⟨v8,h9,hF⟩:=aZ hF oR
  refine go ?_ ?_
  refine aK hF rfl (fun h10 hF=>?_) (fun h10 hF=>?_)
  ·exact bN
  obtain⟨v11,h12,hF⟩:=aV hF
  refine go ?_ ?_
  exact aN (fun a w hh=>⟨v11,hF,dS [] hh⟩)
 refine bY ?_
 obtain rfl:=l7 hF
 exact m5 Jj4 ⟨hRl3,rfl,rfl⟩ []
def qE (K:Nat):Option Bool:=
 some true
def jA (K:Nat) (a0:List (List Rat)) (a1:List Rat):Nat→Int→Option (LR Bool Unit)
 |0,_=>none
 |k+1,x7=>bif(decide (x7<(a0.length:Int))) then((bU a0 x7).bind fun v11=>bif((v11.length:Int) != (a1.length:Int)) then(some (.ret false)) else((bU a0 x7).bind fun v14=>(nR K v14).bind fun v16=>bif(!v16) then(some (.ret false)) else((aY (x7+1)).bind fun v19=>jA K a0 a1 k v19))) else(some (.go ()))
def p6 (K:Nat) (a0:List (List Rat)) (a1:List Rat):Option Bool:=
 bif((a0.length:Int) != (a1.length:Int)) then(some false) else(bif(decide (32<(a1.length:Int))) then(some false) else((nR K a1).bind fun v3=>bif(!v3) then(some false) else((jA K a0 a1 K 0).bind fun o=>match o with| .ret r=>some r| .go _=>qE K)))
theorem aBc {K:Nat} {a0:List (List Rat)} {a1:List Rat} {r:Bool} (hF:p6 K a0 a1=some r):Ct Tryz.prog 191 [.vc (pS (mZ cQ) a0),.vc (pS cQ a1)] (.vc (pB r)):=by
 unfold p6 at hF
 refine aJ Tryz.func191 rfl (by kernel_rfl) Tryz.ntmps191 rfl (fun w0 M0=>?_)
 refine go ?_ ?_
 refine cU hF (fun h1 hF=>?_) (fun h1 hF=>?_)
 ·refine go ?_ ?_
  refine gH rfl ?_
  exact bN
 refine go ?_ ?_
 refine cU hF (fun h2 hF=>?_) (fun h2 hF=>?_)
 ·refine go ?_ ?_
  refine gH rfl ?_
  exact bN
 obtain⟨v3,h4,hF⟩:=aZ hF yF
 refine go ?_ ?_
 refine aK hF rfl (fun h5 hF=>?_) (fun h5 hF=>?_)
 ·exact bN
 refine go ?_ ?_
 refine aP (bH (fun H E=>qE K=some r∧H=[]∧E=[]) ?_ (fun Jj9=>?_))
 ·rintro _ _ ⟨hF,rfl,rfl⟩
  unfold qE at hF
  exact bN
 obtain⟨ol8,hL,hRl8⟩:=aV hF
 refine eM (fun k a w=>∃(x7:Int),jA K a0 a1 k x7=some ol8∧hs _ [] [(0,.vc (pS (mZ cQ) a0)),(1,.vc (pS cQ a1)),(5,.vc (pI .i64 x7))] a w) K (fun a w ⟨_,hF,_⟩=>by cases hF) (fun k a w ⟨x7,hF,hh⟩=>eK ?_ hh) (fun a w hh=>⟨0,hL,dS [] hh⟩)
 rw [jA.eq_2] at hF
 refine go ?_ ?_
 refine aK hF rfl (fun h10 hF=>?_) (fun h10 hF=>?_)
 ·refine go ?_ ?_
  refine aP ?_
  obtain⟨v11,h12,hF⟩:=aV hF
  refine go ?_ ?_
  refine cU hF (fun h13 hF=>?_) (fun h13 hF=>?_)
  ·refine go ?_ ?_
   refine gH rfl ?_
   exact bN
  have hF:=nP h12 hF
  obtain⟨v16,h17,hF⟩:=aZ hF yF
  refine go ?_ ?_
  refine aK hF rfl (fun h18 hF=>?_) (fun h18 hF=>?_)
  ·exact bN
  obtain⟨v19,h20,hF⟩:=aV hF
  refine go ?_ ?_
  exact aN (fun a w hh=>⟨v19,hF,dS [] hh⟩)
 refine bY ?_
 obtain rfl:=l7 hF
 exact m5 Jj9 ⟨hRl8,rfl,rfl⟩ []
def nE (K:Nat):Option Bool:=
 some false
def gE (K:Nat) (a0:List Rat):Nat→Int→Option (LR Bool Unit)
 |0,_=>none
 |k+1,x2=>bif(decide (x2<(a0.length:Int))) then((bU a0 x2).bind fun v6=>(xV v6).bind fun v8=>bif(decide (v8<0)) then(some (.ret true)) else((aY (x2+1)).bind fun v11=>gE K a0 k v11)) else(some (.go ()))
def mH (K:Nat) (a0:List Rat):Option Bool:=
 (gE K a0 K 0).bind fun o=>match o with| .ret r=>some r| .go _=>nE K
theorem aAl {K:Nat} {a0:List Rat} {r:Bool} (hF:mH K a0=some r):Ct Tryz.prog 192 [.vc (pS cQ a0)] (.vc (pB r)):=by
 unfold mH at hF
 refine aJ Tryz.func192 rfl (by kernel_rfl) Tryz.ntmps192 rfl (fun w0 M0=>?_)
 refine go ?_ ?_
 refine aP (bH (fun H E=>nE K=some r∧H=[]∧E=[]) ?_ (fun Jj4=>?_))
 ·rintro _ _ ⟨hF,rfl,rfl⟩
  unfold nE at hF
  exact bN
 obtain⟨ol3,hL,hRl3⟩:=aV hF
 refine eM (fun k a w=>∃(x2:Int),gE K a0 k x2=some ol3∧hs _ [] [(0,.vc (pS cQ a0)),(3,.vc (pI .i64 x2))] a w) K (fun a w ⟨_,hF,_⟩=>by cases hF) (fun k a w ⟨x2,hF,hh⟩=>eK ?_ hh) (fun a w hh=>⟨0,hL,dS [] hh⟩)
 rw [gE.eq_2] at hF
 refine go ?_ ?_
 refine aK hF rfl (fun h5 hF=>?_) (fun h5 hF=>?_)
 ·refine go ?_ ?_
  refine aP ?_
  obtain⟨v6,h7,hF⟩:=aV hF
  obtain⟨v8,h9,hF⟩:=aZ hF jJ
  refine go ?_ ?_
  refine aK hF rfl (fun h10 hF=>?_) (fun h10 hF=>?_)
  ·exact bN
  obtain⟨v11,h12,hF⟩:=aV hF
  refine go ?_ ?_
  exact aN (fun a w hh=>⟨v11,hF,dS [] hh⟩)
 refine bY ?_
 obtain rfl:=l7 hF
 exact m5 Jj4 ⟨hRl3,rfl,rfl⟩ []
def pA (K:Nat):Option Bool:=
 some false
def fN (K:Nat) (a0:List Rat) (a1:List Rat):Nat→Int→Option (LR Bool Unit)
 |0,_=>none
 |k+1,x2=>bif(decide (x2<(a0.length:Int))) then(bif(decide (x2<(a1.length:Int))) then((bU a0 x2).bind fun v9=>(bU a1 x2).bind fun v11=>(aFI v9 v11).bind fun v13=>bif(v13 != 0) then(some (.ret (decide (v13<0)))) else((aY (x2+1)).bind fun v16=>fN K a0 a1 k v16)) else(some (.go ()))) else(some (.go ()))
def kE (K:Nat) (a0:List Rat) (a1:List Rat):Option Bool:=
 (fN K a0 a1 K 0).bind fun o=>match o with| .ret r=>some r| .go _=>pA K
theorem w9 {K:Nat} {a0:List Rat} {a1:List Rat} {r:Bool} (hF:kE K a0 a1=some r):Ct Tryz.prog 193 [.vc (pS cQ a0),.vc (pS cQ a1)] (.vc (pB r)):=by
 unfold kE at hF
 refine aJ Tryz.func193 rfl (by kernel_rfl) Tryz.ntmps193 rfl (fun w0 M0=>?_)
 refine go ?_ ?_
 refine aP (bH (fun H E=>pA K=some r∧H=[]∧E=[]) ?_ (fun Jj4=>?_))
 ·rintro _ _ ⟨hF,rfl,rfl⟩
  unfold pA at hF
  exact bN
 obtain⟨ol3,hL,hRl3⟩:=aV hF
 refine eM (fun k a w=>∃(x2:Int),fN K a0 a1 k x2=some ol3∧hs _ [] [(0,.vc (pS cQ a0)),(1,.vc (pS cQ a1)),(5,.vc (pI .i64 x2))] a w) K (fun a w ⟨_,hF,_⟩=>by cases hF) (fun k a w ⟨x2,hF,hh⟩=>eK ?_ hh) (fun a w hh=>⟨0,hL,dS [] hh⟩)
 rw [fN.eq_2] at hF
 refine go ?_ ?_
 refine cU hF (fun h5 hF=>?_) (fun h5 hF=>?_)
 ·refine go ?_ ?_
  refine aK hF rfl (fun h6 hF=>?_) (fun h6 hF=>?_)
  ·refine go ?_ ?_
   refine aP (aO ?_)
   obtain⟨v9,h10,hF⟩:=aV hF
   obtain⟨v11,h12,hF⟩:=aV hF
   obtain⟨v13,h14,hF⟩:=aZ hF aAN
   refine dr [0,0,3,7,0,0,48,112,255,511] 10 0 ?_ (fun bs8 G7=>?_)
   refine go ?_ ?_
   refine aK hF rfl (fun h15 hF=>?_) (fun h15 hF=>?_)
   ·exact bN
   obtain⟨v16,h17,hF⟩:=aV hF
   refine go ?_ ?_
   exact aN (fun a w hh=>⟨v16,hF,dS [] hh⟩)
  refine bY ?_
  obtain rfl:=l7 hF
  exact m5 Jj4 ⟨hRl3,rfl,rfl⟩ []
 refine go ?_ ?_
 refine tW rfl ?_
 refine bY ?_
 obtain rfl:=l7 hF
 exact m5 Jj4 ⟨hRl3,rfl,rfl⟩ []
def rD (K:Nat) (x29:List Rat):Option (List Rat):=
 some x29
def jP (K:Nat) (a0:List Rat) (a1:Int) (a2:Rat):Nat→(List Rat)→Int→Option (List Rat)
 |0,_,_=>none
 |k+1,x22,x28=>bif(decide (x28<a1)) then((bU a0 x28).bind fun v40=>(aFN v40 a2).bind fun v42=>(oT x22 [v42]).bind fun x44=>(aY (x28+1)).bind fun v51=>jP K a0 a1 a2 k x44 v51) else(some x22)
def lB (K:Nat) (a0:List Rat) (a1:Int) (a2:Rat):Option (List Rat):=
 (aY (2*a1)).bind fun v4=>(aY (v4+1)).bind fun v6=>(bU a0 v6).bind fun v8=>(aFN v8 a2).bind fun v10=>(jP K a0 a1 a2 K [v10] 0).bind fun x29=>rD K x29
theorem tL {K:Nat} {a0:List Rat} {a1:Int} {a2:Rat} {r:List Rat} (hF:lB K a0 a1 a2=some r):Ct Tryz.prog 194 [.vc (pS cQ a0),.vc (pI .i64 a1),.va (eQ a2)] (.vc (pS cQ r)):=by
 unfold lB at hF
 refine aJ Tryz.func194 rfl (by kernel_rfl) Tryz.ntmps194 rfl (fun w0 M0=>?_)
 refine aO (aT (cB rfl rfl trivial (fun b1=>?_)))
 refine aU (bA (.inr rfl)) ⟨cR cQ,trivial⟩ ?_
 obtain⟨v4,h5,v6,h7,v8,h9,hF⟩:=bn3 hF
 obtain⟨v10,h11,hF⟩:=aZ hF vZ
 refine go ?_ ?_
 refine dr [0,0,2,6,15,31,0,127,255,511] 8 2 ?_ (fun bs3 G2=>?_)
 refine aDZ (yK (C:=cQ) (xs:=[.tmp 16]) (ps:=[.va (eQ v10)]) (zs:=[v10]) rfl tyS24 rfl ⟨⟨trivial,rfl⟩,trivial⟩ rfl) zU1 (fun b12 _=>?_)
 refine go ?_ ?_
 refine aP (bH (fun H E=>∃(x29:List Rat),∃(b30:Option Nat),∃(c31:Nat),∃(n32:Nat),rD K x29=some r∧x29.length=n32∧H=[hO cQ b30 c31 44 n32 x29]∧E=[(7,.vc (pO b30 n32 c31))]) ?_ (fun Jj36=>?_))
 ·rintro _ _ ⟨x29,b30,c31,n32,hF,q33,rfl,rfl⟩
  unfold rD at hF
  refine go ?_ ?_
  refine qY (rC (vR 0 [6,7,32] rfl q33 ⟨rfl,rfl,rfl,trivial⟩ rfl ?_))
  obtain rfl:=l7 hF
  exact oE (.inl rfl) Tryz.results194 (.tmp rfl .nil) rfl rfl
 obtain⟨x29',hL,hRl35⟩:=aV hF
 refine eM (fun k a w=>∃(x22:List Rat),∃(x28:Int),∃(b23:Option Nat),∃(c24:Nat),∃(n25:Nat),jP K a0 a1 a2 k x22 x28=some x29'∧x22.length=n25∧hs _ [hO cQ b23 c24 44 n25 x22,⟨some b1,1,44,4,1,(eQ a2)⟩] [(0,.vc (pS cQ a0)),(1,.vc (pI .i64 a1)),(5,.vc (pP (some b1) 0)),(7,.vc (pO b23 n25 c24)),(8,.vc (pI .i64 x28))] a w) K (fun a w ⟨_,_,_,_,_,hF,_,_⟩=>by cases hF) (fun k a w ⟨x22,x28,b23,c24,n25,hF,q26,hh⟩=>eK ?_ hh) (fun a w hh=>⟨[v10],0,b12,1,1,hL,rfl,dS [0,1] hh⟩)
 rw [jP.eq_2] at hF
 refine go ?_ ?_
 refine aK hF rfl (fun h37 hF=>?_) (fun h37 hF=>?_)
 ·refine go ?_ ?_
  refine aP ?_
  obtain⟨v40,h41,hF⟩:=aV hF
  obtain⟨v42,h43,hF⟩:=aZ hF vZ
  refine hY [0,0,0,6,14,0,62,126,255,511] 8 2 [.v (.vc (pO b23 n25 c24)),.v (.vc (pS cQ a0)),.v (.vc (pI .i64 x28)),.v (.vc (pM (cQ.e v40))),.v (.va (eQ v40)),.v (.va (eQ a2)),.v (.va (eQ v42)),.v (.vc (pS cQ [v42]))] a9 ⟨d0 (bA (.inl rfl)) zU1,d0 (bA (.inl rfl)) zU1,d0 (bA (.inl rfl)) zU1,d0 (vJ rfl tyS24 h41) zU2,d0 (uO 4 rfl rfl (.agg tyA44)) zU1,d0 (eW 1 4 rfl rfl rfl rfl (.agg tyA44)) zU1,d0 (bF rfl h43 rfl) zU2,d0 (hU (C:=cQ) (xs:=[.tmp 29]) (ps:=[.va (eQ v42)]) (zs:=[v42]) rfl tyS24 rfl ⟨⟨trivial,rfl⟩,trivial⟩ rfl) zU1,trivial⟩ (fun bs39 G38=>?_)
  obtain⟨x44,h45,hF⟩:=aV hF
  refine gJ 0 rfl tyS24 rfl rfl q26 rfl rfl h45 (fun b46 c47 H48 e49=>?_)
  cases e49
  obtain⟨v51,h52,hF⟩:=aV hF
  refine go ?_ ?_
  exact aN (fun a w hh=>⟨x44,v51,b46,c47,(n25+[v42].length),hF,(bK h45 q26),dS [0,1] hh⟩)
 refine bY ?_
 obtain rfl:=l7 hF
 exact m5 Jj36 ⟨x22,b23,c24,n25,hRl35,q26,rfl,rfl⟩ [0]
def o9 (K:Nat) (x41:List (List Rat)):Option (List (List Rat)):=
 some x41
def pK (K:Nat) (x34:List (List Rat)) (x40:Int) (recl47:(List (List Rat))→Int→Option (List (List Rat))) (x76:List Rat):Option (List (List Rat)):=
 (oT x34 [x76]).bind fun x84=>(aY (x40+1)).bind fun v91=>recl47 x84 v91
def iG (K:Nat) (a0:List (List Rat)) (a2:Int) (x17:List Rat) (x40:Int):Nat→(List Rat)→Int→Option (List Rat)
 |0,_,_=>none
 |k+1,x69,x75=>bif(decide (x75<(x17.length:Int))) then((bU a0 x40).bind fun v96=>(bU v96 x75).bind fun v98=>(bU a0 x40).bind fun v100=>(bU v100 a2).bind fun v102=>(bU x17 x75).bind fun v104=>(aAg v102 v104).bind fun v106=>(aEK v98 v106).bind fun v108=>(oT x69 [v108]).bind fun x110=>(aY (x75+1)).bind fun v117=>iG K a0 a2 x17 x40 k x110 v117) else(some x69)
def dQ (K:Nat) (a0:List (List Rat)) (a1:Int) (a2:Int) (x17:List Rat):Nat→(List (List Rat))→Int→Option (List (List Rat))
 |0,_,_=>none
 |k+1,x34,x40=>bif(decide (x40<(a0.length:Int))) then(bif(x40==a1) then((oT x34 [x17]).bind fun x51=>(aY (x40+1)).bind fun v58=>dQ K a0 a1 a2 x17 k x51 v58) else((iG K a0 a2 x17 x40 K ([]:List Rat) 0).bind fun x76=>pK K x34 x40 (dQ K a0 a1 a2 x17 k) x76)) else(some x34)
def oY (K:Nat) (a0:List (List Rat)) (a1:Int) (a2:Int) (x17:List Rat):Option (List (List Rat)):=
 (dQ K a0 a1 a2 x17 K ([]:List (List Rat)) 0).bind fun x41=>o9 K x41
def iO (K:Nat) (a0:List (List Rat)) (a1:Int) (a2:Int):Nat→(List Rat)→Int→Option (List Rat)
 |0,_,_=>none
 |k+1,x10,x16=>(bU a0 a1).bind fun v119=>bif(decide (x16<(v119.length:Int))) then((bU a0 a1).bind fun v124=>(bU v124 x16).bind fun v126=>(bU a0 a1).bind fun v128=>(bU v128 a2).bind fun v130=>(aFN v126 v130).bind fun v132=>(oT x10 [v132]).bind fun x134=>(aY (x16+1)).bind fun v141=>iO K a0 a1 a2 k x134 v141) else(some x10)
def pZ (K:Nat) (a0:List (List Rat)) (a1:Int) (a2:Int):Option (List (List Rat)):=
 (iO K a0 a1 a2 K ([]:List Rat) 0).bind fun x17=>oY K a0 a1 a2 x17
theorem aBe {K:Nat} {a0:List (List Rat)} {a1:Int} {a2:Int} {r:List (List Rat)} (hF:pZ K a0 a1 a2=some r):Ct Tryz.prog 195 [.vc (pS (mZ cQ) a0),.vc (pI .i64 a1),.vc (pI .i64 a2)] (.vc (pS (mZ cQ) r)):=by
 unfold pZ at hF
 refine aJ Tryz.func195 rfl (by kernel_rfl) Tryz.ntmps195 rfl (fun w0 M0=>?_)
 refine aO (aT (aU (bA (.inr rfl)) ⟨cR (mZ cQ),trivial⟩ ?_))
 refine bC (aQ (aO (aT (rA cQ 44 rfl ?_))))
 refine go ?_ ?_
 refine aP (bH (fun H E=>∃(x17:List Rat),∃(b18:Option Nat),∃(c19:Nat),∃(n20:Nat),oY K a0 a1 a2 x17=some r∧x17.length=n20∧H=[hO cQ b18 c19 44 n20 x17]∧E=[(0,.vc (pS (mZ cQ) a0)),(1,.vc (pI .i64 a1)),(2,.vc (pI .i64 a2)),(7,.vc (pO b18 n20 c19))]) ?_ (fun Jj24=>?_))
 ·rintro _ _ ⟨x17,b18,c19,n20,hF,q21,rfl,rfl⟩
  unfold oY at hF
  refine aQ (aO (aT (rA (mZ cQ) 24 rfl ?_)))
  refine go ?_ ?_
  refine aP (aCP 1 [7] rfl q21 zU1 rfl ?_)
  refine bH (fun H E=>∃(x41:List (List Rat)),∃(b42:Option Nat),∃(c43:Nat),∃(n44:Nat),o9 K x41=some r∧x41.length=n44∧H=[hO (mZ cQ) b42 c43 24 n44 x41]∧E=[(9,.vc (pO b42 n44 c43))]) ?_ (fun Jj48=>?_)
  ·rintro _ _ ⟨x41,b42,c43,n44,hF,q45,rfl,rfl⟩
   unfold o9 at hF
   refine go ?_ ?_
   refine qY (rC (vR 0 [6,9,86] rfl q45 ⟨rfl,rfl,rfl,trivial⟩ rfl ?_))
   obtain rfl:=l7 hF
   exact oE (.inl rfl) Tryz.results195 (.tmp rfl .nil) rfl rfl
  obtain⟨x41',hL,hRl47⟩:=aV hF
  refine eM (fun k a w=>∃(x34:List (List Rat)),∃(x40:Int),∃(b35:Option Nat),∃(c36:Nat),∃(n37:Nat),dQ K a0 a1 a2 x17 k x34 x40=some x41'∧x34.length=n37∧hs _ [hO (mZ cQ) b35 c36 24 n37 x34] [(0,.vc (pS (mZ cQ) a0)),(1,.vc (pI .i64 a1)),(2,.vc (pI .i64 a2)),(7,.vc (pS cQ x17)),(9,.vc (pO b35 n37 c36)),(10,.vc (pI .i64 x40))] a w) K (fun a w ⟨_,_,_,_,_,hF,_,_⟩=>by cases hF) (fun k a w ⟨x34,x40,b35,c36,n37,hF,q38,hh⟩=>eK ?_ hh) (fun a w hh=>⟨([]:List (List Rat)),0,none,0,0,hL,rfl,dS [0] hh⟩)
  rw [dQ.eq_2] at hF
  refine go ?_ ?_
  refine aK hF rfl (fun h49 hF=>?_) (fun h49 hF=>?_)
  ·refine go ?_ ?_
   refine aP (go ?_ ?_)
   refine aK hF rfl (fun h50 hF=>?_) (fun h50 hF=>?_)
   ·refine go ?_ ?_
    refine aU (hU (C:=(mZ cQ)) (xs:=[.tmp 50]) (ps:=[.vc (pS cQ x17)]) (zs:=[x17]) rfl tyS62 rfl ⟨⟨trivial,rfl⟩,trivial⟩ rfl) zU1 ?_
    obtain⟨x51,h52,hF⟩:=aV hF
    refine gJ 0 rfl tyS62 rfl rfl q38 rfl rfl h52 (fun b53 c54 H55 e56=>?_)
    cases e56
    refine go ?_ ?_
    refine bY ?_
    obtain⟨v58,h59,hF⟩:=aV hF
    refine go ?_ ?_
    exact aN (fun a w hh=>⟨x51,v58,b53,c54,(n37+[x17].length),hF,(bK h52 q38),dS [0] hh⟩)
   refine jD (aQ (aO (aT (rA cQ 44 rfl ?_))))
   refine go ?_ ?_
   refine aP (bH (fun H E=>∃(x76:List Rat),∃(b77:Option Nat),∃(c78:Nat),∃(n79:Nat),pK K x34 x40 (dQ K a0 a1 a2 x17 k) x76=some x41'∧x76.length=n79∧H=[hO cQ b77 c78 44 n79 x76,hO (mZ cQ) b35 c36 24 n37 x34]∧E=[(0,.vc (pS (mZ cQ) a0)),(1,.vc (pI .i64 a1)),(2,.vc (pI .i64 a2)),(7,.vc (pS cQ x17)),(9,.vc (pO b35 n37 c36)),(10,.vc (pI .i64 x40)),(11,.vc (pO b77 n79 c78))]) ?_ (fun Jj83=>?_))
   ·rintro _ _ ⟨x76,b77,c78,n79,hF,q80,rfl,rfl⟩
    unfold pK at hF
    refine aQ (aT (fY ?_))
    refine fY ?_
    refine xB 0 [11,83] rfl q80 zU2 rfl ?_
    refine aU (hU (C:=(mZ cQ)) (xs:=[.tmp 83]) (ps:=[.vc (pS cQ x76)]) (zs:=[x76]) rfl tyS62 rfl ⟨⟨trivial,rfl⟩,trivial⟩ rfl) zU1 ?_
    obtain⟨x84,h85,hF⟩:=aV hF
    refine gJ 0 rfl tyS62 rfl rfl q38 rfl rfl h85 (fun b86 c87 H88 e89=>?_)
    cases e89
    obtain⟨v91,h92,hF⟩:=aV hF
    refine go ?_ ?_
    exact aN (fun a w hh=>⟨x84,v91,b86,c87,(n37+[x76].length),hF,(bK h85 q38),dS [0] hh⟩)
   obtain⟨x76',hL,hRl82⟩:=aV hF
   refine eM (fun k a w=>∃(x69:List Rat),∃(x75:Int),∃(b70:Option Nat),∃(c71:Nat),∃(n72:Nat),iG K a0 a2 x17 x40 k x69 x75=some x76'∧x69.length=n72∧hs _ [hO cQ b70 c71 44 n72 x69,hO (mZ cQ) b35 c36 24 n37 x34] [(0,.vc (pS (mZ cQ) a0)),(1,.vc (pI .i64 a1)),(2,.vc (pI .i64 a2)),(7,.vc (pS cQ x17)),(9,.vc (pO b35 n37 c36)),(10,.vc (pI .i64 x40)),(11,.vc (pO b70 n72 c71)),(12,.vc (pI .i64 x75))] a w) K (fun a w ⟨_,_,_,_,_,hF,_,_⟩=>by cases hF) (fun k a w ⟨x69,x75,b70,c71,n72,hF,q73,hh⟩=>eK ?_ hh) (fun a w hh=>⟨([]:List Rat),0,none,0,0,hL,rfl,dS [0,1] hh⟩)
   rw [iG.eq_2] at hF
   refine go ?_ ?_
   refine aK hF rfl (fun h93 hF=>?_) (fun h93 hF=>?_)
   ·refine go ?_ ?_
    refine aP ?_
    obtain⟨v96,h97,hF⟩:=aV hF
    obtain⟨v98,h99,hF⟩:=aV hF
    have hF:=nP h97 hF
    obtain⟨v102,h103,hF⟩:=aV hF
    obtain⟨v104,h105,hF⟩:=aV hF
    obtain⟨v106,h107,hF⟩:=aZ hF lT
    obtain⟨v108,h109,hF⟩:=aZ hF q9
    refine hY [0,0,0,6,14,0,62,126,0,0,768,1792,0,7936,16128,0,0,98304,229376,524032,1048574,2097150,4194303,8388607] 22 2 [.v (.vc (pO b70 n72 c71)),.v (.vc (pS (mZ cQ) a0)),.v (.vc (pI .i64 x40)),.v (.vc (pM ((mZ cQ).e v96))),.v (.vc (pS cQ v96)),.v (.vc (pI .i64 x75)),.v (.vc (pM (cQ.e v98))),.v (.va (eQ v98)),.v (.vc (pS (mZ cQ) a0)),.v (.vc (pI .i64 x40)),.v (.vc (pM ((mZ cQ).e v96))),.v (.vc (pS cQ v96)),.v (.vc (pI .i64 a2)),.v (.vc (pM (cQ.e v102))),.v (.va (eQ v102)),.v (.vc (pS cQ x17)),.v (.vc (pI .i64 x75)),.v (.vc (pM (cQ.e v104))),.v (.va (eQ v104)),.v (.va (eQ v106)),.v (.va (eQ v108)),.v (.vc (pS cQ [v108]))] a9 ⟨d0 (bA (.inl rfl)) zU1,d0 (bA (.inl rfl)) zU1,d0 (bA (.inl rfl)) zU1,d0 (vJ rfl tyS62 h97) zU2,d0 (uO 1 rfl rfl (.one tyO24)) zU1,d0 (bA (.inl rfl)) zU1,d0 (vJ rfl tyS24 h99) zU2,d0 (uO 4 rfl rfl (.agg tyA44)) zU1,d0 (bA (.inl rfl)) zU1,d0 (bA (.inl rfl)) zU1,d0 (vJ rfl tyS62 h97) zU2,d0 (uO 1 rfl rfl (.one tyO24)) zU1,d0 (bA (.inl rfl)) zU1,d0 (vJ rfl tyS24 h103) zU2,d0 (uO 4 rfl rfl (.agg tyA44)) zU1,d0 (bA (.inl rfl)) zU1,d0 (bA (.inl rfl)) zU1,d0 (vJ rfl tyS24 h105) zU2,d0 (uO 4 rfl rfl (.agg tyA44)) zU1,d0 (bF rfl h107 rfl) zU2,d0 (bF rfl h109 rfl) zU2,d0 (hU (C:=cQ) (xs:=[.tmp 79]) (ps:=[.va (eQ v108)]) (zs:=[v108]) rfl tyS24 rfl ⟨⟨trivial,rfl⟩,trivial⟩ rfl) zU1,trivial⟩ (fun bs95 G94=>?_)
    obtain⟨x110,h111,hF⟩:=aV hF
    refine gJ 0 rfl tyS24 rfl rfl q73 rfl rfl h111 (fun b112 c113 H114 e115=>?_)
    cases e115
    obtain⟨v117,h118,hF⟩:=aV hF
    refine go ?_ ?_
    exact aN (fun a w hh=>⟨x110,v117,b112,c113,(n72+[v108].length),hF,(bK h111 q73),dS [0,1] hh⟩)
   refine bY ?_
   obtain rfl:=l7 hF
   exact m5 Jj83 ⟨x69,b70,c71,n72,hRl82,q73,rfl,rfl⟩ [0,1]
  refine bY ?_
  obtain rfl:=l7 hF
  exact m5 Jj48 ⟨x34,b35,c36,n37,hRl47,q38,rfl,rfl⟩ [0]
 obtain⟨x17',hL,hRl23⟩:=aV hF
 refine eM (fun k a w=>∃(x10:List Rat),∃(x16:Int),∃(b11:Option Nat),∃(c12:Nat),∃(n13:Nat),iO K a0 a1 a2 k x10 x16=some x17'∧x10.length=n13∧hs _ [hO cQ b11 c12 44 n13 x10] [(0,.vc (pS (mZ cQ) a0)),(1,.vc (pI .i64 a1)),(2,.vc (pI .i64 a2)),(7,.vc (pO b11 n13 c12)),(8,.vc (pI .i64 x16))] a w) K (fun a w ⟨_,_,_,_,_,hF,_,_⟩=>by cases hF) (fun k a w ⟨x10,x16,b11,c12,n13,hF,q14,hh⟩=>eK ?_ hh) (fun a w hh=>⟨([]:List Rat),0,none,0,0,hL,rfl,dS [0] hh⟩)
 rw [iO.eq_2] at hF
 obtain⟨v119,h120,hF⟩:=aV hF
 refine go ?_ ?_
 refine aK hF rfl (fun h121 hF=>?_) (fun h121 hF=>?_)
 ·refine go ?_ ?_
  refine aP ?_
  have hF:=nP h120 hF
  obtain⟨v126,h127,hF⟩:=aV hF
  have hF:=nP h120 hF
  obtain⟨v130,h131,hF⟩:=aV hF
  obtain⟨v132,h133,hF⟩:=aZ hF vZ
  refine hY [0,0,0,6,14,0,62,126,0,0,768,1792,0,7936,16128,32766,65534,131071,262143] 17 2 [.v (.vc (pO b11 n13 c12)),.v (.vc (pS (mZ cQ) a0)),.v (.vc (pI .i64 a1)),.v (.vc (pM ((mZ cQ).e v119))),.v (.vc (pS cQ v119)),.v (.vc (pI .i64 x16)),.v (.vc (pM (cQ.e v126))),.v (.va (eQ v126)),.v (.vc (pS (mZ cQ) a0)),.v (.vc (pI .i64 a1)),.v (.vc (pM ((mZ cQ).e v119))),.v (.vc (pS cQ v119)),.v (.vc (pI .i64 a2)),.v (.vc (pM (cQ.e v130))),.v (.va (eQ v130)),.v (.va (eQ v132)),.v (.vc (pS cQ [v132]))] a9 ⟨d0 (bA (.inl rfl)) zU1,d0 (bA (.inl rfl)) zU1,d0 (bA (.inl rfl)) zU1,d0 (vJ rfl tyS62 h120) zU2,d0 (uO 1 rfl rfl (.one tyO24)) zU1,d0 (bA (.inl rfl)) zU1,d0 (vJ rfl tyS24 h127) zU2,d0 (uO 4 rfl rfl (.agg tyA44)) zU1,d0 (bA (.inl rfl)) zU1,d0 (bA (.inl rfl)) zU1,d0 (vJ rfl tyS62 h120) zU2,d0 (uO 1 rfl rfl (.one tyO24)) zU1,d0 (bA (.inl rfl)) zU1,d0 (vJ rfl tyS24 h131) zU2,d0 (uO 4 rfl rfl (.agg tyA44)) zU1,d0 (bF rfl h133 rfl) zU2,d0 (hU (C:=cQ) (xs:=[.tmp 37]) (ps:=[.va (eQ v132)]) (zs:=[v132]) rfl tyS24 rfl ⟨⟨trivial,rfl⟩,trivial⟩ rfl) zU1,trivial⟩ (fun bs123 G122=>?_)
  obtain⟨x134,h135,hF⟩:=aV hF
  refine gJ 0 rfl tyS24 rfl rfl q14 rfl rfl h135 (fun b136 c137 H138 e139=>?_)
  cases e139
  obtain⟨v141,h142,hF⟩:=aV hF
  refine go ?_ ?_
  exact aN (fun a w hh=>⟨x134,v141,b136,c137,(n13+[v132].length),hF,(bK h135 q14),dS [0] hh⟩)
 refine bY ?_
 obtain rfl:=l7 hF
 exact m5 Jj24 ⟨x10,b11,c12,n13,hRl23,q14,rfl,rfl⟩ [0]
def s9 (K:Nat):Option (aX×Int):=
 none
def n0 (K:Nat) (v95:Int) (x155:List Rat) (x161:List Rat):Option (LR (aX×Int) Unit):=
 some (.ret ((⟨x161,x155,v95⟩:aX),0))
def dZ (K:Nat) (a1:List Rat) (v93:List (List Rat)) (x101:List Int):Nat→(List Rat)→(List Rat)→Int→Option ((List Rat)×(List Rat))
 |0,_,_,_=>none
 |k+1,x142,x148,x154=>bif(decide (x154<(a1.length:Int))) then((bU x101 x154).bind fun v170=>bif(decide (v170<(a1.length:Int))) then((bU x101 x154).bind fun v175=>(bU v93 x154).bind fun v177=>(aY (2*(a1.length:Int))).bind fun v179=>(aY (v179+1)).bind fun v181=>(bU v177 v181).bind fun v183=>(bU x142 v175).bind fun v185=>(p9 x142 v175 v183).bind fun x187=>(aY (x154+1)).bind fun v190=>dZ K a1 v93 x101 k x187 x148 v190) else((bU x101 x154).bind fun v194=>(aY (v194-(a1.length:Int))).bind fun v196=>(bU v93 x154).bind fun v198=>(aY (2*(a1.length:Int))).bind fun v200=>(aY (v200+1)).bind fun v202=>(bU v198 v202).bind fun v204=>(bU x148 v196).bind fun v206=>(p9 x148 v196 v204).bind fun x208=>(aY (x154+1)).bind fun v211=>dZ K a1 v93 x101 k x142 x208 v211)) else(some (x142,x148))
def nZ (K:Nat) (v93:List (List Rat)) (v95:Int) (x101:List Int) (v217:Int) (recl90:(List Int)→(List (List Rat))→Int→Int→Int→Option (LR (aX×Int) Unit)) (x223:Int):Option (LR (aX×Int) Unit):=
 bif(decide (x223<0)) then(some (.ret ((⟨([]:List Rat),([]:List Rat),0⟩:aX),15))) else(recl90 x101 v93 x223 v217 v95)
def dE (K:Nat) (a1:List Rat) (v93:List (List Rat)) (v217:Int):Nat→Int→Int→Option Int
 |0,_,_=>none
 |k+1,x221,x222=>bif(decide (x222<(a1.length:Int))) then((bU v93 x222).bind fun v228=>(bU v228 v217).bind fun v230=>(xV v230).bind fun v232=>bif(decide (v232≤0)) then((aY (x222+1)).bind fun v235=>dE K a1 v93 v217 k x221 v235) else(bif(decide (x221<0)) then((aY (x222+1)).bind fun v240=>dE K a1 v93 v217 k x222 v240) else((bU v93 x222).bind fun v242=>(bU v93 x222).bind fun v244=>(bU v244 v217).bind fun v246=>(lB K v242 (a1.length:Int) v246).bind fun v248=>(bU v93 x221).bind fun v250=>(bU v93 x221).bind fun v252=>(bU v252 v217).bind fun v254=>(lB K v250 (a1.length:Int) v254).bind fun v256=>(kE K v248 v256).bind fun v258=>bif v258 then((aY (x222+1)).bind fun v261=>dE K a1 v93 v217 k x222 v261) else((aY (x222+1)).bind fun v263=>dE K a1 v93 v217 k x221 v263)))) else(some x221)
def fO (K:Nat) (a1:List Rat) (a2:Int):Nat→(List Int)→(List (List Rat))→Int→Int→Int→Option (LR (aX×Int) Unit)
 |0,_,_,_,_,_=>none
 |k+1,x80,x86,x87,x88,x89=>bif(x89==a2) then(some (.ret ((⟨([]:List Rat),([]:List Rat),0⟩:aX),16))) else((pZ K x86 x87 x88).bind fun v93=>(aY (x89+1)).bind fun v95=>(bU x80 x87).bind fun v97=>(bU x80 x87).bind fun v99=>(p9 x80 x87 x88).bind fun x101=>(aY (2*(a1.length:Int))).bind fun v104=>bif(v97==v104) then((xI (a1.length:Int) 0).bind fun x109=>(xI (a1.length:Int) 0).bind fun x113=>(dZ K a1 v93 x101 K x113 x109 0).bind fun(x155,x161)=>n0 K v95 x155 x161) else((aY (v97+(a1.length:Int))).bind fun v213=>(aY (2*(a1.length:Int))).bind fun v215=>(xF v213 v215).bind fun v217=>(dE K a1 v93 v217 K (-1) 0).bind fun x223=>nZ K v93 v95 x101 v217 (fO K a1 a2 k) x223))
def pG (K:Nat) (a1:List Rat) (a2:Int) (x47:List Int) (x53:List (List Rat)) (x65:Int):Option (aX×Int):=
 (aY (2*(a1.length:Int))).bind fun v68=>(fO K a1 a2 K x47 x53 x65 v68 0).bind fun o=>match o with| .ret r=>some r| .go _=>s9 K
def fR (K:Nat) (a1:List Rat) (v14:Rat) (x53:List (List Rat)):Nat→Int→Int→Option Int
 |0,_,_=>none
 |k+1,x63,x64=>bif(decide (x64<(a1.length:Int))) then((bU x53 x64).bind fun v268=>(lB K v268 (a1.length:Int) v14).bind fun v270=>(bU x53 x63).bind fun v272=>(lB K v272 (a1.length:Int) v14).bind fun v274=>(kE K v270 v274).bind fun v276=>bif v276 then((aY (x64+1)).bind fun v279=>fR K a1 v14 x53 k x64 v279) else((aY (x64+1)).bind fun v281=>fR K a1 v14 x53 k x63 v281)) else(some x63)
def pC (K:Nat) (a1:List Rat) (a2:Int) (v14:Rat) (x47:List Int) (x53:List (List Rat)):Option (aX×Int):=
 (fR K a1 v14 x53 K 0 1).bind fun x65=>pG K a1 a2 x47 x53 x65
def oD (K:Nat) (a1:List Rat) (x34:List Int) (x40:List (List Rat)) (x46:Int) (recl59:(List Int)→(List (List Rat))→Int→Option ((List Int)×(List (List Rat)))) (x312:List Rat):Option ((List Int)×(List (List Rat))):=
 (aY (2*(a1.length:Int))).bind fun v320=>(qof (-1) 1).bind fun v322=>(bU x312 v320).bind fun v324=>(p9 x312 v320 v322).bind fun x326=>(aY (2*(a1.length:Int))).bind fun v329=>(aY (v329+1)).bind fun v331=>(bU a1 x46).bind fun v333=>(bU x326 v331).bind fun v335=>(p9 x326 v331 v333).bind fun x337=>(oT x40 [x337]).bind fun x340=>(oT x34 [x46]).bind fun x347=>(aY (x46+1)).bind fun v354=>recl59 x347 x340 v354
def gY (K:Nat) (a0:List (List Rat)) (a1:List Rat) (x46:Int):Nat→(List Rat)→Int→Option (List Rat)
 |0,_,_=>none
 |k+1,x305,x311=>bif(decide (x311<(a1.length:Int))) then((aY ((a1.length:Int)+x311)).bind fun v357=>(bU a0 x46).bind fun v359=>(bU v359 x311).bind fun v361=>(aB0 v361).bind fun v363=>(bU x305 v357).bind fun v365=>(p9 x305 v357 v363).bind fun x367=>(aY (x311+1)).bind fun v370=>gY K a0 a1 x46 k x367 v370) else(some x305)
def fU (K:Nat) (a0:List (List Rat)) (a1:List Rat) (v14:Rat):Nat→(List Int)→(List (List Rat))→Int→Option ((List Int)×(List (List Rat)))
 |0,_,_,_=>none
 |k+1,x34,x40,x46=>bif(decide (x46<(a1.length:Int))) then((aY (2*(a1.length:Int))).bind fun v284=>(aY (v284+2)).bind fun v286=>(xI v286 0).bind fun x288=>(bU x288 x46).bind fun v293=>(p9 x288 x46 v14).bind fun x295=>(gY K a0 a1 x46 K x295 0).bind fun x312=>oD K a1 x34 x40 x46 (fU K a0 a1 v14 k) x312) else(some (x34,x40))
def mP (K:Nat) (a0:List (List Rat)) (a1:List Rat) (a2:Int):Option (aX×Int):=
 (p6 K a0 a1).bind fun v2=>bif(!v2) then(some ((⟨([]:List Rat),([]:List Rat),0⟩:aX),1)) else(bif(decide (a2<0)) then(some ((⟨([]:List Rat),([]:List Rat),0⟩:aX),1)) else((mH K a1).bind fun v6=>bif(!v6) then((xI (a1.length:Int) 0).bind fun x9=>some ((⟨x9,a1,0⟩:aX),0)) else((qof 1 1).bind fun v14=>(fU K a0 a1 v14 K ([]:List Int) ([]:List (List Rat)) 0).bind fun(x47,x53)=>pC K a1 a2 v14 x47 x53)))
theorem aBx {K:Nat} {a0:List (List Rat)} {a1:List Rat} {a2:Int} {r:aX×Int} (hF:mP K a0 a1 a2=some r):Ct Tryz.prog 107 [.vc (pS (mZ cQ) a0),.vc (pS cQ a1),.vc (pI .i64 a2)] (.t2 (.va (aX.enc r.1)) (.vc (pI .i64 r.2))):=by
 unfold mP at hF
 refine aJ Tryz.func107 rfl (by kernel_rfl) Tryz.ntmps107 rfl (fun w0 M0=>?_)
 refine aO (aT (aS rfl tyZ68q (fun b1=>?_)))
 obtain⟨v2,h3,hF⟩:=aZ hF aBc
 refine go ?_ ?_
 refine cU hF (fun h4 hF=>?_) (fun h4 hF=>?_)
 ·refine go ?_ ?_
  refine gH rfl ?_
  refine aO (aT (aU (cA (is:=[]) (xs:=[]) (ps:=[]) rfl tyB68q rfl rfl trivial rfl) trivial ?_))
  exact bN
 refine go ?_ ?_
 refine aK hF rfl (fun h5 hF=>?_) (fun h5 hF=>?_)
 ·refine aO (aT (aU (cA (is:=[]) (xs:=[]) (ps:=[]) rfl tyB68q rfl rfl trivial rfl) trivial ?_))
  exact bN
 obtain⟨v6,h7,hF⟩:=aZ hF aAl
 refine go ?_ ?_
 refine aK hF rfl (fun h8 hF=>?_) (fun h8 hF=>?_)
 ·obtain⟨x9,h10,hF⟩:=aV hF
  refine go ?_ ?_
  refine s7 (C:=cQ) rfl tyS24 rfl tyZ44q rfl h10 (fun b11=>?_)
  refine fY ?_
  refine xB 0 [38] rfl rfl zU1 rfl ?_
  refine aU (cA (is:=[0,1]) (xs:=[.tmp 38,.tmp 39]) (ps:=[.vc (pS cQ x9),.vc (pS cQ a1)]) rfl tyB68q rfl rfl ⟨trivial,trivial,trivial⟩ rfl) zU2 ?_
  exact bN
 obtain⟨v14,h15,hF⟩:=aZ hF bP
 refine go ?_ ?_
 refine aS rfl tyZ44q (fun b16=>?_)
 refine l6 (t_s 0 rfl rfl rfl tyA44.s) zU2 ?_
 refine bC (aQ (aO (aT (rA (mZ cQ) 24 rfl ?_))))
 refine bC (aQ (aO (aT (rA cI 3 rfl ?_))))
 refine go ?_ ?_
 refine aP (bH (fun H E=>∃(x47:List Int),∃(x53:List (List Rat)),∃(b48:Option Nat),∃(c49:Nat),∃(n50:Nat),∃(b54:Option Nat),∃(c55:Nat),∃(n56:Nat),pC K a1 a2 v14 x47 x53=some r∧x47.length=n50∧x53.length=n56∧H=[hO cI b48 c49 3 n50 x47,hO (mZ cQ) b54 c55 24 n56 x53,⟨some b16,1,44,4,1,(eQ v14)⟩,⟨some b1,1,68,3,1,([pS cQ ([]:List Rat)]++[pS cQ ([]:List Rat)]++[pI .i64 0])⟩]∧E=[(2,.vc (pI .i64 a2)),(6,.vc (pP (some b1) 0)),(8,.vc (pI .i64 (a1.length:Int))),(9,.vc (pP (some b16) 0)),(10,.vc (pO b54 n56 c55)),(11,.vc (pO b48 n50 c49))]) ?_ (fun Jj60=>?_))
 ·rintro _ _ ⟨x47,x53,b48,c49,n50,b54,c55,n56,hF,q51,q57,rfl,rfl⟩
  unfold pC at hF
  refine go ?_ ?_
  refine aP (bH (fun H E=>∃(x65:Int),pG K a1 a2 x47 x53 x65=some r∧H=[hO cI b48 c49 3 n50 x47,hO (mZ cQ) b54 c55 24 n56 x53,⟨some b1,1,68,3,1,([pS cQ ([]:List Rat)]++[pS cQ ([]:List Rat)]++[pI .i64 0])⟩]∧E=[(2,.vc (pI .i64 a2)),(6,.vc (pP (some b1) 0)),(8,.vc (pI .i64 (a1.length:Int))),(10,.vc (pO b54 n56 c55)),(11,.vc (pO b48 n50 c49)),(15,.vc (pI .i64 x65))]) ?_ (fun Jj67=>?_))
  ·rintro _ _ ⟨x65,hF,rfl,rfl⟩
   unfold pG at hF
   obtain⟨v68,h69,hF⟩:=aV hF
   refine go ?_ ?_
   refine aP (aCP 1 [10] rfl q57 zU1 rfl ?_)
   refine bH (fun H E=>s9 K=some r∧H=[]∧E=[]) ?_ (fun Jj91=>?_)
   ·rintro _ _ ⟨hF,rfl,rfl⟩
    unfold s9 at hF
    cases hF
   obtain⟨ol90,hL,hRl90⟩:=aV hF
   refine eM (fun k a w=>∃(x80:List Int),∃(x86:List (List Rat)),∃(x87:Int),∃(x88:Int),∃(x89:Int),fO K a1 a2 k x80 x86 x87 x88 x89=some ol90∧x80.length=n50∧hs _ [hO cI b48 c49 3 n50 x80,⟨some b1,1,68,3,1,([pS cQ ([]:List Rat)]++[pS cQ ([]:List Rat)]++[pI .i64 0])⟩] [(2,.vc (pI .i64 a2)),(6,.vc (pP (some b1) 0)),(8,.vc (pI .i64 (a1.length:Int))),(10,.vc (pS (mZ cQ) x86)),(11,.vc (pO b48 n50 c49)),(15,.vc (pI .i64 x87)),(17,.vc (pI .i64 x88)),(18,.vc (pI .i64 x89))] a w) K (fun a w ⟨_,_,_,_,_,hF,_,_⟩=>by cases hF) (fun k a w ⟨x80,x86,x87,x88,x89,hF,q84,hh⟩=>eK ?_ hh) (fun a w hh=>⟨x47,x53,x65,v68,0,hL,q51,dS [0,1] hh⟩)
   rw [fO.eq_2] at hF
   refine aP (go ?_ ?_)
   refine aK hF rfl (fun h92 hF=>?_) (fun h92 hF=>?_)
   ·refine aO (aT (aU (cA (is:=[]) (xs:=[]) (ps:=[]) rfl tyB68q rfl rfl trivial rfl) trivial ?_))
    exact bN
   obtain⟨v93,h94,hF⟩:=aZ hF aBe
   obtain⟨v95,h96,v97,h98,hF⟩:=vB hF
   have hF:=nP h98 hF
   obtain⟨x101,h102,hF⟩:=aV hF
   have hF:=nP h69 hF
   refine go ?_ ?_
   refine aK hF rfl (fun h106 hF=>?_) (fun h106 hF=>?_)
   ·refine aO ?_
    obtain⟨x109,h110,hF⟩:=aV hF
    have hF:=nP h110 hF
    refine oG (HsM [(0,fun G107=>[hO cI b48 c49 3 n50 x101,⟨some b1,1,68,3,1,([pS cQ ([]:List Rat)]++[pS cQ ([]:List Rat)]++[pI .i64 0])⟩]),(1,fun G107=>[hO cQ ((G107 1).1) x109.length 44 x109.length x109,hO cI b48 c49 3 n50 x101,⟨some b1,1,68,3,1,([pS cQ ([]:List Rat)]++[pS cQ ([]:List Rat)]++[pI .i64 0])⟩]),(2,fun G107=>[hO cQ ((G107 3).1) x109.length 44 x109.length x109,hO cI b48 c49 3 n50 x101,⟨some b1,1,68,3,1,([pS cQ ([]:List Rat)]++[pS cQ ([]:List Rat)]++[pI .i64 0])⟩]),(3,fun G107=>[hO cQ ((G107 3).1) x109.length 44 x109.length x109,hO cQ ((G107 1).1) x109.length 44 x109.length x109,hO cI b48 c49 3 n50 x101,⟨some b1,1,68,3,1,([pS cQ ([]:List Rat)]++[pS cQ ([]:List Rat)]++[pI .i64 0])⟩]),(7,fun G107=>[hO cQ (dB (G107 5).2) x109.length 44 x109.length x109,hO cQ ((G107 5).1) x109.length 44 x109.length x109,hO cI b48 c49 3 n50 x101,⟨some b1,1,68,3,1,([pS cQ ([]:List Rat)]++[pS cQ ([]:List Rat)]++[pI .i64 0])⟩])]) [1,3,5] [0,1,0,4,0,31,0,127] 7 1 [.v (.vc (pI .i64 (a1.length:Int))),.g (fun b _=>.vc (pO b x109.length x109.length)),.v (.vc (pI .i64 (a1.length:Int))),.g (fun b _=>.vc (pO b x109.length x109.length)),.v (.vc (pI .i64 v95)),.g (fun b c=>.va ([pO b x109.length x109.length]++[pO (dB c) x109.length x109.length]++[pI .i64 v95])),.a 68 ([pS cQ ([]:List Rat)]++[pS cQ ([]:List Rat)]++[pI .i64 0])] a9 ⟨⟨rfl,.run (L:=[0,2]) ⟨fun G107 A=>bA (.inl rfl),fun G107 A=>bA (.inl rfl),trivial⟩ (fun G107=>zU1)⟩,⟨rfl,.hvy [0,2] ⟨fun G107 A=>iF (C:=cQ) rfl tyS24 rfl tyZ44q h110,fun G107 A=>aRu [1,0,2,3] (iF (C:=cQ) rfl tyS24 rfl tyZ44q h110) (fun b_ c_=>⟨[hO cQ (b_) x109.length 44 x109.length x109,hO cQ ((G107 3).1) x109.length 44 x109.length x109,hO cI b48 c49 3 n50 x101,⟨some b1,1,68,3,1,([pS cQ ([]:List Rat)]++[pS cQ ([]:List Rat)]++[pI .i64 0])⟩],rfl,rfl⟩),trivial⟩ (fun G107=>zU1)⟩,⟨rfl,.run (L:=[0,1]) ⟨fun G107 A=>bA (.inl rfl),fun G107 A=>bA (.inl rfl),trivial⟩ (fun G107=>zU1)⟩,⟨rfl,.hvy [0,1] ⟨fun G107 A=>iF (C:=cQ) rfl tyS24 rfl tyZ44q h110,fun G107 A=>iF (C:=cQ) rfl tyS24 rfl tyZ44q h110,trivial⟩ (fun G107=>zU1)⟩,⟨rfl,.run (L:=[0,1,2,3]) ⟨fun G107 A=>bA (.inl rfl),fun G107 A=>bA (.inl rfl),fun G107 A=>bA (.inl rfl),fun G107 A=>bA (.inl rfl),trivial⟩ (fun G107=>zU1)⟩,⟨rfl,.hvy [3] ⟨fun G107 A=>aMo (Post:=fun b_ x_=>[hO cQ x_ x109.length 44 x109.length x109,hO cQ b_ x109.length 44 x109.length x109,hO cI b48 c49 3 n50 x101,⟨some b1,1,68,3,1,([pS cQ ([]:List Rat)]++[pS cQ ([]:List Rat)]++[pI .i64 0])⟩]++A) (out:=fun b_ x_=>.va ([pO b_ x109.length x109.length]++[pO x_ x109.length x109.length]++[pI .i64 v95])) ((G107 1).1) ((G107 3).1) (cA (is:=[0,1,2]) (xs:=[.tmp 141,.tmp 143,.tmp 144]) (ps:=[.vc (pO ((G107 1).1) x109.length x109.length),.vc (pO ((G107 3).1) x109.length x109.length),.vc (pI .i64 v95)]) rfl tyB68q rfl rfl ⟨trivial,trivial,trivial,trivial⟩ rfl),trivial⟩ (fun G107=>⟨rfl,rfl,rfl,trivial⟩)⟩,⟨rfl,.alc tyZ68q⟩,trivial⟩ (fun bs108 G107=>?_)
    refine go ?_ ?_
    refine aP (bH (fun H E=>∃(x155:List Rat),∃(x161:List Rat),n0 K v95 x155 x161=some ol90∧x155.length=x109.length∧x161.length=x109.length∧H=[⟨some (bs108 6),1,68,3,1,([pO ((G107 5).1) x109.length x109.length]++[pO (dB (G107 5).2) x109.length x109.length]++[pI .i64 v95])⟩,hO cQ (dB (G107 5).2) x109.length 44 x109.length x155,hO cQ ((G107 5).1) x109.length 44 x109.length x161,⟨some b1,1,68,3,1,([pS cQ ([]:List Rat)]++[pS cQ ([]:List Rat)]++[pI .i64 0])⟩]∧E=[(6,.vc (pP (some b1) 0)),(20,.vc (pP (some (bs108 6)) 0))]) ?_ (fun Jj168=>?_))
    ·rintro _ _ ⟨x155,x161,hF,q159,q165,rfl,rfl⟩
     unfold n0 at hF
     refine aQ (aO (aT (wK 2 0 0 rfl q165 rfl rfl rfl rfl rfl ?_)))
     refine wK 1 0 1 rfl q159 rfl rfl rfl rfl rfl ?_
     exact bN
    obtain⟨⟨x155',x161'⟩,hL,hRl167⟩:=aV hF
    refine eM (fun k a w=>∃(x142:List Rat),∃(x148:List Rat),∃(x154:Int),dZ K a1 v93 x101 k x142 x148 x154=some (x155',x161')∧x142.length=x109.length∧x148.length=x109.length∧hs _ [⟨some (bs108 6),1,68,3,1,([pO ((G107 5).1) x109.length x109.length]++[pO (dB (G107 5).2) x109.length x109.length]++[pI .i64 v95])⟩,hO cQ (dB (G107 5).2) x109.length 44 x109.length x142,hO cQ ((G107 5).1) x109.length 44 x109.length x148,hO cI b48 c49 3 n50 x101,⟨some b1,1,68,3,1,([pS cQ ([]:List Rat)]++[pS cQ ([]:List Rat)]++[pI .i64 0])⟩] [(6,.vc (pP (some b1) 0)),(8,.vc (pI .i64 (a1.length:Int))),(10,.vc (pS (mZ cQ) v93)),(11,.vc (pO b48 n50 c49)),(20,.vc (pP (some (bs108 6)) 0)),(21,.vc (pI .i64 x154))] a w) K (fun a w ⟨_,_,_,hF,_,_,_⟩=>by cases hF) (fun k a w ⟨x142,x148,x154,hF,q146,q152,hh⟩=>eK ?_ hh) (fun a w hh=>⟨x109,x109,0,hL,rfl,rfl,dS [0,1,2,3,4] hh⟩)
    rw [dZ.eq_2] at hF
    refine go ?_ ?_
    refine aK hF rfl (fun h169 hF=>?_) (fun h169 hF=>?_)
    ·refine go ?_ ?_
     refine aP ?_
     obtain⟨v170,h171,hF⟩:=aV hF
     refine go ?_ ?_
     refine aK hF rfl (fun h172 hF=>?_) (fun h172 hF=>?_)
     ·have hF:=nP h171 hF
      obtain⟨v177,h178,hF⟩:=aV hF
      have hF:=nP h69 hF
      obtain⟨v181,h182,hF⟩:=aV hF
      obtain⟨v183,h184,hF⟩:=aV hF
      obtain⟨v185,h186,hF⟩:=aV hF
      refine dr [0,1,0,0,12,28,0,0,192,448,0,1024,3072,8128,16320,32767,65535] 16 1 ?_ (fun bs174 G173=>?_)
      obtain⟨x187,h188,v190,h191,hF⟩:=vB hF
      refine go ?_ ?_
      exact aN (fun a w hh=>⟨x187,x148,v190,hF,(bI h188 q146),q152,dS [0,1,2,3,4] hh⟩)
     have hF:=nP h171 hF
     obtain⟨v196,h197,hF⟩:=aV hF
     obtain⟨v198,h199,hF⟩:=aV hF
     have hF:=nP h69 hF
     obtain⟨v202,h203,hF⟩:=aV hF
     obtain⟨v204,h205,hF⟩:=aV hF
     obtain⟨v206,h207,hF⟩:=aV hF
     refine dr [0,1,0,0,12,28,0,124,0,0,768,1792,0,4096,12288,32512,65280,131071,262143] 18 1 ?_ (fun bs193 G192=>?_)
     obtain⟨x208,h209,v211,h212,hF⟩:=vB hF
     refine go ?_ ?_
     exact aN (fun a w hh=>⟨x142,x208,v211,hF,q146,(bI h209 q152),dS [0,1,2,3,4] hh⟩)
    refine bY ?_
    obtain⟨rfl,rfl⟩:=sm2 hF
    exact m5 Jj168 ⟨x142,x148,hRl167,q146,q152,rfl,rfl⟩ [0,1,2,4]
   obtain⟨v213,h214,hF⟩:=aV hF
   have hF:=nP h69 hF
   obtain⟨v217,h218,hF⟩:=aV hF
   refine go ?_ ?_
   refine aP (bH (fun H E=>∃(x223:Int),nZ K v93 v95 x101 v217 (fO K a1 a2 k) x223=some ol90∧H=[hO cI b48 c49 3 n50 x101,⟨some b1,1,68,3,1,([pS cQ ([]:List Rat)]++[pS cQ ([]:List Rat)]++[pI .i64 0])⟩]∧E=[(2,.vc (pI .i64 a2)),(6,.vc (pP (some b1) 0)),(8,.vc (pI .i64 (a1.length:Int))),(10,.vc (pS (mZ cQ) v93)),(11,.vc (pO b48 n50 c49)),(15,.vc (pI .i64 x223)),(17,.vc (pI .i64 v217)),(18,.vc (pI .i64 v95))]) ?_ (fun Jj225=>?_))
   ·rintro _ _ ⟨x223,hF,rfl,rfl⟩
    unfold nZ at hF
    refine go ?_ ?_
    refine aK hF rfl (fun h226 hF=>?_) (fun h226 hF=>?_)
    ·refine aO (aT (aU (cA (is:=[]) (xs:=[]) (ps:=[]) rfl tyB68q rfl rfl trivial rfl) trivial ?_))
     exact bN
    refine jD (uB ?_)
    exact aN (fun a w hh=>⟨x101,v93,x223,v217,v95,hF,(bI h102 q84),dS [0,1] hh⟩)
   obtain⟨x223',hL,hRl224⟩:=aV hF
   refine eM (fun k a w=>∃(x221:Int),∃(x222:Int),dE K a1 v93 v217 k x221 x222=some x223'∧hs _ [hO cI b48 c49 3 n50 x101,⟨some b1,1,68,3,1,([pS cQ ([]:List Rat)]++[pS cQ ([]:List Rat)]++[pI .i64 0])⟩] [(2,.vc (pI .i64 a2)),(6,.vc (pP (some b1) 0)),(8,.vc (pI .i64 (a1.length:Int))),(10,.vc (pS (mZ cQ) v93)),(11,.vc (pO b48 n50 c49)),(15,.vc (pI .i64 x221)),(17,.vc (pI .i64 v217)),(18,.vc (pI .i64 v95)),(22,.vc (pI .i64 x222))] a w) K (fun a w ⟨_,_,hF,_⟩=>by cases hF) (fun k a w ⟨x221,x222,hF,hh⟩=>eK ?_ hh) (fun a w hh=>⟨(-1),0,hL,dS [0,1] hh⟩)
   rw [dE.eq_2] at hF
   refine go ?_ ?_
   refine aK hF rfl (fun h227 hF=>?_) (fun h227 hF=>?_)
   ·refine go ?_ ?_
    refine aP ?_
    obtain⟨v228,h229,v230,h231,hF⟩:=vB hF
    obtain⟨v232,h233,hF⟩:=aZ hF jJ
    refine go ?_ ?_
    refine aK hF rfl (fun h234 hF=>?_) (fun h234 hF=>?_)
    ·refine bY ?_
     obtain⟨v235,h236,hF⟩:=aV hF
     refine go ?_ ?_
     exact aN (fun a w hh=>⟨x221,v235,hF,dS [0,1] hh⟩)
    refine go ?_ ?_
    rcases Bool.eq_false_or_eq_true (decide (x221<0)) with h239|h239
    ·have hF:=tD h239 hF
     refine drb (0::1::3::7::7::31::63::7::7::7::775::1799::7::7943::16135::32767::7::7::196615::458759::7::7::7::6291463::14680071::7::65011719::132120583::268435455::536870911::1073741823::[]) 31 0 ?_ (fun bs238 G237=>?_)
     refine bC (aQ (gH rfl ?_))
     obtain⟨v240,h241,hF⟩:=aV hF
     refine go ?_ ?_
     exact aN (fun a w hh=>⟨x222,v240,hF,dS [0,1] hh⟩)
    have hF:=tE h239 hF
    have hF:=nP h229 hF
    have hF:=nP h229 hF
    have hF:=nP h231 hF
    obtain⟨v248,h249,hF⟩:=aZ hF tL
    obtain⟨v250,h251,hF⟩:=aV hF
    have hF:=nP h251 hF
    obtain⟨v254,h255,hF⟩:=aV hF
    obtain⟨v256,h257,hF⟩:=aZ hF tL
    obtain⟨v258,h259,hF⟩:=aZ hF w9
    refine drb (0::1::3::7::7::31::63::7::7::7::775::1799::7::7943::16135::32767::7::7::196615::458759::7::7::7::6291463::14680071::7::65011719::132120583::268435455::536870911::1073741823::[]) 31 0 ?_ (fun bs238 G237=>?_)
    refine bC (aQ (aK hF rfl (fun h260 hF=>?_) (fun h260 hF=>?_)))
    ·obtain⟨v261,h262,hF⟩:=aV hF
     refine go ?_ ?_
     exact aN (fun a w hh=>⟨x222,v261,hF,dS [0,1] hh⟩)
    obtain⟨v263,h264,hF⟩:=aV hF
    refine go ?_ ?_
    exact aN (fun a w hh=>⟨x221,v263,hF,dS [0,1] hh⟩)
   refine bY ?_
   obtain rfl:=l7 hF
   exact m5 Jj225 ⟨x221,hRl224,rfl,rfl⟩ [0,1]
  obtain⟨x65',hL,hRl66⟩:=aV hF
  refine eM (fun k a w=>∃(x63:Int),∃(x64:Int),fR K a1 v14 x53 k x63 x64=some x65'∧hs _ [hO cI b48 c49 3 n50 x47,hO (mZ cQ) b54 c55 24 n56 x53,⟨some b16,1,44,4,1,(eQ v14)⟩,⟨some b1,1,68,3,1,([pS cQ ([]:List Rat)]++[pS cQ ([]:List Rat)]++[pI .i64 0])⟩] [(2,.vc (pI .i64 a2)),(6,.vc (pP (some b1) 0)),(8,.vc (pI .i64 (a1.length:Int))),(9,.vc (pP (some b16) 0)),(10,.vc (pO b54 n56 c55)),(11,.vc (pO b48 n50 c49)),(15,.vc (pI .i64 x63)),(16,.vc (pI .i64 x64))] a w) K (fun a w ⟨_,_,hF,_⟩=>by cases hF) (fun k a w ⟨x63,x64,hF,hh⟩=>eK ?_ hh) (fun a w hh=>⟨0,1,hL,dS [0,1,2,3] hh⟩)
  rw [fR.eq_2] at hF
  refine go ?_ ?_
  refine aK hF rfl (fun h265 hF=>?_) (fun h265 hF=>?_)
  ·refine go ?_ ?_
   refine aP (aO ?_)
   obtain⟨v268,h269,hF⟩:=aV hF
   obtain⟨v270,h271,hF⟩:=aZ hF tL
   obtain⟨v272,h273,hF⟩:=aV hF
   obtain⟨v274,h275,hF⟩:=aZ hF tL
   obtain⟨v276,h277,hF⟩:=aZ hF w9
   refine dr [0,0,3,7,0,0,63,0,0,384,896,0,0,8191,16383] 15 0 ?_ (fun bs267 G266=>?_)
   refine bC (aQ (aK hF rfl (fun h278 hF=>?_) (fun h278 hF=>?_)))
   ·obtain⟨v279,h280,hF⟩:=aV hF
    refine go ?_ ?_
    exact aN (fun a w hh=>⟨x64,v279,hF,dS [0,1,2,3] hh⟩)
   obtain⟨v281,h282,hF⟩:=aV hF
   refine go ?_ ?_
   exact aN (fun a w hh=>⟨x63,v281,hF,dS [0,1,2,3] hh⟩)
  refine bY ?_
  obtain rfl:=l7 hF
  exact m5 Jj67 ⟨x63,hRl66,rfl,rfl⟩ [0,1,3]
 obtain⟨⟨x47',x53'⟩,hL,hRl59⟩:=aV hF
 refine eM (fun k a w=>∃(x34:List Int),∃(x40:List (List Rat)),∃(x46:Int),∃(b35:Option Nat),∃(c36:Nat),∃(n37:Nat),∃(b41:Option Nat),∃(c42:Nat),∃(n43:Nat),fU K a0 a1 v14 k x34 x40 x46=some (x47',x53')∧x34.length=n37∧x40.length=n43∧hs _ [hO cI b35 c36 3 n37 x34,hO (mZ cQ) b41 c42 24 n43 x40,⟨some b16,1,44,4,1,(eQ v14)⟩,⟨some b1,1,68,3,1,([pS cQ ([]:List Rat)]++[pS cQ ([]:List Rat)]++[pI .i64 0])⟩] [(0,.vc (pS (mZ cQ) a0)),(1,.vc (pS cQ a1)),(2,.vc (pI .i64 a2)),(6,.vc (pP (some b1) 0)),(8,.vc (pI .i64 (a1.length:Int))),(9,.vc (pP (some b16) 0)),(10,.vc (pO b41 n43 c42)),(11,.vc (pO b35 n37 c36)),(12,.vc (pI .i64 x46))] a w) K (fun a w ⟨_,_,_,_,_,_,_,_,_,hF,_,_,_⟩=>by cases hF) (fun k a w ⟨x34,x40,x46,b35,c36,n37,b41,c42,n43,hF,q38,q44,hh⟩=>eK ?_ hh) (fun a w hh=>⟨([]:List Int),([]:List (List Rat)),0,none,0,0,none,0,0,hL,rfl,rfl,dS [0,1,2,3] hh⟩)
 rw [fU.eq_2] at hF
 refine go ?_ ?_
 refine aK hF rfl (fun h283 hF=>?_) (fun h283 hF=>?_)
 ·refine go ?_ ?_
  refine aP ?_
  obtain⟨v284,h285,v286,h287,x288,h289,hF⟩:=bn3 hF
  refine go ?_ ?_
  refine s7 (C:=cQ) rfl tyS24 rfl tyZ44q rfl h289 (fun b290=>?_)
  obtain⟨v293,h294,x295,h296,hF⟩:=vB hF
  refine go ?_ ?_
  refine aP (bH (fun H E=>∃(x312:List Rat),oD K a1 x34 x40 x46 (fU K a0 a1 v14 k) x312=some (x47',x53')∧x312.length=x288.length∧H=[hO cQ b290 x288.length 44 x288.length x312,hO cI b35 c36 3 n37 x34,hO (mZ cQ) b41 c42 24 n43 x40,⟨some b16,1,44,4,1,(eQ v14)⟩,⟨some b1,1,68,3,1,([pS cQ ([]:List Rat)]++[pS cQ ([]:List Rat)]++[pI .i64 0])⟩]∧E=[(0,.vc (pS (mZ cQ) a0)),(1,.vc (pS cQ a1)),(2,.vc (pI .i64 a2)),(6,.vc (pP (some b1) 0)),(8,.vc (pI .i64 (a1.length:Int))),(9,.vc (pP (some b16) 0)),(10,.vc (pO b41 n43 c42)),(11,.vc (pO b35 n37 c36)),(12,.vc (pI .i64 x46)),(13,.vc (pO b290 x288.length x288.length))]) ?_ (fun Jj319=>?_))
  ·rintro _ _ ⟨x312,hF,q316,rfl,rfl⟩
   unfold oD at hF
   refine aQ (aO (aT (fY ?_)))
   refine fY ?_
   have hF:=nP h285 hF
   refine aU (aFZ rfl h285) ⟨jC _ _,rfl,trivial⟩ ?_
   obtain⟨v322,h323,hF⟩:=aZ hF bP
   refine aU (bF rfl h323 rfl) ⟨jC _ _,jC _ _,trivial⟩ ?_
   obtain⟨v324,h325,hF⟩:=aV hF
   refine aU (l5 (C:=cQ) 0 rfl tyS24 rfl q316 (a8 h325).1 (a8 h325).2.1) zU2 ?_
   obtain⟨x326,h327,hF⟩:=aV hF
   refine l6 (xD 0 rfl rfl h325 h327 tyA44.s) zU2 ?_
   refine bC (aQ (aO (aT (fY ?_))))
   refine fY ?_
   have hF:=nP h285 hF
   refine aU (aFZ rfl h285) ⟨jC _ _,rfl,trivial⟩ ?_
   obtain⟨v331,h332,hF⟩:=aV hF
   refine aU (wZ rfl h332) ⟨rfl,jC _ _,trivial⟩ ?_
   refine fY ?_
   refine fY ?_
   obtain⟨v333,h334,hF⟩:=aV hF
   refine aU (vJ rfl tyS24 h334) zU2 ?_
   refine aU (uO 4 rfl rfl (.agg tyA44)) zU1 ?_
   obtain⟨v335,h336,hF⟩:=aV hF
   refine aU (l5 (C:=cQ) 0 rfl tyS24 rfl (bI h327 q316) (a8 h336).1 (a8 h336).2.1) zU2 ?_
   obtain⟨x337,h338,hF⟩:=aV hF
   refine l6 (xD 0 rfl rfl h336 h338 tyA44.s) zU2 ?_
   refine bC (aQ (aO (aT (fY ?_))))
   refine fY ?_
   refine xB 0 [13,73,78,88] rfl (bI h338 (bI h327 q316)) ⟨rfl,rfl,rfl,rfl,trivial⟩ rfl ?_
   refine aU (hU (C:=(mZ cQ)) (xs:=[.tmp 88]) (ps:=[.vc (pS cQ x337)]) (zs:=[x337]) rfl tyS62 rfl ⟨⟨trivial,rfl⟩,trivial⟩ rfl) zU1 ?_
   obtain⟨x340,h341,hF⟩:=aV hF
   refine gJ 1 rfl tyS62 rfl rfl q44 rfl rfl h341 (fun b342 c343 H344 e345=>?_)
   cases e345
   refine go ?_ ?_
   refine aU (hU (C:=cI) (xs:=[.tmp 92]) (ps:=[.vc (pI .i64 x46)]) (zs:=[x46]) rfl tyS22 rfl ⟨⟨trivial,rfl⟩,trivial⟩ rfl) zU1 ?_
   obtain⟨x347,h348,hF⟩:=aV hF
   refine gJ 0 rfl tyS22 rfl rfl q38 rfl rfl h348 (fun b349 c350 H351 e352=>?_)
   cases e352
   obtain⟨v354,h355,hF⟩:=aV hF
   refine go ?_ ?_
   exact aN (fun a w hh=>⟨x347,x340,v354,b349,c350,(n37+[x46].length),b342,c343,(n43+[x337].length),hF,(bK h348 q38),(bK h341 q44),dS [0,1,2,3] hh⟩)
  obtain⟨x312',hL,hRl318⟩:=aV hF
  refine eM (fun k a w=>∃(x305:List Rat),∃(x311:Int),gY K a0 a1 x46 k x305 x311=some x312'∧x305.length=x288.length∧hs _ [hO cQ b290 x288.length 44 x288.length x305,hO cI b35 c36 3 n37 x34,hO (mZ cQ) b41 c42 24 n43 x40,⟨some b16,1,44,4,1,(eQ v14)⟩,⟨some b1,1,68,3,1,([pS cQ ([]:List Rat)]++[pS cQ ([]:List Rat)]++[pI .i64 0])⟩] [(0,.vc (pS (mZ cQ) a0)),(1,.vc (pS cQ a1)),(2,.vc (pI .i64 a2)),(6,.vc (pP (some b1) 0)),(8,.vc (pI .i64 (a1.length:Int))),(9,.vc (pP (some b16) 0)),(10,.vc (pO b41 n43 c42)),(11,.vc (pO b35 n37 c36)),(12,.vc (pI .i64 x46)),(13,.vc (pO b290 x288.length x288.length)),(14,.vc (pI .i64 x311))] a w) K (fun a w ⟨_,_,hF,_,_⟩=>by cases hF) (fun k a w ⟨x305,x311,hF,q309,hh⟩=>eK ?_ hh) (fun a w hh=>⟨x295,0,hL,(bI h296 rfl),dS [0,1,2,3,4] hh⟩)
  rw [gY.eq_2] at hF
  refine go ?_ ?_
  refine aK hF rfl (fun h356 hF=>?_) (fun h356 hF=>?_)
  ·refine go ?_ ?_
   refine aP ?_
   obtain⟨v357,h358,v359,h360,v361,h362,hF⟩:=bn3 hF
   obtain⟨v363,h364,hF⟩:=aZ hF aCi
   obtain⟨v365,h366,x367,h368,v370,h371,hF⟩:=bn3 hF
   refine go ?_ ?_
   exact aN (fun a w hh=>⟨x367,v370,hF,(bI h368 q309),dS [0,1,2,3,4] hh⟩)
  refine bY ?_
  obtain rfl:=l7 hF
  exact m5 Jj319 ⟨x305,hRl318,q309,rfl,rfl⟩ [0,1,2,3,4]
 refine bY ?_
 obtain⟨rfl,rfl⟩:=sm2 hF
 exact m5 Jj60 ⟨x34,x40,b35,c36,n37,b41,c42,n43,hRl59,q38,q44,rfl,rfl⟩ [0,1,2,3]
def mT (K:Nat) (a0:List aF) (a1:List Rat) (a2:List Rat) (a3:List aA):Option ((List Rat)×(List aI)×Int):=
 (o6 K a0 a1 a2 a3).bind fun v1=>bif(!v1) then(some ([],[],1)) else((gK K a2 a3).bind fun v4=>bif(decide (32<(v4.length:Int))) then(some ([],[],4)) else((nM K a0 a1 a2 a3).bind fun v7=>(mP K v7.1 v7.2 4096).bind fun v9=>bif(v9.2 != 0) then(some ([],[],v9.2)) else((kJ K a2 a3 v9.1.z).bind fun v13=>(eY K a0 a1 a3 v13).bind fun v15=>some (v15,v13,0))))
theorem aBg {K:Nat} {a0:List aF} {a1:List Rat} {a2:List Rat} {a3:List aA} {r:(List Rat)×(List aI)×Int} (hF:mT K a0 a1 a2 a3=some r):Ct Tryz.prog 39 [.vc (pS aF.cod a0),.vc (pS cQ a1),.vc (pS cQ a2),.vc (pS aA.cod a3)] (.t3 (.vc (pS cQ r.1)) (.vc (pS aI.cod r.2.1)) (.vc (pI .i64 r.2.2))):=by
 unfold mT at hF
 refine aJ Tryz.func39 rfl (by kernel_rfl) Tryz.ntmps39 rfl (fun w0 M0=>?_)
 refine aO (aT (aU (bA (.inr rfl)) ⟨cR cQ,trivial⟩ ?_))
 refine aU (bA (.inr rfl)) ⟨cR aI.cod,trivial⟩ ?_
 obtain⟨v1,h2,hF⟩:=aZ hF y5
 refine go ?_ ?_
 refine aK hF rfl (fun h3 hF=>?_) (fun h3 hF=>?_)
 ·refine aO (aT (aU (bA (.inr rfl)) ⟨cR cQ,trivial⟩ ?_))
  refine aU (bA (.inr rfl)) ⟨cR aI.cod,trivial⟩ ?_
  exact bN
 obtain⟨v4,h5,hF⟩:=aZ hF o5
 refine go ?_ ?_
 refine aK hF rfl (fun h6 hF=>?_) (fun h6 hF=>?_)
 ·refine aO (aT (aU (bA (.inr rfl)) ⟨cR cQ,trivial⟩ ?_))
  refine aU (bA (.inr rfl)) ⟨cR aI.cod,trivial⟩ ?_
  exact bN
 obtain⟨v7,h8,hF⟩:=aZ hF aAX
 obtain⟨v9,h10,hF⟩:=aZ hF aBx
 refine go ?_ ?_
 refine aS rfl tyZ68q (fun b11=>?_)
 refine go ?_ ?_
 refine aK hF rfl (fun h12 hF=>?_) (fun h12 hF=>?_)
 ·refine go ?_ ?_
  refine aU (bA (.inr rfl)) ⟨cR cQ,trivial⟩ ?_
  refine aU (bA (.inr rfl)) ⟨cR aI.cod,trivial⟩ ?_
  exact bN
 obtain⟨v13,h14,hF⟩:=aZ hF uA
 obtain⟨v15,h16,hF⟩:=aZ hF pR
 exact bN
def nI (K:Nat):Option Bool:=
 some true
def fZ (K:Nat) (a0:List aI) (a1:List aI):Nat→Int→Option (LR Bool Unit)
 |0,_=>none
 |k+1,x3=>bif(decide (x3<(a0.length:Int))) then((bU a0 x3).bind fun v9=>(bU a1 x3).bind fun v11=>(xU v9.n v11.n).bind fun v13=>bif(!v13) then(some (.ret false)) else((bU a0 x3).bind fun v16=>(bU a1 x3).bind fun v18=>(xU v16.f v18.f).bind fun v20=>bif(!v20) then(some (.ret false)) else((aY (x3+1)).bind fun v23=>fZ K a0 a1 k v23))) else(some (.go ()))
def kO (K:Nat) (a0:List aI) (a1:List aI):Option Bool:=
 bif((a0.length:Int) != (a1.length:Int)) then(some false) else((fZ K a0 a1 K 0).bind fun o=>match o with| .ret r=>some r| .go _=>nI K)
theorem aAd {K:Nat} {a0:List aI} {a1:List aI} {r:Bool} (hF:kO K a0 a1=some r):Ct Tryz.prog 40 [.vc (pS aI.cod a0),.vc (pS aI.cod a1)] (.vc (pB r)):=by
 unfold kO at hF
 refine aJ Tryz.func40 rfl (by kernel_rfl) Tryz.ntmps40 rfl (fun w0 M0=>?_)
 refine go ?_ ?_
 refine aK hF rfl (fun h1 hF=>?_) (fun h1 hF=>?_)
 ·exact bN
 refine go ?_ ?_
 refine aP (bH (fun H E=>nI K=some r∧H=[]∧E=[]) ?_ (fun Jj5=>?_))
 ·rintro _ _ ⟨hF,rfl,rfl⟩
  unfold nI at hF
  exact bN
 obtain⟨ol4,hL,hRl4⟩:=aV hF
 refine eM (fun k a w=>∃(x3:Int),fZ K a0 a1 k x3=some ol4∧hs _ [] [(0,.vc (pS aI.cod a0)),(1,.vc (pS aI.cod a1)),(5,.vc (pI .i64 x3))] a w) K (fun a w ⟨_,hF,_⟩=>by cases hF) (fun k a w ⟨x3,hF,hh⟩=>eK ?_ hh) (fun a w hh=>⟨0,hL,dS [] hh⟩)
 rw [fZ.eq_2] at hF
 refine go ?_ ?_
 refine aK hF rfl (fun h6 hF=>?_) (fun h6 hF=>?_)
 ·refine go ?_ ?_
  refine aP (aO ?_)
  obtain⟨v9,h10,hF⟩:=aV hF
  obtain⟨v11,h12,hF⟩:=aV hF
  obtain⟨v13,h14,hF⟩:=aZ hF vH
  rcases Bool.eq_false_or_eq_true (!v13) with h15|h15
  ·have hF:=tD h15 hF
   refine drb (0::0::3::7::15::0::0::96::224::480::1023::2047::4095::8191::8191::32767::65535::131071::8191::8191::794623::1843199::3940351::8388607::16777215::33554431::[]) 26 0 ?_ (fun bs8 G7=>?_)
   refine bC (aQ (gH rfl ?_))
   exact bN
  have hF:=tE h15 hF
  have hF:=nP h10 hF
  have hF:=nP h12 hF
  obtain⟨v20,h21,hF⟩:=aZ hF vH
  refine drb (0::0::3::7::15::0::0::96::224::480::1023::2047::4095::8191::8191::32767::65535::131071::8191::8191::794623::1843199::3940351::8388607::16777215::33554431::[]) 26 0 ?_ (fun bs8 G7=>?_)
  refine bC (aQ (aK hF rfl (fun h22 hF=>?_) (fun h22 hF=>?_)))
  ·exact bN
  obtain⟨v23,h24,hF⟩:=aV hF
  refine go ?_ ?_
  exact aN (fun a w hh=>⟨v23,hF,dS [] hh⟩)
 refine bY ?_
 obtain rfl:=l7 hF
 exact m5 Jj5 ⟨hRl4,rfl,rfl⟩ []
def lA (K:Nat) (v34:(List Rat)×(List aI)×Int) (x39:aH):Option Bool:=
 (fX K x39.dofs x39.load x39.v x39.rows).bind fun v42=>bif(v34.2.2==1) then(bif(v42.2.2==4) then((pU K).bind fun v46=>some v46) else(some false)) else(some false)
def d8 (K:Nat) (a3:Int):Nat→aH→Option aH
 |0,_=>none
 |k+1,x38=>(fD a3 5).bind fun v50=>(aY (33+v50)).bind fun v52=>bif(decide ((x38.rows.length:Int)<v52)) then((oT ([]:List aA) x38.rows).bind fun x58=>(oT x58 [(⟨0,0,0,0,0,([]:List aC),([]:List aC),0,0⟩:aA)]).bind fun x65=>d8 K a3 k (⟨x38.dofs,x38.load,x38.v,x65⟩:aH)) else(some x38)
def k6 (K:Nat) (v75:(List Rat)×(List aI)×Int) (x80:aH):Option Bool:=
 (fX K x80.dofs x80.load x80.v x80.rows).bind fun v83=>bif(v75.2.2==1) then(bif(v83.2.2==4) then((pU K).bind fun v87=>some v87) else(some false)) else(some false)
def d9 (K:Nat) (a3:Int):Nat→aH→Option aH
 |0,_=>none
 |k+1,x79=>(fD a3 5).bind fun v91=>(aY (33+v91)).bind fun v93=>bif(decide ((x79.rows.length:Int)<v93)) then((oT ([]:List aA) x79.rows).bind fun x99=>(oT x99 [(⟨0,0,0,0,0,([]:List aC),([]:List aC),0,0⟩:aA)]).bind fun x106=>d9 K a3 k (⟨x79.dofs,x79.load,x79.v,x106⟩:aH)) else(some x79)
def iU (K:Nat) (a0:List Int) (a1:Bool) (a2:Int) (a3:Int):Option Bool:=
 (kH K a0 a1).bind fun v1=>(fX K v1.dofs v1.load v1.v v1.rows).bind fun v4=>(mT K v1.dofs v1.load v1.v v1.rows).bind fun v6=>bif(v4.2.2 != v6.2.2) then(some false) else((jO K v4.1 v6.1).bind fun v9=>bif(!v9) then(some false) else((kO K v4.2.1 v6.2.1).bind fun v12=>bif(!v12) then(some false) else((tV K v1.dofs v1.load v1.v v1.rows).bind fun v15=>(lS K v15.1 v15.2 4096).bind fun v17=>bif(v17.2 != v4.2.2) then(some false) else(bif(v4.2.2==0) then((kJ K v1.v v1.rows v17.1.z).bind fun v24=>(eY K v1.dofs v1.load v1.rows v24).bind fun v26=>(jO K v26 v4.1).bind fun v28=>bif(!v28) then(some false) else((mR v1 a2).bind fun v31=>(fX K v31.dofs v31.load v31.v v31.rows).bind fun v34=>(d8 K a3 K v1).bind fun x39=>lA K v34 x39)) else((mR v1 a2).bind fun v72=>(fX K v72.dofs v72.load v72.v v72.rows).bind fun v75=>(d9 K a3 K v1).bind fun x80=>k6 K v75 x80)))))
theorem zE {K:Nat} {a0:List Int} {a1:Bool} {a2:Int} {a3:Int} {r:Bool} (hF:iU K a0 a1 a2 a3=some r):Ct Tryz.prog 9 [.vc (pS cI a0),.vc (pB a1),.vc (pI .i64 a2),.vc (pI .i64 a3)] (.vc (pB r)):=by
 unfold iU at hF
 refine aJ Tryz.func9 rfl (by kernel_rfl) Tryz.ntmps9 rfl (fun w0 M0=>?_)
 obtain⟨v1,h2,hF⟩:=aZ hF aBY
 refine go ?_ ?_
 refine aS rfl tyZ27q (fun b3=>?_)
 obtain⟨v4,h5,hF⟩:=aZ hF qU
 obtain⟨v6,h7,hF⟩:=aZ hF aBg
 refine go ?_ ?_
 refine cU hF (fun h8 hF=>?_) (fun h8 hF=>?_)
 ·refine go ?_ ?_
  refine gH rfl ?_
  exact bN
 obtain⟨v9,h10,hF⟩:=aZ hF wY
 refine go ?_ ?_
 refine cU hF (fun h11 hF=>?_) (fun h11 hF=>?_)
 ·refine go ?_ ?_
  refine gH rfl ?_
  exact bN
 obtain⟨v12,h13,hF⟩:=aZ hF aAd
 refine go ?_ ?_
 refine aK hF rfl (fun h14 hF=>?_) (fun h14 hF=>?_)
 ·exact bN
 obtain⟨v15,h16,hF⟩:=aZ hF aDG
 obtain⟨v17,h18,hF⟩:=aZ hF yL
 refine go ?_ ?_
 refine aS rfl tyZ68q (fun b19=>?_)
 refine go ?_ ?_
 rcases Bool.eq_false_or_eq_true (v17.2 != v4.2.2) with h22|h22
 ·have hF:=tD h22 hF
  refine drb (0::0::3::7::15::31::63::127::255::127::639::127::2175::127::8319::127::32895::127::131199::516223::1048575::127::4194303::8388607::16777215::33554431::[]) 26 0 ?_ (fun bs21 G20=>?_)
  refine bC (aQ (gH rfl ?_))
  exact bN
 have hF:=tE h22 hF
 rcases Bool.eq_false_or_eq_true (v4.2.2==0) with h23|h23
 ·have hF:=tD h23 hF
  obtain⟨v24,h25,hF⟩:=aZ hF uA
  obtain⟨v26,h27,hF⟩:=aZ hF pR
  obtain⟨v28,h29,hF⟩:=aZ hF wY
  refine drb (0::0::3::7::15::31::63::127::255::127::639::127::2175::127::8319::127::32895::127::131199::516223::1048575::127::4194303::8388607::16777215::33554431::[]) 26 0 ?_ (fun bs21 G20=>?_)
  refine bC (aQ (aK hF rfl (fun h30 hF=>?_) (fun h30 hF=>?_)))
  ·exact bN
  obtain⟨v31,h32,hF⟩:=aZ hF x0
  refine go ?_ ?_
  refine aS rfl tyZ27q (fun b33=>?_)
  obtain⟨v34,h35,hF⟩:=aZ hF qU
  refine go ?_ ?_
  refine aS rfl tyZ27q (fun b36=>?_)
  refine go ?_ ?_
  refine aP (bH (fun H E=>∃(x39:aH),lA K v34 x39=some r∧H=[⟨some b36,1,27,4,1,(aH.enc x39)⟩]∧E=[(23,.vc (pI .i64 v34.2.2)),(24,.vc (pP (some b36) 0))]) ?_ (fun Jj41=>?_))
  ·rintro _ _ ⟨x39,hF,rfl,rfl⟩
   unfold lA at hF
   obtain⟨v42,h43,hF⟩:=aZ hF qU
   refine go ?_ ?_
   refine cU hF (fun h44 hF=>?_) (fun h44 hF=>?_)
   ·refine go ?_ ?_
    refine cU hF (fun h45 hF=>?_) (fun h45 hF=>?_)
    ·obtain⟨v46,h47,hF⟩:=aZ hF xW
     exact bN
    exact bN
   exact bN
  obtain⟨x39',hL,hRl40⟩:=aV hF
  refine eM (fun k a w=>∃(x38:aH),d8 K a3 k x38=some x39'∧hs _ [⟨some b36,1,27,4,1,(aH.enc x38)⟩] [(3,.vc (pI .i64 a3)),(23,.vc (pI .i64 v34.2.2)),(24,.vc (pP (some b36) 0))] a w) K (fun a w ⟨_,hF,_⟩=>by cases hF) (fun k a w ⟨x38,hF,hh⟩=>eK ?_ hh) (fun a w hh=>⟨v1,hL,dS [0] hh⟩)
  rw [d8.eq_2] at hF
  refine aO (aO ?_)
  obtain⟨v50,h51,hF⟩:=aZ hF rN
  obtain⟨v52,h53,hF⟩:=aV hF
  refine dr [0,1,3,0,8,24,63] 7 0 ?_ (fun bs49 G48=>?_)
  refine bC (aQ (aK hF rfl (fun h54 hF=>?_) (fun h54 hF=>?_)))
  ·refine jD (aQ (aP (aT (aDZ (yK (C:=aA.cod) (xs:=[]) (ps:=[]) (zs:=([]:List aA)) rfl tyS25 rfl trivial rfl) trivial (fun b55 _=>?_)))))
   refine aU (kQ (off:=0) (k:=3) rfl tyF27_3) zU1 ?_
   refine aU (eW 1 1 rfl rfl rfl rfl (.one tyO25)) zU1 ?_
   obtain⟨x58,h59,hF⟩:=aV hF
   refine gJ 0 rfl tyS25 rfl rfl rfl rfl rfl h59 (fun b60 c61 H62 e63=>?_)
   cases e63
   refine aU (cA (is:=[]) (xs:=[]) (ps:=[]) rfl tyB51q rfl rfl trivial rfl) trivial ?_
   refine aU (hU (C:=aA.cod) (xs:=[.tmp 144]) (ps:=[.va ([pI .i64 0]++[pI .i64 0]++[pI .i64 0]++[pI .i64 0]++(eQ 0)++[pS aC.cod ([]:List aC)]++[pS aC.cod ([]:List aC)]++(eQ 0)++(eQ 0))]) (zs:=[(⟨0,0,0,0,0,([]:List aC),([]:List aC),0,0⟩:aA)]) rfl tyS25 rfl ⟨⟨trivial,rfl⟩,trivial⟩ rfl) zU1 ?_
   obtain⟨x65,h66,hF⟩:=aV hF
   refine gJ 0 rfl tyS25 rfl rfl (bK h59 rfl) rfl rfl h66 (fun b67 c68 H69 e70=>?_)
   cases e70
   refine go ?_ ?_
   refine aPk 0 1 3 rfl (bK h66 (bK h59 rfl)) rfl rfl rfl rfl rfl ?_
   exact aN (fun a w hh=>⟨(⟨x38.dofs,x38.load,x38.v,x65⟩:aH),hF,dS [0] hh⟩)
  refine bY ?_
  obtain rfl:=l7 hF
  exact m5 Jj41 ⟨x38,hRl40,rfl,rfl⟩ [0]
 have hF:=tE h23 hF
 refine drb (0::0::3::7::15::31::63::127::255::127::639::127::2175::127::8319::127::32895::127::131199::516223::1048575::127::4194303::8388607::16777215::33554431::[]) 26 0 ?_ (fun bs21 G20=>?_)
 refine bC (aQ (tW rfl ?_))
 obtain⟨v72,h73,hF⟩:=aZ hF x0
 refine go ?_ ?_
 refine aS rfl tyZ27q (fun b74=>?_)
 obtain⟨v75,h76,hF⟩:=aZ hF qU
 refine go ?_ ?_
 refine aS rfl tyZ27q (fun b77=>?_)
 refine go ?_ ?_
 refine aP (bH (fun H E=>∃(x80:aH),k6 K v75 x80=some r∧H=[⟨some b77,1,27,4,1,(aH.enc x80)⟩]∧E=[(23,.vc (pI .i64 v75.2.2)),(24,.vc (pP (some b77) 0))]) ?_ (fun Jj82=>?_))
 ·rintro _ _ ⟨x80,hF,rfl,rfl⟩
  unfold k6 at hF
  obtain⟨v83,h84,hF⟩:=aZ hF qU
  refine go ?_ ?_
  refine cU hF (fun h85 hF=>?_) (fun h85 hF=>?_)
  ·refine go ?_ ?_
   refine cU hF (fun h86 hF=>?_) (fun h86 hF=>?_)
   ·obtain⟨v87,h88,hF⟩:=aZ hF xW
    exact bN
   exact bN
  exact bN
 obtain⟨x80',hL,hRl81⟩:=aV hF
 refine eM (fun k a w=>∃(x79:aH),d9 K a3 k x79=some x80'∧hs _ [⟨some b77,1,27,4,1,(aH.enc x79)⟩] [(3,.vc (pI .i64 a3)),(23,.vc (pI .i64 v75.2.2)),(24,.vc (pP (some b77) 0))] a w) K (fun a w ⟨_,hF,_⟩=>by cases hF) (fun k a w ⟨x79,hF,hh⟩=>eK ?_ hh) (fun a w hh=>⟨v1,hL,dS [0] hh⟩)
 rw [d9.eq_2] at hF
 refine aO (aO ?_)
 obtain⟨v91,h92,hF⟩:=aZ hF rN
 obtain⟨v93,h94,hF⟩:=aV hF
 refine dr [0,1,3,0,8,24,63] 7 0 ?_ (fun bs90 G89=>?_)
 refine bC (aQ (aK hF rfl (fun h95 hF=>?_) (fun h95 hF=>?_)))
 ·refine jD (aQ (aP (aT (aDZ (yK (C:=aA.cod) (xs:=[]) (ps:=[]) (zs:=([]:List aA)) rfl tyS25 rfl trivial rfl) trivial (fun b96 _=>?_)))))
  refine aU (kQ (off:=0) (k:=3) rfl tyF27_3) zU1 ?_
  refine aU (eW 1 1 rfl rfl rfl rfl (.one tyO25)) zU1 ?_
  obtain⟨x99,h100,hF⟩:=aV hF
  refine gJ 0 rfl tyS25 rfl rfl rfl rfl rfl h100 (fun b101 c102 H103 e104=>?_)
  cases e104
  refine aU (cA (is:=[]) (xs:=[]) (ps:=[]) rfl tyB51q rfl rfl trivial rfl) trivial ?_
  refine aU (hU (C:=aA.cod) (xs:=[.tmp 144]) (ps:=[.va ([pI .i64 0]++[pI .i64 0]++[pI .i64 0]++[pI .i64 0]++(eQ 0)++[pS aC.cod ([]:List aC)]++[pS aC.cod ([]:List aC)]++(eQ 0)++(eQ 0))]) (zs:=[(⟨0,0,0,0,0,([]:List aC),([]:List aC),0,0⟩:aA)]) rfl tyS25 rfl ⟨⟨trivial,rfl⟩,trivial⟩ rfl) zU1 ?_
  obtain⟨x106,h107,hF⟩:=aV hF
  refine gJ 0 rfl tyS25 rfl rfl (bK h100 rfl) rfl rfl h107 (fun b108 c109 H110 e111=>?_)
  cases e111
  refine go ?_ ?_
  refine aPk 0 1 3 rfl (bK h107 (bK h100 rfl)) rfl rfl rfl rfl rfl ?_
  exact aN (fun a w hh=>⟨(⟨x79.dofs,x79.load,x79.v,x106⟩:aH),hF,dS [0] hh⟩)
 refine bY ?_
 obtain rfl:=l7 hF
 exact m5 Jj82 ⟨x79,hRl81,rfl,rfl⟩ [0]
end Go.Proofs.YtcjdedkdoagifaaGreat
set_option linter.unusedVariables false
set_option maxRecDepth 100000
namespace Go.Proofs.YtcjdedkdoagifaaGreat
end Go.Proofs.YtcjdedkdoagifaaGreat
set_option linter.unusedVariables false
namespace Go.Proofs.YtcjdedkdoagifaaGreat
theorem aDE {x m:Int} (hx:-9223372036854775808≤x∧x≤9223372036854775807) (hm:0<m):∃r,fD x m=some r∧0≤r∧r<m:=by
 unfold fD
 by_cases h:x<0
 ·refine⟨(-(x+1))%m,?_,Int.emod_nonneg _ (by omega),Int.emod_lt_of_pos _ hm⟩
  rw [dT h,cC,lL (by omega),oB,lL (by omega),oB,oP (by omega) hm,oB]
 ·refine⟨x%m,?_,Int.emod_nonneg _ (by omega),Int.emod_lt_of_pos _ hm⟩
  rw [dF h,bV,oP (by omega) hm,oB]
theorem aCb {l:List Int} (hl:aHW l) (i:Int) {m:Int} (hm:0<m):∃r,bR l i m=some r∧0≤r∧r<m:=by
 unfold bR
 by_cases h:i<0
 ·exact⟨0,by rw [dT h,cC],by omega,hm⟩
 ·rw [dF h,bV]
  by_cases h2:(l.length:Int)≤i
  ·exact⟨0,by rw [dT h2,cC],by omega,hm⟩
  ·rw [dF h2,bV]
   obtain⟨n,rfl⟩:∃n:Nat,i=n:=⟨i.toNat,by omega⟩
   obtain⟨x,hx,_,hr⟩:=rdM (xs:=l) (i:=n) (by omega)
   obtain⟨r,h3,h4,h5⟩:=aDE (hl x hx) hm
   exact⟨r,by rw [hr,oB,h3,oB],h4,h5⟩
theorem aDr {a m:Int} (h:0≤a) (hm:0<m):0≤a%m∧a%m<m:=⟨Int.emod_nonneg _ (by omega),Int.emod_lt_of_pos _ hm⟩
def xT (k:Nat) (xs:List Rat):Prop:=∀x∈xs,Bd k x
theorem xT.snoc {k:Nat} {xs:List Rat} {x:Rat} (h:xT k xs) (hx:Bd k x):xT k (xs++[x]):=fun y hy=>by
 rcases List.mem_append.1 hy with h1|h1
 ·exact h y h1
 ·rw [List.mem_singleton.1 h1];exact hx
theorem apS {α:Type} {xs:List α} {x:α} (h:xs.length≤60000000000):oT xs [x]=some (xs++[x]):=vY (by simp;omega)
theorem aP7 {p q:Int} (hp:p≠0) (hq:q≠0):(p:Rat)/q≠0:=by
 rw [←Rat.divInt_eq_div]
 intro h
 have:=congrArg Rat.num h
 rw [Rat.num_divInt] at this
 have e:(0:Rat).num=0:=rfl
 rw [e] at this
 obtain⟨c,hc⟩:=Int.gcd_dvd_right (a:=q) (b:=p)
 have hg:0<Int.gcd q p:=Int.gcd_pos_of_ne_zero_left p hq
 have h2:q.sign*p/((Int.gcd q p:Nat):Int)=q.sign*c:=by
  conv=>lhs;rw [hc]
  rw [←Int.mul_assoc,Int.mul_comm q.sign,Int.mul_assoc]
  have:((q.gcd (((q.gcd p:Nat):Int)*c):Nat):Int)=((q.gcd p:Nat):Int):=by rw [←hc]
  rw [this]
  exact Int.mul_ediv_cancel_left _ (by omega)
 rw [h2] at this
 rcases Int.mul_eq_zero.1 this with h3|h3
 ·exact hq (Int.sign_eq_zero_iff_zero.1 h3)
 ·subst h3;rw [Int.mul_zero] at hc;exact hp hc
theorem rdD {α:Type} {xs:List α} {i:Nat} (d:α) (h:i<xs.length):bU xs (i:Int)=some (xs.getD i d):=by
 rw [rdG (x:=xs.getD i d)]
 simp [List.getD_eq_getElem?_getD,h]
def tA (l:List Rat) (i:Nat):Rat:=l.getD i 0
theorem aIx {l:List Rat} {i:Nat} (h:i<l.length):bU l (i:Int)=some (tA l i):=rdD _ h
theorem xM {l:List Rat} {i:Nat} (h:i<l.length):tA l i∈l:=by
 have:tA l i=l[i]:=by unfold tA;simp [List.getD_eq_getElem?_getD,h]
 rw [this];exact List.getElem_mem h
theorem aP1:((1:Int):Rat)/((1:Int):Rat)=1:=by decide+kernel
def mp {α:Type} (g:Nat→α) (n:Nat):List α:=(List.range n).map g
theorem aAO {α:Type} (g:Nat→α):mp g 0=[]:=rfl
theorem aEa {α:Type} (g:Nat→α) (n:Nat):mp g (n+1)=mp g n++[g n]:=by unfold mp;rw [List.range_succ,List.map_append];rfl
theorem cJ {α:Type} (g:Nat→α) (n:Nat):(mp g n).length=n:=by simp [mp]
theorem aA9 {α:Type} {g:Nat→α} {n i:Nat} (h:i<n):(mp g n)[i]?=some (g i):=by simp [mp,h]
theorem aDS {g:Nat→Rat} {n i:Nat} (h:i<n):tA (mp g n) i=g i:=by
 unfold tA mp
 simp [List.getD_eq_getElem?_getD,h]
theorem aBw {g:Nat→Rat} {n k:Nat} (h:∀i,i<n→Bd k (g i)):xT k (mp g n):=fun x hx=>by
 obtain⟨i,hi,rfl⟩:=List.mem_map.1 hx
 exact h i (List.mem_range.1 hi)
theorem apM {α:Type} {g:Nat→α} {i:Nat} (h:i≤1000000):oT (mp g i) [g i]=some (mp g (i+1)):=by rw [aEa];exact apS (by rw [cJ];omega)
theorem cF {α:Type} {f g:Nat→α} {n:Nat} (h:∀i,i<n→f i=g i):mp f n=mp g n:=by
 unfold mp
 exact List.map_congr_left fun i hi=>h i (List.mem_range.1 hi)
def lG {α:Type} (f:Nat→α) (i:Nat) (v:α) (j:Nat):α:=if j=i then v else f j
theorem bS {α:Type} {f:Nat→α} {i:Nat} {v:α}:lG f i v i=v:=if_pos rfl
theorem dW {α:Type} {f:Nat→α} {i j:Nat} {v:α} (h:j≠i):lG f i v j=f j:=if_neg h
theorem aNv {α:Type} {f:Nat→α} {n i:Nat} {v:α}:(mp f n).set i v=mp (lG f i v) n:=by
 apply List.ext_getElem?
 intro j
 by_cases hj:j<n
 ·rw [List.getElem?_set,aA9 hj,cJ,aA9 hj]
  by_cases he:i=j
  ·subst he;rw [if_pos rfl,if_pos hj,bS]
  ·rw [if_neg he,dW (by omega)]
 ·rw [List.getElem?_eq_none (by simp [mp];omega),List.getElem?_eq_none (by simp [mp];omega)]
theorem eG {α:Type} {f:Nat→α} {n i:Nat} (h:i<n):bU (mp f n) (i:Int)=some (f i):=rdG (aA9 h)
theorem t6 {α:Type} {f:Nat→α} {n i:Nat} {v:α} (h:i<n):p9 (mp f n) (i:Int) v=some (mp (lG f i v) n):=by
 rw [stG (by rw [cJ];exact h),aNv]
theorem aMv {α:Type} (z:α):∀n,List.replicate n z=mp (fun _=>z) n
 |0=>rfl
 |n+1=>by rw [aEa,←aMv z n,List.replicate_succ']
theorem aBW {α:Type} {n:Nat} {z:α} (h:n≤68719476736):xI (n:Int) z=some (mp (fun _=>z) n):=by rw [aAU h,aMv]
theorem aJA (l:List Rat):l=mp (tA l) l.length:=by
 apply List.ext_getElem?
 intro j
 by_cases hj:j<l.length
 ·rw [aA9 hj];simp [tA,hj]
 ·rw [List.getElem?_eq_none (by omega),List.getElem?_eq_none (by simp [mp];omega)]
theorem oF {i:Nat} (h:i≤1000000000):aY ((i:Int)+1)=some ((i+1:Nat):Int):=ckN (m:=0) (n:=i+1) (by omega) (by omega)
theorem aHp {a:Rat}:a.num.sign=0↔a=0:=by rw [Int.sign_eq_zero_iff_zero,Rat.num_eq_zero]
def sm (f:Nat→Rat):Nat→Rat
 |0=>0
 |n+1=>sm f n+f n
end Go.Proofs.YtcjdedkdoagifaaGreat
set_option linter.unusedVariables false
namespace Go.Proofs.YtcjdedkdoagifaaGreat
/-- A matrix of h rows and w columns. -/
def mx (g:Nat→Nat→Rat) (h w:Nat):List (List Rat):=mp (fun i=>mp (g i) w) h
theorem aMA {g g':Nat→Nat→Rat} {h w:Nat} (e:∀i c,i<h→c<w→g i c=g' i c):mx g h w=mx g' h w:=
 cF fun i hi=>cF fun c hc=>e i c hi hc
theorem aQG {g:Nat→Nat→Rat} {h w i:Nat} {f:Nat→Rat}:mp (lG (fun i=>mp (g i) w) i (mp f w)) h=mx (lG g i f) h w:=by
 refine cF fun j _=>?_
 unfold lG
 split<;>rfl
theorem aCk {g:Nat→Nat→Rat} {h w i:Nat} (hi:i<h):bU (mx g h w) (i:Int)=some (mp (g i) w):=eG hi
theorem wD {g:Nat→Nat→Rat} {h w:Nat}:(mx g h w).length=h:=cJ _ _
def Bdx (h w b:Nat) (g:Nat→Nat→Rat):Prop:=∀i c,i<h→c<w→Bd b (g i c)
theorem Bdx.mono {h w b b':Nat} {g:Nat→Nat→Rat} (hg:Bdx h w b g) (hb:b≤b'):Bdx h w b' g:=fun i c hi hc=>(hg i c hi hc).mono hb
def piv (g:Nat→Nat→Rat) (k:Nat):Nat→Nat→Nat
 |0,i=>i
 |t+1,i=>if g i k=0 then piv g k t (i+1) else i
theorem aJp {g:Nat→Nat→Rat} {k:Nat}:∀(t i:Nat),i≤piv g k t i∧piv g k t i≤i+t
 |0,i=>⟨Nat.le_refl _,Nat.le_refl _⟩
 |t+1,i=>by
  have h:=aJp (g:=g) (k:=k) t (i+1)
  unfold piv
  split<;>omega
theorem aOS {g:Nat→Nat→Rat} {k:Nat}:∀(t i j:Nat),i≤j→j<piv g k t i→g j k=0
 |0,i,j,h1,h2=>by simp only [piv] at h2;omega
 |t+1,i,j,h1,h2=>by
  unfold piv at h2
  split at h2
  ·rename_i hz
   by_cases he:j=i
   ·rw [he];exact hz
   ·exact aOS t (i+1) j (by omega) h2
  ·omega
theorem aNe {g:Nat→Nat→Rat} {k:Nat}:∀(t i:Nat),piv g k t i<i+t→g (piv g k t i) k≠0
 |0,i,h=>by simp only [piv] at h;omega
 |t+1,i,h=>by
  unfold piv at h ⊢
  split at h
  ·rename_i hz
   rw [if_pos hz]
   exact aNe t (i+1) (by omega)
  ·rename_i hz
   rw [if_neg hz];exact hz
def swp (g:Nat→Nat→Rat) (n at0 i:Nat):Nat→Rat:=g (if i=n then at0 else if i=at0 then n else i)
def pr (g:Nat→Nat→Rat) (at0 k c:Nat):Rat:=g at0 c/g at0 k
def stp (g:Nat→Nat→Rat) (n at0 k i c:Nat):Rat:=if i=n then pr g at0 k c else swp g n at0 i c-swp g n at0 i k*pr g at0 k c
structure RS where
 ps:List Nat
 g:Nat→Nat→Rat
 d:Rat
def aG1 (h k:Nat) (s:RS):RS:=
 if piv s.g k (h-s.ps.length) s.ps.length=h then s
 else⟨s.ps++[k],stp s.g s.ps.length (piv s.g k (h-s.ps.length) s.ps.length) k,(if piv s.g k (h-s.ps.length) s.ps.length=s.ps.length then s.d else -s.d)*s.g (piv s.g k (h-s.ps.length) s.ps.length) k⟩
def red (g:Nat→Nat→Rat) (h:Nat):Nat→RS
 |0=>⟨[],g,1⟩
 |k+1=>aG1 h k (red g h k)
theorem aG4 {h n at0 i:Nat} (hn:n<h) (ha:at0<h) (hi:i<h):(if i=n then at0 else if i=at0 then n else i)<h:=by split;exact ha;split;exact hn;exact hi
end Go.Proofs.YtcjdedkdoagifaaGreat
set_option linter.unusedVariables false
namespace Go.Proofs.YtcjdedkdoagifaaGreat
/-- The rows that the list of indices names, in a pool of rows. -/
structure Rep (ι:Nat→Nat) (pool:List (List Rat)) (g:Nat→Nat→Rat) (h w:Nat):Prop where
 inj:∀i j,i<h→j<h→ι i=ι j→i=j
 lt:∀i,i<h→ι i<pool.length
 el:∀i,i<h→pool.getD (ι i) []=mp (g i) w
theorem Rep.set {ι:Nat→Nat} {pool:List (List Rat)} {g:Nat→Nat→Rat} {h w i:Nat} (r:Rep ι pool g h w) (hi:i<h) (f:Nat→Rat):Rep ι (pool.set (ι i) (mp f w)) (lG g i f) h w:=by
 refine⟨r.inj,fun j hj=>by rw [List.length_set];exact r.lt j hj,fun j hj=>?_⟩
 rw [List.getD_eq_getElem?_getD,List.getElem?_set]
 by_cases he:j=i
 ·subst he
  rw [if_pos rfl,if_pos (r.lt j hj),bS];rfl
 ·rw [if_neg (fun h=>he (r.inj j i hj hi h.symm)),←List.getD_eq_getElem?_getD,r.el j hj,dW he]
theorem Rep.congr {ι:Nat→Nat} {pool:List (List Rat)} {g g':Nat→Nat→Rat} {h w:Nat} (r:Rep ι pool g h w) (e:∀i c,i<h→c<w→g i c=g' i c):Rep ι pool g' h w:=
 ⟨r.inj,r.lt,fun i hi=>by rw [r.el i hi];exact cF fun c hc=>e i c hi hc⟩
theorem Rep.sel {ι:Nat→Nat} {pool:List (List Rat)} {g:Nat→Nat→Rat} {h w:Nat} (r:Rep ι pool g h w):aFJ pool (mp ι h)=mx g h w:=by
 unfold aFJ mx
 apply List.ext_getElem?
 intro j
 by_cases hj:j<h
 ·rw [List.getElem?_map,aA9 hj,aA9 hj,←r.el j hj];rfl
 ·rw [List.getElem?_map,List.getElem?_eq_none (by simp [mp];omega),List.getElem?_eq_none (by simp [mp];omega)];rfl
theorem Rep.swap {ι:Nat→Nat} {pool:List (List Rat)} {g:Nat→Nat→Rat} {h w n a:Nat} (r:Rep ι pool g h w) (hn:n<h) (ha:a<h) (hne:n≠a):Rep (lG (lG ι n (ι a)) a (ι n)) pool (swp g n a) h w:=by
 have key:∀i,lG (lG ι n (ι a)) a (ι n) i=ι (if i=n then a else if i=a then n else i):=fun i=>by
  unfold lG
  by_cases h1:i=n
  ·rw [if_pos h1,if_neg (by omega),if_pos h1]
  ·rw [if_neg h1]
   by_cases h2:i=a
   ·rw [if_pos h2,if_pos h2,if_neg h1]
   ·rw [if_neg h2,if_neg h1,if_neg h2]
 refine⟨fun i j hi hj e=>?_,fun i hi=>?_,fun i hi=>?_⟩
 ·rw [key,key] at e
  have:=r.inj _ _ (aG4 hn ha hi) (aG4 hn ha hj) e
  split at this<;>split at this<;>(try split at this)<;>(try split at this)<;>omega
 ·rw [key];exact r.lt _ (aG4 hn ha hi)
 ·rw [key];exact r.el _ (aG4 hn ha hi)
def mid (f e:Nat→Rat) (c j:Nat):Rat:=if j<c then f j else e j
theorem aNY {α:Type} {g:Nat→α} {i:Nat} {x y:α}:lG (lG g i x) i y=lG g i y:=by
 funext j
 unfold lG
 split<;>rfl
end Go.Proofs.YtcjdedkdoagifaaGreat
set_option linter.unusedVariables false
namespace Go.Proofs.YtcjdedkdoagifaaGreat
/-- A list of numbers read by index. -/
def pat (ps:List Nat) (i:Nat):Nat:=ps.getD i 0
def Cok (h w:Nat):Prop:=h=0→w=0
theorem aH5 {g:Nat→Nat→Rat} {h w:Nat} (hc:Cok h w):qO (mx g h w)=some (w:Int):=by
 by_cases h0:h=0
 ·subst h0
  rw [hc rfl];rfl
 ·have r0:=aCk (g:=g) (w:=w) (show 0<h by omega)
  simp only [Int.natCast_zero] at r0
  simp only [qO,wD,qF (show¬(h:Int)=0 by omega),bV,r0,oB,cJ]
theorem aEZ {l:List Rat} {b:Nat} (hl:xT b l) (hb:b≤1073741824) (hn:l.length≤1000) (K:Nat):∀(t i k:Nat),i+t=l.length→t<k→gS K l l k (i:Int)=some (.go ())
 |0,i,k,hi,hk=>by
  obtain⟨k',rfl,_⟩:=bG hk
  simp only [gS,dF (show¬(i:Int)<(l.length:Int) by omega),bV]
 |t+1,i,k,hi,hk=>by
  obtain⟨k',rfl,_⟩:=bG hk
  have hx:=hl _ (xM (l:=l) (i:=i) (by omega))
  simp only [gS,dT (show(i:Int)<(l.length:Int) by omega),cC,aIx (l:=l) (i:=i) (by omega),oB,aEU hx hx hb hb,decide_true,Bool.not_true,bV,oF (i:=i) (by omega)]
  exact aEZ hl hb hn K t (i+1) k' (by omega) (by omega)
theorem aEF {l:List Rat} {b:Nat} (hl:xT b l) (hb:b≤1073741824) (hn:l.length≤1000) {K:Nat} (hK:l.length<K):jO K l l=some true:=by
 have:=aEZ hl hb hn K l.length 0 K (by omega) hK
 simp only [Int.natCast_zero] at this
 simp only [jO,nF (rfl:(l.length:Int)=l.length),bV,this,oB,oL]
end Go.Proofs.YtcjdedkdoagifaaGreat
