/- Texts of the proof, part 5: Q2 Q3 QZ LB MA MB MC MR MT LG LV MS MN MP MU YC YD LD LS XL XF XA XU XV XW XX. -/
import Derived.Test.YtcjdedkdoagifaaGreatZ4
set_option linter.unusedVariables false
set_option maxRecDepth 100000
namespace Go.Proofs.YtcjdedkdoagifaaGreat
def kV (K:Nat) (v98:List Rat) (x134:List Nat) (x140:List (List Rat)):Option ((List (List Rat))×(List Rat)):=
 some ((aDW x140 x134),v98)
def dM (K:Nat) (a0:aD) (v2:List aC) (x121:List Nat) (x127:List (List Rat)) (x133:Int) (v152:aC) (v164:aA) (recl146:(List Nat)→(List (List Rat))→Int→Option ((List Nat)×(List (List Rat)))) (x174:List aF):Option ((List Nat)×(List (List Rat))):=
 (aP (x133+3)).bind fun v183=>bif(decide (v183<(v2.length:Int))) then((aP (x133+3)).bind fun v186=>(bK v2 v186).bind fun v188=>bif(v188.row==v152.row&&v188.kind==3) then((aP (x133+3)).bind fun v193=>(bK x121 v193).bind fun v195=>(bK (x127.getD v195 []) x133).bind fun v197=>(nL (x127.getD v195 []) x133 v164.mu).bind fun x199=>(vC (a0.dofs.length:Int) 0).bind fun x204=>(bE K a0 x204 x174).bind fun v206=>(bY K v206 x133 v2 a0 x121 (x127.set v195 x199)).bind fun v208=>(aP (x133+1)).bind fun v221=>recl146 v208.1 v208.2 v221) else((vC (a0.dofs.length:Int) 0).bind fun x225=>(bE K a0 x225 x174).bind fun v227=>(bY K v227 x133 v2 a0 x121 x127).bind fun v229=>(aP (x133+1)).bind fun v242=>recl146 v229.1 v229.2 v242)) else((vC (a0.dofs.length:Int) 0).bind fun x246=>(bE K a0 x246 x174).bind fun v248=>(bY K v248 x133 v2 a0 x121 x127).bind fun v250=>(aP (x133+1)).bind fun v263=>recl146 v250.1 v250.2 v263)
def aW (K:Nat) (a0:aD) (v2:List aC) (x91:List aF) (v105:Rat):Nat→(List Nat)→(List (List Rat))→Int→Option ((List Nat)×(List (List Rat)))
 |0,_,_,_=>none
 |k+1,x121,x127,x133=>bif(decide (x133<(v2.length:Int))) then((bK v2 x133).bind fun v152=>(nB x91).bind fun v156=>(bK a0.rows v152.row).bind fun v164=>bif(v152.kind==0) then((bK v156 v152.row).bind fun v168=>(nL v156 v152.row (⟨v105,v168.f⟩:aF)).bind fun x170=>bif(decide (0<(v164.t.length:Int))) then((jN K a0 v164 v105).bind fun v268=>(bK x170 v152.row).bind fun v270=>(nL x170 v152.row (⟨v270.n,v268⟩:aF)).bind fun x272=>dM K a0 v2 x121 x127 x133 v152 v164 (aW K a0 v2 x91 v105 k) x272) else(dM K a0 v2 x121 x127 x133 v152 v164 (aW K a0 v2 x91 v105 k) x170)) else(bif(v152.kind==1) then((bK v156 v152.row).bind fun v276=>(nL v156 v152.row (⟨v276.n,v105⟩:aF)).bind fun x278=>(aP (x133+3)).bind fun v283=>(aP (v283-1)).bind fun v285=>(bK x121 v285).bind fun v287=>(aAY v105).bind fun v289=>(bK (x127.getD v287 []) x133).bind fun v291=>(nL (x127.getD v287 []) x133 v289).bind fun x293=>(vC (a0.dofs.length:Int) 0).bind fun x298=>(bE K a0 x298 x278).bind fun v300=>(bY K v300 x133 v2 a0 x121 (x127.set v287 x293)).bind fun v302=>(aP (x133+1)).bind fun v315=>aW K a0 v2 x91 v105 k v302.1 v302.2 v315) else(bif(v152.kind==2) then((aAY v105).bind fun v320=>(bK v156 v152.row).bind fun v322=>(nL v156 v152.row (⟨v322.n,v320⟩:aF)).bind fun x324=>(aP (x133+3)).bind fun v329=>(aP (v329-2)).bind fun v331=>(bK x121 v331).bind fun v333=>(aAY v105).bind fun v335=>(bK (x127.getD v333 []) x133).bind fun v337=>(nL (x127.getD v333 []) x133 v335).bind fun x339=>(vC (a0.dofs.length:Int) 0).bind fun x344=>(bE K a0 x344 x324).bind fun v346=>(bY K v346 x133 v2 a0 x121 (x127.set v333 x339)).bind fun v348=>(aP (x133+1)).bind fun v361=>aW K a0 v2 x91 v105 k v348.1 v348.2 v361) else(bif(v152.kind==3) then((aP (x133+1)).bind fun v366=>(aP (v366-3)).bind fun v368=>(bK x121 v368).bind fun v370=>(aP (x133+2)).bind fun v372=>(aP (v372-3)).bind fun v374=>(bK x121 v374).bind fun v376=>(bK (x127.getD v370 []) x133).bind fun v378=>(nL (x127.getD v370 []) x133 v105).bind fun x380=>(bK ((x127.set v370 x380).getD v376 []) x133).bind fun v383=>(nL ((x127.set v370 x380).getD v376 []) x133 v105).bind fun x386=>(aP (x133+1)).bind fun v389=>aW K a0 v2 x91 v105 k x121 ((x127.set v370 x380).set v376 x386) v389) else((vC (a0.dofs.length:Int) 0).bind fun x393=>(bE K a0 x393 v156).bind fun v395=>(bY K v395 x133 v2 a0 x121 x127).bind fun v397=>(aP (x133+1)).bind fun v410=>aW K a0 v2 x91 v105 k v397.1 v397.2 v410))))) else(some (x121,x127))
def lL (K:Nat) (a0:aD) (v2:List aC) (x13:List Rat) (x77:List Nat) (x83:List (List Rat)):Option ((List (List Rat))×(List Rat)):=
 (vC (a0.rows.length:Int) (⟨0,0⟩:aF)).bind fun x91=>(bE K a0 a0.load x91).bind fun v96=>(kZ K v96 v2 a0 x13).bind fun v98=>(zJ 1 1).bind fun v105=>(aW K a0 v2 x91 v105 K x77 x83 0).bind fun(x134,x140)=>kV K v98 x134 x140
def fD (K:Nat) (v2:List aC) (x10:List Nat):Nat→(List Nat)→(List (List Rat))→Int→Option ((List Nat)×(List (List Rat)))
 |0,_,_,_=>none
 |k+1,x64,x70,x76=>bif(decide (x76<(x10.length:Int))) then((vC (v2.length:Int) 0).bind fun x415=>(bK x64 x76).bind fun v419=>(nL x64 x76 x70.length).bind fun x423=>(aP (x76+1)).bind fun v427=>fD K v2 x10 k x423 (x70++[x415]) v427) else(some (x64,x70))
def lQ (K:Nat) (a0:aD):Option ((List (List Rat))×(List Rat)):=
 (iO K a0).bind fun v2=>(vC (v2.length:Int) (0:Nat)).bind fun x10=>(vC (v2.length:Int) 0).bind fun x13=>(fD K v2 x10 K x10 [([]:List Rat)] 0).bind fun(x77,x83)=>lL K a0 v2 x13 x77 x83
theorem zG {K:Nat} {a0:aD} {r:(List (List Rat))×(List Rat)} (hF:lQ K a0=some r):Ct Tryz.prog 71 [.va (aD.enc a0)] (.t2 (.vc (pS (wD cQ) r.1)) (.vc (pS cQ r.2))):=by
 unfold lQ at hF
 refine aI Tryz.func71 rfl (by kernel_rfl) Tryz.ntmps71 rfl (fun w0 M0=>?_)
 refine aO (aY (cU rfl rfl trivial (fun b1=>?_)))
 refine aV (bS (.inr rfl)) ⟨eD (wD cQ),trivial⟩ ?_
 refine aV (bS (.inr rfl)) ⟨eD cQ,trivial⟩ ?_
 obtain⟨v2,h3,hF⟩:=bC hF tW
 refine go ?_ ?_
 refine aM rfl tyZ114q (fun b4=>?_)
 refine go ?_ ?_
 refine aV (aFF (xs:=[.tmp 4,.tmp 1]) (cs:=[pP (some b4) 0,pP (some b1) 0]) rfl rfl) zU2 ?_
 refine aAi ?_
 refine bU (aU (aO (aMZ cQ 44 ?_)))
 obtain⟨x10,h11,hF⟩:=bB hF
 obtain⟨x13,h14,hF⟩:=bB hF
 refine rJ (HsM [(0,fun G7=>([⟨some b4,1,114,1,1,[pS aC.cod v2]⟩,⟨some b1,1,113,4,1,(aD.enc a0)⟩]++gZ cQ 44 [(none,0,0)] [([]:List Rat)])),(1,fun G7=>([hO (cH [(none,0,0)]) ((G7 2).1) x10.length 24 x10.length x10,⟨some b4,1,114,1,1,[pS aC.cod v2]⟩,⟨some b1,1,113,4,1,(aD.enc a0)⟩]++gZ cQ 44 [(none,0,0)] [([]:List Rat)])),(2,fun G7=>([hO cQ ((G7 5).1) x13.length 44 x13.length x13,⟨some b4,1,114,1,1,[pS aC.cod v2]⟩,⟨some b1,1,113,4,1,(aD.enc a0)⟩]++gZ cQ 44 [(none,0,0)] [([]:List Rat)])),(3,fun G7=>([hO cQ ((G7 5).1) x13.length 44 x13.length x13,hO (cH [(none,0,0)]) ((G7 2).1) x10.length 24 x10.length x10,⟨some b4,1,114,1,1,[pS aC.cod v2]⟩,⟨some b1,1,113,4,1,(aD.enc a0)⟩]++gZ cQ 44 [(none,0,0)] [([]:List Rat)])),(4,fun G7=>([⟨some ((G7 6).1.getD 0),1,62,1,1,[pS (wD cQ) ([]:List (List Rat))]⟩,⟨some b4,1,114,1,1,[pS aC.cod v2]⟩,⟨some b1,1,113,4,1,(aD.enc a0)⟩]++gZ cQ 44 [(none,0,0)] [([]:List Rat)])),(5,fun G7=>([⟨some ((G7 6).1.getD 0),1,62,1,1,[pS (wD cQ) ([]:List (List Rat))]⟩,hO (cH [(none,0,0)]) ((G7 2).1) x10.length 24 x10.length x10,⟨some b4,1,114,1,1,[pS aC.cod v2]⟩,⟨some b1,1,113,4,1,(aD.enc a0)⟩]++gZ cQ 44 [(none,0,0)] [([]:List Rat)])),(6,fun G7=>([⟨some ((G7 6).1.getD 0),1,62,1,1,[pS (wD cQ) ([]:List (List Rat))]⟩,hO cQ ((G7 5).1) x13.length 44 x13.length x13,⟨some b4,1,114,1,1,[pS aC.cod v2]⟩,⟨some b1,1,113,4,1,(aD.enc a0)⟩]++gZ cQ 44 [(none,0,0)] [([]:List Rat)])),(7,fun G7=>([⟨some ((G7 6).1.getD 0),1,62,1,1,[pS (wD cQ) ([]:List (List Rat))]⟩,hO cQ ((G7 5).1) x13.length 44 x13.length x13,hO (cH [(none,0,0)]) ((G7 2).1) x10.length 24 x10.length x10,⟨some b4,1,114,1,1,[pS aC.cod v2]⟩,⟨some b1,1,113,4,1,(aD.enc a0)⟩]++gZ cQ 44 [(none,0,0)] [([]:List Rat)])),(8,fun G7=>([⟨some ((G7 7).1.getD 0),1,24,1,1,[pS cQ ([]:List Rat)]⟩,⟨some b4,1,114,1,1,[pS aC.cod v2]⟩,⟨some b1,1,113,4,1,(aD.enc a0)⟩]++gZ cQ 44 [(none,0,0)] [([]:List Rat)])),(9,fun G7=>([⟨some ((G7 7).1.getD 0),1,24,1,1,[pS cQ ([]:List Rat)]⟩,hO (cH [(none,0,0)]) ((G7 2).1) x10.length 24 x10.length x10,⟨some b4,1,114,1,1,[pS aC.cod v2]⟩,⟨some b1,1,113,4,1,(aD.enc a0)⟩]++gZ cQ 44 [(none,0,0)] [([]:List Rat)])),(10,fun G7=>([⟨some ((G7 7).1.getD 0),1,24,1,1,[pS cQ ([]:List Rat)]⟩,hO cQ ((G7 5).1) x13.length 44 x13.length x13,⟨some b4,1,114,1,1,[pS aC.cod v2]⟩,⟨some b1,1,113,4,1,(aD.enc a0)⟩]++gZ cQ 44 [(none,0,0)] [([]:List Rat)])),(11,fun G7=>([⟨some ((G7 7).1.getD 0),1,24,1,1,[pS cQ ([]:List Rat)]⟩,hO cQ ((G7 5).1) x13.length 44 x13.length x13,hO (cH [(none,0,0)]) ((G7 2).1) x10.length 24 x10.length x10,⟨some b4,1,114,1,1,[pS aC.cod v2]⟩,⟨some b1,1,113,4,1,(aD.enc a0)⟩]++gZ cQ 44 [(none,0,0)] [([]:List Rat)])),(12,fun G7=>([⟨some ((G7 7).1.getD 0),1,24,1,1,[pS cQ ([]:List Rat)]⟩,⟨some ((G7 6).1.getD 0),1,62,1,1,[pS (wD cQ) ([]:List (List Rat))]⟩,⟨some b4,1,114,1,1,[pS aC.cod v2]⟩,⟨some b1,1,113,4,1,(aD.enc a0)⟩]++gZ cQ 44 [(none,0,0)] [([]:List Rat)])),(13,fun G7=>([⟨some ((G7 7).1.getD 0),1,24,1,1,[pS cQ ([]:List Rat)]⟩,⟨some ((G7 6).1.getD 0),1,62,1,1,[pS (wD cQ) ([]:List (List Rat))]⟩,hO (cH [(none,0,0)]) ((G7 2).1) x10.length 24 x10.length x10,⟨some b4,1,114,1,1,[pS aC.cod v2]⟩,⟨some b1,1,113,4,1,(aD.enc a0)⟩]++gZ cQ 44 [(none,0,0)] [([]:List Rat)])),(14,fun G7=>([⟨some ((G7 7).1.getD 0),1,24,1,1,[pS cQ ([]:List Rat)]⟩,⟨some ((G7 6).1.getD 0),1,62,1,1,[pS (wD cQ) ([]:List (List Rat))]⟩,hO cQ ((G7 5).1) x13.length 44 x13.length x13,⟨some b4,1,114,1,1,[pS aC.cod v2]⟩,⟨some b1,1,113,4,1,(aD.enc a0)⟩]++gZ cQ 44 [(none,0,0)] [([]:List Rat)])),(15,fun G7=>([⟨some ((G7 7).1.getD 0),1,24,1,1,[pS cQ ([]:List Rat)]⟩,⟨some ((G7 6).1.getD 0),1,62,1,1,[pS (wD cQ) ([]:List (List Rat))]⟩,hO cQ ((G7 5).1) x13.length 44 x13.length x13,hO (cH [(none,0,0)]) ((G7 2).1) x10.length 24 x10.length x10,⟨some b4,1,114,1,1,[pS aC.cod v2]⟩,⟨some b1,1,113,4,1,(aD.enc a0)⟩]++gZ cQ 44 [(none,0,0)] [([]:List Rat)])),(29,fun G7=>([⟨some ((G7 7).1.getD 0),1,24,1,1,[pS cQ ([]:List Rat)]⟩,⟨some ((G7 6).1.getD 0),1,62,1,1,[pO ((G7 2).1) x10.length x10.length]⟩,hO (cH [(none,0,0)]) ((G7 2).1) x10.length 24 x10.length x10,⟨some b4,1,114,1,1,[pS aC.cod v2]⟩,⟨some b1,1,113,4,1,(aD.enc a0)⟩]++gZ cQ 44 [(none,0,0)] [([]:List Rat)])),(31,fun G7=>([⟨some ((G7 7).1.getD 0),1,24,1,1,[pS cQ ([]:List Rat)]⟩,⟨some ((G7 6).1.getD 0),1,62,1,1,[pO ((G7 2).1) x10.length x10.length]⟩,hO cQ ((G7 5).1) x13.length 44 x13.length x13,hO (cH [(none,0,0)]) ((G7 2).1) x10.length 24 x10.length x10,⟨some b4,1,114,1,1,[pS aC.cod v2]⟩,⟨some b1,1,113,4,1,(aD.enc a0)⟩]++gZ cQ 44 [(none,0,0)] [([]:List Rat)]))]) [2,5,6,7,8] [0,1,3,0,8,24,0,0,199,511] 9 1 [.v (.vc (pS aC.cod v2)),.v (.vc (pI .i64 (v2.length:Int))),.g (fun b _=>.vc (pO b x10.length x10.length)),.v (.vc (pS aC.cod v2)),.v (.vc (pI .i64 (v2.length:Int))),.g (fun b _=>.vc (pO b x13.length x13.length)),.g (fun b _=>.vc (pP (some (b.getD 0)) 0)),.g (fun b _=>.vc (pP (some (b.getD 0)) 0)),.g (fun _ _=>.any)] bJ ⟨⟨rfl,.run (L:=[0,2,4,6,8,10,12,14]) ⟨fun G7 A=>gH 0 1 rfl rfl rfl rfl (.one tyO114),fun G7 A=>gH 1 1 rfl rfl rfl rfl (.one tyO114),fun G7 A=>gH 1 1 rfl rfl rfl rfl (.one tyO114),fun G7 A=>gH 2 1 rfl rfl rfl rfl (.one tyO114),fun G7 A=>gH 1 1 rfl rfl rfl rfl (.one tyO114),fun G7 A=>gH 2 1 rfl rfl rfl rfl (.one tyO114),fun G7 A=>gH 2 1 rfl rfl rfl rfl (.one tyO114),fun G7 A=>gH 3 1 rfl rfl rfl rfl (.one tyO114),trivial⟩ (fun G7=>zU1)⟩,⟨rfl,.run (L:=[0,2,4,6,8,10,12,14]) ⟨fun G7 A=>tQ rfl tyS114,fun G7 A=>tQ rfl tyS114,fun G7 A=>tQ rfl tyS114,fun G7 A=>tQ rfl tyS114,fun G7 A=>tQ rfl tyS114,fun G7 A=>tQ rfl tyS114,fun G7 A=>tQ rfl tyS114,fun G7 A=>tQ rfl tyS114,trivial⟩ (fun G7=>zU1)⟩,⟨rfl,.hvy [0,2,4,6,8,10,12,14] ⟨fun G7 A=>gV (C:=cH [(none,0,0)]) (z:=0) rfl tyS62 rfl tyZ24_oq h11,fun G7 A=>qC (R:=gZ cQ 44 [(none,0,0)] [([]:List Rat)]) [1,0,2,3] (gV (C:=cH [(none,0,0)]) (z:=0) rfl tyS62 rfl tyZ24_oq h11) (fun b_ c_=>⟨[hO (cH [(none,0,0)]) (b_) x10.length 24 x10.length x10,hO cQ ((G7 5).1) x13.length 44 x13.length x13,⟨some b4,1,114,1,1,[pS aC.cod v2]⟩,⟨some b1,1,113,4,1,(aD.enc a0)⟩],_,rfl,rfl,rfl⟩),fun G7 A=>qC (R:=gZ cQ 44 [(none,0,0)] [([]:List Rat)]) [1,0,2,3] (gV (C:=cH [(none,0,0)]) (z:=0) rfl tyS62 rfl tyZ24_oq h11) (fun b_ c_=>⟨[hO (cH [(none,0,0)]) (b_) x10.length 24 x10.length x10,⟨some ((G7 6).1.getD 0),1,62,1,1,[pS (wD cQ) ([]:List (List Rat))]⟩,⟨some b4,1,114,1,1,[pS aC.cod v2]⟩,⟨some b1,1,113,4,1,(aD.enc a0)⟩],_,rfl,rfl,rfl⟩),fun G7 A=>qC (R:=gZ cQ 44 [(none,0,0)] [([]:List Rat)]) [1,2,0,3,4] (gV (C:=cH [(none,0,0)]) (z:=0) rfl tyS62 rfl tyZ24_oq h11) (fun b_ c_=>⟨[hO (cH [(none,0,0)]) (b_) x10.length 24 x10.length x10,⟨some ((G7 6).1.getD 0),1,62,1,1,[pS (wD cQ) ([]:List (List Rat))]⟩,hO cQ ((G7 5).1) x13.length 44 x13.length x13,⟨some b4,1,114,1,1,[pS aC.cod v2]⟩,⟨some b1,1,113,4,1,(aD.enc a0)⟩],_,rfl,rfl,rfl⟩),fun G7 A=>qC (R:=gZ cQ 44 [(none,0,0)] [([]:List Rat)]) [1,0,2,3] (gV (C:=cH [(none,0,0)]) (z:=0) rfl tyS62 rfl tyZ24_oq h11) (fun b_ c_=>⟨[hO (cH [(none,0,0)]) (b_) x10.length 24 x10.length x10,⟨some ((G7 7).1.getD 0),1,24,1,1,[pS cQ ([]:List Rat)]⟩,⟨some b4,1,114,1,1,[pS aC.cod v2]⟩,⟨some b1,1,113,4,1,(aD.enc a0)⟩],_,rfl,rfl,rfl⟩),fun G7 A=>qC (R:=gZ cQ 44 [(none,0,0)] [([]:List Rat)]) [1,2,0,3,4] (gV (C:=cH [(none,0,0)]) (z:=0) rfl tyS62 rfl tyZ24_oq h11) (fun b_ c_=>⟨[hO (cH [(none,0,0)]) (b_) x10.length 24 x10.length x10,⟨some ((G7 7).1.getD 0),1,24,1,1,[pS cQ ([]:List Rat)]⟩,hO cQ ((G7 5).1) x13.length 44 x13.length x13,⟨some b4,1,114,1,1,[pS aC.cod v2]⟩,⟨some b1,1,113,4,1,(aD.enc a0)⟩],_,rfl,rfl,rfl⟩),fun G7 A=>qC (R:=gZ cQ 44 [(none,0,0)] [([]:List Rat)]) [1,2,0,3,4] (gV (C:=cH [(none,0,0)]) (z:=0) rfl tyS62 rfl tyZ24_oq h11) (fun b_ c_=>⟨[hO (cH [(none,0,0)]) (b_) x10.length 24 x10.length x10,⟨some ((G7 7).1.getD 0),1,24,1,1,[pS cQ ([]:List Rat)]⟩,⟨some ((G7 6).1.getD 0),1,62,1,1,[pS (wD cQ) ([]:List (List Rat))]⟩,⟨some b4,1,114,1,1,[pS aC.cod v2]⟩,⟨some b1,1,113,4,1,(aD.enc a0)⟩],_,rfl,rfl,rfl⟩),fun G7 A=>qC (R:=gZ cQ 44 [(none,0,0)] [([]:List Rat)]) [1,2,3,0,4,5] (gV (C:=cH [(none,0,0)]) (z:=0) rfl tyS62 rfl tyZ24_oq h11) (fun b_ c_=>⟨[hO (cH [(none,0,0)]) (b_) x10.length 24 x10.length x10,⟨some ((G7 7).1.getD 0),1,24,1,1,[pS cQ ([]:List Rat)]⟩,⟨some ((G7 6).1.getD 0),1,62,1,1,[pS (wD cQ) ([]:List (List Rat))]⟩,hO cQ ((G7 5).1) x13.length 44 x13.length x13,⟨some b4,1,114,1,1,[pS aC.cod v2]⟩,⟨some b1,1,113,4,1,(aD.enc a0)⟩],_,rfl,rfl,rfl⟩),trivial⟩ (fun G7=>zU1)⟩,⟨rfl,.run (L:=[0,1,4,5,8,9,12,13,29]) ⟨fun G7 A=>gH 0 1 rfl rfl rfl rfl (.one tyO114),fun G7 A=>gH 1 1 rfl rfl rfl rfl (.one tyO114),fun G7 A=>gH 1 1 rfl rfl rfl rfl (.one tyO114),fun G7 A=>gH 2 1 rfl rfl rfl rfl (.one tyO114),fun G7 A=>gH 1 1 rfl rfl rfl rfl (.one tyO114),fun G7 A=>gH 2 1 rfl rfl rfl rfl (.one tyO114),fun G7 A=>gH 2 1 rfl rfl rfl rfl (.one tyO114),fun G7 A=>gH 3 1 rfl rfl rfl rfl (.one tyO114),fun G7 A=>gH 3 1 rfl rfl rfl rfl (.one tyO114),trivial⟩ (fun G7=>zU1)⟩,⟨rfl,.run (L:=[0,1,4,5,8,9,12,13,29]) ⟨fun G7 A=>tQ rfl tyS114,fun G7 A=>tQ rfl tyS114,fun G7 A=>tQ rfl tyS114,fun G7 A=>tQ rfl tyS114,fun G7 A=>tQ rfl tyS114,fun G7 A=>tQ rfl tyS114,fun G7 A=>tQ rfl tyS114,fun G7 A=>tQ rfl tyS114,fun G7 A=>tQ rfl tyS114,trivial⟩ (fun G7=>zU1)⟩,⟨rfl,.hvy [0,1,4,5,8,9,12,13,29] ⟨fun G7 A=>gV (C:=cQ) rfl tyS24 rfl tyZ44q h14,fun G7 A=>gV (C:=cQ) rfl tyS24 rfl tyZ44q h14,fun G7 A=>qC (R:=gZ cQ 44 [(none,0,0)] [([]:List Rat)]) [1,0,2,3] (gV (C:=cQ) rfl tyS24 rfl tyZ44q h14) (fun b_ c_=>⟨[hO cQ (b_) x13.length 44 x13.length x13,⟨some ((G7 6).1.getD 0),1,62,1,1,[pS (wD cQ) ([]:List (List Rat))]⟩,⟨some b4,1,114,1,1,[pS aC.cod v2]⟩,⟨some b1,1,113,4,1,(aD.enc a0)⟩],_,rfl,rfl,rfl⟩),fun G7 A=>qC (R:=gZ cQ 44 [(none,0,0)] [([]:List Rat)]) [1,0,2,3,4] (gV (C:=cQ) rfl tyS24 rfl tyZ44q h14) (fun b_ c_=>⟨[hO cQ (b_) x13.length 44 x13.length x13,⟨some ((G7 6).1.getD 0),1,62,1,1,[pS (wD cQ) ([]:List (List Rat))]⟩,hO (cH [(none,0,0)]) ((G7 2).1) x10.length 24 x10.length x10,⟨some b4,1,114,1,1,[pS aC.cod v2]⟩,⟨some b1,1,113,4,1,(aD.enc a0)⟩],_,rfl,rfl,rfl⟩),fun G7 A=>qC (R:=gZ cQ 44 [(none,0,0)] [([]:List Rat)]) [1,0,2,3] (gV (C:=cQ) rfl tyS24 rfl tyZ44q h14) (fun b_ c_=>⟨[hO cQ (b_) x13.length 44 x13.length x13,⟨some ((G7 7).1.getD 0),1,24,1,1,[pS cQ ([]:List Rat)]⟩,⟨some b4,1,114,1,1,[pS aC.cod v2]⟩,⟨some b1,1,113,4,1,(aD.enc a0)⟩],_,rfl,rfl,rfl⟩),fun G7 A=>qC (R:=gZ cQ 44 [(none,0,0)] [([]:List Rat)]) [1,0,2,3,4] (gV (C:=cQ) rfl tyS24 rfl tyZ44q h14) (fun b_ c_=>⟨[hO cQ (b_) x13.length 44 x13.length x13,⟨some ((G7 7).1.getD 0),1,24,1,1,[pS cQ ([]:List Rat)]⟩,hO (cH [(none,0,0)]) ((G7 2).1) x10.length 24 x10.length x10,⟨some b4,1,114,1,1,[pS aC.cod v2]⟩,⟨some b1,1,113,4,1,(aD.enc a0)⟩],_,rfl,rfl,rfl⟩),fun G7 A=>qC (R:=gZ cQ 44 [(none,0,0)] [([]:List Rat)]) [1,2,0,3,4] (gV (C:=cQ) rfl tyS24 rfl tyZ44q h14) (fun b_ c_=>⟨[hO cQ (b_) x13.length 44 x13.length x13,⟨some ((G7 7).1.getD 0),1,24,1,1,[pS cQ ([]:List Rat)]⟩,⟨some ((G7 6).1.getD 0),1,62,1,1,[pS (wD cQ) ([]:List (List Rat))]⟩,⟨some b4,1,114,1,1,[pS aC.cod v2]⟩,⟨some b1,1,113,4,1,(aD.enc a0)⟩],_,rfl,rfl,rfl⟩),fun G7 A=>qC (R:=gZ cQ 44 [(none,0,0)] [([]:List Rat)]) [1,2,0,3,4,5] (gV (C:=cQ) rfl tyS24 rfl tyZ44q h14) (fun b_ c_=>⟨[hO cQ (b_) x13.length 44 x13.length x13,⟨some ((G7 7).1.getD 0),1,24,1,1,[pS cQ ([]:List Rat)]⟩,⟨some ((G7 6).1.getD 0),1,62,1,1,[pS (wD cQ) ([]:List (List Rat))]⟩,hO (cH [(none,0,0)]) ((G7 2).1) x10.length 24 x10.length x10,⟨some b4,1,114,1,1,[pS aC.cod v2]⟩,⟨some b1,1,113,4,1,(aD.enc a0)⟩],_,rfl,rfl,rfl⟩),fun G7 A=>qC (R:=gZ cQ 44 [(none,0,0)] [([]:List Rat)]) [1,2,0,3,4,5] (gV (C:=cQ) rfl tyS24 rfl tyZ44q h14) (fun b_ c_=>⟨[hO cQ (b_) x13.length 44 x13.length x13,⟨some ((G7 7).1.getD 0),1,24,1,1,[pS cQ ([]:List Rat)]⟩,⟨some ((G7 6).1.getD 0),1,62,1,1,[pO ((G7 2).1) x10.length x10.length]⟩,hO (cH [(none,0,0)]) ((G7 2).1) x10.length 24 x10.length x10,⟨some b4,1,114,1,1,[pS aC.cod v2]⟩,⟨some b1,1,113,4,1,(aD.enc a0)⟩],_,rfl,rfl,rfl⟩),trivial⟩ (fun G7=>zU1)⟩,⟨rfl,.hvy (ins:=fun _=>[]) [0,1,2,3,8,9,10,11] ⟨fun G7 A=>m9 (T:=62) (zs:=[pS (wD cQ) ([]:List (List Rat))]) rfl tyZ62q,fun G7 A=>m9 (T:=62) (zs:=[pS (wD cQ) ([]:List (List Rat))]) rfl tyZ62q,fun G7 A=>m9 (T:=62) (zs:=[pS (wD cQ) ([]:List (List Rat))]) rfl tyZ62q,fun G7 A=>m9 (T:=62) (zs:=[pS (wD cQ) ([]:List (List Rat))]) rfl tyZ62q,fun G7 A=>qC (R:=gZ cQ 44 [(none,0,0)] [([]:List Rat)]) [1,0,2,3] (m9 (T:=62) (zs:=[pS (wD cQ) ([]:List (List Rat))]) rfl tyZ62q) (fun b_ c_=>⟨[⟨some (b_.getD 0),1,62,1,1,[pS (wD cQ) ([]:List (List Rat))]⟩,⟨some ((G7 7).1.getD 0),1,24,1,1,[pS cQ ([]:List Rat)]⟩,⟨some b4,1,114,1,1,[pS aC.cod v2]⟩,⟨some b1,1,113,4,1,(aD.enc a0)⟩],_,rfl,rfl,rfl⟩),fun G7 A=>qC (R:=gZ cQ 44 [(none,0,0)] [([]:List Rat)]) [1,0,2,3,4] (m9 (T:=62) (zs:=[pS (wD cQ) ([]:List (List Rat))]) rfl tyZ62q) (fun b_ c_=>⟨[⟨some (b_.getD 0),1,62,1,1,[pS (wD cQ) ([]:List (List Rat))]⟩,⟨some ((G7 7).1.getD 0),1,24,1,1,[pS cQ ([]:List Rat)]⟩,hO (cH [(none,0,0)]) ((G7 2).1) x10.length 24 x10.length x10,⟨some b4,1,114,1,1,[pS aC.cod v2]⟩,⟨some b1,1,113,4,1,(aD.enc a0)⟩],_,rfl,rfl,rfl⟩),fun G7 A=>qC (R:=gZ cQ 44 [(none,0,0)] [([]:List Rat)]) [1,0,2,3,4] (m9 (T:=62) (zs:=[pS (wD cQ) ([]:List (List Rat))]) rfl tyZ62q) (fun b_ c_=>⟨[⟨some (b_.getD 0),1,62,1,1,[pS (wD cQ) ([]:List (List Rat))]⟩,⟨some ((G7 7).1.getD 0),1,24,1,1,[pS cQ ([]:List Rat)]⟩,hO cQ ((G7 5).1) x13.length 44 x13.length x13,⟨some b4,1,114,1,1,[pS aC.cod v2]⟩,⟨some b1,1,113,4,1,(aD.enc a0)⟩],_,rfl,rfl,rfl⟩),fun G7 A=>qC (R:=gZ cQ 44 [(none,0,0)] [([]:List Rat)]) [1,0,2,3,4,5] (m9 (T:=62) (zs:=[pS (wD cQ) ([]:List (List Rat))]) rfl tyZ62q) (fun b_ c_=>⟨[⟨some (b_.getD 0),1,62,1,1,[pS (wD cQ) ([]:List (List Rat))]⟩,⟨some ((G7 7).1.getD 0),1,24,1,1,[pS cQ ([]:List Rat)]⟩,hO cQ ((G7 5).1) x13.length 44 x13.length x13,hO (cH [(none,0,0)]) ((G7 2).1) x10.length 24 x10.length x10,⟨some b4,1,114,1,1,[pS aC.cod v2]⟩,⟨some b1,1,113,4,1,(aD.enc a0)⟩],_,rfl,rfl,rfl⟩),trivial⟩ (fun G7=>trivial)⟩,⟨rfl,.hvy (ins:=fun _=>[]) [0,1,2,3,4,5,6,7] ⟨fun G7 A=>m9 (T:=24) (zs:=[pS cQ ([]:List Rat)]) rfl tyZ24q,fun G7 A=>m9 (T:=24) (zs:=[pS cQ ([]:List Rat)]) rfl tyZ24q,fun G7 A=>m9 (T:=24) (zs:=[pS cQ ([]:List Rat)]) rfl tyZ24q,fun G7 A=>m9 (T:=24) (zs:=[pS cQ ([]:List Rat)]) rfl tyZ24q,fun G7 A=>m9 (T:=24) (zs:=[pS cQ ([]:List Rat)]) rfl tyZ24q,fun G7 A=>m9 (T:=24) (zs:=[pS cQ ([]:List Rat)]) rfl tyZ24q,fun G7 A=>m9 (T:=24) (zs:=[pS cQ ([]:List Rat)]) rfl tyZ24q,fun G7 A=>m9 (T:=24) (zs:=[pS cQ ([]:List Rat)]) rfl tyZ24q,trivial⟩ (fun G7=>trivial)⟩,⟨rfl,.hvy [13,15] ⟨fun G7 A=>aRk (t_s 1 rfl rfl rfl tyO62.s),fun G7 A=>aRk (t_s 1 rfl rfl rfl tyO62.s),trivial⟩ (fun G7=>zU2)⟩,trivial⟩ (fun bs8 G7=>?_)
 refine go ?_ ?_
 refine aT (cJ (fun H E=>∃(x77:List Nat),∃(x83:List (List Rat)),∃(b78:Option Nat),∃(c79:Nat),∃(n80:Nat),∃(g84:List vL),∃(N85:Nat),lL K a0 v2 x13 x77 x83=some r∧x77.length=n80∧x83.length=N85∧lH g84 x83∧(∀k∈x77,k<N85)∧H=([⟨some ((G7 7).1.getD 0),1,24,1,1,[pO ((G7 5).1) x13.length x13.length]⟩,⟨some ((G7 6).1.getD 0),1,62,1,1,[pO b78 n80 c79]⟩,hO cQ ((G7 5).1) x13.length 44 x13.length x13,hO (cH g84) b78 c79 24 n80 x77,⟨some b4,1,114,1,1,[pS aC.cod v2]⟩,⟨some b1,1,113,4,1,(aD.enc a0)⟩]++gZ cQ 44 g84 x83)∧E=[(1,.vc (pP (some b1) 0)),(4,.vc (pP (some b4) 0)),(5,.vc (pF 156 [pP (some b4) 0,pP (some b1) 0])),(6,.vc (pP (some ((G7 6).1.getD 0)) 0)),(7,.vc (pP (some ((G7 7).1.getD 0)) 0))]) ?_ (fun Jj90=>?_))
 ·rintro _ _ ⟨x77,x83,b78,c79,n80,g84,N85,hF,q81,q86,q87,q88,rfl,rfl⟩
  unfold lL at hF
  obtain⟨x91,h92,hF⟩:=bB hF
  refine go ?_ ?_
  refine uE (C:=aF.cod) (z:=(⟨0,0⟩:aF)) rfl tyS29 rfl tyZ58q rfl h92 (fun b93=>?_)
  refine aAi ?_
  refine bU (aU (aO (aY (nI ?_))))
  refine aV (gH 6 4 rfl rfl rfl rfl (.agg tyA113)) zU1 ?_
  refine aV (p6 (off:=0) (k:=1) rfl tyF113_1) zU1 ?_
  refine aV (gH 6 1 rfl rfl rfl rfl (.one tyO24)) zU1 ?_
  refine nI ?_
  refine aBi 0 [9,39,44] rfl rfl ⟨rfl,rfl,rfl,trivial⟩ rfl ?_
  obtain⟨v96,h97,hF⟩:=bC hF cO
  refine aV (bP rfl h97 rfl) ⟨rfl,rfl,rfl,trivial⟩ ?_
  refine aV (aFF (xs:=[.tmp 7]) (cs:=[pP (some ((G7 7).1.getD 0)) 0]) rfl rfl) zU1 ?_
  obtain⟨v98,h99,hF⟩:=bB hF
  refine aLi (f:=156) (cs:=[pP (some b4) 0,pP (some b1) 0]) (pre:=[.vc (pS cQ v96),.vc (pF 157 [pP (some ((G7 7).1.getD 0)) 0])]) (xs:=[.tmp 45,.tmp 46]) 6 [0,4,5,2] [1,3] rfl (vQ h99 rfl) ⟨rfl,rfl,rfl,trivial⟩ rfl rfl rfl (by decide) ?_
  rintro _ _ ⟨b100,c101,n102,q103,rfl,rfl⟩
  obtain⟨v105,h106,hF⟩:=bC hF xZ
  refine go ?_ ?_
  refine aM rfl tyZ44q (fun b107=>?_)
  refine go ?_ ?_
  refine aT (cJ (fun H E=>∃(x134:List Nat),∃(x140:List (List Rat)),∃(b135:Option Nat),∃(c136:Nat),∃(n137:Nat),∃(g141:List vL),∃(N142:Nat),kV K v98 x134 x140=some r∧x134.length=n137∧x140.length=N142∧lH g141 x140∧(∀k∈x134,k<N142)∧H=([⟨some ((G7 7).1.getD 0),1,24,1,1,[pO b100 n102 c101]⟩,hO cQ b100 c101 44 n102 v98,⟨some ((G7 6).1.getD 0),1,62,1,1,[pO b135 n137 c136]⟩,hO (cH g141) b135 c136 24 n137 x134]++gZ cQ 44 g141 x140)∧E=[(6,.vc (pP (some ((G7 6).1.getD 0)) 0)),(7,.vc (pP (some ((G7 7).1.getD 0)) 0))]) ?_ (fun Jj147=>?_))
  ·rintro _ _ ⟨x134,x140,b135,c136,n137,g141,N142,hF,q138,q143,q144,q145,rfl,rfl⟩
   unfold kV at hF
   refine aU (aO (dr [0,0,1,7] 4 0 ?_ (fun bs149 G148=>?_)))
   refine bU (aU (rW (r5 (aQR 3 4 rfl rfl q144 (aE3 q143 q145) ?_))))
   refine yG 3 [2,180] rfl ((aL1 _ _).trans q138) zU2 rfl ?_
   refine yG 1 [3,181] rfl q103 zU2 rfl ?_
   obtain rfl:=p9 hF
   exact sD (.inl rfl) Tryz.results71 (.tmp rfl (.tmp rfl .nil)) rfl rfl
  obtain⟨⟨x134',x140'⟩,hL,hRl146⟩:=bB hF
  refine jE (fun k a w=>∃(x121:List Nat),∃(x127:List (List Rat)),∃(x133:Int),∃(b122:Option Nat),∃(c123:Nat),∃(n124:Nat),∃(g128:List vL),∃(N129:Nat),aW K a0 v2 x91 v105 k x121 x127 x133=some (x134',x140')∧x121.length=n124∧x127.length=N129∧lH g128 x127∧(∀k∈x121,k<N129)∧hs _ ([⟨some b107,1,44,4,1,(eQ v105)⟩,⟨some ((G7 7).1.getD 0),1,24,1,1,[pO b100 n102 c101]⟩,⟨some b4,1,114,1,1,[pS aC.cod v2]⟩,⟨some b1,1,113,4,1,(aD.enc a0)⟩,hO cQ b100 c101 44 n102 v98,⟨some ((G7 6).1.getD 0),1,62,1,1,[pO b122 n124 c123]⟩,hO (cH g128) b122 c123 24 n124 x121]++gZ cQ 44 g128 x127) [(1,.vc (pP (some b1) 0)),(4,.vc (pP (some b4) 0)),(5,.vc (pF 156 [pP (some b4) 0,pP (some b1) 0])),(6,.vc (pP (some ((G7 6).1.getD 0)) 0)),(7,.vc (pP (some ((G7 7).1.getD 0)) 0)),(9,.vc (pS aF.cod x91)),(10,.vc (pP (some b107) 0)),(49,.vc (pS aC.cod v2)),(50,.vc (pI .i64 (v2.length:Int))),(51,.vc (pI .i64 x133))] a w) K (fun a w ⟨_,_,_,_,_,_,_,_,hF,_,_,_,_,_⟩=>by cases hF) (fun k a w ⟨x121,x127,x133,b122,c123,n124,g128,N129,hF,q125,q130,q131,q132,hh⟩=>jI ?_ hh) (fun a w hh=>⟨x77,x83,0,b78,c79,n80,g84,N85,hL,q81,q86,q87,q88,cL 7 [0,1,2,3,4,5,6] rfl rfl (by decide) (by exact⟨rfl,rfl,rfl,rfl,rfl,rfl,rfl,rfl,rfl,rfl,trivial⟩) hh⟩)
  rw [aW.eq_2] at hF
  refine go ?_ ?_
  refine aJ hF rfl (fun h151 hF=>?_) (fun h151 hF=>?_)
  ·refine go ?_ ?_
   refine aT ?_
   obtain⟨v152,h153,hF⟩:=bB hF
   refine go ?_ ?_
   refine aM rfl tyZ3q (fun b154=>?_)
   refine aM rfl tyZ118q (fun b155=>?_)
   obtain⟨v156,h157,hF⟩:=bB hF
   refine go ?_ ?_
   refine aMQ rfl (zQ h157) zU1 ?_
   rintro _ _ ⟨b159,c160,n161,q162,rfl,rfl⟩
   obtain⟨v164,h165,hF⟩:=bB hF
   refine go ?_ ?_
   refine aM rfl tyZ51q (fun b166=>?_)
   refine go ?_ ?_
   refine aT (go ?_ ?_)
   refine aJ hF rfl (fun h167 hF=>?_) (fun h167 hF=>?_)
   ·refine aO (aY (nI ?_))
    refine aV (p6 (off:=0) (k:=0) rfl tyF118_0) zU1 ?_
    refine aV (gH 2 1 rfl rfl rfl rfl (.one tyO3)) zU1 ?_
    refine aV (gH 4 4 rfl rfl rfl rfl (.agg tyA44)) zU1 ?_
    obtain⟨v168,h169,hF⟩:=bB hF
    refine aV (lP (C:=aF.cod) 1 rfl tyS29 rfl q162 (aS h169).1 (aS h169).2.1) zU2 ?_
    refine aV (aLH (off:=0) (k:=0) rfl tyF58_0) zU1 ?_
    obtain⟨x170,h171,hF⟩:=bB hF
    refine oQ (wL 1 rfl rfl h169 h171 tyA44.s) zU2 ?_
    refine bU (aU (aO (uI (fun H E=>∃(x174:List aF),dM K a0 v2 x121 x127 x133 v152 v164 (aW K a0 v2 x91 v105 k) x174=some (x134',x140')∧x174.length=n161∧H=([⟨some b166,1,51,18,1,(aA.enc v164)⟩,hO aF.cod b159 c160 58 n161 x174,⟨some b155,1,118,2,1,(aC.enc v152)⟩,⟨some b154,1,3,1,1,[pI .i64 x133]⟩,⟨some b107,1,44,4,1,(eQ v105)⟩,⟨some ((G7 7).1.getD 0),1,24,1,1,[pO b100 n102 c101]⟩,⟨some b4,1,114,1,1,[pS aC.cod v2]⟩,⟨some b1,1,113,4,1,(aD.enc a0)⟩,hO cQ b100 c101 44 n102 v98,⟨some ((G7 6).1.getD 0),1,62,1,1,[pO b122 n124 c123]⟩,hO (cH g128) b122 c123 24 n124 x121]++gZ cQ 44 g128 x127)∧E=[(1,.vc (pP (some b1) 0)),(4,.vc (pP (some b4) 0)),(5,.vc (pF 156 [pP (some b4) 0,pP (some b1) 0])),(6,.vc (pP (some ((G7 6).1.getD 0)) 0)),(7,.vc (pP (some ((G7 7).1.getD 0)) 0)),(9,.vc (pS aF.cod x91)),(10,.vc (pP (some b107) 0)),(11,.vc (pP (some b154) 0)),(12,.vc (pP (some b155) 0)),(13,.vc (pO b159 n161 c160)),(14,.vc (pP (some b166) 0)),(49,.vc (pS aC.cod v2)),(50,.vc (pI .i64 (v2.length:Int))),(51,.vc (pI .i64 x133))]) ?_ (fun Jj180=>?_))))
    ·rintro _ _ ⟨x174,hF,q178,rfl,rfl⟩
     unfold dM at hF
     refine aO ?_
     obtain⟨v183,h184,hF⟩:=bB hF
     rcases Bool.eq_false_or_eq_true (decide (v183<(v2.length:Int))) with h185|h185
     ·have hF:=u7 h185 hF
      have hF:=rQ h184 hF
      obtain⟨v188,h189,hF⟩:=bB hF
      refine jW [0,1,0,4,15,31,63,63,191,511,1023,63,2111,6207,16383,32767] 16 0 [.v (.vc (pI .i64 x133)),.v (.vc (pI .i64 v183)),.v (.vc (pS aC.cod v2)),.v (.vc (pI .i64 (v2.length:Int))),.v (.vc (pB (decide (v183<(v2.length:Int))))),.v (.vc (pB true)),.v (.vc (pS aC.cod v2)),.v (.vc (pI .i64 x133)),.v (.vc (pI .i64 v183)),.v (.vc (pM (aC.cod.e v188))),.v (.va (aC.enc v188)),.v (.vc (pP (some b155) 0)),.v (.vc (pI .i64 v152.row)),.v (.va ([pI .i64 v152.row]++[pI .i64 3])),.v (.vc (pB (v188.row==v152.row&&v188.kind==3))),.v (.vc (pB (v188.row==v152.row&&v188.kind==3)))] bJ ⟨d0 (gH 3 1 rfl rfl rfl rfl (.one tyO3)) zU1,d0 (vW rfl h184) ⟨rfl,kC _ _,trivial⟩,d0 (gH 6 1 rfl rfl rfl rfl (.one tyO114)) zU1,d0 (tQ rfl tyS114) zU1,d0 (aJO rfl) zU2,d0 (kL (bS (.inl rfl)) h185) zU1,g0 (gH 6 1 rfl rfl rfl rfl (.one tyO114)) zU1,g0 (gH 3 1 rfl rfl rfl rfl (.one tyO3)) zU1,g0 (vW rfl h184) ⟨rfl,kC _ _,trivial⟩,g0 (aLK rfl tyS114 h189) zU2,g0 (aE1 2 rfl rfl (.agg tyA118)) zU1,g0 (p6 (off:=0) (k:=0) rfl tyF118_0) zU1,g0 (gH 2 1 rfl rfl rfl rfl (.one tyO3)) zU1,g0 (fF (is:=[0,1]) (xs:=[.tmp 99,.const (.int .i64 (3))]) (ps:=[.vc (pI .i64 v152.row),.vc (pI .i64 3)]) rfl tyB118q rfl rfl ⟨trivial,trivial,trivial⟩ rfl) ⟨rfl,kC _ _,trivial⟩,g0 (aQN rfl tyQ118) zU2,d0 (vJ rfl) zU2,trivial⟩ (fun bs182 G181=>?_)
      refine bU (aU (aJ hF rfl (fun h190 hF=>?_) (fun h190 hF=>?_)))
      ·have hF:=rQ h184 hF
       obtain⟨v195,h196,hF⟩:=bB hF
       obtain⟨v197,h198,hF⟩:=bB hF
       refine jW [0,0,2,7,15,0,0,64,255,511] 9 1 [.v (.vc (pO b122 n124 c123)),.v (.vc (pI .i64 x133)),.v (.vc (pI .i64 v183)),.v (.vc (pE b122 v183 (cH g128).n 0)),.v (.vc (pO (jC g128 v195).1 (jC g128 v195).2.1 (jC g128 v195).2.2)),.v (.vc (pI .i64 x133)),.v (.vc (pP (some b166) 10)),.v (.va (eQ v164.mu)),.v (.vc (pE (jC g128 v195).1 x133 cQ.n 0))] bJ ⟨d0 (gH 9 1 rfl rfl rfl rfl (.one tyO62)) zU1,d0 (gH 3 1 rfl rfl rfl rfl (.one tyO3)) zU1,d0 (vW rfl h184) ⟨rfl,kC _ _,trivial⟩,d0 (lP (C:=(cH g128)) 10 rfl tyS62 rfl q125 (aS h196).1 (aS h196).2.1) zU2,d0 (pK (C:=(cH g128)) (k:=1) 10 rfl rfl h196 rfl (.one tyO24) rfl) zU1,d0 (gH 3 1 rfl rfl rfl rfl (.one tyO3)) zU1,d0 (p6 (off:=0) (k:=10) rfl tyF51_7) zU1,d0 (gH 0 4 rfl rfl rfl rfl (.agg tyA44)) zU1,d0 (lP (11+v195) rfl tyS24 (kO 11 rfl q131 q130 (q132 _ (bD h196))) (lO q131 q130 (q132 _ (bD h196))) (aS h198).1 (aS h198).2.1) zU2,trivial⟩ (fun bs192 G191=>?_)
       obtain⟨x199,h200,hF⟩:=bB hF
       refine oQ (wL (H':=([⟨some b166,1,51,18,1,(aA.enc v164)⟩,hO aF.cod b159 c160 58 n161 x174,⟨some b155,1,118,2,1,(aC.enc v152)⟩,⟨some b154,1,3,1,1,[pI .i64 x133]⟩,⟨some b107,1,44,4,1,(eQ v105)⟩,⟨some ((G7 7).1.getD 0),1,24,1,1,[pO b100 n102 c101]⟩,⟨some b4,1,114,1,1,[pS aC.cod v2]⟩,⟨some b1,1,113,4,1,(aD.enc a0)⟩,hO cQ b100 c101 44 n102 v98,⟨some ((G7 6).1.getD 0),1,62,1,1,[pO b122 n124 c123]⟩,hO (cH g128) b122 c123 24 n124 x121]++gZ cQ 44 g128 (x127.set v195 x199))) (11+v195) rfl (aBq 11 rfl q131 q130 (q132 _ (bD h196))) h198 h200 tyA44.s (hH:=stN 11 rfl q131 q130 (q132 _ (bD h196)))) zU2 ?_
       refine bU (xS (aU (aEK 1 [13] rfl q178 zU1 rfl ?_)))
       refine aEd 2 [(11,0)] rfl zU1 rfl ?_
       obtain⟨x204,h205,hF⟩:=bB hF
       obtain⟨v206,h207,hF⟩:=bC hF cO
       refine jW [0,0,0,4,12,28,0,126,0,511] 9 1 [.v (.vc (pF 156 [pP (some b4) 0,pP (some b1) 0])),.v (.va (aD.enc a0)),.v (.vc (pP (some b1) 0)),.v (.vc (pS aG.cod a0.dofs)),.v (.vc (pI .i64 (a0.dofs.length:Int))),.v (.vc (pS cQ x204)),.v (.vc (pS aF.cod x174)),.v (.vc (pS cQ v206)),.v (.vc (pF 159 [pP (some ((G7 6).1.getD 0)) 0,pM (cI.e x133)]))] bJ ⟨d0 (bS (.inl rfl)) zU1,d0 (gH 5 4 rfl rfl rfl rfl (.agg tyA113)) zU1,d0 (p6 (off:=0) (k:=0) rfl tyF113_0) zU1,d0 (gH 5 1 rfl rfl rfl rfl (.one tyO23)) zU1,d0 (tQ rfl tyS23) zU1,d0 (aBR 0 (gV (C:=cQ) rfl tyS24 rfl tyZ44q h205) (fun _ _=>rfl) rfl (fun _ _=>rfl)) zU1,d0 (bS (.inl rfl)) zU1,d0 (bP rfl h207 rfl) ⟨rfl,rfl,rfl,trivial⟩,d0 (aFF (xs:=[.tmp 6,.tmp 11]) (cs:=[pP (some ((G7 6).1.getD 0)) 0,pM (cI.e x133)]) rfl rfl) zU2,trivial⟩ (fun bs203 G202=>?_)
       obtain⟨v208,h209,hF⟩:=bB hF
       refine uO (f:=156) (cs:=[pP (some b4) 0,pP (some b1) 0]) (pre:=[.vc (pS cQ v206),.vc (pF 159 [pP (some ((G7 6).1.getD 0)) 0,pM (cI.e x133)])]) (xs:=[.tmp 176,.tmp 177]) 9 [7,4,5,8] [0,1,2,3,6] rfl (fG h209 q125 (tG q130) (wN q131 q130 (q132 _ (bD h196)) (bH h200 rfl)) q132) ⟨rfl,rfl,rfl,trivial⟩ rfl rfl rfl (by decide) ?_
       rintro _ _ ⟨b210,c211,n212,g215,N216,q213,q217,q218,q219,rfl,rfl⟩
       refine rK (o9 [⟨some ((G7 6).1.getD 0),1,62,1,1,[pO b210 n212 c211]⟩,⟨some b4,1,114,1,1,[pS aC.cod v2]⟩,⟨some b1,1,113,4,1,(aD.enc a0)⟩,hO (cH g215) b210 c211 24 n212 v208.1] (gZ cQ 44 g215 v208.2) [⟨some b166,1,51,18,1,(aA.enc v164)⟩,⟨some b155,1,118,2,1,(aC.enc v152)⟩,⟨some b107,1,44,4,1,(eQ v105)⟩,⟨some ((G7 7).1.getD 0),1,24,1,1,[pO b100 n102 c101]⟩,hO cQ b100 c101 44 n102 v98]) ?_
       obtain⟨v221,h222,hF⟩:=bB hF
       refine go ?_ ?_
       exact aK (fun a w hh=>⟨v208.1,v208.2,v221,b210,c211,n212,g215,N216,hF,q213,q217,q218,q219,cL 9 [6,7,1,2,8,0,3] rfl rfl (by decide) (by exact⟨rfl,rfl,rfl,rfl,rfl,rfl,rfl,rfl,rfl,rfl,trivial⟩) hh⟩)
      refine iV (xS (aU (aEK 1 [13] rfl q178 zU1 rfl ?_)))
      refine aEd 2 [(11,0)] rfl zU1 rfl ?_
      obtain⟨x225,h226,hF⟩:=bB hF
      obtain⟨v227,h228,hF⟩:=bC hF cO
      refine jW [0,0,0,4,12,28,0,126,0,511] 9 1 [.v (.vc (pF 156 [pP (some b4) 0,pP (some b1) 0])),.v (.va (aD.enc a0)),.v (.vc (pP (some b1) 0)),.v (.vc (pS aG.cod a0.dofs)),.v (.vc (pI .i64 (a0.dofs.length:Int))),.v (.vc (pS cQ x225)),.v (.vc (pS aF.cod x174)),.v (.vc (pS cQ v227)),.v (.vc (pF 159 [pP (some ((G7 6).1.getD 0)) 0,pM (cI.e x133)]))] bJ ⟨d0 (bS (.inl rfl)) zU1,d0 (gH 5 4 rfl rfl rfl rfl (.agg tyA113)) zU1,d0 (p6 (off:=0) (k:=0) rfl tyF113_0) zU1,d0 (gH 5 1 rfl rfl rfl rfl (.one tyO23)) zU1,d0 (tQ rfl tyS23) zU1,d0 (aBR 0 (gV (C:=cQ) rfl tyS24 rfl tyZ44q h226) (fun _ _=>rfl) rfl (fun _ _=>rfl)) zU1,d0 (bS (.inl rfl)) zU1,d0 (bP rfl h228 rfl) ⟨rfl,rfl,rfl,trivial⟩,d0 (aFF (xs:=[.tmp 6,.tmp 11]) (cs:=[pP (some ((G7 6).1.getD 0)) 0,pM (cI.e x133)]) rfl rfl) zU2,trivial⟩ (fun bs224 G223=>?_)
      obtain⟨v229,h230,hF⟩:=bB hF
      refine uO (f:=156) (cs:=[pP (some b4) 0,pP (some b1) 0]) (pre:=[.vc (pS cQ v227),.vc (pF 159 [pP (some ((G7 6).1.getD 0)) 0,pM (cI.e x133)])]) (xs:=[.tmp 176,.tmp 177]) 9 [7,4,5,8] [0,1,2,3,6] rfl (fG h230 q125 q130 q131 q132) ⟨rfl,rfl,rfl,trivial⟩ rfl rfl rfl (by decide) ?_
      rintro _ _ ⟨b231,c232,n233,g236,N237,q234,q238,q239,q240,rfl,rfl⟩
      refine rK (o9 [⟨some ((G7 6).1.getD 0),1,62,1,1,[pO b231 n233 c232]⟩,⟨some b4,1,114,1,1,[pS aC.cod v2]⟩,⟨some b1,1,113,4,1,(aD.enc a0)⟩,hO (cH g236) b231 c232 24 n233 v229.1] (gZ cQ 44 g236 v229.2) [⟨some b166,1,51,18,1,(aA.enc v164)⟩,⟨some b155,1,118,2,1,(aC.enc v152)⟩,⟨some b107,1,44,4,1,(eQ v105)⟩,⟨some ((G7 7).1.getD 0),1,24,1,1,[pO b100 n102 c101]⟩,hO cQ b100 c101 44 n102 v98]) ?_
      obtain⟨v242,h243,hF⟩:=bB hF
      refine go ?_ ?_
      exact aK (fun a w hh=>⟨v229.1,v229.2,v242,b231,c232,n233,g236,N237,hF,q234,q238,q239,q240,cL 9 [6,7,1,2,8,0,3] rfl rfl (by decide) (by exact⟨rfl,rfl,rfl,rfl,rfl,rfl,rfl,rfl,rfl,rfl,trivial⟩) hh⟩)
     have hF:=u9 h185 hF
     refine drb [0,1,0,4,15,31,63,63,191,511,1023,63,2111,6207,16383,32767] 16 0 ?_ (fun bs182 G181=>?_)
     refine bU (aU (tA rfl ?_))
     refine iV (xS (aU (aEK 1 [13] rfl q178 zU1 rfl ?_)))
     refine aEd 2 [(11,0)] rfl zU1 rfl ?_
     obtain⟨x246,h247,hF⟩:=bB hF
     obtain⟨v248,h249,hF⟩:=bC hF cO
     refine jW [0,0,0,4,12,28,0,126,0,511] 9 1 [.v (.vc (pF 156 [pP (some b4) 0,pP (some b1) 0])),.v (.va (aD.enc a0)),.v (.vc (pP (some b1) 0)),.v (.vc (pS aG.cod a0.dofs)),.v (.vc (pI .i64 (a0.dofs.length:Int))),.v (.vc (pS cQ x246)),.v (.vc (pS aF.cod x174)),.v (.vc (pS cQ v248)),.v (.vc (pF 159 [pP (some ((G7 6).1.getD 0)) 0,pM (cI.e x133)]))] bJ ⟨d0 (bS (.inl rfl)) zU1,d0 (gH 5 4 rfl rfl rfl rfl (.agg tyA113)) zU1,d0 (p6 (off:=0) (k:=0) rfl tyF113_0) zU1,d0 (gH 5 1 rfl rfl rfl rfl (.one tyO23)) zU1,d0 (tQ rfl tyS23) zU1,d0 (aBR 0 (gV (C:=cQ) rfl tyS24 rfl tyZ44q h247) (fun _ _=>rfl) rfl (fun _ _=>rfl)) zU1,d0 (bS (.inl rfl)) zU1,d0 (bP rfl h249 rfl) ⟨rfl,rfl,rfl,trivial⟩,d0 (aFF (xs:=[.tmp 6,.tmp 11]) (cs:=[pP (some ((G7 6).1.getD 0)) 0,pM (cI.e x133)]) rfl rfl) zU2,trivial⟩ (fun bs245 G244=>?_)
     obtain⟨v250,h251,hF⟩:=bB hF
     refine uO (f:=156) (cs:=[pP (some b4) 0,pP (some b1) 0]) (pre:=[.vc (pS cQ v248),.vc (pF 159 [pP (some ((G7 6).1.getD 0)) 0,pM (cI.e x133)])]) (xs:=[.tmp 176,.tmp 177]) 9 [7,4,5,8] [0,1,2,3,6] rfl (fG h251 q125 q130 q131 q132) ⟨rfl,rfl,rfl,trivial⟩ rfl rfl rfl (by decide) ?_
     rintro _ _ ⟨b252,c253,n254,g257,N258,q255,q259,q260,q261,rfl,rfl⟩
     refine rK (o9 [⟨some ((G7 6).1.getD 0),1,62,1,1,[pO b252 n254 c253]⟩,⟨some b4,1,114,1,1,[pS aC.cod v2]⟩,⟨some b1,1,113,4,1,(aD.enc a0)⟩,hO (cH g257) b252 c253 24 n254 v250.1] (gZ cQ 44 g257 v250.2) [⟨some b166,1,51,18,1,(aA.enc v164)⟩,⟨some b155,1,118,2,1,(aC.enc v152)⟩,⟨some b107,1,44,4,1,(eQ v105)⟩,⟨some ((G7 7).1.getD 0),1,24,1,1,[pO b100 n102 c101]⟩,hO cQ b100 c101 44 n102 v98]) ?_
     obtain⟨v263,h264,hF⟩:=bB hF
     refine go ?_ ?_
     exact aK (fun a w hh=>⟨v250.1,v250.2,v263,b252,c253,n254,g257,N258,hF,q255,q259,q260,q261,cL 9 [6,7,1,2,8,0,3] rfl rfl (by decide) (by exact⟨rfl,rfl,rfl,rfl,rfl,rfl,rfl,rfl,rfl,rfl,trivial⟩) hh⟩)
    refine go ?_ ?_
    refine aJ hF rfl (fun h265 hF=>?_) (fun h265 hF=>?_)
    ·obtain⟨v268,h269,hF⟩:=bC hF uQ
     obtain⟨v270,h271,hF⟩:=bB hF
     refine dr [0,0,2,0,0,0,56,127,255,511] 9 1 ?_ (fun bs267 G266=>?_)
     obtain⟨x272,h273,hF⟩:=bB hF
     refine oQ (wL 1 rfl rfl h271 h273 tyA44.s) zU2 ?_
     refine bU ?_
     exact oC Jj180 ⟨x272,hF,(bH h273 (bH h171 q162)),rfl,rfl⟩ 11 [0,1,2,3,4,5,6,7,8,9,10] rfl rfl ⟨rfl,rfl,rfl,rfl,rfl,rfl,rfl,rfl,rfl,rfl,rfl,rfl,rfl,rfl,trivial⟩
    refine iV ?_
    exact oC Jj180 ⟨x170,hF,(bH h171 q162),rfl,rfl⟩ 11 [0,1,2,3,4,5,6,7,8,9,10] rfl rfl ⟨rfl,rfl,rfl,rfl,rfl,rfl,rfl,rfl,rfl,rfl,rfl,rfl,rfl,rfl,trivial⟩
   refine go ?_ ?_
   refine aJ hF rfl (fun h275 hF=>?_) (fun h275 hF=>?_)
   ·obtain⟨v276,h277,x278,h279,v283,h284,v285,h286,hF⟩:=bn4 hF
    obtain⟨v287,h288,hF⟩:=bB hF
    obtain⟨v289,h290,hF⟩:=bC hF pD
    obtain⟨v291,h292,hF⟩:=bB hF
    refine go ?_ ?_
    refine jW [0,0,2,6,15,31,0,0,128,511,1023] 10 1 [.v (.vc (pO b122 n124 c123)),.v (.vc (pI .i64 x133)),.v (.vc (pI .i64 v283)),.v (.vc (pI .i64 v285)),.v (.vc (pE b122 v285 (cH g128).n 0)),.v (.vc (pO (jC g128 v287).1 (jC g128 v287).2.1 (jC g128 v287).2.2)),.v (.vc (pI .i64 x133)),.v (.va (eQ v105)),.v (.va (eQ v289)),.v (.vc (pE (jC g128 v287).1 x133 cQ.n 0))] bJ ⟨d0 (gH 9 1 rfl rfl rfl rfl (.one tyO62)) zU1,d0 (gH 3 1 rfl rfl rfl rfl (.one tyO3)) zU1,d0 (vW rfl h284) ⟨rfl,kC _ _,trivial⟩,d0 (aBr rfl h286) ⟨rfl,kC _ _,trivial⟩,d0 (lP (C:=(cH g128)) 10 rfl tyS62 rfl q125 (aS h288).1 (aS h288).2.1) zU2,d0 (pK (C:=(cH g128)) (k:=1) 10 rfl rfl h288 rfl (.one tyO24) rfl) zU1,d0 (gH 3 1 rfl rfl rfl rfl (.one tyO3)) zU1,d0 (gH 4 4 rfl rfl rfl rfl (.agg tyA44)) zU1,d0 (bP rfl h290 rfl) zU1,d0 (lP (11+v287) rfl tyS24 (kO 11 rfl q131 q130 (q132 _ (bD h288))) (lO q131 q130 (q132 _ (bD h288))) (aS h292).1 (aS h292).2.1) zU2,trivial⟩ (fun bs282 G281=>?_)
    obtain⟨x293,h294,hF⟩:=bB hF
    refine oQ (wL (H':=([⟨some b166,1,51,18,1,(aA.enc v164)⟩,hO aF.cod b159 c160 58 n161 x278,⟨some b155,1,118,2,1,(aC.enc v152)⟩,⟨some b154,1,3,1,1,[pI .i64 x133]⟩,⟨some b107,1,44,4,1,(eQ v105)⟩,⟨some ((G7 7).1.getD 0),1,24,1,1,[pO b100 n102 c101]⟩,⟨some b4,1,114,1,1,[pS aC.cod v2]⟩,⟨some b1,1,113,4,1,(aD.enc a0)⟩,hO cQ b100 c101 44 n102 v98,⟨some ((G7 6).1.getD 0),1,62,1,1,[pO b122 n124 c123]⟩,hO (cH g128) b122 c123 24 n124 x121]++gZ cQ 44 g128 (x127.set v287 x293))) (11+v287) rfl (aBq 11 rfl q131 q130 (q132 _ (bD h288))) h292 h294 tyA44.s (hH:=stN 11 rfl q131 q130 (q132 _ (bD h288)))) zU2 ?_
    refine bU (xS (aU (aEK 1 [13,57,114] rfl (bH h279 q162) ⟨rfl,rfl,rfl,trivial⟩ rfl ?_)))
    refine aEd 2 [(11,0)] rfl zU1 rfl ?_
    obtain⟨x298,h299,hF⟩:=bB hF
    obtain⟨v300,h301,hF⟩:=bC hF cO
    refine jW [0,0,0,4,12,28,0,126,0,511] 9 1 [.v (.vc (pF 156 [pP (some b4) 0,pP (some b1) 0])),.v (.va (aD.enc a0)),.v (.vc (pP (some b1) 0)),.v (.vc (pS aG.cod a0.dofs)),.v (.vc (pI .i64 (a0.dofs.length:Int))),.v (.vc (pS cQ x298)),.v (.vc (pS aF.cod x278)),.v (.vc (pS cQ v300)),.v (.vc (pF 159 [pP (some ((G7 6).1.getD 0)) 0,pM (cI.e x133)]))] bJ ⟨d0 (bS (.inl rfl)) zU1,d0 (gH 5 4 rfl rfl rfl rfl (.agg tyA113)) zU1,d0 (p6 (off:=0) (k:=0) rfl tyF113_0) zU1,d0 (gH 5 1 rfl rfl rfl rfl (.one tyO23)) zU1,d0 (tQ rfl tyS23) zU1,d0 (aBR 0 (gV (C:=cQ) rfl tyS24 rfl tyZ44q h299) (fun _ _=>rfl) rfl (fun _ _=>rfl)) zU1,d0 (bS (.inl rfl)) zU1,d0 (bP rfl h301 rfl) ⟨rfl,rfl,rfl,trivial⟩,d0 (aFF (xs:=[.tmp 6,.tmp 11]) (cs:=[pP (some ((G7 6).1.getD 0)) 0,pM (cI.e x133)]) rfl rfl) zU2,trivial⟩ (fun bs297 G296=>?_)
    obtain⟨v302,h303,hF⟩:=bB hF
    refine uO (f:=156) (cs:=[pP (some b4) 0,pP (some b1) 0]) (pre:=[.vc (pS cQ v300),.vc (pF 159 [pP (some ((G7 6).1.getD 0)) 0,pM (cI.e x133)])]) (xs:=[.tmp 176,.tmp 177]) 9 [7,4,5,8] [0,1,2,3,6] rfl (fG h303 q125 (tG q130) (wN q131 q130 (q132 _ (bD h288)) (bH h294 rfl)) q132) ⟨rfl,rfl,rfl,trivial⟩ rfl rfl rfl (by decide) ?_
    rintro _ _ ⟨b304,c305,n306,g309,N310,q307,q311,q312,q313,rfl,rfl⟩
    refine rK (o9 [⟨some ((G7 6).1.getD 0),1,62,1,1,[pO b304 n306 c305]⟩,⟨some b4,1,114,1,1,[pS aC.cod v2]⟩,⟨some b1,1,113,4,1,(aD.enc a0)⟩,hO (cH g309) b304 c305 24 n306 v302.1] (gZ cQ 44 g309 v302.2) [⟨some b166,1,51,18,1,(aA.enc v164)⟩,⟨some b155,1,118,2,1,(aC.enc v152)⟩,⟨some b107,1,44,4,1,(eQ v105)⟩,⟨some ((G7 7).1.getD 0),1,24,1,1,[pO b100 n102 c101]⟩,hO cQ b100 c101 44 n102 v98]) ?_
    obtain⟨v315,h316,hF⟩:=bB hF
    refine go ?_ ?_
    exact aK (fun a w hh=>⟨v302.1,v302.2,v315,b304,c305,n306,g309,N310,hF,q307,q311,q312,q313,cL 9 [6,7,1,2,8,0,3] rfl rfl (by decide) (by exact⟨rfl,rfl,rfl,rfl,rfl,rfl,rfl,rfl,rfl,rfl,trivial⟩) hh⟩)
   refine go ?_ ?_
   refine aJ hF rfl (fun h317 hF=>?_) (fun h317 hF=>?_)
   ·refine aO ?_
    obtain⟨v320,h321,hF⟩:=bC hF pD
    obtain⟨v322,h323,hF⟩:=bB hF
    refine dr [0,0,2,0,8,31,63,127] 7 1 ?_ (fun bs319 G318=>?_)
    obtain⟨x324,h325,v329,h330,v331,h332,v333,h334,hF⟩:=bn4 hF
    obtain⟨v335,h336,hF⟩:=bC hF pD
    obtain⟨v337,h338,hF⟩:=bB hF
    refine go ?_ ?_
    refine jW [0,0,2,6,15,31,0,0,128,511,1023] 10 1 [.v (.vc (pO b122 n124 c123)),.v (.vc (pI .i64 x133)),.v (.vc (pI .i64 v329)),.v (.vc (pI .i64 v331)),.v (.vc (pE b122 v331 (cH g128).n 0)),.v (.vc (pO (jC g128 v333).1 (jC g128 v333).2.1 (jC g128 v333).2.2)),.v (.vc (pI .i64 x133)),.v (.va (eQ v105)),.v (.va (eQ v335)),.v (.vc (pE (jC g128 v333).1 x133 cQ.n 0))] bJ ⟨d0 (gH 9 1 rfl rfl rfl rfl (.one tyO62)) zU1,d0 (gH 3 1 rfl rfl rfl rfl (.one tyO3)) zU1,d0 (vW rfl h330) ⟨rfl,kC _ _,trivial⟩,d0 (aBr rfl h332) ⟨rfl,kC _ _,trivial⟩,d0 (lP (C:=(cH g128)) 10 rfl tyS62 rfl q125 (aS h334).1 (aS h334).2.1) zU2,d0 (pK (C:=(cH g128)) (k:=1) 10 rfl rfl h334 rfl (.one tyO24) rfl) zU1,d0 (gH 3 1 rfl rfl rfl rfl (.one tyO3)) zU1,d0 (gH 4 4 rfl rfl rfl rfl (.agg tyA44)) zU1,d0 (bP rfl h336 rfl) zU1,d0 (lP (11+v333) rfl tyS24 (kO 11 rfl q131 q130 (q132 _ (bD h334))) (lO q131 q130 (q132 _ (bD h334))) (aS h338).1 (aS h338).2.1) zU2,trivial⟩ (fun bs328 G327=>?_)
    obtain⟨x339,h340,hF⟩:=bB hF
    refine oQ (wL (H':=([⟨some b166,1,51,18,1,(aA.enc v164)⟩,hO aF.cod b159 c160 58 n161 x324,⟨some b155,1,118,2,1,(aC.enc v152)⟩,⟨some b154,1,3,1,1,[pI .i64 x133]⟩,⟨some b107,1,44,4,1,(eQ v105)⟩,⟨some ((G7 7).1.getD 0),1,24,1,1,[pO b100 n102 c101]⟩,⟨some b4,1,114,1,1,[pS aC.cod v2]⟩,⟨some b1,1,113,4,1,(aD.enc a0)⟩,hO cQ b100 c101 44 n102 v98,⟨some ((G7 6).1.getD 0),1,62,1,1,[pO b122 n124 c123]⟩,hO (cH g128) b122 c123 24 n124 x121]++gZ cQ 44 g128 (x127.set v333 x339))) (11+v333) rfl (aBq 11 rfl q131 q130 (q132 _ (bD h334))) h338 h340 tyA44.s (hH:=stN 11 rfl q131 q130 (q132 _ (bD h334)))) zU2 ?_
    refine bU (xS (aU (aEK 1 [13,57,132] rfl (bH h325 q162) ⟨rfl,rfl,rfl,trivial⟩ rfl ?_)))
    refine aEd 2 [(11,0)] rfl zU1 rfl ?_
    obtain⟨x344,h345,hF⟩:=bB hF
    obtain⟨v346,h347,hF⟩:=bC hF cO
    refine jW [0,0,0,4,12,28,0,126,0,511] 9 1 [.v (.vc (pF 156 [pP (some b4) 0,pP (some b1) 0])),.v (.va (aD.enc a0)),.v (.vc (pP (some b1) 0)),.v (.vc (pS aG.cod a0.dofs)),.v (.vc (pI .i64 (a0.dofs.length:Int))),.v (.vc (pS cQ x344)),.v (.vc (pS aF.cod x324)),.v (.vc (pS cQ v346)),.v (.vc (pF 159 [pP (some ((G7 6).1.getD 0)) 0,pM (cI.e x133)]))] bJ ⟨d0 (bS (.inl rfl)) zU1,d0 (gH 5 4 rfl rfl rfl rfl (.agg tyA113)) zU1,d0 (p6 (off:=0) (k:=0) rfl tyF113_0) zU1,d0 (gH 5 1 rfl rfl rfl rfl (.one tyO23)) zU1,d0 (tQ rfl tyS23) zU1,d0 (aBR 0 (gV (C:=cQ) rfl tyS24 rfl tyZ44q h345) (fun _ _=>rfl) rfl (fun _ _=>rfl)) zU1,d0 (bS (.inl rfl)) zU1,d0 (bP rfl h347 rfl) ⟨rfl,rfl,rfl,trivial⟩,d0 (aFF (xs:=[.tmp 6,.tmp 11]) (cs:=[pP (some ((G7 6).1.getD 0)) 0,pM (cI.e x133)]) rfl rfl) zU2,trivial⟩ (fun bs343 G342=>?_)
    obtain⟨v348,h349,hF⟩:=bB hF
    refine uO (f:=156) (cs:=[pP (some b4) 0,pP (some b1) 0]) (pre:=[.vc (pS cQ v346),.vc (pF 159 [pP (some ((G7 6).1.getD 0)) 0,pM (cI.e x133)])]) (xs:=[.tmp 176,.tmp 177]) 9 [7,4,5,8] [0,1,2,3,6] rfl (fG h349 q125 (tG q130) (wN q131 q130 (q132 _ (bD h334)) (bH h340 rfl)) q132) ⟨rfl,rfl,rfl,trivial⟩ rfl rfl rfl (by decide) ?_
    rintro _ _ ⟨b350,c351,n352,g355,N356,q353,q357,q358,q359,rfl,rfl⟩
    refine rK (o9 [⟨some ((G7 6).1.getD 0),1,62,1,1,[pO b350 n352 c351]⟩,⟨some b4,1,114,1,1,[pS aC.cod v2]⟩,⟨some b1,1,113,4,1,(aD.enc a0)⟩,hO (cH g355) b350 c351 24 n352 v348.1] (gZ cQ 44 g355 v348.2) [⟨some b166,1,51,18,1,(aA.enc v164)⟩,⟨some b155,1,118,2,1,(aC.enc v152)⟩,⟨some b107,1,44,4,1,(eQ v105)⟩,⟨some ((G7 7).1.getD 0),1,24,1,1,[pO b100 n102 c101]⟩,hO cQ b100 c101 44 n102 v98]) ?_
    obtain⟨v361,h362,hF⟩:=bB hF
    refine go ?_ ?_
    exact aK (fun a w hh=>⟨v348.1,v348.2,v361,b350,c351,n352,g355,N356,hF,q353,q357,q358,q359,cL 9 [6,7,1,2,8,0,3] rfl rfl (by decide) (by exact⟨rfl,rfl,rfl,rfl,rfl,rfl,rfl,rfl,rfl,rfl,trivial⟩) hh⟩)
   refine go ?_ ?_
   refine aJ hF rfl (fun h363 hF=>?_) (fun h363 hF=>?_)
   ·refine aO ?_
    obtain⟨v366,h367,hF⟩:=bB hF
    obtain⟨v368,h369,hF⟩:=bB hF
    obtain⟨v370,h371,hF⟩:=bB hF
    obtain⟨v372,h373,hF⟩:=bB hF
    obtain⟨v374,h375,hF⟩:=bB hF
    obtain⟨v376,h377,hF⟩:=bB hF
    obtain⟨v378,h379,hF⟩:=bB hF
    obtain⟨x380,h381,hF⟩:=bB hF
    obtain⟨v383,h384,hF⟩:=bB hF
    refine rJ (HsM [(0,fun G364=>([⟨some b166,1,51,18,1,(aA.enc v164)⟩,hO aF.cod b159 c160 58 n161 v156,⟨some b155,1,118,2,1,(aC.enc v152)⟩,⟨some b154,1,3,1,1,[pI .i64 x133]⟩,⟨some b107,1,44,4,1,(eQ v105)⟩,⟨some ((G7 7).1.getD 0),1,24,1,1,[pO b100 n102 c101]⟩,⟨some b4,1,114,1,1,[pS aC.cod v2]⟩,⟨some b1,1,113,4,1,(aD.enc a0)⟩,hO cQ b100 c101 44 n102 v98,⟨some ((G7 6).1.getD 0),1,62,1,1,[pO b122 n124 c123]⟩,hO (cH g128) b122 c123 24 n124 x121]++gZ cQ 44 g128 x127)),(1,fun G364=>([⟨some b166,1,51,18,1,(aA.enc v164)⟩,hO aF.cod b159 c160 58 n161 v156,⟨some b155,1,118,2,1,(aC.enc v152)⟩,⟨some b154,1,3,1,1,[pI .i64 x133]⟩,⟨some b107,1,44,4,1,(eQ v105)⟩,⟨some ((G7 7).1.getD 0),1,24,1,1,[pO b100 n102 c101]⟩,⟨some b4,1,114,1,1,[pS aC.cod v2]⟩,⟨some b1,1,113,4,1,(aD.enc a0)⟩,hO cQ b100 c101 44 n102 v98,⟨some ((G7 6).1.getD 0),1,62,1,1,[pO b122 n124 c123]⟩,hO (cH g128) b122 c123 24 n124 x121]++gZ cQ 44 g128 (x127.set v370 x380)))]) [17] [0,0,2,6,15,31,0,0,0,256,768,1920,3968,0,0,0,24575,90111,262143,524287] 19 1 [.v (.vc (pO b122 n124 c123)),.v (.vc (pI .i64 x133)),.v (.vc (pI .i64 v366)),.v (.vc (pI .i64 v368)),.v (.vc (pE b122 v368 (cH g128).n 0)),.v (.vc (pO (jC g128 v370).1 (jC g128 v370).2.1 (jC g128 v370).2.2)),.v (.vc (pI .i64 x133)),.v (.vc (pO b122 n124 c123)),.v (.vc (pI .i64 x133)),.v (.vc (pI .i64 v372)),.v (.vc (pI .i64 v374)),.v (.vc (pE b122 v374 (cH g128).n 0)),.v (.vc (pO (jC g128 v376).1 (jC g128 v376).2.1 (jC g128 v376).2.2)),.v (.vc (pI .i64 x133)),.v (.va (eQ v105)),.v (.va (eQ v105)),.v (.vc (pE (jC g128 v370).1 x133 cQ.n 0)),.g (fun _ _=>.any),.v (.vc (pE (jC g128 v376).1 x133 cQ.n 0))] bJ ⟨d1 0 (gH 9 1 rfl rfl rfl rfl (.one tyO62)) zU1,d1 0 (gH 3 1 rfl rfl rfl rfl (.one tyO3)) zU1,d1 0 (vW rfl h367) ⟨rfl,kC _ _,trivial⟩,d1 0 (aBr rfl h369) ⟨rfl,kC _ _,trivial⟩,d1 0 (lP (C:=(cH g128)) 10 rfl tyS62 rfl q125 (aS h371).1 (aS h371).2.1) zU2,d1 0 (pK (C:=(cH g128)) (k:=1) 10 rfl rfl h371 rfl (.one tyO24) rfl) zU1,d1 0 (gH 3 1 rfl rfl rfl rfl (.one tyO3)) zU1,d1 0 (gH 9 1 rfl rfl rfl rfl (.one tyO62)) zU1,d1 0 (gH 3 1 rfl rfl rfl rfl (.one tyO3)) zU1,d1 0 (vW rfl h373) ⟨rfl,kC _ _,trivial⟩,d1 0 (aBr rfl h375) ⟨rfl,kC _ _,trivial⟩,d1 0 (lP (C:=(cH g128)) 10 rfl tyS62 rfl q125 (aS h377).1 (aS h377).2.1) zU2,d1 0 (pK (C:=(cH g128)) (k:=1) 10 rfl rfl h377 rfl (.one tyO24) rfl) zU1,⟨rfl,.run (L:=[0,1]) ⟨fun G364 A=>gH 3 1 rfl rfl rfl rfl (.one tyO3),fun G364 A=>gH 3 1 rfl rfl rfl rfl (.one tyO3),trivial⟩ (fun G364=>zU1)⟩,d1 0 (gH 4 4 rfl rfl rfl rfl (.agg tyA44)) zU1,⟨rfl,.run (L:=[0,1]) ⟨fun G364 A=>gH 4 4 rfl rfl rfl rfl (.agg tyA44),fun G364 A=>gH 4 4 rfl rfl rfl rfl (.agg tyA44),trivial⟩ (fun G364=>zU1)⟩,d1 0 (lP (11+v370) rfl tyS24 (kO 11 rfl q131 q130 (q132 _ (bD h371))) (lO q131 q130 (q132 _ (bD h371))) (aS h379).1 (aS h379).2.1) zU2,⟨rfl,.hvy [0] ⟨fun G364 A=>aBL (wL (H':=([⟨some b166,1,51,18,1,(aA.enc v164)⟩,hO aF.cod b159 c160 58 n161 v156,⟨some b155,1,118,2,1,(aC.enc v152)⟩,⟨some b154,1,3,1,1,[pI .i64 x133]⟩,⟨some b107,1,44,4,1,(eQ v105)⟩,⟨some ((G7 7).1.getD 0),1,24,1,1,[pO b100 n102 c101]⟩,⟨some b4,1,114,1,1,[pS aC.cod v2]⟩,⟨some b1,1,113,4,1,(aD.enc a0)⟩,hO cQ b100 c101 44 n102 v98,⟨some ((G7 6).1.getD 0),1,62,1,1,[pO b122 n124 c123]⟩,hO (cH g128) b122 c123 24 n124 x121]++gZ cQ 44 g128 (x127.set v370 x380))++A) (11+v370) rfl (kO 11 rfl q131 q130 (q132 _ (bD h371))) h379 h381 tyA44.s (hH:=stNA 11 rfl q131 q130 (q132 _ (bD h371)))),trivial⟩ (fun G364=>zU2)⟩,d1 1 (lP (11+v376) rfl tyS24 (kO 11 rfl (wN q131 q130 (q132 _ (bD h371)) (bH h381 rfl)) (tG q130) (q132 _ (bD h377))) (lO (wN q131 q130 (q132 _ (bD h371)) (bH h381 rfl)) (tG q130) (q132 _ (bD h377))) (aS h384).1 (aS h384).2.1) zU2,trivial⟩ (fun bs365 G364=>?_)
    obtain⟨x386,h387,hF⟩:=bB hF
    refine oQ (wL (H':=([⟨some b166,1,51,18,1,(aA.enc v164)⟩,hO aF.cod b159 c160 58 n161 v156,⟨some b155,1,118,2,1,(aC.enc v152)⟩,⟨some b154,1,3,1,1,[pI .i64 x133]⟩,⟨some b107,1,44,4,1,(eQ v105)⟩,⟨some ((G7 7).1.getD 0),1,24,1,1,[pO b100 n102 c101]⟩,⟨some b4,1,114,1,1,[pS aC.cod v2]⟩,⟨some b1,1,113,4,1,(aD.enc a0)⟩,hO cQ b100 c101 44 n102 v98,⟨some ((G7 6).1.getD 0),1,62,1,1,[pO b122 n124 c123]⟩,hO (cH g128) b122 c123 24 n124 x121]++gZ cQ 44 g128 ((x127.set v370 x380).set v376 x386))) (11+v376) rfl (aBq 11 rfl (wN q131 q130 (q132 _ (bD h371)) (bH h381 rfl)) (tG q130) (q132 _ (bD h377))) h384 h387 tyA44.s (hH:=stN 11 rfl (wN q131 q130 (q132 _ (bD h371)) (bH h381 rfl)) (tG q130) (q132 _ (bD h377)))) zU2 ?_
    refine bU (aU (dJ ?_))
    have hF:=rQ h367 hF
    refine go ?_ ?_
    exact aK (fun a w hh=>⟨x121,((x127.set v370 x380).set v376 x386),v366,b122,c123,n124,g128,N129,hF,q125,(tG (tG q130)),(wN (wN q131 q130 (q132 _ (bD h371)) (bH h381 rfl)) (tG q130) (q132 _ (bD h377)) (bH h387 rfl)),q132,cL 11 [4,5,6,7,8,9,10] rfl rfl (by decide) (by exact⟨rfl,rfl,rfl,rfl,rfl,rfl,rfl,rfl,rfl,rfl,trivial⟩) hh⟩)
   refine iV (xS (aU (aEK 1 [13,57] rfl q162 zU2 rfl ?_)))
   refine aEd 2 [(11,0)] rfl zU1 rfl ?_
   obtain⟨x393,h394,hF⟩:=bB hF
   obtain⟨v395,h396,hF⟩:=bC hF cO
   refine jW [0,0,0,4,12,28,0,126,0,511] 9 1 [.v (.vc (pF 156 [pP (some b4) 0,pP (some b1) 0])),.v (.va (aD.enc a0)),.v (.vc (pP (some b1) 0)),.v (.vc (pS aG.cod a0.dofs)),.v (.vc (pI .i64 (a0.dofs.length:Int))),.v (.vc (pS cQ x393)),.v (.vc (pS aF.cod v156)),.v (.vc (pS cQ v395)),.v (.vc (pF 159 [pP (some ((G7 6).1.getD 0)) 0,pM (cI.e x133)]))] bJ ⟨d0 (bS (.inl rfl)) zU1,d0 (gH 5 4 rfl rfl rfl rfl (.agg tyA113)) zU1,d0 (p6 (off:=0) (k:=0) rfl tyF113_0) zU1,d0 (gH 5 1 rfl rfl rfl rfl (.one tyO23)) zU1,d0 (tQ rfl tyS23) zU1,d0 (aBR 0 (gV (C:=cQ) rfl tyS24 rfl tyZ44q h394) (fun _ _=>rfl) rfl (fun _ _=>rfl)) zU1,d0 (bS (.inl rfl)) zU1,d0 (bP rfl h396 rfl) ⟨rfl,rfl,rfl,trivial⟩,d0 (aFF (xs:=[.tmp 6,.tmp 11]) (cs:=[pP (some ((G7 6).1.getD 0)) 0,pM (cI.e x133)]) rfl rfl) zU2,trivial⟩ (fun bs392 G391=>?_)
   obtain⟨v397,h398,hF⟩:=bB hF
   refine uO (f:=156) (cs:=[pP (some b4) 0,pP (some b1) 0]) (pre:=[.vc (pS cQ v395),.vc (pF 159 [pP (some ((G7 6).1.getD 0)) 0,pM (cI.e x133)])]) (xs:=[.tmp 176,.tmp 177]) 9 [7,4,5,8] [0,1,2,3,6] rfl (fG h398 q125 q130 q131 q132) ⟨rfl,rfl,rfl,trivial⟩ rfl rfl rfl (by decide) ?_
   rintro _ _ ⟨b399,c400,n401,g404,N405,q402,q406,q407,q408,rfl,rfl⟩
   refine rK (o9 [⟨some ((G7 6).1.getD 0),1,62,1,1,[pO b399 n401 c400]⟩,⟨some b4,1,114,1,1,[pS aC.cod v2]⟩,⟨some b1,1,113,4,1,(aD.enc a0)⟩,hO (cH g404) b399 c400 24 n401 v397.1] (gZ cQ 44 g404 v397.2) [⟨some b166,1,51,18,1,(aA.enc v164)⟩,⟨some b155,1,118,2,1,(aC.enc v152)⟩,⟨some b107,1,44,4,1,(eQ v105)⟩,⟨some ((G7 7).1.getD 0),1,24,1,1,[pO b100 n102 c101]⟩,hO cQ b100 c101 44 n102 v98]) ?_
   obtain⟨v410,h411,hF⟩:=bB hF
   refine go ?_ ?_
   exact aK (fun a w hh=>⟨v397.1,v397.2,v410,b399,c400,n401,g404,N405,hF,q402,q406,q407,q408,cL 9 [6,7,1,2,8,0,3] rfl rfl (by decide) (by exact⟨rfl,rfl,rfl,rfl,rfl,rfl,rfl,rfl,rfl,rfl,trivial⟩) hh⟩)
  refine dJ ?_
  obtain⟨rfl,rfl⟩:=sm2 hF
  exact oC Jj147 ⟨x121,x127,b122,c123,n124,g128,N129,hRl146,q125,q130,q131,q132,rfl,rfl⟩ 7 [1,4,5,6] rfl rfl zU2
 obtain⟨⟨x77',x83'⟩,hL,hRl89⟩:=bB hF
 refine jE (fun k a w=>∃(x64:List Nat),∃(x70:List (List Rat)),∃(x76:Int),∃(b65:Option Nat),∃(c66:Nat),∃(n67:Nat),∃(g71:List vL),∃(N72:Nat),fD K v2 x10 k x64 x70 x76=some (x77',x83')∧x64.length=n67∧x70.length=N72∧lH g71 x70∧(∀k∈x64,k<N72)∧hs _ ([⟨some ((G7 7).1.getD 0),1,24,1,1,[pO ((G7 5).1) x13.length x13.length]⟩,⟨some ((G7 6).1.getD 0),1,62,1,1,[pO b65 n67 c66]⟩,hO cQ ((G7 5).1) x13.length 44 x13.length x13,hO (cH g71) b65 c66 24 n67 x64,⟨some b4,1,114,1,1,[pS aC.cod v2]⟩,⟨some b1,1,113,4,1,(aD.enc a0)⟩]++gZ cQ 44 g71 x70) [(1,.vc (pP (some b1) 0)),(4,.vc (pP (some b4) 0)),(5,.vc (pF 156 [pP (some b4) 0,pP (some b1) 0])),(6,.vc (pP (some ((G7 6).1.getD 0)) 0)),(7,.vc (pP (some ((G7 7).1.getD 0)) 0)),(25,.vc (pI .i64 (x10.length:Int))),(26,.vc (pI .i64 x76))] a w) K (fun a w ⟨_,_,_,_,_,_,_,_,hF,_,_,_,_,_⟩=>by cases hF) (fun k a w ⟨x64,x70,x76,b65,c66,n67,g71,N72,hF,q68,q73,q74,q75,hh⟩=>jI ?_ hh) (fun a w hh=>⟨x10,[([]:List Rat)],0,((G7 2).1),x10.length,x10.length,[(none,0,0)],1,hL,rfl,rfl,aJs,(aPy h11),cL 6 [0,1,2,3,4,5] rfl rfl (by decide) (by exact⟨rfl,rfl,rfl,rfl,rfl,rfl,rfl,trivial⟩) hh⟩)
 rw [fD.eq_2] at hF
 refine go ?_ ?_
 refine aJ hF rfl (fun h412 hF=>?_) (fun h412 hF=>?_)
 ·refine go ?_ ?_
  refine aT ?_
  have hF:=rQ h14 hF
  obtain⟨v419,h420,hF⟩:=bB hF
  refine go ?_ ?_
  refine rJ (HsM [(0,fun G413=>([⟨some ((G7 7).1.getD 0),1,24,1,1,[pO ((G7 5).1) x13.length x13.length]⟩,⟨some ((G7 6).1.getD 0),1,62,1,1,[pO b65 n67 c66]⟩,hO cQ ((G7 5).1) x13.length 44 x13.length x13,hO (cH g71) b65 c66 24 n67 x64,⟨some b4,1,114,1,1,[pS aC.cod v2]⟩,⟨some b1,1,113,4,1,(aD.enc a0)⟩]++gZ cQ 44 g71 x70)),(1,fun G413=>([hO cQ ((G413 4).1) x13.length 44 x13.length x13,⟨some ((G7 7).1.getD 0),1,24,1,1,[pO ((G7 5).1) x13.length x13.length]⟩,⟨some ((G7 6).1.getD 0),1,62,1,1,[pO b65 n67 c66]⟩,hO cQ ((G7 5).1) x13.length 44 x13.length x13,hO (cH g71) b65 c66 24 n67 x64,⟨some b4,1,114,1,1,[pS aC.cod v2]⟩,⟨some b1,1,113,4,1,(aD.enc a0)⟩]++gZ cQ 44 g71 x70))]) [4] [0,0,0,4,12,31,63] 6 1 [.v (.vc (pO b65 n67 c66)),.v (.vc (pI .i64 x76)),.v (.vc (pS aC.cod v2)),.v (.vc (pI .i64 (v2.length:Int))),.g (fun b _=>.vc (pO b x13.length x13.length)),.v (.vc (pE b65 x76 (cH g71).n 0))] bJ ⟨⟨rfl,.run (L:=[0,1]) ⟨fun G413 A=>gH 1 1 rfl rfl rfl rfl (.one tyO62),fun G413 A=>gH 2 1 rfl rfl rfl rfl (.one tyO62),trivial⟩ (fun G413=>zU1)⟩,⟨rfl,.run (L:=[0,1]) ⟨fun G413 A=>bS (.inl rfl),fun G413 A=>bS (.inl rfl),trivial⟩ (fun G413=>zU1)⟩,d1 0 (gH 4 1 rfl rfl rfl rfl (.one tyO114)) zU1,d1 0 (tQ rfl tyS114) zU1,⟨rfl,.hvy [0] ⟨fun G413 A=>gV (C:=cQ) rfl tyS24 rfl tyZ44q h14,trivial⟩ (fun G413=>zU1)⟩,d1 1 (lP (C:=(cH g71)) 4 rfl tyS62 rfl q68 (aS h420).1 (aS h420).2.1) zU2,trivial⟩ (fun bs414 G413=>?_)
  obtain⟨x423,h424,hF⟩:=bB hF
  refine aOv (show([hO cQ ((G413 4).1) x13.length 44 x13.length x13,⟨some ((G7 7).1.getD 0),1,24,1,1,[pO ((G7 5).1) x13.length x13.length]⟩,⟨some ((G7 6).1.getD 0),1,62,1,1,[pO b65 n67 c66]⟩,hO cQ ((G7 5).1) x13.length 44 x13.length x13,hO (cH (g71++[((G413 4).1,x13.length,x13.length)])) b65 c66 24 n67 x64,⟨some b4,1,114,1,1,[pS aC.cod v2]⟩,⟨some b1,1,113,4,1,(aD.enc a0)⟩]++gZ cQ 44 g71 x70)=([hO cQ ((G413 4).1) x13.length 44 x13.length x13,⟨some ((G7 7).1.getD 0),1,24,1,1,[pO ((G7 5).1) x13.length x13.length]⟩,⟨some ((G7 6).1.getD 0),1,62,1,1,[pO b65 n67 c66]⟩,hO cQ ((G7 5).1) x13.length 44 x13.length x13,hO (cH g71) b65 c66 24 n67 x64,⟨some b4,1,114,1,1,[pS aC.cod v2]⟩,⟨some b1,1,113,4,1,(aD.enc a0)⟩]++gZ cQ 44 g71 x70) from by rw [aHP (N:=x70.length) ((G413 4).1,x13.length,x13.length) q74.1 (aE3 q73 q75)]) ?_
  refine oQ (wL (C:=cH (g71++[((G413 4).1,x13.length,x13.length)])) (z':=x70.length) 4 rfl rfl h420 h424 tyO24.s (hq:=aGA ((G413 4).1,x13.length,x13.length) q74.1)) zU2 ?_
  refine aDG (g:=((G413 4).1,x13.length,x13.length)) 0 7 rfl rfl rfl q74 ?_
  obtain⟨v427,h428,hF⟩:=bB hF
  refine go ?_ ?_
  exact aK (fun a w hh=>⟨x423,(x70++[x13]),v427,b65,c66,n67,(g71++[((G413 4).1,x13.length,x13.length)]),(N72+1),hF,(bH h424 q68),(aC9 q73),(yU q74 rfl),(rO q75 h424 q73),cL 6 [0,1,2,3,4,5] rfl rfl (by decide) (by exact⟨rfl,rfl,rfl,rfl,rfl,rfl,rfl,trivial⟩) hh⟩)
 refine dJ ?_
 obtain⟨rfl,rfl⟩:=sm2 hF
 exact oC Jj90 ⟨x64,x70,b65,c66,n67,g71,N72,hRl89,q68,q73,q74,q75,rfl,rfl⟩ 6 [0,1,2,3,4,5] rfl rfl ⟨rfl,rfl,rfl,rfl,rfl,trivial⟩
def rI (K:Nat) (a0:List aG) (a1:List Rat) (a2:List Rat) (a3:List aA) (x33:List aF):Option ((List Rat)×(List aF)×Int):=
 (bE K (⟨a0,a1,a2,a3⟩:aD) a1 x33).bind fun v41=>some (v41,x33,0)
def cV (K:Nat) (a0:List aG) (a1:List Rat) (a2:List Rat) (a3:List aA) (v5:List aC) (v10:aN×Int):Nat→(List aF)→Int→Option (List aF)
 |0,_,_=>none
 |k+1,x26,x32=>bif(decide (x32<(v5.length:Int))) then((bK v5 x32).bind fun v44=>(bK x26 v44.row).bind fun v47=>bif(v44.kind==0) then((bK v10.1.z x32).bind fun v50=>(nL x26 v44.row (⟨v50,v47.f⟩:aF)).bind fun x52=>(bK a3 v44.row).bind fun v55=>bif(decide (0<(v55.t.length:Int))) then((bK x52 v44.row).bind fun v61=>(jN K (⟨a0,a1,a2,a3⟩:aD) v55 v61.n).bind fun v63=>(bK x52 v44.row).bind fun v65=>(nL x52 v44.row (⟨v65.n,v63⟩:aF)).bind fun x67=>(aP (x32+1)).bind fun v70=>cV K a0 a1 a2 a3 v5 v10 k x67 v70) else((aP (x32+1)).bind fun v72=>cV K a0 a1 a2 a3 v5 v10 k x52 v72)) else(bif(v44.kind==1) then((bK v10.1.z x32).bind fun v77=>(aAW v47.f v77).bind fun v79=>(nL x26 v44.row (⟨v47.n,v79⟩:aF)).bind fun x81=>(aP (x32+1)).bind fun v84=>cV K a0 a1 a2 a3 v5 v10 k x81 v84) else(bif(v44.kind==2) then((bK v10.1.z x32).bind fun v89=>(aDZ v47.f v89).bind fun v91=>(nL x26 v44.row (⟨v47.n,v91⟩:aF)).bind fun x93=>(aP (x32+1)).bind fun v96=>cV K a0 a1 a2 a3 v5 v10 k x93 v96) else((aP (x32+1)).bind fun v98=>cV K a0 a1 a2 a3 v5 v10 k x26 v98)))) else(some x26)
def nN (K:Nat) (a0:List aG) (a1:List Rat) (a2:List Rat) (a3:List aA):Option ((List Rat)×(List aF)×Int):=
 (l6 K (⟨a0,a1,a2,a3⟩:aD)).bind fun v2=>bif(!v2) then(some ([],[],1)) else((iO K (⟨a0,a1,a2,a3⟩:aD)).bind fun v5=>bif(decide (32<(v5.length:Int))) then(some ([],[],4)) else((lQ K (⟨a0,a1,a2,a3⟩:aD)).bind fun v8=>(mA K v8.1 v8.2 4096).bind fun v10=>bif(v10.2 != 0) then(some ([],[],v10.2)) else((vC (a3.length:Int) (⟨0,0⟩:aF)).bind fun x14=>(cV K a0 a1 a2 a3 v5 v10 K x14 0).bind fun x33=>rI K a0 a1 a2 a3 x33)))
theorem wS {K:Nat} {a0:List aG} {a1:List Rat} {a2:List Rat} {a3:List aA} {r:(List Rat)×(List aF)×Int} (hF:nN K a0 a1 a2 a3=some r):Ct Tryz.prog 17 [.vc (pS aG.cod a0),.vc (pS cQ a1),.vc (pS cQ a2),.vc (pS aA.cod a3)] (.t3 (.vc (pS cQ r.1)) (.vc (pS aF.cod r.2.1)) (.vc (pI .i64 r.2.2))):=by
 unfold nN at hF
 refine aI Tryz.func17 rfl (by kernel_rfl) Tryz.ntmps17 rfl (fun w0 M0=>?_)
 refine aO (aY (aV (bS (.inr rfl)) ⟨eD cQ,trivial⟩ ?_))
 refine aV (bS (.inr rfl)) ⟨eD aF.cod,trivial⟩ ?_
 refine go ?_ ?_
 refine aV (fF (is:=[0,1,2,3]) (xs:=[.tmp 22,.tmp 23,.tmp 24,.tmp 25]) (ps:=[.vc (pS aG.cod a0),.vc (pS cQ a1),.vc (pS cQ a2),.vc (pS aA.cod a3)]) rfl tyB113q rfl rfl ⟨trivial,trivial,trivial,trivial,trivial⟩ rfl) ⟨rfl,rfl,rfl,rfl,trivial⟩ ?_
 refine aM rfl tyZ113q (fun b1=>?_)
 obtain⟨v2,h3,hF⟩:=bC hF vX
 refine go ?_ ?_
 refine aJ hF rfl (fun h4 hF=>?_) (fun h4 hF=>?_)
 ·refine aO (aY (aV (bS (.inr rfl)) ⟨eD cQ,trivial⟩ ?_))
  refine aV (bS (.inr rfl)) ⟨eD aF.cod,trivial⟩ ?_
  exact cG
 obtain⟨v5,h6,hF⟩:=bC hF tW
 refine go ?_ ?_
 refine aJ hF rfl (fun h7 hF=>?_) (fun h7 hF=>?_)
 ·refine aO (aY (aV (bS (.inr rfl)) ⟨eD cQ,trivial⟩ ?_))
  refine aV (bS (.inr rfl)) ⟨eD aF.cod,trivial⟩ ?_
  exact cG
 obtain⟨v8,h9,hF⟩:=bC hF zG
 obtain⟨v10,h11,hF⟩:=bC hF aAK
 refine go ?_ ?_
 refine aM rfl tyZ68q (fun b12=>?_)
 refine go ?_ ?_
 refine aJ hF rfl (fun h13 hF=>?_) (fun h13 hF=>?_)
 ·refine go ?_ ?_
  refine aV (bS (.inr rfl)) ⟨eD cQ,trivial⟩ ?_
  refine aV (bS (.inr rfl)) ⟨eD aF.cod,trivial⟩ ?_
  exact cG
 obtain⟨x14,h15,hF⟩:=bB hF
 refine go ?_ ?_
 refine uE (C:=aF.cod) (z:=(⟨0,0⟩:aF)) rfl tyS29 rfl tyZ58q rfl h15 (fun b16=>?_)
 refine go ?_ ?_
 refine aT (cJ (fun H E=>∃(x33:List aF),rI K a0 a1 a2 a3 x33=some r∧x33.length=x14.length∧H=[hO aF.cod b16 x14.length 58 x14.length x33,⟨some b1,1,113,4,1,([pS aG.cod a0]++[pS cQ a1]++[pS cQ a2]++[pS aA.cod a3])⟩]∧E=[(1,.vc (pS cQ a1)),(11,.vc (pP (some b1) 0)),(17,.vc (pO b16 x14.length x14.length))]) ?_ (fun Jj40=>?_))
 ·rintro _ _ ⟨x33,hF,q37,rfl,rfl⟩
  unfold rI at hF
  refine aU (aO (aY (aV (gH 1 4 rfl rfl rfl rfl (.agg tyA113)) zU1 ?_)))
  refine nI ?_
  refine nI ?_
  refine aBi 0 [17,127] rfl q37 zU2 rfl ?_
  obtain⟨v41,h42,hF⟩:=bC hF cO
  exact cG
 obtain⟨x33',hL,hRl39⟩:=bB hF
 refine jE (fun k a w=>∃(x26:List aF),∃(x32:Int),cV K a0 a1 a2 a3 v5 v10 k x26 x32=some x33'∧x26.length=x14.length∧hs _ [hO aF.cod b16 x14.length 58 x14.length x26,⟨some b12,1,68,3,1,(aN.enc v10.1)⟩,⟨some b1,1,113,4,1,([pS aG.cod a0]++[pS cQ a1]++[pS cQ a2]++[pS aA.cod a3])⟩] [(1,.vc (pS cQ a1)),(3,.vc (pS aA.cod a3)),(11,.vc (pP (some b1) 0)),(15,.vc (pP (some b12) 0)),(17,.vc (pO b16 x14.length x14.length)),(52,.vc (pS aC.cod v5)),(53,.vc (pI .i64 (v5.length:Int))),(54,.vc (pI .i64 x32))] a w) K (fun a w ⟨_,_,hF,_,_⟩=>by cases hF) (fun k a w ⟨x26,x32,hF,q30,hh⟩=>jI ?_ hh) (fun a w hh=>⟨x14,0,hL,rfl,iN [0,1,2] hh⟩)
 rw [cV.eq_2] at hF
 refine go ?_ ?_
 refine aJ hF rfl (fun h43 hF=>?_) (fun h43 hF=>?_)
 ·refine go ?_ ?_
  refine aT ?_
  obtain⟨v44,h45,hF⟩:=bB hF
  refine go ?_ ?_
  refine aM rfl tyZ118q (fun b46=>?_)
  obtain⟨v47,h48,hF⟩:=bB hF
  refine go ?_ ?_
  refine aT (go ?_ ?_)
  refine aJ hF rfl (fun h49 hF=>?_) (fun h49 hF=>?_)
  ·obtain⟨v50,h51,x52,h53,v55,h56,hF⟩:=bn3 hF
   refine go ?_ ?_
   refine aM rfl tyZ51q (fun b57=>?_)
   refine go ?_ ?_
   refine aJ hF rfl (fun h58 hF=>?_) (fun h58 hF=>?_)
   ·obtain⟨v61,h62,hF⟩:=bB hF
    obtain⟨v63,h64,hF⟩:=bC hF uQ
    refine dr [0,0,0,0,8,24,56,126,255,511,1023] 10 1 ?_ (fun bs60 G59=>?_)
    have hF:=rQ h62 hF
    obtain⟨x67,h68,v70,h71,hF⟩:=uS hF
    refine go ?_ ?_
    exact aK (fun a w hh=>⟨x67,v70,hF,(bH h68 (bH h53 q30)),iN [2,3,4] hh⟩)
   obtain⟨v72,h73,hF⟩:=bB hF
   refine go ?_ ?_
   exact aK (fun a w hh=>⟨x52,v72,hF,(bH h53 q30),iN [2,3,4] hh⟩)
  refine go ?_ ?_
  refine aJ hF rfl (fun h74 hF=>?_) (fun h74 hF=>?_)
  ·obtain⟨v77,h78,hF⟩:=bB hF
   obtain⟨v79,h80,hF⟩:=bC hF tS
   refine dr [0,0,2,6,14,0,32,0,224,480,1022,2047,4095,8191] 13 1 ?_ (fun bs76 G75=>?_)
   obtain⟨x81,h82,v84,h85,hF⟩:=uS hF
   refine go ?_ ?_
   exact aK (fun a w hh=>⟨x81,v84,hF,(bH h82 q30),iN [1,2,3] hh⟩)
  refine go ?_ ?_
  refine aJ hF rfl (fun h86 hF=>?_) (fun h86 hF=>?_)
  ·obtain⟨v89,h90,hF⟩:=bB hF
   obtain⟨v91,h92,hF⟩:=bC hF aC1
   refine dr [0,0,2,6,14,0,32,0,224,480,1022,2047,4095,8191] 13 1 ?_ (fun bs88 G87=>?_)
   obtain⟨x93,h94,v96,h97,hF⟩:=uS hF
   refine go ?_ ?_
   exact aK (fun a w hh=>⟨x93,v96,hF,(bH h94 q30),iN [1,2,3] hh⟩)
  obtain⟨v98,h99,hF⟩:=bB hF
  refine go ?_ ?_
  exact aK (fun a w hh=>⟨x26,v98,hF,q30,iN [1,2,3] hh⟩)
 refine dJ ?_
 obtain rfl:=p9 hF
 exact qB Jj40 ⟨x26,hRl39,q30,rfl,rfl⟩ [0,2]
def nP (K:Nat):Option Int:=
 some (-1)
def kT (K:Nat) (a0:List aF) (a1:(aF→Option Bool)):Nat→Int→Option (LR Int Unit)
 |0,_=>none
 |k+1,x2=>bif(decide (x2<(a0.length:Int))) then((bK a0 x2).bind fun v6=>(a1 v6).bind fun v8=>bif v8 then(some (.ret x2)) else((aP (x2+1)).bind fun v11=>kT K a0 a1 k v11)) else(some (.go ()))
def p5 (K:Nat) (a0:List aF) (a1:(aF→Option Bool)):Option Int:=
 (kT K a0 a1 K 0).bind fun o=>match o with| .ret r=>some r| .go _=>nP K
theorem xF {K:Nat} {a0:List aF} {a1:(aF→Option Bool)} {r:Int} (hF:p5 K a0 a1=some r):Ct Tryz.prog 163 [.vc (pS aF.cod a0),.vc (pFn Tryz.prog (fun x:aF=>[.va (aF.enc x)]) (fun r:Bool=>.vc (pB r)) a1)] (.vc (pI .i64 r)):=by
 unfold p5 at hF
 refine aI Tryz.func163 rfl (by kernel_rfl) Tryz.ntmps163 rfl (fun w0 M0=>?_)
 refine go ?_ ?_
 refine aT (cJ (fun H E=>nP K=some r∧H=[]∧E=[]) ?_ (fun Jj4=>?_))
 ·rintro _ _ ⟨hF,rfl,rfl⟩
  unfold nP at hF
  exact cG
 obtain⟨ol3,hL,hRl3⟩:=bB hF
 refine jE (fun k a w=>∃(x2:Int),kT K a0 a1 k x2=some ol3∧hs _ [] [(0,.vc (pS aF.cod a0)),(1,.vc (pFn Tryz.prog (fun x:aF=>[.va (aF.enc x)]) (fun r:Bool=>.vc (pB r)) a1)),(7,.vc (pI .i64 (a0.length:Int))),(8,.vc (pI .i64 x2))] a w) K (fun a w ⟨_,hF,_⟩=>by cases hF) (fun k a w ⟨x2,hF,hh⟩=>jI ?_ hh) (fun a w hh=>⟨0,hL,iN [] hh⟩)
 rw [kT.eq_2] at hF
 refine go ?_ ?_
 refine aJ hF rfl (fun h5 hF=>?_) (fun h5 hF=>?_)
 ·refine go ?_ ?_
  refine aT ?_
  obtain⟨v6,h7,v8,h9,hF⟩:=uS hF
  refine go ?_ ?_
  refine aV (aBM (pre:=fun x:aF=>[.va (aF.enc x)]) (post:=fun r:Bool=>.vc (pB r)) (x:=v6) (r:=v8) rfl h9 rfl) zU2 ?_
  refine bU (aU (aJ hF rfl (fun h10 hF=>?_) (fun h10 hF=>?_)))
  ·exact cG
  obtain⟨v11,h12,hF⟩:=bB hF
  refine go ?_ ?_
  exact aK (fun a w hh=>⟨v11,hF,iN [] hh⟩)
 refine dJ ?_
 obtain rfl:=p9 hF
 exact qB Jj4 ⟨hRl3,rfl,rfl⟩ []
def nY (K:Nat) (a0:List aF) (a1:(aF→Option Bool)):Option Bool:=
 (p5 K a0 a1).bind fun v1=>some (decide (0≤v1))
theorem wE {K:Nat} {a0:List aF} {a1:(aF→Option Bool)} {r:Bool} (hF:nY K a0 a1=some r):Ct Tryz.prog 76 [.vc (pS aF.cod a0),.vc (pFn Tryz.prog (fun x:aF=>[.va (aF.enc x)]) (fun r:Bool=>.vc (pB r)) a1)] (.vc (pB r)):=by
 unfold nY at hF
 refine aI Tryz.func76 rfl (by kernel_rfl) Tryz.ntmps76 rfl (fun w0 M0=>?_)
 obtain⟨v1,h2,hF⟩:=bC hF xF
 exact cG
def tH (a0:aF):Option Bool:=
 (aAG a0.n).bind fun v2=>bif(!v2) then(some true) else((aAG a0.f).bind fun v5=>some (!v5))
theorem aBY {a0:aF} {r:Bool} (hF:tH a0=some r):Ct Tryz.prog 77 [.va (aF.enc a0)] (.vc (pB r)):=by
 unfold tH at hF
 refine aI Tryz.func77 rfl (by kernel_rfl) Tryz.ntmps77 rfl (fun w0 M0=>?_)
 refine aO (aY (cU rfl rfl trivial (fun b1=>?_)))
 obtain⟨v2,h3,hF⟩:=bC hF oZ
 refine go ?_ ?_
 refine d7 hF (fun h4 hF=>?_) (fun h4 hF=>?_)
 ·exact cG
 obtain⟨v5,h6,hF⟩:=bC hF oZ
 exact cG
def oH (K:Nat):Option Bool:=
 some true
def lI (K:Nat) (a0:List Rat) (a1:List Rat) (a2:(Rat×Rat→Option Bool)):Nat→Int→Option (LR Bool Unit)
 |0,_=>none
 |k+1,x3=>bif(decide (x3<(a0.length:Int))) then((bK a0 x3).bind fun v7=>(bK a1 x3).bind fun v10=>(a2 (v7,v10)).bind fun v13=>bif(!v13) then(some (.ret false)) else((aP (x3+1)).bind fun v16=>lI K a0 a1 a2 k v16)) else(some (.go ()))
def qI (K:Nat) (a0:List Rat) (a1:List Rat) (a2:(Rat×Rat→Option Bool)):Option Bool:=
 bif((a0.length:Int) != (a1.length:Int)) then(some false) else((lI K a0 a1 a2 K 0).bind fun o=>match o with| .ret r=>some r| .go _=>oH K)
theorem yC {K:Nat} {a0:List Rat} {a1:List Rat} {a2:(Rat×Rat→Option Bool)} {r:Bool} (hF:qI K a0 a1 a2=some r):Ct Tryz.prog 79 [.vc (pS cQ a0),.vc (pS cQ a1),.vc (pFn Tryz.prog (fun x:Rat×Rat=>[.va (eQ x.1),.va (eQ x.2)]) (fun r:Bool=>.vc (pB r)) a2)] (.vc (pB r)):=by
 unfold qI at hF
 refine aI Tryz.func79 rfl (by kernel_rfl) Tryz.ntmps79 rfl (fun w0 M0=>?_)
 refine go ?_ ?_
 refine aJ hF rfl (fun h1 hF=>?_) (fun h1 hF=>?_)
 ·exact cG
 refine go ?_ ?_
 refine aT (cJ (fun H E=>oH K=some r∧H=[]∧E=[]) ?_ (fun Jj5=>?_))
 ·rintro _ _ ⟨hF,rfl,rfl⟩
  unfold oH at hF
  exact cG
 obtain⟨ol4,hL,hRl4⟩:=bB hF
 refine jE (fun k a w=>∃(x3:Int),lI K a0 a1 a2 k x3=some ol4∧hs _ [] [(1,.vc (pS cQ a1)),(2,.vc (pFn Tryz.prog (fun x:Rat×Rat=>[.va (eQ x.1),.va (eQ x.2)]) (fun r:Bool=>.vc (pB r)) a2)),(15,.vc (pS cQ a0)),(16,.vc (pI .i64 (a0.length:Int))),(17,.vc (pI .i64 x3))] a w) K (fun a w ⟨_,hF,_⟩=>by cases hF) (fun k a w ⟨x3,hF,hh⟩=>jI ?_ hh) (fun a w hh=>⟨0,hL,iN [] hh⟩)
 rw [lI.eq_2] at hF
 refine go ?_ ?_
 refine aJ hF rfl (fun h6 hF=>?_) (fun h6 hF=>?_)
 ·refine go ?_ ?_
  refine aT ?_
  obtain⟨v7,h8,hF⟩:=bB hF
  refine go ?_ ?_
  refine aM rfl tyZ44q (fun b9=>?_)
  obtain⟨v10,h11,hF⟩:=bB hF
  refine go ?_ ?_
  refine aM rfl tyZ44q (fun b12=>?_)
  obtain⟨v13,h14,hF⟩:=bB hF
  refine go ?_ ?_
  refine aV (aBM (pre:=fun x:Rat×Rat=>[.va (eQ x.1),.va (eQ x.2)]) (post:=fun r:Bool=>.vc (pB r)) (x:=(v7,v10)) (r:=v13) rfl h14 rfl) ⟨rfl,rfl,rfl,trivial⟩ ?_
  refine go ?_ ?_
  refine aJ hF rfl (fun h15 hF=>?_) (fun h15 hF=>?_)
  ·exact cG
  obtain⟨v16,h17,hF⟩:=bB hF
  refine go ?_ ?_
  exact aK (fun a w hh=>⟨v16,hF,iN [] hh⟩)
 refine dJ ?_
 obtain rfl:=p9 hF
 exact qB Jj5 ⟨hRl4,rfl,rfl⟩ []
def mN (K:Nat) (a1:aA) (a3:aF) (v6:Int) (v8:Rat) (x16:Int):Option Bool:=
 (uD a3.n).bind fun v18=>bif(decide (v18<0)) then(some false) else(bif(decide (v6<0)) then(some false) else(bif(decide (0<v6)) then((uD a3.n).bind fun v23=>bif(decide (0<v23)) then(some false) else(bif((a1.t.length:Int)==0) then((uD a3.f).bind fun v27=>some (v27==0)) else(bif(decide (0<x16)) then((aAY v8).bind fun v32=>(aAl a3.f v32).bind fun v34=>some v34) else(bif(decide (x16<0)) then((aAl a3.f v8).bind fun v37=>some v37) else((aFQ a3.f v8).bind fun v41=>bif(decide (v41≤0)) then((aAY a3.f).bind fun v44=>(aFQ v44 v8).bind fun v46=>some (decide (v46≤0))) else(some false)))))) else(bif((a1.t.length:Int)==0) then((uD a3.f).bind fun v49=>some (v49==0)) else(bif(decide (0<x16)) then((aAY v8).bind fun v54=>(aAl a3.f v54).bind fun v56=>some v56) else(bif(decide (x16<0)) then((aAl a3.f v8).bind fun v59=>some v59) else((aFQ a3.f v8).bind fun v63=>bif(decide (v63≤0)) then((aAY a3.f).bind fun v66=>(aFQ v66 v8).bind fun v68=>some (decide (v68≤0))) else(some false)))))))
def sP (K:Nat) (a0:aD) (a1:aA) (a2:List Rat) (a3:aF):Option Bool:=
 (eF K a1.j a2).bind fun v4=>(uD v4).bind fun v6=>(w5 a1.mu a3.n).bind fun v8=>(eF K a1.t a2).bind fun v11=>(uD v11).bind fun v13=>(jZ K a0 a1).bind fun v70=>bif(v70 != 0) then(mN K a1 a3 v6 v8 v70) else(mN K a1 a3 v6 v8 v13)
theorem aAc {K:Nat} {a0:aD} {a1:aA} {a2:List Rat} {a3:aF} {r:Bool} (hF:sP K a0 a1 a2 a3=some r):Ct Tryz.prog 80 [.va (aD.enc a0),.va (aA.enc a1),.vc (pS cQ a2),.va (aF.enc a3)] (.vc (pB r)):=by
 unfold sP at hF
 refine aI Tryz.func80 rfl (by kernel_rfl) Tryz.ntmps80 rfl (fun w0 M0=>?_)
 refine aO (aY (cU rfl rfl trivial (fun b1=>?_)))
 refine cU rfl rfl trivial (fun b2=>?_)
 refine cU rfl rfl trivial (fun b3=>?_)
 obtain⟨v4,h5,hF⟩:=bC hF fV
 obtain⟨v6,h7,hF⟩:=bC hF gC
 obtain⟨v8,h9,hF⟩:=bC hF m5
 refine go ?_ ?_
 refine aM rfl tyZ44q (fun b10=>?_)
 refine oQ (t_s 0 rfl rfl rfl tyA44.s) zU2 ?_
 refine bU (aU (aO (aY (aV (p6 (off:=0) (k:=9) rfl tyF51_6) zU1 ?_))))
 refine aV (gH 2 1 rfl rfl rfl rfl (.one tyO49)) zU1 ?_
 refine nI ?_
 obtain⟨v11,h12,hF⟩:=bC hF fV
 refine aV (bP rfl h12 rfl) zU2 ?_
 obtain⟨v13,h14,hF⟩:=bC hF gC
 refine aV (bP rfl h14 rfl) zU1 ?_
 refine aAi ?_
 refine bU (aU (aO (uI (fun H E=>∃(x16:Int),mN K a1 a3 v6 v8 x16=some r∧H=[⟨some b10,1,44,4,1,(eQ v8)⟩,⟨some b3,1,58,8,1,(aF.enc a3)⟩,⟨some b2,1,51,18,1,(aA.enc a1)⟩]∧E=[(5,.vc (pP (some b2) 0)),(7,.vc (pP (some b3) 0)),(9,.vc (pI .i64 v6)),(10,.vc (pP (some b10) 0)),(11,.vc (pI .i64 x16))]) ?_ (fun Jj17=>?_))))
 ·rintro _ _ ⟨x16,hF,rfl,rfl⟩
  unfold mN at hF
  refine aO (aT ?_)
  obtain⟨v18,h19,hF⟩:=bC hF gC
  refine go ?_ ?_
  refine d7 hF (fun h20 hF=>?_) (fun h20 hF=>?_)
  ·refine go ?_ ?_
   refine lX rfl ?_
   exact cG
  refine go ?_ ?_
  refine d7 hF (fun h21 hF=>?_) (fun h21 hF=>?_)
  ·refine go ?_ ?_
   refine lX rfl ?_
   exact cG
  refine go ?_ ?_
  refine d7 hF (fun h22 hF=>?_) (fun h22 hF=>?_)
  ·obtain⟨v23,h24,hF⟩:=bC hF gC
   refine go ?_ ?_
   refine aJ hF rfl (fun h25 hF=>?_) (fun h25 hF=>?_)
   ·exact cG
   refine go ?_ ?_
   refine aJ hF rfl (fun h26 hF=>?_) (fun h26 hF=>?_)
   ·obtain⟨v27,h28,hF⟩:=bC hF gC
    exact cG
   refine go ?_ ?_
   refine aJ hF rfl (fun h29 hF=>?_) (fun h29 hF=>?_)
   ·refine aO ?_
    obtain⟨v32,h33,hF⟩:=bC hF pD
    obtain⟨v34,h35,hF⟩:=bC hF oR
    refine dr [0,1,0,4,15,31] 6 0 ?_ (fun bs31 G30=>?_)
    refine bU (aU ?_)
    exact cG
   refine go ?_ ?_
   refine aJ hF rfl (fun h36 hF=>?_) (fun h36 hF=>?_)
   ·obtain⟨v37,h38,hF⟩:=bC hF oR
    exact cG
   obtain⟨v41,h42,hF⟩:=bC hF rT
   refine go ?_ ?_
   rcases Bool.eq_false_or_eq_true (decide (v41≤0)) with h43|h43
   ·have hF:=u7 h43 hF
    obtain⟨v44,h45,hF⟩:=bC hF pD
    obtain⟨v46,h47,hF⟩:=bC hF rT
    refine drb [0,1,0,7,15,31,63,127,255,63,1023,2047,4095,8191] 14 0 ?_ (fun bs40 G39=>?_)
    refine bU (aU ?_)
    exact cG
   have hF:=u9 h43 hF
   refine drb [0,1,0,7,15,31,63,127,255,63,1023,2047,4095,8191] 14 0 ?_ (fun bs40 G39=>?_)
   refine bU (aU ?_)
   exact cG
  refine go ?_ ?_
  refine tA rfl ?_
  refine go ?_ ?_
  refine aJ hF rfl (fun h48 hF=>?_) (fun h48 hF=>?_)
  ·obtain⟨v49,h50,hF⟩:=bC hF gC
   exact cG
  refine go ?_ ?_
  refine aJ hF rfl (fun h51 hF=>?_) (fun h51 hF=>?_)
  ·refine aO ?_
   obtain⟨v54,h55,hF⟩:=bC hF pD
   obtain⟨v56,h57,hF⟩:=bC hF oR
   refine dr [0,1,0,4,15,31] 6 0 ?_ (fun bs53 G52=>?_)
   refine bU (aU ?_)
   exact cG
  refine go ?_ ?_
  refine aJ hF rfl (fun h58 hF=>?_) (fun h58 hF=>?_)
  ·obtain⟨v59,h60,hF⟩:=bC hF oR
   exact cG
  obtain⟨v63,h64,hF⟩:=bC hF rT
  refine go ?_ ?_
  rcases Bool.eq_false_or_eq_true (decide (v63≤0)) with h65|h65
  ·have hF:=u7 h65 hF
   obtain⟨v66,h67,hF⟩:=bC hF pD
   obtain⟨v68,h69,hF⟩:=bC hF rT
   refine drb [0,1,0,7,15,31,63,127,255,63,1023,2047,4095,8191] 14 0 ?_ (fun bs62 G61=>?_)
   refine bU (aU ?_)
   exact cG
  have hF:=u9 h65 hF
  refine drb [0,1,0,7,15,31,63,127,255,63,1023,2047,4095,8191] 14 0 ?_ (fun bs62 G61=>?_)
  refine bU (aU ?_)
  exact cG
 obtain⟨v70,h71,hF⟩:=bC hF sU
 refine go ?_ ?_
 refine aJ hF rfl (fun h72 hF=>?_) (fun h72 hF=>?_)
 ·refine aY (nI ?_)
  refine aAi ?_
  refine bU ?_
  exact qB Jj17 ⟨v70,hF,rfl,rfl⟩ [0,1,2]
 refine iV ?_
 exact qB Jj17 ⟨v13,hF,rfl,rfl⟩ [0,1,2]
def t6 (K:Nat):Option Int:=
 some 0
def rH (K:Nat) (a0:List aG) (a1:List Rat) (a2:List Rat) (a3:List aA) (a4:List Rat) (a5:List aF):Nat→Int→Option (LR Int Unit)
 |0,_=>none
 |k+1,x19=>bif(decide (x19<(a3.length:Int))) then((bK a3 x19).bind fun v23=>(bK a5 x19).bind fun v28=>(sP K (⟨a0,a1,a2,a3⟩:aD) v23 a4 v28).bind fun v30=>bif(!v30) then(some (.ret 18)) else((aP (x19+1)).bind fun v33=>rH K a0 a1 a2 a3 a4 a5 k v33)) else(some (.go ()))
def xO (K:Nat) (a0:List aG) (a1:List Rat) (a2:List Rat) (a3:List aA) (a4:List Rat) (a5:List aF):Option Int:=
 (l6 K (⟨a0,a1,a2,a3⟩:aD)).bind fun v2=>bif(!v2) then(some 1) else(bif((a4.length:Int) != (a0.length:Int)) then(some 18) else(bif((a5.length:Int) != (a3.length:Int)) then(some 18) else((qP K a4).bind fun v7=>bif(!v7) then(some 18) else((nY K a5 (tH)).bind fun v10=>bif v10 then(some 18) else((bE K (⟨a0,a1,a2,a3⟩:aD) a1 a5).bind fun v13=>(qI K a4 v13 (fun x=>aAl x.1 x.2)).bind fun v15=>bif(!v15) then(some 18) else((rH K a0 a1 a2 a3 a4 a5 K 0).bind fun o=>match o with| .ret r=>some r| .go _=>t6 K))))))
theorem aC3 {K:Nat} {a0:List aG} {a1:List Rat} {a2:List Rat} {a3:List aA} {a4:List Rat} {a5:List aF} {r:Int} (hF:xO K a0 a1 a2 a3 a4 a5=some r):Ct Tryz.prog 19 [.vc (pS aG.cod a0),.vc (pS cQ a1),.vc (pS cQ a2),.vc (pS aA.cod a3),.vc (pS cQ a4),.vc (pS aF.cod a5)] (.vc (pI .i64 r)):=by
 unfold xO at hF
 refine aI Tryz.func19 rfl (by kernel_rfl) Tryz.ntmps19 rfl (fun w0 M0=>?_)
 refine go ?_ ?_
 refine aV (fF (is:=[0,1,2,3]) (xs:=[.tmp 16,.tmp 17,.tmp 18,.tmp 19]) (ps:=[.vc (pS aG.cod a0),.vc (pS cQ a1),.vc (pS cQ a2),.vc (pS aA.cod a3)]) rfl tyB113q rfl rfl ⟨trivial,trivial,trivial,trivial,trivial⟩ rfl) ⟨rfl,rfl,rfl,rfl,trivial⟩ ?_
 refine aM rfl tyZ113q (fun b1=>?_)
 refine go ?_ ?_
 refine aT ?_
 obtain⟨v2,h3,hF⟩:=bC hF vX
 refine go ?_ ?_
 refine aJ hF rfl (fun h4 hF=>?_) (fun h4 hF=>?_)
 ·exact cG
 refine go ?_ ?_
 refine d7 hF (fun h5 hF=>?_) (fun h5 hF=>?_)
 ·refine go ?_ ?_
  refine lX rfl ?_
  exact cG
 refine go ?_ ?_
 refine d7 hF (fun h6 hF=>?_) (fun h6 hF=>?_)
 ·refine go ?_ ?_
  refine lX rfl ?_
  exact cG
 obtain⟨v7,h8,hF⟩:=bC hF xK
 refine go ?_ ?_
 refine aJ hF rfl (fun h9 hF=>?_) (fun h9 hF=>?_)
 ·exact cG
 obtain⟨v10,h11,hF⟩:=bC hF wE
 refine go ?_ ?_
 refine aV (bP rfl h11 rfl) ⟨rfl,(aMv (P:=Tryz.prog) (φ:=(tH)) (pre:=fun x:aF=>[.va (aF.enc x)]) (post:=fun r:Bool=>.vc (pB r)) (fun x r h=>aBY h)),trivial⟩ ?_
 refine go ?_ ?_
 refine aJ hF rfl (fun h12 hF=>?_) (fun h12 hF=>?_)
 ·exact cG
 obtain⟨v13,h14,hF⟩:=bC hF cO
 obtain⟨v15,h16,hF⟩:=bC hF yC
 refine go ?_ ?_
 refine aV (bP rfl h16 rfl) ⟨rfl,rfl,(aMv (P:=Tryz.prog) (φ:=(fun x=>aAl x.1 x.2)) (pre:=fun x:Rat×Rat=>[.va (eQ x.1),.va (eQ x.2)]) (post:=fun r:Bool=>.vc (pB r)) (fun x r h=>oR h)),trivial⟩ ?_
 refine go ?_ ?_
 refine aJ hF rfl (fun h17 hF=>?_) (fun h17 hF=>?_)
 ·exact cG
 refine go ?_ ?_
 refine aT (cJ (fun H E=>t6 K=some r∧H=[]∧E=[]) ?_ (fun Jj21=>?_))
 ·rintro _ _ ⟨hF,rfl,rfl⟩
  unfold t6 at hF
  exact cG
 obtain⟨ol20,hL,hRl20⟩:=bB hF
 refine jE (fun k a w=>∃(x19:Int),rH K a0 a1 a2 a3 a4 a5 k x19=some ol20∧hs _ [⟨some b1,1,113,4,1,([pS aG.cod a0]++[pS cQ a1]++[pS cQ a2]++[pS aA.cod a3])⟩] [(4,.vc (pS cQ a4)),(5,.vc (pS aF.cod a5)),(13,.vc (pP (some b1) 0)),(54,.vc (pS aA.cod a3)),(55,.vc (pI .i64 (a3.length:Int))),(56,.vc (pI .i64 x19))] a w) K (fun a w ⟨_,hF,_⟩=>by cases hF) (fun k a w ⟨x19,hF,hh⟩=>jI ?_ hh) (fun a w hh=>⟨0,hL,iN [0] hh⟩)
 rw [rH.eq_2] at hF
 refine go ?_ ?_
 refine aJ hF rfl (fun h22 hF=>?_) (fun h22 hF=>?_)
 ·refine go ?_ ?_
  refine aT ?_
  obtain⟨v23,h24,hF⟩:=bB hF
  refine go ?_ ?_
  refine aM rfl tyZ51q (fun b25=>?_)
  obtain⟨v28,h29,hF⟩:=bB hF
  obtain⟨v30,h31,hF⟩:=bC hF aAc
  refine go ?_ ?_
  refine dr [0,0,0,0,0,24,56,127,255] 9 0 ?_ (fun bs27 G26=>?_)
  refine bU (aU (aJ hF rfl (fun h32 hF=>?_) (fun h32 hF=>?_)))
  ·exact cG
  obtain⟨v33,h34,hF⟩:=bB hF
  refine go ?_ ?_
  exact aK (fun a w hh=>⟨v33,hF,iN [1] hh⟩)
 refine dJ ?_
 obtain rfl:=p9 hF
 exact qB Jj21 ⟨hRl20,rfl,rfl⟩ []
def u6 (K:Nat) (x26:List Rat):Option (List Rat):=
 some x26
def lV (K:Nat) (a1:List aE) (a2:Rat):Nat→(List Rat)→Int→Option (List Rat)
 |0,_,_=>none
 |k+1,x19,x25=>bif(decide (x25<(a1.length:Int))) then((bK a1 x25).bind fun v37=>(bK a1 x25).bind fun v39=>(bK x19 v39.dof).bind fun v41=>(bK a1 x25).bind fun v43=>(w5 v43.k a2).bind fun v45=>(aAW v41 v45).bind fun v47=>(bK x19 v37.dof).bind fun v49=>(nL x19 v37.dof v47).bind fun x51=>(aP (x25+1)).bind fun v54=>lV K a1 a2 k x51 v54) else(some x19)
def rL (K:Nat) (a0:List Rat) (a1:List aE) (a2:Rat):Option (List Rat):=
 (qW ([]:List Rat) a0).bind fun x5=>(lV K a1 a2 K x5 0).bind fun x26=>u6 K x26
def uW (K:Nat) (x10:List Rat):Option (List Rat):=
 some x10
def lU (K:Nat) (a1:List aA) (a2:List aF):Nat→(List Rat)→Int→Option (List Rat)
 |0,_,_=>none
 |k+1,x8,x9=>bif(decide (x9<(a1.length:Int))) then((bK a1 x9).bind fun v16=>(bK a2 x9).bind fun v18=>(rL K x8 v16.j v18.n).bind fun v20=>(bK a1 x9).bind fun v22=>(bK a2 x9).bind fun v24=>(rL K v20 v22.t v24.f).bind fun v26=>(aP (x9+1)).bind fun v28=>lU K a1 a2 k v26 v28) else(some x8)
def xD (K:Nat) (a0:Int) (a1:List aA) (a2:List aF):Option (List Rat):=
 (vC a0 0).bind fun x1=>(lU K a1 a2 K x1 0).bind fun x10=>uW K x10
def pJ (K:Nat) (x19:List Rat):Option (List Rat):=
 some x19
def fQ (K:Nat) (a0:List aG) (a1:List Rat) (v1:List Rat):Nat→(List Rat)→Int→Option (List Rat)
 |0,_,_=>none
 |k+1,x12,x18=>bif(decide (x18<(a0.length:Int))) then((bK a0 x18).bind fun v30=>(bK a1 x18).bind fun v32=>(bK v1 x18).bind fun v34=>(aAW v32 v34).bind fun v36=>(w5 v30.inv v36).bind fun v38=>(qW x12 [v38]).bind fun x40=>(aP (x18+1)).bind fun v47=>fQ K a0 a1 v1 k x40 v47) else(some x12)
def kN (K:Nat) (a0:List aG) (a1:List Rat) (a2:List aA) (a3:List aF):Option (List Rat):=
 (xD K (a0.length:Int) a2 a3).bind fun v1=>(fQ K a0 a1 v1 K ([]:List Rat) 0).bind fun x19=>pJ K x19
def uX (K:Nat) (x7:Rat):Option Rat:=
 some x7
def gS (K:Nat) (a0:List aE) (a1:List Rat):Nat→Rat→Int→Option Rat
 |0,_,_=>none
 |k+1,x5,x6=>bif(decide (x6<(a0.length:Int))) then((bK a0 x6).bind fun v11=>bif(decide (0≤v11.dof)) then((bK a0 x6).bind fun v14=>bif(decide (v14.dof<(a1.length:Int))) then((bK a0 x6).bind fun v19=>(bK a0 x6).bind fun v21=>(bK a1 (max v21.dof 0)).bind fun v23=>(w5 v19.k v23).bind fun v25=>(aAW x5 v25).bind fun v27=>(aP (x6+1)).bind fun v29=>gS K a0 a1 k v27 v29) else((aP (x6+1)).bind fun v31=>gS K a0 a1 k x5 v31)) else((aP (x6+1)).bind fun v33=>gS K a0 a1 k x5 v33)) else(some x5)
def iH (K:Nat) (a0:List aE) (a1:List Rat):Option Rat:=
 (gS K a0 a1 K 0 0).bind fun x7=>uX K x7
def uV (K:Nat):Option Bool:=
 some true
def lS (K:Nat) (a0:List Rat):Nat→Int→Option (LR Bool Unit)
 |0,_=>none
 |k+1,x2=>bif(decide (x2<(a0.length:Int))) then((bK a0 x2).bind fun v6=>(aAG v6).bind fun v8=>bif(!v8) then(some (.ret false)) else((aP (x2+1)).bind fun v11=>lS K a0 k v11)) else(some (.go ()))
def qR (K:Nat) (a0:List Rat):Option Bool:=
 (lS K a0 K 0).bind fun o=>match o with| .ret r=>some r| .go _=>uV K
def uP (K:Nat):Option Bool:=
 some true
def iS (K:Nat) (a0:List aE) (a1:Int):Nat→Int→Option (LR Bool Unit)
 |0,_=>none
 |k+1,x2=>bif(decide (x2<(a0.length:Int))) then((bK a0 x2).bind fun v8=>(aAG v8.k).bind fun v10=>bif(!v10) then(some (.ret false)) else((bK a0 x2).bind fun v13=>bif(decide (v13.dof<0)) then(some (.ret false)) else((bK a0 x2).bind fun v16=>bif(decide (a1≤v16.dof)) then(some (.ret false)) else(bif(decide (0<x2)) then((bK a0 x2).bind fun v20=>(aP (x2-1)).bind fun v22=>(bK a0 (max v22 0)).bind fun v24=>bif(decide (v20.dof≤v24.dof)) then(some (.ret false)) else((aP (x2+1)).bind fun v27=>iS K a0 a1 k v27)) else((aP (x2+1)).bind fun v29=>iS K a0 a1 k v29))))) else(some (.go ()))
def pV (K:Nat) (a0:List aE) (a1:Int):Option Bool:=
 (iS K a0 a1 K 0).bind fun o=>match o with| .ret r=>some r| .go _=>uP K
def s0 (K:Nat):Option Bool:=
 some true
def jQ (K:Nat) (a0:List aG) (a3:List aA):Nat→Int→Option (LR Bool Unit)
 |0,_=>none
 |k+1,x15=>bif(decide (x15<(a3.length:Int))) then((bK a3 x15).bind fun v19=>(pV K v19.j (a0.length:Int)).bind fun v21=>bif(!v21) then(some (.ret false)) else((bK a3 x15).bind fun v24=>(pV K v24.t (a0.length:Int)).bind fun v26=>bif(!v26) then(some (.ret false)) else((bK a3 x15).bind fun v29=>(aAG v29.mu).bind fun v31=>bif(!v31) then(some (.ret false)) else((bK a3 x15).bind fun v34=>(uD v34.mu).bind fun v36=>bif(decide (v36<0)) then(some (.ret false)) else((aP (x15+1)).bind fun v39=>jQ K a0 a3 k v39))))) else(some (.go ()))
def s6 (K:Nat) (a0:List aG) (a3:List aA):Option Bool:=
 (jQ K a0 a3 K 0).bind fun o=>match o with| .ret r=>some r| .go _=>s0 K
def jP (K:Nat) (a0:List aG):Nat→Int→Option (LR Bool Unit)
 |0,_=>none
 |k+1,x11=>bif(decide (x11<(a0.length:Int))) then((bK a0 x11).bind fun v42=>(aAG v42.inv).bind fun v44=>bif(!v44) then(some (.ret false)) else((bK a0 x11).bind fun v47=>(uD v47.inv).bind fun v49=>bif(decide (v49≤0)) then(some (.ret false)) else((aP (x11+1)).bind fun v52=>jP K a0 k v52))) else(some (.go ()))
def vM (K:Nat) (a0:List aG) (a1:List Rat) (a2:List Rat) (a3:List aA):Option Bool:=
 bif(decide (12<(a0.length:Int))) then(some false) else(bif((a1.length:Int) != (a0.length:Int)) then(some false) else(bif((a2.length:Int) != (a0.length:Int)) then(some false) else((qR K a1).bind fun v4=>bif(!v4) then(some false) else((qR K a2).bind fun v7=>bif(!v7) then(some false) else((jP K a0 K 0).bind fun o=>match o with| .ret r=>some r| .go _=>s6 K a0 a3)))))
def vO (K:Nat):Option Bool:=
 some true
def mK (K:Nat) (a2:List Rat) (a3:List aA):Nat→Int→Option (LR Bool Unit)
 |0,_=>none
 |k+1,x5=>bif(decide (x5<(a3.length:Int))) then((bK a3 x5).bind fun v9=>(iH K v9.j a2).bind fun v11=>(uD v11).bind fun v13=>bif(v13 != 0) then(some (.ret false)) else((aP (x5+1)).bind fun v16=>mK K a2 a3 k v16)) else(some (.go ()))
def rM (K:Nat) (a0:List aG) (a1:List Rat) (a2:List Rat) (a3:List aA):Option Bool:=
 (vM K a0 a1 a2 a3).bind fun v1=>bif(!v1) then(some false) else((mK K a2 a3 K 0).bind fun o=>match o with| .ret r=>some r| .go _=>vO K)
def qM (K:Nat) (a0:aA) (a1:List Rat):Option Int:=
 (iH K a0.t a1).bind fun v2=>(uD v2).bind fun v4=>some v4
def tI (K:Nat) (c0:List Rat) (c1:List Rat) (a0:aA):Option Bool:=
 (eF K a0.t c0).bind fun v2=>(eF K a0.t c1).bind fun v7=>(aAW v2 v7).bind fun v9=>(w5 v2 v9).bind fun v11=>(uD v11).bind fun v13=>some (decide (v13<0))
theorem aBZ {K:Nat} {c0:List Rat} {c1:List Rat} {a0:aA} {r:Bool} (hF:tI K c0 c1 a0=some r):Ct Tryz.prog 91 [.va (aA.enc a0),.vc (pM ((wD cQ).e c0)),.vc (pM ((wD cQ).e c1))] (.vc (pB r)):=by
 unfold tI at hF
 refine aI Tryz.func91 rfl (by kernel_rfl) Tryz.ntmps91 rfl (fun w0 M0=>?_)
 refine aO (aY (cU rfl rfl trivial (fun b1=>?_)))
 obtain⟨v2,h3,hF⟩:=bC hF fV
 refine go ?_ ?_
 refine aM rfl tyZ44q (fun b4=>?_)
 obtain⟨v7,h8,hF⟩:=bC hF fV
 obtain⟨v9,h10,hF⟩:=bC hF tS
 obtain⟨v11,h12,hF⟩:=bC hF m5
 obtain⟨v13,h14,hF⟩:=bC hF gC
 refine go ?_ ?_
 refine dr [0,0,0,4,0,28,62,127,255,511,1023] 11 0 ?_ (fun bs6 G5=>?_)
 refine bU (aU ?_)
 exact cG
def xP (K:Nat) (a0:List Rat) (a1:List Rat) (a2:List aA):Option Bool:=
 (fA K a2 (tI K a0 a1)).bind fun v3=>some (!v3)
theorem aCP {K:Nat} {a0:List Rat} {a1:List Rat} {a2:List aA} {r:Bool} (hF:xP K a0 a1 a2=some r):Ct Tryz.prog 27 [.vc (pS cQ a0),.vc (pS cQ a1),.vc (pS aA.cod a2)] (.vc (pB r)):=by
 unfold xP at hF
 refine aI Tryz.func27 rfl (by kernel_rfl) Tryz.ntmps27 rfl (fun w0 M0=>?_)
 refine aO (aY (cU rfl rfl trivial (fun b1=>?_)))
 refine cU rfl rfl trivial (fun b2=>?_)
 refine aV (bS (.inr rfl)) ⟨k_B _,trivial⟩ ?_
 refine bU (aU (aO (aY (nI ?_))))
 refine aJe 1 [(3,0)] rfl zU1 rfl ?_
 refine aJe 0 [(4,0)] rfl zU1 rfl ?_
 refine aV (aNW (φ:=(tI K a0 a1)) (pre:=fun x:aA=>[.va (aA.enc x)]) (post:=fun r:Bool=>.vc (pB r)) (xs:=[.tmp 3,.tmp 4]) (cs:=[pM ((wD cQ).e a0),pM ((wD cQ).e a1)]) rfl rfl (fun x r h=>aBZ h)) zU2 ?_
 obtain⟨v3,h4,hF⟩:=bC hF rR
 exact cG
def lA (a0:Int) (a1:Int) (a2:Int) (a3:Int):Option aL:=
 (zJ 1 2).bind fun v2=>(zJ 1 1).bind fun v5=>(zJ 1 2).bind fun v10=>(zJ a0 a2).bind fun v14=>(zJ a1 1).bind fun v16=>(zJ a3 1).bind fun v18=>some (⟨[(⟨v2,0,false,0,0⟩:aG),(⟨v2,0,false,0,0⟩:aG)],[v14,v16],[v18,0],[(⟨0,0,0,0,0,[(⟨1,v5⟩:aE)],[(⟨0,v5⟩:aE)],v10,0⟩:aA)]⟩:aL)
theorem oX {a0:Int} {a1:Int} {a2:Int} {a3:Int} {r:aL} (hF:lA a0 a1 a2 a3=some r):Ct Tryz.prog 88 [.vc (pI .i64 a0),.vc (pI .i64 a1),.vc (pI .i64 a2),.vc (pI .i64 a3)] (.va (aL.enc r)):=by
 unfold lA at hF
 refine aI Tryz.func88 rfl (by kernel_rfl) Tryz.ntmps88 rfl (fun w0 M0=>?_)
 refine aO (aY (aM rfl tyZ27q (fun b1=>?_)))
 obtain⟨v2,h3,hF⟩:=bC hF cC
 refine go ?_ ?_
 refine aV (fF (is:=[0]) (xs:=[.tmp 12]) (ps:=[.va (eQ v2)]) rfl tyB108q rfl rfl ⟨trivial,trivial⟩ rfl) zU1 ?_
 refine aM rfl tyZ108q (fun b4=>?_)
 obtain⟨v5,h6,hF⟩:=bC hF cC
 refine go ?_ ?_
 refine aM rfl tyZ44q (fun b7=>?_)
 obtain⟨v10,h11,hF⟩:=bC hF cC
 refine go ?_ ?_
 refine jW [0,1,3,0,8,24,0,127,0,511] 9 1 [.v (.va (eQ v5)),.v (.va ([pI .i64 1]++(eQ v5))),.v (.vc (pS aE.cod [(⟨1,v5⟩:aE)])),.v (.va (eQ v5)),.v (.va ([pI .i64 0]++(eQ v5))),.v (.vc (pS aE.cod [(⟨0,v5⟩:aE)])),.v (.va (eQ v10)),.v (.va ([pI .i64 0]++[pI .i64 0]++[pI .i64 0]++[pI .i64 0]++(eQ 0)++[pS aE.cod [(⟨1,v5⟩:aE)]]++[pS aE.cod [(⟨0,v5⟩:aE)]]++(eQ v10)++(eQ 0))),.a 51 ([pI .i64 0]++[pI .i64 0]++[pI .i64 0]++[pI .i64 0]++(eQ 0)++[pS aE.cod ([]:List aE)]++[pS aE.cod ([]:List aE)]++(eQ 0)++(eQ 0))] bJ ⟨d0 (gH 0 4 rfl rfl rfl rfl (.agg tyA44)) zU1,d0 (fF (is:=[0,1]) (xs:=[.const (.int .i64 (1)),.tmp 15]) (ps:=[.vc (pI .i64 1),.va (eQ v5)]) rfl tyB92q rfl rfl ⟨trivial,trivial,trivial⟩ rfl) ⟨kC _ _,rfl,trivial⟩,d0 (sO (C:=aE.cod) (xs:=[.tmp 16]) (ps:=[.va ([pI .i64 1]++(eQ v5))]) (zs:=[(⟨1,v5⟩:aE)]) rfl tyS49 rfl ⟨⟨trivial,rfl⟩,trivial⟩ rfl) zU1,d0 (gH 0 4 rfl rfl rfl rfl (.agg tyA44)) zU1,d0 (fF (is:=[0,1]) (xs:=[.const (.int .i64 (0)),.tmp 18]) (ps:=[.vc (pI .i64 0),.va (eQ v5)]) rfl tyB92q rfl rfl ⟨trivial,trivial,trivial⟩ rfl) ⟨kC _ _,rfl,trivial⟩,d0 (sO (C:=aE.cod) (xs:=[.tmp 19]) (ps:=[.va ([pI .i64 0]++(eQ v5))]) (zs:=[(⟨0,v5⟩:aE)]) rfl tyS49 rfl ⟨⟨trivial,rfl⟩,trivial⟩ rfl) zU1,d0 (bP rfl h11 rfl) ⟨kC _ _,kC _ _,trivial⟩,d0 (fF (is:=[5,6,7]) (xs:=[.tmp 17,.tmp 20,.tmp 21]) (ps:=[.vc (pS aE.cod [(⟨1,v5⟩:aE)]),.vc (pS aE.cod [(⟨0,v5⟩:aE)]),.va (eQ v10)]) rfl tyB51q rfl rfl ⟨trivial,trivial,trivial,trivial⟩ rfl) ⟨rfl,rfl,rfl,trivial⟩,⟨rfl,.alc tyZ51q⟩,trivial⟩ (fun bs9 G8=>?_)
 obtain⟨v14,h15,hF⟩:=bC hF cC
 obtain⟨v16,h17,hF⟩:=bC hF cC
 obtain⟨v18,h19,hF⟩:=bC hF cC
 refine go ?_ ?_
 refine jW [0,0,3,0,0,24,0,120,248,0,760,0,3832,0,8192,32767,65535] 16 1 [.v (.va ((eQ v2)++(eQ 0)++[pB false]++(eQ 0)++(eQ 0))),.v (.va ((eQ v2)++(eQ 0)++[pB false]++(eQ 0)++(eQ 0))),.v (.vc (pS aG.cod [(⟨v2,0,false,0,0⟩:aG),(⟨v2,0,false,0,0⟩:aG)])),.v (.vc (pI .i64 a0)),.v (.vc (pI .i64 a2)),.v (.va (eQ v14)),.v (.vc (pI .i64 a1)),.v (.va (eQ v16)),.v (.vc (pS cQ [v14,v16])),.v (.vc (pI .i64 a3)),.v (.va (eQ v18)),.v (.va (eQ 0)),.v (.vc (pS cQ [v18,0])),.v (.va ([pI .i64 0]++[pI .i64 0]++[pI .i64 0]++[pI .i64 0]++(eQ 0)++[pS aE.cod [(⟨1,v5⟩:aE)]]++[pS aE.cod [(⟨0,v5⟩:aE)]]++(eQ v10)++(eQ 0))),.v (.vc (pS aA.cod [(⟨0,0,0,0,0,[(⟨1,v5⟩:aE)],[(⟨0,v5⟩:aE)],v10,0⟩:aA)])),.v (.va ([pS aG.cod [(⟨v2,0,false,0,0⟩:aG),(⟨v2,0,false,0,0⟩:aG)]]++[pS cQ [v14,v16]]++[pS cQ [v18,0]]++[pS aA.cod [(⟨0,0,0,0,0,[(⟨1,v5⟩:aE)],[(⟨0,v5⟩:aE)],v10,0⟩:aA)]]))] bJ ⟨d0 (gH 2 17 rfl rfl rfl rfl (.agg tyA108)) zU1,d0 (gH 2 17 rfl rfl rfl rfl (.agg tyA108)) zU1,d0 (sO (C:=aG.cod) (xs:=[.tmp 23,.tmp 24]) (ps:=[.va ((eQ v2)++(eQ 0)++[pB false]++(eQ 0)++(eQ 0)),.va ((eQ v2)++(eQ 0)++[pB false]++(eQ 0)++(eQ 0))]) (zs:=[(⟨v2,0,false,0,0⟩:aG),(⟨v2,0,false,0,0⟩:aG)]) rfl tyS23 rfl ⟨⟨trivial,rfl⟩,⟨trivial,rfl⟩,trivial⟩ rfl) zU2,d0 (bS (.inl rfl)) zU1,d0 (bS (.inl rfl)) zU1,d0 (bP rfl h15 rfl) zU2,d0 (bS (.inl rfl)) zU1,d0 (bP rfl h17 rfl) ⟨rfl,kC _ _,trivial⟩,d0 (sO (C:=cQ) (xs:=[.tmp 28,.tmp 30]) (ps:=[.va (eQ v14),.va (eQ v16)]) (zs:=[v14,v16]) rfl tyS24 rfl ⟨⟨trivial,rfl⟩,⟨trivial,rfl⟩,trivial⟩ rfl) zU2,d0 (bS (.inl rfl)) zU1,d0 (bP rfl h19 rfl) ⟨rfl,kC _ _,trivial⟩,d0 (fF (is:=[]) (xs:=[]) (ps:=[]) rfl tyB44q rfl rfl trivial rfl) trivial,d0 (sO (C:=cQ) (xs:=[.tmp 33,.tmp 34]) (ps:=[.va (eQ v18),.va (eQ 0)]) (zs:=[v18,0]) rfl tyS24 rfl ⟨⟨trivial,rfl⟩,⟨trivial,rfl⟩,trivial⟩ rfl) zU2,d0 (gH 0 18 rfl rfl rfl rfl (.agg tyA51)) zU1,d0 (sO (C:=aA.cod) (xs:=[.tmp 36]) (ps:=[.va ([pI .i64 0]++[pI .i64 0]++[pI .i64 0]++[pI .i64 0]++(eQ 0)++[pS aE.cod [(⟨1,v5⟩:aE)]]++[pS aE.cod [(⟨0,v5⟩:aE)]]++(eQ v10)++(eQ 0))]) (zs:=[(⟨0,0,0,0,0,[(⟨1,v5⟩:aE)],[(⟨0,v5⟩:aE)],v10,0⟩:aA)]) rfl tyS25 rfl ⟨⟨trivial,rfl⟩,trivial⟩ rfl) zU1,d0 (fF (is:=[0,1,2,3]) (xs:=[.tmp 25,.tmp 31,.tmp 35,.tmp 37]) (ps:=[.vc (pS aG.cod [(⟨v2,0,false,0,0⟩:aG),(⟨v2,0,false,0,0⟩:aG)]),.vc (pS cQ [v14,v16]),.vc (pS cQ [v18,0]),.vc (pS aA.cod [(⟨0,0,0,0,0,[(⟨1,v5⟩:aE)],[(⟨0,v5⟩:aE)],v10,0⟩:aA)])]) rfl tyB27q rfl rfl ⟨trivial,trivial,trivial,trivial,trivial⟩ rfl) ⟨rfl,rfl,rfl,rfl,trivial⟩,trivial⟩ (fun bs13 G12=>?_)
 exact cG
def lD (K:Nat) (a0:aL) (a1:Rat) (a2:Rat) (a3:Rat) (a4:Rat):Option Bool:=
 (nN K a0.dofs a0.load a0.v a0.rows).bind fun v6=>bif(v6.2.2 != 0) then(some false) else(bif((v6.1.length:Int) != 2) then(some false) else(bif((v6.2.1.length:Int) != 1) then(some false) else((bK v6.1 0).bind fun v13=>(aAl v13 a1).bind fun v15=>bif v15 then((bK v6.1 1).bind fun v18=>(aAl v18 a2).bind fun v20=>bif v20 then((bK v6.2.1 0).bind fun v23=>(aAl v23.n a3).bind fun v25=>bif v25 then((bK v6.2.1 0).bind fun v28=>(aAl v28.f a4).bind fun v30=>some v30) else(some false)) else(some false)) else(some false))))
theorem o7 {K:Nat} {a0:aL} {a1:Rat} {a2:Rat} {a3:Rat} {a4:Rat} {r:Bool} (hF:lD K a0 a1 a2 a3 a4=some r):Ct Tryz.prog 89 [.va (aL.enc a0),.va (eQ a1),.va (eQ a2),.va (eQ a3),.va (eQ a4)] (.vc (pB r)):=by
 unfold lD at hF
 refine aI Tryz.func89 rfl (by kernel_rfl) Tryz.ntmps89 rfl (fun w0 M0=>?_)
 refine aO (aY (cU rfl rfl trivial (fun b1=>?_)))
 refine cU rfl rfl trivial (fun b2=>?_)
 refine cU rfl rfl trivial (fun b3=>?_)
 refine cU rfl rfl trivial (fun b4=>?_)
 refine cU rfl rfl trivial (fun b5=>?_)
 obtain⟨v6,h7,hF⟩:=bC hF wS
 refine go ?_ ?_
 refine d7 hF (fun h8 hF=>?_) (fun h8 hF=>?_)
 ·refine go ?_ ?_
  refine lX rfl ?_
  exact cG
 refine go ?_ ?_
 refine d7 hF (fun h9 hF=>?_) (fun h9 hF=>?_)
 ·refine go ?_ ?_
  refine lX rfl ?_
  exact cG
 refine go ?_ ?_
 refine aJ hF rfl (fun h10 hF=>?_) (fun h10 hF=>?_)
 ·exact cG
 obtain⟨v13,h14,hF⟩:=bB hF
 obtain⟨v15,h16,hF⟩:=bC hF oR
 refine go ?_ ?_
 rcases Bool.eq_false_or_eq_true v15 with h17|h17
 ·have hF:=u7 h17 hF
  obtain⟨v18,h19,hF⟩:=bB hF
  obtain⟨v20,h21,hF⟩:=bC hF oR
  rcases Bool.eq_false_or_eq_true v20 with h22|h22
  ·have hF:=u7 h22 hF
   obtain⟨v23,h24,hF⟩:=bB hF
   obtain⟨v25,h26,hF⟩:=bC hF oR
   rcases Bool.eq_false_or_eq_true v25 with h27|h27
   ·have hF:=u7 h27 hF
    have hF:=rQ h24 hF
    obtain⟨v30,h31,hF⟩:=bC hF oR
    refine drb (0::1::3::0::15::31::63::127::255::63::1023::2047::4095::8191::16383::32767::65535::8191::262143::524287::1048575::2097151::4194303::8388607::16777215::2097151::67108863::134217727::268435455::[]) 29 0 ?_ (fun bs12 G11=>?_)
    refine bU (aU ?_)
    exact cG
   have hF:=u9 h27 hF
   refine drb (0::1::3::0::15::31::63::127::255::63::1023::2047::4095::8191::16383::32767::65535::8191::262143::524287::1048575::2097151::4194303::8388607::16777215::2097151::67108863::134217727::268435455::[]) 29 0 ?_ (fun bs12 G11=>?_)
   refine bU (aU ?_)
   exact cG
  have hF:=u9 h22 hF
  refine drb (0::1::3::0::15::31::63::127::255::63::1023::2047::4095::8191::16383::32767::65535::8191::262143::524287::1048575::2097151::4194303::8388607::16777215::2097151::67108863::134217727::268435455::[]) 29 0 ?_ (fun bs12 G11=>?_)
  refine bU (aU ?_)
  exact cG
 have hF:=u9 h17 hF
 refine drb (0::1::3::0::15::31::63::127::255::63::1023::2047::4095::8191::16383::32767::65535::8191::262143::524287::1048575::2097151::4194303::8388607::16777215::2097151::67108863::134217727::268435455::[]) 29 0 ?_ (fun bs12 G11=>?_)
 refine bU (aU ?_)
 exact cG
def lE (K:Nat):Option Bool:=
 (zJ 1 1).bind fun v2=>(zJ (-1) 2).bind fun v5=>(lA 0 (-1) 1 1).bind fun v8=>(nN K v8.dofs v8.load v8.v v8.rows).bind fun v11=>(lA 1 (-1) 4 0).bind fun v15=>(zJ (-1) 4).bind fun v17=>(lD K v15 0 0 v2 v17).bind fun v19=>bif v19 then((lA 1 (-1) 1 0).bind fun v22=>(zJ 1 4).bind fun v24=>(lD K v22 v24 0 v2 v5).bind fun v26=>bif v26 then((lA 0 1 1 0).bind fun v29=>(zJ 1 2).bind fun v31=>(lD K v29 0 v31 0 0).bind fun v33=>bif v33 then((zJ (-1) 4).bind fun v36=>(lD K v8 v36 0 v2 v5).bind fun v38=>bif v38 then(bif(v11.2.2==0) then((xP K v8.v v11.1 v8.rows).bind fun v42=>bif v42 then((xO K v8.dofs v8.load v8.v v8.rows v11.1 v11.2.1).bind fun v45=>some (v45==0)) else(some false)) else(some false)) else(some false)) else(some false)) else(some false)) else(some false)
theorem rS {K:Nat} {r:Bool} (hF:lE K=some r):Ct Tryz.prog 23 [] (.vc (pB r)):=by
 unfold lE at hF
 refine aI Tryz.func23 rfl (by kernel_rfl) Tryz.ntmps23 rfl (fun w0 M0=>?_)
 refine go ?_ ?_
 refine aM rfl tyZ44q (fun b1=>?_)
 obtain⟨v2,h3,hF⟩:=bC hF cC
 refine go ?_ ?_
 refine aM rfl tyZ44q (fun b4=>?_)
 obtain⟨v5,h6,hF⟩:=bC hF cC
 refine go ?_ ?_
 refine aM rfl tyZ44q (fun b7=>?_)
 obtain⟨v8,h9,hF⟩:=bC hF oX
 refine go ?_ ?_
 refine aM rfl tyZ27q (fun b10=>?_)
 obtain⟨v11,h12,hF⟩:=bC hF wS
 obtain⟨v15,h16,hF⟩:=bC hF oX
 obtain⟨v17,h18,hF⟩:=bC hF cC
 obtain⟨v19,h20,hF⟩:=bC hF o7
 refine go ?_ ?_
 rcases Bool.eq_false_or_eq_true v19 with h21|h21
 ·have hF:=u7 h21 hF
  obtain⟨v22,h23,hF⟩:=bC hF oX
  obtain⟨v24,h25,hF⟩:=bC hF cC
  obtain⟨v26,h27,hF⟩:=bC hF o7
  rcases Bool.eq_false_or_eq_true v26 with h28|h28
  ·have hF:=u7 h28 hF
   obtain⟨v29,h30,hF⟩:=bC hF oX
   obtain⟨v31,h32,hF⟩:=bC hF cC
   obtain⟨v33,h34,hF⟩:=bC hF o7
   rcases Bool.eq_false_or_eq_true v33 with h35|h35
   ·have hF:=u7 h35 hF
    obtain⟨v36,h37,hF⟩:=bC hF cC
    obtain⟨v38,h39,hF⟩:=bC hF o7
    refine jW (0::0::0::0::1::31::63::127::255::127::127::127::4095::8191::16383::32767::32767::65535::32767::32767::1048575::2097151::4194303::8388607::8388607::8388607::8388607::8388607::268435455::536870911::1073741823::[]) 31 0 (.v (.va (aL.enc v15))::.v (.va (eQ 0))::.v (.va (eQ 0))::.v (.va (eQ v2))::.v (.va (eQ v17))::.v (.vc (pB v19))::.v (.vc (pB true))::.v (.va (aL.enc v22))::.v (.va (eQ v24))::.v (.va (eQ 0))::.v (.va (eQ v2))::.v (.va (eQ v5))::.v (.vc (pB v26))::.v (.vc (pB v26))::.v (.vc (pB true))::.v (.va (aL.enc v29))::.v (.va (eQ 0))::.v (.va (eQ v31))::.v (.va (eQ 0))::.v (.va (eQ 0))::.v (.vc (pB v33))::.v (.vc (pB v33))::.v (.vc (pB true))::.v (.va (aL.enc v8))::.v (.va (eQ v36))::.v (.va (eQ 0))::.v (.va (eQ v2))::.v (.va (eQ v5))::.v (.vc (pB v38))::.v (.vc (pB v38))::.v (.vc (pB v38))::[]) bJ ⟨d0 (bP rfl h16 rfl) ⟨kC _ _,kC _ _,kC _ _,kC _ _,trivial⟩,d0 (gH 3 4 rfl rfl rfl rfl (.agg tyA44)) zU1,d0 (gH 3 4 rfl rfl rfl rfl (.agg tyA44)) zU1,d0 (gH 2 4 rfl rfl rfl rfl (.agg tyA44)) zU1,d0 (bP rfl h18 rfl) ⟨kC _ _,kC _ _,trivial⟩,d0 (bP rfl h20 rfl) ⟨rfl,rfl,rfl,rfl,rfl,trivial⟩,d0 (kL (bS (.inl rfl)) h21) zU1,g0 (bP rfl h23 rfl) ⟨kC _ _,kC _ _,kC _ _,kC _ _,trivial⟩,g0 (bP rfl h25 rfl) ⟨kC _ _,kC _ _,trivial⟩,g0 (gH 3 4 rfl rfl rfl rfl (.agg tyA44)) zU1,g0 (gH 2 4 rfl rfl rfl rfl (.agg tyA44)) zU1,g0 (gH 1 4 rfl rfl rfl rfl (.agg tyA44)) zU1,g0 (bP rfl h27 rfl) ⟨rfl,rfl,rfl,rfl,rfl,trivial⟩,d0 (vJ rfl) zU2,d0 (kL (bS (.inl rfl)) h28) zU1,g0 (bP rfl h30 rfl) ⟨kC _ _,kC _ _,kC _ _,kC _ _,trivial⟩,g0 (gH 3 4 rfl rfl rfl rfl (.agg tyA44)) zU1,g0 (bP rfl h32 rfl) ⟨kC _ _,kC _ _,trivial⟩,g0 (gH 3 4 rfl rfl rfl rfl (.agg tyA44)) zU1,g0 (gH 3 4 rfl rfl rfl rfl (.agg tyA44)) zU1,g0 (bP rfl h34 rfl) ⟨rfl,rfl,rfl,rfl,rfl,trivial⟩,d0 (vJ rfl) zU2,d0 (kL (bS (.inl rfl)) h35) zU1,g0 (gH 0 4 rfl rfl rfl rfl (.agg tyA27)) zU1,g0 (bP rfl h37 rfl) ⟨kC _ _,kC _ _,trivial⟩,g0 (gH 3 4 rfl rfl rfl rfl (.agg tyA44)) zU1,g0 (gH 2 4 rfl rfl rfl rfl (.agg tyA44)) zU1,g0 (gH 1 4 rfl rfl rfl rfl (.agg tyA44)) zU1,g0 (bP rfl h39 rfl) ⟨rfl,rfl,rfl,rfl,rfl,trivial⟩,d0 (vJ rfl) zU2,d0 (bS (.inr rfl)) zU1,trivial⟩ (fun bs14 G13=>?_)
    refine go ?_ ?_
    refine d7 hF (fun h40 hF=>?_) (fun h40 hF=>?_)
    ·refine go ?_ ?_
     refine d7 hF (fun h41 hF=>?_) (fun h41 hF=>?_)
     ·obtain⟨v42,h43,hF⟩:=bC hF aCP
      refine go ?_ ?_
      refine d7 hF (fun h44 hF=>?_) (fun h44 hF=>?_)
      ·obtain⟨v45,h46,hF⟩:=bC hF aC3
       exact cG
      exact cG
     exact cG
    exact cG
   have hF:=u9 h35 hF
   refine jW (0::0::0::0::1::31::63::127::255::127::127::127::4095::8191::16383::32767::32767::65535::32767::32767::1048575::2097151::4194303::8388607::8388607::8388607::8388607::8388607::268435455::536870911::1073741823::[]) 31 0 (.v (.va (aL.enc v15))::.v (.va (eQ 0))::.v (.va (eQ 0))::.v (.va (eQ v2))::.v (.va (eQ v17))::.v (.vc (pB v19))::.v (.vc (pB true))::.v (.va (aL.enc v22))::.v (.va (eQ v24))::.v (.va (eQ 0))::.v (.va (eQ v2))::.v (.va (eQ v5))::.v (.vc (pB v26))::.v (.vc (pB v26))::.v (.vc (pB true))::.v (.va (aL.enc v29))::.v (.va (eQ 0))::.v (.va (eQ v31))::.v (.va (eQ 0))::.v (.va (eQ 0))::.v (.vc (pB v33))::.v (.vc (pB v33))::.v (.vc (pB false))::.v .un::.v .un::.v .un::.v .un::.v .un::.v .un::.v (.vc (pB false))::.v (.vc (pB false))::[]) bJ ⟨d0 (bP rfl h16 rfl) ⟨kC _ _,kC _ _,kC _ _,kC _ _,trivial⟩,d0 (gH 3 4 rfl rfl rfl rfl (.agg tyA44)) zU1,d0 (gH 3 4 rfl rfl rfl rfl (.agg tyA44)) zU1,d0 (gH 2 4 rfl rfl rfl rfl (.agg tyA44)) zU1,d0 (bP rfl h18 rfl) ⟨kC _ _,kC _ _,trivial⟩,d0 (bP rfl h20 rfl) ⟨rfl,rfl,rfl,rfl,rfl,trivial⟩,d0 (kL (bS (.inl rfl)) h21) zU1,g0 (bP rfl h23 rfl) ⟨kC _ _,kC _ _,kC _ _,kC _ _,trivial⟩,g0 (bP rfl h25 rfl) ⟨kC _ _,kC _ _,trivial⟩,g0 (gH 3 4 rfl rfl rfl rfl (.agg tyA44)) zU1,g0 (gH 2 4 rfl rfl rfl rfl (.agg tyA44)) zU1,g0 (gH 1 4 rfl rfl rfl rfl (.agg tyA44)) zU1,g0 (bP rfl h27 rfl) ⟨rfl,rfl,rfl,rfl,rfl,trivial⟩,d0 (vJ rfl) zU2,d0 (kL (bS (.inl rfl)) h28) zU1,g0 (bP rfl h30 rfl) ⟨kC _ _,kC _ _,kC _ _,kC _ _,trivial⟩,g0 (gH 3 4 rfl rfl rfl rfl (.agg tyA44)) zU1,g0 (bP rfl h32 rfl) ⟨kC _ _,kC _ _,trivial⟩,g0 (gH 3 4 rfl rfl rfl rfl (.agg tyA44)) zU1,g0 (gH 3 4 rfl rfl rfl rfl (.agg tyA44)) zU1,g0 (bP rfl h34 rfl) ⟨rfl,rfl,rfl,rfl,rfl,trivial⟩,d0 (vJ rfl) zU2,d0 (kL (bS (.inl rfl)) h35) zU1,⟨rfl,.skipN⟩,⟨rfl,.skipN⟩,⟨rfl,.skipN⟩,⟨rfl,.skipN⟩,⟨rfl,.skipN⟩,⟨rfl,.skipN⟩,d0 (wA rfl) ⟨rfl,k_B _,trivial⟩,d0 (bS (.inr rfl)) zU1,trivial⟩ (fun bs14 G13=>?_)
   exact cG
  have hF:=u9 h28 hF
  refine jW (0::0::0::0::1::31::63::127::255::127::127::127::4095::8191::16383::32767::32767::65535::32767::32767::1048575::2097151::4194303::8388607::8388607::8388607::8388607::8388607::268435455::536870911::1073741823::[]) 31 0 (.v (.va (aL.enc v15))::.v (.va (eQ 0))::.v (.va (eQ 0))::.v (.va (eQ v2))::.v (.va (eQ v17))::.v (.vc (pB v19))::.v (.vc (pB true))::.v (.va (aL.enc v22))::.v (.va (eQ v24))::.v (.va (eQ 0))::.v (.va (eQ v2))::.v (.va (eQ v5))::.v (.vc (pB v26))::.v (.vc (pB v26))::.v (.vc (pB false))::.v .un::.v .un::.v .un::.v .un::.v .un::.v .un::.v (.vc (pB false))::.v (.vc (pB false))::.v .un::.v .un::.v .un::.v .un::.v .un::.v .un::.v (.vc (pB false))::.v (.vc (pB false))::[]) bJ ⟨d0 (bP rfl h16 rfl) ⟨kC _ _,kC _ _,kC _ _,kC _ _,trivial⟩,d0 (gH 3 4 rfl rfl rfl rfl (.agg tyA44)) zU1,d0 (gH 3 4 rfl rfl rfl rfl (.agg tyA44)) zU1,d0 (gH 2 4 rfl rfl rfl rfl (.agg tyA44)) zU1,d0 (bP rfl h18 rfl) ⟨kC _ _,kC _ _,trivial⟩,d0 (bP rfl h20 rfl) ⟨rfl,rfl,rfl,rfl,rfl,trivial⟩,d0 (kL (bS (.inl rfl)) h21) zU1,g0 (bP rfl h23 rfl) ⟨kC _ _,kC _ _,kC _ _,kC _ _,trivial⟩,g0 (bP rfl h25 rfl) ⟨kC _ _,kC _ _,trivial⟩,g0 (gH 3 4 rfl rfl rfl rfl (.agg tyA44)) zU1,g0 (gH 2 4 rfl rfl rfl rfl (.agg tyA44)) zU1,g0 (gH 1 4 rfl rfl rfl rfl (.agg tyA44)) zU1,g0 (bP rfl h27 rfl) ⟨rfl,rfl,rfl,rfl,rfl,trivial⟩,d0 (vJ rfl) zU2,d0 (kL (bS (.inl rfl)) h28) zU1,⟨rfl,.skipN⟩,⟨rfl,.skipN⟩,⟨rfl,.skipN⟩,⟨rfl,.skipN⟩,⟨rfl,.skipN⟩,⟨rfl,.skipN⟩,d0 (wA rfl) ⟨rfl,k_B _,trivial⟩,d0 (bS (.inl rfl)) zU1,⟨rfl,.skipN⟩,⟨rfl,.skipN⟩,⟨rfl,.skipN⟩,⟨rfl,.skipN⟩,⟨rfl,.skipN⟩,⟨rfl,.skipN⟩,d0 (wA rfl) ⟨rfl,k_B _,trivial⟩,d0 (bS (.inr rfl)) zU1,trivial⟩ (fun bs14 G13=>?_)
  exact cG
 have hF:=u9 h21 hF
 refine jW (0::0::0::0::1::31::63::127::255::127::127::127::4095::8191::16383::32767::32767::65535::32767::32767::1048575::2097151::4194303::8388607::8388607::8388607::8388607::8388607::268435455::536870911::1073741823::[]) 31 0 (.v (.va (aL.enc v15))::.v (.va (eQ 0))::.v (.va (eQ 0))::.v (.va (eQ v2))::.v (.va (eQ v17))::.v (.vc (pB v19))::.v (.vc (pB false))::.v .un::.v .un::.v .un::.v .un::.v .un::.v .un::.v (.vc (pB false))::.v (.vc (pB false))::.v .un::.v .un::.v .un::.v .un::.v .un::.v .un::.v (.vc (pB false))::.v (.vc (pB false))::.v .un::.v .un::.v .un::.v .un::.v .un::.v .un::.v (.vc (pB false))::.v (.vc (pB false))::[]) bJ ⟨d0 (bP rfl h16 rfl) ⟨kC _ _,kC _ _,kC _ _,kC _ _,trivial⟩,d0 (gH 3 4 rfl rfl rfl rfl (.agg tyA44)) zU1,d0 (gH 3 4 rfl rfl rfl rfl (.agg tyA44)) zU1,d0 (gH 2 4 rfl rfl rfl rfl (.agg tyA44)) zU1,d0 (bP rfl h18 rfl) ⟨kC _ _,kC _ _,trivial⟩,d0 (bP rfl h20 rfl) ⟨rfl,rfl,rfl,rfl,rfl,trivial⟩,d0 (kL (bS (.inl rfl)) h21) zU1,⟨rfl,.skipN⟩,⟨rfl,.skipN⟩,⟨rfl,.skipN⟩,⟨rfl,.skipN⟩,⟨rfl,.skipN⟩,⟨rfl,.skipN⟩,d0 (wA rfl) ⟨rfl,k_B _,trivial⟩,d0 (bS (.inl rfl)) zU1,⟨rfl,.skipN⟩,⟨rfl,.skipN⟩,⟨rfl,.skipN⟩,⟨rfl,.skipN⟩,⟨rfl,.skipN⟩,⟨rfl,.skipN⟩,d0 (wA rfl) ⟨rfl,k_B _,trivial⟩,d0 (bS (.inl rfl)) zU1,⟨rfl,.skipN⟩,⟨rfl,.skipN⟩,⟨rfl,.skipN⟩,⟨rfl,.skipN⟩,⟨rfl,.skipN⟩,⟨rfl,.skipN⟩,d0 (wA rfl) ⟨rfl,k_B _,trivial⟩,d0 (bS (.inr rfl)) zU1,trivial⟩ (fun bs14 G13=>?_)
 exact cG
end Go.Proofs.YtcjdedkdoagifaaGreat
set_option linter.unusedVariables false
set_option maxRecDepth 100000
namespace Go.Proofs.YtcjdedkdoagifaaGreat
def jU (K:Nat):Option Bool:=
 (lE K).bind fun v18=>some v18
def dC (K:Nat) (v1:aL) (v4:(List Rat)×(List aF)×Int):Nat→Int→Option (LR Bool Unit)
 |0,_=>none
 |k+1,x15=>bif(decide (x15<(v4.2.1.length:Int))) then((bK v1.rows x15).bind fun v21=>(bK v4.2.1 x15).bind fun v26=>(eF K v21.t v1.v).bind fun v28=>(w5 v26.f v28).bind fun v30=>(bK v4.2.1 x15).bind fun v34=>(eF K v21.j v4.1).bind fun v36=>(w5 v34.n v36).bind fun v38=>(bK v4.2.1 x15).bind fun v40=>(eF K v21.t v4.1).bind fun v42=>(w5 v40.f v42).bind fun v44=>(aAW v38 v44).bind fun v46=>(uD v30).bind fun v48=>bif(decide (0<v48)) then(some (.ret false)) else((eF K v21.t v1.v).bind fun v51=>(uD v51).bind fun v53=>bif(v53==0) then((uD v46).bind fun v56=>bif(decide (0<v56)) then(some (.ret false)) else((aP (x15+1)).bind fun v59=>dC K v1 v4 k v59)) else((aP (x15+1)).bind fun v61=>dC K v1 v4 k v61))) else(some (.go ()))
def jO (K:Nat) (a0:List Int) (a1:Bool):Option Bool:=
 (jX K a0 a1).bind fun v1=>(nN K v1.dofs v1.load v1.v v1.rows).bind fun v4=>bif(v4.2.2 != 0) then(bif(v4.2.2==15) then((lE K).bind fun v8=>some v8) else(bif(v4.2.2==16) then((lE K).bind fun v11=>some v11) else(some false))) else(bif((v4.2.1.length:Int) != (v1.rows.length:Int)) then(some false) else((dC K v1 v4 K 0).bind fun o=>match o with| .ret r=>some r| .go _=>jU K))
theorem wZ {K:Nat} {a0:List Int} {a1:Bool} {r:Bool} (hF:jO K a0 a1=some r):Ct Tryz.prog 7 [.vc (pS cI a0),.vc (pB a1)] (.vc (pB r)):=by
 unfold jO at hF
 refine aI Tryz.func7 rfl (by kernel_rfl) Tryz.ntmps7 rfl (fun w0 M0=>?_)
 obtain⟨v1,h2,hF⟩:=bC hF aAI
 refine go ?_ ?_
 refine aM rfl tyZ27q (fun b3=>?_)
 obtain⟨v4,h5,hF⟩:=bC hF wS
 refine go ?_ ?_
 refine aJ hF rfl (fun h6 hF=>?_) (fun h6 hF=>?_)
 ·refine go ?_ ?_
  refine d7 hF (fun h7 hF=>?_) (fun h7 hF=>?_)
  ·obtain⟨v8,h9,hF⟩:=bC hF rS
   exact cG
  refine go ?_ ?_
  refine d7 hF (fun h10 hF=>?_) (fun h10 hF=>?_)
  ·obtain⟨v11,h12,hF⟩:=bC hF rS
   exact cG
  exact cG
 refine go ?_ ?_
 refine aJ hF rfl (fun h13 hF=>?_) (fun h13 hF=>?_)
 ·exact cG
 refine go ?_ ?_
 refine aT (cJ (fun H E=>jU K=some r∧H=[]∧E=[]) ?_ (fun Jj17=>?_))
 ·rintro _ _ ⟨hF,rfl,rfl⟩
  unfold jU at hF
  obtain⟨v18,h19,hF⟩:=bC hF rS
  exact cG
 obtain⟨ol16,hL,hRl16⟩:=bB hF
 refine jE (fun k a w=>∃(x15:Int),dC K v1 v4 k x15=some ol16∧hs _ [⟨some b3,1,27,4,1,(aL.enc v1)⟩] [(5,.vc (pP (some b3) 0)),(6,.vc (pS cQ v4.1)),(7,.vc (pS aF.cod v4.2.1)),(9,.vc (pI .i64 x15))] a w) K (fun a w ⟨_,hF,_⟩=>by cases hF) (fun k a w ⟨x15,hF,hh⟩=>jI ?_ hh) (fun a w hh=>⟨0,hL,iN [0] hh⟩)
 rw [dC.eq_2] at hF
 refine go ?_ ?_
 refine aJ hF rfl (fun h20 hF=>?_) (fun h20 hF=>?_)
 ·refine go ?_ ?_
  refine aT ?_
  obtain⟨v21,h22,hF⟩:=bB hF
  refine go ?_ ?_
  refine aM rfl tyZ51q (fun b23=>?_)
  obtain⟨v26,h27,hF⟩:=bB hF
  obtain⟨v28,h29,hF⟩:=bC hF fV
  obtain⟨v30,h31,hF⟩:=bC hF m5
  refine go ?_ ?_
  refine dr [0,0,3,7,15,0,32,0,128,480,1023,0,4095] 12 1 ?_ (fun bs25 G24=>?_)
  have hF:=rQ h27 hF
  obtain⟨v36,h37,hF⟩:=bC hF fV
  obtain⟨v38,h39,hF⟩:=bC hF m5
  have hF:=rQ h27 hF
  obtain⟨v42,h43,hF⟩:=bC hF fV
  obtain⟨v44,h45,hF⟩:=bC hF m5
  obtain⟨v46,h47,hF⟩:=bC hF tS
  refine go ?_ ?_
  refine dr [0,0,3,7,15,0,32,0,224,511,0,0,3072,7168,15360,0,32768,0,230399,524287,1048575,0,4194303] 22 1 ?_ (fun bs33 G32=>?_)
  obtain⟨v48,h49,hF⟩:=bC hF gC
  refine go ?_ ?_
  refine d7 hF (fun h50 hF=>?_) (fun h50 hF=>?_)
  ·refine go ?_ ?_
   refine lX rfl ?_
   exact cG
  obtain⟨v51,h52,hF⟩:=bC hF fV
  obtain⟨v53,h54,hF⟩:=bC hF gC
  refine go ?_ ?_
  refine d7 hF (fun h55 hF=>?_) (fun h55 hF=>?_)
  ·obtain⟨v56,h57,hF⟩:=bC hF gC
   refine go ?_ ?_
   refine aJ hF rfl (fun h58 hF=>?_) (fun h58 hF=>?_)
   ·exact cG
   obtain⟨v59,h60,hF⟩:=bB hF
   refine go ?_ ?_
   exact aK (fun a w hh=>⟨v59,hF,iN [3] hh⟩)
  refine go ?_ ?_
  refine tA rfl ?_
  obtain⟨v61,h62,hF⟩:=bB hF
  refine go ?_ ?_
  exact aK (fun a w hh=>⟨v61,hF,iN [3] hh⟩)
 refine dJ ?_
 obtain rfl:=p9 hF
 exact qB Jj17 ⟨hRl16,rfl,rfl⟩ []
def r6 (K:Nat) (x17:List aQ):Option (List aQ):=
 some x17
def eM (K:Nat) (a0:List Rat) (a1:List aA):Nat→(List aQ)→Int→Option (List aQ)
 |0,_,_=>none
 |k+1,x10,x16=>bif(decide (x16<(a1.length:Int))) then((qW x10 [(⟨x16,0⟩:aQ)]).bind fun x26=>(bK a1 x16).bind fun v33=>bif(decide (0<(v33.t.length:Int))) then((bK a1 x16).bind fun v36=>(qM K v36 a0).bind fun v38=>bif(v38==0) then((qW x26 [(⟨x16,1⟩:aQ),(⟨x16,2⟩:aQ),(⟨x16,3⟩:aQ)]).bind fun x41=>(aP (x16+1)).bind fun v48=>eM K a0 a1 k x41 v48) else((aP (x16+1)).bind fun v50=>eM K a0 a1 k x26 v50)) else((aP (x16+1)).bind fun v52=>eM K a0 a1 k x26 v52)) else(some x10)
def iR (K:Nat) (a0:List Rat) (a1:List aA):Option (List aQ):=
 (eM K a0 a1 K ([]:List aQ) 0).bind fun x17=>r6 K x17
def sQ (K:Nat) (a0:aA) (a1:List Rat) (a2:List Rat):Option aF:=
 (qM K a0 a1).bind fun v3=>bif((a0.t.length:Int)==0) then((bK a2 0).bind fun v6=>some (⟨v6,0⟩:aF)) else(bif(v3 != 0) then((bK a2 0).bind fun v11=>(aP (-v3)).bind fun v13=>(zJ v13 1).bind fun v15=>(bK a2 0).bind fun v17=>(w5 a0.mu v17).bind fun v19=>(w5 v15 v19).bind fun v21=>some (⟨v11,v21⟩:aF)) else((bK a2 0).bind fun v25=>(bK a2 1).bind fun v27=>(bK a2 2).bind fun v29=>(aDZ v27 v29).bind fun v31=>some (⟨v25,v31⟩:aF)))
def tC (K:Nat) (x19:List aF):Option (List aF):=
 some x19
def sY (K:Nat) (a0:List Rat) (a1:List aA) (x12:List aF) (x18:Int) (recl25:(List aF)→Int→Option (List aF)) (x47:List Rat):Option (List aF):=
 (bK a1 x18).bind fun v55=>(sQ K v55 a0 x47).bind fun v57=>(qW x12 [v57]).bind fun x59=>(aP (x18+1)).bind fun v66=>recl25 x59 v66
def gO (K:Nat) (a2:List Rat) (v3:List aQ) (x18:Int):Nat→(List Rat)→Int→Option (List Rat)
 |0,_,_=>none
 |k+1,x40,x46=>bif(decide (x46<(v3.length:Int))) then((bK v3 x46).bind fun v69=>bif(v69.row==x18) then((bK v3 x46).bind fun v74=>(bK a2 x46).bind fun v76=>(bK x40 v74.kind).bind fun v78=>(nL x40 v74.kind v76).bind fun x80=>(aP (x46+1)).bind fun v83=>gO K a2 v3 x18 k x80 v83) else((aP (x46+1)).bind fun v85=>gO K a2 v3 x18 k x40 v85)) else(some x40)
def jR (K:Nat) (a0:List Rat) (a1:List aA) (a2:List Rat) (v3:List aQ):Nat→(List aF)→Int→Option (List aF)
 |0,_,_=>none
 |k+1,x12,x18=>bif(decide (x18<(a1.length:Int))) then((vC 4 0).bind fun x28=>(gO K a2 v3 x18 K x28 0).bind fun x47=>sY K a0 a1 x12 x18 (jR K a0 a1 a2 v3 k) x47) else(some x12)
def o6 (K:Nat) (a0:List Rat) (a1:List aA) (a2:List Rat):Option (List aF):=
 (iR K a0 a1).bind fun v3=>(jR K a0 a1 a2 v3 K ([]:List aF) 0).bind fun x19=>tC K x19
def tB (K:Nat) (x23:List Rat):Option (List Rat):=
 some x23
def eE (K:Nat) (a3:List aA) (a4:List Rat) (v3:List Rat) (v5:List aQ):Nat→(List Rat)→Int→Option (List Rat)
 |0,_,_=>none
 |k+1,x16,x22=>bif(decide (x22<(v5.length:Int))) then((bK v5 x22).bind fun v32=>(bK a3 v32.row).bind fun v34=>(bK v5 x22).bind fun v37=>bif(v37.kind==0) then((iH K v34.j v3).bind fun v40=>(qW x16 [v40]).bind fun x42=>(aP (x22+1)).bind fun v49=>eE K a3 a4 v3 v5 k x42 v49) else(bif(v37.kind==1) then((iH K v34.t v3).bind fun v54=>(aP (x22+2)).bind fun v56=>(bK a4 v56).bind fun v58=>(aAW v54 v58).bind fun v60=>(qW x16 [v60]).bind fun x62=>(aP (x22+1)).bind fun v69=>eE K a3 a4 v3 v5 k x62 v69) else(bif(v37.kind==2) then((aP (x22+1)).bind fun v74=>(bK a4 v74).bind fun v76=>(iH K v34.t v3).bind fun v78=>(aDZ v76 v78).bind fun v80=>(qW x16 [v80]).bind fun x82=>(aP (x22+1)).bind fun v89=>eE K a3 a4 v3 v5 k x82 v89) else((aP (x22-3)).bind fun v93=>(bK a4 v93).bind fun v95=>(w5 v34.mu v95).bind fun v97=>(aP (x22-2)).bind fun v99=>(bK a4 v99).bind fun v101=>(aP (x22-1)).bind fun v103=>(bK a4 v103).bind fun v105=>(aAW v101 v105).bind fun v107=>(aDZ v97 v107).bind fun v109=>(qW x16 [v109]).bind fun x111=>(aP (x22+1)).bind fun v118=>eE K a3 a4 v3 v5 k x111 v118)))) else(some x16)
def mH (K:Nat) (a0:List aG) (a1:List Rat) (a2:List Rat) (a3:List aA) (a4:List Rat):Option (List Rat):=
 (o6 K a2 a3 a4).bind fun v1=>(kN K a0 a1 a3 v1).bind fun v3=>(iR K a2 a3).bind fun v5=>(eE K a3 a4 v3 v5 K ([]:List Rat) 0).bind fun x23=>tB K x23
def tL (a0:List (List Rat)):Option Int:=
 bif((a0.length:Int)==0) then(some 0) else((bK a0 0).bind fun v2=>some (v2.length:Int))
def uJ (K:Nat) (x17:List (List Rat)):Option (List (List Rat)):=
 some x17
def uN (K:Nat) (x10:List (List Rat)) (x16:Int) (recl23:(List (List Rat))→Int→Option (List (List Rat))) (x44:List Rat):Option (List (List Rat)):=
 (qW x10 [x44]).bind fun x52=>(aP (x16+1)).bind fun v59=>recl23 x52 v59
def k7 (K:Nat) (a0:List (List Rat)) (x16:Int):Nat→(List Rat)→Int→Option (List Rat)
 |0,_,_=>none
 |k+1,x37,x43=>bif(decide (x43<(a0.length:Int))) then((bK a0 x43).bind fun v62=>(bK v62 x16).bind fun v64=>(qW x37 [v64]).bind fun x66=>(aP (x43+1)).bind fun v73=>k7 K a0 x16 k x66 v73) else(some x37)
def kR (K:Nat) (a0:List (List Rat)):Nat→(List (List Rat))→Int→Option (List (List Rat))
 |0,_,_=>none
 |k+1,x10,x16=>(tL a0).bind fun v25=>bif(decide (x16<v25)) then((k7 K a0 x16 K ([]:List Rat) 0).bind fun x44=>uN K x10 x16 (kR K a0 k) x44) else(some x10)
def tP (K:Nat) (a0:List (List Rat)):Option (List (List Rat)):=
 (kR K a0 K ([]:List (List Rat)) 0).bind fun x17=>uJ K x17
def sI (K:Nat) (v11:List Rat) (x29:List (List Rat)):Option ((List (List Rat))×(List Rat)):=
 (tP K x29).bind fun v37=>some (v37,v11)
def sK (K:Nat) (x22:List (List Rat)) (x28:Int) (recl35:(List (List Rat))→Int→Option (List (List Rat))) (x70:List Rat):Option (List (List Rat)):=
 (qW x22 [x70]).bind fun x78=>(aP (x28+1)).bind fun v85=>recl35 x78 v85
def iW (K:Nat) (v4:List aQ) (v11:List Rat) (v52:List Rat):Nat→(List Rat)→Int→Option (List Rat)
 |0,_,_=>none
 |k+1,x63,x69=>bif(decide (x69<(v4.length:Int))) then((bK v52 x69).bind fun v90=>(bK v11 x69).bind fun v92=>(aDZ v90 v92).bind fun v94=>(qW x63 [v94]).bind fun x96=>(aP (x69+1)).bind fun v103=>iW K v4 v11 v52 k x96 v103) else(some x63)
def jB (K:Nat) (a0:List aG) (a1:List Rat) (a2:List Rat) (a3:List aA) (v4:List aQ) (v11:List Rat):Nat→(List (List Rat))→Int→Option (List (List Rat))
 |0,_,_=>none
 |k+1,x22,x28=>bif(decide (x28<(v4.length:Int))) then((vC (v4.length:Int) 0).bind fun x40=>(zJ 1 1).bind fun v45=>(bK x40 x28).bind fun v47=>(nL x40 x28 v45).bind fun x49=>(mH K a0 a1 a2 a3 x49).bind fun v52=>(iW K v4 v11 v52 K ([]:List Rat) 0).bind fun x70=>sK K x22 x28 (jB K a0 a1 a2 a3 v4 v11 k) x70) else(some x22)
def rD (K:Nat) (a0:List aG) (a1:List Rat) (a2:List Rat) (a3:List aA):Option ((List (List Rat))×(List Rat)):=
 (rM K a0 a1 a2 a3).bind fun v1=>bif(!v1) then(some ([],[])) else((iR K a2 a3).bind fun v4=>(vC (v4.length:Int) 0).bind fun x6=>(mH K a0 a1 a2 a3 x6).bind fun v11=>(jB K a0 a1 a2 a3 v4 v11 K ([]:List (List Rat)) 0).bind fun x29=>sI K v11 x29)
def uY (K:Nat):Option Bool:=
 some true
def lZ (K:Nat) (a0:List Rat):Nat→Int→Option (LR Bool Unit)
 |0,_=>none
 |k+1,x2=>bif(decide (x2<(a0.length:Int))) then((bK a0 x2).bind fun v6=>(aAG v6).bind fun v8=>bif(!v8) then(some (.ret false)) else((aP (x2+1)).bind fun v11=>lZ K a0 k v11)) else(some (.go ()))
def qH (K:Nat) (a0:List Rat):Option Bool:=
 (lZ K a0 K 0).bind fun o=>match o with| .ret r=>some r| .go _=>uY K
def uR (K:Nat):Option Bool:=
 some true
def k6 (K:Nat) (a0:List (List Rat)) (a1:List Rat):Nat→Int→Option (LR Bool Unit)
 |0,_=>none
 |k+1,x7=>bif(decide (x7<(a0.length:Int))) then((bK a0 x7).bind fun v11=>bif((v11.length:Int) != (a1.length:Int)) then(some (.ret false)) else((bK a0 x7).bind fun v14=>(qH K v14).bind fun v16=>bif(!v16) then(some (.ret false)) else((aP (x7+1)).bind fun v19=>k6 K a0 a1 k v19))) else(some (.go ()))
def sS (K:Nat) (a0:List (List Rat)) (a1:List Rat):Option Bool:=
 bif((a0.length:Int) != (a1.length:Int)) then(some false) else(bif(decide (32<(a1.length:Int))) then(some false) else((qH K a1).bind fun v3=>bif(!v3) then(some false) else((k6 K a0 a1 K 0).bind fun o=>match o with| .ret r=>some r| .go _=>uR K)))
def sH (K:Nat):Option Bool:=
 some false
def iX (K:Nat) (a0:List Rat):Nat→Int→Option (LR Bool Unit)
 |0,_=>none
 |k+1,x2=>bif(decide (x2<(a0.length:Int))) then((bK a0 x2).bind fun v6=>(uD v6).bind fun v8=>bif(decide (v8<0)) then(some (.ret true)) else((aP (x2+1)).bind fun v11=>iX K a0 k v11)) else(some (.go ()))
def qN (K:Nat) (a0:List Rat):Option Bool:=
 (iX K a0 K 0).bind fun o=>match o with| .ret r=>some r| .go _=>sH K
def tX (K:Nat):Option Bool:=
 some false
def hY (K:Nat) (a0:List Rat) (a1:List Rat):Nat→Int→Option (LR Bool Unit)
 |0,_=>none
 |k+1,x2=>bif(decide (x2<(a0.length:Int))) then(bif(decide (x2<(a1.length:Int))) then((bK a0 x2).bind fun v9=>(bK a1 x2).bind fun v11=>(aFQ v9 v11).bind fun v13=>bif(v13 != 0) then(some (.ret (decide (v13<0)))) else((aP (x2+1)).bind fun v16=>hY K a0 a1 k v16)) else(some (.go ()))) else(some (.go ()))
def mM (K:Nat) (a0:List Rat) (a1:List Rat):Option Bool:=
 (hY K a0 a1 K 0).bind fun o=>match o with| .ret r=>some r| .go _=>tX K
def u8 (K:Nat) (x29:List Rat):Option (List Rat):=
 some x29
def lR (K:Nat) (a0:List Rat) (a1:Int) (a2:Rat):Nat→(List Rat)→Int→Option (List Rat)
 |0,_,_=>none
 |k+1,x22,x28=>bif(decide (x28<a1)) then((bK a0 x28).bind fun v40=>(aFH v40 a2).bind fun v42=>(qW x22 [v42]).bind fun x44=>(aP (x28+1)).bind fun v51=>lR K a0 a1 a2 k x44 v51) else(some x22)
def mR (K:Nat) (a0:List Rat) (a1:Int) (a2:Rat):Option (List Rat):=
 (aP (2*a1)).bind fun v4=>(aP (v4+1)).bind fun v6=>(bK a0 v6).bind fun v8=>(aFH v8 a2).bind fun v10=>(lR K a0 a1 a2 K [v10] 0).bind fun x29=>u8 K x29
def t0 (K:Nat) (x41:List (List Rat)):Option (List (List Rat)):=
 some x41
def tY (K:Nat) (x34:List (List Rat)) (x40:Int) (recl47:(List (List Rat))→Int→Option (List (List Rat))) (x76:List Rat):Option (List (List Rat)):=
 (qW x34 [x76]).bind fun x84=>(aP (x40+1)).bind fun v91=>recl47 x84 v91
def kF (K:Nat) (a0:List (List Rat)) (a2:Int) (x17:List Rat) (x40:Int):Nat→(List Rat)→Int→Option (List Rat)
 |0,_,_=>none
 |k+1,x69,x75=>bif(decide (x75<(x17.length:Int))) then((bK a0 x40).bind fun v96=>(bK v96 x75).bind fun v98=>(bK a0 x40).bind fun v100=>(bK v100 a2).bind fun v102=>(bK x17 x75).bind fun v104=>(w5 v102 v104).bind fun v106=>(aDZ v98 v106).bind fun v108=>(qW x69 [v108]).bind fun x110=>(aP (x75+1)).bind fun v117=>kF K a0 a2 x17 x40 k x110 v117) else(some x69)
def fY (K:Nat) (a0:List (List Rat)) (a1:Int) (a2:Int) (x17:List Rat):Nat→(List (List Rat))→Int→Option (List (List Rat))
 |0,_,_=>none
 |k+1,x34,x40=>bif(decide (x40<(a0.length:Int))) then(bif(x40==a1) then((qW x34 [x17]).bind fun x51=>(aP (x40+1)).bind fun v58=>fY K a0 a1 a2 x17 k x51 v58) else((kF K a0 a2 x17 x40 K ([]:List Rat) 0).bind fun x76=>tY K x34 x40 (fY K a0 a1 a2 x17 k) x76)) else(some x34)
def tU (K:Nat) (a0:List (List Rat)) (a1:Int) (a2:Int) (x17:List Rat):Option (List (List Rat)):=
 (fY K a0 a1 a2 x17 K ([]:List (List Rat)) 0).bind fun x41=>t0 K x41
def kJ (K:Nat) (a0:List (List Rat)) (a1:Int) (a2:Int):Nat→(List Rat)→Int→Option (List Rat)
 |0,_,_=>none
 |k+1,x10,x16=>(bK a0 a1).bind fun v119=>bif(decide (x16<(v119.length:Int))) then((bK a0 a1).bind fun v124=>(bK v124 x16).bind fun v126=>(bK a0 a1).bind fun v128=>(bK v128 a2).bind fun v130=>(aFH v126 v130).bind fun v132=>(qW x10 [v132]).bind fun x134=>(aP (x16+1)).bind fun v141=>kJ K a0 a1 a2 k x134 v141) else(some x10)
def sT (K:Nat) (a0:List (List Rat)) (a1:Int) (a2:Int):Option (List (List Rat)):=
 (kJ K a0 a1 a2 K ([]:List Rat) 0).bind fun x17=>tU K a0 a1 a2 x17
def xV (K:Nat):Option (aN×Int):=
 none
def s7 (K:Nat) (v95:Int) (x155:List Rat) (x161:List Rat):Option (LR (aN×Int) Unit):=
 some (.ret ((⟨x161,x155,v95⟩:aN),0))
def fP (K:Nat) (a1:List Rat) (v93:List (List Rat)) (x101:List Int):Nat→(List Rat)→(List Rat)→Int→Option ((List Rat)×(List Rat))
 |0,_,_,_=>none
 |k+1,x142,x148,x154=>bif(decide (x154<(a1.length:Int))) then((bK x101 x154).bind fun v170=>bif(decide (v170<(a1.length:Int))) then((bK x101 x154).bind fun v175=>(bK v93 x154).bind fun v177=>(aP (2*(a1.length:Int))).bind fun v179=>(aP (v179+1)).bind fun v181=>(bK v177 v181).bind fun v183=>(bK x142 v175).bind fun v185=>(nL x142 v175 v183).bind fun x187=>(aP (x154+1)).bind fun v190=>fP K a1 v93 x101 k x187 x148 v190) else((bK x101 x154).bind fun v194=>(aP (v194-(a1.length:Int))).bind fun v196=>(bK v93 x154).bind fun v198=>(aP (2*(a1.length:Int))).bind fun v200=>(aP (v200+1)).bind fun v202=>(bK v198 v202).bind fun v204=>(bK x148 v196).bind fun v206=>(nL x148 v196 v204).bind fun x208=>(aP (x154+1)).bind fun v211=>fP K a1 v93 x101 k x142 x208 v211)) else(some (x142,x148))
def s5 (K:Nat) (v93:List (List Rat)) (v95:Int) (x101:List Int) (v217:Int) (recl90:(List Int)→(List (List Rat))→Int→Int→Int→Option (LR (aN×Int) Unit)) (x223:Int):Option (LR (aN×Int) Unit):=
 bif(decide (x223<0)) then(some (.ret ((⟨([]:List Rat),([]:List Rat),0⟩:aN),15))) else(recl90 x101 v93 x223 v217 v95)
def eG (K:Nat) (a1:List Rat) (v93:List (List Rat)) (v217:Int):Nat→Int→Int→Option Int
 |0,_,_=>none
 |k+1,x221,x222=>bif(decide (x222<(a1.length:Int))) then((bK v93 x222).bind fun v228=>(bK v228 v217).bind fun v230=>(uD v230).bind fun v232=>bif(decide (v232≤0)) then((aP (x222+1)).bind fun v235=>eG K a1 v93 v217 k x221 v235) else(bif(decide (x221<0)) then((aP (x222+1)).bind fun v240=>eG K a1 v93 v217 k x222 v240) else((bK v93 x222).bind fun v242=>(bK v93 x222).bind fun v244=>(bK v244 v217).bind fun v246=>(mR K v242 (a1.length:Int) v246).bind fun v248=>(bK v93 x221).bind fun v250=>(bK v93 x221).bind fun v252=>(bK v252 v217).bind fun v254=>(mR K v250 (a1.length:Int) v254).bind fun v256=>(mM K v248 v256).bind fun v258=>bif v258 then((aP (x222+1)).bind fun v261=>eG K a1 v93 v217 k x222 v261) else((aP (x222+1)).bind fun v263=>eG K a1 v93 v217 k x221 v263)))) else(some x221)
def kK (K:Nat) (a1:List Rat) (a2:Int):Nat→(List Int)→(List (List Rat))→Int→Int→Int→Option (LR (aN×Int) Unit)
 |0,_,_,_,_,_=>none
 |k+1,x80,x86,x87,x88,x89=>bif(x89==a2) then(some (.ret ((⟨([]:List Rat),([]:List Rat),0⟩:aN),16))) else((sT K x86 x87 x88).bind fun v93=>(aP (x89+1)).bind fun v95=>(bK x80 x87).bind fun v97=>(bK x80 x87).bind fun v99=>(nL x80 x87 x88).bind fun x101=>(aP (2*(a1.length:Int))).bind fun v104=>bif(v97==v104) then((vC (a1.length:Int) 0).bind fun x109=>(vC (a1.length:Int) 0).bind fun x113=>(fP K a1 v93 x101 K x113 x109 0).bind fun(x155,x161)=>s7 K v95 x155 x161) else((aP (v97+(a1.length:Int))).bind fun v213=>(aP (2*(a1.length:Int))).bind fun v215=>(vA v213 v215).bind fun v217=>(eG K a1 v93 v217 K (-1) 0).bind fun x223=>s5 K v93 v95 x101 v217 (kK K a1 a2 k) x223))
def tZ (K:Nat) (a1:List Rat) (a2:Int) (x47:List Int) (x53:List (List Rat)) (x65:Int):Option (aN×Int):=
 (aP (2*(a1.length:Int))).bind fun v68=>(kK K a1 a2 K x47 x53 x65 v68 0).bind fun o=>match o with| .ret r=>some r| .go _=>xV K
def iA (K:Nat) (a1:List Rat) (v14:Rat) (x53:List (List Rat)):Nat→Int→Int→Option Int
 |0,_,_=>none
 |k+1,x63,x64=>bif(decide (x64<(a1.length:Int))) then((bK x53 x64).bind fun v268=>(mR K v268 (a1.length:Int) v14).bind fun v270=>(bK x53 x63).bind fun v272=>(mR K v272 (a1.length:Int) v14).bind fun v274=>(mM K v270 v274).bind fun v276=>bif v276 then((aP (x64+1)).bind fun v279=>iA K a1 v14 x53 k x64 v279) else((aP (x64+1)).bind fun v281=>iA K a1 v14 x53 k x63 v281)) else(some x63)
def tT (K:Nat) (a1:List Rat) (a2:Int) (v14:Rat) (x47:List Int) (x53:List (List Rat)):Option (aN×Int):=
 (iA K a1 v14 x53 K 0 1).bind fun x65=>tZ K a1 a2 x47 x53 x65
def sZ (K:Nat) (a1:List Rat) (x34:List Int) (x40:List (List Rat)) (x46:Int) (recl59:(List Int)→(List (List Rat))→Int→Option ((List Int)×(List (List Rat)))) (x312:List Rat):Option ((List Int)×(List (List Rat))):=
 (aP (2*(a1.length:Int))).bind fun v320=>(zJ (-1) 1).bind fun v322=>(bK x312 v320).bind fun v324=>(nL x312 v320 v322).bind fun x326=>(aP (2*(a1.length:Int))).bind fun v329=>(aP (v329+1)).bind fun v331=>(bK a1 x46).bind fun v333=>(bK x326 v331).bind fun v335=>(nL x326 v331 v333).bind fun x337=>(qW x40 [x337]).bind fun x340=>(qW x34 [x46]).bind fun x347=>(aP (x46+1)).bind fun v354=>recl59 x347 x340 v354
def jT (K:Nat) (a0:List (List Rat)) (a1:List Rat) (x46:Int):Nat→(List Rat)→Int→Option (List Rat)
 |0,_,_=>none
 |k+1,x305,x311=>bif(decide (x311<(a1.length:Int))) then((aP ((a1.length:Int)+x311)).bind fun v357=>(bK a0 x46).bind fun v359=>(bK v359 x311).bind fun v361=>(aAY v361).bind fun v363=>(bK x305 v357).bind fun v365=>(nL x305 v357 v363).bind fun x367=>(aP (x311+1)).bind fun v370=>jT K a0 a1 x46 k x367 v370) else(some x305)
def kI (K:Nat) (a0:List (List Rat)) (a1:List Rat) (v14:Rat):Nat→(List Int)→(List (List Rat))→Int→Option ((List Int)×(List (List Rat)))
 |0,_,_,_=>none
 |k+1,x34,x40,x46=>bif(decide (x46<(a1.length:Int))) then((aP (2*(a1.length:Int))).bind fun v284=>(aP (v284+2)).bind fun v286=>(vC v286 0).bind fun x288=>(bK x288 x46).bind fun v293=>(nL x288 x46 v14).bind fun x295=>(jT K a0 a1 x46 K x295 0).bind fun x312=>sZ K a1 x34 x40 x46 (kI K a0 a1 v14 k) x312) else(some (x34,x40))
def pU (K:Nat) (a0:List (List Rat)) (a1:List Rat) (a2:Int):Option (aN×Int):=
 (sS K a0 a1).bind fun v2=>bif(!v2) then(some ((⟨([]:List Rat),([]:List Rat),0⟩:aN),1)) else(bif(decide (a2<0)) then(some ((⟨([]:List Rat),([]:List Rat),0⟩:aN),1)) else((qN K a1).bind fun v6=>bif(!v6) then((vC (a1.length:Int) 0).bind fun x9=>some ((⟨x9,a1,0⟩:aN),0)) else((zJ 1 1).bind fun v14=>(kI K a0 a1 v14 K ([]:List Int) ([]:List (List Rat)) 0).bind fun(x47,x53)=>tT K a1 a2 v14 x47 x53)))
def sR (K:Nat) (a0:List aG) (a1:List Rat) (a2:List Rat) (a3:List aA):Option ((List Rat)×(List aF)×Int):=
 (rM K a0 a1 a2 a3).bind fun v1=>bif(!v1) then(some ([],[],1)) else((iR K a2 a3).bind fun v4=>bif(decide (32<(v4.length:Int))) then(some ([],[],4)) else((rD K a0 a1 a2 a3).bind fun v7=>(pU K v7.1 v7.2 4096).bind fun v9=>bif(v9.2 != 0) then(some ([],[],v9.2)) else((o6 K a2 a3 v9.1.z).bind fun v13=>(kN K a0 a1 a3 v13).bind fun v15=>some (v15,v13,0))))
end Go.Proofs.YtcjdedkdoagifaaGreat
set_option linter.unusedVariables false
set_option maxRecDepth 100000
namespace Go.Proofs.YtcjdedkdoagifaaGreat
end Go.Proofs.YtcjdedkdoagifaaGreat
set_option linter.unusedVariables false
namespace Go.Proofs.YtcjdedkdoagifaaGreat
theorem aJZ {x m:Int} (hx:-9223372036854775808≤x∧x≤9223372036854775807) (hm:0<m):∃r,mL x m=some r∧0≤r∧r<m:=by
 unfold mL
 by_cases h:x<0
 ·refine⟨(-(x+1))%m,?_,Int.emod_nonneg _ (by omega),Int.emod_lt_of_pos _ hm⟩
  rw [dT h,bT,kM (by omega),oB,kM (by omega),oB,mJ (by omega) hm,oB]
 ·refine⟨x%m,?_,Int.emod_nonneg _ (by omega),Int.emod_lt_of_pos _ hm⟩
  rw [dF h,bM,mJ (by omega) hm,oB]
theorem aAR {l:List Int} (hl:aGF l) (i:Int) {m:Int} (hm:0<m):∃r,bG l i m=some r∧0≤r∧r<m:=by
 unfold bG
 by_cases h:i<0
 ·exact⟨0,by rw [dT h,bT],by omega,hm⟩
 ·rw [dF h,bM]
  by_cases h2:(l.length:Int)≤i
  ·exact⟨0,by rw [dT h2,bT],by omega,hm⟩
  ·rw [dF h2,bM]
   obtain⟨n,rfl⟩:∃n:Nat,i=n:=⟨i.toNat,by omega⟩
   obtain⟨x,hx,_,hr⟩:=rdM (xs:=l) (i:=n) (by omega)
   obtain⟨r,h3,h4,h5⟩:=aJZ (hl x hx) hm
   exact⟨r,by rw [hr,oB,h3,oB],h4,h5⟩
theorem aCd {a m:Int} (h:0≤a) (hm:0<m):0≤a%m∧a%m<m:=⟨Int.emod_nonneg _ (by omega),Int.emod_lt_of_pos _ hm⟩
def vH (k:Nat) (xs:List Rat):Prop:=∀x∈xs,Bd k x
theorem vH.snoc {k:Nat} {xs:List Rat} {x:Rat} (h:vH k xs) (hx:Bd k x):vH k (xs++[x]):=fun y hy=>by
 rcases List.mem_append.1 hy with h1|h1
 ·exact h y h1
 ·rw [List.mem_singleton.1 h1];exact hx
theorem apS {α:Type} {xs:List α} {x:α} (h:xs.length≤60000000000):qW xs [x]=some (xs++[x]):=z8 (by simp;omega)
theorem aOZ {p q:Int} (hp:p≠0) (hq:q≠0):(p:Rat)/q≠0:=by
 rw [←Rat.divInt_eq_div]
 intro h
 have:=congrArg Rat.num h
 rw [Rat.num_divInt] at this
 have e:(0:Rat).num=0:=rfl
 rw [e] at this
 obtain⟨c,hc⟩:=Int.gcd_dvd_right (a:=q) (b:=p)
 have hg:0<Int.gcd q p:=Int.gcd_pos_of_ne_zero_left p hq
 have h2:q.sign*p/((Int.gcd q p:Nat):Int)=q.sign*c:=by
  conv=>lhs;rw [hc]
  rw [←Int.mul_assoc,Int.mul_comm q.sign,Int.mul_assoc]
  have:((q.gcd (((q.gcd p:Nat):Int)*c):Nat):Int)=((q.gcd p:Nat):Int):=by rw [←hc]
  rw [this]
  exact Int.mul_ediv_cancel_left _ (by omega)
 rw [h2] at this
 rcases Int.mul_eq_zero.1 this with h3|h3
 ·exact hq (Int.sign_eq_zero_iff_zero.1 h3)
 ·subst h3;rw [Int.mul_zero] at hc;exact hp hc
theorem rdD {α:Type} {xs:List α} {i:Nat} (d:α) (h:i<xs.length):bK xs (i:Int)=some (xs.getD i d):=by
 rw [rdG (x:=xs.getD i d)]
 simp [List.getD_eq_getElem?_getD,h]
def pL (l:List Rat) (i:Nat):Rat:=l.getD i 0
theorem aHt {l:List Rat} {i:Nat} (h:i<l.length):bK l (i:Int)=some (pL l i):=rdD _ h
theorem vR {l:List Rat} {i:Nat} (h:i<l.length):pL l i∈l:=by
 have:pL l i=l[i]:=by unfold pL;simp [List.getD_eq_getElem?_getD,h]
 rw [this];exact List.getElem_mem h
theorem aPa:((1:Int):Rat)/((1:Int):Rat)=1:=by decide+kernel
def mp {α:Type} (g:Nat→α) (n:Nat):List α:=(List.range n).map g
theorem y8 {α:Type} (g:Nat→α):mp g 0=[]:=rfl
theorem aCJ {α:Type} (g:Nat→α) (n:Nat):mp g (n+1)=mp g n++[g n]:=by unfold mp;rw [List.range_succ,List.map_append];rfl
theorem bV {α:Type} (g:Nat→α) (n:Nat):(mp g n).length=n:=by simp [mp]
theorem aAd {α:Type} {g:Nat→α} {n i:Nat} (h:i<n):(mp g n)[i]?=some (g i):=by simp [mp,h]
theorem zU {g:Nat→Rat} {n i:Nat} (h:i<n):pL (mp g n) i=g i:=by
 unfold pL mp
 simp [List.getD_eq_getElem?_getD,h]
theorem zV {g:Nat→Rat} {n k:Nat} (h:∀i,i<n→Bd k (g i)):vH k (mp g n):=fun x hx=>by
 obtain⟨i,hi,rfl⟩:=List.mem_map.1 hx
 exact h i (List.mem_range.1 hi)
theorem apM {α:Type} {g:Nat→α} {i:Nat} (h:i≤1000000):qW (mp g i) [g i]=some (mp g (i+1)):=by rw [aCJ];exact apS (by rw [bV];omega)
theorem bW {α:Type} {f g:Nat→α} {n:Nat} (h:∀i,i<n→f i=g i):mp f n=mp g n:=by
 unfold mp
 exact List.map_congr_left fun i hi=>h i (List.mem_range.1 hi)
def iL {α:Type} (f:Nat→α) (i:Nat) (v:α) (j:Nat):α:=if j=i then v else f j
theorem aX {α:Type} {f:Nat→α} {i:Nat} {v:α}:iL f i v i=v:=if_pos rfl
theorem cF {α:Type} {f:Nat→α} {i j:Nat} {v:α} (h:j≠i):iL f i v j=f j:=if_neg h
theorem aK3 {α:Type} {f:Nat→α} {n i:Nat} {v:α}:(mp f n).set i v=mp (iL f i v) n:=by
 apply List.ext_getElem?
 intro j
 by_cases hj:j<n
 ·rw [List.getElem?_set,aAd hj,bV,aAd hj]
  by_cases he:i=j
  ·subst he;rw [if_pos rfl,if_pos hj,aX]
  ·rw [if_neg he,cF (by omega)]
 ·rw [List.getElem?_eq_none (by simp [mp];omega),List.getElem?_eq_none (by simp [mp];omega)]
theorem dR {α:Type} {f:Nat→α} {n i:Nat} (h:i<n):bK (mp f n) (i:Int)=some (f i):=rdG (aAd h)
theorem rG {α:Type} {f:Nat→α} {n i:Nat} {v:α} (h:i<n):nL (mp f n) (i:Int) v=some (mp (iL f i v) n):=by
 rw [stG (by rw [bV];exact h),aK3]
theorem aLf {α:Type} (z:α):∀n,List.replicate n z=mp (fun _=>z) n
 |0=>rfl
 |n+1=>by rw [aCJ,←aLf z n,List.replicate_succ']
theorem aAJ {α:Type} {n:Nat} {z:α} (h:n≤68719476736):vC (n:Int) z=some (mp (fun _=>z) n):=by rw [y4 h,aLf]
theorem aMd (l:List Rat):l=mp (pL l) l.length:=by
 apply List.ext_getElem?
 intro j
 by_cases hj:j<l.length
 ·rw [aAd hj];simp [pL,hj]
 ·rw [List.getElem?_eq_none (by omega),List.getElem?_eq_none (by simp [mp];omega)]
theorem mF {i:Nat} (h:i≤1000000000):aP ((i:Int)+1)=some ((i+1:Nat):Int):=zD (m:=0) (n:=i+1) (by omega) (by omega)
theorem aBu {a:Rat}:a.num.sign=0↔a=0:=by rw [Int.sign_eq_zero_iff_zero,Rat.num_eq_zero]
def sm (f:Nat→Rat):Nat→Rat
 |0=>0
 |n+1=>sm f n+f n
end Go.Proofs.YtcjdedkdoagifaaGreat
set_option linter.unusedVariables false
namespace Go.Proofs.YtcjdedkdoagifaaGreat
/-- A matrix of h rows and w columns. -/
def mx (g:Nat→Nat→Rat) (h w:Nat):List (List Rat):=mp (fun i=>mp (g i) w) h
theorem aKu {g g':Nat→Nat→Rat} {h w:Nat} (e:∀i c,i<h→c<w→g i c=g' i c):mx g h w=mx g' h w:=
 bW fun i hi=>bW fun c hc=>e i c hi hc
theorem aPj {g:Nat→Nat→Rat} {h w i:Nat} {f:Nat→Rat}:mp (iL (fun i=>mp (g i) w) i (mp f w)) h=mx (iL g i f) h w:=by
 refine bW fun j _=>?_
 unfold iL
 split<;>rfl
theorem aA8 {g:Nat→Nat→Rat} {h w i:Nat} (hi:i<h):bK (mx g h w) (i:Int)=some (mp (g i) w):=dR hi
theorem tK {g:Nat→Nat→Rat} {h w:Nat}:(mx g h w).length=h:=bV _ _
def Bdx (h w b:Nat) (g:Nat→Nat→Rat):Prop:=∀i c,i<h→c<w→Bd b (g i c)
theorem Bdx.mono {h w b b':Nat} {g:Nat→Nat→Rat} (hg:Bdx h w b g) (hb:b≤b'):Bdx h w b' g:=fun i c hi hc=>(hg i c hi hc).mono hb
def piv (g:Nat→Nat→Rat) (k:Nat):Nat→Nat→Nat
 |0,i=>i
 |t+1,i=>if g i k=0 then piv g k t (i+1) else i
theorem aHu {g:Nat→Nat→Rat} {k:Nat}:∀(t i:Nat),i≤piv g k t i∧piv g k t i≤i+t
 |0,i=>⟨Nat.le_refl _,Nat.le_refl _⟩
 |t+1,i=>by
  have h:=aHu (g:=g) (k:=k) t (i+1)
  unfold piv
  split<;>omega
theorem aNC {g:Nat→Nat→Rat} {k:Nat}:∀(t i j:Nat),i≤j→j<piv g k t i→g j k=0
 |0,i,j,h1,h2=>by simp only [piv] at h2;omega
 |t+1,i,j,h1,h2=>by
  unfold piv at h2
  split at h2
  ·rename_i hz
   by_cases he:j=i
   ·rw [he];exact hz
   ·exact aNC t (i+1) j (by omega) h2
  ·omega
theorem aL0 {g:Nat→Nat→Rat} {k:Nat}:∀(t i:Nat),piv g k t i<i+t→g (piv g k t i) k≠0
 |0,i,h=>by simp only [piv] at h;omega
 |t+1,i,h=>by
  unfold piv at h ⊢
  split at h
  ·rename_i hz
   rw [if_pos hz]
   exact aL0 t (i+1) (by omega)
  ·rename_i hz
   rw [if_neg hz];exact hz
def yP (g:Nat→Nat→Rat) (n at0 i:Nat):Nat→Rat:=g (if i=n then at0 else if i=at0 then n else i)
def pr (g:Nat→Nat→Rat) (at0 k c:Nat):Rat:=g at0 c/g at0 k
def stp (g:Nat→Nat→Rat) (n at0 k i c:Nat):Rat:=if i=n then pr g at0 k c else yP g n at0 i c-yP g n at0 i k*pr g at0 k c
structure RS where
 ps:List Nat
 g:Nat→Nat→Rat
 d:Rat
def aE8 (h k:Nat) (s:RS):RS:=
 if piv s.g k (h-s.ps.length) s.ps.length=h then s
 else⟨s.ps++[k],stp s.g s.ps.length (piv s.g k (h-s.ps.length) s.ps.length) k,(if piv s.g k (h-s.ps.length) s.ps.length=s.ps.length then s.d else -s.d)*s.g (piv s.g k (h-s.ps.length) s.ps.length) k⟩
def red (g:Nat→Nat→Rat) (h:Nat):Nat→RS
 |0=>⟨[],g,1⟩
 |k+1=>aE8 h k (red g h k)
theorem aFE {h n at0 i:Nat} (hn:n<h) (ha:at0<h) (hi:i<h):(if i=n then at0 else if i=at0 then n else i)<h:=by split;exact ha;split;exact hn;exact hi
end Go.Proofs.YtcjdedkdoagifaaGreat
set_option linter.unusedVariables false
namespace Go.Proofs.YtcjdedkdoagifaaGreat
/-- The rows that the list of indices names, in a pool of rows. -/
structure Rep (ι:Nat→Nat) (pool:List (List Rat)) (g:Nat→Nat→Rat) (h w:Nat):Prop where
 inj:∀i j,i<h→j<h→ι i=ι j→i=j
 lt:∀i,i<h→ι i<pool.length
 el:∀i,i<h→pool.getD (ι i) []=mp (g i) w
theorem Rep.set {ι:Nat→Nat} {pool:List (List Rat)} {g:Nat→Nat→Rat} {h w i:Nat} (r:Rep ι pool g h w) (hi:i<h) (f:Nat→Rat):Rep ι (pool.set (ι i) (mp f w)) (iL g i f) h w:=by
 refine⟨r.inj,fun j hj=>by rw [List.length_set];exact r.lt j hj,fun j hj=>?_⟩
 rw [List.getD_eq_getElem?_getD,List.getElem?_set]
 by_cases he:j=i
 ·subst he
  rw [if_pos rfl,if_pos (r.lt j hj),aX];rfl
 ·rw [if_neg (fun h=>he (r.inj j i hj hi h.symm)),←List.getD_eq_getElem?_getD,r.el j hj,cF he]
theorem Rep.congr {ι:Nat→Nat} {pool:List (List Rat)} {g g':Nat→Nat→Rat} {h w:Nat} (r:Rep ι pool g h w) (e:∀i c,i<h→c<w→g i c=g' i c):Rep ι pool g' h w:=
 ⟨r.inj,r.lt,fun i hi=>by rw [r.el i hi];exact bW fun c hc=>e i c hi hc⟩
theorem Rep.sel {ι:Nat→Nat} {pool:List (List Rat)} {g:Nat→Nat→Rat} {h w:Nat} (r:Rep ι pool g h w):aDW pool (mp ι h)=mx g h w:=by
 unfold aDW mx
 apply List.ext_getElem?
 intro j
 by_cases hj:j<h
 ·rw [List.getElem?_map,aAd hj,aAd hj,←r.el j hj];rfl
 ·rw [List.getElem?_map,List.getElem?_eq_none (by simp [mp];omega),List.getElem?_eq_none (by simp [mp];omega)];rfl
theorem Rep.swap {ι:Nat→Nat} {pool:List (List Rat)} {g:Nat→Nat→Rat} {h w n a:Nat} (r:Rep ι pool g h w) (hn:n<h) (ha:a<h) (hne:n≠a):Rep (iL (iL ι n (ι a)) a (ι n)) pool (yP g n a) h w:=by
 have key:∀i,iL (iL ι n (ι a)) a (ι n) i=ι (if i=n then a else if i=a then n else i):=fun i=>by
  unfold iL
  by_cases h1:i=n
  ·rw [if_pos h1,if_neg (by omega),if_pos h1]
  ·rw [if_neg h1]
   by_cases h2:i=a
   ·rw [if_pos h2,if_pos h2,if_neg h1]
   ·rw [if_neg h2,if_neg h1,if_neg h2]
 refine⟨fun i j hi hj e=>?_,fun i hi=>?_,fun i hi=>?_⟩
 ·rw [key,key] at e
  have:=r.inj _ _ (aFE hn ha hi) (aFE hn ha hj) e
  split at this<;>split at this<;>(try split at this)<;>(try split at this)<;>omega
 ·rw [key];exact r.lt _ (aFE hn ha hi)
 ·rw [key];exact r.el _ (aFE hn ha hi)
def mid (f e:Nat→Rat) (c j:Nat):Rat:=if j<c then f j else e j
theorem aNc {α:Type} {g:Nat→α} {i:Nat} {x y:α}:iL (iL g i x) i y=iL g i y:=by
 funext j
 unfold iL
 split<;>rfl
end Go.Proofs.YtcjdedkdoagifaaGreat
set_option linter.unusedVariables false
namespace Go.Proofs.YtcjdedkdoagifaaGreat
/-- A list of numbers read by index. -/
def pat (ps:List Nat) (i:Nat):Nat:=ps.getD i 0
def Cok (h w:Nat):Prop:=h=0→w=0
theorem aF1 {g:Nat→Nat→Rat} {h w:Nat} (hc:Cok h w):tL (mx g h w)=some (w:Int):=by
 by_cases h0:h=0
 ·subst h0
  rw [hc rfl];rfl
 ·have r0:=aA8 (g:=g) (w:=w) (show 0<h by omega)
  simp only [Int.natCast_zero] at r0
  simp only [tL,tK,qF (show¬(h:Int)=0 by omega),bM,r0,oB,bV]
end Go.Proofs.YtcjdedkdoagifaaGreat
set_option linter.unusedVariables false
namespace Go.Proofs.YtcjdedkdoagifaaGreat
theorem aDx (f g:Nat→Rat) (a:Rat):∀n,sm (fun c=>f c-a*g c) n=sm f n-a*sm g n
 |0=>by simp only [sm];grind
 |n+1=>by
  have ih:=aDx f g a n
  simp only [sm]
  rw [ih];grind
theorem aFZ (f:Nat→Rat) (a:Rat):∀n,sm (fun c=>f c*a) n=sm f n*a
 |0=>by simp only [sm];grind
 |n+1=>by
  have ih:=aFZ f a n
  simp only [sm]
  rw [ih];grind
theorem eY {f g:Nat→Rat}:∀{n:Nat},(∀i,i<n→f i=g i)→sm f n=sm g n
 |0,_=>rfl
 |n+1,h=>by
  simp only [sm]
  rw [eY fun i hi=>h i (by omega),h n (by omega)]
theorem aAy {f:Nat→Rat} {n:Nat} (h:∀i,i<n→f i=0):sm f n=0:=by
 rw [eY (g:=fun _=>0) h]
 induction n with
 |zero=>rfl
 |succ n ih=>simp only [sm];rw [ih fun i hi=>h i (by omega)];grind
theorem aB0 {f:Nat→Rat} {n p:Nat} (hp:p<n) (h:∀i,i<n→i≠p→f i=0):sm f n=f p:=by
 induction n with
 |zero=>omega
 |succ n ih=>
  simp only [sm]
  by_cases he:p=n
  ·rw [aAy fun i hi=>h i (by omega) (by omega),he];grind
  ·rw [ih (by omega) fun i hi hne=>h i (by omega) hne,h n (by omega) (by omega)];grind
theorem aE6 (f g:Nat→Rat):∀n,sm (fun c=>f c+g c) n=sm f n+sm g n
 |0=>by simp only [sm];grind
 |n+1=>by
  have ih:=aE6 f g n
  simp only [sm]
  rw [ih];grind
structure RJ (h k:Nat) (s:RS):Prop where
 ph:s.ps.length≤h
 pk:∀i,i<s.ps.length→pat s.ps i<k
 z:∀i c,s.ps.length≤i→i<h→c<k→s.g i c=0
 one:∀i i',i<s.ps.length→i'<h→s.g i' (pat s.ps i)=if i'=i then 1 else 0
 lead:∀i c,i<s.ps.length→c<pat s.ps i→s.g i c=0
 inc:∀i j,i<j→j<s.ps.length→pat s.ps i<pat s.ps j
 gap:∀c,c<k→c∉s.ps→∀i,i<s.ps.length→c<pat s.ps i→s.g i c=0
theorem aAs {ps:List Nat} {k i:Nat} (h:i<ps.length):pat (ps++[k]) i=pat ps i:=by
 unfold pat
 rw [List.getD_eq_getElem?_getD,List.getD_eq_getElem?_getD,List.getElem?_append_left h]
theorem aCA {ps:List Nat} {k:Nat}:pat (ps++[k]) ps.length=k:=by
 unfold pat
 rw [List.getD_eq_getElem?_getD,List.getElem?_append_right (Nat.le_refl _),Nat.sub_self];rfl
theorem aMg {h k:Nat} {s:RS} (hs:RJ h k s):RJ h (k+1) (aE8 h k s):=by
 have hp:=aHu (g:=s.g) (k:=k) (h-s.ps.length) s.ps.length
 have hph:=hs.ph
 unfold aE8
 split
 ·rename_i hat
  refine⟨hs.ph,fun i hi=>Nat.lt_succ_of_lt (hs.pk i hi),fun i c hi hh hc=>?_,hs.one,hs.lead,hs.inc,fun c _ _ i hi hlt=>hs.lead i c hi hlt⟩
  by_cases he:c=k
  ·subst he;exact aNC (h-s.ps.length) s.ps.length i hi (by omega)
  ·exact hs.z i c hi hh (by omega)
 ·rename_i hat
  have hlt:piv s.g k (h-s.ps.length) s.ps.length<h:=by omega
  have hne:=aL0 (g:=s.g) (k:=k) (h-s.ps.length) s.ps.length (by omega)
  generalize ha:piv s.g k (h-s.ps.length) s.ps.length=at0 at *
  have hz:∀c,c<k→s.g at0 c=0:=fun c hc=>hs.z at0 c hp.1 hlt hc
  have hpr:∀c,c<k→pr s.g at0 k c=0:=fun c hc=>by unfold pr;rw [hz c hc,Rat.div_def,Rat.zero_mul]
  have hprk:pr s.g at0 k k=1:=by unfold pr;rw [Rat.div_def,Rat.mul_inv_cancel _ hne]
  have hswz:∀i c,s.ps.length<i→i<h→c<k→yP s.g s.ps.length at0 i c=0:=fun i c hi hih hc=>by
   unfold yP
   rw [if_neg (by omega)]
   split
   ·exact hs.z _ c (Nat.le_refl _) (by omega) hc
   ·exact hs.z _ c (by omega) hih hc
  have hsw:∀i c,i<s.ps.length→yP s.g s.ps.length at0 i c=s.g i c:=fun i c hi=>by
   unfold yP
   rw [if_neg (by omega),if_neg (by omega)]
  have hlead:∀i c,i<s.ps.length+1→c<pat (s.ps++[k]) i→stp s.g s.ps.length at0 k i c=0:=fun i c hi hc=>by
   by_cases he:i=s.ps.length
   ·subst he
    rw [aCA] at hc
    unfold stp
    rw [if_pos rfl];exact hpr c hc
   ·have hi':i<s.ps.length:=by omega
    rw [aAs hi'] at hc
    unfold stp
    rw [if_neg he,hsw i c hi',hsw i k hi',hs.lead i c hi' hc,hpr c (by have:=hs.pk i hi';omega)]
    grind
  refine⟨by simp only [List.length_append,List.length_singleton];omega,fun i hi=>?_,fun i c hi hh hc=>?_,fun i i' hi hi'=>?_,fun i c hi hc=>hlead i c (by simpa using hi) hc,fun i j hij hj=>?_,fun c _ _ i hi hlt=>hlead i c (by simpa using hi) hlt⟩
  ·simp only [List.length_append,List.length_singleton] at hi
   by_cases he:i=s.ps.length
   ·subst he;simp only [aCA];omega
   ·simp only [aAs (show i<s.ps.length by omega)]
    have:=hs.pk i (by omega);omega
  ·simp only [List.length_append,List.length_singleton] at hi
   show stp s.g s.ps.length at0 k i c=0
   unfold stp
   rw [if_neg (by omega)]
   by_cases he:c=k
   ·subst he
    rw [hprk,Rat.mul_one,Rat.sub_self]
   ·rw [hswz i c (by omega) hh (by omega),hpr c (by omega)]
    grind
  ·simp only [List.length_append,List.length_singleton] at hi
   show stp s.g s.ps.length at0 k i' (pat (s.ps++[k]) i)=_
   unfold stp
   by_cases he:i=s.ps.length
   ·subst he
    rw [aCA]
    by_cases e2:i'=s.ps.length
    ·rw [if_pos e2,if_pos e2,hprk]
    ·rw [if_neg e2,if_neg e2,hprk,Rat.mul_one,Rat.sub_self]
   ·have hi2:i<s.ps.length:=by omega
    rw [aAs hi2,hpr _ (hs.pk i hi2)]
    by_cases e2:i'=s.ps.length
    ·rw [if_pos e2,if_neg (by omega)]
    ·rw [if_neg e2]
     by_cases e3:i'<s.ps.length
     ·rw [hsw i' _ e3,hs.one i i' hi2 (by omega)]
      grind
     ·rw [hswz i' _ (by omega) hi' (hs.pk i hi2),if_neg (by omega)]
      grind
  ·simp only [List.length_append,List.length_singleton] at hj
   by_cases he:j=s.ps.length
   ·subst he
    simp only [aCA,aAs (show i<s.ps.length by omega)]
    exact hs.pk i (by omega)
   ·simp only [aAs (show i<s.ps.length by omega),aAs (show j<s.ps.length by omega)]
    exact hs.inc i j hij (by omega)
theorem aIb {g:Nat→Nat→Rat} {h:Nat}:∀k,RJ h k (red g h k)
 |0=>⟨Nat.zero_le _,fun i hi=>absurd hi (by simp [red]),fun i c _ _ hc=>absurd hc (by omega),fun i i' hi _=>absurd hi (by simp [red]),fun i c hi _=>absurd hi (by simp [red]),fun i j _ hj=>absurd hj (by simp [red]),fun c hc=>absurd hc (by omega)⟩
 |k+1=>aMg (aIb k)
end Go.Proofs.YtcjdedkdoagifaaGreat
set_option linter.unusedVariables false
namespace Go.Proofs.YtcjdedkdoagifaaGreat
theorem aFw (F:Nat→Nat→Rat) (m:Nat):∀n,sm (fun i=>sm (F i) m) n=sm (fun j=>sm (fun i=>F i j) n) m
 |0=>by
  simp only [sm]
  exact(aAy fun i _=>rfl).symm
 |n+1=>by
  simp only [sm]
  rw [aFw F m n,aE6]
theorem w9 (f:Nat→Rat) (a:Rat) (n:Nat):sm (fun c=>a*f c) n=a*sm f n:=by
 rw [Rat.mul_comm,←aFZ]
 exact eY fun i _=>Rat.mul_comm _ _
theorem aDp (f:Nat→Rat) (n:Nat):sm (fun c=>-(f c)) n=-(sm f n):=by
 have:=w9 f (-1) n
 rw [eY (g:=fun c=>-1*f c) fun i _=>by grind,this];grind
def skp (k c:Nat):Nat:=if c<k then c else c+1
theorem aKt (F:Nat→Rat) {k:Nat}:∀{n:Nat},k≤n→sm (fun l=>F (skp k l)) n=sm (fun m=>if m=k then 0 else F m) (n+1)
 |0,h=>by
  have:k=0:=by omega
  subst this
  simp only [sm];grind
 |n+1,h=>by
  by_cases hk:k≤n
  ·have ih:=aKt F hk
   rw [sm,ih,sm,sm,sm]
   have e1:skp k n=n+1:=by unfold skp;rw [if_neg (by omega)]
   rw [e1,if_neg (show¬n+1=k by omega)]
  ·have:k=n+1:=by omega
   subst this
   rw [sm.eq_2 _ (n+1),if_pos rfl]
   rw [eY (g:=F) fun i hi=>by unfold skp;rw [if_pos hi],eY (g:=F) fun i hi=>if_neg (by omega)]
   grind
def sgn (k:Nat):Rat:=if k%2=0 then 1 else -1
def mnr (g:Nat→Nat→Rat) (k i c:Nat):Rat:=g (i+1) (skp k c)
def dt:Nat→(Nat→Nat→Rat)→Rat
 |0,_=>1
 |n+1,g=>sm (fun k=>sgn k*(g 0 k*dt n (mnr g k))) (n+1)
theorem aKj {k c n:Nat} (hc:c<n):skp k c<n+1:=by unfold skp;split<;>omega
theorem sV:∀{n:Nat} {g g':Nat→Nat→Rat},(∀i c,i<n→c<n→g i c=g' i c)→dt n g=dt n g'
 |0,_,_,_=>rfl
 |n+1,g,g',h=>by
  simp only [dt]
  refine eY fun k hk=>?_
  rw [h 0 k (by omega) hk,sV (g:=mnr g k) (g':=mnr g' k) fun i c hi hc=>h (i+1) _ (by omega) (aKj hc)]
theorem aKf {g:Nat→Nat→Rat} {f:Nat→Rat} {k:Nat}:mnr (iL g 0 f) k=mnr g k:=by
 funext i c
 unfold mnr
 rw [cF (by omega)]
theorem aNg {g:Nat→Nat→Rat} {f:Nat→Rat} {k j:Nat}:mnr (iL g (j+1) f) k=iL (mnr g k) j (fun c=>f (skp k c)):=by
 funext i c
 unfold mnr
 by_cases h:i=j
 ·subst h;rw [aX,aX]
 ·rw [cF (by omega),cF h]
theorem aHy {u v:Nat→Rat} {a:Rat}:∀{n:Nat} {g:Nat→Nat→Rat} {i:Nat},i<n→dt n (iL g i (fun c=>u c-a*v c))=dt n (iL g i u)-a*dt n (iL g i v)
 |0,_,_,h=>by omega
 |n+1,g,0,_=>by
  simp only [dt,aKf,aX]
  rw [←aDx]
  exact eY fun k _=>by grind
 |n+1,g,j+1,h=>by
  simp only [dt,aNg,cF (show 0≠j+1 by omega)]
  rw [←aDx]
  refine eY fun k _=>?_
  rw [aHy (u:=fun c=>u (skp k c)) (v:=fun c=>v (skp k c)) (a:=a) (show j<n by omega)]
  grind
theorem aBz (k:Nat):sgn (k+1)=-(sgn k):=by
 unfold sgn
 by_cases h:k%2=0
 ·rw [if_pos h,if_neg (by omega)]
 ·rw [if_neg h,if_pos (by omega)];grind
theorem aEX (k:Nat):∀l,sgn (k+l)=sgn k*sgn l
 |0=>by
  have:sgn 0=1:=rfl
  rw [this,Nat.add_zero];grind
 |l+1=>by
  rw [←Nat.add_assoc,aBz,aEX k l,aBz];grind
def aJT (k m c:Nat):Nat:=if c<min k m then c else if c+1<max k m then c+1 else c+2
theorem aMu (k l c:Nat):skp k (skp l c)=aJT k (skp k l) c:=by
 unfold aJT skp
 by_cases h1:l<k
 ·rw [if_pos h1]
  repeat' split
  all_goals omega
 ·rw [if_neg h1]
  repeat' split
  all_goals omega
theorem aJP (k m c:Nat):aJT k m c=aJT m k c:=by
 unfold aJT;rw [Nat.min_comm,Nat.max_comm]
def eps (k m:Nat):Rat:=if k<m then sgn (k+m+1) else sgn (k+m)
theorem aLp {k m:Nat} (h:m≠k):eps k m=-(eps m k):=by
 unfold eps
 by_cases h1:k<m
 ·rw [if_pos h1,if_neg (by omega),aBz,Nat.add_comm]
 ·rw [if_neg h1,if_pos (by omega),aBz,Nat.add_comm];grind
theorem aMx (k l:Nat):sgn k*sgn l=eps k (skp k l):=by
 unfold eps skp
 by_cases h:l<k
 ·rw [if_pos h,if_neg (by omega),aEX]
 ·rw [if_neg h,if_pos (by omega)]
  rw [show k+(l+1)+1=k+l+2 by omega,show sgn (k+l+2)=sgn (k+l) by unfold sgn;rw [show(k+l+2)%2=(k+l)%2 by omega],aEX]
def aHX (g:Nat→Nat→Rat) (k m i c:Nat):Rat:=g (i+2) (aJT k m c)
theorem aKO {n:Nat} {g:Nat→Nat→Rat}:dt (n+2) g=sm (fun k=>sm (fun m=>if m=k then 0 else eps k m*(g 0 k*(g 1 m*dt n (aHX g k m)))) (n+2)) (n+2):=by
 rw [dt]
 refine eY fun k hk=>?_
 rw [←aKt (fun m=>eps k m*(g 0 k*(g 1 m*dt n (aHX g k m)))) (show k≤n+1 by omega),dt,←w9,←w9]
 refine eY fun l _=>?_
 rw [←aMx,show dt n (mnr (mnr g k) l)=dt n (aHX g k (skp k l)) from congrArg (dt n) (by
  funext i c
  unfold mnr aHX
  rw [aMu])]
 unfold mnr
 grind
theorem aJ8 {n:Nat} {g:Nat→Nat→Rat}:dt (n+2) (yP g 0 1)=-(dt (n+2) g):=by
 rw [aKO,aKO,aFw,←aDp]
 refine eY fun k _=>?_
 rw [←aDp]
 refine eY fun m _=>?_
 by_cases h:k=m
 ·rw [if_pos h,if_pos h.symm];grind
 ·rw [if_neg h,if_neg (fun e=>h e.symm),aLp (by exact fun e=>h e)]
  have e:aHX (yP g 0 1) m k=aHX g k m:=by
   funext i c
   unfold aHX yP
   rw [if_neg (by omega),if_neg (by omega),aJP]
  rw [e]
  have e1:yP g 0 1 0=g 1:=by unfold yP;rw [if_pos rfl]
  have e2:yP g 0 1 1=g 0:=by unfold yP;rw [if_neg (by omega),if_pos rfl]
  rw [e1,e2]
  grind
theorem aM9 {g:Nat→Nat→Rat} {a b k:Nat}:mnr (yP g (a+1) (b+1)) k=yP (mnr g k) a b:=by
 funext i c
 unfold mnr yP
 congr 1
 by_cases h1:i=a
 ·rw [if_pos (by omega),if_pos h1]
 ·rw [if_neg (by omega),if_neg h1]
  by_cases h2:i=b
  ·rw [if_pos (by omega),if_pos h2]
  ·rw [if_neg (by omega),if_neg h2]
theorem aFJ:∀{n:Nat} {g:Nat→Nat→Rat} {i:Nat},i+1<n→dt n (yP g i (i+1))=-(dt n g)
 |0,_,_,h=>by omega
 |1,_,_,h=>by omega
 |n+2,g,0,_=>aJ8
 |n+2,g,i+1,h=>by
  rw [dt,dt,←aDp]
  refine eY fun k _=>?_
  rw [aM9,aFJ (show i+1<n+1 by omega)]
  have e1:yP g (i+1) (i+1+1) 0=g 0:=by unfold yP;rw [if_neg (by omega),if_neg (by omega)]
  rw [e1];grind
theorem aHv {n:Nat}:∀(t:Nat) {g:Nat→Nat→Rat} {i:Nat},i+t+1<n→dt n (yP g i (i+t+1))=-(dt n g)
 |0,g,i,h=>aFJ h
 |t+1,g,i,h=>by
  have e:yP g i (i+(t+1)+1)=yP (yP (yP g (i+t+1) (i+t+1+1)) i (i+t+1)) (i+t+1) (i+t+1+1):=by
   funext j
   unfold yP
   congr 1
   repeat' split
   all_goals omega
  rw [e,aFJ (by omega),aHv t (by omega),aFJ (by omega)];grind
theorem aKx {g:Nat→Nat→Rat} {a b:Nat}:yP g a b=yP g b a:=by
 funext j
 unfold yP
 congr 1
 repeat' split
 all_goals omega
structure Alt (h:Nat) (D:(Nat→Nat→Rat)→Rat):Prop where
 cong:∀g g':Nat→Nat→Rat,(∀i,i<h→g i=g' i)→D g=D g'
 lin:∀(g:Nat→Nat→Rat) (u v:Nat→Rat) (a:Rat) (i:Nat),i<h→D (iL g i (fun c=>u c-a*v c))=D (iL g i u)-a*D (iL g i v)
 swap:∀(g:Nat→Nat→Rat) (i j:Nat),i<h→j<h→i≠j→D (yP g i j)=-(D g)
theorem aDt (n:Nat):Alt n (dt n):=⟨fun g g' h=>sV fun i c hi _=>by rw [h i hi],fun g u v a i hi=>aHy hi,fun g i j hi hj hne=>by
 by_cases h:i<j
 ·obtain⟨t,rfl⟩:∃t,j=i+t+1:=⟨j-i-1,by omega⟩
  exact aHv t hj
 ·obtain⟨t,rfl⟩:∃t,i=j+t+1:=⟨i-j-1,by omega⟩
  rw [aKx]
  exact aHv t hi⟩
theorem Alt.zero {h:Nat} {D:(Nat→Nat→Rat)→Rat} (a:Alt h D) {g:Nat→Nat→Rat} {i:Nat} (hi:i<h) (hz:g i=fun _=>0):D g=0:=by
 have:=a.lin g (g i) (g i) 1 i hi
 have e:(fun c=>g i c-1*g i c)=g i:=by funext c;rw [hz];grind
 have e2:iL g i (g i)=g:=by
  funext j
  unfold iL
  split
  ·rename_i h;rw [h]
  ·rfl
 rw [e,e2] at this
 grind
theorem aKM {α:Type} {g:Nat→α} {i:Nat}:iL g i (g i)=g:=by
 funext j
 unfold iL
 split
 ·rename_i h;rw [h]
 ·rfl
theorem Alt.scale {h:Nat} {D:(Nat→Nat→Rat)→Rat} (a:Alt h D) {g:Nat→Nat→Rat} {u:Nat→Rat} {b:Rat} {i:Nat} (hi:i<h):D (iL g i (fun c=>b*u c))=b*D (iL g i u):=by
 have h1:=a.lin g (fun _=>0) u (-b) i hi
 have h2:D (iL g i (fun _=>0))=0:=a.zero hi aX
 rw [h2] at h1
 have e:(fun c=>(0:Rat)- -b*u c)=fun c=>b*u c:=by funext c;grind
 rw [e] at h1
 rw [h1];grind
theorem Alt.same {h:Nat} {D:(Nat→Nat→Rat)→Rat} (a:Alt h D) {g:Nat→Nat→Rat} {i j:Nat} (hi:i<h) (hj:j<h) (hne:i≠j) (he:g i=g j):D g=0:=by
 have h1:=a.swap g i j hi hj hne
 have e:yP g i j=g:=by
  funext l
  unfold yP
  split
  ·rename_i h;rw [h,he]
  ·split
   ·rename_i h;rw [h,he]
   ·rfl
 rw [e] at h1
 grind
theorem Alt.add {h:Nat} {D:(Nat→Nat→Rat)→Rat} (a:Alt h D) {g:Nat→Nat→Rat} {b:Rat} {i j:Nat} (hi:i<h) (hj:j<h) (hne:i≠j):D (iL g i (fun c=>g i c-b*g j c))=D g:=by
 rw [a.lin g (g i) (g j) b i hi,aKM,a.same (g:=iL g i (g j)) hi hj hne (by rw [aX,cF (fun e=>hne e.symm)])]
 grind
def elm (g:Nat→Nat→Rat) (n k j i c:Nat):Rat:=if i<j∧i≠n then g i c-g i k*g n c else g i c
theorem Alt.elm0 {h:Nat} {D:(Nat→Nat→Rat)→Rat} (a:Alt h D) {g:Nat→Nat→Rat} {n k:Nat} (hn:n<h):∀j,j≤h→D (elm g n k j)=D g
 |0,_=>a.cong _ _ fun i _=>by
  funext c
  exact if_neg (by omega)
 |j+1,hj=>by
  refine Eq.trans ?_ (Alt.elm0 (k:=k) a hn j (by omega))
  by_cases he:j=n
  ·refine a.cong _ _ fun i _=>?_
   funext c
   unfold elm
   by_cases h1:i<j
   ·rw [if_pos ⟨by omega,by omega⟩,if_pos ⟨h1,by omega⟩]
   ·rw [if_neg (by omega),if_neg (by omega)]
  ·refine Eq.trans ?_ (a.add (g:=elm g n k j) (b:=g j k) (show j<h by omega) hn he)
   refine a.cong _ _ fun i _=>?_
   funext c
   by_cases h1:i=j
   ·subst h1
    rw [aX]
    unfold elm
    rw [if_pos ⟨by omega,he⟩,if_neg (by omega),if_neg (by omega)]
   ·rw [cF h1]
    unfold elm
    by_cases h2:i<j∧i≠n
    ·rw [if_pos ⟨by omega,h2.2⟩,if_pos h2]
    ·rw [if_neg (by omega),if_neg h2]
theorem Alt.stp0 {h:Nat} {D:(Nat→Nat→Rat)→Rat} (a:Alt h D) {g:Nat→Nat→Rat} {n at0 k:Nat} (hn:n<h) (ha:at0<h) (hne:g at0 k≠0):D g=(if at0=n then 1 else -1)*g at0 k*D (stp g n at0 k):=by
 have e1:D (yP g n at0)=(if at0=n then 1 else -1)*D g:=by
  by_cases h1:at0=n
  ·rw [if_pos h1]
   have:yP g n at0=g:=by
    funext i
    unfold yP
    split
    ·rw [h1];congr 1;omega
    ·split
     ·congr 1;omega
     ·rfl
   rw [this];grind
  ·rw [if_neg h1,a.swap g n at0 hn ha (fun e=>h1 e.symm)];grind
 have e2:D (yP g n at0)=g at0 k*D (iL (yP g n at0) n (pr g at0 k)):=by
  rw [←a.scale hn]
  congr 1
  funext i
  by_cases h1:i=n
  ·subst h1
   rw [aX]
   funext c
   unfold yP pr
   rw [if_pos rfl,Rat.div_def,Rat.mul_comm (g at0 c),←Rat.mul_assoc,Rat.mul_inv_cancel _ hne,Rat.one_mul]
  ·rw [cF h1]
 have e3:D (stp g n at0 k)=D (iL (yP g n at0) n (pr g at0 k)):=by
  rw [←a.elm0 (g:=iL (yP g n at0) n (pr g at0 k)) (n:=n) (k:=k) hn h (Nat.le_refl _)]
  refine a.cong _ _ fun i hi=>?_
  funext c
  unfold stp elm
  by_cases h1:i=n
  ·subst h1
   rw [if_pos rfl,if_neg (by omega),aX]
  ·rw [if_neg h1,if_pos ⟨hi,h1⟩,cF h1,aX]
 rw [e3]
 have e4:D g=(if at0=n then 1 else -1)*D (yP g n at0):=by
  rw [e1]
  split<;>grind
 rw [e4,e2];grind
theorem Alt.red0 {h:Nat} {D:(Nat→Nat→Rat)→Rat} (a:Alt h D) {g:Nat→Nat→Rat}:∀k,D g=(red g h k).d*D (red g h k).g
 |0=>by simp only [red];grind
 |k+1=>by
  refine(Alt.red0 a k).trans ?_
  have hl:=(aIb (g:=g) (h:=h) k).ph
  simp only [red]
  generalize red g h k=s at *
  unfold aE8
  split
  ·rfl
  ·rename_i hat
   have hp:=aHu (g:=s.g) (k:=k) (h-s.ps.length) s.ps.length
   have hlt:piv s.g k (h-s.ps.length) s.ps.length<h:=by omega
   have hne:=aL0 (g:=s.g) (k:=k) (h-s.ps.length) s.ps.length (by omega)
   rw [a.stp0 (g:=s.g) (n:=s.ps.length) (at0:=piv s.g k (h-s.ps.length) s.ps.length) (k:=k) (by omega) hlt hne]
   simp only
   split<;>grind
end Go.Proofs.YtcjdedkdoagifaaGreat
set_option linter.unusedVariables false
namespace Go.Proofs.YtcjdedkdoagifaaGreat
end Go.Proofs.YtcjdedkdoagifaaGreat
set_option linter.unusedVariables false
namespace Go.Proofs.YtcjdedkdoagifaaGreat
end Go.Proofs.YtcjdedkdoagifaaGreat
set_option linter.unusedVariables false
namespace Go.Proofs.YtcjdedkdoagifaaGreat
/-- A matrix times a vector. -/
def aHb (g:Nat→Nat→Rat) (v:Nat→Rat) (w i:Nat):Rat:=sm (fun c=>g i c*v c) w
end Go.Proofs.YtcjdedkdoagifaaGreat
set_option linter.unusedVariables false
namespace Go.Proofs.YtcjdedkdoagifaaGreat
/-- A vector and the right side. -/
def ext (x:Nat→Rat) (w c:Nat):Rat:=if c<w then x c else -1
end Go.Proofs.YtcjdedkdoagifaaGreat
set_option linter.unusedVariables false
namespace Go.Proofs.YtcjdedkdoagifaaGreat
/-- A turned matrix. -/
def tr (g:Nat→Nat→Rat) (i k:Nat):Rat:=g k i
theorem aEL {g:Nat→Nat→Rat} {h w c:Nat} (hh:h≤100) (hc:c<w) (K:Nat):∀(t i k:Nat),i+t=h→t<k→k7 K (mx g h w) (c:Int) k (mp (tr g c) i) (i:Int)=some (mp (tr g c) h)
 |0,i,k,hi,hk=>by
  obtain⟨k',rfl,_⟩:=a9 hk
  have:i=h:=by omega
  subst this
  simp only [k7,tK,dF (show¬(i:Int)<(i:Int) by omega),bM]
 |t+1,i,k,hi,hk=>by
  obtain⟨k',rfl,_⟩:=a9 hk
  have hl:i<h:=by omega
  have e4:qW (mp (tr g c) i) [g i c]=some (mp (tr g c) (i+1)):=apM (g:=tr g c) (by omega)
  simp only [k7,tK,dT (show(i:Int)<(h:Int) by omega),bT,aA8 (g:=g) (w:=w) hl,oB,dR (f:=g i) hc,e4,mF (i:=i) (by omega)]
  exact aEL hh hc K t (i+1) k' (by omega) (by omega)
theorem aD6 {g:Nat→Nat→Rat} {h w:Nat} (hc:Cok h w) (hh:h≤100) (hw:w≤100) {K:Nat} (hK:h<K):∀(t i k:Nat),i+t=w→t<k→kR K (mx g h w) k (mx (tr g) i h) (i:Int)=some (mx (tr g) w h)
 |0,i,k,hi,hk=>by
  obtain⟨k',rfl,_⟩:=a9 hk
  have:i=w:=by omega
  subst this
  simp only [kR,aF1 hc,oB,dF (show¬(i:Int)<(i:Int) by omega),bM]
 |t+1,i,k,hi,hk=>by
  obtain⟨k',rfl,_⟩:=a9 hk
  have h50:=aEL (g:=g) hh (show i<w by omega) K h 0 K (by omega) hK
  simp only [Int.natCast_zero,y8] at h50
  have e4:qW (mx (tr g) i h) [mp (tr g i) h]=some (mx (tr g) (i+1) h):=apM (g:=fun i=>mp (tr g i) h) (by omega)
  simp only [kR,aF1 hc,dT (show(i:Int)<(w:Int) by omega),bT,oB,h50,uN,e4,mF (i:=i) (by omega)]
  exact aD6 hc hh hw hK t (i+1) k' (by omega) (by omega)
theorem aKh {g:Nat→Nat→Rat} {h w:Nat} (hc:Cok h w) (hh:h≤100) (hw:w≤100) {K:Nat} (hK:w+h<K):tP K (mx g h w)=some (mx (tr g) w h):=by
 have:=aD6 (g:=g) hc hh hw (K:=K) (by omega) w 0 K (by omega) (by omega)
 have e:mx (tr g) 0 h=[]:=rfl
 rw [e] at this
 simp only [Int.natCast_zero] at this
 simp only [tP,this,oB,uJ]
def xR (g q:Nat→Nat→Rat) (w i j:Nat):Rat:=aHb (tr q) (g i) w j
end Go.Proofs.YtcjdedkdoagifaaGreat
set_option linter.unusedVariables false
namespace Go.Proofs.YtcjdedkdoagifaaGreat
theorem aP9:sgn 0=1:=rfl
def wI (i c:Nat):Rat:=if i=c then 1 else 0
theorem aCE:∀n,dt n wI=1
 |0=>rfl
 |n+1=>by
  rw [dt,aB0 (p:=0) (by omega) fun k _ hk=>by unfold wI;rw [if_neg (fun e=>hk e.symm)];grind]
  have e:dt n (mnr wI 0)=dt n wI:=sV fun i c _ _=>by
   unfold mnr wI skp
   rw [if_neg (Nat.not_lt_zero c)]
   by_cases h:i=c
   ·rw [if_pos h,if_pos (by omega)]
   ·rw [if_neg h,if_neg (by omega)]
  rw [e,aCE n,aP9]
  unfold wI
  rw [if_pos rfl];grind
theorem aLt {h k:Nat} {s:RS} (hs:RJ h k s):∀i,i<s.ps.length→i≤pat s.ps i
 |0,_=>Nat.zero_le _
 |i+1,hi=>by
  have:=aLt hs i (by omega)
  have:=hs.inc i (i+1) (by omega) hi
  omega
theorem aGs {h k:Nat} {s:RS} (hs:RJ h k s):∀t i,i+t+1=s.ps.length→pat s.ps i+t<k
 |0,i,hi=>hs.pk i (by omega)
 |t+1,i,hi=>by
  have:=aGs hs t (i+1) (by omega)
  have:=hs.inc i (i+1) (by omega) (by omega)
  omega
theorem aKq {h k:Nat} {s:RS} (hs:RJ h k s) (hf:s.ps.length=k) {i:Nat} (hi:i<k):pat s.ps i=i:=by
 have h1:=aLt hs i (by omega)
 have h2:=aGs hs (k-1-i) i (by omega)
 omega
theorem aB7 {h k:Nat} {s:RS} (hs:RJ h k s) (hf:s.ps.length=k) {i c:Nat} (hi:i<h) (hc:c<k):s.g i c=if i=c then 1 else 0:=by
 have:=hs.one c i (by omega) hi
 rw [aKq hs hf hc] at this
 exact this
def aOI (g:Nat→Nat→Rat) (n:Nat):Rat:=if(red g n n).ps.length=n then(red g n n).d else 0
theorem aPf {g:Nat→Nat→Rat} {n:Nat}:dt n g=aOI g n:=by
 have hJ:=aIb (g:=g) (h:=n) n
 unfold aOI
 rw [(aDt n).red0 (g:=g) n]
 split
 ·rename_i hf
  rw [sV (g':=wI) fun i c hi hc=>aB7 hJ hf hi hc,aCE];grind
 ·rename_i hf
  have hlt:(red g n n).ps.length<n:=by have:=hJ.ph;omega
  rw [sV (g':=fun i c=>if c<n then(red g n n).g i c else 0) fun i c hi hc=>by rw [if_pos hc],(aDt n).zero (i:=n-1) (by omega) ?_]
  ·grind
  ·funext c
   split
   ·rename_i hc
    exact hJ.z (n-1) c (by omega) (by omega) hc
   ·rfl
theorem aLB (q:Nat→Nat→Rat) (n w:Nat):Alt n fun g=>dt n (xR g q w):=by
 have eu:∀(g:Nat→Nat→Rat) (f:Nat→Rat) (i:Nat),xR (iL g i f) q w=iL (xR g q w) i (fun j=>aHb (tr q) f w j):=by
  intro g f i
  funext j c
  unfold xR
  by_cases h:j=i
  ·subst h;rw [aX,aX]
  ·rw [cF h,cF h]
 refine⟨fun g g' h=>sV fun i c hi _=>?_,fun g u v a i hi=>?_,fun g i j hi hj hne=>?_⟩
 ·unfold xR;rw [h i hi]
 ·show dt n _=dt n _-a*dt n _
  rw [eu,eu,eu,←aHy hi]
  congr 2
  funext j
  unfold aHb
  rw [←aDx]
  exact eY fun c _=>by grind
 ·exact(aDt n).swap (xR g q w) i j hi hj hne
theorem aLb {g q:Nat→Nat→Rat} {n:Nat}:dt n (xR g q n)=dt n g*dt n q:=by
 have hJ:=aIb (g:=g) (h:=n) n
 have hm:dt n (xR g q n)=(red g n n).d*dt n (xR (red g n n).g q n):=(aLB q n n).red0 (g:=g) n
 rw [hm,aPf (g:=g)]
 unfold aOI
 split
 ·rename_i hf
  rw [sV (g:=xR (red g n n).g q n) (g':=q) fun i c hi hc=>?_]
  unfold xR aHb tr
  rw [aB0 (p:=i) hi fun j hj hne=>by rw [aB7 hJ hf hi hj,if_neg (fun e=>hne e.symm)];grind]
  rw [aB7 hJ hf hi hi,if_pos rfl];grind
 ·rename_i hf
  have hlt:(red g n n).ps.length<n:=by have:=hJ.ph;omega
  rw [(aDt n).zero (g:=xR (red g n n).g q n) (i:=n-1) (by omega) (by
   funext c
   unfold xR aHb
   exact aAy fun j hj=>by rw [hJ.z (n-1) j (by omega) (by omega) hj];grind)]
  grind
end Go.Proofs.YtcjdedkdoagifaaGreat
set_option linter.unusedVariables false
namespace Go.Proofs.YtcjdedkdoagifaaGreat
/-- The unit matrix with one column replaced. -/
def aHc (i:Nat) (x:Nat→Rat) (r c:Nat):Rat:=if c=i then x r else if r=c then 1 else 0
theorem aM2 {n i:Nat} (hi:i<n) (x:Nat→Rat):dt n (aHc i x)=x i:=by
 have a:=aDt n
 have e1:aHc i x=iL (aHc i x) i (fun c=>x i*wI i c):=by
  funext r c
  by_cases h:r=i
  ·subst h
   rw [aX]
   unfold aHc wI
   by_cases h2:c=r
   ·rw [if_pos h2,if_pos h2.symm,Rat.mul_one]
   ·rw [if_neg h2,if_neg (show¬r=c from fun e=>h2 e.symm),Rat.mul_zero]
  ·rw [cF h]
 have e2:dt n (iL (aHc i x) i (wI i))=1:=by
  rw [←a.elm0 (g:=iL (aHc i x) i (wI i)) (n:=i) (k:=i) hi n (Nat.le_refl n),←aCE n]
  refine sV fun r c hr hc=>?_
  unfold elm
  by_cases h:r=i
  ·subst h
   rw [if_neg (fun h2=>h2.2 rfl),aX]
  ·rw [if_pos ⟨hr,h⟩,cF h,aX]
   unfold aHc wI
   rw [if_pos rfl]
   by_cases h2:c=i
   ·rw [if_pos h2,if_pos h2.symm,Rat.mul_one,Rat.sub_self,if_neg (by omega)]
   ·rw [if_neg h2,if_neg (show¬i=c from fun e=>h2 e.symm),Rat.mul_zero,Rat.sub_eq_add_neg,Rat.neg_zero,Rat.add_zero]
 rw [e1,a.scale hi,e2,Rat.mul_one]
def aHY (Z:Nat→Nat→Rat) (b:Nat→Nat) (r j:Nat):Rat:=Z r (b j)
def aEA (Z:Nat→Nat→Rat) (b:Nat→Nat) (i k:Nat) (r j:Nat):Rat:=if j=i then Z r k else Z r (b j)
theorem aOB {n w:Nat} {E Z T:Nat→Nat→Rat} {b:Nat→Nat} (hT:∀i c,i<n→c<w→T i c=xR E Z n i c) (hb:∀j,j<n→b j<w) (hu:∀i j,i<n→j<n→T i (b j)=if i=j then 1 else 0) {i k:Nat} (hi:i<n) (hk:k<w):dt n (aHY Z b)≠0∧T i k=dt n (aEA Z b i k)/dt n (aHY Z b):=by
 have h1:dt n E*dt n (aHY Z b)=1:=by
  rw [←aLb,←aCE n]
  refine sV fun r c hr hc=>?_
  show xR E Z n r (b c)=_
  rw [←hT r (b c) hr (hb c hc),hu r c hr hc];rfl
 have h2:dt n E*dt n (aEA Z b i k)=T i k:=by
  rw [←aLb,←aM2 hi (fun r=>T r k)]
  refine sV fun r c hr hc=>?_
  unfold aHc
  by_cases h:c=i
  ·rw [if_pos h]
   show _=T r k
   rw [hT r k hr hk]
   unfold xR aHb tr aEA
   simp [h]
  ·rw [if_neg h,←hu r c hr hc,hT r (b c) hr (hb c hc)]
   unfold xR aHb tr aEA
   simp [h]
 have hne:dt n (aHY Z b)≠0:=fun e=>by rw [e,Rat.mul_zero] at h1;exact absurd h1 (by decide)
 refine⟨hne,?_⟩
 rw [←h2,Rat.div_def]
 have:dt n E=(dt n (aHY Z b))⁻¹:=by
  have h3:=congrArg (·*(dt n (aHY Z b))⁻¹) h1
  simp only [Rat.mul_assoc,Rat.mul_inv_cancel _ hne,Rat.mul_one,Rat.one_mul] at h3
  exact h3
 rw [this,Rat.mul_comm]
def isZ (M:Nat) (x:Rat):Prop:=∃q:Int,x=(q:Rat)∧q.natAbs≤M
def fM (M:Nat):Nat→Nat
 |0=>1
 |n+1=>(n+1)*(M*fM M n)
theorem isZ.mono {M N:Nat} {x:Rat} (h:isZ M x) (hn:M≤N):isZ N x:=by
 obtain⟨q,h1,h2⟩:=h
 exact⟨q,h1,by omega⟩
theorem isZ.add {M N:Nat} {x y:Rat} (h:isZ M x) (k:isZ N y):isZ (M+N) (x+y):=by
 obtain⟨q,h1,h2⟩:=h
 obtain⟨p,k1,k2⟩:=k
 exact⟨q+p,by rw [h1,k1,Rat.intCast_add],by omega⟩
theorem isZ.mul {M N:Nat} {x y:Rat} (h:isZ M x) (k:isZ N y):isZ (M*N) (x*y):=by
 obtain⟨q,h1,h2⟩:=h
 obtain⟨p,k1,k2⟩:=k
 exact⟨q*p,by rw [h1,k1,Rat.intCast_mul],by rw [Int.natAbs_mul];exact Nat.mul_le_mul h2 k2⟩
theorem isZ.zero:isZ 0 0:=⟨0,rfl,Nat.le_refl _⟩
theorem aQI (k:Nat):isZ 1 (sgn k):=by
 unfold sgn
 split
 ·exact⟨1,rfl,by decide⟩
 ·exact⟨-1,rfl,by decide⟩
theorem aQM {f:Nat→Rat} {M:Nat}:∀n,(∀i,i<n→isZ M (f i))→isZ (n*M) (sm f n)
 |0,_=>by rw [Nat.zero_mul];exact isZ.zero
 |n+1,h=>by
  have:=(aQM n fun i hi=>h i (by omega)).add (h n (by omega))
  rw [Nat.succ_mul];exact this
theorem aOS {M:Nat}:∀(n:Nat) (g:Nat→Nat→Rat),(∀i c,i<n→c<n→isZ M (g i c))→isZ (fM M n) (dt n g)
 |0,g,h=>⟨1,rfl,Nat.le_refl _⟩
 |n+1,g,h=>aQM (n+1) fun k hk=>by
  have h1:=aOS n (mnr g k) fun i c hi hc=>h (i+1) (skp k c) (by omega) (aKj hc)
  have h2:=(aQI k).mul ((h 0 k (by omega) hk).mul h1)
  rw [Nat.one_mul] at h2
  first|exact h2|(rw [Rat.mul_assoc];exact h2)
theorem aJU {n w M k:Nat} {E Z T:Nat→Nat→Rat} {b:Nat→Nat} (hT:∀i c,i<n→c<w→T i c=xR E Z n i c) (hb:∀j,j<n→b j<w) (hu:∀i j,i<n→j<n→T i (b j)=if i=j then 1 else 0) (hZ:∀i c,i<n→c<w→isZ M (Z i c)) (hM:fM M n<2^k):Bdx n w k T:=fun i c hi hc=>by
 obtain⟨h1,h2⟩:=aOB hT hb hu hi hc
 obtain⟨p,p1,p2⟩:=aOS n (aEA Z b i c) fun r j hr hj=>by
  unfold aEA
  split
  ·exact hZ r c hr hc
  ·exact hZ r (b j) hr (hb j hj)
 obtain⟨q,q1,q2⟩:=aOS n (aHY Z b) fun r j hr hj=>hZ r (b j) hr (hb j hj)
 rw [h2,p1,q1]
 refine Bd.of (fun e=>h1 (by rw [q1,e];rfl)) (Nat.lt_of_le_of_lt p2 hM) (Nat.lt_of_le_of_lt q2 hM)
end Go.Proofs.YtcjdedkdoagifaaGreat
set_option linter.unusedVariables false
namespace Go.Proofs.YtcjdedkdoagifaaGreat
/-- A tableau: its rows are combinations of those of Z, and the columns of the basic variables are those of the unit matrix. -/
structure TI (n w:Nat) (Z T:Nat→Nat→Rat) (b:Nat→Nat):Prop where
 ex:∃E:Nat→Nat→Rat,∀i c,i<n→c<w→T i c=xR E Z n i c
 lt:∀j,j<n→b j<w
 un:∀i j,i<n→j<n→T i (b j)=if i=j then 1 else 0
def t5 (T:Nat→Nat→Rat) (r c i k:Nat):Rat:=if i=r then T r k/T r c else T i k-T i c*(T r k/T r c)
theorem aAz {E Z:Nat→Nat→Rat} {n i k:Nat}:xR E Z n i k=sm (fun j=>Z j k*E i j) n:=by
 unfold xR aHb tr
 first|rfl|(refine eY fun j _=>?_;first|rfl|exact Rat.mul_comm _ _)
theorem TI.pivot {n w:Nat} {Z T:Nat→Nat→Rat} {b:Nat→Nat} (h:TI n w Z T b) {r c:Nat} (hr:r<n) (hc:c<w) (hp:T r c≠0):TI n w Z (t5 T r c) (iL b r c):=by
 obtain⟨⟨E,hE⟩,hb,hu⟩:=h
 refine⟨⟨fun i j=>if i=r then E r j/T r c else E i j-T i c*(E r j/T r c),fun i k hi hk=>?_⟩,fun j hj=>?_,fun i j hi hj=>?_⟩
 ·rw [aAz]
  have e1:T r k/T r c=sm (fun j=>Z j k*(E r j/T r c)) n:=by
   rw [hE r k hr hk,aAz,Rat.div_def,Rat.mul_comm,←w9]
   refine eY fun j _=>?_
   rw [Rat.div_def,Rat.mul_comm,Rat.mul_assoc]
  unfold t5
  by_cases e:i=r
  ·rw [if_pos e,e1]
   exact eY fun j _=>by rw [if_pos e]
  ·rw [if_neg e,hE i k hi hk,aAz,e1,←w9,Rat.sub_eq_add_neg,←aDp,←aE6]
   refine eY fun j _=>?_
   rw [if_neg e,Rat.sub_eq_add_neg,Rat.mul_add,Rat.mul_neg,←Rat.mul_assoc,←Rat.mul_assoc,Rat.mul_comm (T i c)]
 ·by_cases e:j=r
  ·rw [e,aX];exact hc
  ·rw [cF e];exact hb j hj
 ·unfold t5
  by_cases e:j=r
  ·rw [e,aX,Rat.div_def,Rat.mul_inv_cancel _ hp]
   by_cases e2:i=r
   ·rw [if_pos e2,if_pos e2]
   ·rw [if_neg e2,if_neg e2,Rat.mul_one,Rat.sub_self]
  ·have h0:T r (b j)=0:=by rw [hu r j hr hj,if_neg fun h=>e h.symm]
   rw [cF e,h0,Rat.div_def,Rat.zero_mul]
   by_cases e2:i=r
   ·rw [if_pos e2,if_neg (by omega)]
   ·rw [if_neg e2,Rat.mul_zero,Rat.sub_eq_add_neg,Rat.neg_zero,Rat.add_zero]
    exact hu i j hi hj
theorem TI.start {n w:Nat} {Z:Nat→Nat→Rat} (hw:n≤w) (hz:∀i j,i<n→j<n→Z i j=if i=j then 1 else 0):TI n w Z Z (fun j=>j):=
 ⟨⟨wI,fun i c hi hc=>by
  rw [aAz]
  have:sm (fun j=>Z j c*wI i j) n=sm (fun j=>if j=i then Z i c else 0) n:=eY fun j _=>by
   unfold wI
   by_cases e:j=i
   ·rw [if_pos e,e,if_pos rfl,Rat.mul_one]
   ·rw [if_neg e,if_neg (fun h=>e h.symm),Rat.mul_zero]
  rw [this]
  have key:∀m,m≤n→sm (fun j=>if j=i then Z i c else 0) m=if i<m then Z i c else 0:=by
   intro m
   induction m with
   |zero=>intro _;rw [if_neg (by omega)];rfl
   |succ m ih=>
    intro hm
    show sm _ m+(if m=i then Z i c else 0)=_
    rw [ih (by omega)]
    by_cases e:m=i
    ·rw [if_pos e,if_neg (by omega),if_pos (by omega),Rat.zero_add]
    ·rw [if_neg e,Rat.add_zero]
     by_cases e2:i<m
     ·rw [if_pos e2,if_pos (by omega)]
     ·rw [if_neg e2,if_neg (by omega)]
  rw [key n (Nat.le_refl n),if_pos hi]⟩,fun j hj=>by omega,fun i j hi hj=>hz i j hi hj⟩
theorem aOt {M:Nat}:∀n,n≤64→fM M n≤(64*M)^n
 |0,_=>Nat.le_refl _
 |n+1,h=>by
  show(n+1)*(M*fM M n)≤_
  rw [Nat.pow_succ,Nat.mul_comm ((64*M)^n),←Nat.mul_assoc]
  exact Nat.mul_le_mul (Nat.mul_le_mul_right M h) (aOt n (by omega))
theorem TI.scale {n w:Nat} {Z T:Nat→Nat→Rat} {b:Nat→Nat} (h:TI n w Z T b) {D:Rat} (hD:D≠0):TI n w (fun i c=>Z i c*D) T b:=by
 obtain⟨⟨E,hE⟩,hb,hu⟩:=h
 refine⟨⟨fun i j=>E i j/D,fun i c hi hc=>?_⟩,hb,hu⟩
 rw [hE i c hi hc,aAz,aAz]
 refine eY fun j _=>?_
 rw [Rat.div_def,Rat.mul_comm (E i j),Rat.mul_assoc,←Rat.mul_assoc D,Rat.mul_inv_cancel _ hD,Rat.one_mul]
theorem TI.bd {n w M k:Nat} {Z T:Nat→Nat→Rat} {b:Nat→Nat} {D:Rat} (h:TI n w Z T b) (hD:D≠0) (hZ:∀i c,i<n→c<w→isZ M (Z i c*D)) (hn:n≤64) (hM:(64*M)^n<2^k):Bdx n w k T:=by
 obtain⟨⟨E,hE⟩,hb,hu⟩:=h.scale hD
 exact aJU hE hb hu hZ (Nat.lt_of_le_of_lt (aOt n hn) hM)
end Go.Proofs.YtcjdedkdoagifaaGreat
set_option linter.unusedVariables false
namespace Go.Proofs.YtcjdedkdoagifaaGreat
/-- A degree of freedom with small numbers. -/
def aNL (d:aG):Prop:=Bd 8 d.inv∧d.inv≠0∧Bd 8 d.load
def dof (d:List aG) (i:Nat):aG:=d.getD i ⟨0,0,false,0,0⟩
def aO9 (d:List aG):Prop:=∀x∈d,aNL x
end Go.Proofs.YtcjdedkdoagifaaGreat
set_option linter.unusedVariables false
namespace Go.Proofs.YtcjdedkdoagifaaGreat
/-- Terms that are few and small. -/
def TB (l:List aE):Prop:=l.length≤12∧∀t∈l,Bd 8 t.k
def RB (r:aA):Prop:=TB r.j∧TB r.t
def RsB (l:List aA):Prop:=∀r∈l,RB r
theorem TB.nil:TB []:=⟨by simp,fun t h=>absurd h List.not_mem_nil⟩
theorem RsB.nil:RsB []:=fun t h=>absurd h List.not_mem_nil
theorem RsB.snoc {l:List aA} {r:aA} (h:RsB l) (hr:RB r):RsB (l++[r]):=fun x hx=>by
 rcases List.mem_append.1 hx with h1|h1
 ·exact h x h1
 ·rw [List.mem_singleton.1 h1];exact hr
def RC (r:aA):Prop:=RB r∧Bd 8 r.mu
def RsC (l:List aA):Prop:=∀r∈l,RC r
theorem RsC.snoc {l:List aA} {r:aA} (h:RsC l) (hr:RC r):RsC (l++[r]):=fun x hx=>by
 rcases List.mem_append.1 hx with h1|h1
 ·exact h x h1
 ·rw [List.mem_singleton.1 h1];exact hr
structure aON (s:aL):Prop where
 n1:1≤s.dofs.length
 n4:s.dofs.length≤4
 dofs:aO9 s.dofs
 ll:s.load.length=s.dofs.length
 vl:s.v.length=s.dofs.length
 load:vH 8 s.load
 v:vH 8 s.v
 rows:RsB s.rows
 rl:s.rows.length≤4
 mus:RsC s.rows
theorem tab7 {m:Int} (h0:0≤m) (h1:m<7):∃x,bK [0,1,(-1),0,2,(-1),1] m=some x∧-2≤x∧x≤2:=by
 have:m=0∨m=1∨m=2∨m=3∨m=4∨m=5∨m=6:=by omega
 rcases this with rfl|rfl|rfl|rfl|rfl|rfl|rfl<;>exact⟨_,rfl,by omega,by omega⟩
end Go.Proofs.YtcjdedkdoagifaaGreat
set_option linter.unusedVariables false
namespace Go.Proofs.YtcjdedkdoagifaaGreat
/-- What a term adds to a rate. -/
def trm (a:List Rat) (t:aE):Rat:=bif decide (0≤t.dof∧t.dof<(a.length:Int)) then t.k*pL a t.dof.toNat else 0
def rtf (a:List Rat):List aE→Rat→Rat
 |[],x=>x
 |t::l,x=>rtf a l (x+trm a t)
def rt (l:List aE) (a:List Rat):Rat:=rtf a l 0
theorem aHS {a:List Rat} {B:Nat} {t:aE} (ha:vH B a) (ht:Bd 8 t.k):Bd (8+B) (trm a t):=by
 unfold trm
 by_cases h:0≤t.dof∧t.dof<(a.length:Int)
 ·rw [decide_eq_true h]
  exact(ht.mul (ha _ (vR (by omega)))).mono (by omega)
 ·rw [decide_eq_false h]
  exact Bd.zero.mono (by omega)
theorem aLU {a:List Rat} {B:Nat} (ha:vH B a):∀(l:List aE) (x:Rat) (n:Nat),(∀t∈l,Bd 8 t.k)→Bd n x→Bd (n+(B+9)*l.length) (rtf a l x)
 |[],x,n,_,hx=>hx.mono (by simp)
 |t::l,x,n,hl,hx=>(aLU ha l (x+trm a t) (n+(8+B)+1) (fun t h=>hl t (List.mem_cons_of_mem _ h)) (hx.add (aHS ha (hl t List.mem_cons_self)))).mono (by simp only [List.length_cons,Nat.mul_succ];omega)
theorem xJ {a:List Rat} {B:Nat} {l:List aE} (ha:vH B a) (hl:TB l):Bd (1+(B+9)*12) (rt l a):=(aLU ha l 0 1 hl.2 Bd.zero).mono (by have:=Nat.mul_le_mul_left (B+9) hl.1;omega)
theorem aGp {a:List Rat} {l:List aE} (ha:vH 64 a) (hl:TB l):Bd 1000 (rt l a):=(xJ ha hl).mono (by omega)
theorem aD7 {l:List aE} {i:Nat} (h:i<l.length):∃x,x∈l∧l.drop i=x::l.drop (i+1)∧bK l (i:Int)=some x:=
 ⟨l[i],List.getElem_mem h,List.drop_eq_getElem_cons h,rdG (List.getElem?_eq_getElem h)⟩
theorem aCv {a:List Rat} {t:aE} (x:Rat) (h:¬(0≤t.dof∧t.dof<(a.length:Int))):x+trm a t=x:=by
 unfold trm;rw [decide_eq_false h];exact Rat.add_zero x
theorem aI0 {a:List Rat} {B:Nat} {l:List aE} (ha:vH B a) (hl:TB l) (K:Nat):∀(t i k n:Nat) (x:Rat),i+t=l.length→t<k→Bd n x→n+(B+9)*t≤1073741824→kQ K l a k x (i:Int)=some (rtf a (l.drop i) x)
 |0,i,k,n,x,hi,hk,hx,hn=>by
  obtain⟨k',rfl,_⟩:=a9 hk
  rw [List.drop_eq_nil_of_le (by omega)]
  simp only [kQ,dF (show¬(i:Int)<(l.length:Int) by omega),bM];rfl
 |t+1,i,k,n,x,hi,hk,hx,hn=>by
  have h12:=hl.1
  obtain⟨k',rfl,_⟩:=a9 hk
  obtain⟨y,h1,h2,h3⟩:=aD7 (l:=l) (i:=i) (by omega)
  have hB:(B+9)*(t+1)=(B+9)*t+(B+9):=Nat.mul_succ _ _
  have ih:=aI0 ha hl K t (i+1) k' (n+(8+B)+1) (x+trm a y) (by omega) (by omega) (hx.add (aHS ha (hl.2 y h1))) (by omega)
  rw [h2]
  show _=some (rtf a (l.drop (i+1)) (x+trm a y))
  simp only [kQ,dT (show(i:Int)<(l.length:Int) by omega),bT,h3,oB]
  by_cases h0:0≤y.dof
  ·simp only [dT h0,bT]
   by_cases h4:y.dof<(a.length:Int)
   ·have e:y.dof=((y.dof.toNat:Nat):Int):=by omega
    have hr:bK a y.dof=some (pL a y.dof.toNat):=by
     have:=aHt (l:=a) (i:=y.dof.toNat) (by omega)
     rwa [←e] at this
    have hv:=ha _ (vR (l:=a) (i:=y.dof.toNat) (by omega))
    have ht:trm a y=y.k*pL a y.dof.toNat:=by unfold trm;rw [decide_eq_true ⟨h0,h4⟩];rfl
    rw [ht] at ih ⊢
    simp only [dT h4,bT,hr,oB,oT (hl.2 y h1) hv (by omega) (by omega),t7 hx ((hl.2 y h1).mul hv) (by omega) (by omega),mF (i:=i) (by omega)]
    exact ih
   ·rw [aCv x (fun h=>h4 h.2)] at ih ⊢
    simp only [dF h4,bM,mF (i:=i) (by omega),oB]
    exact ih
  ·rw [aCv x (fun h=>h0 h.1)] at ih ⊢
   simp only [dF h0,bM,mF (i:=i) (by omega),oB]
   exact ih
theorem uC {a:List Rat} {B:Nat} {l:List aE} (ha:vH B a) (hB:B≤80000000) (hl:TB l) {K:Nat} (hK:13≤K):eF K l a=some (rt l a):=by
 have h:=hl.1
 have h2:=Nat.mul_le_mul_left (B+9) h
 have:=aI0 ha hl K l.length 0 K 1 0 (by omega) (by omega) Bd.zero (by omega)
 simp only [Int.natCast_zero,List.drop_zero] at this
 simp only [eF,this,oB,uG];rfl
theorem aE9 {a:List Rat} {l:List aE} (ha:vH 64 a) (hl:TB l) {K:Nat} (hK:13≤K):eF K l a=some (rt l a):=uC ha (by omega) hl hK
theorem aGZ {a:List Rat} {B:Nat} {l:List aE} (ha:vH B a) (hl:TB l) (K:Nat):∀(t i k n:Nat) (x:Rat),i+t=l.length→t<k→Bd n x→n+(B+9)*t≤1073741824→gS K l a k x (i:Int)=some (rtf a (l.drop i) x)
 |0,i,k,n,x,hi,hk,hx,hn=>by
  obtain⟨k',rfl,_⟩:=a9 hk
  rw [List.drop_eq_nil_of_le (by omega)]
  simp only [gS,dF (show¬(i:Int)<(l.length:Int) by omega),bM];rfl
 |t+1,i,k,n,x,hi,hk,hx,hn=>by
  have h12:=hl.1
  obtain⟨k',rfl,_⟩:=a9 hk
  obtain⟨y,h1,h2,h3⟩:=aD7 (l:=l) (i:=i) (by omega)
  have hB:(B+9)*(t+1)=(B+9)*t+(B+9):=Nat.mul_succ _ _
  have ih:=aGZ ha hl K t (i+1) k' (n+(8+B)+1) (x+trm a y) (by omega) (by omega) (hx.add (aHS ha (hl.2 y h1))) (by omega)
  rw [h2]
  show _=some (rtf a (l.drop (i+1)) (x+trm a y))
  simp only [gS,dT (show(i:Int)<(l.length:Int) by omega),bT,h3,oB]
  by_cases h0:0≤y.dof
  ·simp only [dT h0,bT]
   by_cases h4:y.dof<(a.length:Int)
   ·have e:max y.dof 0=((y.dof.toNat:Nat):Int):=by omega
    have hr:bK a (max y.dof 0)=some (pL a y.dof.toNat):=by
     rw [e];exact aHt (l:=a) (i:=y.dof.toNat) (by omega)
    have hv:=ha _ (vR (l:=a) (i:=y.dof.toNat) (by omega))
    have ht:trm a y=y.k*pL a y.dof.toNat:=by unfold trm;rw [decide_eq_true ⟨h0,h4⟩];rfl
    rw [ht] at ih ⊢
    simp only [dT h4,bT,hr,oB,oT (hl.2 y h1) hv (by omega) (by omega),t7 hx ((hl.2 y h1).mul hv) (by omega) (by omega),mF (i:=i) (by omega)]
    exact ih
   ·rw [aCv x (fun h=>h4 h.2)] at ih ⊢
    simp only [dF h4,bM,mF (i:=i) (by omega),oB]
    exact ih
  ·rw [aCv x (fun h=>h0 h.1)] at ih ⊢
   simp only [dF h0,bM,mF (i:=i) (by omega),oB]
   exact ih
theorem aAB {a:List Rat} {B:Nat} {l:List aE} (ha:vH B a) (hB:B≤80000000) (hl:TB l) {K:Nat} (hK:13≤K):iH K l a=some (rt l a):=by
 have h:=hl.1
 have h2:=Nat.mul_le_mul_left (B+9) h
 have:=aGZ ha hl K l.length 0 K 1 0 (by omega) (by omega) Bd.zero (by omega)
 simp only [Int.natCast_zero,List.drop_zero] at this
 simp only [iH,this,oB,uX];rfl
theorem aG6 {a:List Rat} {l:List aE} (ha:vH 64 a) (hl:TB l) {K:Nat} (hK:13≤K):iH K l a=some (rt l a):=aAB ha (by omega) hl hK
theorem aBW {l:List aA} {i:Nat} (h:i<l.length):∃x,x∈l∧l.drop i=x::l.drop (i+1)∧bK l (i:Int)=some x:=
 ⟨l[i],List.getElem_mem h,List.drop_eq_getElem_cons h,rdG (List.getElem?_eq_getElem h)⟩
theorem aPT {l:List aA} {f:aA→Option Bool} {b:aA→Bool} (hf:∀r∈l,f r=some (b r)) (hl:l.length≤1000) (K:Nat):∀(t i k:Nat),i+t=l.length→t<k→
  (l.drop i).any b=false∧dX K l f k (i:Int)=some (.go ())∨(l.drop i).any b=true∧∃j:Nat,dX K l f k (i:Int)=some (.ret (j:Int))
 |0,i,k,hi,hk=>by
  obtain⟨k',rfl,_⟩:=a9 hk
  refine .inl ⟨by rw [List.drop_eq_nil_of_le (by omega)];rfl,?_⟩
  simp only [dX,dF (show¬(i:Int)<(l.length:Int) by omega),bM]
 |t+1,i,k,hi,hk=>by
  obtain⟨k',rfl,_⟩:=a9 hk
  obtain⟨x,h1,h2,h3⟩:=aBW (l:=l) (i:=i) (by omega)
  rw [h2]
  simp only [dX,dT (show(i:Int)<(l.length:Int) by omega),bT,h3,oB,hf x h1,List.any_cons]
  cases b x
  ·simp only [bM,Bool.false_or,mF (i:=i) (by omega),oB]
   exact aPT hf hl K t (i+1) k' (by omega) (by omega)
  ·exact .inr ⟨rfl,i,by simp only [bT]⟩
theorem aJx {l:List aA} {f:aA→Option Bool} {b:aA→Bool} (hf:∀r∈l,f r=some (b r)) (hl:l.length≤1000) {K:Nat} (hK:l.length<K):fA K l f=some (l.any b):=by
 have:=aPT hf hl K l.length 0 K (by omega) hK
 simp only [Int.natCast_zero,List.drop_zero] at this
 rcases this with⟨h1,h2⟩|⟨h1,y,h2⟩
 ·simp only [fA,k8,h2,oB,lJ,h1];rfl
 ·simp only [fA,k8,h2,oB,h1,dT (show(0:Int)≤(y:Int) by omega)]
theorem aM3 (K:Nat):lE (K+40)=some true:=by kernel_rfl
end Go.Proofs.YtcjdedkdoagifaaGreat
set_option linter.unusedVariables false
namespace Go.Proofs.YtcjdedkdoagifaaGreat
def uB (l:List aE) (i:Nat):aE:=l.getD i ⟨0,0⟩
theorem aDn {l:List aE} {i:Nat} (h:i<l.length):bK l (i:Int)=some (uB l i):=rdD _ h
theorem wW {l:List aE} {i:Nat} (h:i<l.length):uB l i∈l:=by
 unfold uB
 simp only [List.getD_eq_getElem?_getD,List.getElem?_eq_getElem h,Option.getD_some]
 exact List.getElem_mem h
def tk (n:Nat) (l:List aE) (i:Nat):Bool:=decide (0≤(uB l i).dof∧(uB l i).dof<(n:Int)∧(0<i→(uB l (i-1)).dof<(uB l i).dof))
def tks (n:Nat) (l:List aE):Nat→Nat→Bool
 |0,_=>true
 |t+1,i=>tk n l i&&tks n l t (i+1)
def tOk (n:Nat) (l:List aE):Bool:=tks n l l.length 0
theorem vI {m:Nat} {a:Rat} (ha:Bd m a) (hm:m≤1073741824):aAG a=some true:=by unfold aAG;rw [ha.qs hm];rfl
theorem aG5 {n:Nat} {l:List aE} (hl:TB l) (K:Nat):∀(t i k:Nat),i+t=l.length→t<k→kD K l (n:Int) k (i:Int)=some (bif tks n l t i then .go () else .ret false)
 |0,i,k,hi,hk=>by
  obtain⟨k',rfl,_⟩:=a9 hk
  simp only [kD,dF (show¬(i:Int)<(l.length:Int) by omega),bM,tks,bT]
 |t+1,i,k,hi,hk=>by
  have h12:=hl.1
  obtain⟨k',rfl,_⟩:=a9 hk
  have hb:=vI (hl.2 _ (wW (l:=l) (i:=i) (by omega))) (by omega)
  have ih:=aG5 (n:=n) hl K t (i+1) k' (by omega) (by omega)
  simp only [kD,dT (show(i:Int)<(l.length:Int) by omega),bT,aDn (l:=l) (i:=i) (by omega),oB,hb,Bool.not_true,bM,tks,mF (i:=i) (by omega)]
  by_cases h0:(uB l i).dof<0
  ·have e:tk n l i=false:=decide_eq_false (by omega)
   simp only [dT h0,bT,e,Bool.false_and,bM]
  ·simp only [dF h0,bM]
   by_cases h1:(n:Int)≤(uB l i).dof
   ·have e:tk n l i=false:=decide_eq_false (by omega)
    simp only [dT h1,bT,e,Bool.false_and,bM]
   ·simp only [dF h1,bM]
    by_cases h2:0<i
    ·have e1:aP ((i:Int)-1)=some ((i-1:Nat):Int):=by rw [kM (by omega)];congr 1;omega
     simp only [dT (show(0:Int)<(i:Int) by omega),bT,e1,oB,aDn (l:=l) (i:=i-1) (by omega)]
     by_cases h3:(uB l i).dof≤(uB l (i-1)).dof
     ·have e:tk n l i=false:=decide_eq_false (by omega)
      simp only [dT h3,bT,e,Bool.false_and,bM]
     ·have e:tk n l i=true:=decide_eq_true (by omega)
      simp only [dF h3,bM,e,Bool.true_and]
      exact ih
    ·have e:tk n l i=true:=decide_eq_true (by omega)
     simp only [dF (show¬(0:Int)<(i:Int) by omega),bM,e,Bool.true_and]
     exact ih
theorem aG8 {n:Nat} {l:List aE} (hl:TB l) {K:Nat} (hK:13≤K):rA K l (n:Int)=some (tOk n l):=by
 have h:=hl.1
 have:=aG5 (n:=n) hl K l.length 0 K (by omega) (by omega)
 simp only [Int.natCast_zero] at this
 simp only [rA,this,oB,sE,tOk]
 cases tks n l l.length 0<;>rfl
theorem aEB {n:Nat} {l:List aE} (hl:TB l) (K:Nat):∀(t i k:Nat),i+t=l.length→t<k→iS K l (n:Int) k (i:Int)=some (bif tks n l t i then .go () else .ret false)
 |0,i,k,hi,hk=>by
  obtain⟨k',rfl,_⟩:=a9 hk
  simp only [iS,dF (show¬(i:Int)<(l.length:Int) by omega),bM,tks,bT]
 |t+1,i,k,hi,hk=>by
  have h12:=hl.1
  obtain⟨k',rfl,_⟩:=a9 hk
  have hb:=vI (hl.2 _ (wW (l:=l) (i:=i) (by omega))) (by omega)
  have ih:=aEB (n:=n) hl K t (i+1) k' (by omega) (by omega)
  simp only [iS,dT (show(i:Int)<(l.length:Int) by omega),bT,aDn (l:=l) (i:=i) (by omega),oB,hb,Bool.not_true,bM,tks,mF (i:=i) (by omega)]
  by_cases h0:(uB l i).dof<0
  ·have e:tk n l i=false:=decide_eq_false (by omega)
   simp only [dT h0,bT,e,Bool.false_and,bM]
  ·simp only [dF h0,bM]
   by_cases h1:(n:Int)≤(uB l i).dof
   ·have e:tk n l i=false:=decide_eq_false (by omega)
    simp only [dT h1,bT,e,Bool.false_and,bM]
   ·simp only [dF h1,bM]
    by_cases h2:0<i
    ·have e1:aP ((i:Int)-1)=some ((i-1:Nat):Int):=by rw [kM (by omega)];congr 1;omega
     have e2:max (((i-1:Nat):Int)) 0=((i-1:Nat):Int):=by omega
     simp only [dT (show(0:Int)<(i:Int) by omega),bT,e1,oB,e2,aDn (l:=l) (i:=i-1) (by omega)]
     by_cases h3:(uB l i).dof≤(uB l (i-1)).dof
     ·have e:tk n l i=false:=decide_eq_false (by omega)
      simp only [dT h3,bT,e,Bool.false_and,bM]
     ·have e:tk n l i=true:=decide_eq_true (by omega)
      simp only [dF h3,bM,e,Bool.true_and]
      exact ih
    ·have e:tk n l i=true:=decide_eq_true (by omega)
     simp only [dF (show¬(0:Int)<(i:Int) by omega),bM,e,Bool.true_and]
     exact ih
theorem aEa {n:Nat} {l:List aE} (hl:TB l) {K:Nat} (hK:13≤K):pV K l (n:Int)=some (tOk n l):=by
 have h:=hl.1
 have:=aEB (n:=n) hl K l.length 0 K (by omega) (by omega)
 simp only [Int.natCast_zero] at this
 simp only [pV,this,oB,uP,tOk]
 cases tks n l l.length 0<;>rfl
theorem aIB {l:List Rat} (hl:vH 64 l) (hn:l.length≤1000) (K:Nat):∀(t i k:Nat),i+t=l.length→t<k→fC K l pW k (i:Int)=some (.go ())
 |0,i,k,hi,hk=>by
  obtain⟨k',rfl,_⟩:=a9 hk
  simp only [fC,dF (show¬(i:Int)<(l.length:Int) by omega),bM]
 |t+1,i,k,hi,hk=>by
  obtain⟨k',rfl,_⟩:=a9 hk
  simp only [fC,dT (show(i:Int)<(l.length:Int) by omega),bT,aHt (l:=l) (i:=i) (by omega),oB,pW,vI (hl _ (vR (l:=l) (i:=i) (by omega))) (by omega),Bool.not_true,bM,mF (i:=i) (by omega)]
  exact aIB hl hn K t (i+1) k' (by omega) (by omega)
theorem aIc {l:List Rat} (hl:vH 64 l) (hn:l.length≤1000) {K:Nat} (hK:l.length<K):qP K l=some true:=by
 have:=aIB hl hn K l.length 0 K (by omega) (by omega)
 simp only [Int.natCast_zero] at this
 simp only [qP,lK,nE,this,oB,lM];rfl
theorem aGO {l:List Rat} (hl:vH 64 l) (hn:l.length≤1000) (K:Nat):∀(t i k:Nat),i+t=l.length→t<k→lS K l k (i:Int)=some (.go ())
 |0,i,k,hi,hk=>by
  obtain⟨k',rfl,_⟩:=a9 hk
  simp only [lS,dF (show¬(i:Int)<(l.length:Int) by omega),bM]
 |t+1,i,k,hi,hk=>by
  obtain⟨k',rfl,_⟩:=a9 hk
  simp only [lS,dT (show(i:Int)<(l.length:Int) by omega),bT,aHt (l:=l) (i:=i) (by omega),oB,vI (hl _ (vR (l:=l) (i:=i) (by omega))) (by omega),Bool.not_true,bM,mF (i:=i) (by omega)]
  exact aGO hl hn K t (i+1) k' (by omega) (by omega)
theorem aF8 {l:List Rat} (hl:vH 64 l) (hn:l.length≤1000) {K:Nat} (hK:l.length<K):qR K l=some true:=by
 have:=aGO hl hn K l.length 0 K (by omega) (by omega)
 simp only [Int.natCast_zero] at this
 simp only [qR,this,oB,uV]
structure SB (d:List aG) (f v:List Rat) (l:List aA):Prop where
 sd:∀x∈d,Bd 8 x.inv
 dl:d.length≤100
 sf:vH 64 f
 fl:f.length≤100
 sv:vH 64 v
 vl:v.length≤100
 sl:RsC l
 ll:l.length≤100
def aCa (x:aG):Bool:=decide (0<x.inv.num.sign)
def yD (n:Nat) (v:List Rat) (r:aA):Bool:=tOk n r.j&&tOk n r.t&&decide (0≤r.mu.num.sign)
def qX (v:List Rat) (r:aA):Bool:=decide ((rt r.j v).num.sign=0)
def aB9 (d:List aG) (f v:List Rat) (l:List aA):Bool:=decide (d.length≤12∧f.length=d.length∧v.length=d.length)&&d.all aCa&&l.all fun r=>yD d.length v r&&qX v r
theorem aEe {l:List aG} {i:Nat} (h:i<l.length):∃x,x∈l∧l.drop i=x::l.drop (i+1)∧bK l (i:Int)=some x:=
 ⟨l[i],List.getElem_mem h,List.drop_eq_getElem_cons h,rdG (List.getElem?_eq_getElem h)⟩
theorem aGr {a0:aD} (hd:∀x∈a0.dofs,Bd 8 x.inv) (hl:a0.dofs.length≤100) (K:Nat):∀(t i k:Nat),i+t=a0.dofs.length→t<k→gJ K a0 k (i:Int)=some (bif(a0.dofs.drop i).all aCa then .go () else .ret false)
 |0,i,k,hi,hk=>by
  obtain⟨k',rfl,_⟩:=a9 hk
  rw [List.drop_eq_nil_of_le (by omega)]
  simp only [gJ,dF (show¬(i:Int)<(a0.dofs.length:Int) by omega),bM];rfl
 |t+1,i,k,hi,hk=>by
  obtain⟨k',rfl,_⟩:=a9 hk
  obtain⟨x,h1,h2,h3⟩:=aEe (l:=a0.dofs) (i:=i) (by omega)
  have hb:=hd x h1
  rw [h2,List.all_cons]
  simp only [gJ,dT (show(i:Int)<(a0.dofs.length:Int) by omega),bT,h3,oB,vI hb (by omega),Bool.not_true,bM,kY hb (by omega)]
  by_cases h:x.inv.num.sign≤0
  ·have e:aCa x=false:=decide_eq_false (by omega)
   simp only [dT h,bT,e,Bool.false_and,bM]
  ·have e:aCa x=true:=decide_eq_true (by omega)
   simp only [dF h,bM,e,Bool.true_and,mF (i:=i) (by omega),oB]
   exact aGr hd hl K t (i+1) k' (by omega) (by omega)
theorem aD3 {d:List aG} (hd:∀x∈d,Bd 8 x.inv) (hl:d.length≤100) (K:Nat):∀(t i k:Nat),i+t=d.length→t<k→jP K d k (i:Int)=some (bif(d.drop i).all aCa then .go () else .ret false)
 |0,i,k,hi,hk=>by
  obtain⟨k',rfl,_⟩:=a9 hk
  rw [List.drop_eq_nil_of_le (by omega)]
  simp only [jP,dF (show¬(i:Int)<(d.length:Int) by omega),bM];rfl
 |t+1,i,k,hi,hk=>by
  obtain⟨k',rfl,_⟩:=a9 hk
  obtain⟨x,h1,h2,h3⟩:=aEe (l:=d) (i:=i) (by omega)
  have hb:=hd x h1
  rw [h2,List.all_cons]
  simp only [jP,dT (show(i:Int)<(d.length:Int) by omega),bT,h3,oB,vI hb (by omega),Bool.not_true,bM,kY hb (by omega)]
  by_cases h:x.inv.num.sign≤0
  ·have e:aCa x=false:=decide_eq_false (by omega)
   simp only [dT h,bT,e,Bool.false_and,bM]
  ·have e:aCa x=true:=decide_eq_true (by omega)
   simp only [dF h,bM,e,Bool.true_and,mF (i:=i) (by omega),oB]
   exact aD3 hd hl K t (i+1) k' (by omega) (by omega)
theorem aKV {a0:aD} {n:Nat} {r:aA} (hv:vH 64 a0.v) (hr:RC r) {K:Nat} (hK:13≤K):kE K (n:Int) a0 r=some (!(yD n a0.v r&&qX a0.v r)):=by
 simp only [kE,aG8 hr.1.1 hK,aG8 hr.1.2 hK,oB,vI hr.2 (by omega),Bool.not_true,bM,kY hr.2 (by omega),aE9 hv hr.1.1 hK,kY (aGp hv hr.1.1) (by omega),yD,qX]
 cases tOk n r.j
 ·rfl
 ·cases tOk n r.t
  ·rfl
  ·by_cases h:r.mu.num.sign<0
   ·simp only [Bool.not_true,bM,dT h,bT,dF (show¬0≤r.mu.num.sign by omega)];rfl
   ·simp only [Bool.not_true,bM,dF h,dT (show 0≤r.mu.num.sign by omega),Bool.true_and]
    by_cases h2:(rt r.j a0.v).num.sign=0
    ·rw [dT h2,nF h2];rfl
    ·rw [dF h2,nT h2];rfl
theorem aIP {d:List aG} {f v:List Rat} {l:List aA} (h:SB d f v l) {K:Nat} (hK:200≤K):l6 K ⟨d,f,v,l⟩=some (aB9 d f v l):=by
 have hdl:=h.dl
 have hfl:=h.fl
 have hvl:=h.vl
 have hll:=h.ll
 have e1:=aGr (a0:=⟨d,f,v,l⟩) h.sd h.dl K d.length 0 K (by simp) (by omega)
 have e2:=aJx (l:=l) (b:=fun r=>!(yD d.length v r&&qX v r)) (fun r hr=>aKV (a0:=⟨d,f,v,l⟩) (n:=d.length) h.sv (h.sl r hr) (K:=K) (by omega)) (by omega) (show l.length<K by omega)
 simp only [Int.natCast_zero,List.drop_zero] at e1
 have e3:(!l.any fun r=>!(yD d.length v r&&qX v r))=l.all fun r=>yD d.length v r&&qX v r:=by
  rw [List.not_any_eq_all_not];congr;funext r;rw [Bool.not_not]
 simp only [l6,aIc h.sf (by omega) (show f.length<K by omega),aIc h.sv (by omega) (show v.length<K by omega),e1,nD,e2,oB,Bool.not_true,bM,e3,aB9]
 by_cases h1:d.length≤12
 ·by_cases h2:f.length=d.length
  ·by_cases h3:v.length=d.length
   ·simp only [dF (show¬(12:Int)<(d.length:Int) by omega),nF (show(f.length:Int)=(d.length:Int) by omega),nF (show(v.length:Int)=(d.length:Int) by omega),bM,decide_eq_true (show d.length≤12∧f.length=d.length∧v.length=d.length from⟨h1,h2,h3⟩),Bool.true_and]
    cases d.all aCa<;>rfl
   ·simp only [dF (show¬(12:Int)<(d.length:Int) by omega),nF (show(f.length:Int)=(d.length:Int) by omega),nT (show(v.length:Int)≠(d.length:Int) by omega),bM,bT,decide_eq_false (show¬(d.length≤12∧f.length=d.length∧v.length=d.length) from fun h=>h3 h.2.2),Bool.false_and]
  ·simp only [dF (show¬(12:Int)<(d.length:Int) by omega),nT (show(f.length:Int)≠(d.length:Int) by omega),bM,bT,decide_eq_false (show¬(d.length≤12∧f.length=d.length∧v.length=d.length) from fun h=>h2 h.2.1),Bool.false_and]
 ·simp only [dT (show(12:Int)<(d.length:Int) by omega),bT,decide_eq_false (show¬(d.length≤12∧f.length=d.length∧v.length=d.length) from fun h=>h1 h.1),Bool.false_and]
theorem aEM {d:List aG} {v:List Rat} {l:List aA} (hl:RsC l) (hn:l.length≤100) {K:Nat} (hK:13≤K):∀(t i k:Nat),i+t=l.length→t<k→jQ K d l k (i:Int)=some (bif(l.drop i).all (yD d.length v) then .go () else .ret false)
 |0,i,k,hi,hk=>by
  obtain⟨k',rfl,_⟩:=a9 hk
  rw [List.drop_eq_nil_of_le (by omega)]
  simp only [jQ,dF (show¬(i:Int)<(l.length:Int) by omega),bM];rfl
 |t+1,i,k,hi,hk=>by
  obtain⟨k',rfl,_⟩:=a9 hk
  obtain⟨r,h1,h2,h3⟩:=aBW (l:=l) (i:=i) (by omega)
  have hr:=hl r h1
  have ih:=aEM (d:=d) (v:=v) hl hn hK t (i+1) k' (by omega) (by omega)
  rw [h2,List.all_cons]
  simp only [jQ,dT (show(i:Int)<(l.length:Int) by omega),bT,h3,oB,aEa hr.1.1 hK,aEa hr.1.2 hK,vI hr.2 (by omega),Bool.not_true,bM,kY hr.2 (by omega)]
  unfold yD at ih ⊢
  cases tOk d.length r.j
  ·rfl
  ·cases tOk d.length r.t
   ·rfl
   ·by_cases h:r.mu.num.sign<0
    ·simp only [Bool.not_true,bM,dT h,bT,dF (show¬0≤r.mu.num.sign by omega)];rfl
    ·simp only [Bool.not_true,bM,dF h,dT (show 0≤r.mu.num.sign by omega),Bool.true_and,mF (i:=i) (by omega),oB]
     exact ih
theorem aES {v:List Rat} {l:List aA} (hv:vH 64 v) (hl:RsC l) (hn:l.length≤100) {K:Nat} (hK:13≤K):∀(t i k:Nat),i+t=l.length→t<k→mK K v l k (i:Int)=some (bif(l.drop i).all (qX v) then .go () else .ret false)
 |0,i,k,hi,hk=>by
  obtain⟨k',rfl,_⟩:=a9 hk
  rw [List.drop_eq_nil_of_le (by omega)]
  simp only [mK,dF (show¬(i:Int)<(l.length:Int) by omega),bM];rfl
 |t+1,i,k,hi,hk=>by
  obtain⟨k',rfl,_⟩:=a9 hk
  obtain⟨r,h1,h2,h3⟩:=aBW (l:=l) (i:=i) (by omega)
  have hr:=hl r h1
  rw [h2,List.all_cons]
  simp only [mK,dT (show(i:Int)<(l.length:Int) by omega),bT,h3,oB,aG6 hv hr.1.1 hK,kY (aGp hv hr.1.1) (by omega)]
  by_cases h:(rt r.j v).num.sign=0
  ·have e:qX v r=true:=decide_eq_true h
   simp only [nF h,bM,e,Bool.true_and,mF (i:=i) (by omega),oB]
   exact aES hv hl hn hK t (i+1) k' (by omega) (by omega)
  ·have e:qX v r=false:=decide_eq_false h
   simp only [nT h,bT,e,Bool.false_and,bM]
theorem aGv {α:Type} {p q:α→Bool}:∀l:List α,(l.all fun x=>p x&&q x)=(l.all p&&l.all q)
 |[]=>rfl
 |x::l=>by
  rw [List.all_cons,List.all_cons,List.all_cons,aGv l]
  cases p x<;>cases q x<;>cases l.all p<;>rfl
theorem aHV {d:List aG} {f v:List Rat} {l:List aA} (h:SB d f v l) {K:Nat} (hK:200≤K):rM K d f v l=some (aB9 d f v l):=by
 have hdl:=h.dl
 have hfl:=h.fl
 have hvl:=h.vl
 have hll:=h.ll
 have e1:=aD3 (d:=d) h.sd h.dl K d.length 0 K (by simp) (by omega)
 have e2:=aEM (d:=d) (v:=v) h.sl h.ll (K:=K) (by omega) l.length 0 K (by omega) (by omega)
 have e3:=aES h.sv h.sl h.ll (K:=K) (by omega) l.length 0 K (by omega) (by omega)
 simp only [Int.natCast_zero,List.drop_zero] at e1 e2 e3
 simp only [rM,vM,aF8 h.sf (by omega) (show f.length<K by omega),aF8 h.sv (by omega) (show v.length<K by omega),e1,s6,e2,s0,e3,vO,oB,Bool.not_true,bM,aB9,aGv (p:=yD d.length v) (q:=qX v)]
 by_cases h1:d.length≤12
 ·by_cases h2:f.length=d.length
  ·by_cases h3:v.length=d.length
   ·simp only [dF (show¬(12:Int)<(d.length:Int) by omega),nF (show(f.length:Int)=(d.length:Int) by omega),nF (show(v.length:Int)=(d.length:Int) by omega),bM,decide_eq_true (show d.length≤12∧f.length=d.length∧v.length=d.length from⟨h1,h2,h3⟩),Bool.true_and]
    cases d.all aCa
    ·rfl
    ·cases l.all (yD d.length v)
     ·rfl
     ·cases l.all (qX v)<;>rfl
   ·simp only [dF (show¬(12:Int)<(d.length:Int) by omega),nF (show(f.length:Int)=(d.length:Int) by omega),nT (show(v.length:Int)≠(d.length:Int) by omega),bM,bT,decide_eq_false (show¬(d.length≤12∧f.length=d.length∧v.length=d.length) from fun h=>h3 h.2.2),Bool.false_and,oB,Bool.not_false]
  ·simp only [dF (show¬(12:Int)<(d.length:Int) by omega),nT (show(f.length:Int)≠(d.length:Int) by omega),bM,bT,decide_eq_false (show¬(d.length≤12∧f.length=d.length∧v.length=d.length) from fun h=>h2 h.2.1),Bool.false_and,oB,Bool.not_false]
 ·simp only [dT (show(12:Int)<(d.length:Int) by omega),bT,decide_eq_false (show¬(d.length≤12∧f.length=d.length∧v.length=d.length) from fun h=>h1 h.1),Bool.false_and,oB,Bool.not_false]
end Go.Proofs.YtcjdedkdoagifaaGreat
set_option linter.unusedVariables false
namespace Go.Proofs.YtcjdedkdoagifaaGreat
/-- What the terms say of a degree of freedom. -/
def cf:List aE→Nat→Rat
 |[],_=>0
 |t::l,i=>(if t.dof=(i:Int) then t.k else 0)+cf l i
def InT (n:Nat) (l:List aE):Prop:=∀t∈l,0≤t.dof∧t.dof<(n:Int)
theorem aLw {n:Nat} {l:List aE}:∀(t i:Nat),tks n l t i=true→∀j,i≤j→j<i+t→tk n l j=true
 |0,i,h,j,h1,h2=>by omega
 |t+1,i,h,j,h1,h2=>by
  have h3:(tk n l i&&tks n l t (i+1))=true:=h
  rw [Bool.and_eq_true] at h3
  by_cases e:j=i
  ·rw [e];exact h3.1
  ·exact aLw t (i+1) h3.2 j (by omega) (by omega)
theorem aKI {n:Nat} {l:List aE} (h:tOk n l=true):InT n l:=fun t ht=>by
 obtain⟨i,hi,rfl⟩:=List.getElem_of_mem ht
 have:=of_decide_eq_true (aLw l.length 0 h i (by omega) (by omega))
 have e:uB l i=l[i]:=by unfold uB;simp [List.getD_eq_getElem?_getD,hi]
 rw [e] at this
 exact⟨this.1,this.2.1⟩
theorem aRe {A B t:Nat} (h:A+(B+9)*(t+1)≤1073741824):A+(8+B)+1+(B+9)*t≤1073741824∧A≤1073741824∧B≤1073741824:=by
 rw [Nat.mul_succ] at h;omega
theorem aPK {g:Nat→Rat} {n A B e:Nat} {v:Rat} (hg:∀j,j<n→Bd A (g j)) (hAB:A≤B) (hv:Bd B v):∀j,j<n→Bd B (iL g e v j):=fun j hj=>by
 by_cases h:j=e
 ·rw [h,aX];exact hv
 ·rw [cF h];exact(hg j hj).mono hAB
theorem aMT {g:Nat→Rat} {n e:Nat} {y:aE} {l:List aE} {c:Rat} (he:y.dof=(e:Int)):mp (fun j=>iL g e (g e+y.k*c) j+cf l j*c) n=mp (fun j=>g j+cf (y::l) j*c) n:=bW fun j _=>by
 show _=g j+((if y.dof=(j:Int) then y.k else 0)+cf l j)*c
 by_cases h:j=e
 ·subst h;rw [aX,if_pos he,Rat.add_mul,Rat.add_assoc]
 ·rw [cF h,if_neg (by omega),Rat.zero_add]
theorem aMF {n C:Nat} {l:List aE} {c:Rat} (hl:∀t∈l,Bd 8 t.k) (hi:InT n l) (hc:Bd C c) (Fl:Nat→List Rat→Int→Option (List Rat)) (h0:∀k x,Fl (k+1) x (l.length:Int)=some x)
  (h1:∀k (g:Nat→Rat) (i A:Nat),i<l.length→(∀j,j<n→Bd A (g j))→A≤1073741824→C≤1073741824→∀(e:Nat),(uB l i).dof=(e:Int)→e<n→Fl (k+1) (mp g n) (i:Int)=Fl k (mp (iL g e (g e+(uB l i).k*c)) n) ((i+1:Nat):Int)):
  ∀(t i k A:Nat) (g:Nat→Rat),i+t=l.length→t<k→(∀j,j<n→Bd A (g j))→A+(C+9)*t≤1073741824→Fl k (mp g n) (i:Int)=some (mp (fun j=>g j+cf (l.drop i) j*c) n)∧∀j,j<n→Bd (A+(C+9)*t) (g j+cf (l.drop i) j*c)
 |0,i,k,A,g,hi',hk,hg,hA=>by
  obtain⟨k',rfl,_⟩:=a9 hk
  have e:i=l.length:=by omega
  subst e
  have e2:∀j,g j+cf (l.drop l.length) j*c=g j:=fun j=>by rw [List.drop_eq_nil_of_le (Nat.le_refl _)];show g j+0*c=g j;rw [Rat.zero_mul,Rat.add_zero]
  refine⟨?_,fun j hj=>by rw [e2];exact(hg j hj).mono (by omega)⟩
  rw [h0,bW (g:=g) fun j _=>e2 j]
 |t+1,i,k,A,g,hi',hk,hg,hA=>by
  obtain⟨k',rfl,_⟩:=a9 hk
  have hil:i<l.length:=by omega
  obtain⟨b1,b2,b3⟩:=aRe hA
  obtain⟨m1,m2⟩:=hi _ (wW hil)
  have he:(uB l i).dof=(((uB l i).dof.toNat:Nat):Int):=by omega
  have hv:=(hg _ (show(uB l i).dof.toNat<n by omega)).add ((hl _ (wW hil)).mul hc)
  have ih:=aMF hl hi hc Fl h0 h1 t (i+1) k' (A+(8+C)+1) (iL g (uB l i).dof.toNat (g (uB l i).dof.toNat+(uB l i).k*c)) (by omega) (by omega) (aPK hg (by omega) hv) b1
  have ed:l.drop i=uB l i::l.drop (i+1):=by
   rw [List.drop_eq_getElem_cons hil];unfold uB;simp [List.getD_eq_getElem?_getD,hil]
  have e3:=aMT (n:=n) (g:=g) (l:=l.drop (i+1)) (c:=c) he
  rw [h1 k' g i A hil hg b2 b3 _ he (by omega),ih.1,ed,e3]
  refine⟨rfl,fun j hj=>?_⟩
  have e4:=congrArg (fun x=>pL x j) e3
  simp only [zU hj] at e4
  rw [←e4]
  exact(ih.2 j hj).mono (by rw [Nat.mul_succ];omega)
theorem aLg {n C:Nat} {l:List aE} {c:Rat} (hl:TB l) (hi:InT n l) (hc:Bd C c) {A:Nat} {g:Nat→Rat} (hg:∀j,j<n→Bd A (g j)) (hA:A+(C+9)*12≤1073741824) (hn:n≤1000) {K:Nat} (hK:13≤K):
  rL K (mp g n) l c=some (mp (fun j=>g j+cf l j*c) n)∧∀j,j<n→Bd (A+(C+9)*12) (g j+cf l j*c):=by
 have h12:=hl.1
 have hm:=Nat.mul_le_mul_left (C+9) h12
 have key:=aMF (n:=n) hl.2 hi hc (fun k x i=>lV K l c k x i) (fun k x=>by
  simp only [lV,dF (show¬(l.length:Int)<(l.length:Int) by omega),bM]) (fun k g i A hil hg h1 h2 e he hen=>by
  have hk:=hl.2 _ (wW hil)
  simp only [lV,dT (show(i:Int)<(l.length:Int) by omega),bT,aDn hil,oB,he,dR (f:=g) hen,oT hk hc (by omega) h2,t7 (hg e hen) (hk.mul hc) h1 (by omega),rG (f:=g) hen,mF (i:=i) (by omega)]) l.length 0 K A g (by omega) (by omega) hg (by omega)
 simp only [Int.natCast_zero,List.drop_zero] at key
 have ha:qW ([]:List Rat) (mp g n)=some (mp g n):=by rw [z8 (by simp [mp];omega)];rfl
 refine⟨?_,fun j hj=>(key.2 j hj).mono (by omega)⟩
 simp only [rL,ha,oB,key.1,u6]
def jA (l:List aA) (i:Nat):aA:=l.getD i ⟨0,0,0,0,0,[],[],0,0⟩
theorem aA1 {l:List aA} {i:Nat} (h:i<l.length):bK l (i:Int)=some (jA l i):=rdD _ h
theorem oA {l:List aA} {i:Nat} (h:i<l.length):jA l i∈l:=by
 unfold jA
 simp only [List.getD_eq_getElem?_getD,List.getElem?_eq_getElem h,Option.getD_some]
 exact List.getElem_mem h
def rcq (l:List aA) (p:Nat→aF) (r j:Nat):Rat:=cf (jA l r).j j*(p r).n+cf (jA l r).t j*(p r).f
def rP (l:List aA) (p:Nat→aF) (m j:Nat):Rat:=sm (fun r=>rcq l p r j) m
def InR (n:Nat) (l:List aA):Prop:=∀r∈l,InT n r.j∧InT n r.t
def PB' (C m:Nat) (p:Nat→aF):Prop:=∀r,r<m→Bd C (p r).n∧Bd C (p r).f
theorem aOd {A C t:Nat} (h:A+(C+9)*24*(t+1)≤1073741824):A+(C+9)*12≤1073741824∧A+(C+9)*12+(C+9)*12≤1073741824∧A+(C+9)*12+(C+9)*12+(C+9)*24*t≤1073741824:=by
 rw [Nat.mul_succ ((C+9)*24) t] at h
 generalize(C+9)*24*t=x at *
 omega
theorem aJo {g:Nat→Rat} {l:List aA} {p:Nat→aF} {i n:Nat} (f:Nat→Rat) (hg:g=fun j=>f j+rP l p i j):mp (fun j=>g j+cf (jA l i).j j*(p i).n+cf (jA l i).t j*(p i).f) n=mp (fun j=>f j+rP l p (i+1) j) n:=bW fun j _=>by
 subst hg
 show f j+rP l p i j+_+_=f j+(rP l p i j+rcq l p i j)
 unfold rcq
 rw [Rat.add_assoc,Rat.add_assoc]
theorem aCF {n C:Nat} {l:List aA} {p:Nat→aF} (hl:RsB l) (hr:InR n l) (hp:PB' C l.length p) (f:Nat→Rat) (hn:n≤1000) (hll:l.length≤1000) {K:Nat} (hK:13≤K):
  ∀(t i k A:Nat),i+t=l.length→t<k→(∀j,j<n→Bd A (f j+rP l p i j))→A+(C+9)*24*t≤1073741824→lU K l (mp p l.length) k (mp (fun j=>f j+rP l p i j) n) (i:Int)=some (mp (fun j=>f j+rP l p l.length j) n)∧∀j,j<n→Bd (A+(C+9)*24*t) (f j+rP l p l.length j)
 |0,i,k,A,hi',hk,hg,hA=>by
  obtain⟨k',rfl,_⟩:=a9 hk
  have e:i=l.length:=by omega
  subst e
  exact⟨by simp only [lU,dF (show¬(l.length:Int)<(l.length:Int) by omega),bM],fun j hj=>(hg j hj).mono (by omega)⟩
 |t+1,i,k,A,hi',hk,hg,hA=>by
  obtain⟨k',rfl,_⟩:=a9 hk
  have hil:i<l.length:=by omega
  obtain⟨b1,b2,b3⟩:=aOd hA
  have hm:=oA hil
  obtain⟨p1,p2⟩:=hp i hil
  obtain⟨e1,f1⟩:=aLg (hl _ hm).1 (hr _ hm).1 p1 hg b1 hn hK
  obtain⟨e2,f2⟩:=aLg (hl _ hm).2 (hr _ hm).2 p2 f1 b2 hn hK
  have e3:=aJo (n:=n) (l:=l) (p:=p) (i:=i) f rfl
  have f3:∀j,j<n→Bd (A+(C+9)*12+(C+9)*12) (f j+rP l p (i+1) j):=fun j hj=>by
   have:=congrArg (fun x=>pL x j) e3
   simp only [zU hj] at this
   rw [←this];exact f2 j hj
  obtain⟨i1,i2⟩:=aCF hl hr hp f hn hll hK t (i+1) k' _ (by omega) (by omega) f3 b3
  have hms:(C+9)*24*(t+1)=(C+9)*24*t+(C+9)*24:=Nat.mul_succ _ _
  refine⟨?_,fun j hj=>(i2 j hj).mono (by omega)⟩
  simp only [lU,dT (show(i:Int)<(l.length:Int) by omega),bT,aA1 hil,dR (f:=p) hil,oB,e1,e2,e3,mF (i:=i) (by omega)]
  exact i1
def aAg (d:List aG) (i:Nat):aG:=d.getD i ⟨0,0,false,0,0⟩
theorem aKg {d:List aG} {i:Nat} (h:i<d.length):bK d (i:Int)=some (aAg d i):=rdD _ h
theorem aBA {d:List aG} {i:Nat} (h:i<d.length):aAg d i∈d:=by
 unfold aAg
 simp only [List.getD_eq_getElem?_getD,List.getElem?_eq_getElem h,Option.getD_some]
 exact List.getElem_mem h
def xM (d:List aG) (f:Nat→Rat) (l:List aA) (p:Nat→aF) (j:Nat):Rat:=(f j+rP l p l.length j)*(aAg d j).inv
def aHq (A C m:Nat):Nat:=A+(C+9)*24*m+8
theorem aIj {d:List aG} {f s:Nat→Rat} {A B:Nat} (hd:∀x∈d,Bd 8 x.inv) (hn:d.length≤1000) (hf:∀j,j<d.length→Bd A (f j)) (hs:∀j,j<d.length→Bd B (s j)) (hA:A≤500000000) (hB:B≤500000000) (K:Nat):
  ∀(t i k:Nat),i+t=d.length→t<k→fQ K d (mp f d.length) (mp s d.length) k (mp (fun j=>(aAg d j).inv*(f j+s j)) i) (i:Int)=some (mp (fun j=>(aAg d j).inv*(f j+s j)) d.length)
 |0,i,k,hi,hk=>by
  obtain⟨k',rfl,_⟩:=a9 hk
  have e:i=d.length:=by omega
  subst e
  simp only [fQ,dF (show¬(d.length:Int)<(d.length:Int) by omega),bM]
 |t+1,i,k,hi,hk=>by
  obtain⟨k',rfl,_⟩:=a9 hk
  have hil:i<d.length:=by omega
  have hv:=hd _ (aBA hil)
  simp only [fQ,dT (show(i:Int)<(d.length:Int) by omega),bT,aKg hil,dR (f:=f) hil,dR (f:=s) hil,oB,t7 (hf i hil) (hs i hil) (by omega) (by omega),oT hv ((hf i hil).add (hs i hil)) (by omega) (by omega),apM (g:=fun j=>(aAg d j).inv*(f j+s j)) (i:=i) (by omega),mF (i:=i) (by omega)]
  exact aIj hd hn hf hs hA hB K t (i+1) k' (by omega) (by omega)
theorem aJc {d:List aG} {f:Nat→Rat} {l:List aA} {p:Nat→aF} {A C:Nat} (hd:∀x∈d,Bd 8 x.inv) (hn:d.length≤1000) (hf:∀j,j<d.length→Bd A (f j)) (hl:RsB l) (hr:InR d.length l) (hll:l.length≤1000) (hp:PB' C l.length p) (hA:A≤400000000) (hC:(C+9)*24*l.length≤400000000) {K:Nat} (hK:2000≤K):
  kN K d (mp f d.length) l (mp p l.length)=some (mp (xM d f l p) d.length):=by
 have z:mp (fun j=>(0:Rat)+rP l p 0 j) d.length=mp (fun _=>(0:Rat)) d.length:=bW fun j _=>by show(0:Rat)+0=0;exact Rat.add_zero 0
 obtain⟨s1,s2⟩:=aCF (p:=p) hl hr hp (fun _=>(0:Rat)) hn hll (show 13≤K by omega) l.length 0 K 1 (by omega) (by omega) (fun j hj=>by show Bd 1 ((0:Rat)+0);rw [Rat.add_zero];exact Bd.zero) (by omega)
 rw [z] at s1
 have s3:∀j,j<d.length→Bd 400000001 ((0:Rat)+rP l p l.length j):=fun j hj=>(s2 j hj).mono (by omega)
 have a1:=aIj hd hn hf s3 (by omega) (by omega) K d.length 0 K (by omega) (by omega)
 simp only [Int.natCast_zero,y8] at s1 a1
 have e:mp (fun j=>(aAg d j).inv*(f j+((0:Rat)+rP l p l.length j))) d.length=mp (xM d f l p) d.length:=bW fun j _=>by rw [Rat.zero_add,Rat.mul_comm];rfl
 simp only [kN,xD,aAJ (z:=(0:Rat)) (n:=d.length) (by omega),oB,s1,uW,a1,pJ,e]
theorem aDO {d:List aG} {f:Nat→Rat} {l:List aA} {p:Nat→aF} {A C:Nat} (hd:∀x∈d,Bd 8 x.inv) (hf:∀j,j<d.length→Bd A (f j)) (hl:RsB l) (hr:InR d.length l) (hp:PB' C l.length p) (hn:d.length≤1000) (hll:l.length≤1000) (hA:A≤400000000) (hC:(C+9)*24*l.length≤400000000):vH (aHq A C l.length) (mp (xM d f l p) d.length):=zV fun j hj=>by
 obtain⟨_,s2⟩:=aCF (p:=p) hl hr hp f hn hll (K:=1013) (by omega) l.length 0 (l.length+1) A (by omega) (by omega) (fun j hj=>by show Bd A (f j+0);rw [Rat.add_zero];exact hf j hj) (by omega)
 exact(s2 j hj).mul (hd _ (aBA hj))
theorem aLI {n C:Nat} {a2:List aF} {r:Nat} {v72:aA} {q:aF} (hq:bK a2 (r:Int)=some q) (hl:TB v72.j) (hi:InT n v72.j) (hc:Bd C q.n) {A:Nat} {g:Nat→Rat} (hg:∀j,j<n→Bd A (g j)) (hA:A+(C+9)*12≤1073741824) {K:Nat} (hK:13≤K):
  cN K a2 (r:Int) v72 K (mp g n) 0=some (mp (fun j=>g j+cf v72.j j*q.n) n)∧∀j,j<n→Bd (A+(C+9)*12) (g j+cf v72.j j*q.n):=by
 have h12:=hl.1
 have hm:=Nat.mul_le_mul_left (C+9) h12
 have key:=aMF (n:=n) hl.2 hi hc (fun k x i=>cN K a2 (r:Int) v72 k x i) (fun k x=>by
  simp only [cN,dF (show¬(v72.j.length:Int)<(v72.j.length:Int) by omega),bM]) (fun k g i A hil hg h1 h2 e he hen=>by
  have hk:=hl.2 _ (wW hil)
  simp only [cN,dT (show(i:Int)<(v72.j.length:Int) by omega),bT,aDn hil,oB,he,dR (f:=g) hen,hq,oT hk hc (by omega) h2,t7 (hg e hen) (hk.mul hc) h1 (by omega),rG (f:=g) hen,mF (i:=i) (by omega)]) v72.j.length 0 K A g (by omega) (by omega) hg (by omega)
 simp only [Int.natCast_zero,List.drop_zero] at key
 exact⟨key.1,fun j hj=>(key.2 j hj).mono (by omega)⟩
theorem aJG {n C:Nat} {a2:List aF} {r:Nat} {v72:aA} {q:aF} (hq:bK a2 (r:Int)=some q) (hl:TB v72.t) (hi:InT n v72.t) (hc:Bd C q.f) {A:Nat} {g:Nat→Rat} (hg:∀j,j<n→Bd A (g j)) (hA:A+(C+9)*12≤1073741824) {K:Nat} (hK:13≤K):
  cK K a2 (r:Int) v72 K (mp g n) 0=some (mp (fun j=>g j+cf v72.t j*q.f) n)∧∀j,j<n→Bd (A+(C+9)*12) (g j+cf v72.t j*q.f):=by
 have h12:=hl.1
 have hm:=Nat.mul_le_mul_left (C+9) h12
 have key:=aMF (n:=n) hl.2 hi hc (fun k x i=>cK K a2 (r:Int) v72 k x i) (fun k x=>by
  simp only [cK,dF (show¬(v72.t.length:Int)<(v72.t.length:Int) by omega),bM]) (fun k g i A hil hg h1 h2 e he hen=>by
  have hk:=hl.2 _ (wW hil)
  simp only [cK,dT (show(i:Int)<(v72.t.length:Int) by omega),bT,aDn hil,oB,he,dR (f:=g) hen,hq,oT hk hc (by omega) h2,t7 (hg e hen) (hk.mul hc) h1 (by omega),rG (f:=g) hen,mF (i:=i) (by omega)]) v72.t.length 0 K A g (by omega) (by omega) hg (by omega)
 simp only [Int.natCast_zero,List.drop_zero] at key
 exact⟨key.1,fun j hj=>(key.2 j hj).mono (by omega)⟩
theorem aGG {a0:aD} {n C:Nat} {p:Nat→aF} (hl:RsB a0.rows) (hr:InR n a0.rows) (hp:PB' C a0.rows.length p) (f:Nat→Rat) (hn:n≤1000) (hll:a0.rows.length≤1000) {K:Nat} (hK:13≤K):
  ∀(t i k A:Nat),i+t=a0.rows.length→t<k→(∀j,j<n→Bd A (f j+rP a0.rows p i j))→A+(C+9)*24*t≤1073741824→bX K a0 (mp p a0.rows.length) k (mp (fun j=>f j+rP a0.rows p i j) n) (i:Int)=some (mp (fun j=>f j+rP a0.rows p a0.rows.length j) n)
 |0,i,k,A,hi',hk,hg,hA=>by
  obtain⟨k',rfl,_⟩:=a9 hk
  have e:i=a0.rows.length:=by omega
  subst e
  simp only [bX,dF (show¬(a0.rows.length:Int)<(a0.rows.length:Int) by omega),bM]
 |t+1,i,k,A,hi',hk,hg,hA=>by
  obtain⟨k',rfl,_⟩:=a9 hk
  have hil:i<a0.rows.length:=by omega
  obtain⟨b1,b2,b3⟩:=aOd hA
  have hm:=oA hil
  obtain⟨p1,p2⟩:=hp i hil
  have hq:=dR (f:=p) hil
  obtain⟨e1,f1⟩:=aLI hq (hl _ hm).1 (hr _ hm).1 p1 hg b1 hK
  obtain⟨e2,f2⟩:=aJG hq (hl _ hm).2 (hr _ hm).2 p2 f1 b2 hK
  have e3:=aJo (n:=n) (l:=a0.rows) (p:=p) (i:=i) f rfl
  have f3:∀j,j<n→Bd (A+(C+9)*12+(C+9)*12) (f j+rP a0.rows p (i+1) j):=fun j hj=>by
   have:=congrArg (fun x=>pL x j) e3
   simp only [zU hj] at this
   rw [←this];exact f2 j hj
  simp only [bX,dT (show(i:Int)<(a0.rows.length:Int) by omega),bT,aA1 hil,oB,e1,iE,e2,e3,gX,mF (i:=i) (by omega)]
  exact aGG hl hr hp f hn hll hK t (i+1) k' _ (by omega) (by omega) f3 b3
theorem aGo {a0:aD} {B:Nat} (hd:∀x∈a0.dofs,Bd 8 x.inv) (hn:a0.dofs.length≤1000) (hB:B≤1000000000) (h:Nat→Rat) (hh:∀j,j<a0.dofs.length→Bd B (h j)) (K:Nat):
  ∀(t i k:Nat),i+t=a0.dofs.length→t<k→dD K a0 k (mp (fun j=>if j<i then h j*(aAg a0.dofs j).inv else h j) a0.dofs.length) (i:Int)=some (mp (fun j=>h j*(aAg a0.dofs j).inv) a0.dofs.length)
 |0,i,k,hi,hk=>by
  obtain⟨k',rfl,_⟩:=a9 hk
  have e:i=a0.dofs.length:=by omega
  subst e
  simp only [dD,dF (show¬(a0.dofs.length:Int)<(a0.dofs.length:Int) by omega),bM]
  exact congrArg some (bW fun j hj=>if_pos hj)
 |t+1,i,k,hi,hk=>by
  obtain⟨k',rfl,_⟩:=a9 hk
  have hil:i<a0.dofs.length:=by omega
  have e1:(fun j=>if j<i then h j*(aAg a0.dofs j).inv else h j) i=h i:=if_neg (by omega)
  have e2:mp (iL (fun j=>if j<i then h j*(aAg a0.dofs j).inv else h j) i (h i*(aAg a0.dofs i).inv)) a0.dofs.length=mp (fun j=>if j<i+1 then h j*(aAg a0.dofs j).inv else h j) a0.dofs.length:=bW fun j hj=>by
   by_cases e:j=i
   ·subst e;rw [aX,if_pos (by omega)]
   ·rw [cF e]
    by_cases hlt:j<i
    ·rw [if_pos hlt,if_pos (by omega)]
    ·rw [if_neg hlt,if_neg (by omega)]
  simp only [dD,dT (show(i:Int)<(a0.dofs.length:Int) by omega),bT,aKg hil,dR (f:=fun j=>if j<i then h j*(aAg a0.dofs j).inv else h j) hil,e1,oB,oT (hh i hil) (hd _ (aBA hil)) (by omega) (by omega),rG (f:=fun j=>if j<i then h j*(aAg a0.dofs j).inv else h j) hil,e2,mF (i:=i) (by omega)]
  exact aGo hd hn hB h hh K t (i+1) k' (by omega) (by omega)
theorem aL7 {x:List Rat} (hn:x.length≤60000000000):nQ x=some x:=by
 unfold nQ
 first|(rw [z8 (by simp;omega)];rfl)|(simp [z8 (show([]:List Rat).length+x.length≤60000000000 by simp;omega)])
theorem aE2 {d:List aG} {f0 v0:List Rat} {f:Nat→Rat} {l:List aA} {p:Nat→aF} {A C:Nat} (hd:∀x∈d,Bd 8 x.inv) (hn:d.length≤1000) (hf:∀j,j<d.length→Bd A (f j)) (hl:RsB l) (hr:InR d.length l) (hll:l.length≤1000) (hp:PB' C l.length p) (hA:A≤400000000) (hC:(C+9)*24*l.length≤400000000) {K:Nat} (hK:2000≤K):
  bE K ⟨d,f0,v0,l⟩ (mp f d.length) (mp p l.length)=some (mp (xM d f l p) d.length):=by
 have z:mp (fun j=>f j+rP l p 0 j) d.length=mp f d.length:=bW fun j _=>Rat.add_zero _
 have hz:∀j,j<d.length→Bd A (f j+rP l p 0 j):=fun j hj=>by show Bd A (f j+0);rw [Rat.add_zero];exact hf j hj
 have s1:=aGG (a0:=⟨d,f0,v0,l⟩) (p:=p) hl hr hp f hn hll (show 13≤K by omega) l.length 0 K A (by simp) (by omega) hz (by omega)
 obtain⟨_,s2⟩:=aCF (p:=p) hl hr hp f hn hll (K:=1013) (by omega) l.length 0 (l.length+1) A (by omega) (by omega) hz (by omega)
 have s3:=aGo (a0:=⟨d,f0,v0,l⟩) (B:=900000000) hd hn (by omega) (fun j=>f j+rP l p l.length j) (fun j hj=>(s2 j hj).mono (by omega)) K d.length 0 K (by simp) (by omega)
 simp only at s1 s3
 rw [z] at s1
 have e0:mp (fun j=>if j<0 then(f j+rP l p l.length j)*(aAg d j).inv else f j+rP l p l.length j) d.length=mp (fun j=>f j+rP l p l.length j) d.length:=bW fun j _=>if_neg (by omega)
 rw [e0] at s3
 simp only [Int.natCast_zero] at s1 s3
 have hc:=aL7 (x:=mp f d.length) (by rw [bV];omega)
 simp only [bE,hc,oB,s1,iB,s3,iC]
 rfl
end Go.Proofs.YtcjdedkdoagifaaGreat
set_option linter.unusedVariables false
namespace Go.Proofs.YtcjdedkdoagifaaGreat
/-- Whether a row sticks. -/
def yS (v:List Rat) (r:aA):Bool:=decide (0<r.t.length)&&decide ((rt r.t v).num.sign=0)
def blk (v:List Rat) (l:List aA) (i:Nat):List (Nat×Nat):=(i,0)::(bif yS v (jA l i) then [(i,1),(i,2),(i,3)] else [])
def wY (v:List Rat) (l:List aA):Nat→List (Nat×Nat)
 |0=>[]
 |i+1=>wY v l i++blk v l i
def off (v:List Rat) (l:List aA):Nat→Nat
 |0=>0
 |i+1=>off v l i+(bif yS v (jA l i) then 4 else 1)
theorem xE {v:List Rat} {l:List aA}:∀m,(wY v l m).length=off v l m
 |0=>rfl
 |m+1=>by
  show(wY v l m++blk v l m).length=off v l m+_
  rw [List.length_append,xE m]
  unfold blk
  cases yS v (jA l m)<;>rfl
theorem qQ {v:List Rat} {l:List aA}:∀m,off v l m≤4*m
 |0=>Nat.le_refl _
 |m+1=>by
  have:=qQ (v:=v) (l:=l) m
  show off v l m+_≤_
  cases yS v (jA l m)
  ·show off v l m+1≤_;omega
  ·show off v l m+4≤_;omega
def vq (v:List Rat) (l:List aA) (r q:Nat):Prop:=q=0∨(yS v (jA l r)=true∧q≤3)
theorem aF9 {v:List Rat} {l:List aA} {r q:Nat} (h:vq v l r q):off v l r+q<off v l (r+1):=by
 show _<off v l r+(bif yS v (jA l r) then 4 else 1)
 rcases h with h|⟨h,h2⟩
 ·rw [h];cases yS v (jA l r)<;>simp
 ·rw [h];show _<off v l r+4;omega
theorem aKQ {v:List Rat} {l:List aA} {r m:Nat} (h:r≤m):off v l r≤off v l m:=by
 induction m with
 |zero=>
  have:r=0:=by omega
  rw [this];exact Nat.le_refl _
 |succ m ih=>
  by_cases e:r=m+1
  ·rw [e];exact Nat.le_refl _
  ·have h1:=ih (by omega)
   have h2:=aF9 (v:=v) (l:=l) (r:=m) (q:=0) (.inl rfl)
   omega
theorem pY {v:List Rat} {l:List aA} {r m q:Nat} (h:r<m) (hq:vq v l r q):off v l r+q<off v l m:=Nat.lt_of_lt_of_le (aF9 hq) (aKQ h)
theorem aCw {v:List Rat} {l:List aA} {r q:Nat} (hq:vq v l r q):∀m,r<m→(wY v l m)[off v l r+q]?=some (r,q)
 |0,h=>by omega
 |m+1,h=>by
  show(wY v l m++blk v l m)[off v l r+q]?=some (r,q)
  by_cases e:r=m
  ·subst e
   rw [List.getElem?_append_right (by rw [xE];omega),xE,Nat.add_sub_cancel_left]
   unfold blk
   rcases hq with hq|⟨h1,h2⟩
   ·rw [hq];rfl
   ·rw [h1]
    have:q=0∨q=1∨q=2∨q=3:=by omega
    rcases this with rfl|rfl|rfl|rfl<;>rfl
  ·rw [List.getElem?_append_left (by rw [xE];exact pY (by omega) hq)]
   exact aCw hq m (by omega)
theorem sN {v:List Rat} {l:List aA}:∀m k,k<off v l m→∃r q,r<m∧vq v l r q∧k=off v l r+q
 |0,k,h=>by exact absurd h (Nat.not_lt_zero _)
 |m+1,k,h=>by
  by_cases e:k<off v l m
  ·obtain⟨r,q,h1,h2,h3⟩:=sN m k e
   exact⟨r,q,by omega,h2,h3⟩
  ·have h':k<off v l m+(bif yS v (jA l m) then 4 else 1):=h
   refine⟨m,k-off v l m,by omega,?_,by omega⟩
   cases hs:yS v (jA l m)
   ·rw [hs] at h';have:k<off v l m+1:=h';exact .inl (by omega)
   ·rw [hs] at h';have:k<off v l m+4:=h';exact .inr ⟨hs,by omega⟩
theorem aCK {v:List Rat} {l:List aA} {r q r' q':Nat} (h:vq v l r q) (h':vq v l r' q') (e:off v l r+q=off v l r'+q'):r=r'∧q=q':=by
 have key:r=r':=by
  rcases Nat.lt_trichotomy r r' with h1|h1|h1
  ·have:=pY h1 h;omega
  ·exact h1
  ·have:=pY h1 h';omega
 subst key
 exact⟨rfl,by omega⟩
def pu (x:Nat×Nat):aC:=⟨(x.1:Int),(x.2:Int)⟩
def ru (x:Nat×Nat):aQ:=⟨(x.1:Int),(x.2:Int)⟩
theorem aJd {d:List aG} {f v:List Rat} {l:List aA} {r:aA} (hv:vH 64 v) (hr:RB r) {K:Nat} (hK:13≤K):jZ K ⟨d,f,v,l⟩ r=some (rt r.t v).num.sign:=by
 simp only [jZ,aE9 hv hr.2 hK,oB,kY (aGp hv hr.2) (by omega)]
theorem aF5 {v:List Rat} {r:aA} (hv:vH 64 v) (hr:RB r) {K:Nat} (hK:13≤K):qM K r v=some (rt r.t v).num.sign:=by
 simp only [qM,aG6 hv hr.2 hK,oB,kY (aGp hv hr.2) (by omega)]
theorem apA {α:Type} {xs ys:List α} (h:xs.length+ys.length≤60000000000):qW xs ys=some (xs++ys):=z8 (by omega)
theorem aBm {d:List aG} {f v:List Rat} {l:List aA} (hv:vH 64 v) (hl:RsB l) (hn:l.length≤1000) {K:Nat} (hK:13≤K):∀(t i k:Nat),i+t=l.length→t<k→cW K ⟨d,f,v,l⟩ k ((wY v l i).map pu) (i:Int)=some ((wY v l l.length).map pu)
 |0,i,k,hi,hk=>by
  obtain⟨k',rfl,_⟩:=a9 hk
  have e:i=l.length:=by omega
  subst e
  simp only [cW,dF (show¬(l.length:Int)<(l.length:Int) by omega),bM]
 |t+1,i,k,hi,hk=>by
  obtain⟨k',rfl,_⟩:=a9 hk
  have hil:i<l.length:=by omega
  have hr:=hl _ (oA hil)
  have h4:=qQ (v:=v) (l:=l) i
  have hlen:((wY v l i).map pu).length=off v l i:=by rw [List.length_map,xE]
  have ih:=aBm (d:=d) (f:=f) hv hl hn hK t (i+1) k' (by omega) (by omega)
  have e1:qW ((wY v l i).map pu) [(⟨(i:Int),0⟩:aC)]=some ((wY v l i).map pu++[(⟨(i:Int),0⟩:aC)]):=apA (by rw [hlen];simp;omega)
  have e2:qW ((wY v l i).map pu++[(⟨(i:Int),0⟩:aC)]) [(⟨(i:Int),1⟩:aC),⟨(i:Int),2⟩,⟨(i:Int),3⟩]=some ((wY v l i).map pu++[(⟨(i:Int),0⟩:aC)]++[(⟨(i:Int),1⟩:aC),⟨(i:Int),2⟩,⟨(i:Int),3⟩]):=apA (by rw [List.length_append,hlen];simp;omega)
  have e3:(wY v l (i+1)).map pu=(wY v l i).map pu++(blk v l i).map pu:=List.map_append
  rw [e3] at ih
  simp only [cW,dT (show(i:Int)<(l.length:Int) by omega),bT,aA1 hil,oB,e1]
  unfold blk yS at ih
  by_cases h0:0<(jA l i).t.length
  ·simp only [dT (show(0:Int)<((jA l i).t.length:Int) by omega),bT,aJd hv hr hK,oB]
   by_cases h1:(rt (jA l i).t v).num.sign=0
   ·simp only [qT h1,bT,e2,oB,mF (i:=i) (by omega)]
    rw [decide_eq_true h0,decide_eq_true h1] at ih
    rw [List.append_assoc]
    exact ih
   ·simp only [qF h1,bM,mF (i:=i) (by omega),oB]
    rw [decide_eq_false h1,Bool.and_false] at ih
    exact ih
  ·simp only [dF (show¬(0:Int)<((jA l i).t.length:Int) by omega),bM,mF (i:=i) (by omega),oB]
   rw [decide_eq_false h0,Bool.false_and] at ih
   exact ih
theorem aCj {d:List aG} {f v:List Rat} {l:List aA} (hv:vH 64 v) (hl:RsB l) (hn:l.length≤1000) {K:Nat} (hK:2000≤K):iO K ⟨d,f,v,l⟩=some ((wY v l l.length).map pu):=by
 have:=aBm (d:=d) (f:=f) hv hl hn (show 13≤K by omega) l.length 0 K (by omega) (by omega)
 simp only [Int.natCast_zero] at this
 simp only [iO,show([]:List aC)=(wY v l 0).map pu from rfl,this,oB,kU]
theorem aAP {v:List Rat} {l:List aA} (hv:vH 64 v) (hl:RsB l) (hn:l.length≤1000) {K:Nat} (hK:13≤K):∀(t i k:Nat),i+t=l.length→t<k→eM K v l k ((wY v l i).map ru) (i:Int)=some ((wY v l l.length).map ru)
 |0,i,k,hi,hk=>by
  obtain⟨k',rfl,_⟩:=a9 hk
  have e:i=l.length:=by omega
  subst e
  simp only [eM,dF (show¬(l.length:Int)<(l.length:Int) by omega),bM]
 |t+1,i,k,hi,hk=>by
  obtain⟨k',rfl,_⟩:=a9 hk
  have hil:i<l.length:=by omega
  have hr:=hl _ (oA hil)
  have h4:=qQ (v:=v) (l:=l) i
  have hlen:((wY v l i).map ru).length=off v l i:=by rw [List.length_map,xE]
  have ih:=aAP hv hl hn hK t (i+1) k' (by omega) (by omega)
  have e1:qW ((wY v l i).map ru) [(⟨(i:Int),0⟩:aQ)]=some ((wY v l i).map ru++[(⟨(i:Int),0⟩:aQ)]):=apA (by rw [hlen];simp;omega)
  have e2:qW ((wY v l i).map ru++[(⟨(i:Int),0⟩:aQ)]) [(⟨(i:Int),1⟩:aQ),⟨(i:Int),2⟩,⟨(i:Int),3⟩]=some ((wY v l i).map ru++[(⟨(i:Int),0⟩:aQ)]++[(⟨(i:Int),1⟩:aQ),⟨(i:Int),2⟩,⟨(i:Int),3⟩]):=apA (by rw [List.length_append,hlen];simp;omega)
  have e3:(wY v l (i+1)).map ru=(wY v l i).map ru++(blk v l i).map ru:=List.map_append
  rw [e3] at ih
  simp only [eM,dT (show(i:Int)<(l.length:Int) by omega),bT,aA1 hil,oB,e1]
  unfold blk yS at ih
  by_cases h0:0<(jA l i).t.length
  ·simp only [dT (show(0:Int)<((jA l i).t.length:Int) by omega),bT,aF5 hv hr hK,oB]
   by_cases h1:(rt (jA l i).t v).num.sign=0
   ·simp only [qT h1,bT,e2,oB,mF (i:=i) (by omega)]
    rw [decide_eq_true h0,decide_eq_true h1] at ih
    rw [List.append_assoc]
    exact ih
   ·simp only [qF h1,bM,mF (i:=i) (by omega),oB]
    rw [decide_eq_false h1,Bool.and_false] at ih
    exact ih
  ·simp only [dF (show¬(0:Int)<((jA l i).t.length:Int) by omega),bM,mF (i:=i) (by omega),oB]
   rw [decide_eq_false h0,Bool.false_and] at ih
   exact ih
theorem vZ {v:List Rat} {l:List aA} (hv:vH 64 v) (hl:RsB l) (hn:l.length≤1000) {K:Nat} (hK:2000≤K):iR K v l=some ((wY v l l.length).map ru):=by
 have:=aAP hv hl hn (show 13≤K by omega) l.length 0 K (by omega) (by omega)
 simp only [Int.natCast_zero] at this
 simp only [iR,show([]:List aQ)=(wY v l 0).map ru from rfl,this,oB,r6]
theorem rdU {v:List Rat} {l:List aA} {m r q:Nat} (hq:vq v l r q) (hr:r<m):bK ((wY v l m).map pu) ((off v l r+q:Nat):Int)=some ⟨(r:Int),(q:Int)⟩:=rdG (by rw [List.getElem?_map,aCw hq m hr];rfl)
theorem aQC {v:List Rat} {l:List aA} {m r q:Nat} (hq:vq v l r q) (hr:r<m):bK ((wY v l m).map ru) ((off v l r+q:Nat):Int)=some ⟨(r:Int),(q:Int)⟩:=rdG (by rw [List.getElem?_map,aCw hq m hr];rfl)
theorem sM {v:List Rat} {l:List aA} {m:Nat}:((wY v l m).map pu).length=off v l m:=by rw [List.length_map,xE]
theorem zX {v:List Rat} {l:List aA} {m:Nat}:((wY v l m).map ru).length=off v l m:=by rw [List.length_map,xE]
end Go.Proofs.YtcjdedkdoagifaaGreat
set_option linter.unusedVariables false
namespace Go.Proofs.YtcjdedkdoagifaaGreat
instance vqDec {v:List Rat} {l:List aA} {r q:Nat}:Decidable (vq v l r q):=by unfold vq;infer_instance
theorem vq3 {v:List Rat} {l:List aA} {r q:Nat} (h:vq v l r q):q≤3:=by
 rcases h with h|h
 ·omega
 ·exact h.2
def ow (v:List Rat) (l:List aA) (z:Nat→Rat) (i k q:Nat):Rat:=if vq v l i q∧off v l i+q<k then z (off v l i+q) else 0
theorem aKo {v:List Rat} {l:List aA} {z:Nat→Rat} {i k r q0:Nat} (hq:vq v l r q0) (hk:k=off v l r+q0):(r=i→mp (iL (ow v l z i k) q0 (z k)) 4=mp (ow v l z i (k+1)) 4)∧(r≠i→mp (ow v l z i k) 4=mp (ow v l z i (k+1)) 4):=by
 refine⟨fun e=>bW fun q _=>?_,fun e=>bW fun q _=>?_⟩
 ·subst e
  by_cases h:q=q0
  ·subst h
   rw [aX]
   unfold ow
   rw [if_pos ⟨hq,by omega⟩,←hk]
  ·rw [cF h]
   unfold ow
   by_cases h2:vq v l r q∧off v l r+q<k
   ·rw [if_pos h2,if_pos ⟨h2.1,by omega⟩]
   ·rw [if_neg h2,if_neg fun h3=>h2 ⟨h3.1,by omega⟩]
 ·unfold ow
  by_cases h2:vq v l i q∧off v l i+q<k
  ·rw [if_pos h2,if_pos ⟨h2.1,by omega⟩]
  ·rw [if_neg h2,if_neg fun h3=>?_]
   have:off v l i+q=off v l r+q0:=by
    have:=h3.2
    by_cases e2:off v l i+q<k
    ·exact absurd ⟨h3.1,e2⟩ h2
    ·omega
   exact e (aCK h3.1 hq this).1.symm
theorem aIv {v:List Rat} {l:List aA} {m:Nat} {z:Nat→Rat} (hm:m≤1000) (i:Nat) (K:Nat):∀(t k fu:Nat),k+t=off v l m→t<fu→gO K (mp z (off v l m)) ((wY v l m).map ru) (i:Int) fu (mp (ow v l z i k) 4) (k:Int)=some (mp (ow v l z i (off v l m)) 4)
 |0,k,fu,hi,hk=>by
  obtain⟨k',rfl,_⟩:=a9 hk
  have e:k=off v l m:=by omega
  subst e
  simp only [gO,zX,dF (show¬(off v l m:Int)<(off v l m:Int) by omega),bM]
 |t+1,k,fu,hi,hk=>by
  obtain⟨k',rfl,_⟩:=a9 hk
  have hkl:k<off v l m:=by omega
  have h4:=qQ (v:=v) (l:=l) m
  obtain⟨r,q,h1,h2,h3⟩:=sN m k hkl
  have hq3:=vq3 h2
  have hu:=aQC (m:=m) h2 h1
  rw [←h3] at hu
  obtain⟨s1,s2⟩:=aKo (z:=z) (i:=i) h2 h3
  have ih:=aIv (v:=v) (l:=l) (z:=z) hm i K t (k+1) k' (by omega) (by omega)
  simp only [gO,zX,dT (show(k:Int)<(off v l m:Int) by omega),bT,hu,oB]
  by_cases e:r=i
  ·simp only [qT (show(r:Int)=(i:Int) by omega),bT,dR (f:=z) hkl,dR (f:=ow v l z i k) (n:=4) (i:=q) (by omega),oB,rG (f:=ow v l z i k) (n:=4) (i:=q) (by omega),s1 e,mF (i:=k) (by omega)]
   exact ih
  ·simp only [qF (show(r:Int)≠(i:Int) by omega),bM,mF (i:=k) (by omega),oB,s2 e]
   exact ih
def pz (v:List Rat) (l:List aA) (z:Nat→Rat) (i:Nat):aF:=
 if(jA l i).t.length=0 then⟨z (off v l i),0⟩
 else if(rt (jA l i).t v).num.sign≠0 then⟨z (off v l i),(((-(rt (jA l i).t v).num.sign:Int):Rat)/((1:Int):Rat))*((jA l i).mu*z (off v l i))⟩
 else⟨z (off v l i),z (off v l i+1)-z (off v l i+2)⟩
theorem aJg (x:Rat):-1≤x.num.sign∧x.num.sign≤1:=by
 rcases Int.lt_trichotomy x.num 0 with h|h|h
 ·rw [Int.sign_eq_neg_one_of_neg h];omega
 ·rw [h];decide
 ·rw [Int.sign_eq_one_of_pos h];omega
theorem qsg (x:Rat):zJ (-x.num.sign) 1=some (((-x.num.sign:Int):Rat)/((1:Int):Rat))∧Bd 2 (((-x.num.sign:Int):Rat)/((1:Int):Rat)):=by
 have:=aJg x
 obtain⟨r,h1,h2,h3⟩:=aCg (k:=2) (p:=-x.num.sign) (q:=1) (by omega) (by omega) (by decide) (by omega)
 rw [←h2];exact⟨h1,h3⟩
theorem aEf {v:List Rat} {l:List aA} {z:Nat→Rat} {C:Nat} (hz:∀k,k<off v l l.length→Bd C (z k)) (hl:RsC l):PB' (2*C+11) l.length (pz v l z):=fun i hi=>by
 have h0:=hz _ (pY (v:=v) (l:=l) (r:=i) (q:=0) hi (.inl rfl))
 rw [Nat.add_zero] at h0
 have hm:=(hl _ (oA hi)).2
 unfold pz
 split
 ·exact⟨h0.mono (by omega),Bd.zero.mono (by omega)⟩
 ·rename_i ht
  split
  ·exact⟨h0.mono (by omega),((qsg _).2.mul (hm.mul h0)).mono (by omega)⟩
  ·rename_i hs
   have hst:yS v (jA l i)=true:=by
    unfold yS
    rw [decide_eq_true (show 0<(jA l i).t.length by omega),decide_eq_true (show(rt (jA l i).t v).num.sign=0 from Decidable.of_not_not hs)];rfl
   exact⟨h0.mono (by omega),((hz _ (pY (q:=1) hi (.inr ⟨hst,by omega⟩))).sub (hz _ (pY (q:=2) hi (.inr ⟨hst,by omega⟩)))).mono (by omega)⟩
theorem aDe {v:List Rat} {l:List aA} {z:Nat→Rat} {C:Nat} (hv:vH 64 v) (hl:RsC l) (hz:∀k,k<off v l l.length→Bd C (z k)) (hC:C≤500000000) (hn:l.length≤1000) {K:Nat} (hK:5000≤K):∀(t i k:Nat),i+t=l.length→t<k→jR K v l (mp z (off v l l.length)) ((wY v l l.length).map ru) k (mp (pz v l z) i) (i:Int)=some (mp (pz v l z) l.length)
 |0,i,k,hi,hk=>by
  obtain⟨k',rfl,_⟩:=a9 hk
  have e:i=l.length:=by omega
  subst e
  simp only [jR,dF (show¬(l.length:Int)<(l.length:Int) by omega),bM]
 |t+1,i,k,hi,hk=>by
  obtain⟨k',rfl,_⟩:=a9 hk
  have hil:i<l.length:=by omega
  have h4:=qQ (v:=v) (l:=l) l.length
  have hr:=hl _ (oA hil)
  have ih:=aDe hv hl hz hC hn hK t (i+1) k' (by omega) (by omega)
  have e0:mp (ow v l z i 0) 4=mp (fun _=>(0:Rat)) 4:=bW fun q _=>if_neg (by omega)
  have e1:=aIv (v:=v) (l:=l) (m:=l.length) (z:=z) hn i K (off v l l.length) 0 K (by omega) (by omega)
  rw [e0] at e1
  simp only [Int.natCast_zero] at e1
  have hmk:vC 4 (0:Rat)=some (mp (fun _=>(0:Rat)) 4):=aAJ (n:=4) (by omega)
  have l0:=pY (v:=v) (l:=l) (m:=l.length) (r:=i) (q:=0) hil (.inl rfl)
  have o0:ow v l z i (off v l l.length) 0=z (off v l i):=by unfold ow;rw [if_pos ⟨.inl rfl,l0⟩,Nat.add_zero]
  rw [Nat.add_zero] at l0
  have r0:bK (mp (ow v l z i (off v l l.length)) 4) 0=some (z (off v l i)):=by rw [←o0];exact dR (i:=0) (by omega)
  have hF:sQ K (jA l i) v (mp (ow v l z i (off v l l.length)) 4)=some (pz v l z i):=by
   simp only [sQ,aF5 hv hr.1 (show 13≤K by omega),oB,r0]
   unfold pz
   by_cases ht:(jA l i).t.length=0
   ·simp only [qT (show((jA l i).t.length:Int)=0 by omega),bT,if_pos ht]
   ·simp only [qF (show((jA l i).t.length:Int)≠0 by omega),bM,if_neg ht]
    by_cases hs:(rt (jA l i).t v).num.sign=0
    ·have hst:yS v (jA l i)=true:=by
      unfold yS;rw [decide_eq_true (show 0<(jA l i).t.length by omega),decide_eq_true hs];rfl
     have l1:=pY (v:=v) (l:=l) (m:=l.length) (r:=i) (q:=1) hil (.inr ⟨hst,by omega⟩)
     have l2:=pY (v:=v) (l:=l) (m:=l.length) (r:=i) (q:=2) hil (.inr ⟨hst,by omega⟩)
     have r1:bK (mp (ow v l z i (off v l l.length)) 4) 1=some (z (off v l i+1)):=by
      have:ow v l z i (off v l l.length) 1=z (off v l i+1):=if_pos ⟨.inr ⟨hst,by omega⟩,l1⟩
      rw [←this];exact dR (i:=1) (by omega)
     have r2:bK (mp (ow v l z i (off v l l.length)) 4) 2=some (z (off v l i+2)):=by
      have:ow v l z i (off v l l.length) 2=z (off v l i+2):=if_pos ⟨.inr ⟨hst,by omega⟩,l2⟩
      rw [←this];exact dR (i:=2) (by omega)
     simp only [nF hs,bM,r1,r2,oB,yV (hz _ l1) (hz _ l2) (by omega) (by omega),if_neg (show¬((rt (jA l i).t v).num.sign≠0) from fun h=>h hs)]
    ·have hb:=aJg (rt (jA l i).t v)
     have hz0:=hz _ l0
     simp only [nT hs,bT,kM (show -9223372036854775808≤-(rt (jA l i).t v).num.sign∧_ by omega),oB,(qsg _).1,oT hr.2 hz0 (by omega) (by omega),oT (qsg (rt (jA l i).t v)).2 (hr.2.mul hz0) (by omega) (by omega),if_pos hs]
  simp only [jR,dT (show(i:Int)<(l.length:Int) by omega),bT,hmk,oB,e1,sY,aA1 hil,hF,apM (g:=pz v l z) (i:=i) (by omega),mF (i:=i) (by omega)]
  exact ih
theorem aEH {v:List Rat} {l:List aA} {z:Nat→Rat} {C:Nat} (hv:vH 64 v) (hl:RsC l) (hz:∀k,k<off v l l.length→Bd C (z k)) (hC:C≤500000000) (hn:l.length≤1000) {K:Nat} (hK:5000≤K):o6 K v l (mp z (off v l l.length))=some (mp (pz v l z) l.length):=by
 have:=aDe hv hl hz hC hn hK l.length 0 K (by omega) (by omega)
 simp only [Int.natCast_zero,y8] at this
 simp only [o6,vZ hv (fun r h=>(hl r h).1) hn (show 2000≤K by omega),oB,this,tC]
def uk (v:List Rat) (l:List aA) (k:Nat):Nat×Nat:=(wY v l l.length).getD k (0,0)
theorem aCm {v:List Rat} {l:List aA} {r q:Nat} (hq:vq v l r q) (hr:r<l.length):uk v l (off v l r+q)=(r,q):=by
 unfold uk
 rw [List.getD_eq_getElem?_getD,aCw hq _ hr];rfl
def rv (v:List Rat) (l:List aA) (a:List Rat) (k:Nat):Rat:=
 if(uk v l k).2=0 then rt (jA l (uk v l k).1).j a
 else if(uk v l k).2=1 then rt (jA l (uk v l k).1).t a
 else if(uk v l k).2=2 then -(rt (jA l (uk v l k).1).t a)
 else 0
def zv (v:List Rat) (l:List aA) (z:Nat→Rat) (k:Nat):Rat:=
 if(uk v l k).2=0 then 0
 else if(uk v l k).2=1 then z (k+2)
 else if(uk v l k).2=2 then z (k+1)
 else(jA l (uk v l k).1).mu*z (k-3)-(z (k-2)+z (k-1))
def vl (v:List Rat) (l:List aA) (a:List Rat) (z:Nat→Rat) (k:Nat):Rat:=rv v l a k+zv v l z k
theorem aDc {v a:List Rat} {l:List aA} {z:Nat→Rat} {C B:Nat} (hl:RsC l) (ha:vH B a) (hB:B≤10000000) (hz:∀k,k<off v l l.length→Bd C (z k)) (hC:C≤100000000) (hn:l.length≤1000) {K:Nat} (hK:13≤K):∀(t k fu:Nat),k+t=off v l l.length→t<fu→eE K l (mp z (off v l l.length)) a ((wY v l l.length).map ru) fu (mp (vl v l a z) k) (k:Int)=some (mp (vl v l a z) (off v l l.length))
 |0,k,fu,hi,hk=>by
  obtain⟨k',rfl,_⟩:=a9 hk
  have e:k=off v l l.length:=by omega
  subst e
  simp only [eE,zX,dF (show¬(off v l l.length:Int)<(off v l l.length:Int) by omega),bM]
 |t+1,k,fu,hi,hk=>by
  obtain⟨k',rfl,_⟩:=a9 hk
  have hkl:k<off v l l.length:=by omega
  have h4:=qQ (v:=v) (l:=l) l.length
  obtain⟨r,q,h1,h2,h3⟩:=sN l.length k hkl
  have hq3:=vq3 h2
  have hu:=aQC (m:=l.length) h2 h1
  rw [←h3] at hu
  have huk:=aCm h2 h1
  rw [←h3] at huk
  have hr:=hl _ (oA h1)
  have ih:=aDc hl ha hB hz hC hn hK t (k+1) k' (by omega) (by omega)
  have bj:=xJ ha hr.1.1
  have bt:=xJ ha hr.1.2
  have ap:=apM (g:=vl v l a z) (i:=k) (by omega)
  simp only [eE,zX,dT (show(k:Int)<(off v l l.length:Int) by omega),bT,hu,oB,aA1 h1]
  have hcase:q=0∨q=1∨q=2∨q=3:=by omega
  rcases hcase with rfl|rfl|rfl|rfl
  ·have e:vl v l a z k=rt (jA l r).j a:=by unfold vl rv zv;rw [huk];exact Rat.add_zero _
   rw [e] at ap
   simp only [qT (show((0:Nat):Int)=0 from rfl),bT,aAB ha (by omega) hr.1.1 hK,oB,ap,mF (i:=k) (by omega)]
   exact ih
  ·have hst:yS v (jA l r)=true:=by rcases h2 with h|h;omega;exact h.1
   have l3:=pY (v:=v) (l:=l) (m:=l.length) (r:=r) (q:=3) h1 (.inr ⟨hst,by omega⟩)
   have e:vl v l a z k=rt (jA l r).t a+z (k+2):=by unfold vl rv zv;rw [huk];rfl
   rw [e] at ap
   have c2:aP ((k:Int)+2)=some ((k+2:Nat):Int):=by rw [kM (by omega)];rfl
   simp only [qF (show((1:Nat):Int)≠0 by omega),qT (show((1:Nat):Int)=1 from rfl),bM,bT,aAB ha (by omega) hr.1.2 hK,oB,c2,dR (f:=z) (n:=off v l l.length) (i:=k+2) (by omega),t7 bt (hz (k+2) (by omega)) (by omega) (by omega),ap,mF (i:=k) (by omega)]
   exact ih
  ·have hst:yS v (jA l r)=true:=by rcases h2 with h|h;omega;exact h.1
   have l3:=pY (v:=v) (l:=l) (m:=l.length) (r:=r) (q:=3) h1 (.inr ⟨hst,by omega⟩)
   have e:vl v l a z k=z (k+1)-rt (jA l r).t a:=by
    unfold vl rv zv;rw [huk]
    show -(rt (jA l r).t a)+z (k+1)=_
    rw [Rat.add_comm,Rat.sub_eq_add_neg]
   rw [e] at ap
   simp only [qF (show((2:Nat):Int)≠0 by omega),qF (show((2:Nat):Int)≠1 by omega),qT (show((2:Nat):Int)=2 from rfl),bM,bT,mF (i:=k) (by omega),oB,dR (f:=z) (n:=off v l l.length) (i:=k+1) (by omega),aAB ha (by omega) hr.1.2 hK,yV (hz (k+1) (by omega)) bt (by omega) (by omega),ap]
   exact ih
  ·have e:vl v l a z k=(jA l r).mu*z (k-3)-(z (k-2)+z (k-1)):=by unfold vl rv zv;rw [huk];exact Rat.zero_add _
   rw [e] at ap
   have c1:aP ((k:Int)-3)=some ((k-3:Nat):Int):=by rw [kM (by omega)];congr 1;omega
   have c2:aP ((k:Int)-2)=some ((k-2:Nat):Int):=by rw [kM (by omega)];congr 1;omega
   have c3:aP ((k:Int)-1)=some ((k-1:Nat):Int):=by rw [kM (by omega)];congr 1;omega
   have z1:=hz (k-3) (by omega)
   have z2:=hz (k-2) (by omega)
   have z3:=hz (k-1) (by omega)
   simp only [qF (show((3:Nat):Int)≠0 by omega),qF (show((3:Nat):Int)≠1 by omega),qF (show((3:Nat):Int)≠2 by omega),bM,c1,c2,c3,oB,dR (f:=z) (n:=off v l l.length) (i:=k-3) (by omega),dR (f:=z) (n:=off v l l.length) (i:=k-2) (by omega),dR (f:=z) (n:=off v l l.length) (i:=k-1) (by omega),oT hr.2 z1 (by omega) (by omega),t7 z2 z3 (by omega) (by omega),yV (hr.2.mul z1) (z2.add z3) (by omega) (by omega),ap,mF (i:=k) (by omega)]
   exact ih
theorem aQm {v a:List Rat} {l:List aA} {z:Nat→Rat} {C B:Nat} (hl:RsC l) (ha:vH B a) (hz:∀k,k<off v l l.length→Bd C (z k)) {k:Nat} (hk:k<off v l l.length):Bd (1+(B+9)*12+(3*C+20)) (vl v l a z k):=by
 obtain⟨r,q,h1,h2,h3⟩:=sN l.length k hk
 have hq3:=vq3 h2
 have huk:=aCm h2 h1
 rw [←h3] at huk
 have hr:=hl _ (oA h1)
 have bj:=xJ ha hr.1.1
 have bt:=xJ ha hr.1.2
 have hC:∀k,k<off v l l.length→Bd (3*C+19) (z k):=fun k hk=>(hz k hk).mono (by omega)
 have b1:Bd (1+(B+9)*12) (rv v l a k):=by
  unfold rv;rw [huk]
  split
  ·exact bj
  ·split
   ·exact bt
   ·split
    ·exact bt.neg
    ·exact Bd.zero.mono (by omega)
 have b2:Bd (3*C+19) (zv v l z k):=by
  unfold zv;rw [huk]
  have hcase:q=0∨q=1∨q=2∨q=3:=by omega
  rcases hcase with rfl|rfl|rfl|rfl
  ·exact Bd.zero.mono (by omega)
  ·have hst:yS v (jA l r)=true:=by rcases h2 with h|h;omega;exact h.1
   have l3:=pY (v:=v) (l:=l) (m:=l.length) (r:=r) (q:=3) h1 (.inr ⟨hst,by omega⟩)
   exact hC _ (by omega)
  ·have hst:yS v (jA l r)=true:=by rcases h2 with h|h;omega;exact h.1
   have l3:=pY (v:=v) (l:=l) (m:=l.length) (r:=r) (q:=3) h1 (.inr ⟨hst,by omega⟩)
   exact hC _ (by omega)
  ·exact((hr.2.mul (hz (k-3) (by omega))).sub ((hz (k-2) (by omega)).add (hz (k-1) (by omega)))).mono (by omega)
 exact(b1.add b2).mono (by omega)
end Go.Proofs.YtcjdedkdoagifaaGreat
set_option linter.unusedVariables false
namespace Go.Proofs.YtcjdedkdoagifaaGreat
theorem aJK {d:List aG} {f:Nat→Rat} {v:List Rat} {l:List aA} {z:Nat→Rat} {A C:Nat} (hd:∀x∈d,Bd 8 x.inv) (hn:d.length≤100) (hf:∀j,j<d.length→Bd A (f j)) (hv:vH 64 v) (hl:RsC l) (hr:InR d.length l) (hll:l.length≤100) (hz:∀k,k<off v l l.length→Bd C (z k)) (hA:A≤1000000) (hC:(2*C+20)*24*l.length≤5000000) (hC2:C≤100000000) {K:Nat} (hK:5000≤K):
  mH K d (mp f d.length) v l (mp z (off v l l.length))=some (mp (vl v l (mp (xM d f l (pz v l z)) d.length) z) (off v l l.length)):=by
 have hp:=aEf hz hl
 have hrb:RsB l:=fun r h=>(hl r h).1
 have hcl:(2*C+11+9)*24*l.length≤5000000:=hC
 have e1:=aEH hv hl hz (by omega) (by omega) hK
 have e2:=aJc (p:=pz v l z) hd (show d.length≤1000 by omega) hf hrb hr (by omega) hp (by omega) (by omega) (show 2000≤K by omega)
 have hb:=aDO (p:=pz v l z) hd hf hrb hr hp (by omega) (by omega) (by omega) (by omega)
 have e3:=aDc (z:=z) hl hb (by unfold aHq;omega) hz hC2 (show l.length≤1000 by omega) (show 13≤K by omega) (off v l l.length) 0 K (by omega) (by have:=qQ (v:=v) (l:=l) l.length;omega)
 simp only [Int.natCast_zero,y8] at e3
 simp only [mH,e1,oB,e2,vZ hv hrb (show l.length≤1000 by omega) (show 2000≤K by omega),e3,tB]
theorem aNa {f g:Nat→Rat} {n:Nat} (t:aE):trm (mp (fun j=>f j+g j) n) t=trm (mp f n) t+trm (mp g n) t:=by
 unfold trm
 rw [bV,bV,bV]
 by_cases h:0≤t.dof∧t.dof<(n:Int)
 ·rw [decide_eq_true h]
  show t.k*pL _ _=t.k*pL _ _+t.k*pL _ _
  rw [zU (by omega),zU (by omega),zU (by omega),Rat.mul_add]
 ·rw [decide_eq_false h];exact(Rat.add_zero 0).symm
theorem add4 (x y a b:Rat):x+y+(a+b)=x+a+(y+b):=by
 rw [Rat.add_assoc,←Rat.add_assoc y,Rat.add_comm y a,Rat.add_assoc a,←Rat.add_assoc]
theorem aIQ {f g:Nat→Rat} {n:Nat}:∀(l:List aE) (x y:Rat),rtf (mp (fun j=>f j+g j) n) l (x+y)=rtf (mp f n) l x+rtf (mp g n) l y
 |[],x,y=>rfl
 |t::l,x,y=>by
  show rtf _ l (x+y+trm _ t)=rtf _ l (x+trm _ t)+rtf _ l (y+trm _ t)
  rw [aNa,←aIQ l,add4]
theorem aHm {f g:Nat→Rat} {n:Nat} (l:List aE):rt l (mp (fun j=>f j+g j) n)=rt l (mp f n)+rt l (mp g n):=by
 have:=aIQ (f:=f) (g:=g) (n:=n) l 0 0
 rwa [Rat.add_zero] at this
theorem aHz {v:List Rat} {l:List aA} {f g:Nat→Rat} {n k:Nat}:rv v l (mp (fun j=>f j+g j) n) k=rv v l (mp f n) k+rv v l (mp g n) k:=by
 unfold rv
 split
 ·exact aHm _
 ·split
  ·exact aHm _
  ·split
   ·rw [aHm,Rat.neg_add]
   ·exact(Rat.add_zero 0).symm
theorem aDD {n:Nat}:∀(l:List aE) (x:Rat),rtf (mp (fun _=>(0:Rat)) n) l x=x
 |[],x=>rfl
 |t::l,x=>by
  show rtf _ l (x+trm _ t)=x
  have:trm (mp (fun _=>(0:Rat)) n) t=0:=by
   unfold trm
   rw [bV]
   by_cases h:0≤t.dof∧t.dof<(n:Int)
   ·rw [decide_eq_true h];show t.k*pL _ _=0;rw [zU (by omega),Rat.mul_zero]
   ·rw [decide_eq_false h];rfl
  rw [this,Rat.add_zero]
  exact aDD l x
theorem aNb {v:List Rat} {l:List aA} {n k:Nat}:rv v l (mp (fun _=>(0:Rat)) n) k=0:=by
 unfold rv rt
 rw [aDD,aDD]
 split
 ·rfl
 ·split
  ·rfl
  ·split<;>rfl
def p0:Nat→aF:=fun _=>⟨0,0⟩
def z0:Nat→Rat:=fun _=>0
theorem aCb {l:List aA} {j:Nat}:∀m,rP l p0 m j=0
 |0=>rfl
 |m+1=>by
  show rP l p0 m j+rcq l p0 m j=0
  rw [aCb m]
  unfold rcq
  show(0:Rat)+(cf _ _*0+cf _ _*0)=0
  rw [Rat.mul_zero,Rat.mul_zero,Rat.add_zero,Rat.add_zero]
theorem aEv {d:List aG} {f:Nat→Rat} {l:List aA} {p:Nat→aF}:xM d f l p=fun j=>xM d f l p0 j+xM d z0 l p j:=by
 funext j
 unfold xM z0
 rw [aCb,Rat.add_zero,Rat.zero_add,←Rat.add_mul]
theorem aDK {l:List aA} {p q:Nat→aF} {j:Nat}:∀m,(∀r,r<m→p r=q r)→rP l p m j=rP l q m j
 |0,_=>rfl
 |m+1,h=>by
  show rP l p m j+rcq l p m j=rP l q m j+rcq l q m j
  rw [aDK m fun r hr=>h r (by omega)]
  unfold rcq
  rw [h m (by omega)]
theorem aEu {d:List aG} {f:Nat→Rat} {l:List aA} {p q:Nat→aF} (h:∀r,r<l.length→p r=q r):xM d f l p=xM d f l q:=by
 funext j
 unfold xM
 rw [aDK _ h]
theorem aK1 {d:List aG} {l:List aA}:xM d z0 l p0=fun _=>0:=by
 funext j
 unfold xM z0
 rw [aCb,Rat.add_zero,Rat.zero_mul]
theorem aIo {v:List Rat} {l:List aA} {i:Nat}:pz v l z0 i=⟨0,0⟩:=by
 unfold pz z0
 split
 ·rfl
 ·split
  ·rw [Rat.mul_zero,Rat.mul_zero]
  ·rw [Rat.sub_self]
theorem aMS {v:List Rat} {l:List aA} {k:Nat}:zv v l z0 k=0:=by
 unfold zv z0
 split
 ·rfl
 ·split
  ·rfl
  ·split
   ·rfl
   ·rw [Rat.mul_zero,Rat.add_zero,Rat.sub_self]
def ek (k:Nat):Nat→Rat:=iL z0 k 1
def Mf (d:List aG) (v:List Rat) (l:List aA) (i k:Nat):Rat:=rv v l (mp (xM d z0 l (pz v l (ek k))) d.length) i+zv v l (ek k) i
def qf (d:List aG) (f:Nat→Rat) (v:List Rat) (l:List aA) (i:Nat):Rat:=rv v l (mp (xM d f l p0) d.length) i
theorem aFl {d:List aG} {f:Nat→Rat} {v:List Rat} {l:List aA} {n i:Nat}:vl v l (mp (xM d f l (pz v l z0)) d.length) z0 i=qf d f v l i:=by
 unfold vl qf
 rw [aMS,Rat.add_zero,aEu (q:=p0) fun r _=>aIo]
theorem aKL {d:List aG} {f:Nat→Rat} {v:List Rat} {l:List aA} {k i:Nat}:vl v l (mp (xM d f l (pz v l (ek k))) d.length) (ek k) i-qf d f v l i=Mf d v l i k:=by
 unfold vl qf Mf
 rw [aEv,aHz]
 generalize rv v l (mp (xM d f l p0) d.length) i=a
 generalize rv v l (mp (xM d z0 l (pz v l (ek k))) d.length) i=b
 generalize zv v l (ek k) i=c
 rw [Rat.add_assoc,Rat.sub_eq_add_neg,Rat.add_comm a,Rat.add_assoc,Rat.add_neg_cancel,Rat.add_zero]
theorem aI8 {k j:Nat}:Bd 1 (ek k j):=by
 unfold ek iL z0
 split
 ·constructor<;>decide
 ·exact Bd.zero
structure ScB (d:List aG) (f v:List Rat) (l:List aA):Prop where
 sb:SB d f v l
 n8:d.length≤12
 m8:l.length≤8
 ir:InR d.length l
 fl:f.length=d.length
theorem aMo {d:List aG} {f v:List Rat} {l:List aA} (h:SB d f v l) (hm:l.length≤8) (hf:aB9 d f v l=true):ScB d f v l:=by
 unfold aB9 at hf
 rw [Bool.and_eq_true,Bool.and_eq_true] at hf
 have h1:=of_decide_eq_true hf.1.1
 refine⟨h,h1.1,hm,fun r hr=>?_,h1.2.1⟩
 have h2:=List.all_eq_true.1 hf.2 r hr
 unfold yD at h2
 rw [Bool.and_eq_true,Bool.and_eq_true,Bool.and_eq_true] at h2
 exact⟨aKI h2.1.1.1,aKI h2.1.1.2⟩
theorem ScB.fbd {d:List aG} {f v:List Rat} {l:List aA} (h:ScB d f v l):∀j,j<d.length→Bd 64 (pL f j):=fun j hj=>h.sb.sf _ (vR (by rw [h.fl];exact hj))
theorem ScB.fmp {d:List aG} {f v:List Rat} {l:List aA} (h:ScB d f v l):f=mp (pL f) d.length:=by rw [←h.fl];exact aMd f
theorem bd8 {C m:Nat} (hC:C≤1) (hm:m≤8):(2*C+20)*24*m≤5000000:=Nat.le_trans (Nat.mul_le_mul (Nat.mul_le_mul_right 24 (show 2*C+20≤22 by omega)) hm) (by decide)
theorem ScB.vals {d:List aG} {f v:List Rat} {l:List aA} (h:ScB d f v l) {z:Nat→Rat} (hz:∀k,Bd 1 (z k)) {K:Nat} (hK:5000≤K):mH K d f v l (mp z (off v l l.length))=some (mp (vl v l (mp (xM d (pL f) l (pz v l z)) d.length) z) (off v l l.length)):=by
 have h8:=h.m8
 have hn:=h.n8
 have:=aJK (z:=z) h.sb.sd (by omega) h.fbd h.sb.sv h.sb.sl h.ir (by omega) (fun k _=>hz k) (by omega) (bd8 (Nat.le_refl 1) h8) (by omega) hK
 rwa [←h.fmp] at this
theorem ScB.vbd {d:List aG} {f v:List Rat} {l:List aA} (h:ScB d f v l) {z:Nat→Rat} (hz:∀k,Bd 1 (z k)) {k:Nat} (hk:k<off v l l.length):Bd 100000 (vl v l (mp (xM d (pL f) l (pz v l z)) d.length) z k):=by
 have h8:=h.m8
 have hn:=h.n8
 have hp:=aEf (l:=l) (v:=v) (z:=z) (C:=1) (fun k _=>hz k) h.sb.sl
 have hb:=aDO (p:=pz v l z) h.sb.sd h.fbd (fun r hr=>(h.sb.sl r hr).1) h.ir hp (by omega) (by omega) (by omega) (Nat.le_trans (bd8 (C:=1) (Nat.le_refl 1) h8) (by decide))
 exact(aQm h.sb.sl hb (fun k _=>hz k) hk).mono (by unfold aHq;omega)
theorem aKS {v:List Rat} {l:List aA} {w q:Nat→Rat} {m:Nat} (hm:m≤100) (hw:∀i,i<off v l m→Bd 100000 (w i)) (hq:∀i,i<off v l m→Bd 100000 (q i)) (K:Nat):∀(t i k:Nat),i+t=off v l m→t<k→iW K ((wY v l m).map ru) (mp q (off v l m)) (mp w (off v l m)) k (mp (fun i=>w i-q i) i) (i:Int)=some (mp (fun i=>w i-q i) (off v l m))
 |0,i,k,hi,hk=>by
  obtain⟨k',rfl,_⟩:=a9 hk
  have e:i=off v l m:=by omega
  subst e
  simp only [iW,zX,dF (show¬(off v l m:Int)<(off v l m:Int) by omega),bM]
 |t+1,i,k,hi,hk=>by
  obtain⟨k',rfl,_⟩:=a9 hk
  have hil:i<off v l m:=by omega
  have h4:=qQ (v:=v) (l:=l) m
  simp only [iW,zX,dT (show(i:Int)<(off v l m:Int) by omega),bT,dR (f:=w) hil,dR (f:=q) hil,oB,yV (hw i hil) (hq i hil) (by omega) (by omega),apM (g:=fun i=>w i-q i) (i:=i) (by omega),mF (i:=i) (by omega)]
  exact aKS hm hw hq K t (i+1) k' (by omega) (by omega)
theorem aGV:zJ 1 1=some 1:=by rw [aHC (by omega) (by omega),aPa]
theorem aLM {d:List aG} {f v:List Rat} {l:List aA} (h:ScB d f v l) {K:Nat} (hK:5000≤K):∀(t i k:Nat),i+t=off v l l.length→t<k→jB K d f v l ((wY v l l.length).map ru) (mp (qf d (pL f) v l) (off v l l.length)) k (mx (tr (Mf d v l)) i (off v l l.length)) (i:Int)=some (mx (tr (Mf d v l)) (off v l l.length) (off v l l.length))
 |0,i,k,hi,hk=>by
  obtain⟨k',rfl,_⟩:=a9 hk
  have e:i=off v l l.length:=by omega
  rw [e]
  simp only [jB,zX,dF (show¬(off v l l.length:Int)<(off v l l.length:Int) by omega),bM]
 |t+1,i,k,hi,hk=>by
  obtain⟨k',rfl,_⟩:=a9 hk
  have hil:i<off v l l.length:=by omega
  have h8:=h.m8
  have h4:=qQ (v:=v) (l:=l) l.length
  have e1:nL (mp (fun _=>(0:Rat)) (off v l l.length)) (i:Int) 1=some (mp (ek i) (off v l l.length)):=rG (f:=z0) hil
  have e2:=aKS (v:=v) (l:=l) (m:=l.length) (w:=vl v l (mp (xM d (pL f) l (pz v l (ek i))) d.length) (ek i)) (q:=qf d (pL f) v l) (by omega) (fun j hj=>h.vbd (fun _=>aI8) hj) (fun j hj=>by rw [←aFl (n:=0)];exact h.vbd (z:=z0) (fun _=>Bd.zero) hj) K (off v l l.length) 0 K (by omega) (by omega)
  simp only [Int.natCast_zero,y8] at e2
  have e3:mp (fun j=>vl v l (mp (xM d (pL f) l (pz v l (ek i))) d.length) (ek i) j-qf d (pL f) v l j) (off v l l.length)=mp (tr (Mf d v l) i) (off v l l.length):=bW fun j _=>aKL
  rw [e3] at e2
  have e4:qW (mx (tr (Mf d v l)) i (off v l l.length)) [mp (tr (Mf d v l) i) (off v l l.length)]=some (mx (tr (Mf d v l)) (i+1) (off v l l.length)):=apM (g:=fun i=>mp (tr (Mf d v l) i) (off v l l.length)) (by omega)
  simp only [jB,zX,dT (show(i:Int)<(off v l l.length:Int) by omega),bT,aAJ (z:=(0:Rat)) (n:=off v l l.length) (by omega),aGV,dR (f:=fun _=>(0:Rat)) hil,oB,e1,h.vals (z:=ek i) (fun _=>aI8) hK,e2,sK,e4,mF (i:=i) (by omega)]
  exact aLM h hK t (i+1) k' (by omega) (by omega)
theorem aRm (g:Nat→Nat→Rat):tr (tr g)=g:=rfl
theorem aF0 {d:List aG} {f v:List Rat} {l:List aA} (h:ScB d f v l) (hf:aB9 d f v l=true) {K:Nat} (hK:5000≤K):rD K d f v l=some (mx (Mf d v l) (off v l l.length) (off v l l.length),mp (qf d (pL f) v l) (off v l l.length)):=by
 have h8:=h.m8
 have h4:=qQ (v:=v) (l:=l) l.length
 have e1:=h.vals (z:=z0) (fun _=>Bd.zero) hK
 have e2:mp (vl v l (mp (xM d (pL f) l (pz v l z0)) d.length) z0) (off v l l.length)=mp (qf d (pL f) v l) (off v l l.length):=bW fun j _=>aFl (n:=0)
 have e3:mp (fun _=>(0:Rat)) (off v l l.length)=mp z0 (off v l l.length):=rfl
 have e4:=aLM h hK (off v l l.length) 0 K (by omega) (by omega)
 have e5:mx (tr (Mf d v l)) 0 (off v l l.length)=[]:=rfl
 rw [e5] at e4
 simp only [Int.natCast_zero] at e4
 have e6:=aKh (g:=tr (Mf d v l)) (h:=off v l l.length) (w:=off v l l.length) (fun h=>h) (by omega) (by omega) (K:=K) (by omega)
 simp only [rD,aHV h.sb (show 200≤K by omega),hf,oB,Bool.not_true,bM,vZ h.sb.sv (fun r hr=>(h.sb.sl r hr).1) (show l.length≤1000 by omega) (show 2000≤K by omega),zX,aAJ (z:=(0:Rat)) (n:=off v l l.length) (by omega),e3,e1,e2,e4,sI,e6,aRm]
end Go.Proofs.YtcjdedkdoagifaaGreat
set_option linter.unusedVariables false
namespace Go.Proofs.YtcjdedkdoagifaaGreat
/-- The rows as they lie, and where. -/
def yQ (G:Nat→Nat→Rat) (N:Nat):List (List Rat):=[]::mx G N N
def zP (N:Nat):List Nat:=mp (fun i=>i+1) N
theorem aA0 {G:Nat→Nat→Rat} {N i:Nat} (h:i<N):(yQ G N).getD (i+1) []=mp (G i) N:=by
 unfold yQ mx
 rw [List.getD_eq_getElem?_getD,List.getElem?_cons_succ,aAd h];rfl
theorem aDQ {G:Nat→Nat→Rat} {N i:Nat} {f:Nat→Rat}:(yQ G N).set (i+1) (mp f N)=yQ (iL G i f) N:=by
 unfold yQ
 rw [List.set_cons_succ]
 unfold mx
 rw [aK3,aPj];rfl
theorem tV {G H:Nat→Nat→Rat} {N:Nat} (h:∀i c,i<N→c<N→G i c=H i c):yQ G N=yQ H N:=by
 unfold yQ;rw [aKu h]
theorem aO3 {G:Nat→Nat→Rat} {N:Nat}:aDW (yQ G N) (zP N)=mx G N N:=by
 unfold aDW zP mp mx
 rw [List.map_map]
 unfold mp
 refine List.map_congr_left fun i hi=>?_
 exact aA0 (List.mem_range.1 hi)
theorem rdO {N i:Nat} (h:i<N):bK (zP N) (i:Int)=some (i+1):=dR h
theorem aLm {v:List Rat} {l:List aA} {m:Nat} (hm:m≤100) (K:Nat):∀(t i k:Nat),i+t=off v l m→t<k→fD K ((wY v l m).map pu) (mp (fun _=>(0:Nat)) (off v l m)) k (mp (fun j=>if j<i then j+1 else 0) (off v l m)) ([]::mx (fun _=>z0) i (off v l m)) (i:Int)=some (zP (off v l m),yQ (fun _=>z0) (off v l m))
 |0,i,k,hi,hk=>by
  obtain⟨k',rfl,_⟩:=a9 hk
  have e:i=off v l m:=by omega
  subst e
  simp only [fD,bV,dF (show¬(off v l m:Int)<(off v l m:Int) by omega),bM]
  have:mp (fun j=>if j<off v l m then j+1 else 0) (off v l m)=zP (off v l m):=bW fun j hj=>if_pos hj
  rw [this];rfl
 |t+1,i,k,hi,hk=>by
  obtain⟨k',rfl,_⟩:=a9 hk
  have hil:i<off v l m:=by omega
  have h4:=qQ (v:=v) (l:=l) m
  have e0:([]::mx (fun _=>z0) i (off v l m)).length=i+1:=by rw [List.length_cons,tK]
  have e1:nL (mp (fun j=>if j<i then j+1 else 0) (off v l m)) (i:Int) (i+1)=some (mp (fun j=>if j<i+1 then j+1 else 0) (off v l m)):=by
   rw [rG hil]
   congr 1
   refine bW fun j _=>?_
   by_cases e:j=i
   ·subst e;rw [aX,if_pos (by omega)]
   ·rw [cF e]
    by_cases hlt:j<i
    ·rw [if_pos hlt,if_pos (by omega)]
    ·rw [if_neg hlt,if_neg (by omega)]
  have e2:([]::mx (fun _=>z0) i (off v l m))++[mp (fun _=>(0:Rat)) (off v l m)]=[]::mx (fun _=>z0) (i+1) (off v l m):=by
   show []::(mx (fun _=>z0) i (off v l m)++_)=_
   unfold mx
   rw [aCJ];rfl
  simp only [fD,bV,dT (show(i:Int)<(off v l m:Int) by omega),bT,sM,aAJ (z:=(0:Rat)) (n:=off v l m) (by omega),oB,dR (f:=fun j=>if j<i then j+1 else 0) hil,e0,e1,e2,mF (i:=i) (by omega)]
  exact aLm hm K t (i+1) k' (by omega) (by omega)
theorem aMc {g:Nat→Rat} {N i:Nat} {w:Rat} (h:i<N):f8 (mp g N) (i:Int) w=some (mp (iL g i w) N):=by
 simp only [f8,dR (f:=g) h,rG (f:=g) h,oB]
theorem aOJ {w:Nat→Rat} {N i:Nat}:mp (iL (fun j=>if j<i then w j else 0) i (w i)) N=mp (fun j=>if j<i+1 then w j else 0) N:=bW fun j _=>by
 by_cases e:j=i
 ·subst e;rw [aX,if_pos (by omega)]
 ·rw [cF e]
  by_cases hlt:j<i
  ·rw [if_pos hlt,if_pos (by omega)]
  ·rw [if_neg hlt,if_neg (by omega)]
theorem aRh {w:Nat→Rat} {N i:Nat} (h:w i=0):mp (fun j=>if j<i then w j else 0) N=mp (fun j=>if j<i+1 then w j else 0) N:=bW fun j _=>by
 by_cases e:j=i
 ·subst e;rw [if_neg (by omega),if_pos (by omega),h]
 ·by_cases hlt:j<i
  ·rw [if_pos hlt,if_pos (by omega)]
  ·rw [if_neg hlt,if_neg (by omega)]
theorem rv0 {v:List Rat} {l:List aA} {a:List Rat} {r q k:Nat} (hq:vq v l r q) (hr:r<l.length) (hk:k=off v l r+q):rv v l a k=if q=0 then rt (jA l r).j a else if q=1 then rt (jA l r).t a else if q=2 then -(rt (jA l r).t a) else 0:=by
 unfold rv;rw [hk,aCm hq hr]
theorem aMf {d:List aG} {f v a:List Rat} {l:List aA} {B:Nat} (hl:RsC l) (ha:vH B a) (hB:B≤10000000) (hn:l.length≤100) {K:Nat} (hK:13≤K):∀(t k fu:Nat),k+t=off v l l.length→t<fu→bQ K a ((wY v l l.length).map pu) ⟨d,f,v,l⟩ fu (mp (fun j=>if j<k then rv v l a j else 0) (off v l l.length)) (k:Int)=some (mp (rv v l a) (off v l l.length))
 |0,k,fu,hi,hk=>by
  obtain⟨k',rfl,_⟩:=a9 hk
  have e:k=off v l l.length:=by omega
  subst e
  simp only [bQ,sM,dF (show¬(off v l l.length:Int)<(off v l l.length:Int) by omega),bM]
  exact congrArg some (bW fun j hj=>if_pos hj)
 |t+1,k,fu,hi,hk=>by
  obtain⟨k',rfl,_⟩:=a9 hk
  have hkl:k<off v l l.length:=by omega
  have h4:=qQ (v:=v) (l:=l) l.length
  obtain⟨r,q,h1,h2,h3⟩:=sN l.length k hkl
  have hq3:=vq3 h2
  have hu:=rdU (m:=l.length) h2 h1
  rw [←h3] at hu
  have hr:=hl _ (oA h1)
  have hrv:=rv0 (a:=a) h2 h1 h3
  have ih:=aMf (d:=d) (f:=f) (v:=v) hl ha hB hn hK t (k+1) k' (by omega) (by omega)
  have bt:=xJ ha hr.1.2
  simp only [bQ,sM,dT (show(k:Int)<(off v l l.length:Int) by omega),bT,hu,oB,aA1 h1]
  have hcase:q=0∨q=1∨q=2∨q=3:=by omega
  rcases hcase with rfl|rfl|rfl|rfl
  ·have e:rv v l a k=rt (jA l r).j a:=hrv
   simp only [qT (show((0:Nat):Int)=0 from rfl),bT,uC ha (by omega) hr.1.1 hK,oB,aMc (g:=fun j=>if j<k then rv v l a j else 0) hkl,mF (i:=k) (by omega)]
   rw [←e,aOJ];exact ih
  ·have e:rv v l a k=rt (jA l r).t a:=hrv
   simp only [qF (show((1:Nat):Int)≠0 by omega),qT (show((1:Nat):Int)=1 from rfl),bM,bT,uC ha (by omega) hr.1.2 hK,oB,aMc (g:=fun j=>if j<k then rv v l a j else 0) hkl,mF (i:=k) (by omega)]
   rw [←e,aOJ];exact ih
  ·have e:rv v l a k=-(rt (jA l r).t a):=hrv
   simp only [qF (show((2:Nat):Int)≠0 by omega),qF (show((2:Nat):Int)≠1 by omega),qT (show((2:Nat):Int)=2 from rfl),bM,bT,uC ha (by omega) hr.1.2 hK,oB,aBe bt (by omega),aMc (g:=fun j=>if j<k then rv v l a j else 0) hkl,mF (i:=k) (by omega)]
   rw [←e,aOJ];exact ih
  ·have e:rv v l a k=0:=hrv
   simp only [qF (show((3:Nat):Int)≠0 by omega),qF (show((3:Nat):Int)≠1 by omega),qF (show((3:Nat):Int)≠2 by omega),bM,oB,mF (i:=k) (by omega)]
   rw [aRh e];exact ih
def adc (G:Nat→Nat→Rat) (k:Nat) (w:Nat→Rat) (t i c:Nat):Rat:=if c=k∧i<t then G i c+w i else G i c
theorem aKr {G:Nat→Nat→Rat} {N i k BG BW:Nat} {w:Rat} (hi:i<N) (hk:k<N) (hG:Bd BG (G i k)) (hw:Bd BW w) (h1:BG≤1073741824) (h2:BW≤1073741824):gA (zP N,yQ G N) (k:Int) (i:Int) w=some (zP N,yQ (iL G i (iL (G i) k (G i k+w))) N):=by
 simp only [gA,rdO hi,oB,aA0 hi,dR (f:=G i) hk,t7 hG hw h1 h2,rG (f:=G i) hk,aDQ]
theorem aDR {G:Nat→Nat→Rat} {k t N:Nat} {w:Nat→Rat}:yQ (iL (adc G k w t) t (iL (adc G k w t t) k (adc G k w t t k+w t))) N=yQ (adc G k w (t+1)) N:=tV fun i c _ _=>by
 by_cases e:i=t
 ·subst e
  rw [aX]
  by_cases h:c=k
  ·subst h
   rw [aX]
   unfold adc
   rw [if_neg (by omega),if_pos ⟨rfl,by omega⟩]
  ·rw [cF h]
   unfold adc
   rw [if_neg (fun h2=>h h2.1),if_neg (fun h2=>h h2.1)]
 ·rw [cF e]
  unfold adc
  by_cases h:c=k∧i<t
  ·rw [if_pos h,if_pos ⟨h.1,by omega⟩]
  ·rw [if_neg h,if_neg fun h2=>h ⟨h2.1,by omega⟩]
theorem aKm {G:Nat→Nat→Rat} {k t N:Nat} {w:Nat→Rat} (h0:w t=0):yQ (adc G k w t) N=yQ (adc G k w (t+1)) N:=tV fun i c _ _=>by
 unfold adc
 by_cases h:c=k∧i<t
 ·rw [if_pos h,if_pos ⟨h.1,by omega⟩]
 ·rw [if_neg h]
  by_cases h2:c=k∧i<t+1
  ·have:i=t:=by
    by_cases e:i=t
    ·exact e
    ·exact absurd ⟨h2.1,by omega⟩ h
   rw [if_pos h2,this,h0,Rat.add_zero]
  ·rw [if_neg h2]
theorem aLk {d:List aG} {f v a:List Rat} {l:List aA} {G:Nat→Nat→Rat} {c B BG:Nat} (hl:RsC l) (ha:vH B a) (hB:B≤10000000) (hn:l.length≤100) (hc:c<off v l l.length) (hG:∀i,i<off v l l.length→Bd BG (G i c)) (hBG:BG≤1073741824) {K:Nat} (hK:13≤K):∀(t k fu:Nat),k+t=off v l l.length→t<fu→bR K a (c:Int) ((wY v l l.length).map pu) ⟨d,f,v,l⟩ fu (zP (off v l l.length)) (yQ (adc G c (rv v l a) k) (off v l l.length)) (k:Int)=some (zP (off v l l.length),yQ (adc G c (rv v l a) (off v l l.length)) (off v l l.length))
 |0,k,fu,hi,hk=>by
  obtain⟨k',rfl,_⟩:=a9 hk
  have e:k=off v l l.length:=by omega
  subst e
  simp only [bR,sM,dF (show¬(off v l l.length:Int)<(off v l l.length:Int) by omega),bM]
 |t+1,k,fu,hi,hk=>by
  obtain⟨k',rfl,_⟩:=a9 hk
  have hkl:k<off v l l.length:=by omega
  have h4:=qQ (v:=v) (l:=l) l.length
  obtain⟨r,q,h1,h2,h3⟩:=sN l.length k hkl
  have hq3:=vq3 h2
  have hu:=rdU (m:=l.length) h2 h1
  rw [←h3] at hu
  have hr:=hl _ (oA h1)
  have hrv:=rv0 (a:=a) h2 h1 h3
  have ih:=aLk (d:=d) (f:=f) hl ha hB hn hc hG hBG hK t (k+1) k' (by omega) (by omega)
  have bj:=xJ ha hr.1.1
  have bt:=xJ ha hr.1.2
  have hGk:Bd BG (adc G c (rv v l a) k k c):=by unfold adc;rw [if_neg (by omega)];exact hG k hkl
  simp only [bR,sM,dT (show(k:Int)<(off v l l.length:Int) by omega),bT,hu,oB,aA1 h1]
  have hcase:q=0∨q=1∨q=2∨q=3:=by omega
  rcases hcase with rfl|rfl|rfl|rfl
  ·have e:rv v l a k=rt (jA l r).j a:=hrv
   simp only [qT (show((0:Nat):Int)=0 from rfl),bT,uC ha (by omega) hr.1.1 hK,oB,aKr hkl hc hGk bj hBG (by omega),mF (i:=k) (by omega)]
   rw [←e,aDR];exact ih
  ·have e:rv v l a k=rt (jA l r).t a:=hrv
   simp only [qF (show((1:Nat):Int)≠0 by omega),qT (show((1:Nat):Int)=1 from rfl),bM,bT,uC ha (by omega) hr.1.2 hK,oB,aKr hkl hc hGk bt hBG (by omega),mF (i:=k) (by omega)]
   rw [←e,aDR];exact ih
  ·have e:rv v l a k=-(rt (jA l r).t a):=hrv
   simp only [qF (show((2:Nat):Int)≠0 by omega),qF (show((2:Nat):Int)≠1 by omega),qT (show((2:Nat):Int)=2 from rfl),bM,bT,uC ha (by omega) hr.1.2 hK,oB,aBe bt (by omega),aKr hkl hc hGk bt.neg hBG (by omega),mF (i:=k) (by omega)]
   rw [←e,aDR];exact ih
  ·have e:rv v l a k=0:=hrv
   simp only [qF (show((3:Nat):Int)≠0 by omega),qF (show((3:Nat):Int)≠1 by omega),qF (show((3:Nat):Int)≠2 by omega),bM,oB,mF (i:=k) (by omega)]
   rw [aKm e];exact ih
theorem aQz {d:List aG} {f v a:List Rat} {l:List aA} {G:Nat→Nat→Rat} {c B BG:Nat} (hl:RsC l) (ha:vH B a) (hB:B≤10000000) (hn:l.length≤100) (hc:c<off v l l.length) (hG:∀i,i<off v l l.length→Bd BG (G i c)) (hBG:BG≤1073741824) {K:Nat} (hK:5000≤K):bY K a (c:Int) ((wY v l l.length).map pu) ⟨d,f,v,l⟩ (zP (off v l l.length)) (yQ G (off v l l.length))=some (zP (off v l l.length),yQ (adc G c (rv v l a) (off v l l.length)) (off v l l.length)):=by
 have h4:=qQ (v:=v) (l:=l) l.length
 have e:yQ (adc G c (rv v l a) 0) (off v l l.length)=yQ G (off v l l.length):=tV fun i c' _ _=>if_neg (by omega)
 have:=aLk (d:=d) (f:=f) hl ha hB hn hc hG hBG (K:=K) (by omega) (off v l l.length) 0 K (by omega) (by omega)
 rw [e] at this
 simp only [Int.natCast_zero] at this
 simp only [bY,this,oB,iP]
theorem t9 {v:List Rat} {l:List aA} {r q r' q':Nat} (h:vq v l r q) (h':vq v l r' q'):ek (off v l r+q) (off v l r'+q')=if r'=r∧q'=q then 1 else 0:=by
 unfold ek
 by_cases e:r'=r∧q'=q
 ·rw [if_pos e,e.1,e.2,aX]
 ·rw [if_neg e,cF fun h3=>e (aCK h' h h3)];rfl
theorem aIX {v:List Rat} {l:List aA} {z:Nat→Rat} {i:Nat} (h0:z (off v l i)=0) (h1:yS v (jA l i)=true→z (off v l i+1)=0∧z (off v l i+2)=0):pz v l z i=⟨0,0⟩:=by
 unfold pz
 rw [h0]
 split
 ·rfl
 ·rename_i ht
  split
  ·rw [Rat.mul_zero,Rat.mul_zero]
  ·rename_i hs
   have hst:yS v (jA l i)=true:=by
    unfold yS
    rw [decide_eq_true (show 0<(jA l i).t.length by omega),decide_eq_true (show(rt (jA l i).t v).num.sign=0 from Decidable.of_not_not hs)];rfl
   rw [(h1 hst).1,(h1 hst).2,Rat.sub_self]
theorem aGI {v:List Rat} {l:List aA} {r q i:Nat} (h:vq v l r q) (hi:i≠r):pz v l (ek (off v l r+q)) i=⟨0,0⟩:=
 aIX (by have:=t9 h (r':=i) (q':=0) (.inl rfl);rw [Nat.add_zero] at this;rw [this,if_neg fun h=>hi h.1]) fun hs=>
  ⟨by rw [t9 h (.inr ⟨hs,by omega⟩),if_neg fun h=>hi h.1],by rw [t9 h (.inr ⟨hs,by omega⟩),if_neg fun h=>hi h.1]⟩
theorem aLc {v:List Rat} {l:List aA} {r q:Nat} {x:aF} (h:vq v l r q) (hx:pz v l (ek (off v l r+q)) r=x):mp (iL p0 r x) l.length=mp (pz v l (ek (off v l r+q))) l.length:=bW fun i _=>by
 by_cases e:i=r
 ·rw [e,aX,hx]
 ·rw [cF e,aGI h e];rfl
theorem aHn {v:List Rat} {r:aA} (h:yS v r=true):r.t.length≠0∧(rt r.t v).num.sign=0:=by
 unfold yS at h
 rw [Bool.and_eq_true] at h
 have h1:=of_decide_eq_true h.1
 exact⟨by omega,of_decide_eq_true h.2⟩
def bc (v:List Rat) (l:List aA) (k:Nat) (i:Nat):Rat:=zv v l (ek k) i
theorem zv0 {v:List Rat} {l:List aA} {z:Nat→Rat} {r q k:Nat} (hq:vq v l r q) (hr:r<l.length) (hk:k=off v l r+q):zv v l z k=if q=0 then 0 else if q=1 then z (k+2) else if q=2 then z (k+1) else(jA l r).mu*z (k-3)-(z (k-2)+z (k-1)):=by
 unfold zv;rw [hk,aCm hq hr]
theorem vqs {v:List Rat} {l:List aA} {r q p:Nat} (h:vq v l r q) (hq:q≠0) (hp:p≤3):vq v l r p:=by
 rcases h with h|h
 ·exact absurd h hq
 ·exact .inr ⟨h.1,hp⟩
theorem aGw {v:List Rat} {l:List aA} {r q r' q':Nat} (h:vq v l r q) (h':vq v l r' q') (hr':r'<l.length):zv v l (ek (off v l r+q)) (off v l r'+q')=if q'=0 then 0 else if q'=1 then(if r'=r∧3=q then 1 else 0) else if q'=2 then(if r'=r∧3=q then 1 else 0) else(jA l r').mu*(if r'=r∧0=q then 1 else 0)-((if r'=r∧1=q then 1 else 0)+(if r'=r∧2=q then 1 else 0)):=by
 rw [zv0 h' hr' rfl]
 have hq3:=vq3 h'
 have hcase:q'=0∨q'=1∨q'=2∨q'=3:=by omega
 rcases hcase with rfl|rfl|rfl|rfl
 ·rfl
 ·show ek _ (off v l r'+3)=_
  rw [t9 h (vqs h' (by omega) (by omega))];rfl
 ·show ek _ (off v l r'+3)=_
  rw [t9 h (vqs h' (by omega) (by omega))];rfl
 ·show(jA l r').mu*ek _ (off v l r'+0)-(ek _ (off v l r'+1)+ek _ (off v l r'+2))=_
  rw [t9 h (vqs h' (by omega) (by omega)),t9 h (vqs h' (by omega) (by omega)),t9 h (vqs h' (by omega) (by omega))];rfl
theorem aCY {v:List Rat} {l:List aA} {g:Nat→Rat} {x:Rat} {r q r' q':Nat} (h:vq v l r q) (h':vq v l r' q'):iL g (off v l r+q) x (off v l r'+q')=if r'=r∧q'=q then x else g (off v l r'+q'):=by
 by_cases e:r'=r∧q'=q
 ·rw [if_pos e,e.1,e.2,aX]
 ·rw [if_neg e,cF fun h3=>e (aCK h' h h3)]
theorem aRq {v:List Rat} {l:List aA} {r i:Nat} (hs:yS v (jA l r)=true) (hi:i<off v l l.length):bc v l (off v l r) i=iL z0 (off v l r+3) (jA l r).mu i:=by
 obtain⟨r',q',h1,h2,rfl⟩:=sN l.length i hi
 have hq3:=vq3 h2
 have:=aGw (v:=v) (l:=l) (r:=r) (q:=0) (.inl rfl) h2 h1
 rw [Nat.add_zero] at this
 unfold bc
 rw [this,aCY (.inr ⟨hs,by omega⟩) h2]
 have hcase:q'=0∨q'=1∨q'=2∨q'=3:=by omega
 rcases hcase with rfl|rfl|rfl|rfl
 ·simp [z0]
 ·simp [z0]
 ·simp [z0]
 ·by_cases e:r'=r
  ·subst e;simp [Rat.sub_eq_add_neg,Rat.add_zero,Rat.zero_add,Rat.neg_zero,Rat.mul_zero,Rat.mul_one]
  ·simp [e,z0,Rat.sub_eq_add_neg,Rat.add_zero,Rat.zero_add,Rat.neg_zero,Rat.mul_zero,Rat.mul_one]
theorem aPw {v:List Rat} {l:List aA} {r i:Nat} (hs:yS v (jA l r)=false) (hi:i<off v l l.length):bc v l (off v l r) i=0:=by
 obtain⟨r',q',h1,h2,rfl⟩:=sN l.length i hi
 have hq3:=vq3 h2
 have:=aGw (v:=v) (l:=l) (r:=r) (q:=0) (.inl rfl) h2 h1
 rw [Nat.add_zero] at this
 unfold bc
 rw [this]
 have hcase:q'=0∨q'=1∨q'=2∨q'=3:=by omega
 rcases hcase with rfl|rfl|rfl|rfl
 ·simp
 ·simp
 ·simp
 ·have e:r'≠r:=fun e=>by
   rcases h2 with h|h
   ·omega
   ·rw [e,hs] at h;exact absurd h.1 (by decide)
  simp [e,Rat.sub_eq_add_neg,Rat.add_zero,Rat.zero_add,Rat.neg_zero,Rat.mul_zero,Rat.mul_one]
theorem aQo {v:List Rat} {l:List aA} {r i:Nat} (h:vq v l r 1) (hi:i<off v l l.length):bc v l (off v l r+1) i=iL z0 (off v l r+3) (-1) i:=by
 obtain⟨r',q',h1,h2,rfl⟩:=sN l.length i hi
 have hq3:=vq3 h2
 unfold bc
 rw [aGw h h2 h1,aCY (vqs h (by omega) (by omega)) h2]
 have hcase:q'=0∨q'=1∨q'=2∨q'=3:=by omega
 rcases hcase with rfl|rfl|rfl|rfl
 ·simp [z0]
 ·simp [z0]
 ·simp [z0]
 ·by_cases e:r'=r
  ·subst e;simp [Rat.sub_eq_add_neg,Rat.add_zero,Rat.zero_add,Rat.neg_zero,Rat.mul_zero,Rat.mul_one]
  ·simp [e,z0,Rat.sub_eq_add_neg,Rat.add_zero,Rat.zero_add,Rat.neg_zero,Rat.mul_zero,Rat.mul_one]
theorem aQ5 {v:List Rat} {l:List aA} {r i:Nat} (h:vq v l r 2) (hi:i<off v l l.length):bc v l (off v l r+2) i=iL z0 (off v l r+3) (-1) i:=by
 obtain⟨r',q',h1,h2,rfl⟩:=sN l.length i hi
 have hq3:=vq3 h2
 unfold bc
 rw [aGw h h2 h1,aCY (vqs h (by omega) (by omega)) h2]
 have hcase:q'=0∨q'=1∨q'=2∨q'=3:=by omega
 rcases hcase with rfl|rfl|rfl|rfl
 ·simp [z0]
 ·simp [z0]
 ·simp [z0]
 ·by_cases e:r'=r
  ·subst e;simp [Rat.sub_eq_add_neg,Rat.add_zero,Rat.zero_add,Rat.neg_zero,Rat.mul_zero,Rat.mul_one]
  ·simp [e,z0,Rat.sub_eq_add_neg,Rat.add_zero,Rat.zero_add,Rat.neg_zero,Rat.mul_zero,Rat.mul_one]
theorem aRs {v:List Rat} {l:List aA} {r i:Nat} (h:vq v l r 3) (hi:i<off v l l.length):bc v l (off v l r+3) i=iL (iL z0 (off v l r+1) 1) (off v l r+2) 1 i:=by
 obtain⟨r',q',h1,h2,rfl⟩:=sN l.length i hi
 have hq3:=vq3 h2
 unfold bc
 rw [aGw h h2 h1,aCY (vqs h (by omega) (by omega)) h2,aCY (vqs h (by omega) (by omega)) h2]
 have hcase:q'=0∨q'=1∨q'=2∨q'=3:=by omega
 rcases hcase with rfl|rfl|rfl|rfl
 ·simp [z0]
 ·by_cases e:r'=r<;>simp [e,z0]
 ·by_cases e:r'=r<;>simp [e,z0]
 ·simp [z0,Rat.sub_eq_add_neg,Rat.add_zero,Rat.zero_add,Rat.neg_zero,Rat.mul_zero,Rat.mul_one]
end Go.Proofs.YtcjdedkdoagifaaGreat
